/- Walks: irreducible polynomials. Walks: valid fields. -/
import Derived.Test.YtcenabaklokhhaaFld1
import Derived.Test.YtcenabaklokhhaaCF
import Derived.Test.YtcenabaklokhhaaFx
import Derived.Test.YtcenabaklokhhaaIn
namespace Go.Proofs.Ytcenabaklokhhaa
set_option linter.unusedSimpArgs false
set_option linter.unusedVariables false
open Go.RowKit


theorem isZero1_c (x : Int) (w : World) : Calls Try.prog 240 #[.int .i64 x] w (GivesB w (x != 0)) := by
  go_enter Try.func240, Try.ntmps240
  go_wp2_with fail
  go_ret
  exact ⟨rfl, St.refl w⟩
theorem zeroL_any (xs : List Int) : zeroL xs = !anyP (fun x => x != 0) xs := by
  unfold zeroL anyP
  induction xs with
  | nil => rfl
  | cons x r ih =>
    rw [List.all_cons, List.any_cons, ih]
    by_cases h : x = 0
    · subst h; simp
    · have h1 : (x == 0) = false := eq_f h
      have h2 : (x != 0) = true := ne_t h
      rw [h1, h2]; simp
theorem isZero_c (v : Value) (xs : List Int) (w : World) (hv : RdI w v xs) : Calls Try.prog 205 #[v] w (GivesB w (zeroL xs)) := by
  have hcf := callFunc_go Try.func240 (by kernel_rfl) (by kernel_rfl)
  have hcall := Lib.hid (ContainsFunc_c 240 #[] (fun x => x != 0) v xs w hv hcf (fun x W _ _ => isZero1_c x W))
  have he := Lib.hid (zeroL_any xs)
  clear hcf
  go_enter Try.func205, Try.ntmps205
  go_wp2_with fail
  refine hcall.out.mono ?_
  rintro e w1 ⟨rfl, h1⟩
  cases hq : anyP (fun x => x != 0) xs
  · have Hq := Lib.hid hq; clear hq
    go_wp2_with fail
    go_ret
    exact ⟨ret_bool (by rw [he.out, Hq.out]; rfl), h1⟩
  · have Hq := Lib.hid hq; clear hq
    go_wp2_with fail
    go_ret
    exact ⟨ret_bool (by rw [he.out, Hq.out]; rfl), h1⟩

/-- the polynomial that is tried -/
def tryP (p : Int) (d n : Nat) : List Int := lows p d n ++ [1]
theorem tryP_len (p : Int) (d n : Nat) : (tryP p d n).length = d + 1 := by simp [tryP, lows_len]
theorem tryP_in {p : Int} (hp : 2 ≤ p) (d n : Nat) : In p (tryP p d n) := by
  intro x hx
  rcases List.mem_append.1 hx with h | h
  · rw [lows_dgt] at h; exact dgt_in (by omega) _ _ x h
  · simp at h; subst h; omega
theorem irrB_iff {p : Int} {xs : List Int} : irrB p xs = true ↔ ∀ d n : Nat, 1 ≤ d → 2 * d ≤ xs.length - 1 → n < (p ^ d).toNat → zeroL (remL p xs (tryP p d n)) = false := by
  simp only [irrB, List.all_eq_true, List.mem_range, Bool.not_eq_true', tryP, lows_dgt]
  constructor
  · intro h d n hd hl hn
    have := h (d - 1) (by omega) n (by rw [show d - 1 + 1 = d by omega]; exact hn)
    rwa [show d - 1 + 1 = d by omega] at this
  · intro h i hi n hn
    exact h (i + 1) n (by omega) (by omega) hn
theorem irrB_no {p : Int} {xs : List Int} {d n : Nat} (hd : 1 ≤ d) (hl : 2 * d ≤ xs.length - 1) (hn : n < (p ^ d).toNat) (h : zeroL (remL p xs (tryP p d n)) = true) : irrB p xs = false := by
  cases hq : irrB p xs with
  | false => rfl
  | true => have := irrB_iff.1 hq d n hd hl hn; rw [h] at this; cases this
theorem remL_len {p : Int} {xs ys : List Int} : (remL p xs ys).length ≤ ys.length - 1 := by simp [remL]; omega
theorem pow_mono {p : Int} (hp : 1 ≤ p) {a b : Nat} (h : a ≤ b) : p ^ a ≤ p ^ b := by
  obtain ⟨k, rfl⟩ := Nat.exists_eq_add_of_le h
  rw [Int.pow_add]
  have h1 : ∀ m : Nat, 1 ≤ p ^ m := by
    intro m
    induction m with
    | zero => simp
    | succ m ih => rw [Int.pow_succ]; have := Int.mul_le_mul ih hp (by omega) (by omega); omega
  have := Int.mul_le_mul_of_nonneg_left (h1 k) (show 0 ≤ p ^ a by have := h1 a; omega)
  omega

set_option maxHeartbeats 4000000 in
set_option maxRecDepth 100000 in
theorem irreducible_c (v : Value) (xs : List Int) (p : Int) (w : World) (hv : RdI w v xs) (p2 : 2 ≤ p) (p64 : p ≤ 64) (hx : In p xs) (hx1 : 1 ≤ xs.length) (hq : p ^ (xs.length - 1) ≤ 64) :
    Calls Try.prog 118 #[v, .int .i64 p] w (GivesB w (irrB p xs)) := by
  obtain ⟨D, hD⟩ : ∃ D, xs.length = D + 1 := ⟨xs.length - 1, by omega⟩
  have hD6 : D ≤ 6 := pow_small p2 (by rw [hD] at hq; exact hq)
  have HD := Lib.hid hD
  have Hx := Lib.hid hx
  have Hq := Lib.hid (show p ^ D ≤ 64 by rw [hD] at hq; exact hq)
  have hsz := Lib.hid (size_c v xs w hv)
  rw [hD] at hsz
  clear hx hq hx1 hD
  go_enter Try.func118, Try.ntmps118
  go_wp2_with fail
  refine hsz.out.mono ?_
  rintro e w1 ⟨rfl, rfl⟩
  go_wp2_with fail
  go_loopw [6, 7] (fun dd _ wr => ∃ d : Nat, 1 ≤ d ∧ dd = .int .i64 d ∧ d ≤ 10 ∧ Hid (∀ d' n : Nat, 1 ≤ d' → d' < d → n < (p ^ d').toNat → zeroL (remL p xs (tryP p d' n)) = false) ∧ St w.heap.size w wr []) (fun dd _ _ => 20 - (intOf dd).toNat)
  case atStart => exact ⟨1, by omega, rfl, by omega, fun d' n h1 h2 => by omega, St.refl _⟩
  case round =>
    obtain ⟨d, d1, rfl, d10, hI, hS⟩ := hrel
    by_cases hle : 2 * (d : Int) ≤ D
    · have hpd : p ^ d ≤ 64 := Int.le_trans (pow_mono (by omega) (show d ≤ D by omega)) Hq.out
      have hpd1 := (pow64 (p := p) (by omega) p64 d).1
      obtain ⟨K, hK⟩ := Int.eq_ofNat_of_zero_le (show 0 ≤ p ^ d by omega)
      have hK2 : K ≤ 64 := by omega
      have HK := Lib.hid hK
      have hpow : ∀ W, Hid (Calls Try.prog 135 #[.int .i64 p, .int .i64 d, .int .i64 64] W fun r w' => r = .returned (.int .i64 K) ∧ W = w') := fun W => by
        have := powerUpTo_c p d 64 W (by omega) (by omega) (by omega) (by omega) (by omega) (by omega)
        rw [Int.toNat_natCast, pu_le (by omega) d 1 (by omega) (by rw [Int.one_mul]; exact hpd), Int.one_mul, hK] at this
        exact this
      clear hpd hpd1 hK
      go_wp2_with fail
      go_loopw [7] (fun nn wx => ∃ n : Nat, n ≤ K ∧ nn = .int .i64 n ∧ Hid (∀ m : Nat, m < n → zeroL (remL p xs (tryP p d m)) = false) ∧ St w.heap.size w wx []) (fun nn _ => K - (intOf nn).toNat)
      case atStart => exact ⟨0, by omega, rfl, fun m h => by omega, hS⟩
      case round =>
        obtain ⟨n, hn, rfl, hJ, hS⟩ := hrel
        by_cases hlt : n < K
        · have hdg := fun W => Lib.hid (digitsOf_c n p d W (by omega) (by omega) p2 (by omega) (by omega))
          go_wp2_with fail
          refine (hpow _).out.mono ?_
          rintro e w2 ⟨rfl, rfl⟩
          go_wp2_with fail
          refine (hdg _).out.mono ?_
          rintro e w2 ⟨v2, rfl, h2⟩
          have hS2 := hS.call h2
          simp only [List.nil_append] at hS2
          go_wp2_with (at_builtin; refine appI hS2 0 rfl (by rw [lows_len]; omega) rfl _ _ rfl rfl _ rfl ?_; intro v3 w3 hS3)
          have hr3 : RdI w3 v3 (tryP p d n) := hS3.rdI 0 rfl
          have hrem := Lib.hid (remainder_c v v3 xs (tryP p d n) p w3 (hS3.oldI hv) hr3 p2 p64 Hx.out (tryP_in p2 d n) (by rw [HD.out]; omega) (by rw [tryP_len]; omega) (by rw [tryP_len]; omega))
          clear hr3
          refine hrem.out.mono ?_
          rintro e w4 ⟨v4, rfl, h4⟩
          have hS4 := hS3.call0 h4.out
          have hr4 := h4.rdI 0 rfl
          clear hS2 hS3 hS
          go_wp2_with fail
          refine (isZero_c v4 _ w4 hr4).mono ?_
          rintro e w5 ⟨rfl, h5⟩
          have hS5 := hS4.call0 h5
          cases hz : zeroL (remL p xs (tryP p d n))
          · have Hz := Lib.hid hz; clear hz
            go_wp2_with fail
            go_roundw
            case rel => exact ⟨n + 1, by omega, by go_num, fun m hm => by
              by_cases e : m = n
              · subst e; exact Hz.out
              · exact hJ.out m (by omega), hS5.out⟩
            case measure => simp [intOf]; omega
          · have Hz := Lib.hid hz; clear hz
            go_wp2_with fail
            go_ret
            exact ⟨ret_bool (irrB_no d1 (by rw [HD.out]; omega) (by rw [HK.out]; omega) Hz.out).symm, hS5.out⟩
        · obtain rfl : n = K := by omega
          go_wp2_with fail
          refine (hpow _).out.mono ?_
          rintro e w2 ⟨rfl, rfl⟩
          go_wp2_with fail
          go_roundw
          case rel => exact ⟨d + 1, by omega, by go_num, by omega, fun d' m h1 h2 hm => by
            by_cases e : d' = d
            · subst e; rw [HK.out, Int.toNat_natCast] at hm; exact hJ.out m hm
            · exact hI.out d' m h1 (by omega) hm, hS⟩
          case measure => simp [intOf]; omega
    · go_wp2_with fail
      go_ret
      exact ⟨ret_bool (irrB_iff.2 fun d' n h1 h2 h3 => hI.out d' n h1 (by rw [HD.out] at h2; omega) h3).symm, hS⟩

set_option maxHeartbeats 4000000 in
set_option maxRecDepth 100000 in
theorem l03Irreducible_c (v : Value) (xs : List Int) (p : Int) (w : World) (hv : RdI w v xs) (p2 : 2 ≤ p) (p64 : p ≤ 64) (hx : In p xs) (hx1 : 1 ≤ xs.length) (hq : p ^ (xs.length - 1) ≤ 64) :
    Calls Try.prog 198 #[v, .int .i64 p] w (GivesB w (irrB p xs)) := by
  have hln := hv.len
  obtain ⟨D, hD⟩ : ∃ D, xs.length = D + 1 := ⟨xs.length - 1, by omega⟩
  have hD6 : D ≤ 6 := pow_small p2 (by rw [hD] at hq; exact hq)
  have HD := Lib.hid hD
  have Hx := Lib.hid hx
  have Hq := Lib.hid (show p ^ D ≤ 64 by rw [hD] at hq; exact hq)
  rw [hD] at hln
  clear hx hq hx1 hD
  go_enter Try.func198, Try.ntmps198
  go_wp2_with fail
  go_loopw [6, 7, 8, 9] (fun dd _ _ _ wr => ∃ d : Nat, 1 ≤ d ∧ dd = .int .i64 d ∧ d ≤ 10 ∧ Hid (∀ d' n : Nat, 1 ≤ d' → d' < d → n < (p ^ d').toNat → zeroL (remL p xs (tryP p d' n)) = false) ∧ St w.heap.size w wr []) (fun dd _ _ _ _ => 20 - (intOf dd).toNat)
  case atStart => exact ⟨1, by omega, rfl, by omega, fun d' n h1 h2 => by omega, St.refl _⟩
  case round =>
    obtain ⟨d, d1, rfl, d10, hI, hS⟩ := hrel
    by_cases hle : 2 * (d : Int) ≤ D
    · have hpd : p ^ d ≤ 64 := Int.le_trans (pow_mono (by omega) (show d ≤ D by omega)) Hq.out
      have hpd1 := (pow64 (p := p) (by omega) p64 d).1
      obtain ⟨K, hK⟩ := Int.eq_ofNat_of_zero_le (show 0 ≤ p ^ d by omega)
      have hK2 : K ≤ 64 := by omega
      have HK := Lib.hid hK
      have hpow : ∀ W, Hid (Calls Try.prog 199 #[.int .i64 p, .int .i64 d] W fun r w' => r = .returned (.int .i64 K) ∧ W = w') := fun W => by
        have := l03Power_c p d W (by omega) p64 (by omega)
        rw [hK] at this
        exact this
      clear hpd hpd1 hK
      go_wp2_with fail
      go_loopw [7, 8, 9] (fun nn _ _ wx => ∃ n : Nat, n ≤ K ∧ nn = .int .i64 n ∧ Hid (∀ m : Nat, m < n → zeroL (remL p xs (tryP p d m)) = false) ∧ St w.heap.size w wx []) (fun nn _ _ _ => K - (intOf nn).toNat)
      case atStart => exact ⟨0, by omega, rfl, fun m h => by omega, hS⟩
      case round =>
        obtain ⟨n, hn, rfl, hJ, hS⟩ := hrel
        by_cases hlt : n < K
        · have hdg := fun W => Lib.hid (l03Digits_c n p d W (by omega) (by omega) p2 (by omega) (by omega))
          go_wp2_with fail
          refine (hpow _).out.mono ?_
          rintro e w2 ⟨rfl, rfl⟩
          go_wp2_with fail
          refine (hdg _).out.mono ?_
          rintro e w2 ⟨v2, rfl, h2⟩
          have hS2 := hS.call h2
          simp only [List.nil_append] at hS2
          go_wp2_with (at_builtin; refine appI hS2 0 rfl (by rw [lows_len]; omega) rfl _ _ rfl rfl _ rfl ?_; intro v3 w3 hS3)
          have hr3 : RdI w3 v3 (tryP p d n) := hS3.rdI 0 rfl
          have hrem := Lib.hid (l03Rest_c v v3 xs (tryP p d n) p w3 (hS3.oldI hv) hr3 p2 p64 Hx.out (tryP_in p2 d n) (by rw [HD.out]; omega) (by rw [tryP_len]; omega) (by rw [tryP_len]; omega))
          clear hr3
          refine hrem.out.mono ?_
          rintro e w4 ⟨v4, rfl, h4⟩
          have hS4 := hS3.call0 h4.out
          have hr4 := h4.rdI 0 rfl
          have hin4 : In p (remL p xs (tryP p d n)) := In.remL (by omega) Hx.out
          have hlen4 : p ^ (remL p xs (tryP p d n)).length ≤ 1099511627776 := by
            have h9 := remL_len (p := p) (xs := xs) (ys := tryP p d n)
            rw [tryP_len] at h9
            have := pow_mono (p := p) (by omega) (show (remL p xs (tryP p d n)).length ≤ d by omega)
            rw [HK.out] at this; omega
          have hnum := Lib.hid (l03Number_c v4 _ p w4 hr4 (by omega) p64 hin4 hlen4)
          have hzz := Lib.hid (numL_zero (base := p) (by omega) hin4)
          clear hS2 hS3 hS hin4 hlen4
          go_wp2_with fail
          refine hnum.out.mono ?_
          rintro e w5 ⟨rfl, rfl⟩
          by_cases hz : numL p (remL p xs (tryP p d n)) = 0
          · have f0 := eq_t hz
            have Hz := Lib.hid (hzz.out.1 hz); clear hz
            go_wp2_with fail
            go_ret
            exact ⟨ret_bool (irrB_no d1 (by rw [HD.out]; omega) (by rw [HK.out]; omega) Hz.out).symm, hS4.out⟩
          · have f0 := eq_f hz
            have Hz : Hid (zeroL (remL p xs (tryP p d n)) = false) := by
              unfold Hid
              cases h9 : zeroL (remL p xs (tryP p d n)) with
              | false => rfl
              | true => exact absurd (hzz.out.2 h9) hz
            clear hz
            go_wp2_with fail
            go_roundw
            case rel => exact ⟨n + 1, by omega, by go_num, fun m hm => by
              by_cases e : m = n
              · subst e; exact Hz.out
              · exact hJ.out m (by omega), hS4.out⟩
            case measure => simp [intOf]; omega
        · obtain rfl : n = K := by omega
          go_wp2_with fail
          refine (hpow _).out.mono ?_
          rintro e w2 ⟨rfl, rfl⟩
          go_wp2_with fail
          go_roundw
          case rel => exact ⟨d + 1, by omega, by go_num, by omega, fun d' m h1 h2 hm => by
            by_cases e : d' = d
            · subst e; rw [HK.out, Int.toNat_natCast] at hm; exact hJ.out m hm
            · exact hI.out d' m h1 (by omega) hm, hS⟩
          case measure => simp [intOf]; omega
    · go_wp2_with fail
      go_ret
      exact ⟨ret_bool (irrB_iff.2 fun d' n h1 h2 h3 => hI.out d' n h1 (by rw [HD.out] at h2; omega) h3).symm, hS⟩


theorem lfac_no {q f d : Nat} (h : q % d ≠ 0) : lfac q (f + 1) d = lfac q f (d + 1) := by rw [lfac, if_neg h]
theorem lfac_yes {q f d : Nat} (h : q % d = 0) : lfac q f d = d := by
  cases f with
  | zero => rfl
  | succ f => rw [lfac, if_pos h]

set_option maxHeartbeats 2000000 in
set_option maxRecDepth 100000 in
theorem l03Split_no (q : Int) (w : World) (h : inB q 2 64 = false) : Calls Try.prog 206 #[.int .i64 q] w fun e w' => e = .returned (.tuple #[.int .i64 0, .int .i64 0]) ∧ w = w' := by
  go_enter Try.func206, Try.ntmps206
  go_wp2_with (go_at_call 165; refine (l00In_c _ _ _ _).mono ?_; rintro e w3 ⟨rfl, rfl⟩)
  go_ret2
  exact ⟨rfl, rfl⟩
set_option maxHeartbeats 2000000 in
set_option maxRecDepth 100000 in
theorem l03Split_c (q : Nat) (w : World) (q2 : 2 ≤ q) (q64 : q ≤ 64) : Calls Try.prog 206 #[.int .i64 q] w fun e w' => e = .returned (.tuple #[.int .i64 ((spl q).1 : Nat), .int .i64 ((spl q).2 : Nat)]) ∧ w = w' := by
  have hin : inB (q : Int) 2 64 = true := inB_true ⟨by omega, by omega⟩
  go_enter Try.func206, Try.ntmps206
  go_wp2_with (go_at_call 165; refine (l00In_c _ _ _ _).mono ?_; rintro e w3 ⟨rfl, rfl⟩)
  clear hin
  go_loop [4] (fun pp => ∃ k : Nat, 2 ≤ k ∧ k ≤ q ∧ pp = .int .i64 k ∧ Hid (lfac q 64 2 = lfac q (66 - k) k)) (fun pp => q - (intOf pp).toNat)
  case atStart => exact ⟨2, by omega, by omega, rfl, rfl⟩
  case round =>
    obtain ⟨k, k2, kq, rfl, hI⟩ := hrel
    have fk : ((k : Int) == 0) = false := eq_f (by omega)
    have hmn : (q : Int) % k = ((q % k : Nat) : Int) := by simp
    by_cases h : q % k = 0
    · have f0 : ((q : Int) % k != 0) = false := ne_f (by rw [hmn, h]; rfl)
      have HL := Lib.hid (show lfac q 64 2 = k by rw [hI.out, lfac_yes h])
      have H := Lib.hid h
      clear h hmn
      go_wp2_with fail
      clear f0
      go_loop [5, 6] (fun cc nn => ∃ n c f : Nat, n ≤ f ∧ n ≤ q ∧ 1 ≤ n ∧ c + n ≤ 200 ∧ cc = .int .i64 c ∧ nn = .int .i64 n ∧ Hid (plog k 64 q 0 = plog k f n c)) (fun _ nn => (intOf nn).toNat)
      case atStart => exact ⟨q, 0, 64, by omega, by omega, by omega, by omega, rfl, rfl, rfl⟩
      case round =>
        obtain ⟨n, c, f, nf, nq, n1, c1, rfl, rfl, hJ⟩ := hrel
        obtain ⟨f, rfl⟩ : ∃ g, f = g + 1 := ⟨f - 1, by omega⟩
        have hmn : (n : Int) % k = ((n % k : Nat) : Int) := by simp
        have hdn : (n : Int) / k = ((n / k : Nat) : Int) := by simp
        by_cases hn : 1 < n
        · by_cases h : n % k = 0
          · have f0 : ((n : Int) % k != 0) = false := ne_f (by rw [hmn, h]; rfl)
            have HP := Lib.hid (show plog k (f + 1) n c = plog k f (n / k) (c + 1) by rw [plog, if_pos hn, if_pos h])
            have hd1 : n / k < n := Nat.div_lt_self (by omega) (by omega)
            have hd2 : 1 ≤ n / k := by
              apply Nat.div_pos _ (by omega)
              exact Nat.le_of_dvd (by omega) (Nat.dvd_of_mod_eq_zero h)
            have q0 : 0 ≤ (n : Int) / k := by omega
            have Hdn := Lib.hid hdn
            have q1 : (n : Int) / k ≤ 64 := by omega
            clear h hmn hdn
            go_wp2_with fail
            go_round
            case rel => exact ⟨n / k, c + 1, f, by omega, by omega, hd2, by omega, by go_num, by rw [Hdn.out], by unfold Hid; rw [hJ.out, HP.out]⟩
            case measure => rw [Hdn.out]; simp [intOf]; omega
          · have f0 : ((n : Int) % k != 0) = true := ne_t (by rw [hmn]; omega)
            have HP := Lib.hid (show plog k (f + 1) n c = none by rw [plog, if_pos hn, if_neg h])
            clear h hmn hdn
            go_wp2_with fail
            go_ret2
            exact ⟨ret_2i (by rw [spl, HL.out, hJ.out, HP.out]; rfl) (by rw [spl, HL.out, hJ.out, HP.out]; rfl), rfl⟩
        · have HP := Lib.hid (show plog k (f + 1) n c = some c by rw [plog, if_neg hn])
          clear hmn hdn
          go_wp2_with fail
          go_ret2
          exact ⟨ret_2i (by rw [spl, HL.out, hJ.out, HP.out]) (by rw [spl, HL.out, hJ.out, HP.out]), rfl⟩
    · have f0 : ((q : Int) % k != 0) = true := ne_t (by rw [hmn]; omega)
      have hlt : k < q := by
        apply Nat.lt_of_le_of_ne kq; intro e; subst e; exact h (Nat.mod_self _)
      have HL := Lib.hid (show lfac q 64 2 = lfac q (66 - (k + 1)) (k + 1) by rw [hI.out, show 66 - k = (66 - (k + 1)) + 1 by omega, lfac_no h])
      clear h hmn
      go_wp2_with fail
      go_round
      case rel => exact ⟨k + 1, by omega, by omega, by go_num, HL⟩
      case measure => simp [intOf]; omega

end Go.Proofs.Ytcenabaklokhhaa
