/- Walks: powers, digits, numbers, remainders of polynomials. Walks: remainders of the reference, irreducible polynomials. -/
import Derived.Test.YtcenabaklokhhaaPFok
import Derived.Test.YtcenabaklokhhaaDig
import Derived.Test.YtcenabaklokhhaaPow
import Derived.Test.YtcenabaklokhhaaCopy
import Derived.Test.YtcenabaklokhhaaNum
namespace Go.Proofs.Ytcenabaklokhhaa
set_option linter.unusedSimpArgs false
set_option linter.unusedVariables false
open Go.RowKit


theorem cf_nth (xs : List Int) (j : Nat) : cf xs j = nth xs j := rfl
theorem dv_succ' (base : Int) : ∀ (j : Nat) (n : Int), dv base (j + 1) n = dv base j (n / base)
  | 0, _ => rfl
  | j + 1, n => by
    show dv base (j + 1) n / base = dv base j (n / base) / base
    rw [dv_succ' base j n]
theorem lows_dgt (base : Int) : ∀ (m : Nat) (n : Int), lows base m n = dgt base m n
  | 0, _ => rfl
  | m + 1, n => by
    have ih := lows_dgt base m (n / base)
    unfold lows at ih ⊢
    rw [List.range_succ_eq_map, List.map_cons, List.map_map, dgt, ← ih]
    congr 1
    apply List.map_congr_left
    intro j _
    show dv base (j + 1) n % base = dv base j (n / base) % base
    rw [dv_succ']

theorem pow64 {p : Int} (h1 : 1 ≤ p) (h2 : p ≤ 64) : ∀ m : Nat, 1 ≤ p ^ m ∧ p ^ m ≤ 64 ^ m
  | 0 => by simp
  | m + 1 => by
    have := pow64 h1 h2 m
    rw [Int.pow_succ, Int.pow_succ]
    have a := Int.mul_le_mul this.2 h2 (by omega) (show (0 : Int) ≤ 64 ^ m by omega)
    have b := Int.mul_le_mul this.1 h1 (by omega) (by omega)
    omega
theorem pow64m {p : Int} (h1 : 1 ≤ p) (h2 : p ≤ 64) {m : Nat} (h : m ≤ 6) : p ^ m ≤ 68719476736 := by
  have h3 := (pow64 h1 h2 m).2
  have h4 : (64 : Int) ^ m ≤ 64 ^ 6 := by
    have : m = 0 ∨ m = 1 ∨ m = 2 ∨ m = 3 ∨ m = 4 ∨ m = 5 ∨ m = 6 := by omega
    rcases this with h | h | h | h | h | h | h <;> subst h <;> decide
  have : (64 : Int) ^ 6 = 68719476736 := by decide
  omega

set_option maxHeartbeats 1000000 in
set_option maxRecDepth 100000 in
theorem l03Power_c (p : Int) (k : Nat) (w : World) (h1 : 1 ≤ p) (h2 : p ≤ 64) (hk : k ≤ 6) : Calls Try.prog 199 #[.int .i64 p, .int .i64 k] w fun e w' => e = .returned (.int .i64 (p ^ k)) ∧ w = w' := by
  go_enter Try.func199, Try.ntmps199
  go_wp2_with fail
  go_loop [1, 5] (fun m o => ∃ (j : Nat) (x : Int), j ≤ k ∧ m = .int .i64 ((k - j : Nat) : Int) ∧ o = .int .i64 x ∧ 1 ≤ x ∧ x ≤ 68719476736 ∧ Hid (x = p ^ j)) (fun m _ => (intOf m).toNat)
  case atStart => exact ⟨0, 1, by omega, rfl, rfl, by omega, by omega, by simp [Hid]⟩
  case round =>
    obtain ⟨j, x, hj, rfl, rfl, x0, x1, hI⟩ := hrel
    by_cases hlt : j < k
    · have hb := pow64m h1 h2 (m := j + 1) (by omega)
      have hb0 := (pow64 h1 h2 (j + 1)).1
      have hs : p ^ (j + 1) = x * p := by rw [Int.pow_succ, hI.out]
      rw [hs] at hb hb0
      have Hs := Lib.hid hs; clear hs
      have hm : 0 < k - j := by omega
      go_wp2_with fail
      go_round
      case rel => exact ⟨j + 1, x * p, by omega, by congr 1; omega, rfl, hb0, hb, Hs.out.symm⟩
      case measure => simp [intOf]; omega
    · obtain rfl : j = k := by omega
      have hz : j - j = 0 := by omega
      have Hz := Lib.hid hz; clear hz
      rw [Hz.out]
      go_wp2_with fail
      go_ret
      exact ⟨ret_i64 hI.out, rfl⟩

set_option maxHeartbeats 1000000 in
set_option maxRecDepth 100000 in
theorem l03Digits_c (n base : Int) (m : Nat) (w : World) (hn : 0 ≤ n) (hn2 : n ≤ 4611686018427387904) (hb : 2 ≤ base) (hb2 : base ≤ 1073741824) (hm : m ≤ 4096) :
    Calls Try.prog 194 #[.int .i64 n, .int .i64 base, .int .i64 m] w (MakesI w (lows base m n)) := by
  have hS1 := (St.refl w).new 2 #[] (by simp)
  go_enter Try.func194, Try.ntmps194
  go_wp2_with fail
  go_loopw [0, 2, 7] (fun nn mm o wr => ∃ k : Nat, k ≤ m ∧ mm = .int .i64 ((m - k : Nat) : Int) ∧ nn = .int .i64 (dv base k n) ∧ St w.heap.size w wr [row 2 o (iv ((lows base m n).take k))]) (fun _ mm _ _ => (intOf mm).toNat)
  case atStart => exact ⟨0, by omega, rfl, rfl, hS1⟩
  case round =>
    obtain ⟨k, hk, rfl, rfl, hS⟩ := hrel
    by_cases hlt : k < m
    · have hd := dv_le hb hn k
      have hd2 := dv_le hb hn (k + 1)
      obtain ⟨q, hq⟩ : ∃ q, q = dv base k n := ⟨_, rfl⟩
      have hq2 : dv base (k + 1) n = q / base := by rw [hq]; rfl
      have Hq := Lib.hid hq2
      rw [← hq] at hd ⊢
      rw [hq2] at hd2
      have Hqq := Lib.hid hq
      clear hq hq2
      have hmod := Int.emod_nonneg q (show base ≠ 0 by omega)
      have hmod2 := Int.emod_lt_of_pos q (show 0 < base by omega)
      have fb : (base == 0) = false := eq_f (by omega)
      have hm0 : 0 < m - k := by omega
      go_wp2_with (at_builtin; refine appI hS 0 rfl (by simp [lows_len]; omega) rfl _ _ rfl rfl _ rfl ?_; intro v3 w3 hS3)
      go_roundw
      case rel =>
        refine ⟨k + 1, by omega, by congr 1; omega, by rw [Hq.out], ?_⟩
        have e : (lows base m n).take k ++ [q % base] = (lows base m n).take (k + 1) := by
          rw [take_nth (by rw [lows_len]; exact hlt)]
          have : nth (lows base m n) k = q % base := by simp [nth, lows, hlt, Hqq.out]
          rw [this]
        rw [← e]; exact hS3
      case measure => simp [intOf]; omega
    · obtain rfl : k = m := by omega
      have hz : k - k = 0 := by omega
      have Hz := Lib.hid hz; clear hz
      rw [Hz.out]
      go_wp2_with fail
      go_ret
      refine ⟨_, rfl, ?_⟩
      rw [List.take_of_length_le (by rw [lows_len]; omega)] at hS; exact hS

theorem numL_drop {p : Int} {xs : List Int} {m : Nat} (h : m < xs.length) : numL p (xs.drop m) = numL p (xs.drop (m + 1)) * p + nth xs m := by
  rw [drop_nth h]; rfl
theorem numL_mono {p : Int} (hp : 1 ≤ p) : ∀ {xs : List Int}, In p xs → ∀ m : Nat, 0 ≤ numL p (xs.drop m) ∧ numL p (xs.drop m) ≤ numL p xs
  | [], _, m => by simp [numL]
  | x :: r, h, 0 => ⟨numL_nonneg (by omega) (fun y hy => (h y hy).1), Int.le_refl _⟩
  | x :: r, h, m + 1 => by
    have ih := numL_mono hp (xs := r) (fun y hy => h y (by simp [hy])) m
    have hx := h x (by simp)
    have e : numL p (x :: r) = numL p r * p + x := rfl
    have h0 := numL_nonneg (base := p) (by omega) (xs := r) (fun y hy => (h y (by simp [hy])).1)
    have := Int.mul_le_mul_of_nonneg_left hp h0
    rw [List.drop_succ_cons, e]
    omega

set_option maxHeartbeats 1000000 in
set_option maxRecDepth 100000 in
theorem numberOf_c (v : Value) (xs : List Int) (p : Int) (w : World) (hv : RdI w v xs) (h1 : 1 ≤ p) (h2 : p ≤ 64) (hi : In p xs) (hb : p ^ xs.length ≤ 1099511627776) :
    Calls Try.prog 203 #[v, .int .i64 p] w fun e w' => e = .returned (.int .i64 (numL p xs)) ∧ w = w' := by
  have hln := hv.len
  have hix := hv.ix
  have hm := hv.le
  have hlt' := numL_lt h1 hi
  have Hi := Lib.hid hi
  clear hi
  go_enter Try.func203, Try.ntmps203
  go_wp2_with fail
  go_loop [5, 6] (fun o i => ∃ m : Nat, m ≤ xs.length ∧ i = .int .i64 ((m : Int) - 1) ∧ o = .int .i64 (numL p (xs.drop m))) (fun _ i => (intOf i + 1).toNat)
  case atStart => exact ⟨xs.length, by omega, rfl, by rw [List.drop_length]; rfl⟩
  case round =>
    obtain ⟨m, hm2, rfl, rfl⟩ := hrel
    cases m with
    | zero =>
      go_wp2_with fail
      go_ret
      exact ⟨rfl, rfl⟩
    | succ m =>
      have hc := hv.cell m (by omega)
      have hxm := hv.ixe (m : Int) m rfl (by omega)
      have e1 : Hid (((m + 1 : Nat) : Int) - 1 = m) := by unfold Hid; omega
      have hs := Lib.hid (numL_drop (p := p) (show m < xs.length by omega))
      have hb1 := numL_mono h1 Hi.out m
      have hb2 := numL_mono h1 Hi.out (m + 1)
      rw [hs.out] at hb1
      have hx := Hi.out _ (nth_mem (show m < xs.length by omega))
      obtain ⟨x0, x1⟩ := hx
      obtain ⟨a0, a1⟩ := hb1
      obtain ⟨c0, c1⟩ := hb2
      have hmul := Int.mul_nonneg c0 (show 0 ≤ p by omega)
      rw [e1.out]
      go_wp2_with fail
      go_round
      case rel => exact ⟨m, by omega, rfl, by rw [hs.out]⟩
      case measure => simp [intOf]
set_option maxHeartbeats 1000000 in
set_option maxRecDepth 100000 in
theorem l03Number_c (v : Value) (xs : List Int) (p : Int) (w : World) (hv : RdI w v xs) (h1 : 1 ≤ p) (h2 : p ≤ 64) (hi : In p xs) (hb : p ^ xs.length ≤ 1099511627776) :
    Calls Try.prog 195 #[v, .int .i64 p] w fun e w' => e = .returned (.int .i64 (numL p xs)) ∧ w = w' := by
  have hln := hv.len
  have hix := hv.ix
  have hm := hv.le
  have hlt' := numL_lt h1 hi
  have Hi := Lib.hid hi
  clear hi
  go_enter Try.func195, Try.ntmps195
  go_wp2_with fail
  go_loop [5, 6] (fun o i => ∃ m : Nat, m ≤ xs.length ∧ i = .int .i64 ((m : Int) - 1) ∧ o = .int .i64 (numL p (xs.drop m))) (fun _ i => (intOf i + 1).toNat)
  case atStart => exact ⟨xs.length, by omega, rfl, by rw [List.drop_length]; rfl⟩
  case round =>
    obtain ⟨m, hm2, rfl, rfl⟩ := hrel
    cases m with
    | zero =>
      go_wp2_with fail
      go_ret
      exact ⟨rfl, rfl⟩
    | succ m =>
      have hc := hv.cell m (by omega)
      have hxm := hv.ixe (m : Int) m rfl (by omega)
      have e1 : Hid (((m + 1 : Nat) : Int) - 1 = m) := by unfold Hid; omega
      have hs := Lib.hid (numL_drop (p := p) (show m < xs.length by omega))
      have hb1 := numL_mono h1 Hi.out m
      have hb2 := numL_mono h1 Hi.out (m + 1)
      rw [hs.out] at hb1
      have hx := Hi.out _ (nth_mem (show m < xs.length by omega))
      obtain ⟨x0, x1⟩ := hx
      obtain ⟨a0, a1⟩ := hb1
      obtain ⟨c0, c1⟩ := hb2
      have hmul := Int.mul_nonneg c0 (show 0 ≤ p by omega)
      rw [e1.out]
      go_wp2_with fail
      go_round
      case rel => exact ⟨m, by omega, rfl, by rw [hs.out]⟩
      case measure => simp [intOf]

/-- a row cut behind its first cells -/
theorem St.cut {B : Nat} {w0 w : World} {L : List Ent} (h : St B w0 w L) (i : Nat) {e : TypeId} {v : Value} {us : List Value} (hi : L[i]? = some (row e v us)) (m : Nat) (hm : m ≤ us.length) :
    St B w0 w (L.set i (row e (rsl v 0 m) (us.take m))) := by
  have hx := h.ok _ (List.mem_of_getElem? hi)
  have hg : w.grownBy w (bk v) := ⟨rfl, rfl, rfl, Nat.le_refl _, fun _ _ _ => rfl⟩
  rcases hx with ⟨hp, _⟩ | ⟨_, hv, hu⟩ | ⟨_, g, cap, cur, hv, hB, hh, h1, h2, h3, h4⟩
  · simp [row] at hp
  · simp only [row] at hv hu
    subst hu; subst hv
    have hm0 : m = 0 := by simpa using hm
    subst hm0
    have e : rsl (.slice none 0 0) 0 0 = .slice none 0 0 := rfl
    rw [e, List.take_nil]
    have : L.set i (row ‹_› (.slice none 0 0) []) = L := by
      obtain ⟨hlt, heq⟩ := List.getElem?_eq_some_iff.1 hi
      rw [← heq, List.set_getElem_self]
    rw [this]; exact h
  · simp only [row] at hv h1 h4 hh
    have ev : rsl v 0 m = .slice (some ⟨g, 0, none⟩) m cap := by
      rw [hv]
      simp only [rsl, sliced, Nat.zero_mul, Option.map_some, Nat.sub_zero]
      split
      · rfl
      · simp [Addr.add]
    have hb : bk (rsl v 0 m) = bk v := by rw [ev, hv]; rfl
    refine h.put i hi hg (row e (rsl v 0 m) (us.take m)) (.inr (.inr ⟨rfl, g, cap, cur, ?_, hB, hh, ?_, h2, h3, ?_⟩)) (.inl hb)
    · simp only [row]; rw [ev, List.length_take, Nat.min_eq_left hm]
    · simp only [row]; rw [List.length_take]; omega
    · simp only [row]
      rw [List.length_take, Nat.min_eq_left hm, ← h4, List.take_take, Nat.min_eq_left hm]

theorem md3 (a p : Int) : a.tmod p % p = a % p := by
  have e : a = p * (a.tdiv p) + a.tmod p := (Int.mul_tdiv_add_tmod a p).symm
  conv => rhs; rw [e, Int.add_comm, Int.add_mul_emod_self_left]

set_option maxHeartbeats 2000000 in
set_option maxRecDepth 100000 in
theorem remainder_c (v vb : Value) (xs ys : List Int) (p : Int) (w : World) (hv : RdI w v xs) (hb : RdI w vb ys) (p2 : 2 ≤ p) (p64 : p ≤ 64) (hx : In p xs) (hy : In p ys) (hxl : xs.length ≤ 4096) (hyl : ys.length ≤ 4096) (hy1 : 1 ≤ ys.length) :
    Calls Try.prog 204 #[v, vb, .int .i64 p] w (MakesI w (remL p xs ys)) := by
  have hlb := hb.len
  have hib := hb.ix
  have hcl := fun W h => Lib.hid (Clone_c v xs W h (by omega))
  obtain ⟨deg, hdeg⟩ : ∃ d, ys.length = d + 1 := ⟨ys.length - 1, by omega⟩
  have Hdeg := Lib.hid hdeg
  have Hx := Lib.hid hx
  have Hy := Lib.hid hy
  have fp : (p == 0) = false := eq_f (by omega)
  rw [hdeg] at hlb hib
  have hd4 : deg ≤ 4095 := by omega
  clear hx hy hy1
  go_enter Try.func204, Try.ntmps204
  go_wp2_with fail
  refine (hcl _ hv).out.mono ?_
  rintro e w1 ⟨v1, rfl, hS⟩
  have hl1 := (hS.rdI 0 rfl).len
  clear hdeg
  go_wp2_with fail
  go_loopw [9, 10, 11, 12, 13, 33] (fun kk _ _ _ _ _ wr => ∃ (κ : Int) (cur : List Int), -1 ≤ κ ∧ κ ≤ (xs.length : Int) - 1 ∧ kk = .int .i64 κ ∧ Hid (cur.length = xs.length) ∧ Hid (In p cur) ∧ Hid (remN p ys deg (κ + 1 - deg).toNat cur = remN p ys deg (xs.length - deg) xs) ∧ St w.heap.size w wr [row 2 v1 (iv cur)]) (fun kk _ _ _ _ _ _ => (intOf kk + 1).toNat)
  case atStart => exact ⟨_, xs, by omega, by omega, rfl, rfl, Hx.out, by unfold Hid; congr 1; omega, hS⟩
  case round =>
    obtain ⟨κ, cur, k0, k1, rfl, hcl, hin, hI, hS⟩ := hrel
    by_cases hge : (deg : Int) ≤ κ
    · obtain ⟨k, rfl⟩ := Int.eq_ofNat_of_zero_le (show 0 ≤ κ by omega)
      have hr := hS.rdI 0 rfl
      have hdc : k < cur.length := by have := hcl.out; omega
      have hck := hr.cell k hdc
      have hxk := hr.ixe (k : Int) k rfl hdc
      obtain ⟨f, hf⟩ : ∃ f, f = nth cur k := ⟨_, rfl⟩
      rw [← hf] at hck
      have hfb := hin.out _ (nth_mem hdc)
      rw [← hf] at hfb
      obtain ⟨f0, f1⟩ := hfb
      have Hf := Lib.hid hf
      have hdc2 : k < xs.length := by have := hcl.out; omega
      have hdk : deg ≤ k := by omega
      clear hf hr
      go_wp2_with fail
      go_loopw [11, 12, 13, 33] (fun _ _ _ jj wx => ∃ j : Nat, j ≤ deg + 1 ∧ jj = .int .i64 j ∧ St w.heap.size w wx [row 2 v1 (iv (subT p cur ys (k - deg) f j))]) (fun _ _ _ jj _ => (deg + 1) - (intOf jj).toNat)
      case atStart => exact ⟨0, by omega, rfl, by rw [subT_0]; exact hS⟩
      case round =>
        obtain ⟨j, hj, rfl, hS⟩ := hrel
        have hr := hS.rdI 0 rfl
        by_cases hlt : j < deg + 1
        · have hcb := (hS.oldI hb).cell j (by rw [Hdeg.out]; exact hlt)
          have hat : k - deg + j < (subT p cur ys (k - deg) f j).length := by rw [subT_len]; omega
          have hca := hr.cell (k - deg + j) hat
          have hxa := hr.ixe ((k : Int) - deg + j) (k - deg + j) (by omega) hat
          have hyb := Hy.out _ (nth_mem (show j < ys.length by rw [Hdeg.out]; exact hlt))
          have hab := (In.subT (by omega) hin.out (by' := ys) (k - deg) f j) _ (nth_mem hat)
          obtain ⟨y0, y1⟩ := hyb
          obtain ⟨a0, a1⟩ := hab
          have hstep := Lib.hid (subT_step (p := p) (rest := cur) (by' := ys) (s := k - deg) (f := f) (j := j) (by have := hcl.out; omega))
          generalize hA : nth (subT p cur ys (k - deg) f j) (k - deg + j) = A at hca a0 a1
          generalize hB : nth ys j = B at hcb y0 y1
          have HA := Lib.hid hA
          have HB := Lib.hid hB
          have m0 := Int.mul_nonneg f0 y0
          have m1 : f * B ≤ 64 * 64 := Int.mul_le_mul (by omega) (by omega) (by omega) (by omega)
          have t0 := Int.lt_tmod_of_pos (A - f * B) (show 0 < p by omega)
          have t1 := Int.tmod_lt_of_pos (A - f * B) (show 0 < p by omega)
          have hmd := Lib.hid (md3 (A - f * B) p)
          have HL := Lib.hid hat
          clear hA hB hat
          go_wp2_with (refine stoI hS 0 rfl (k - deg + j) HL.out rfl (.tmp 59) (.tmp 58) rfl rfl _ rfl ?_; intro w3 hS3)
          go_roundw
          case rel =>
            refine ⟨j + 1, by omega, by go_num, ?_⟩
            rw [← hstep.out, show cf (subT p cur ys (k - deg) f j) (k - deg + j) = A from HA.out, show cf ys j = B from HB.out, ← hmd.out]
            rw [Int.add_emod_right] at hS3
            exact hS3
          case measure => simp [intOf]; omega
        · have hj2 : j = deg + 1 := by omega
          subst hj2
          have hst : Hid (remN p ys deg ((k : Int) + 1 - deg).toNat cur = remN p ys deg ((k : Int) - 1 + 1 - deg).toNat (subT p cur ys (k - deg) f (deg + 1))) := by
            unfold Hid
            rw [show ((k : Int) + 1 - deg).toNat = (k - deg) + 1 by omega, remN, show ((k : Int) - 1 + 1 - deg).toNat = k - deg by omega, show deg + (k - deg) = k by omega, Hf.out]
            try rfl
          have hin2 := Lib.hid (In.subT (p := p) (by omega) hin.out (by' := ys) (k - deg) f (deg + 1))
          have hcl2 : Hid ((subT p cur ys (k - deg) f (deg + 1)).length = xs.length) := by unfold Hid; rw [subT_len]; exact hcl.out
          go_wp2_with fail
          go_roundw
          case rel => exact ⟨(k : Int) - 1, _, by omega, by omega, rfl, hcl2, hin2, by unfold Hid; rw [← hst.out]; exact hI.out, hS⟩
          case measure => simp [intOf]
    · have e0 : Hid (cur = remN p ys deg (xs.length - deg) xs) := by
        unfold Hid
        have h := hI.out
        rw [show (κ + 1 - (deg : Int)).toNat = 0 by omega] at h
        exact h
      have hr := hS.rdI 0 rfl
      by_cases hmin : deg ≤ xs.length
      · have hsl := rsl_hi hr deg (by rw [hcl.out]; exact hmin)
        have hcut := hS.cut 0 rfl deg (by rw [iv_len, hcl.out]; exact hmin)
        clear hr
        go_wp2_with fail
        go_ret
        refine ⟨_, rfl, ?_⟩
        have e1 : (iv cur).take deg = iv (remL p xs ys) := by
          rw [e0.out, remL, Hdeg.out]; simp [iv, List.map_take]
        rw [e1] at hcut
        exact hcut
      · have hsl := rsl_hi hr xs.length (by rw [hcl.out]; omega)
        have hcut := hS.cut 0 rfl xs.length (by rw [iv_len, hcl.out]; omega)
        clear hr
        go_wp2_with fail
        go_ret
        refine ⟨_, rfl, ?_⟩
        have e1 : (iv cur).take xs.length = iv (remL p xs ys) := by
          rw [e0.out, remL, Hdeg.out]
          have hl := remN_len p ys deg (xs.length - deg) xs
          simp only [iv, ← List.map_take]
          rw [List.take_of_length_le (by omega), List.take_of_length_le (by rw [show deg + 1 - 1 = deg by omega]; omega)]
          rfl
        rw [e1] at hcut
        exact hcut


theorem rsl_hi' {w : World} {v : Value} {xs : List Int} (h : RdI w v xs) (i : Int) (hi : Nat) (e : i = (hi : Int)) (h2 : hi ≤ xs.length) (W : World) :
    (Instr.slice 23 v none (some (.int .i64 i)) none).run Try.prog W = .ok (rsl v 0 hi) W := by
  subst e; exact rsl_hi h hi h2 W
def sliceLen : Value → Nat
  | .slice _ n _ => n
  | _ => 0
theorem sliceLen_sl {v : Value} {n : Nat} (h : IsSl v n) : sliceLen v = n := by obtain ⟨a, c, rfl, _⟩ := h; rfl

set_option maxHeartbeats 2000000 in
set_option maxRecDepth 100000 in
theorem l03Rest_c (v vb : Value) (xs ys : List Int) (p : Int) (w : World) (hv : RdI w v xs) (hb : RdI w vb ys) (p2 : 2 ≤ p) (p64 : p ≤ 64) (hx : In p xs) (hy : In p ys) (hxl : xs.length ≤ 4096) (hyl : ys.length ≤ 4096) (hy1 : 1 ≤ ys.length) :
    Calls Try.prog 196 #[v, vb, .int .i64 p] w (MakesI w (remL p xs ys)) := by
  have hlb := hb.len
  have hib := hb.ix
  have hcl := fun W h => Lib.hid (l00Own_c v xs W h (by omega))
  obtain ⟨deg, hdeg⟩ : ∃ d, ys.length = d + 1 := ⟨ys.length - 1, by omega⟩
  have Hdeg := Lib.hid hdeg
  have Hx := Lib.hid hx
  have Hy := Lib.hid hy
  have fp : (p == 0) = false := eq_f (by omega)
  rw [hdeg] at hlb hib
  have hd4 : deg ≤ 4095 := by omega
  clear hx hy hy1
  go_enter Try.func196, Try.ntmps196
  go_wp2_with fail
  refine (hcl _ hv).out.mono ?_
  rintro e w1 ⟨v1, rfl, hS⟩
  have hl1 := (hS.rdI 0 rfl).len
  clear hdeg
  go_wp2_with fail
  go_loopw [9, 10, 11, 12] (fun kk _ _ _ wr => ∃ (κ : Int) (cur : List Int), -1 ≤ κ ∧ κ ≤ (xs.length : Int) - 1 ∧ kk = .int .i64 κ ∧ Hid (cur.length = xs.length) ∧ Hid (In p cur) ∧ Hid (remN p ys deg (κ + 1 - deg).toNat cur = remN p ys deg (xs.length - deg) xs) ∧ St w.heap.size w wr [row 2 v1 (iv cur)]) (fun kk _ _ _ _ => (intOf kk + 1).toNat)
  case atStart => exact ⟨_, xs, by omega, by omega, rfl, rfl, Hx.out, by unfold Hid; congr 1; omega, hS⟩
  case round =>
    obtain ⟨κ, cur, k0, k1, rfl, hcl, hin, hI, hS⟩ := hrel
    by_cases hge : (deg : Int) ≤ κ
    · obtain ⟨k, rfl⟩ := Int.eq_ofNat_of_zero_le (show 0 ≤ κ by omega)
      have hr := hS.rdI 0 rfl
      have hdc : k < cur.length := by have := hcl.out; omega
      have hck := hr.cell k hdc
      have hxk := hr.ixe (k : Int) k rfl hdc
      obtain ⟨f, hf⟩ : ∃ f, f = nth cur k := ⟨_, rfl⟩
      rw [← hf] at hck
      have hfb := hin.out _ (nth_mem hdc)
      rw [← hf] at hfb
      obtain ⟨f0, f1⟩ := hfb
      have Hf := Lib.hid hf
      have hdc2 : k < xs.length := by have := hcl.out; omega
      have hdk : deg ≤ k := by omega
      clear hf hr
      go_wp2_with fail
      go_loopw [11, 12] (fun jj _ wx => ∃ j : Nat, j ≤ deg + 1 ∧ jj = .int .i64 j ∧ St w.heap.size w wx [row 2 v1 (iv (subT p cur ys (k - deg) f j))]) (fun jj _ _ => (deg + 1) - (intOf jj).toNat)
      case atStart => exact ⟨0, by omega, rfl, by rw [subT_0]; exact hS⟩
      case round =>
        obtain ⟨j, hj, rfl, hS⟩ := hrel
        have hr := hS.rdI 0 rfl
        by_cases hlt : j < deg + 1
        · have hcb := (hS.oldI hb).cell j (by rw [Hdeg.out]; exact hlt)
          have hat : k - deg + j < (subT p cur ys (k - deg) f j).length := by rw [subT_len]; omega
          have hca := hr.cell (k - deg + j) hat
          have hxa := hr.ixe ((k : Int) - deg + j) (k - deg + j) (by omega) hat
          have hxa2 := hr.ixe ((k : Int) - ((deg : Int) + 1) + 1 + j) (k - deg + j) (by omega) hat
          have hyb := Hy.out _ (nth_mem (show j < ys.length by rw [Hdeg.out]; exact hlt))
          have hab := (In.subT (by omega) hin.out (by' := ys) (k - deg) f j) _ (nth_mem hat)
          obtain ⟨y0, y1⟩ := hyb
          obtain ⟨a0, a1⟩ := hab
          have hstep := Lib.hid (subT_step (p := p) (rest := cur) (by' := ys) (s := k - deg) (f := f) (j := j) (by have := hcl.out; omega))
          generalize hA : nth (subT p cur ys (k - deg) f j) (k - deg + j) = A at hca a0 a1
          generalize hB : nth ys j = B at hcb y0 y1
          have HA := Lib.hid hA
          have HB := Lib.hid hB
          have m0 := Int.mul_nonneg f0 y0
          have m1 : f * B ≤ 64 * 64 := Int.mul_le_mul (by omega) (by omega) (by omega) (by omega)
          have n0 := Int.mul_nonneg (show 0 ≤ p - f by omega) y0
          have n1 : (p - f) * B ≤ 64 * 64 := Int.mul_le_mul (by omega) (by omega) (by omega) (by omega)
          have hmd : Hid ((A + (p - f) * B) % p = (A - f * B) % p) := by
            unfold Hid
            rw [Int.sub_mul, show A + (p * B - f * B) = (A - f * B) + p * B by omega, Int.add_mul_emod_self_left]
          have u1 := hS.unfrozen 0 rfl (j := k - deg + j) (by rw [iv_len]; exact hat)
          have hs1 := hS.store 0 rfl (j := k - deg + j) (by rw [iv_len]; exact hat) (.int .i64 ((A + (p - f) * B) % p))
          have hs2 := Lib.hid hs1.drew
          clear hA hB hat hs1
          go_wp2_with fail
          go_region
          all_goals
            go_wp2_with fail
            go_roundw
            case rel =>
              refine ⟨j + 1, by omega, by go_num, ?_⟩
              rw [← hstep.out, show cf (subT p cur ys (k - deg) f j) (k - deg + j) = A from HA.out, show cf ys j = B from HB.out, ← hmd.out]
              have h := hs2.out
              rw [iv_set] at h
              exact h
            case measure => simp [intOf]; omega
        · have hj2 : j = deg + 1 := by omega
          subst hj2
          have hst : Hid (remN p ys deg ((k : Int) + 1 - deg).toNat cur = remN p ys deg ((k : Int) - 1 + 1 - deg).toNat (subT p cur ys (k - deg) f (deg + 1))) := by
            unfold Hid
            rw [show ((k : Int) + 1 - deg).toNat = (k - deg) + 1 by omega, remN, show ((k : Int) - 1 + 1 - deg).toNat = k - deg by omega, show deg + (k - deg) = k by omega, Hf.out]
            try rfl
          have hin2 := Lib.hid (In.subT (p := p) (by omega) hin.out (by' := ys) (k - deg) f (deg + 1))
          have hcl2 : Hid ((subT p cur ys (k - deg) f (deg + 1)).length = xs.length) := by unfold Hid; rw [subT_len]; exact hcl.out
          go_wp2_with fail
          go_roundw
          case rel => exact ⟨(k : Int) - 1, _, by omega, by omega, rfl, hcl2, hin2, by unfold Hid; rw [← hst.out]; exact hI.out, hS⟩
          case measure => simp [intOf]
    · have e0 : Hid (cur = remN p ys deg (xs.length - deg) xs) := by
        unfold Hid
        have h := hI.out
        rw [show (κ + 1 - (deg : Int)).toNat = 0 by omega] at h
        exact h
      have Hcl := hcl
      go_wp2_with fail
      go_loopw [7] (fun o wx => ∃ m : Nat, m ≤ xs.length ∧ Hid (deg ≤ m ∨ m = xs.length) ∧ St w.heap.size w wx [row 2 o (iv (cur.take m))]) (fun o _ => sliceLen o)
      case atStart => exact ⟨xs.length, by omega, .inr rfl, by rw [List.take_of_length_le (by rw [Hcl.out]; omega)]; exact hS⟩
      case round =>
        obtain ⟨m, hm, hmd, hS⟩ := hrel
        have hr := hS.rdI 0 rfl
        have hlm : (cur.take m).length = m := by rw [List.length_take, Hcl.out]; omega
        have hln := hr.len
        rw [hlm] at hln
        have Hlm := Lib.hid hlm
        clear hlm
        by_cases hgt : deg + 1 ≤ m
        · have hsl := rsl_hi' hr ((m : Int) - 1) (m - 1) (by omega) (by rw [Hlm.out]; omega)
          have hcut := hS.cut 0 rfl (m - 1) (by rw [iv_len, Hlm.out]; omega)
          have hsz := sliceLen_sl hr.sl
          rw [iv_len, Hlm.out] at hsz
          have hsz2 := sliceLen_sl (hcut.rd 0 rfl).sl
          have e2 : (iv (cur.take m)).take (m - 1) = iv (cur.take (m - 1)) := by simp only [iv, ← List.map_take]; rw [List.take_take, Nat.min_eq_left (by omega)]
          rw [e2] at hcut hsz2
          rw [iv_len, List.length_take, Hcl.out] at hsz2
          have Hsz := Lib.hid hsz
          have Hsz2 := Lib.hid hsz2
          clear hr hsz hsz2 e2
          go_wp2_with fail
          go_roundw
          case rel => exact ⟨m - 1, by omega, .inl (by omega), hcut⟩
          case measure => rw [Hsz.out, Hsz2.out]; omega
        · clear hr
          go_wp2_with fail
          go_ret
          refine ⟨_, rfl, ?_⟩
          have e1 : cur.take m = remL p xs ys := by
            rw [remL, Hdeg.out, show deg + 1 - 1 = deg by omega, ← e0.out]
            rcases hmd.out with h | h
            · rw [show m = deg by omega]
            · rw [List.take_of_length_le (by rw [Hcl.out]; omega), List.take_of_length_le (by rw [Hcl.out]; omega)]
          rw [e1] at hS
          exact hS

end Go.Proofs.Ytcenabaklokhhaa
