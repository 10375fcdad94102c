/- Walks: powers, digits, numbers, remainders of polynomials. Walks: remainders of the reference, irreducible polynomials. Walks: irreducible polynomials. Walks: valid fields. Walks: valid fields of both sides. -/
import Derived.Test.YtpfgbbbjldpnnaaPFok
import Derived.Test.YtpfgbbbjldpnnaaDig
import Derived.Test.YtpfgbbbjldpnnaaCopy
import Derived.Test.YtpfgbbbjldpnnaaNum
import Derived.Test.YtpfgbbbjldpnnaaCF
import Derived.Test.YtpfgbbbjldpnnaaFx
import Derived.Test.YtpfgbbbjldpnnaaIn
import Derived.Deep.RegionHeld3
import Derived.Deep.DrawnRows
namespace Go.Proofs.Ytpfgbbbjldpnnaa
set_option linter.unusedSimpArgs false
set_option linter.unusedVariables false
open Go.RowKit



theorem cf_nth (xs : List Int) (j : Nat) : cf xs j = nth xs j := rfl
theorem dv_succ' (base : Int) : ∀ (j : Nat) (n : Int), dv base (j + 1) n = dv base j (n / base)
  | 0, _ => rfl
  | j + 1, n => by
    show dv base (j + 1) n / base = dv base j (n / base) / base
    rw [dv_succ' base j n]
theorem lows_dgt (base : Int) : ∀ (m : Nat) (n : Int), lows base m n = dgt base m n
  | 0, _ => rfl
  | m + 1, n => by
    have ih := lows_dgt base m (n / base)
    unfold lows at ih ⊢
    rw [List.range_succ_eq_map, List.map_cons, List.map_map, dgt, ← ih]
    congr 1
    apply List.map_congr_left
    intro j _
    show dv base (j + 1) n % base = dv base j (n / base) % base
    rw [dv_succ']

theorem pow64 {p : Int} (h1 : 1 ≤ p) (h2 : p ≤ 64) : ∀ m : Nat, 1 ≤ p ^ m ∧ p ^ m ≤ 64 ^ m
  | 0 => by simp
  | m + 1 => by
    have := pow64 h1 h2 m
    rw [Int.pow_succ, Int.pow_succ]
    have a := Int.mul_le_mul this.2 h2 (by omega) (show (0 : Int) ≤ 64 ^ m by omega)
    have b := Int.mul_le_mul this.1 h1 (by omega) (by omega)
    omega
theorem pow64m {p : Int} (h1 : 1 ≤ p) (h2 : p ≤ 64) {m : Nat} (h : m ≤ 6) : p ^ m ≤ 68719476736 := by
  have h3 := (pow64 h1 h2 m).2
  have h4 : (64 : Int) ^ m ≤ 64 ^ 6 := by
    have : m = 0 ∨ m = 1 ∨ m = 2 ∨ m = 3 ∨ m = 4 ∨ m = 5 ∨ m = 6 := by omega
    rcases this with h | h | h | h | h | h | h <;> subst h <;> decide
  have : (64 : Int) ^ 6 = 68719476736 := by decide
  omega

set_option maxHeartbeats 1000000 in
set_option maxRecDepth 100000 in
theorem l03Power_c (p : Int) (k : Nat) (w : World) (h1 : 1 ≤ p) (h2 : p ≤ 64) (hk : k ≤ 6) : Calls Try.prog 178 #[.int .i64 p, .int .i64 k] w fun e w' => e = .returned (.int .i64 (p ^ k)) ∧ w = w' := by
  go_enter Try.func178, Try.ntmps178
  go_wp2_with fail
  go_loop [1, 5] (fun m o => ∃ (j : Nat) (x : Int), j ≤ k ∧ m = .int .i64 ((k - j : Nat) : Int) ∧ o = .int .i64 x ∧ 1 ≤ x ∧ x ≤ 68719476736 ∧ Hid (x = p ^ j)) (fun m _ => (intOf m).toNat)
  case atStart => exact ⟨0, 1, by omega, rfl, rfl, by omega, by omega, by simp [Hid]⟩
  case round =>
    obtain ⟨j, x, hj, rfl, rfl, x0, x1, hI⟩ := hrel
    by_cases hlt : j < k
    · have hb := pow64m h1 h2 (m := j + 1) (by omega)
      have hb0 := (pow64 h1 h2 (j + 1)).1
      have hs : p ^ (j + 1) = x * p := by rw [Int.pow_succ, hI.out]
      rw [hs] at hb hb0
      have Hs := Lib.hid hs; clear hs
      have hm : 0 < k - j := by omega
      go_wp2_with fail
      go_round
      case rel => exact ⟨j + 1, x * p, by omega, by congr 1; omega, rfl, hb0, hb, Hs.out.symm⟩
      case measure => simp [intOf]; omega
    · obtain rfl : j = k := by omega
      have hz : j - j = 0 := by omega
      have Hz := Lib.hid hz; clear hz
      rw [Hz.out]
      go_wp2_with fail
      go_ret
      exact ⟨ret_i64 hI.out, rfl⟩

set_option maxHeartbeats 1000000 in
set_option maxRecDepth 100000 in
theorem l03Digits_c (n base : Int) (m : Nat) (w : World) (hn : 0 ≤ n) (hn2 : n ≤ 4611686018427387904) (hb : 2 ≤ base) (hb2 : base ≤ 1073741824) (hm : m ≤ 4096) :
    Calls Try.prog 166 #[.int .i64 n, .int .i64 base, .int .i64 m] w (MakesI w (lows base m n)) := by
  have hS1 := (St.refl w).new 2 #[] (by simp)
  go_enter Try.func166, Try.ntmps166
  go_wp2_with fail
  go_loopw [0, 2, 7] (fun nn mm o wr => ∃ k : Nat, k ≤ m ∧ mm = .int .i64 ((m - k : Nat) : Int) ∧ nn = .int .i64 (dv base k n) ∧ St w.heap.size w wr [row 2 o (iv ((lows base m n).take k))]) (fun _ mm _ _ => (intOf mm).toNat)
  case atStart => exact ⟨0, by omega, rfl, rfl, hS1⟩
  case round =>
    obtain ⟨k, hk, rfl, rfl, hS⟩ := hrel
    by_cases hlt : k < m
    · have hd := dv_le hb hn k
      have hd2 := dv_le hb hn (k + 1)
      obtain ⟨q, hq⟩ : ∃ q, q = dv base k n := ⟨_, rfl⟩
      have hq2 : dv base (k + 1) n = q / base := by rw [hq]; rfl
      have Hq := Lib.hid hq2
      rw [← hq] at hd ⊢
      rw [hq2] at hd2
      have Hqq := Lib.hid hq
      clear hq hq2
      have hmod := Int.emod_nonneg q (show base ≠ 0 by omega)
      have hmod2 := Int.emod_lt_of_pos q (show 0 < base by omega)
      have fb : (base == 0) = false := eq_f (by omega)
      have hm0 : 0 < m - k := by omega
      go_wp2_with (at_builtin; refine appI hS 0 rfl (by simp [lows_len]; omega) rfl _ _ rfl rfl _ rfl ?_; intro v3 w3 hS3)
      go_roundw
      case rel =>
        refine ⟨k + 1, by omega, by congr 1; omega, by rw [Hq.out], ?_⟩
        have e : (lows base m n).take k ++ [q % base] = (lows base m n).take (k + 1) := by
          rw [take_nth (by rw [lows_len]; exact hlt)]
          have : nth (lows base m n) k = q % base := by simp [nth, lows, hlt, Hqq.out]
          rw [this]
        rw [← e]; exact hS3
      case measure => simp [intOf]; omega
    · obtain rfl : k = m := by omega
      have hz : k - k = 0 := by omega
      have Hz := Lib.hid hz; clear hz
      rw [Hz.out]
      go_wp2_with fail
      go_ret
      refine ⟨_, rfl, ?_⟩
      rw [List.take_of_length_le (by rw [lows_len]; omega)] at hS; exact hS

theorem numL_drop {p : Int} {xs : List Int} {m : Nat} (h : m < xs.length) : numL p (xs.drop m) = numL p (xs.drop (m + 1)) * p + nth xs m := by
  rw [drop_nth h]; rfl
theorem numL_mono {p : Int} (hp : 1 ≤ p) : ∀ {xs : List Int}, In p xs → ∀ m : Nat, 0 ≤ numL p (xs.drop m) ∧ numL p (xs.drop m) ≤ numL p xs
  | [], _, m => by simp [numL]
  | x :: r, h, 0 => ⟨numL_nonneg (by omega) (fun y hy => (h y hy).1), Int.le_refl _⟩
  | x :: r, h, m + 1 => by
    have ih := numL_mono hp (xs := r) (fun y hy => h y (by simp [hy])) m
    have hx := h x (by simp)
    have e : numL p (x :: r) = numL p r * p + x := rfl
    have h0 := numL_nonneg (base := p) (by omega) (xs := r) (fun y hy => (h y (by simp [hy])).1)
    have := Int.mul_le_mul_of_nonneg_left hp h0
    rw [List.drop_succ_cons, e]
    omega

set_option maxHeartbeats 1000000 in
set_option maxRecDepth 100000 in
theorem numberOf_c (v : Value) (xs : List Int) (p : Int) (w : World) (hv : RdI w v xs) (h1 : 1 ≤ p) (h2 : p ≤ 64) (hi : In p xs) (hb : p ^ xs.length ≤ 1099511627776) :
    Calls Try.prog 141 #[v, .int .i64 p] w fun e w' => e = .returned (.int .i64 (numL p xs)) ∧ w = w' := by
  have hln := hv.len
  have hix := hv.ix
  have hm := hv.le
  have hlt' := numL_lt h1 hi
  have Hi := Lib.hid hi
  clear hi
  go_enter Try.func141, Try.ntmps141
  go_wp2_with fail
  go_loop [5, 6] (fun o i => ∃ m : Nat, m ≤ xs.length ∧ i = .int .i64 ((m : Int) - 1) ∧ o = .int .i64 (numL p (xs.drop m))) (fun _ i => (intOf i + 1).toNat)
  case atStart => exact ⟨xs.length, by omega, rfl, by rw [List.drop_length]; rfl⟩
  case round =>
    obtain ⟨m, hm2, rfl, rfl⟩ := hrel
    cases m with
    | zero =>
      go_wp2_with fail
      go_ret
      exact ⟨rfl, rfl⟩
    | succ m =>
      have hc := hv.cell m (by omega)
      have hxm := hv.ixe (m : Int) m rfl (by omega)
      have e1 : Hid (((m + 1 : Nat) : Int) - 1 = m) := by unfold Hid; omega
      have hs := Lib.hid (numL_drop (p := p) (show m < xs.length by omega))
      have hb1 := numL_mono h1 Hi.out m
      have hb2 := numL_mono h1 Hi.out (m + 1)
      rw [hs.out] at hb1
      have hx := Hi.out _ (nth_mem (show m < xs.length by omega))
      obtain ⟨x0, x1⟩ := hx
      obtain ⟨a0, a1⟩ := hb1
      obtain ⟨c0, c1⟩ := hb2
      have hmul := Int.mul_nonneg c0 (show 0 ≤ p by omega)
      rw [e1.out]
      go_wp2_with fail
      go_round
      case rel => exact ⟨m, by omega, rfl, by rw [hs.out]⟩
      case measure => simp [intOf]
set_option maxHeartbeats 1000000 in
set_option maxRecDepth 100000 in
theorem l03Number_c (v : Value) (xs : List Int) (p : Int) (w : World) (hv : RdI w v xs) (h1 : 1 ≤ p) (h2 : p ≤ 64) (hi : In p xs) (hb : p ^ xs.length ≤ 1099511627776) :
    Calls Try.prog 170 #[v, .int .i64 p] w fun e w' => e = .returned (.int .i64 (numL p xs)) ∧ w = w' := by
  have hln := hv.len
  have hix := hv.ix
  have hm := hv.le
  have hlt' := numL_lt h1 hi
  have Hi := Lib.hid hi
  clear hi
  go_enter Try.func170, Try.ntmps170
  go_wp2_with fail
  go_loop [5, 6] (fun o i => ∃ m : Nat, m ≤ xs.length ∧ i = .int .i64 ((m : Int) - 1) ∧ o = .int .i64 (numL p (xs.drop m))) (fun _ i => (intOf i + 1).toNat)
  case atStart => exact ⟨xs.length, by omega, rfl, by rw [List.drop_length]; rfl⟩
  case round =>
    obtain ⟨m, hm2, rfl, rfl⟩ := hrel
    cases m with
    | zero =>
      go_wp2_with fail
      go_ret
      exact ⟨rfl, rfl⟩
    | succ m =>
      have hc := hv.cell m (by omega)
      have hxm := hv.ixe (m : Int) m rfl (by omega)
      have e1 : Hid (((m + 1 : Nat) : Int) - 1 = m) := by unfold Hid; omega
      have hs := Lib.hid (numL_drop (p := p) (show m < xs.length by omega))
      have hb1 := numL_mono h1 Hi.out m
      have hb2 := numL_mono h1 Hi.out (m + 1)
      rw [hs.out] at hb1
      have hx := Hi.out _ (nth_mem (show m < xs.length by omega))
      obtain ⟨x0, x1⟩ := hx
      obtain ⟨a0, a1⟩ := hb1
      obtain ⟨c0, c1⟩ := hb2
      have hmul := Int.mul_nonneg c0 (show 0 ≤ p by omega)
      rw [e1.out]
      go_wp2_with fail
      go_round
      case rel => exact ⟨m, by omega, rfl, by rw [hs.out]⟩
      case measure => simp [intOf]

/-- a row cut behind its first cells -/
theorem St.cut {B : Nat} {w0 w : World} {L : List Ent} (h : St B w0 w L) (i : Nat) {e : TypeId} {v : Value} {us : List Value} (hi : L[i]? = some (row e v us)) (m : Nat) (hm : m ≤ us.length) :
    St B w0 w (L.set i (row e (rsl v 0 m) (us.take m))) := by
  have hx := h.ok _ (List.mem_of_getElem? hi)
  have hg : w.grownBy w (bk v) := ⟨rfl, rfl, rfl, Nat.le_refl _, fun _ _ _ => rfl⟩
  rcases hx with ⟨hp, _⟩ | ⟨_, hv, hu⟩ | ⟨_, g, cap, cur, hv, hB, hh, h1, h2, h3, h4⟩
  · simp [row] at hp
  · simp only [row] at hv hu
    subst hu; subst hv
    have hm0 : m = 0 := by simpa using hm
    subst hm0
    have e : rsl (.slice none 0 0) 0 0 = .slice none 0 0 := rfl
    rw [e, List.take_nil]
    have : L.set i (row ‹_› (.slice none 0 0) []) = L := by
      obtain ⟨hlt, heq⟩ := List.getElem?_eq_some_iff.1 hi
      rw [← heq, List.set_getElem_self]
    rw [this]; exact h
  · simp only [row] at hv h1 h4 hh
    have ev : rsl v 0 m = .slice (some ⟨g, 0, none⟩) m cap := by
      rw [hv]
      simp only [rsl, sliced, Nat.zero_mul, Option.map_some, Nat.sub_zero]
      split
      · rfl
      · simp [Addr.add]
    have hb : bk (rsl v 0 m) = bk v := by rw [ev, hv]; rfl
    refine h.put i hi hg (row e (rsl v 0 m) (us.take m)) (.inr (.inr ⟨rfl, g, cap, cur, ?_, hB, hh, ?_, h2, h3, ?_⟩)) (.inl hb)
    · simp only [row]; rw [ev, List.length_take, Nat.min_eq_left hm]
    · simp only [row]; rw [List.length_take]; omega
    · simp only [row]
      rw [List.length_take, Nat.min_eq_left hm, ← h4, List.take_take, Nat.min_eq_left hm]

theorem md3 (a p : Int) : a.tmod p % p = a % p := by
  have e : a = p * (a.tdiv p) + a.tmod p := (Int.mul_tdiv_add_tmod a p).symm
  conv => rhs; rw [e, Int.add_comm, Int.add_mul_emod_self_left]

set_option maxHeartbeats 2000000 in
set_option maxRecDepth 100000 in
theorem remainder_c (v vb : Value) (xs ys : List Int) (p : Int) (w : World) (hv : RdI w v xs) (hb : RdI w vb ys) (p2 : 2 ≤ p) (p64 : p ≤ 64) (hx : In p xs) (hy : In p ys) (hxl : xs.length ≤ 4096) (hyl : ys.length ≤ 4096) (hy1 : 1 ≤ ys.length) :
    Calls Try.prog 142 #[v, vb, .int .i64 p] w (MakesI w (remL p xs ys)) := by
  have hlb := hb.len
  have hib := hb.ix
  have hcl := fun W h => Lib.hid (Clone_c v xs W h (by omega))
  obtain ⟨deg, hdeg⟩ : ∃ d, ys.length = d + 1 := ⟨ys.length - 1, by omega⟩
  have Hdeg := Lib.hid hdeg
  have Hx := Lib.hid hx
  have Hy := Lib.hid hy
  have fp : (p == 0) = false := eq_f (by omega)
  rw [hdeg] at hlb hib
  have hd4 : deg ≤ 4095 := by omega
  clear hx hy hy1
  go_enter Try.func142, Try.ntmps142
  go_wp2_with fail
  refine (hcl _ hv).out.mono ?_
  rintro e w1 ⟨v1, rfl, hS⟩
  have hl1 := (hS.rdI 0 rfl).len
  clear hdeg
  go_wp2_with fail
  go_loopw [9, 10, 11, 12, 13, 33] (fun kk _ _ _ _ _ wr => ∃ (κ : Int) (cur : List Int), -1 ≤ κ ∧ κ ≤ (xs.length : Int) - 1 ∧ kk = .int .i64 κ ∧ Hid (cur.length = xs.length) ∧ Hid (In p cur) ∧ Hid (remN p ys deg (κ + 1 - deg).toNat cur = remN p ys deg (xs.length - deg) xs) ∧ St w.heap.size w wr [row 2 v1 (iv cur)]) (fun kk _ _ _ _ _ _ => (intOf kk + 1).toNat)
  case atStart => exact ⟨_, xs, by omega, by omega, rfl, rfl, Hx.out, by unfold Hid; congr 1; omega, hS⟩
  case round =>
    obtain ⟨κ, cur, k0, k1, rfl, hcl, hin, hI, hS⟩ := hrel
    by_cases hge : (deg : Int) ≤ κ
    · obtain ⟨k, rfl⟩ := Int.eq_ofNat_of_zero_le (show 0 ≤ κ by omega)
      have hr := hS.rdI 0 rfl
      have hdc : k < cur.length := by have := hcl.out; omega
      have hck := hr.cell k hdc
      have hxk := hr.ixe (k : Int) k rfl hdc
      obtain ⟨f, hf⟩ : ∃ f, f = nth cur k := ⟨_, rfl⟩
      rw [← hf] at hck
      have hfb := hin.out _ (nth_mem hdc)
      rw [← hf] at hfb
      obtain ⟨f0, f1⟩ := hfb
      have Hf := Lib.hid hf
      have hdc2 : k < xs.length := by have := hcl.out; omega
      have hdk : deg ≤ k := by omega
      clear hf hr
      go_wp2_with fail
      go_loopw [11, 12, 13, 33] (fun _ _ _ jj wx => ∃ j : Nat, j ≤ deg + 1 ∧ jj = .int .i64 j ∧ St w.heap.size w wx [row 2 v1 (iv (subT p cur ys (k - deg) f j))]) (fun _ _ _ jj _ => (deg + 1) - (intOf jj).toNat)
      case atStart => exact ⟨0, by omega, rfl, by rw [subT_0]; exact hS⟩
      case round =>
        obtain ⟨j, hj, rfl, hS⟩ := hrel
        have hr := hS.rdI 0 rfl
        by_cases hlt : j < deg + 1
        · have hcb := (hS.oldI hb).cell j (by rw [Hdeg.out]; exact hlt)
          have hat : k - deg + j < (subT p cur ys (k - deg) f j).length := by rw [subT_len]; omega
          have hca := hr.cell (k - deg + j) hat
          have hxa := hr.ixe ((k : Int) - deg + j) (k - deg + j) (by omega) hat
          have hyb := Hy.out _ (nth_mem (show j < ys.length by rw [Hdeg.out]; exact hlt))
          have hab := (In.subT (by omega) hin.out (by' := ys) (k - deg) f j) _ (nth_mem hat)
          obtain ⟨y0, y1⟩ := hyb
          obtain ⟨a0, a1⟩ := hab
          have hstep := Lib.hid (subT_step (p := p) (rest := cur) (by' := ys) (s := k - deg) (f := f) (j := j) (by have := hcl.out; omega))
          generalize hA : nth (subT p cur ys (k - deg) f j) (k - deg + j) = A at hca a0 a1
          generalize hB : nth ys j = B at hcb y0 y1
          have HA := Lib.hid hA
          have HB := Lib.hid hB
          have m0 := Int.mul_nonneg f0 y0
          have m1 : f * B ≤ 64 * 64 := Int.mul_le_mul (by omega) (by omega) (by omega) (by omega)
          have t0 := Int.lt_tmod_of_pos (A - f * B) (show 0 < p by omega)
          have t1 := Int.tmod_lt_of_pos (A - f * B) (show 0 < p by omega)
          have hmd := Lib.hid (md3 (A - f * B) p)
          have HL := Lib.hid hat
          clear hA hB hat
          go_wp2_with (refine stoI hS 0 rfl (k - deg + j) HL.out rfl (.tmp 59) (.tmp 58) rfl rfl _ rfl ?_; intro w3 hS3)
          go_roundw
          case rel =>
            refine ⟨j + 1, by omega, by go_num, ?_⟩
            rw [← hstep.out, show cf (subT p cur ys (k - deg) f j) (k - deg + j) = A from HA.out, show cf ys j = B from HB.out, ← hmd.out]
            rw [Int.add_emod_right] at hS3
            exact hS3
          case measure => simp [intOf]; omega
        · have hj2 : j = deg + 1 := by omega
          subst hj2
          have hst : Hid (remN p ys deg ((k : Int) + 1 - deg).toNat cur = remN p ys deg ((k : Int) - 1 + 1 - deg).toNat (subT p cur ys (k - deg) f (deg + 1))) := by
            unfold Hid
            rw [show ((k : Int) + 1 - deg).toNat = (k - deg) + 1 by omega, remN, show ((k : Int) - 1 + 1 - deg).toNat = k - deg by omega, show deg + (k - deg) = k by omega, Hf.out]
            try rfl
          have hin2 := Lib.hid (In.subT (p := p) (by omega) hin.out (by' := ys) (k - deg) f (deg + 1))
          have hcl2 : Hid ((subT p cur ys (k - deg) f (deg + 1)).length = xs.length) := by unfold Hid; rw [subT_len]; exact hcl.out
          go_wp2_with fail
          go_roundw
          case rel => exact ⟨(k : Int) - 1, _, by omega, by omega, rfl, hcl2, hin2, by unfold Hid; rw [← hst.out]; exact hI.out, hS⟩
          case measure => simp [intOf]
    · have e0 : Hid (cur = remN p ys deg (xs.length - deg) xs) := by
        unfold Hid
        have h := hI.out
        rw [show (κ + 1 - (deg : Int)).toNat = 0 by omega] at h
        exact h
      have hr := hS.rdI 0 rfl
      by_cases hmin : deg ≤ xs.length
      · have hsl := rsl_hi hr deg (by rw [hcl.out]; exact hmin)
        have hcut := hS.cut 0 rfl deg (by rw [iv_len, hcl.out]; exact hmin)
        clear hr
        go_wp2_with fail
        go_ret
        refine ⟨_, rfl, ?_⟩
        have e1 : (iv cur).take deg = iv (remL p xs ys) := by
          rw [e0.out, remL, Hdeg.out]; simp [iv, List.map_take]
        rw [e1] at hcut
        exact hcut
      · have hsl := rsl_hi hr xs.length (by rw [hcl.out]; omega)
        have hcut := hS.cut 0 rfl xs.length (by rw [iv_len, hcl.out]; omega)
        clear hr
        go_wp2_with fail
        go_ret
        refine ⟨_, rfl, ?_⟩
        have e1 : (iv cur).take xs.length = iv (remL p xs ys) := by
          rw [e0.out, remL, Hdeg.out]
          have hl := remN_len p ys deg (xs.length - deg) xs
          simp only [iv, ← List.map_take]
          rw [List.take_of_length_le (by omega), List.take_of_length_le (by rw [show deg + 1 - 1 = deg by omega]; omega)]
          rfl
        rw [e1] at hcut
        exact hcut


theorem rsl_hi' {w : World} {v : Value} {xs : List Int} (h : RdI w v xs) (i : Int) (hi : Nat) (e : i = (hi : Int)) (h2 : hi ≤ xs.length) (W : World) :
    (Instr.slice 24 v none (some (.int .i64 i)) none).run Try.prog W = .ok (rsl v 0 hi) W := by
  subst e; exact rsl_hi h hi h2 W
def sliceLen : Value → Nat
  | .slice _ n _ => n
  | _ => 0
theorem sliceLen_sl {v : Value} {n : Nat} (h : IsSl v n) : sliceLen v = n := by obtain ⟨a, c, rfl, _⟩ := h; rfl

set_option maxHeartbeats 2000000 in
set_option maxRecDepth 100000 in
theorem l03Rest_c (v vb : Value) (xs ys : List Int) (p : Int) (w : World) (hv : RdI w v xs) (hb : RdI w vb ys) (p2 : 2 ≤ p) (p64 : p ≤ 64) (hx : In p xs) (hy : In p ys) (hxl : xs.length ≤ 4096) (hyl : ys.length ≤ 4096) (hy1 : 1 ≤ ys.length) :
    Calls Try.prog 179 #[v, vb, .int .i64 p] w (MakesI w (remL p xs ys)) := by
  have hlb := hb.len
  have hib := hb.ix
  have hcl := fun W h => Lib.hid (l00Own_c v xs W h (by omega))
  obtain ⟨deg, hdeg⟩ : ∃ d, ys.length = d + 1 := ⟨ys.length - 1, by omega⟩
  have Hdeg := Lib.hid hdeg
  have Hx := Lib.hid hx
  have Hy := Lib.hid hy
  have fp : (p == 0) = false := eq_f (by omega)
  rw [hdeg] at hlb hib
  have hd4 : deg ≤ 4095 := by omega
  clear hx hy hy1
  go_enter Try.func179, Try.ntmps179
  go_wp2_with fail
  refine (hcl _ hv).out.mono ?_
  rintro e w1 ⟨v1, rfl, hS⟩
  have hl1 := (hS.rdI 0 rfl).len
  clear hdeg
  go_wp2_with fail
  go_loopw [9, 10, 11, 12] (fun kk _ _ _ wr => ∃ (κ : Int) (cur : List Int), -1 ≤ κ ∧ κ ≤ (xs.length : Int) - 1 ∧ kk = .int .i64 κ ∧ Hid (cur.length = xs.length) ∧ Hid (In p cur) ∧ Hid (remN p ys deg (κ + 1 - deg).toNat cur = remN p ys deg (xs.length - deg) xs) ∧ St w.heap.size w wr [row 2 v1 (iv cur)]) (fun kk _ _ _ _ => (intOf kk + 1).toNat)
  case atStart => exact ⟨_, xs, by omega, by omega, rfl, rfl, Hx.out, by unfold Hid; congr 1; omega, hS⟩
  case round =>
    obtain ⟨κ, cur, k0, k1, rfl, hcl, hin, hI, hS⟩ := hrel
    by_cases hge : (deg : Int) ≤ κ
    · obtain ⟨k, rfl⟩ := Int.eq_ofNat_of_zero_le (show 0 ≤ κ by omega)
      have hr := hS.rdI 0 rfl
      have hdc : k < cur.length := by have := hcl.out; omega
      have hck := hr.cell k hdc
      have hxk := hr.ixe (k : Int) k rfl hdc
      obtain ⟨f, hf⟩ : ∃ f, f = nth cur k := ⟨_, rfl⟩
      rw [← hf] at hck
      have hfb := hin.out _ (nth_mem hdc)
      rw [← hf] at hfb
      obtain ⟨f0, f1⟩ := hfb
      have Hf := Lib.hid hf
      have hdc2 : k < xs.length := by have := hcl.out; omega
      have hdk : deg ≤ k := by omega
      clear hf hr
      go_wp2_with fail
      go_loopw [11, 12] (fun jj _ wx => ∃ j : Nat, j ≤ deg + 1 ∧ jj = .int .i64 j ∧ St w.heap.size w wx [row 2 v1 (iv (subT p cur ys (k - deg) f j))]) (fun jj _ _ => (deg + 1) - (intOf jj).toNat)
      case atStart => exact ⟨0, by omega, rfl, by rw [subT_0]; exact hS⟩
      case round =>
        obtain ⟨j, hj, rfl, hS⟩ := hrel
        have hr := hS.rdI 0 rfl
        by_cases hlt : j < deg + 1
        · have hcb := (hS.oldI hb).cell j (by rw [Hdeg.out]; exact hlt)
          have hat : k - deg + j < (subT p cur ys (k - deg) f j).length := by rw [subT_len]; omega
          have hca := hr.cell (k - deg + j) hat
          have hxa := hr.ixe ((k : Int) - deg + j) (k - deg + j) (by omega) hat
          have hxa2 := hr.ixe ((k : Int) - ((deg : Int) + 1) + 1 + j) (k - deg + j) (by omega) hat
          have hyb := Hy.out _ (nth_mem (show j < ys.length by rw [Hdeg.out]; exact hlt))
          have hab := (In.subT (by omega) hin.out (by' := ys) (k - deg) f j) _ (nth_mem hat)
          obtain ⟨y0, y1⟩ := hyb
          obtain ⟨a0, a1⟩ := hab
          have hstep := Lib.hid (subT_step (p := p) (rest := cur) (by' := ys) (s := k - deg) (f := f) (j := j) (by have := hcl.out; omega))
          generalize hA : nth (subT p cur ys (k - deg) f j) (k - deg + j) = A at hca a0 a1
          generalize hB : nth ys j = B at hcb y0 y1
          have HA := Lib.hid hA
          have HB := Lib.hid hB
          have m0 := Int.mul_nonneg f0 y0
          have m1 : f * B ≤ 64 * 64 := Int.mul_le_mul (by omega) (by omega) (by omega) (by omega)
          have n0 := Int.mul_nonneg (show 0 ≤ p - f by omega) y0
          have n1 : (p - f) * B ≤ 64 * 64 := Int.mul_le_mul (by omega) (by omega) (by omega) (by omega)
          have hmd : Hid ((A + (p - f) * B) % p = (A - f * B) % p) := by
            unfold Hid
            rw [Int.sub_mul, show A + (p * B - f * B) = (A - f * B) + p * B by omega, Int.add_mul_emod_self_left]
          have u1 := hS.unfrozen 0 rfl (j := k - deg + j) (by rw [iv_len]; exact hat)
          have hs1 := hS.store 0 rfl (j := k - deg + j) (by rw [iv_len]; exact hat) (.int .i64 ((A + (p - f) * B) % p))
          have hs2 := Lib.hid hs1.drew
          clear hA hB hat hs1
          go_wp2_with fail
          go_region
          all_goals
            go_wp2_with fail
            go_roundw
            case rel =>
              refine ⟨j + 1, by omega, by go_num, ?_⟩
              rw [← hstep.out, show cf (subT p cur ys (k - deg) f j) (k - deg + j) = A from HA.out, show cf ys j = B from HB.out, ← hmd.out]
              have h := hs2.out
              rw [iv_set] at h
              exact h
            case measure => simp [intOf]; omega
        · have hj2 : j = deg + 1 := by omega
          subst hj2
          have hst : Hid (remN p ys deg ((k : Int) + 1 - deg).toNat cur = remN p ys deg ((k : Int) - 1 + 1 - deg).toNat (subT p cur ys (k - deg) f (deg + 1))) := by
            unfold Hid
            rw [show ((k : Int) + 1 - deg).toNat = (k - deg) + 1 by omega, remN, show ((k : Int) - 1 + 1 - deg).toNat = k - deg by omega, show deg + (k - deg) = k by omega, Hf.out]
            try rfl
          have hin2 := Lib.hid (In.subT (p := p) (by omega) hin.out (by' := ys) (k - deg) f (deg + 1))
          have hcl2 : Hid ((subT p cur ys (k - deg) f (deg + 1)).length = xs.length) := by unfold Hid; rw [subT_len]; exact hcl.out
          go_wp2_with fail
          go_roundw
          case rel => exact ⟨(k : Int) - 1, _, by omega, by omega, rfl, hcl2, hin2, by unfold Hid; rw [← hst.out]; exact hI.out, hS⟩
          case measure => simp [intOf]
    · have e0 : Hid (cur = remN p ys deg (xs.length - deg) xs) := by
        unfold Hid
        have h := hI.out
        rw [show (κ + 1 - (deg : Int)).toNat = 0 by omega] at h
        exact h
      have Hcl := hcl
      go_wp2_with fail
      go_loopw [7] (fun o wx => ∃ m : Nat, m ≤ xs.length ∧ Hid (deg ≤ m ∨ m = xs.length) ∧ St w.heap.size w wx [row 2 o (iv (cur.take m))]) (fun o _ => sliceLen o)
      case atStart => exact ⟨xs.length, by omega, .inr rfl, by rw [List.take_of_length_le (by rw [Hcl.out]; omega)]; exact hS⟩
      case round =>
        obtain ⟨m, hm, hmd, hS⟩ := hrel
        have hr := hS.rdI 0 rfl
        have hlm : (cur.take m).length = m := by rw [List.length_take, Hcl.out]; omega
        have hln := hr.len
        rw [hlm] at hln
        have Hlm := Lib.hid hlm
        clear hlm
        by_cases hgt : deg + 1 ≤ m
        · have hsl := rsl_hi' hr ((m : Int) - 1) (m - 1) (by omega) (by rw [Hlm.out]; omega)
          have hcut := hS.cut 0 rfl (m - 1) (by rw [iv_len, Hlm.out]; omega)
          have hsz := sliceLen_sl hr.sl
          rw [iv_len, Hlm.out] at hsz
          have hsz2 := sliceLen_sl (hcut.rd 0 rfl).sl
          have e2 : (iv (cur.take m)).take (m - 1) = iv (cur.take (m - 1)) := by simp only [iv, ← List.map_take]; rw [List.take_take, Nat.min_eq_left (by omega)]
          rw [e2] at hcut hsz2
          rw [iv_len, List.length_take, Hcl.out] at hsz2
          have Hsz := Lib.hid hsz
          have Hsz2 := Lib.hid hsz2
          clear hr hsz hsz2 e2
          go_wp2_with fail
          go_roundw
          case rel => exact ⟨m - 1, by omega, .inl (by omega), hcut⟩
          case measure => rw [Hsz.out, Hsz2.out]; omega
        · clear hr
          go_wp2_with fail
          go_ret
          refine ⟨_, rfl, ?_⟩
          have e1 : cur.take m = remL p xs ys := by
            rw [remL, Hdeg.out, show deg + 1 - 1 = deg by omega, ← e0.out]
            rcases hmd.out with h | h
            · rw [show m = deg by omega]
            · rw [List.take_of_length_le (by rw [Hcl.out]; omega), List.take_of_length_le (by rw [Hcl.out]; omega)]
          rw [e1] at hS
          exact hS



theorem isZero1_c (x : Int) (w : World) : Calls Try.prog 177 #[.int .i64 x] w (GivesB w (x != 0)) := by
  go_enter Try.func177, Try.ntmps177
  go_wp2_with fail
  go_ret
  exact ⟨rfl, St.refl w⟩
theorem zeroL_any (xs : List Int) : zeroL xs = !anyP (fun x => x != 0) xs := by
  unfold zeroL anyP
  induction xs with
  | nil => rfl
  | cons x r ih =>
    rw [List.all_cons, List.any_cons, ih]
    by_cases h : x = 0
    · subst h; simp
    · have h1 : (x == 0) = false := eq_f h
      have h2 : (x != 0) = true := ne_t h
      rw [h1, h2]; simp
theorem isZero_c (v : Value) (xs : List Int) (w : World) (hv : RdI w v xs) : Calls Try.prog 164 #[v] w (GivesB w (zeroL xs)) := by
  have hcf := callFunc_go Try.func177 (by kernel_rfl) (by kernel_rfl)
  have hcall := Lib.hid (ContainsFunc_c 177 #[] (fun x => x != 0) v xs w hv hcf (fun x W _ _ => isZero1_c x W))
  have he := Lib.hid (zeroL_any xs)
  clear hcf
  go_enter Try.func164, Try.ntmps164
  go_wp2_with fail
  refine hcall.out.mono ?_
  rintro e w1 ⟨rfl, h1⟩
  cases hq : anyP (fun x => x != 0) xs
  · have Hq := Lib.hid hq; clear hq
    go_wp2_with fail
    go_ret
    exact ⟨ret_bool (by rw [he.out, Hq.out]; rfl), h1⟩
  · have Hq := Lib.hid hq; clear hq
    go_wp2_with fail
    go_ret
    exact ⟨ret_bool (by rw [he.out, Hq.out]; rfl), h1⟩

/-- the polynomial that is tried -/
def tryP (p : Int) (d n : Nat) : List Int := lows p d n ++ [1]
theorem tryP_len (p : Int) (d n : Nat) : (tryP p d n).length = d + 1 := by simp [tryP, lows_len]
theorem tryP_in {p : Int} (hp : 2 ≤ p) (d n : Nat) : In p (tryP p d n) := by
  intro x hx
  rcases List.mem_append.1 hx with h | h
  · rw [lows_dgt] at h; exact dgt_in (by omega) _ _ x h
  · simp at h; subst h; omega
theorem irrB_iff {p : Int} {xs : List Int} : irrB p xs = true ↔ ∀ d n : Nat, 1 ≤ d → 2 * d ≤ xs.length - 1 → n < (p ^ d).toNat → zeroL (remL p xs (tryP p d n)) = false := by
  simp only [irrB, List.all_eq_true, List.mem_range, Bool.not_eq_true', tryP, lows_dgt]
  constructor
  · intro h d n hd hl hn
    have := h (d - 1) (by omega) n (by rw [show d - 1 + 1 = d by omega]; exact hn)
    rwa [show d - 1 + 1 = d by omega] at this
  · intro h i hi n hn
    exact h (i + 1) n (by omega) (by omega) hn
theorem irrB_no {p : Int} {xs : List Int} {d n : Nat} (hd : 1 ≤ d) (hl : 2 * d ≤ xs.length - 1) (hn : n < (p ^ d).toNat) (h : zeroL (remL p xs (tryP p d n)) = true) : irrB p xs = false := by
  cases hq : irrB p xs with
  | false => rfl
  | true => have := irrB_iff.1 hq d n hd hl hn; rw [h] at this; cases this
theorem remL_len {p : Int} {xs ys : List Int} : (remL p xs ys).length ≤ ys.length - 1 := by simp [remL]; omega
theorem pow_mono {p : Int} (hp : 1 ≤ p) {a b : Nat} (h : a ≤ b) : p ^ a ≤ p ^ b := by
  obtain ⟨k, rfl⟩ := Nat.exists_eq_add_of_le h
  rw [Int.pow_add]
  have h1 : ∀ m : Nat, 1 ≤ p ^ m := by
    intro m
    induction m with
    | zero => simp
    | succ m ih => rw [Int.pow_succ]; have := Int.mul_le_mul ih hp (by omega) (by omega); omega
  have := Int.mul_le_mul_of_nonneg_left (h1 k) (show 0 ≤ p ^ a by have := h1 a; omega)
  omega

set_option maxHeartbeats 4000000 in
set_option maxRecDepth 100000 in
theorem irreducible_c (v : Value) (xs : List Int) (p : Int) (w : World) (hv : RdI w v xs) (p2 : 2 ≤ p) (p64 : p ≤ 64) (hx : In p xs) (hx1 : 1 ≤ xs.length) (hq : p ^ (xs.length - 1) ≤ 64) :
    Calls Try.prog 139 #[v, .int .i64 p] w (GivesB w (irrB p xs)) := by
  obtain ⟨D, hD⟩ : ∃ D, xs.length = D + 1 := ⟨xs.length - 1, by omega⟩
  have hD6 : D ≤ 6 := pow_small p2 (by rw [hD] at hq; exact hq)
  have HD := Lib.hid hD
  have Hx := Lib.hid hx
  have Hq := Lib.hid (show p ^ D ≤ 64 by rw [hD] at hq; exact hq)
  have hsz := Lib.hid (size_c v xs w hv)
  rw [hD] at hsz
  clear hx hq hx1 hD
  go_enter Try.func139, Try.ntmps139
  go_wp2_with fail
  refine hsz.out.mono ?_
  rintro e w1 ⟨rfl, rfl⟩
  go_wp2_with fail
  go_loopw [6, 7] (fun dd _ wr => ∃ d : Nat, 1 ≤ d ∧ dd = .int .i64 d ∧ d ≤ 10 ∧ Hid (∀ d' n : Nat, 1 ≤ d' → d' < d → n < (p ^ d').toNat → zeroL (remL p xs (tryP p d' n)) = false) ∧ St w.heap.size w wr []) (fun dd _ _ => 20 - (intOf dd).toNat)
  case atStart => exact ⟨1, by omega, rfl, by omega, fun d' n h1 h2 => by omega, St.refl _⟩
  case round =>
    obtain ⟨d, d1, rfl, d10, hI, hS⟩ := hrel
    by_cases hle : 2 * (d : Int) ≤ D
    · have hpd : p ^ d ≤ 64 := Int.le_trans (pow_mono (by omega) (show d ≤ D by omega)) Hq.out
      have hpd1 := (pow64 (p := p) (by omega) p64 d).1
      obtain ⟨K, hK⟩ := Int.eq_ofNat_of_zero_le (show 0 ≤ p ^ d by omega)
      have hK2 : K ≤ 64 := by omega
      have HK := Lib.hid hK
      have hpow : ∀ W, Hid (Calls Try.prog 163 #[.int .i64 p, .int .i64 d, .int .i64 64] W fun r w' => r = .returned (.int .i64 K) ∧ W = w') := fun W => by
        have := powerUpTo_c p d 64 W (by omega) (by omega) (by omega) (by omega) (by omega) (by omega)
        rw [Int.toNat_natCast, pu_le (by omega) d 1 (by omega) (by rw [Int.one_mul]; exact hpd), Int.one_mul, hK] at this
        exact this
      clear hpd hpd1 hK
      go_wp2_with fail
      go_loopw [7] (fun nn wx => ∃ n : Nat, n ≤ K ∧ nn = .int .i64 n ∧ Hid (∀ m : Nat, m < n → zeroL (remL p xs (tryP p d m)) = false) ∧ St w.heap.size w wx []) (fun nn _ => K - (intOf nn).toNat)
      case atStart => exact ⟨0, by omega, rfl, fun m h => by omega, hS⟩
      case round =>
        obtain ⟨n, hn, rfl, hJ, hS⟩ := hrel
        by_cases hlt : n < K
        · have hdg := fun W => Lib.hid (digitsOf_c n p d W (by omega) (by omega) p2 (by omega) (by omega))
          go_wp2_with fail
          refine (hpow _).out.mono ?_
          rintro e w2 ⟨rfl, rfl⟩
          go_wp2_with fail
          refine (hdg _).out.mono ?_
          rintro e w2 ⟨v2, rfl, h2⟩
          have hS2 := hS.call h2
          simp only [List.nil_append] at hS2
          go_wp2_with (at_builtin; refine appI hS2 0 rfl (by rw [lows_len]; omega) rfl _ _ rfl rfl _ rfl ?_; intro v3 w3 hS3)
          have hr3 : RdI w3 v3 (tryP p d n) := hS3.rdI 0 rfl
          have hrem := Lib.hid (remainder_c v v3 xs (tryP p d n) p w3 (hS3.oldI hv) hr3 p2 p64 Hx.out (tryP_in p2 d n) (by rw [HD.out]; omega) (by rw [tryP_len]; omega) (by rw [tryP_len]; omega))
          clear hr3
          refine hrem.out.mono ?_
          rintro e w4 ⟨v4, rfl, h4⟩
          have hS4 := hS3.call0 h4.out
          have hr4 := h4.rdI 0 rfl
          clear hS2 hS3 hS
          go_wp2_with fail
          refine (isZero_c v4 _ w4 hr4).mono ?_
          rintro e w5 ⟨rfl, h5⟩
          have hS5 := hS4.call0 h5
          cases hz : zeroL (remL p xs (tryP p d n))
          · have Hz := Lib.hid hz; clear hz
            go_wp2_with fail
            go_roundw
            case rel => exact ⟨n + 1, by omega, by go_num, fun m hm => by
              by_cases e : m = n
              · subst e; exact Hz.out
              · exact hJ.out m (by omega), hS5.out⟩
            case measure => simp [intOf]; omega
          · have Hz := Lib.hid hz; clear hz
            go_wp2_with fail
            go_ret
            exact ⟨ret_bool (irrB_no d1 (by rw [HD.out]; omega) (by rw [HK.out]; omega) Hz.out).symm, hS5.out⟩
        · obtain rfl : n = K := by omega
          go_wp2_with fail
          refine (hpow _).out.mono ?_
          rintro e w2 ⟨rfl, rfl⟩
          go_wp2_with fail
          go_roundw
          case rel => exact ⟨d + 1, by omega, by go_num, by omega, fun d' m h1 h2 hm => by
            by_cases e : d' = d
            · subst e; rw [HK.out, Int.toNat_natCast] at hm; exact hJ.out m hm
            · exact hI.out d' m h1 (by omega) hm, hS⟩
          case measure => simp [intOf]; omega
    · go_wp2_with fail
      go_ret
      exact ⟨ret_bool (irrB_iff.2 fun d' n h1 h2 h3 => hI.out d' n h1 (by rw [HD.out] at h2; omega) h3).symm, hS⟩

set_option maxHeartbeats 4000000 in
set_option maxRecDepth 100000 in
theorem l03Irreducible_c (v : Value) (xs : List Int) (p : Int) (w : World) (hv : RdI w v xs) (p2 : 2 ≤ p) (p64 : p ≤ 64) (hx : In p xs) (hx1 : 1 ≤ xs.length) (hq : p ^ (xs.length - 1) ≤ 64) :
    Calls Try.prog 167 #[v, .int .i64 p] w (GivesB w (irrB p xs)) := by
  have hln := hv.len
  obtain ⟨D, hD⟩ : ∃ D, xs.length = D + 1 := ⟨xs.length - 1, by omega⟩
  have hD6 : D ≤ 6 := pow_small p2 (by rw [hD] at hq; exact hq)
  have HD := Lib.hid hD
  have Hx := Lib.hid hx
  have Hq := Lib.hid (show p ^ D ≤ 64 by rw [hD] at hq; exact hq)
  rw [hD] at hln
  clear hx hq hx1 hD
  go_enter Try.func167, Try.ntmps167
  go_wp2_with fail
  go_loopw [6, 7, 8, 9] (fun dd _ _ _ wr => ∃ d : Nat, 1 ≤ d ∧ dd = .int .i64 d ∧ d ≤ 10 ∧ Hid (∀ d' n : Nat, 1 ≤ d' → d' < d → n < (p ^ d').toNat → zeroL (remL p xs (tryP p d' n)) = false) ∧ St w.heap.size w wr []) (fun dd _ _ _ _ => 20 - (intOf dd).toNat)
  case atStart => exact ⟨1, by omega, rfl, by omega, fun d' n h1 h2 => by omega, St.refl _⟩
  case round =>
    obtain ⟨d, d1, rfl, d10, hI, hS⟩ := hrel
    by_cases hle : 2 * (d : Int) ≤ D
    · have hpd : p ^ d ≤ 64 := Int.le_trans (pow_mono (by omega) (show d ≤ D by omega)) Hq.out
      have hpd1 := (pow64 (p := p) (by omega) p64 d).1
      obtain ⟨K, hK⟩ := Int.eq_ofNat_of_zero_le (show 0 ≤ p ^ d by omega)
      have hK2 : K ≤ 64 := by omega
      have HK := Lib.hid hK
      have hpow : ∀ W, Hid (Calls Try.prog 178 #[.int .i64 p, .int .i64 d] W fun r w' => r = .returned (.int .i64 K) ∧ W = w') := fun W => by
        have := l03Power_c p d W (by omega) p64 (by omega)
        rw [hK] at this
        exact this
      clear hpd hpd1 hK
      go_wp2_with fail
      go_loopw [7, 8, 9] (fun nn _ _ wx => ∃ n : Nat, n ≤ K ∧ nn = .int .i64 n ∧ Hid (∀ m : Nat, m < n → zeroL (remL p xs (tryP p d m)) = false) ∧ St w.heap.size w wx []) (fun nn _ _ _ => K - (intOf nn).toNat)
      case atStart => exact ⟨0, by omega, rfl, fun m h => by omega, hS⟩
      case round =>
        obtain ⟨n, hn, rfl, hJ, hS⟩ := hrel
        by_cases hlt : n < K
        · have hdg := fun W => Lib.hid (l03Digits_c n p d W (by omega) (by omega) p2 (by omega) (by omega))
          go_wp2_with fail
          refine (hpow _).out.mono ?_
          rintro e w2 ⟨rfl, rfl⟩
          go_wp2_with fail
          refine (hdg _).out.mono ?_
          rintro e w2 ⟨v2, rfl, h2⟩
          have hS2 := hS.call h2
          simp only [List.nil_append] at hS2
          go_wp2_with (at_builtin; refine appI hS2 0 rfl (by rw [lows_len]; omega) rfl _ _ rfl rfl _ rfl ?_; intro v3 w3 hS3)
          have hr3 : RdI w3 v3 (tryP p d n) := hS3.rdI 0 rfl
          have hrem := Lib.hid (l03Rest_c v v3 xs (tryP p d n) p w3 (hS3.oldI hv) hr3 p2 p64 Hx.out (tryP_in p2 d n) (by rw [HD.out]; omega) (by rw [tryP_len]; omega) (by rw [tryP_len]; omega))
          clear hr3
          refine hrem.out.mono ?_
          rintro e w4 ⟨v4, rfl, h4⟩
          have hS4 := hS3.call0 h4.out
          have hr4 := h4.rdI 0 rfl
          have hin4 : In p (remL p xs (tryP p d n)) := In.remL (by omega) Hx.out
          have hlen4 : p ^ (remL p xs (tryP p d n)).length ≤ 1099511627776 := by
            have h9 := remL_len (p := p) (xs := xs) (ys := tryP p d n)
            rw [tryP_len] at h9
            have := pow_mono (p := p) (by omega) (show (remL p xs (tryP p d n)).length ≤ d by omega)
            rw [HK.out] at this; omega
          have hnum := Lib.hid (l03Number_c v4 _ p w4 hr4 (by omega) p64 hin4 hlen4)
          have hzz := Lib.hid (numL_zero (base := p) (by omega) hin4)
          clear hS2 hS3 hS hin4 hlen4
          go_wp2_with fail
          refine hnum.out.mono ?_
          rintro e w5 ⟨rfl, rfl⟩
          by_cases hz : numL p (remL p xs (tryP p d n)) = 0
          · have f0 := eq_t hz
            have Hz := Lib.hid (hzz.out.1 hz); clear hz
            go_wp2_with fail
            go_ret
            exact ⟨ret_bool (irrB_no d1 (by rw [HD.out]; omega) (by rw [HK.out]; omega) Hz.out).symm, hS4.out⟩
          · have f0 := eq_f hz
            have Hz : Hid (zeroL (remL p xs (tryP p d n)) = false) := by
              unfold Hid
              cases h9 : zeroL (remL p xs (tryP p d n)) with
              | false => rfl
              | true => exact absurd (hzz.out.2 h9) hz
            clear hz
            go_wp2_with fail
            go_roundw
            case rel => exact ⟨n + 1, by omega, by go_num, fun m hm => by
              by_cases e : m = n
              · subst e; exact Hz.out
              · exact hJ.out m (by omega), hS4.out⟩
            case measure => simp [intOf]; omega
        · obtain rfl : n = K := by omega
          go_wp2_with fail
          refine (hpow _).out.mono ?_
          rintro e w2 ⟨rfl, rfl⟩
          go_wp2_with fail
          go_roundw
          case rel => exact ⟨d + 1, by omega, by go_num, by omega, fun d' m h1 h2 hm => by
            by_cases e : d' = d
            · subst e; rw [HK.out, Int.toNat_natCast] at hm; exact hJ.out m hm
            · exact hI.out d' m h1 (by omega) hm, hS⟩
          case measure => simp [intOf]; omega
    · go_wp2_with fail
      go_ret
      exact ⟨ret_bool (irrB_iff.2 fun d' n h1 h2 h3 => hI.out d' n h1 (by rw [HD.out] at h2; omega) h3).symm, hS⟩


theorem lfac_no {q f d : Nat} (h : q % d ≠ 0) : lfac q (f + 1) d = lfac q f (d + 1) := by rw [lfac, if_neg h]
theorem lfac_yes {q f d : Nat} (h : q % d = 0) : lfac q f d = d := by
  cases f with
  | zero => rfl
  | succ f => rw [lfac, if_pos h]

set_option maxHeartbeats 2000000 in
set_option maxRecDepth 100000 in
theorem l03Split_no (q : Int) (w : World) (h : inB q 2 64 = false) : Calls Try.prog 165 #[.int .i64 q] w fun e w' => e = .returned (.tuple #[.int .i64 0, .int .i64 0]) ∧ w = w' := by
  go_enter Try.func165, Try.ntmps165
  go_wp2_with (go_at_call 63; refine (l00In_c _ _ _ _).mono ?_; rintro e w3 ⟨rfl, rfl⟩)
  go_ret2
  exact ⟨rfl, rfl⟩
set_option maxHeartbeats 2000000 in
set_option maxRecDepth 100000 in
theorem l03Split_c (q : Nat) (w : World) (q2 : 2 ≤ q) (q64 : q ≤ 64) : Calls Try.prog 165 #[.int .i64 q] w fun e w' => e = .returned (.tuple #[.int .i64 ((spl q).1 : Nat), .int .i64 ((spl q).2 : Nat)]) ∧ w = w' := by
  have hin : inB (q : Int) 2 64 = true := inB_true ⟨by omega, by omega⟩
  go_enter Try.func165, Try.ntmps165
  go_wp2_with (go_at_call 63; refine (l00In_c _ _ _ _).mono ?_; rintro e w3 ⟨rfl, rfl⟩)
  clear hin
  go_loop [4] (fun pp => ∃ k : Nat, 2 ≤ k ∧ k ≤ q ∧ pp = .int .i64 k ∧ Hid (lfac q 64 2 = lfac q (66 - k) k)) (fun pp => q - (intOf pp).toNat)
  case atStart => exact ⟨2, by omega, by omega, rfl, rfl⟩
  case round =>
    obtain ⟨k, k2, kq, rfl, hI⟩ := hrel
    have fk : ((k : Int) == 0) = false := eq_f (by omega)
    have hmn : (q : Int) % k = ((q % k : Nat) : Int) := by simp
    by_cases h : q % k = 0
    · have f0 : ((q : Int) % k != 0) = false := ne_f (by rw [hmn, h]; rfl)
      have HL := Lib.hid (show lfac q 64 2 = k by rw [hI.out, lfac_yes h])
      have H := Lib.hid h
      clear h hmn
      go_wp2_with fail
      clear f0
      go_loop [5, 6] (fun cc nn => ∃ n c f : Nat, n ≤ f ∧ n ≤ q ∧ 1 ≤ n ∧ c + n ≤ 200 ∧ cc = .int .i64 c ∧ nn = .int .i64 n ∧ Hid (plog k 64 q 0 = plog k f n c)) (fun _ nn => (intOf nn).toNat)
      case atStart => exact ⟨q, 0, 64, by omega, by omega, by omega, by omega, rfl, rfl, rfl⟩
      case round =>
        obtain ⟨n, c, f, nf, nq, n1, c1, rfl, rfl, hJ⟩ := hrel
        obtain ⟨f, rfl⟩ : ∃ g, f = g + 1 := ⟨f - 1, by omega⟩
        have hmn : (n : Int) % k = ((n % k : Nat) : Int) := by simp
        have hdn : (n : Int) / k = ((n / k : Nat) : Int) := by simp
        by_cases hn : 1 < n
        · by_cases h : n % k = 0
          · have f0 : ((n : Int) % k != 0) = false := ne_f (by rw [hmn, h]; rfl)
            have HP := Lib.hid (show plog k (f + 1) n c = plog k f (n / k) (c + 1) by rw [plog, if_pos hn, if_pos h])
            have hd1 : n / k < n := Nat.div_lt_self (by omega) (by omega)
            have hd2 : 1 ≤ n / k := by
              apply Nat.div_pos _ (by omega)
              exact Nat.le_of_dvd (by omega) (Nat.dvd_of_mod_eq_zero h)
            have q0 : 0 ≤ (n : Int) / k := by omega
            have Hdn := Lib.hid hdn
            have q1 : (n : Int) / k ≤ 64 := by omega
            clear h hmn hdn
            go_wp2_with fail
            go_round
            case rel => exact ⟨n / k, c + 1, f, by omega, by omega, hd2, by omega, by go_num, by rw [Hdn.out], by unfold Hid; rw [hJ.out, HP.out]⟩
            case measure => rw [Hdn.out]; simp [intOf]; omega
          · have f0 : ((n : Int) % k != 0) = true := ne_t (by rw [hmn]; omega)
            have HP := Lib.hid (show plog k (f + 1) n c = none by rw [plog, if_pos hn, if_neg h])
            clear h hmn hdn
            go_wp2_with fail
            go_ret2
            exact ⟨ret_2i (by rw [spl, HL.out, hJ.out, HP.out]; rfl) (by rw [spl, HL.out, hJ.out, HP.out]; rfl), rfl⟩
        · have HP := Lib.hid (show plog k (f + 1) n c = some c by rw [plog, if_neg hn])
          clear hmn hdn
          go_wp2_with fail
          go_ret2
          exact ⟨ret_2i (by rw [spl, HL.out, hJ.out, HP.out]) (by rw [spl, HL.out, hJ.out, HP.out]), rfl⟩
    · have f0 : ((q : Int) % k != 0) = true := ne_t (by rw [hmn]; omega)
      have hlt : k < q := by
        apply Nat.lt_of_le_of_ne kq; intro e; subst e; exact h (Nat.mod_self _)
      have HL := Lib.hid (show lfac q 64 2 = lfac q (66 - (k + 1)) (k + 1) by rw [hI.out, show 66 - k = (66 - (k + 1)) + 1 by omega, lfac_no h])
      clear h hmn
      go_wp2_with fail
      go_round
      case rel => exact ⟨k + 1, by omega, by omega, by go_num, HL⟩
      case measure => simp [intOf]; omega


theorem fOk_no1 {p d : Int} {xs : List Int} (h : isPr p = false) : fOk p d xs = false := by simp [fOk, h]
theorem fOk_no2 {p d : Int} {xs : List Int} (h : ¬ 1 ≤ d) : fOk p d xs = false := by simp only [fOk, decide_eq_false h]; simp
theorem fOk_no3 {p d : Int} {xs : List Int} (h : ¬ pu p 64 d.toNat 1 ≤ 64) : fOk p d xs = false := by simp only [fOk, decide_eq_false h]; simp
theorem fOk_no4 {p d : Int} {xs : List Int} (h : (xs.length : Int) ≠ d + 1) : fOk p d xs = false := by simp only [fOk, decide_eq_false h]; simp
theorem fOk_no5 {p d : Int} {xs : List Int} (h : cf xs d.toNat ≠ 1) : fOk p d xs = false := by
  have : (cf xs d.toNat == 1) = false := eq_f h
  simp [fOk, this]
theorem fOk_no6 {p d : Int} {xs : List Int} (h : allIn p xs = false) : fOk p d xs = false := by simp [fOk, h]
theorem fOk_yes {p d : Int} {xs : List Int} (h1 : isPr p = true) (h2 : 1 ≤ d) (h3 : pu p 64 d.toNat 1 ≤ 64) (h4 : (xs.length : Int) = d + 1) (h5 : cf xs d.toNat = 1) (h6 : allIn p xs = true) : fOk p d xs = irrB p xs := by
  simp [fOk, h1, h2, h3, h4, h5, h6]
theorem allIn_no {p : Int} {xs : List Int} {k : Nat} (hk : k < xs.length) (h : inB (nth xs k) 0 (p - 1) = false) : allIn p xs = false := by
  cases hq : allIn p xs with
  | false => rfl
  | true =>
    have := allIn_iff.1 hq _ (nth_mem hk)
    rw [inB_true (by omega)] at h; cases h
theorem allIn_yes {p : Int} {xs : List Int} (h : ∀ k, k < xs.length → inB (nth xs k) 0 (p - 1) = true) : allIn p xs = true := by
  refine allIn_iff.2 fun x hx => ?_
  obtain ⟨k, hk, rfl⟩ := List.getElem_of_mem hx
  have := h k hk
  rw [nth_eq hk] at this
  simp [inB] at this; omega

/-- a field behind a pointer -/
def BoxF (w : World) (g : Nat) (p d : Int) (v : Value) : Prop :=
  w.cell? ⟨g, 0, none⟩ = some (.int .i64 p) ∧ w.cell? ⟨g, 1, none⟩ = some (.int .i64 d) ∧ w.cell? ⟨g, 2, none⟩ = some v
theorem cell_keepF {w w' : World} (hb : Below w.heap.size w w') {p : Addr} {u : Value} (h : w.cell? p = some u) : w'.cell? p = some u := by
  rw [hb.cell (World.block_lt_of_cell? _ _ h)]; exact h
theorem BoxF.keep {w w' : World} {g : Nat} {p d : Int} {v : Value} (h : BoxF w g p d v) (hb : Below w.heap.size w w') : BoxF w' g p d v :=
  ⟨cell_keepF hb h.1, cell_keepF hb h.2.1, cell_keepF hb h.2.2⟩
theorem St.oldF {w0 w : World} {L : List Ent} {g : Nat} {p d : Int} {v : Value} (h : St w0.heap.size w0 w L) (hr : BoxF w0 g p d v) : BoxF w g p d v := hr.keep h.below

theorem fOk_r1 {p d : Int} {xs : List Int} (h : inB p 2 64 = false) : fOk p d xs = false := by
  cases hq : fOk p d xs with
  | false => rfl
  | true => have := fOk_t hq; rw [inB_true ⟨this.p2, this.p64⟩] at h; cases h
theorem fOk_r2 {p d : Int} {xs : List Int} (h : inB d 1 6 = false) : fOk p d xs = false := by
  cases hq : fOk p d xs with
  | false => rfl
  | true => have := fOk_t hq; rw [inB_true ⟨this.d1, this.d6⟩] at h; cases h
theorem fOk_r3 {p d : Int} {xs : List Int} (h : ¬ p ^ d.toNat ≤ 64) : fOk p d xs = false := by
  cases hq : fOk p d xs with
  | false => rfl
  | true => exact absurd (fOk_t hq).q h

end Go.Proofs.Ytpfgbbbjldpnnaa
