/- Walks: sums of elements. Walks: the statements' sums of elements. -/
import Derived.Test.YtpfgbbbjldpnnaaVMat
namespace Go.Proofs.Ytpfgbbbjldpnnaa
set_option linter.unusedSimpArgs false
set_option linter.unusedVariables false
open Go.RowKit
attribute [local go_sem ↓] Go.wp_at_zero Go.wp_at_succ


/-- the first j places are x + s y -/
def smP (p : Int) (x y : List Int) (s : Int) (j : Nat) : List Int := tab x.length fun t => if t < j then (cf x t + s * cf y t) % p else cf x t
theorem smP_len (p : Int) (x y : List Int) (s : Int) (j : Nat) : (smP p x y s j).length = x.length := tab_len _ _
theorem smP_0 (p : Int) (x y : List Int) (s : Int) : smP p x y s 0 = x := by
  conv => rhs; rw [← tab_cf x]
  exact tab_congr fun t _ => by rw [if_neg (by omega)]
theorem smP_step {p : Int} {x y : List Int} {s : Int} {j : Nat} (hj : j < x.length) : (smP p x y s j).set j ((cf x j + s * cf y j) % p) = smP p x y s (j + 1) := by
  refine cf_ext (by simp [smP_len]) fun t ht => ?_
  rw [List.length_set, smP_len] at ht
  unfold smP
  rw [cf_set (by rw [tab_len]; exact hj), cf_tab ht, cf_tab ht]
  by_cases e : j = t
  · subst e; rw [if_pos rfl, if_pos (by omega)]
  · rw [if_neg e]
    by_cases h : t < j
    · rw [if_pos h, if_pos (by omega)]
    · rw [if_neg h, if_neg (by omega)]
theorem smP_at {p : Int} {x y : List Int} {s : Int} {j : Nat} (hj : j < x.length) : nth (smP p x y s j) j = nth x j := by
  have := cf_tab (f := fun t => if t < j then (cf x t + s * cf y t) % p else cf x t) hj
  rw [if_neg (by omega)] at this
  exact this
theorem smP_end {p : Int} {D : Nat} {a b s : Int} : numL p (smP p (dgt p D a) (dgt p D b) s D) = fsum p D a b s := by
  unfold smP fsum
  rw [dgt_len]
  congr 1
  exact tab_congr fun t ht => by rw [if_pos ht]
theorem smP_in {p : Int} (hp : 0 < p) {x y : List Int} {s : Int} {j : Nat} (hx : In p x) : In p (smP p x y s j) := by
  refine In.tab fun t ht => ?_
  split
  · exact ⟨Int.emod_nonneg _ (by omega), Int.emod_lt_of_pos _ hp⟩
  · exact hx.cf hp t
/-- p - 1 is -1 -/
theorem fsum_neg (p : Int) (D : Nat) (a b : Int) : fsum p D a b (p - 1) = fsum p D a b (-1) := by
  unfold fsum
  congr 1
  exact tab_congr fun t _ => by
    have e : cf (dgt p D a) t + (p - 1) * cf (dgt p D b) t = (cf (dgt p D a) t + -1 * cf (dgt p D b) t) + p * cf (dgt p D b) t := by grind
    rw [e, Int.add_mul_emod_self_left]

set_option maxHeartbeats 4000000 in
set_option maxRecDepth 100000 in
theorem combine_c (p : Int) (D : Nat) (v : Value) (xs : List Int) (a b s : Int) (w : World) (hv : RdI w v xs) (hf : FV p D xs) (a0 : 0 ≤ a) (a1 : a ≤ 1000000) (b0 : 0 ≤ b) (b1 : b ≤ 1000000) (hs : s = 1 ∨ s = -1) :
    Calls Try.prog 114 #[fv p D v, .int .i64 a, .int .i64 b, .int .i64 s] w (GivesI w (fsum p D a b s)) := by
  have hS0 := (St.refl w).newboxF 109 #[.int .i64 p, .int .i64 D, v]
  have p2 := hf.p2
  have p64 := hf.p64
  have d6 := hf.d6
  have hq := hf.q
  rw [Int.toNat_natCast] at hq
  have HQ := Lib.hid hq
  have fp : (p == 0) = false := eq_f (by omega)
  have c0 := hS0.bcell 0 rfl 0 rfl
  have c1 := hS0.bcell 0 rfl 1 rfl
  have hda := fun W => Lib.hid (digitsOf_c a p D W a0 (by omega) p2 (by omega) (by omega))
  have hdb := fun W => Lib.hid (digitsOf_c b p D W b0 (by omega) p2 (by omega) (by omega))
  rw [lows_dgt] at hda hdb
  have Hx := Lib.hid (dgt_in (base := p) (by omega) D a)
  have Hy := Lib.hid (dgt_in (base := p) (by omega) D b)
  have Hxl := Lib.hid (dgt_len p D a)
  have Hyl := Lib.hid (dgt_len p D b)
  have Hend := Lib.hid (smP_end (p := p) (D := D) (a := a) (b := b) (s := s))
  clear hf hq
  generalize dgt p D a = x at hda Hx Hxl Hend
  generalize dgt p D b = y at hdb Hy Hyl Hend
  have s0 : -1 ≤ s ∧ s ≤ 1 := by omega
  obtain ⟨s0, s1⟩ := s0
  have Hs := Lib.hid hs
  clear hs
  unfold fv
  go_enter Try.func114, Try.ntmps114
  go_wp2_with fail
  go_region_held3 (fun w' => w'.cell? ⟨w.heap.size, 0, none⟩ = some (.int .i64 p) ∧ w'.cell? ⟨w.heap.size, 1, none⟩ = some (.int .i64 D)) (go_keep)
    (first
    | (go_at_call_of 140 (Value.int .i64 a); refine (hda _).out.mono ?_; rintro e w1 ⟨vx, rfl, h1⟩; have hS1 := hS0.drew.call h1; have g0 := hS1.bcell 0 rfl 0 rfl; have g1 := hS1.bcell 0 rfl 1 rfl)
    | (go_at_call_of 140 (Value.int .i64 b); refine (hdb _).out.mono ?_; rintro e w2 ⟨vy, rfl, h2⟩; have hS2 := hS1.call h2; have k0 := hS2.bcell 0 rfl 0 rfl; have k1 := hS2.bcell 0 rfl 1 rfl))
  simp only [List.cons_append, List.nil_append] at hS2
  have hlx := (hS2.rdI 1 rfl).len
  rw [Hxl.out] at hlx
  clear hS1 h1 h2 g0 g1 hda hdb c0 c1 k0 k1
  go_wp2_with fail
  go_loopw [11, 26] (fun _ i wr => ∃ j : Nat, j ≤ D ∧ i = .int .i64 j ∧ St w.heap.size w wr [box 109 w.heap.size [.int .i64 p, .int .i64 D, v], row 2 vx (iv (smP p x y s j)), row 2 vy (iv y)]) (fun _ i _ => D - (intOf i).toNat)
  case atStart => exact ⟨0, by omega, rfl, by rw [smP_0]; exact hS2⟩
  case round =>
    obtain ⟨j, hj, rfl, hS⟩ := hrel
    by_cases hlt : j < D
    · have hat : j < (smP p x y s j).length := by rw [smP_len, Hxl.out]; exact hlt
      have hyt : j < y.length := by rw [Hyl.out]; exact hlt
      have hxt : j < x.length := by rw [Hxl.out]; exact hlt
      have hca := (hS.rdI 1 rfl).cell j hat
      have hcb := (hS.rdI 2 rfl).cell j hyt
      have hxa := (hS.rdI 1 rfl).ixe (j : Int) j rfl hat
      have hxb := (hS.rdI 2 rfl).ixe (j : Int) j rfl hyt
      rw [smP_at hxt] at hca
      have hab := Hx.out _ (nth_mem hxt)
      have hbb := Hy.out _ (nth_mem hyt)
      have hst := Lib.hid (smP_step (p := p) (x := x) (y := y) (s := s) hxt)
      have u1 := hS.unfrozen 1 rfl (j := j) (by rw [iv_len]; exact hat)
      have b0 := hS.bcell 0 rfl 0 rfl
      generalize hA : nth x j = A at hca hab
      generalize hB : nth y j = B at hcb hbb
      have HA := Lib.hid hA
      have HB := Lib.hid hB
      obtain ⟨a2, a3⟩ := hab
      obtain ⟨b2, b3⟩ := hbb
      have hsb : -p < s * B ∧ s * B < p := by
        rcases Hs.out with h | h
        · subst h; omega
        · subst h; omega
      obtain ⟨n0, n1⟩ := hsb
      have hs1 := hS.store 1 rfl (j := j) (by rw [iv_len]; exact hat) (.int .i64 ((A + s * B) % p))
      have hs2 := Lib.hid hs1.drew
      clear hA hB hat hyt hxt hs1
      go_wp2_with fail
      go_region
      all_goals
        go_wp2_with fail
        go_roundw
        case rel =>
          refine ⟨j + 1, by omega, by go_num, ?_⟩
          have h := hs2.out
          rw [iv_set] at h
          rw [← hst.out, show cf x j = A from HA.out, show cf y j = B from HB.out]
          exact h
        case measure => simp [intOf]; omega
    · obtain rfl : j = D := by omega
      have b0 := hS.bcell 0 rfl 0 rfl
      have hnum := Lib.hid (numberOf_c vx (smP p x y s j) p wr (hS.rdI 1 rfl) (by omega) p64 (smP_in (by omega) Hx.out) (by rw [smP_len, Hxl.out]; have := HQ.out; omega))
      rw [Hend.out] at hnum
      go_wp2_with fail
      refine hnum.out.mono ?_
      rintro e w3 ⟨rfl, rfl⟩
      go_wp2_with fail
      go_ret
      exact ⟨rfl, hS.out⟩


set_option maxHeartbeats 4000000 in
set_option maxRecDepth 100000 in
theorem l03Sum_c (p : Int) (D : Nat) (g : Nat) (v : Value) (xs : List Int) (a b s : Int) (w : World) (hbx : BoxF w g p D v) (hf : FV p D xs) (a0 : 0 ≤ a) (a1 : a ≤ 1000000) (b0 : 0 ≤ b) (b1 : b ≤ 1000000) (s0 : 0 ≤ s) (s1 : s ≤ 64) :
    Calls Try.prog 148 #[.pointer (some ⟨g, 0, none⟩), .int .i64 a, .int .i64 b, .int .i64 s] w (GivesI w (fsum p D a b s)) := by
  have hS0 := St.refl w
  have p2 := hf.p2
  have p64 := hf.p64
  have d6 := hf.d6
  have hq := hf.q
  rw [Int.toNat_natCast] at hq
  have HQ := Lib.hid hq
  have fp : (p == 0) = false := eq_f (by omega)
  have c0 := hbx.1
  have c1 := hbx.2.1
  have hda := fun W => Lib.hid (l03Digits_c a p D W a0 (by omega) p2 (by omega) (by omega))
  have hdb := fun W => Lib.hid (l03Digits_c b p D W b0 (by omega) p2 (by omega) (by omega))
  rw [lows_dgt] at hda hdb
  have Hx := Lib.hid (dgt_in (base := p) (by omega) D a)
  have Hy := Lib.hid (dgt_in (base := p) (by omega) D b)
  have Hxl := Lib.hid (dgt_len p D a)
  have Hyl := Lib.hid (dgt_len p D b)
  have Hend := Lib.hid (smP_end (p := p) (D := D) (a := a) (b := b) (s := s))
  clear hf hq
  generalize dgt p D a = x at hda Hx Hxl Hend
  generalize dgt p D b = y at hdb Hy Hyl Hend
  have HB := Lib.hid hbx
  go_enter Try.func148, Try.ntmps148
  go_wp2_with fail
  go_region_held3 (fun w' => w'.cell? ⟨g, 0, none⟩ = some (.int .i64 p) ∧ w'.cell? ⟨g, 1, none⟩ = some (.int .i64 D)) (go_keep)
    ((go_at_call_of 166 (Value.int .i64 a); refine (hda _).out.mono ?_; rintro e w1 ⟨vx, rfl, h1⟩; have hS1 := hS0.drew.call h1; have g0 := (hS1.oldF HB.out).1; have g1 := (hS1.oldF HB.out).2.1))
  go_wp2_with fail
  go_region_held3 (fun w' => w'.cell? ⟨g, 0, none⟩ = some (.int .i64 p) ∧ w'.cell? ⟨g, 1, none⟩ = some (.int .i64 D)) (go_keep)
    ((go_at_call_of 166 (Value.int .i64 b); refine (hdb _).out.mono ?_; rintro e w2 ⟨vy, rfl, h2⟩; have hS2 := hS1.drew.call h2; have k0 := (hS2.oldF HB.out).1; have k1 := (hS2.oldF HB.out).2.1))
  simp only [List.cons_append, List.nil_append] at hS2
  have hlx := (hS2.rdI 0 rfl).len
  rw [Hxl.out] at hlx
  clear hS1 h1 h2 g0 g1 hda hdb c0 c1 k0 k1
  go_wp2_with fail
  go_loopw [11] (fun i wr => ∃ j : Nat, j ≤ D ∧ i = .int .i64 j ∧ St w.heap.size w wr [row 2 vx (iv (smP p x y s j)), row 2 vy (iv y)]) (fun i _ => D - (intOf i).toNat)
  case atStart => exact ⟨0, by omega, rfl, by rw [smP_0]; exact hS2⟩
  case round =>
    obtain ⟨j, hj, rfl, hS⟩ := hrel
    by_cases hlt : j < D
    · have hat : j < (smP p x y s j).length := by rw [smP_len, Hxl.out]; exact hlt
      have hyt : j < y.length := by rw [Hyl.out]; exact hlt
      have hxt : j < x.length := by rw [Hxl.out]; exact hlt
      have hca := (hS.rdI 0 rfl).cell j hat
      have hcb := (hS.rdI 1 rfl).cell j hyt
      have hxa := (hS.rdI 0 rfl).ixe (j : Int) j rfl hat
      have hxb := (hS.rdI 1 rfl).ixe (j : Int) j rfl hyt
      rw [smP_at hxt] at hca
      have hab := Hx.out _ (nth_mem hxt)
      have hbb := Hy.out _ (nth_mem hyt)
      have hst := Lib.hid (smP_step (p := p) (x := x) (y := y) (s := s) hxt)
      have u1 := hS.unfrozen 0 rfl (j := j) (by rw [iv_len]; exact hat)
      have b0 := (hS.oldF HB.out).1
      generalize hA : nth x j = A at hca hab
      generalize hB : nth y j = B at hcb hbb
      have HA := Lib.hid hA
      have HBB := Lib.hid hB
      obtain ⟨a2, a3⟩ := hab
      obtain ⟨b2, b3⟩ := hbb
      have n0 : 0 ≤ s * B := Int.mul_nonneg s0 b2
      have n1 : s * B ≤ 4096 := Int.le_trans (Int.mul_le_mul s1 (show B ≤ 64 by omega) b2 (by omega)) (by omega)
      have hs1 := hS.store 0 rfl (j := j) (by rw [iv_len]; exact hat) (.int .i64 ((A + s * B) % p))
      have hs2 := Lib.hid hs1.drew
      clear hA hB hat hyt hxt hs1
      go_wp2_with fail
      go_region
      all_goals
        go_wp2_with fail
        go_roundw
        case rel =>
          refine ⟨j + 1, by omega, by go_num, ?_⟩
          have h := hs2.out
          rw [iv_set] at h
          rw [← hst.out, show cf x j = A from HA.out, show cf y j = B from HBB.out]
          exact h
        case measure => simp [intOf]; omega
    · obtain rfl : j = D := by omega
      have b0 := (hS.oldF HB.out).1
      have hnum := Lib.hid (l03Number_c vx (smP p x y s j) p wr (hS.rdI 0 rfl) (by omega) p64 (smP_in (by omega) Hx.out) (by rw [smP_len, Hxl.out]; have := HQ.out; omega))
      rw [Hend.out] at hnum
      go_wp2_with fail
      refine hnum.out.mono ?_
      rintro e w3 ⟨rfl, rfl⟩
      go_wp2_with fail
      go_ret
      exact ⟨rfl, hS.out⟩

end Go.Proofs.Ytpfgbbbjldpnnaa
