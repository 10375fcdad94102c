/- The texts of this claim, run 7: Sum Mul Tab Dot Mf SqE. -/
import Derived.Test.YtejncephbafcdaaK1
import Derived.Test.YtejncephbafcdaaK4
import Derived.Test.YtejncephbafcdaaK5
import Derived.Test.YtejncephbafcdaaK6
import Derived.Deep.CutRange
section
/- Walks: sums of elements. Walks: the statements' sums of elements. -/
namespace Go.Proofs.Ytejncephbafcdaa
set_option linter.unusedSimpArgs false
set_option linter.unusedVariables false
open Go.RowKit
attribute [local go_sem ↓] Go.wp_at_zero Go.wp_at_succ


/-- the first j places are x + s y -/
def smP (p : Int) (x y : List Int) (s : Int) (j : Nat) : List Int := tab x.length fun t => if t < j then (cf x t + s * cf y t) % p else cf x t
theorem smP_len (p : Int) (x y : List Int) (s : Int) (j : Nat) : (smP p x y s j).length = x.length := tab_len _ _
theorem smP_0 (p : Int) (x y : List Int) (s : Int) : smP p x y s 0 = x := by
  conv => rhs; rw [← tab_cf x]
  exact tab_congr fun t _ => by rw [if_neg (by omega)]
theorem smP_step {p : Int} {x y : List Int} {s : Int} {j : Nat} (hj : j < x.length) : (smP p x y s j).set j ((cf x j + s * cf y j) % p) = smP p x y s (j + 1) := by
  refine cf_ext (by simp [smP_len]) fun t ht => ?_
  rw [List.length_set, smP_len] at ht
  unfold smP
  rw [cf_set (by rw [tab_len]; exact hj), cf_tab ht, cf_tab ht]
  by_cases e : j = t
  · subst e; rw [if_pos rfl, if_pos (by omega)]
  · rw [if_neg e]
    by_cases h : t < j
    · rw [if_pos h, if_pos (by omega)]
    · rw [if_neg h, if_neg (by omega)]
theorem smP_at {p : Int} {x y : List Int} {s : Int} {j : Nat} (hj : j < x.length) : nth (smP p x y s j) j = nth x j := by
  have := cf_tab (f := fun t => if t < j then (cf x t + s * cf y t) % p else cf x t) hj
  rw [if_neg (by omega)] at this
  exact this
theorem smP_end {p : Int} {D : Nat} {a b s : Int} : numL p (smP p (dgt p D a) (dgt p D b) s D) = fsum p D a b s := by
  unfold smP fsum
  rw [dgt_len]
  congr 1
  exact tab_congr fun t ht => by rw [if_pos ht]
theorem smP_in {p : Int} (hp : 0 < p) {x y : List Int} {s : Int} {j : Nat} (hx : In p x) : In p (smP p x y s j) := by
  refine In.tab fun t ht => ?_
  split
  · exact ⟨Int.emod_nonneg _ (by omega), Int.emod_lt_of_pos _ hp⟩
  · exact hx.cf hp t
set_option maxHeartbeats 4000000 in
set_option maxRecDepth 100000 in
theorem l03Sum_c (p : Int) (D : Nat) (g : Nat) (v : Value) (xs : List Int) (a b s : Int) (w : World) (hbx : BoxF w g p D v) (hf : FV p D xs) (a0 : 0 ≤ a) (a1 : a ≤ 1000000) (b0 : 0 ≤ b) (b1 : b ≤ 1000000) (s0 : 0 ≤ s) (s1 : s ≤ 64) :
    Calls Try.prog 136 #[.pointer (some ⟨g, 0, none⟩), .int .i64 a, .int .i64 b, .int .i64 s] w (GivesI w (fsum p D a b s)) := by
  have hS0 := St.refl w
  have p2 := hf.p2
  have p64 := hf.p64
  have d6 := hf.d6
  have hq := hf.q
  rw [Int.toNat_natCast] at hq
  have HQ := Lib.hid hq
  have fp : (p == 0) = false := eq_f (by omega)
  have c0 := hbx.1
  have c1 := hbx.2.1
  have hda := fun W => Lib.hid (l03Digits_c a p D W a0 (by omega) p2 (by omega) (by omega))
  have hdb := fun W => Lib.hid (l03Digits_c b p D W b0 (by omega) p2 (by omega) (by omega))
  rw [lows_dgt] at hda hdb
  have Hx := Lib.hid (dgt_in (base := p) (by omega) D a)
  have Hy := Lib.hid (dgt_in (base := p) (by omega) D b)
  have Hxl := Lib.hid (dgt_len p D a)
  have Hyl := Lib.hid (dgt_len p D b)
  have Hend := Lib.hid (smP_end (p := p) (D := D) (a := a) (b := b) (s := s))
  clear hf hq
  generalize dgt p D a = x at hda Hx Hxl Hend
  generalize dgt p D b = y at hdb Hy Hyl Hend
  have HB := Lib.hid hbx
  go_enter Try.func136, Try.ntmps136
  go_wp2_with fail
  go_region_held3 (fun w' => w'.cell? ⟨g, 0, none⟩ = some (.int .i64 p) ∧ w'.cell? ⟨g, 1, none⟩ = some (.int .i64 D)) (go_keep)
    ((go_at_call_of 159 (Value.int .i64 a); refine (hda _).out.mono ?_; rintro e w1 ⟨vx, rfl, h1⟩; have hS1 := hS0.drew.call h1; have g0 := (hS1.oldF HB.out).1; have g1 := (hS1.oldF HB.out).2.1))
  go_wp2_with fail
  go_region_held3 (fun w' => w'.cell? ⟨g, 0, none⟩ = some (.int .i64 p) ∧ w'.cell? ⟨g, 1, none⟩ = some (.int .i64 D)) (go_keep)
    ((go_at_call_of 159 (Value.int .i64 b); refine (hdb _).out.mono ?_; rintro e w2 ⟨vy, rfl, h2⟩; have hS2 := hS1.drew.call h2; have k0 := (hS2.oldF HB.out).1; have k1 := (hS2.oldF HB.out).2.1))
  simp only [List.cons_append, List.nil_append] at hS2
  have hlx := (hS2.rdI 0 rfl).len
  rw [Hxl.out] at hlx
  clear hS1 h1 h2 g0 g1 hda hdb c0 c1 k0 k1
  go_wp2_with fail
  go_loopw [11] (fun i wr => ∃ j : Nat, j ≤ D ∧ i = .int .i64 j ∧ St w.heap.size w wr [row 2 vx (iv (smP p x y s j)), row 2 vy (iv y)]) (fun i _ => D - (intOf i).toNat)
  case atStart => exact ⟨0, by omega, rfl, by rw [smP_0]; exact hS2⟩
  case round =>
    obtain ⟨j, hj, rfl, hS⟩ := hrel
    by_cases hlt : j < D
    · have hat : j < (smP p x y s j).length := by rw [smP_len, Hxl.out]; exact hlt
      have hyt : j < y.length := by rw [Hyl.out]; exact hlt
      have hxt : j < x.length := by rw [Hxl.out]; exact hlt
      have hca := (hS.rdI 0 rfl).cell j hat
      have hcb := (hS.rdI 1 rfl).cell j hyt
      have hxa := (hS.rdI 0 rfl).ixe (j : Int) j rfl hat
      have hxb := (hS.rdI 1 rfl).ixe (j : Int) j rfl hyt
      rw [smP_at hxt] at hca
      have hab := Hx.out _ (nth_mem hxt)
      have hbb := Hy.out _ (nth_mem hyt)
      have hst := Lib.hid (smP_step (p := p) (x := x) (y := y) (s := s) hxt)
      have u1 := hS.unfrozen 0 rfl (j := j) (by rw [iv_len]; exact hat)
      have b0 := (hS.oldF HB.out).1
      generalize hA : nth x j = A at hca hab
      generalize hB : nth y j = B at hcb hbb
      have HA := Lib.hid hA
      have HBB := Lib.hid hB
      obtain ⟨a2, a3⟩ := hab
      obtain ⟨b2, b3⟩ := hbb
      have n0 : 0 ≤ s * B := Int.mul_nonneg s0 b2
      have n1 : s * B ≤ 4096 := Int.le_trans (Int.mul_le_mul s1 (show B ≤ 64 by omega) b2 (by omega)) (by omega)
      have hs1 := hS.store 0 rfl (j := j) (by rw [iv_len]; exact hat) (.int .i64 ((A + s * B) % p))
      have hs2 := Lib.hid hs1.drew
      clear hA hB hat hyt hxt hs1
      go_wp2_with fail
      go_region
      all_goals
        go_wp2_with fail
        go_roundw
        case rel =>
          refine ⟨j + 1, by omega, by go_num, ?_⟩
          have h := hs2.out
          rw [iv_set] at h
          rw [← hst.out, show cf x j = A from HA.out, show cf y j = B from HBB.out]
          exact h
        case measure => simp [intOf]; omega
    · obtain rfl : j = D := by omega
      have b0 := (hS.oldF HB.out).1
      have hnum := Lib.hid (l03Number_c vx (smP p x y s j) p wr (hS.rdI 0 rfl) (by omega) p64 (smP_in (by omega) Hx.out) (by rw [smP_len, Hxl.out]; have := HQ.out; omega))
      rw [Hend.out] at hnum
      go_wp2_with fail
      refine hnum.out.mono ?_
      rintro e w3 ⟨rfl, rfl⟩
      go_wp2_with fail
      go_ret
      exact ⟨rfl, hS.out⟩

end Go.Proofs.Ytejncephbafcdaa
end

section
/- Walks: products of elements. Walks: the statements' products of elements. -/
namespace Go.Proofs.Ytejncephbafcdaa
set_option linter.unusedSimpArgs false
set_option linter.unusedVariables false
open Go.RowKit
attribute [local go_sem ↓] Go.wp_at_zero Go.wp_at_succ


theorem cvr_in {p : Int} (hp : 0 < p) (x y : List Int) (D n i j : Nat) : In p (cvr p x y D n i j) := by
  refine In.tab fun t _ => ?_
  split
  · exact cvl_in hp x y D _ t
  · exact cvl_in hp x y D _ t
theorem cvr_inl {p : Int} (hp : 0 < p) (x y : List Int) (D n i : Nat) : In p (tab n (cvl p x y D i)) := In.tab fun t _ => cvl_in hp x y D i t

set_option maxHeartbeats 8000000 in
set_option maxRecDepth 100000 in
theorem l03Mul_c (p : Int) (D : Nat) (g : Nat) (v : Value) (xs : List Int) (a b : Int) (w : World) (hv : RdI w v xs) (hbx : BoxF w g p D v) (hf : FV p D xs) (a0 : 0 ≤ a) (a1 : a ≤ 1000000) (b0 : 0 ≤ b) (b1 : b ≤ 1000000) :
    Calls Try.prog 137 #[.pointer (some ⟨g, 0, none⟩), .int .i64 a, .int .i64 b] w (GivesI w (fmul p D xs a b)) := by
  have hS0 := St.refl w
  have p2 := hf.p2
  have p64 := hf.p64
  have d6 := hf.d6
  have d1 := hf.d1
  have HQ := Lib.hid hf.len
  have hq := hf.q
  rw [Int.toNat_natCast] at hq
  have HP := Lib.hid hq
  clear hq
  have Hin := Lib.hid hf.inp
  have fp : (p == 0) = false := eq_f (by omega)
  have c0 := hbx.1
  have c1 := hbx.2.1
  have HBX := Lib.hid hbx
  have hda := fun W => Lib.hid (l03Digits_c a p D W a0 (by omega) p2 (by omega) (by omega))
  have hdb := fun W => Lib.hid (l03Digits_c b p D W b0 (by omega) p2 (by omega) (by omega))
  rw [lows_dgt] at hda hdb
  have Hx := Lib.hid (dgt_in (base := p) (by omega) D a)
  have Hy := Lib.hid (dgt_in (base := p) (by omega) D b)
  have Hxl := Lib.hid (dgt_len p D a)
  have Hyl := Lib.hid (dgt_len p D b)
  have Hend := Lib.hid (show numL p (remL p (tab (2 * D - 1) (cvl p (dgt p D a) (dgt p D b) D D)) xs) = fmul p D xs a b from rfl)
  generalize fmul p D xs a b = R at Hend ⊢
  clear hf
  generalize dgt p D a = x at hda Hx Hxl Hend
  generalize dgt p D b = y at hdb Hy Hyl Hend
  go_enter Try.func137, Try.ntmps137
  go_wp2_with fail
  go_region_held3 (fun w' => w'.cell? ⟨g, 0, none⟩ = some (.int .i64 p) ∧ w'.cell? ⟨g, 1, none⟩ = some (.int .i64 D)) (go_keep)
    ((go_at_call_of 159 (Value.int .i64 a); refine (hda _).out.mono ?_; rintro e w1 ⟨vx, rfl, h1⟩; have hS1 := hS0.drew.call h1; have g0 := (hS1.oldF HBX.out).1; have g1 := (hS1.oldF HBX.out).2.1))
  go_wp2_with fail
  go_region_held3 (fun w' => w'.cell? ⟨g, 0, none⟩ = some (.int .i64 p) ∧ w'.cell? ⟨g, 1, none⟩ = some (.int .i64 D)) (go_keep)
    ((go_at_call_of 159 (Value.int .i64 b); refine (hdb _).out.mono ?_; rintro e w2 ⟨vy, rfl, h2⟩; have hS2 := hS1.drew.call h2; have k0 := (hS2.oldF HBX.out).1; have k1 := (hS2.oldF HBX.out).2.1))
  simp only [List.cons_append, List.nil_append] at hS2
  clear hS1 h1 h2 g0 g1 hda hdb c0 c1 k0
  have hlx := (hS2.rdI 0 rfl).len
  have hly := (hS2.rdI 1 rfl).len
  have hM : ((2 * D - 1 : Nat) : Int) = 2 * (D : Int) - 1 := by omega
  rw [Hxl.out] at hlx
  rw [Hyl.out] at hly
  go_wp2_with (at_make; refine mkI hS2 rfl _ _ rfl _ _ (2 * D - 1) (by rw [hM]; go_num) (by rw [hM]; go_num) (by omega) ?_; intro vz w3 hS3)
  simp only [List.cons_append, List.nil_append] at hS3
  clear k1 hS2 hM
  go_wp2_with fail
  go_loopw [10] (fun i wr => ∃ j : Nat, j ≤ D ∧ i = .int .i64 j ∧ St w.heap.size w wr [row 2 vx (iv x), row 2 vy (iv y), row 2 vz (iv (tab (2 * D - 1) (cvl p x y D j)))]) (fun i _ => D - (intOf i).toNat)
  case atStart => exact ⟨0, by omega, rfl, by rw [cvl_0]; exact hS3⟩
  case round =>
    obtain ⟨i, hi, rfl, hS⟩ := hrel
    by_cases hlt : i < D
    · rw [← cvr_0 p x y D (2 * D - 1) i] at hS
      go_wp2_with fail
      go_loopw [11] (fun u wr => ∃ j : Nat, j ≤ D ∧ u = .int .i64 j ∧ St w.heap.size w wr [row 2 vx (iv x), row 2 vy (iv y), row 2 vz (iv (cvr p x y D (2 * D - 1) i j))]) (fun u _ => D - (intOf u).toNat)
      case atStart => exact ⟨0, by omega, rfl, hS⟩
      case round =>
        obtain ⟨j, hj, rfl, hT⟩ := hrel
        by_cases hlu : j < D
        · have hat : i + j < (cvr p x y D (2 * D - 1) i j).length := by rw [cvr_len]; omega
          have hxt : i < x.length := by rw [Hxl.out]; exact hlt
          have hyt : j < y.length := by rw [Hyl.out]; exact hlu
          have hcz := (hT.rdI 2 rfl).cell (i + j) hat
          have hcx := (hT.rdI 0 rfl).cell i hxt
          have hcy := (hT.rdI 1 rfl).cell j hyt
          have hiz := (hT.rdI 2 rfl).ixe ((i : Int) + (j : Int)) (i + j) (by omega) hat
          have hix := (hT.rdI 0 rfl).ixe (i : Int) i rfl hxt
          have hiy := (hT.rdI 1 rfl).ixe (j : Int) j rfl hyt
          have hab := Hx.out _ (nth_mem hxt)
          have hbb := Hy.out _ (nth_mem hyt)
          have hcc := cvr_in (by omega) x y D (2 * D - 1) i j _ (nth_mem hat)
          have hst := Lib.hid (cvr_step (p := p) (x := x) (y := y) (D := D) (n := 2 * D - 1) (i := i) (j := j) hlu (by omega))
          have u1 := hT.unfrozen 2 rfl (j := i + j) (by rw [iv_len]; exact hat)
          have e0 := (hT.oldF HBX.out).1
          generalize hA : nth x i = A at hcx hab
          generalize hB : nth y j = B at hcy hbb
          generalize hC : nth (cvr p x y D (2 * D - 1) i j) (i + j) = C at hcz hcc
          have HA := Lib.hid hA
          have HB := Lib.hid hB
          have HC := Lib.hid hC
          obtain ⟨a2, a3⟩ := hab
          obtain ⟨b2, b3⟩ := hbb
          obtain ⟨e2, e3⟩ := hcc
          have n0 : 0 ≤ A * B := Int.mul_nonneg a2 b2
          have n1 : A * B ≤ 4096 := Int.le_trans (Int.mul_le_mul (show A ≤ 64 by omega) (show B ≤ 64 by omega) b2 (by omega)) (by omega)
          have hs1 := hT.store 2 rfl (j := i + j) (by rw [iv_len]; exact hat) (.int .i64 ((C + A * B) % p))
          have hs2 := Lib.hid hs1.drew
          clear hA hB hC hat hyt hxt hs1
          go_wp2_with fail
          go_region
          all_goals
            go_wp2_with fail
            go_roundw
            case rel =>
              refine ⟨j + 1, by omega, by go_num, ?_⟩
              have h := hs2.out
              rw [iv_set] at h
              rw [← hst.out, show cf x i = A from HA.out, show cf y j = B from HB.out, show cf (cvr p x y D (2 * D - 1) i j) (i + j) = C from HC.out]
              exact h
            case measure => simp [intOf]; omega
        · obtain rfl : j = D := by omega
          rw [cvr_end] at hT
          go_wp2_with fail
          go_roundw
          case rel => exact ⟨i + 1, by omega, by go_num, hT⟩
          case measure => simp [intOf]; omega
    · obtain rfl : D = i := by omega
      have hrem := Lib.hid (l03Rest_c vz v _ xs p _ (hS.drew.rdI 2 rfl) (hS.drew.oldI hv) p2 p64 (cvr_inl (by omega) x y D (2 * D - 1) D) Hin.out (by rw [tab_len]; omega) (by have := HQ.out; omega) (by have := HQ.out; omega))
      have c0 := (hS.oldF HBX.out).1
      have c2 := (hS.oldF HBX.out).2.2
      have Hri : Hid (In p (remL p (tab (2 * D - 1) (cvl p x y D D)) xs)) := Lib.hid (In.remL (by omega) (cvr_inl (by omega) x y D (2 * D - 1) D))
      have Hrl : Hid ((remL p (tab (2 * D - 1) (cvl p x y D D)) xs).length ≤ xs.length - 1) := Lib.hid remL_len
      generalize remL p (tab (2 * D - 1) (cvl p x y D D)) xs = rr at hrem Hri Hrl Hend
      go_wp2_with fail
      go_region_held3 (fun w' => w'.cell? ⟨g, 0, none⟩ = some (.int .i64 p) ∧ w'.cell? ⟨g, 2, none⟩ = some v) (go_keep)
        (first
        | (go_at_call_of 162 vz; refine (hrem.out).mono ?_; rintro e w5 ⟨vr, rfl, h5⟩; have hS5 := hS.drew.call h5; have k0 := (hS5.oldF HBX.out).1; have k2 := (hS5.oldF HBX.out).2.2)
        | (go_at_call_of 161 vr; refine (l03Number_c vr rr p _ (hS5.rdI 3 rfl) (by omega) p64 Hri.out (by have h1 := Hrl.out; have h2 := HQ.out; have h3 := HP.out; exact Int.le_trans (Int.le_trans (pow_mono (by omega) (show rr.length ≤ D by omega)) h3) (by omega))).mono ?_; rintro e w6 ⟨rfl, rfl⟩))
      simp only [List.cons_append, List.nil_append] at hS5
      go_wp2_with fail
      go_ret
      exact ⟨Hend.out ▸ rfl, hS5.out⟩

end Go.Proofs.Ytejncephbafcdaa
end

section
/- Walks: the tables of a field. -/
namespace Go.Proofs.Ytejncephbafcdaa
set_option linter.unusedSimpArgs false
set_option linter.unusedVariables false
open Go.RowKit
attribute [local go_sem ↓] Go.wp_at_zero Go.wp_at_succ

/-- a square table -/
def tb (q : Nat) (f : Nat → Nat → Int) : List (List Int) := (List.range q).map fun a => tab q (f a)
theorem tb_len (q : Nat) (f : Nat → Nat → Int) : (tb q f).length = q := by simp [tb]
theorem xat_tb {q : Nat} {f : Nat → Nat → Int} {a : Nat} (h : a < q) : xat (tb q f) a = tab q (f a) := by simp [xat, tb, h]
def invT (p : Int) (D : Nat) (fs : List Int) : List Int := tab (qn p D) fun i => invN p D fs i (qn p D)
def fAdd (p : Int) (D : Nat) (a b : Nat) : Int := fsum p D a b 1
def fSub (p : Int) (D : Nat) (a b : Nat) : Int := fsum p D a b (-1)
def fMul (p : Int) (D : Nat) (fs : List Int) (a b : Nat) : Int := fmul p D fs a b
end Go.Proofs.Ytejncephbafcdaa
end

section
/- Walks: sums of products, by tables and by the reference. Walks: the reference's sums of products. -/
namespace Go.Proofs.Ytejncephbafcdaa
set_option linter.unusedSimpArgs false
set_option linter.unusedVariables false
open Go.RowKit
attribute [local go_sem ↓] Go.wp_at_zero Go.wp_at_succ


/-- the tables of a field, as they lie in memory -/
structure TB (w : World) (p : Int) (D : Nat) (fs : List Int) (va : Value) (ua : List Value) (vs : Value) (us : List Value) (vm : Value) (um : List Value) (vi : Value) : Prop where
  a : RII w va ua (tb (qn p D) (fAdd p D))
  s : RII w vs us (tb (qn p D) (fSub p D))
  m : RII w vm um (tb (qn p D) (fMul p D fs))
  i : RdI w vi (invT p D fs)
theorem TB.keep {w w' : World} {p : Int} {D : Nat} {fs : List Int} {va vs vm vi : Value} {ua us um : List Value} (h : TB w p D fs va ua vs us vm um vi) (hb : Below w.heap.size w w') : TB w' p D fs va ua vs us vm um vi :=
  ⟨h.a.keep hb, h.s.keep hb, h.m.keep hb, h.i.keep hb⟩
theorem nth_tab {n j : Nat} {f : Nat → Int} (h : j < n) : nth (tab n f) j = f j := cf_tab h
theorem In.el {p : Int} {D : Nat} {xs : List Int} (h : In (p ^ D) xs) {j : Nat} (hj : j < xs.length) : El p D (nth xs j) := h _ (nth_mem hj)
/-- a look into a table -/
theorem RII.at2 {w : World} {v : Value} {us : List Value} {q : Nat} {f : Nat → Nat → Int} (h : RII w v us (tb q f)) {i j : Nat} (hi : i < q) (hj : j < q) :
    (∀ W, (Instr.indexAt 26 v (.int .i64 i)).run Try.prog W = .ok (.pointer (some (el v i))) W) ∧ w.cell? (el v i) = some (vat us i) ∧
    (∀ W, (Instr.indexAt 52 (vat us i) (.int .i64 j)).run Try.prog W = .ok (.pointer (some (el (vat us i) j))) W) ∧ w.cell? (el (vat us i) j) = some (.int .i64 (f i j)) := by
  have hi' : i < (tb q f).length := by rw [tb_len]; exact hi
  have hr := h.row i hi'
  rw [xat_tb hi] at hr
  have hj' : j < (tab q (f i)).length := by rw [tab_len]; exact hj
  refine ⟨h.ixe i i rfl hi', h.cell i hi', hr.ixe j j rfl hj', ?_⟩
  rw [hr.cell j hj', nth_tab hj]

theorem FV.q64 {p : Int} {D : Nat} {fs : List Int} (h : FV p D fs) : p ^ D ≤ 64 := by have := h.q; rwa [Int.toNat_natCast] at this
theorem El.lim {p : Int} {D : Nat} {fs : List Int} {a : Int} (h : El p D a) (hf : FV p D fs) : 0 ≤ a ∧ a ≤ 1000000 := by have := h.1; have := h.2; have := hf.q64; omega

end Go.Proofs.Ytejncephbafcdaa
end

section
/- Walks: MakeField of both sides, and values of polynomials. -/
namespace Go.Proofs.Ytejncephbafcdaa
set_option linter.unusedSimpArgs false
set_option linter.unusedVariables false
open Go.RowKit
attribute [local go_sem ↓] Go.wp_at_zero Go.wp_at_succ

def mkfP (q : Int) : Int := if mkOk q = true then ((spl q.toNat).1 : Nat) else 0
def mkfD (q : Int) : Int := if mkOk q = true then ((spl q.toNat).2 : Nat) else 0
def mkfL (q : Int) : List Int := if mkOk q = true then mkF q.toNat else []
def mkfC (q : Int) : Int := if mkOk q = true then 0 else 2
/-- a field and a code -/
def MakesFC (w : World) (p d : Int) (xs : List Int) (c : Int) (e : Ending) (w' : World) : Prop := ∃ v, e = .returned (.tuple #[fv p d v, .int .i64 c]) ∧ St w.heap.size w w' [row 2 v (iv xs)]
theorem MakesFC.no {w w' : World} {q : Int} {L : List Ent} (hm : mkOk q = false) (h : St w.heap.size w w' L) :
    MakesFC w (mkfP q) (mkfD q) (mkfL q) (mkfC q) (.returned (.tuple #[.agg #[.int .i64 0, .int .i64 0, .slice none 0 0], .int .i64 2])) w' := by
  refine ⟨.slice none 0 0, by simp [mkfP, mkfD, mkfC, hm, fv], ?_⟩
  rw [mkfL, hm]; exact h.out.newnil _
theorem mkOk_t {q : Int} (h : mkOk q = true) : ∃ n : Nat, q = n ∧ 2 ≤ n ∧ n ≤ 64 ∧ MK n := by
  simp only [mkOk, Bool.and_eq_true, decide_eq_true_eq, bne_iff_ne, ne_eq] at h
  obtain ⟨n, rfl⟩ := Int.eq_ofNat_of_zero_le (show 0 ≤ q by omega)
  rw [Int.toNat_natCast] at h
  exact ⟨n, rfl, by omega, by omega, mk_of (by omega) (by omega) h.2⟩

set_option maxHeartbeats 4000000 in
set_option maxRecDepth 100000 in
theorem l03Make_c (q : Nat) (w : World) (h2 : 2 ≤ q) (h64 : q ≤ 64) (hmk : MK q) : Calls Try.prog 134 #[.int .i64 q] w (MakesF w ((spl q).1 : Nat) ((spl q).2 : Nat) (mkF q)) := by
  have hS0 := (St.refl w).newboxF 138 #[.int .i64 0, .int .i64 0, .slice none 0 0]
  have HP := fun W => Lib.hid (l03Split_c q W h2 h64)
  have hf := hmk.fv h64
  have hirr := hmk.irr
  have HN := Lib.hid (show irn ((spl q).1 : Nat) (spl q).2 64 0 = mkN q from rfl)
  have Hirr := Lib.hid (show irrB ((spl q).1 : Nat) (dgt ((spl q).1 : Nat) (spl q).2 (mkN q) ++ [1]) = true from hirr)
  have HF := Lib.hid (show mkF q = dgt ((spl q).1 : Nat) (spl q).2 (mkN q) ++ [1] from rfl)
  have hq := hf.q
  rw [Int.toNat_natCast] at hq
  have p2 := hf.p2
  have p64 := hf.p64
  have d6 := hf.d6
  have d1 := hf.d1
  clear hf hirr hmk
  generalize (spl q).1 = P at *
  generalize (spl q).2 = D at *
  generalize mkN q = N0 at *
  have Hin := Lib.hid (fun k => (show In (P : Int) (dgt (P : Int) D k ++ [1]) from fun x hx => by
    rcases List.mem_append.1 hx with hx | hx
    · exact dgt_in (by omega) _ _ x hx
    · simp at hx; subst hx; omega))
  have Hq := Lib.hid hq
  clear hq
  have Hdg := fun (k : Nat) (hk : k ≤ 64) W => Lib.hid (l03Digits_c k P D W (by omega) (by omega) (by omega) (by omega) (by omega))
  simp only [lows_dgt] at Hdg
  have Hir := fun v (k : Nat) W (h : RdI W v (dgt (P : Int) D k ++ [1])) => Lib.hid (l03Irreducible_c v (dgt (P : Int) D k ++ [1]) P W h p2 p64 (Hin.out k) (by simp) (by simpa [dgt_len] using Hq.out))
  have Hlen := Lib.hid (fun k : Nat => show (dgt (P : Int) D k).length < 4294967296 by rw [dgt_len]; omega)
  go_enter Try.func134, Try.ntmps134
  go_wp2_with fail
  refine (HP _).out.mono ?_
  rintro e w1 ⟨rfl, rfl⟩
  go_wp2_with fail
  go_loopw [5, 6] (fun ii _ wr => ∃ k f : Nat, k + f = 64 ∧ ii = .int .i64 k ∧ Hid (irn P D f k = N0) ∧ St w.heap.size w wr [box 138 w.heap.size [.int .i64 0, .int .i64 0, .slice none 0 0]]) (fun ii _ _ => 64 - (intOf ii).toNat)
  case atStart => exact ⟨0, 64, rfl, rfl, HN.out, hS0⟩
  case round =>
    obtain ⟨k, f, hkf, rfl, hN, hS⟩ := hrel
    have hk64 : k ≤ 64 := by omega
    have Hkf := Lib.hid hkf
    clear hkf
    cases hi : irrB P (dgt P D k ++ [1])
    · have Hi := Lib.hid hi
      have Hnx := Lib.hid (irn_next (f := f) hi (by rw [hN.out]; exact Hirr.out))
      clear hi
      go_wp2_with fail
      refine (Hdg k hk64 _).out.mono ?_
      rintro e w2 ⟨v2, rfl, h2'⟩
      have hS2 := (hS.call h2').perm List.perm_append_comm
      clear h2'
      go_wp2_with (at_builtin; refine appI hS2 0 rfl (Hlen.out k) rfl _ _ rfl rfl 1 rfl ?_; intro v3 w3 hS3)
      refine (Hir v3 k w3 (hS3.rdI 0 rfl)).out.mono ?_
      rw [Hi.out]
      rintro e w4 ⟨rfl, h4⟩
      have hS4 := hS3.call0 h4
      go_wp2_with fail
      obtain ⟨f', hf', hN'⟩ := Hnx.out
      have Hf' := Lib.hid hf'
      have HN' := Lib.hid hN'
      clear hf' hN'
      go_roundw
      case rel => exact ⟨k + 1, f', by have := Hkf.out; have := Hf'.out; omega, by go_num, HN'.out.symm.trans hN.out, hS4.sub (List.sublist_cons_self _ _)⟩
      case measure => simp [intOf]; have := Hkf.out; have := Hf'.out; omega
    · have Hi := Lib.hid hi
      have hke : k = N0 := by rw [← hN.out, irn_hit hi]
      have HE := Lib.hid hke
      clear hi hke
      go_wp2_with fail
      refine (Hdg k hk64 _).out.mono ?_
      rintro e w2 ⟨v2, rfl, h2'⟩
      have hS2 := (hS.call h2').perm List.perm_append_comm
      clear h2'
      go_wp2_with (at_builtin; refine appI hS2 0 rfl (Hlen.out k) rfl _ _ rfl rfl 1 rfl ?_; intro v3 w3 hS3; generalize hLk : dgt (P : Int) D k ++ [1] = Lk at hS3; have HLk := Lib.hid hLk; clear hLk; obtain ⟨a6, c6, he6⟩ := (hS3.rdI 0 rfl).shp'; subst he6)
      refine (Hir _ k w3 (by rw [HLk.out]; exact hS3.rdI 0 rfl)).out.mono ?_
      rw [Hi.out]
      rintro e w4 ⟨rfl, h4⟩
      have hS6 := hS3.call0 h4
      have b0 := hS6.bcell 1 rfl 0 rfl
      have b1 := hS6.bcell 1 rfl 1 rfl
      have b2 := hS6.bcell 1 rfl 2 rfl
      have f2 := hS6.bfree 1 rfl
      clear hS hS2 hS3 h4
      go_wp2_with fail
      have hS9 := ((hS6.bstore 1 rfl 0 (.int .i64 P)).bstore 1 rfl 1 (.int .i64 D)).bstore 1 rfl 2 (.slice a6 Lk.length c6)
      refine bodyPost_ret (v := .agg #[.int .i64 P, .int .i64 D, .slice a6 Lk.length c6]) (by simp [results, Try.results134, go_sem, b0, b1, b2]) rfl ?_
      refine ⟨_, rfl, ?_⟩
      rw [HF.out, ← HE.out, HLk.out]
      exact hS9.sub (by simp only [List.set_cons_zero, List.set_cons_succ, List.cons_append, List.nil_append]; exact (List.nil_sublist _).cons_cons _)
end Go.Proofs.Ytejncephbafcdaa
end

section
/- Walks: squares that the reference makes (their entries are below n). Walks: squares that the reference draws. -/
namespace Go.Proofs.Ytejncephbafcdaa
set_option linter.unusedSimpArgs false
set_option linter.unusedVariables false
open Go.RowKit
attribute [local go_sem ↓] Go.wp_at_zero Go.wp_at_succ


/-- some square of n rows with entries below n, in memory of its own -/
def MakesQ (w : World) (n : Nat) (e : Ending) (w' : World) : Prop := ∃ v us A, e = .returned v ∧ Sq0 n A ∧ us.length = n ∧ St w.heap.size w w' (own2 v us A)
theorem zero_sq0 (n : Nat) : Sq0 n (sqF n fun _ _ => 0) := ⟨sqF_sqr _ _, fun x y hx hy => by rw [at2_sqF hx hy]; omega⟩
set_option maxHeartbeats 8000000 in
set_option maxRecDepth 100000 in
theorem l06Cyclic_c (n : Nat) (w : World) (hn : n ≤ 1000) : Calls Try.prog 128 #[.int .i64 n] w (MakesQ w n) := by
  have HE := fun W => Lib.hid (l06Zero_c n W (by omega))
  go_enter Try.func128, Try.ntmps128
  go_wp2_with fail
  refine (HE _).out.mono ?_
  rintro e w2 ⟨o, uo, rfl, hl, hS2⟩
  rw [sqF_len] at hl
  have Hl := Lib.hid hl
  have hS3 : St w.heap.size w w2 (own2 o uo (sqF n fun _ _ => 0) ++ []) := by rw [List.append_nil]; exact hS2
  clear hS2 hl
  go_wp2_with fail
  go_loopw [4, 5] (fun i _ wr => ∃ (k : Nat) (S : List (List Int)), k ≤ n ∧ i = .int .i64 k ∧ Hid (Sq0 n S) ∧ St w.heap.size w wr (own2 o uo S ++ [])) (fun i _ _ => n - (intOf i).toNat)
  case atStart => exact ⟨0, _, by omega, rfl, zero_sq0 n, hS3⟩
  case round =>
    clear hS3
    obtain ⟨k, S, hk, rfl, hI, hS⟩ := hrel
    by_cases hlt : k < n
    · go_wp2_with fail
      go_loopw [5] (fun j wr' => ∃ (y : Nat) (S : List (List Int)), y ≤ n ∧ j = .int .i64 y ∧ Hid (Sq0 n S) ∧ St w.heap.size w wr' (own2 o uo S ++ [])) (fun j _ => n - (intOf j).toNat)
      case atStart => exact ⟨0, S, by omega, rfl, hI.out, hS⟩
      case round =>
        clear hI hS
        obtain ⟨y, S, hy, rfl, hI, hS⟩ := hrel
        by_cases hly : y < n
        · obtain ⟨z, hz, hzn⟩ : ∃ z : Nat, z = (k + y) % n ∧ z < n := ⟨(k + y) % n, rfl, Nat.mod_lt _ (show 0 < n by omega)⟩
          have q1 : IntKind.i64.wrap ((k : Int) + (y : Int)) = (k : Int) + (y : Int) := IntWalk.i64_in _ (by omega)
          have q2 : ((k : Int) + (y : Int)).tmod n = z := by rw [hz, Int.tmod_eq_emod_of_nonneg (by omega)]; rfl
          have f0 : ((n : Int) == 0) = false := eq_f (by omega)
          have f1 : ¬ (n : Int) = 0 := by omega
          have f2 : ¬ n = 0 := by omega
          have hsl : S.length = n := hI.out.len
          have hsa : (xat S k).length = n := hI.out.row k hlt
          have hlS : uo.length = S.length := by rw [Hl.out, hsl]
          have hR := rii2 hS hlS
          have hat := hS.at_row hlS (j := k) (by rw [hsl]; exact hlt)
          have z0 := hR.cell k (by rw [hsl]; exact hlt)
          have xo := hR.ixe (k : Int) k rfl (by rw [hsl]; exact hlt)
          have xb := (hS.rdI (k + 1) hat).ixe (y : Int) y rfl (by rw [hsa]; exact hly)
          have u1 := hS.unfrozen (k + 1) hat (j := y) (by rw [iv_len, hsa]; exact hly)
          have co1 := (hS.rdI (k + 1) hat).cell y (by rw [hsa]; exact hly)
          have HS9 := Lib.hid (hS.drew.store (k + 1) hat (j := y) (by rw [iv_len, hsa]; exact hly) (.int .i64 (z : Int)))
          have Hst2 := Lib.hid (putS_sq0 hI.out hlt hly (v := (z : Int)) (by omega) (by omega))
          have Hset := Lib.hid (own2_set (v := o) (L2 := []) hlS (j := k) (by rw [hsl]; exact hlt) ((xat S k).set y (z : Int)))
          clear hI hR hat hlS hsl hsa hz hzn hS
          go_wp2_with fail
          refine regionG (fun w' => w'.cell? (el o k) = some (vat uo k)) 11 (by kernel_rfl) (cell_dr z0) (fun hHeld => ?_)
          refine takeP (i := 0) (v := ?_) rfl (by kernel_rfl) (fun _ _ _ h => h) (by rfl) ?_ (by assumption) ?_
          case refine_2 => (intro w'; go_simp; first | done | with_reducible rfl)
          try simp only [Act.put, List.setIfInBounds_toArray, List.set_cons_zero, List.set_cons_succ]
          refine takeP (i := 1) (v := ?_) rfl (by kernel_rfl) (fun _ _ _ h => h) (by rfl) ?_ (by assumption) ?_
          case refine_2 => (intro w'; go_simp; first | done | with_reducible rfl)
          try simp only [Act.put, List.setIfInBounds_toArray, List.set_cons_zero, List.set_cons_succ]
          refine takeP (i := 2) (v := ?_) rfl (by kernel_rfl) (fun _ _ _ h => h) (by rfl) ?_ (by assumption) ?_
          case refine_2 => (intro w'; go_simp; first | done | with_reducible rfl)
          try simp only [Act.put, List.setIfInBounds_toArray, List.set_cons_zero, List.set_cons_succ]
          refine takeH (i := 3) [10] (v := ?_) rfl (by kernel_rfl) (fun _ _ _ h => h) (by rfl) ?_ (by assumption) ?_
          case refine_2 => (intro w' hSw; (try dsimp only at hSw); go_simp; first | done | with_reducible rfl)
          try simp only [Act.put, List.setIfInBounds_toArray, List.set_cons_zero, List.set_cons_succ]
          refine takeP (i := 4) (v := ?_) rfl (by kernel_rfl) (fun _ _ _ h => h) (by rfl) ?_ (by assumption) ?_
          case refine_2 => (intro w'; go_simp; first | done | with_reducible rfl)
          try simp only [Act.put, List.setIfInBounds_toArray, List.set_cons_zero, List.set_cons_succ]
          refine takeP (i := 5) (v := ?_) rfl (by kernel_rfl) (fun _ _ _ h => h) (by rfl) ?_ (by assumption) ?_
          case refine_2 => (intro w'; go_simp; first | done | with_reducible rfl)
          try simp only [Act.put, List.setIfInBounds_toArray, List.set_cons_zero, List.set_cons_succ]
          refine takeP (i := 6) (v := ?_) rfl (by kernel_rfl) (fun _ _ _ h => h) (by rfl) ?_ (by assumption) ?_
          case refine_2 => (intro w'; go_simp; first | done | with_reducible rfl)
          try simp only [Act.put, List.setIfInBounds_toArray, List.set_cons_zero, List.set_cons_succ]
          refine takeP (i := 7) (v := ?_) rfl (by kernel_rfl) (fun _ _ _ h => h) (by rfl) ?_ (by assumption) ?_
          case refine_2 => (intro w'; go_simp; first | done | with_reducible rfl)
          try simp only [Act.put, List.setIfInBounds_toArray, List.set_cons_zero, List.set_cons_succ]
          refine takeP (i := 8) (v := ?_) rfl (by kernel_rfl) (fun _ _ _ h => h) (by rfl) ?_ (by assumption) ?_
          case refine_2 => (intro w'; go_simp; first | done | with_reducible rfl)
          try simp only [Act.put, List.setIfInBounds_toArray, List.set_cons_zero, List.set_cons_succ]
          refine takeP (i := 9) (v := ?_) rfl (by kernel_rfl) (fun _ _ _ h => h) (by rfl) ?_ (by assumption) ?_
          case refine_2 => (intro w'; go_simp; first | done | with_reducible rfl)
          try simp only [Act.put, List.setIfInBounds_toArray, List.set_cons_zero, List.set_cons_succ]
          refine takeP (i := 10) (v := ?_) rfl (by kernel_rfl) (fun _ _ _ h => h) (by rfl) ?_ (by assumption) ?_
          case refine_2 => (intro w'; go_simp; first | done | with_reducible rfl)
          try simp only [Act.put, List.setIfInBounds_toArray, List.set_cons_zero, List.set_cons_succ]
          refine readyG (rs := [11]) (by kernel_rfl) (by simp) ?_
          refine AllG.last rfl (by kernel_rfl) (fun K hK => ?_) AllG.nil
          go_simp
          refine hK.out _ _ ?_
          clear hK K
          try simp only [Act.put, List.setIfInBounds_toArray, List.set_cons_zero, List.set_cons_succ]
          refine doneG (by kernel_rfl) ?_ _
          refine NoPanic.normal ?_
          have hS9 := HS9.out
          rw [iv_set, Hset.out] at hS9
          go_wp2_with fail
          go_roundw
          case rel => exact ⟨y + 1, _, by omega, by go_num, Hst2.out, hS9⟩
          case measure => simp [intOf]; omega
        · obtain rfl : y = n := by omega
          go_wp2_with fail
          go_roundw
          case rel => exact ⟨k + 1, S, by omega, by go_num, hI.out, hS⟩
          case measure => simp [intOf]; omega
    · rw [List.append_nil] at hS
      go_wp2_with fail
      go_ret
      exact ⟨o, uo, S, rfl, hI.out, Hl.out, hS⟩
set_option maxHeartbeats 8000000 in
set_option maxRecDepth 100000 in
theorem sIsotope_c (v vr vc vs : Value) (us : List Value) (A : List (List Int)) (r c s : List Int) (w : World) (n : Nat) (hv : RII w v us A) (hr : RdI w vr r) (hc : RdI w vc c) (hs : RdI w vs s)
    (h : Sq0 n A) (pr : IsP r) (pc : IsP c) (ps : IsP s) (lr : r.length = n) (lc : c.length = n) (ls : s.length = n) (hn : n ≤ 100) :
    Calls Try.prog 131 #[v, vr, vc, vs] w (MakesQ w n) := by
  have hln := hv.len
  rw [h.len] at hln
  have hix := hv.ixe
  rw [h.len] at hix
  have hrx := hr.ixe
  have hcx := hc.ixe
  have hsx := hs.ixe
  rw [lr] at hrx
  rw [lc] at hcx
  rw [ls] at hsx
  have HE := fun W => Lib.hid (l06Zero_c n W (by omega))
  have H := Lib.hid (And.intro h (And.intro pr (And.intro pc (And.intro ps (And.intro lr (And.intro lc ls))))))
  have Hv := Lib.hid hv
  have Hr := Lib.hid hr
  have Hc := Lib.hid hc
  have Hs := Lib.hid hs
  clear h pr pc ps lr lc ls
  go_enter Try.func131, Try.ntmps131
  go_wp2_with fail
  refine (HE _).out.mono ?_
  rintro e w2 ⟨o, uo, rfl, hl, hS2⟩
  rw [sqF_len] at hl
  have Hl := Lib.hid hl
  have hS3 : St w.heap.size w w2 (own2 o uo (sqF n fun _ _ => 0) ++ []) := by rw [List.append_nil]; exact hS2
  clear hS2 hl hv hr hc hs
  go_wp2_with fail
  go_loopw [11, 12] (fun i _ wr => ∃ (k : Nat) (S : List (List Int)), k ≤ n ∧ i = .int .i64 k ∧ Hid (Sq0 n S) ∧ St w.heap.size w wr (own2 o uo S ++ [])) (fun i _ _ => n - (intOf i).toNat)
  case atStart => exact ⟨0, _, by omega, rfl, zero_sq0 n, hS3⟩
  case round =>
    clear hS3
    obtain ⟨k, S, hk, rfl, hI, hS⟩ := hrel
    by_cases hlt : k < n
    · go_wp2_with fail
      go_loopw [12] (fun j wr' => ∃ (y : Nat) (S : List (List Int)), y ≤ n ∧ j = .int .i64 y ∧ Hid (Sq0 n S) ∧ St w.heap.size w wr' (own2 o uo S ++ [])) (fun j _ => n - (intOf j).toNat)
      case atStart => exact ⟨0, S, by omega, rfl, hI.out, hS⟩
      case round =>
        clear hI hS
        obtain ⟨y, S, hy, rfl, hI, hS⟩ := hrel
        by_cases hly : y < n
        · obtain ⟨h0, hpr, hpc, hps, lr, lc, ls⟩ := H.out
          obtain ⟨m, hm, hmn⟩ : ∃ m : Nat, at2 A k y = m ∧ m < n := by
            have := h0.el k y hlt hly
            exact ⟨(at2 A k y).toNat, by omega, by omega⟩
          have ck := (hS.oldII Hv.out).cell k (by rw [h0.len]; exact hlt)
          have hrow := Hv.out.row k (by rw [h0.len]; exact hlt)
          have hri2 := hrow.ixe (y : Int) y rfl (by rw [h0.row k hlt]; exact hly)
          have cy : wr.cell? (el (vat us k) y) = some (.int .i64 (m : Int)) := by
            rw [← hm]; exact (hS.oldI hrow).cell y (by rw [h0.row k hlt]; exact hly)
          obtain ⟨a, ha⟩ : ∃ a, a = pf r k := ⟨_, rfl⟩
          obtain ⟨b, hb⟩ : ∃ b, b = pf c y := ⟨_, rfl⟩
          obtain ⟨q, hq⟩ : ∃ q, q = pf s m := ⟨_, rfl⟩
          have han : a < n := by rw [ha, ← lr]; exact hpr.pf_lt (by omega)
          have hbn : b < n := by rw [hb, ← lc]; exact hpc.pf_lt (by omega)
          have hqn : q < n := by rw [hq, ← ls]; exact hps.pf_lt (by omega)
          have c1 := (hS.oldI Hr.out).cell k (by omega)
          rw [nth_pf hpr (by omega), ← ha] at c1
          have c2 := (hS.oldI Hc.out).cell y (by omega)
          rw [nth_pf hpc (by omega), ← hb] at c2
          have c3 := (hS.oldI Hs.out).cell m (by omega)
          rw [nth_pf hps (by omega), ← hq] at c3
          have x0 := hix (k : Int) k rfl hlt
          have x1 := hrx (k : Int) k rfl hlt
          have x2 := hcx (y : Int) y rfl hly
          have x3 := hsx (m : Int) m rfl hmn
          have hsl : S.length = n := hI.out.len
          have hsa : (xat S a).length = n := hI.out.row a han
          have hlS : uo.length = S.length := by rw [Hl.out, hsl]
          have hR := rii2 hS hlS
          have hat := hS.at_row hlS (j := a) (by rw [hsl]; exact han)
          have z0 := hR.cell a (by rw [hsl]; exact han)
          have xo := hR.ixe (a : Int) a rfl (by rw [hsl]; exact han)
          have xb := (hS.rdI (a + 1) hat).ixe (b : Int) b rfl (by rw [hsa]; exact hbn)
          have u1 := hS.unfrozen (a + 1) hat (j := b) (by rw [iv_len, hsa]; exact hbn)
          have co1 := (hS.rdI (a + 1) hat).cell b (by rw [hsa]; exact hbn)
          have HS9 := Lib.hid (hS.drew.store (a + 1) hat (j := b) (by rw [iv_len, hsa]; exact hbn) (.int .i64 (q : Int)))
          have Hst2 := Lib.hid (putS_sq0 hI.out han hbn (v := (q : Int)) (by omega) (by omega))
          have Hset := Lib.hid (own2_set (v := o) (L2 := []) hlS (j := a) (by rw [hsl]; exact han) ((xat S a).set b (q : Int)))
          clear hI hR hat hlS hsl hsa ha hb hm han hbn hS hq hqn hrow h0 hpr hpc hps lr lc ls
          go_wp2_with fail
          refine regionG (fun w' => w'.cell? (el vr k) = some (.int .i64 (a : Int)) ∧ w'.cell? (el o a) = some (vat uo a) ∧ w'.cell? (el vc y) = some (.int .i64 (b : Int)) ∧ w'.cell? (el v k) = some (vat us k) ∧ w'.cell? (el (vat us k) y) = some (.int .i64 (m : Int)) ∧ w'.cell? (el vs m) = some (.int .i64 (q : Int))) 22 (by kernel_rfl) ⟨cell_dr c1, cell_dr z0, cell_dr c2, cell_dr ck, cell_dr cy, cell_dr c3⟩ (fun hHeld => ?_)
          refine takeP (i := 0) (v := ?_) rfl (by kernel_rfl) (fun _ _ _ h => h) (by rfl) ?_ (by assumption) ?_
          case refine_2 => (intro w'; go_simp; first | done | with_reducible rfl)
          try simp only [Act.put, List.setIfInBounds_toArray, List.set_cons_zero, List.set_cons_succ]
          refine takeP (i := 1) (v := ?_) rfl (by kernel_rfl) (fun _ _ _ h => h) (by rfl) ?_ (by assumption) ?_
          case refine_2 => (intro w'; go_simp; first | done | with_reducible rfl)
          try simp only [Act.put, List.setIfInBounds_toArray, List.set_cons_zero, List.set_cons_succ]
          refine takeP (i := 2) (v := ?_) rfl (by kernel_rfl) (fun _ _ _ h => h) (by rfl) ?_ (by assumption) ?_
          case refine_2 => (intro w'; go_simp; first | done | with_reducible rfl)
          try simp only [Act.put, List.setIfInBounds_toArray, List.set_cons_zero, List.set_cons_succ]
          refine takeP (i := 3) (v := ?_) rfl (by kernel_rfl) (fun _ _ _ h => h) (by rfl) ?_ (by assumption) ?_
          case refine_2 => (intro w'; go_simp; first | done | with_reducible rfl)
          try simp only [Act.put, List.setIfInBounds_toArray, List.set_cons_zero, List.set_cons_succ]
          refine takeH (i := 4) [5, 6, 21] (v := ?_) rfl (by kernel_rfl) (fun _ _ _ h => h) (by rfl) ?_ (by assumption) ?_
          case refine_2 => (intro w' hSw; (try dsimp only at hSw); go_simp; first | done | with_reducible rfl)
          try simp only [Act.put, List.setIfInBounds_toArray, List.set_cons_zero, List.set_cons_succ]
          refine takeP (i := 5) (v := ?_) rfl (by kernel_rfl) (fun _ _ _ h => h) (by rfl) ?_ (by assumption) ?_
          case refine_2 => (intro w'; go_simp; first | done | with_reducible rfl)
          try simp only [Act.put, List.setIfInBounds_toArray, List.set_cons_zero, List.set_cons_succ]
          refine takeH (i := 6) [21] (v := ?_) rfl (by kernel_rfl) (fun _ _ _ h => h) (by rfl) ?_ (by assumption) ?_
          case refine_2 => (intro w' hSw; (try dsimp only at hSw); go_simp; first | done | with_reducible rfl)
          try simp only [Act.put, List.setIfInBounds_toArray, List.set_cons_zero, List.set_cons_succ]
          refine takeP (i := 7) (v := ?_) rfl (by kernel_rfl) (fun _ _ _ h => h) (by rfl) ?_ (by assumption) ?_
          case refine_2 => (intro w'; go_simp; first | done | with_reducible rfl)
          try simp only [Act.put, List.setIfInBounds_toArray, List.set_cons_zero, List.set_cons_succ]
          refine takeP (i := 8) (v := ?_) rfl (by kernel_rfl) (fun _ _ _ h => h) (by rfl) ?_ (by assumption) ?_
          case refine_2 => (intro w'; go_simp; first | done | with_reducible rfl)
          try simp only [Act.put, List.setIfInBounds_toArray, List.set_cons_zero, List.set_cons_succ]
          refine takeP (i := 9) (v := ?_) rfl (by kernel_rfl) (fun _ _ _ h => h) (by rfl) ?_ (by assumption) ?_
          case refine_2 => (intro w'; go_simp; first | done | with_reducible rfl)
          try simp only [Act.put, List.setIfInBounds_toArray, List.set_cons_zero, List.set_cons_succ]
          refine takeH (i := 10) [21] (v := ?_) rfl (by kernel_rfl) (fun _ _ _ h => h) (by rfl) ?_ (by assumption) ?_
          case refine_2 => (intro w' hSw; (try dsimp only at hSw); go_simp; first | done | with_reducible rfl)
          try simp only [Act.put, List.setIfInBounds_toArray, List.set_cons_zero, List.set_cons_succ]
          refine takeP (i := 11) (v := ?_) rfl (by kernel_rfl) (fun _ _ _ h => h) (by rfl) ?_ (by assumption) ?_
          case refine_2 => (intro w'; go_simp; first | done | with_reducible rfl)
          try simp only [Act.put, List.setIfInBounds_toArray, List.set_cons_zero, List.set_cons_succ]
          refine takeP (i := 12) (v := ?_) rfl (by kernel_rfl) (fun _ _ _ h => h) (by rfl) ?_ (by assumption) ?_
          case refine_2 => (intro w'; go_simp; first | done | with_reducible rfl)
          try simp only [Act.put, List.setIfInBounds_toArray, List.set_cons_zero, List.set_cons_succ]
          refine takeP (i := 13) (v := ?_) rfl (by kernel_rfl) (fun _ _ _ h => h) (by rfl) ?_ (by assumption) ?_
          case refine_2 => (intro w'; go_simp; first | done | with_reducible rfl)
          try simp only [Act.put, List.setIfInBounds_toArray, List.set_cons_zero, List.set_cons_succ]
          refine takeP (i := 14) (v := ?_) rfl (by kernel_rfl) (fun _ _ _ h => h) (by rfl) ?_ (by assumption) ?_
          case refine_2 => (intro w'; go_simp; first | done | with_reducible rfl)
          try simp only [Act.put, List.setIfInBounds_toArray, List.set_cons_zero, List.set_cons_succ]
          refine takeH (i := 15) [17, 18, 19, 20] (v := ?_) rfl (by kernel_rfl) (fun _ _ _ h => h) (by rfl) ?_ (by assumption) ?_
          case refine_2 => (intro w' hSw; (try dsimp only at hSw); go_simp; first | done | with_reducible rfl)
          try simp only [Act.put, List.setIfInBounds_toArray, List.set_cons_zero, List.set_cons_succ]
          refine takeP (i := 16) (v := ?_) rfl (by kernel_rfl) (fun _ _ _ h => h) (by rfl) ?_ (by assumption) ?_
          case refine_2 => (intro w'; go_simp; first | done | with_reducible rfl)
          try simp only [Act.put, List.setIfInBounds_toArray, List.set_cons_zero, List.set_cons_succ]
          refine takeP (i := 17) (v := ?_) rfl (by kernel_rfl) (fun _ _ _ h => h) (by rfl) ?_ (by assumption) ?_
          case refine_2 => (intro w'; go_simp; first | done | with_reducible rfl)
          try simp only [Act.put, List.setIfInBounds_toArray, List.set_cons_zero, List.set_cons_succ]
          refine takeH (i := 18) [19, 20] (v := ?_) rfl (by kernel_rfl) (fun _ _ _ h => h) (by rfl) ?_ (by assumption) ?_
          case refine_2 => (intro w' hSw; (try dsimp only at hSw); go_simp; first | done | with_reducible rfl)
          try simp only [Act.put, List.setIfInBounds_toArray, List.set_cons_zero, List.set_cons_succ]
          refine takeP (i := 19) (v := ?_) rfl (by kernel_rfl) (fun _ _ _ h => h) (by rfl) ?_ (by assumption) ?_
          case refine_2 => (intro w'; go_simp; first | done | with_reducible rfl)
          try simp only [Act.put, List.setIfInBounds_toArray, List.set_cons_zero, List.set_cons_succ]
          refine takeH (i := 20) [] (v := ?_) rfl (by kernel_rfl) (fun _ _ _ h => h) (by rfl) ?_ (by assumption) ?_
          case refine_2 => (intro w' hSw; (try dsimp only at hSw); go_simp; first | done | with_reducible rfl)
          try simp only [Act.put, List.setIfInBounds_toArray, List.set_cons_zero, List.set_cons_succ]
          refine takeP (i := 21) (v := ?_) rfl (by kernel_rfl) (fun _ _ _ h => h) (by rfl) ?_ (by assumption) ?_
          case refine_2 => (intro w'; go_simp; first | done | with_reducible rfl)
          try simp only [Act.put, List.setIfInBounds_toArray, List.set_cons_zero, List.set_cons_succ]
          refine readyG (rs := [22]) (by kernel_rfl) (by simp) ?_
          refine AllG.last rfl (by kernel_rfl) (fun K hK => ?_) AllG.nil
          go_simp
          refine hK.out _ _ ?_
          clear hK K
          try simp only [Act.put, List.setIfInBounds_toArray, List.set_cons_zero, List.set_cons_succ]
          refine doneG (by kernel_rfl) ?_ _
          refine NoPanic.normal ?_
          have hS9 := HS9.out
          rw [iv_set, Hset.out] at hS9
          go_wp2_with fail
          go_roundw
          case rel => exact ⟨y + 1, _, by omega, by go_num, Hst2.out, hS9⟩
          case measure => simp [intOf]; omega
        · obtain rfl : y = n := by omega
          go_wp2_with fail
          go_roundw
          case rel => exact ⟨k + 1, S, by omega, by go_num, hI.out, hS⟩
          case measure => simp [intOf]; omega
    · rw [List.append_nil] at hS
      go_wp2_with fail
      go_ret
      exact ⟨o, uo, S, rfl, hI.out, Hl.out, hS⟩
/-- the entry of a product -/
theorem prod_lt {n m x y a b : Nat} (ha : a < n) (hb : b < m) : m * a + b < n * m := by
  have h1 : m * a + m ≤ m * n := by rw [← Nat.mul_succ]; exact Nat.mul_le_mul_left _ (by omega)
  rw [Nat.mul_comm n m]; omega
set_option maxHeartbeats 8000000 in
set_option maxRecDepth 100000 in
theorem l06Product_c (v v' : Value) (us us' : List Value) (A B : List (List Int)) (w : World) (n m : Nat) (hv : RII w v us A) (hv' : RII w v' us' B) (hA : Sq0 n A) (hB : Sq0 m B) (hn : n ≤ 16) (hm : m ≤ 16) :
    Calls Try.prog 129 #[v, v'] w (MakesQ w (n * m)) := by
  have hln := hv.len
  rw [hA.len] at hln
  have hlm := hv'.len
  rw [hB.len] at hlm
  have hix := hv.ixe
  rw [hA.len] at hix
  have hix' := hv'.ixe
  rw [hB.len] at hix'
  obtain ⟨N, hN⟩ : ∃ N, N = n * m := ⟨_, rfl⟩
  have hNle : N ≤ 256 := by rw [hN]; exact Nat.mul_le_mul hn hm
  have hmul : (n : Int) * (m : Int) = (N : Int) := by rw [hN]; rfl
  have HE := fun W => Lib.hid (l06Zero_c N W (by omega))
  have H := Lib.hid (And.intro hA hB)
  have Hv := Lib.hid hv
  have Hv' := Lib.hid hv'
  have HN := Lib.hid hN
  rw [← hN]
  clear hA hB hN
  go_enter Try.func129, Try.ntmps129
  go_wp2_with fail
  refine (HE _).out.mono ?_
  rintro e w2 ⟨o, uo, rfl, hl, hS2⟩
  rw [sqF_len] at hl
  have Hl := Lib.hid hl
  have hS3 : St w.heap.size w w2 (own2 o uo (sqF N fun _ _ => 0) ++ []) := by rw [List.append_nil]; exact hS2
  clear hS2 hl hv hv'
  go_wp2_with fail
  go_loopw [8, 9] (fun i _ wr => ∃ (k : Nat) (S : List (List Int)), k ≤ N ∧ i = .int .i64 k ∧ Hid (Sq0 N S) ∧ St w.heap.size w wr (own2 o uo S ++ [])) (fun i _ _ => N - (intOf i).toNat)
  case atStart => exact ⟨0, _, by omega, rfl, zero_sq0 N, hS3⟩
  case round =>
    clear hS3
    obtain ⟨k, S, hk, rfl, hI, hS⟩ := hrel
    by_cases hlt : k < N
    · go_wp2_with fail
      go_loopw [9] (fun j wr' => ∃ (y : Nat) (S : List (List Int)), y ≤ N ∧ j = .int .i64 y ∧ Hid (Sq0 N S) ∧ St w.heap.size w wr' (own2 o uo S ++ [])) (fun j _ => N - (intOf j).toNat)
      case atStart => exact ⟨0, S, by omega, rfl, hI.out, hS⟩
      case round =>
        clear hI hS
        obtain ⟨y, S, hy, rfl, hI, hS⟩ := hrel
        by_cases hly : y < N
        · obtain ⟨hA, hB⟩ := H.out
          have m0 : 0 < m := by
            rcases Nat.eq_zero_or_pos m with e | e
            · have := HN.out; rw [e, Nat.mul_zero] at this; omega
            · exact e
          have d1 : k / m < n := Nat.div_lt_of_lt_mul (by rw [Nat.mul_comm, ← HN.out]; exact hlt)
          have d2 : y / m < n := Nat.div_lt_of_lt_mul (by rw [Nat.mul_comm, ← HN.out]; exact hly)
          have e1 : k % m < m := Nat.mod_lt _ m0
          have e2 : y % m < m := Nat.mod_lt _ m0
          have f0 : ((m : Int) == 0) = false := eq_f (by omega)
          have f1 : ¬ (m : Int) = 0 := by omega
          have f2 : ¬ m = 0 := by omega
          have q1 : (k : Int).tdiv m = ((k / m : Nat) : Int) := by rw [Int.tdiv_eq_ediv_of_nonneg (by omega)]; rfl
          have q2 : (y : Int).tdiv m = ((y / m : Nat) : Int) := by rw [Int.tdiv_eq_ediv_of_nonneg (by omega)]; rfl
          have q3 : (k : Int).tmod m = ((k % m : Nat) : Int) := by rw [Int.tmod_eq_emod_of_nonneg (by omega)]; rfl
          have q4 : (y : Int).tmod m = ((y % m : Nat) : Int) := by rw [Int.tmod_eq_emod_of_nonneg (by omega)]; rfl
          have kN : k / m ≤ k := Nat.div_le_self _ _
          have yN : y / m ≤ y := Nat.div_le_self _ _
          obtain ⟨k1, hk1⟩ : ∃ k1, k1 = k / m := ⟨_, rfl⟩
          obtain ⟨y1, hy1⟩ : ∃ y1, y1 = y / m := ⟨_, rfl⟩
          obtain ⟨k2, hk2⟩ : ∃ k2, k2 = k % m := ⟨_, rfl⟩
          obtain ⟨y2, hy2⟩ : ∃ y2, y2 = y % m := ⟨_, rfl⟩
          rw [← hk1] at d1 q1 kN
          rw [← hy1] at d2 q2 yN
          rw [← hk2] at e1 q3
          rw [← hy2] at e2 q4
          clear hk1 hy1 hk2 hy2
          have q5 : IntKind.i64.wrap (k1 : Int) = (k1 : Int) := IntWalk.i64_in _ (by omega)
          have q6 : IntKind.i64.wrap (y1 : Int) = (y1 : Int) := IntWalk.i64_in _ (by omega)
          obtain ⟨a, ha, han⟩ : ∃ a : Nat, at2 A k1 y1 = a ∧ a < n := by
            have := hA.el k1 y1 d1 d2
            exact ⟨(at2 A k1 y1).toNat, by omega, by omega⟩
          obtain ⟨b, hb, hbn⟩ : ∃ b : Nat, at2 B k2 y2 = b ∧ b < m := by
            have := hB.el k2 y2 e1 e2
            exact ⟨(at2 B k2 y2).toNat, by omega, by omega⟩
          have hpl : m * a + b < N := by rw [HN.out]; exact prod_lt (x := 0) (y := 0) han hbn
          obtain ⟨P, hP⟩ : ∃ P, P = m * a := ⟨_, rfl⟩
          rw [← hP] at hpl
          have q7 : (m : Int) * (a : Int) = (P : Int) := by rw [hP]; rfl
          have q8 : IntKind.i64.wrap (P : Int) = (P : Int) := IntWalk.i64_in _ (by omega)
          obtain ⟨z, hz⟩ : ∃ z, z = P + b := ⟨_, rfl⟩
          have q9 : IntKind.i64.wrap ((P : Int) + (b : Int)) = (z : Int) := by rw [IntWalk.i64_in _ (by omega), hz]; rfl
          have hzN : z < N := by omega
          have hR1 := hS.oldII Hv.out
          have hR2 := hS.oldII Hv'.out
          have ck := hR1.cell k1 (by rw [hA.len]; exact d1)
          have cy : wr.cell? (el (vat us k1) y1) = some (.int .i64 (a : Int)) := by
            rw [← ha]; exact (hR1.row k1 (by rw [hA.len]; exact d1)).cell y1 (by rw [hA.row k1 d1]; exact d2)
          have ck' := hR2.cell k2 (by rw [hB.len]; exact e1)
          have cy' : wr.cell? (el (vat us' k2) y2) = some (.int .i64 (b : Int)) := by
            rw [← hb]; exact (hR2.row k2 (by rw [hB.len]; exact e1)).cell y2 (by rw [hB.row k2 e1]; exact e2)
          have x0 := hix (k1 : Int) k1 rfl d1
          have x1 := hix' (k2 : Int) k2 rfl e1
          have x2 := (hR1.row k1 (by rw [hA.len]; exact d1)).ixe (y1 : Int) y1 rfl (by rw [hA.row k1 d1]; exact d2)
          have x3 := (hR2.row k2 (by rw [hB.len]; exact e1)).ixe (y2 : Int) y2 rfl (by rw [hB.row k2 e1]; exact e2)
          have hsl : S.length = N := hI.out.len
          have hsa : (xat S k).length = N := hI.out.row k hlt
          have hlS : uo.length = S.length := by rw [Hl.out, hsl]
          have hR := rii2 hS hlS
          have hat := hS.at_row hlS (j := k) (by rw [hsl]; exact hlt)
          have z0 := hR.cell k (by rw [hsl]; exact hlt)
          have xo := hR.ixe (k : Int) k rfl (by rw [hsl]; exact hlt)
          have xb := (hS.rdI (k + 1) hat).ixe (y : Int) y rfl (by rw [hsa]; exact hly)
          have u1 := hS.unfrozen (k + 1) hat (j := y) (by rw [iv_len, hsa]; exact hly)
          have co1 := (hS.rdI (k + 1) hat).cell y (by rw [hsa]; exact hly)
          have HS9 := Lib.hid (hS.drew.store (k + 1) hat (j := y) (by rw [iv_len, hsa]; exact hly) (.int .i64 (z : Int)))
          have Hst2 := Lib.hid (putS_sq0 hI.out hlt hly (v := (z : Int)) (by omega) (by omega))
          have Hset := Lib.hid (own2_set (v := o) (L2 := []) hlS (j := k) (by rw [hsl]; exact hlt) ((xat S k).set y (z : Int)))
          clear hI hR hR1 hR2 hat hlS hsl hsa hS hz hP hA hB ha hb kN yN d1 d2 e1 e2 hpl han hbn
          go_wp2_with fail
          refine regionG (fun w' => w'.cell? (el o k) = some (vat uo k) ∧ w'.cell? (el v k1) = some (vat us k1) ∧ w'.cell? (el (vat us k1) y1) = some (.int .i64 (a : Int)) ∧ w'.cell? (el v' k2) = some (vat us' k2) ∧ w'.cell? (el (vat us' k2) y2) = some (.int .i64 (b : Int))) 31 (by kernel_rfl) ⟨cell_dr z0, cell_dr ck, cell_dr cy, cell_dr ck', cell_dr cy'⟩ (fun hHeld => ?_)
          refine takeP (i := 0) (v := ?_) rfl (by kernel_rfl) (fun _ _ _ h => h) (by rfl) ?_ (by assumption) ?_
          case refine_2 => (intro w'; go_simp; first | done | with_reducible rfl)
          try simp only [Act.put, List.setIfInBounds_toArray, List.set_cons_zero, List.set_cons_succ]
          refine takeP (i := 1) (v := ?_) rfl (by kernel_rfl) (fun _ _ _ h => h) (by rfl) ?_ (by assumption) ?_
          case refine_2 => (intro w'; go_simp; first | done | with_reducible rfl)
          try simp only [Act.put, List.setIfInBounds_toArray, List.set_cons_zero, List.set_cons_succ]
          refine takeP (i := 2) (v := ?_) rfl (by kernel_rfl) (fun _ _ _ h => h) (by rfl) ?_ (by assumption) ?_
          case refine_2 => (intro w'; go_simp; first | done | with_reducible rfl)
          try simp only [Act.put, List.setIfInBounds_toArray, List.set_cons_zero, List.set_cons_succ]
          refine takeH (i := 3) [30] (v := ?_) rfl (by kernel_rfl) (fun _ _ _ h => h) (by rfl) ?_ (by assumption) ?_
          case refine_2 => (intro w' hSw; (try dsimp only at hSw); go_simp; first | done | with_reducible rfl)
          try simp only [Act.put, List.setIfInBounds_toArray, List.set_cons_zero, List.set_cons_succ]
          refine takeP (i := 4) (v := ?_) rfl (by kernel_rfl) (fun _ _ _ h => h) (by rfl) ?_ (by assumption) ?_
          case refine_2 => (intro w'; go_simp; first | done | with_reducible rfl)
          try simp only [Act.put, List.setIfInBounds_toArray, List.set_cons_zero, List.set_cons_succ]
          refine takeP (i := 5) (v := ?_) rfl (by kernel_rfl) (fun _ _ _ h => h) (by rfl) ?_ (by assumption) ?_
          case refine_2 => (intro w'; go_simp; first | done | with_reducible rfl)
          try simp only [Act.put, List.setIfInBounds_toArray, List.set_cons_zero, List.set_cons_succ]
          refine takeP (i := 6) (v := ?_) rfl (by kernel_rfl) (fun _ _ _ h => h) (by rfl) ?_ (by assumption) ?_
          case refine_2 => (intro w'; go_simp; first | done | with_reducible rfl)
          try simp only [Act.put, List.setIfInBounds_toArray, List.set_cons_zero, List.set_cons_succ]
          refine takeP (i := 7) (v := ?_) rfl (by kernel_rfl) (fun _ _ _ h => h) (by rfl) ?_ (by assumption) ?_
          case refine_2 => (intro w'; go_simp; first | done | with_reducible rfl)
          try simp only [Act.put, List.setIfInBounds_toArray, List.set_cons_zero, List.set_cons_succ]
          refine takeP (i := 8) (v := ?_) rfl (by kernel_rfl) (fun _ _ _ h => h) (by rfl) ?_ (by assumption) ?_
          case refine_2 => (intro w'; go_simp; first | done | with_reducible rfl)
          try simp only [Act.put, List.setIfInBounds_toArray, List.set_cons_zero, List.set_cons_succ]
          refine takeP (i := 9) (v := ?_) rfl (by kernel_rfl) (fun _ _ _ h => h) (by rfl) ?_ (by assumption) ?_
          case refine_2 => (intro w'; go_simp; first | done | with_reducible rfl)
          try simp only [Act.put, List.setIfInBounds_toArray, List.set_cons_zero, List.set_cons_succ]
          refine takeP (i := 10) (v := ?_) rfl (by kernel_rfl) (fun _ _ _ h => h) (by rfl) ?_ (by assumption) ?_
          case refine_2 => (intro w'; go_simp; first | done | with_reducible rfl)
          try simp only [Act.put, List.setIfInBounds_toArray, List.set_cons_zero, List.set_cons_succ]
          refine takeH (i := 11) [15, 16, 17, 29] (v := ?_) rfl (by kernel_rfl) (fun _ _ _ h => h) (by rfl) ?_ (by assumption) ?_
          case refine_2 => (intro w' hSw; (try dsimp only at hSw); go_simp; first | done | with_reducible rfl)
          try simp only [Act.put, List.setIfInBounds_toArray, List.set_cons_zero, List.set_cons_succ]
          refine takeP (i := 12) (v := ?_) rfl (by kernel_rfl) (fun _ _ _ h => h) (by rfl) ?_ (by assumption) ?_
          case refine_2 => (intro w'; go_simp; first | done | with_reducible rfl)
          try simp only [Act.put, List.setIfInBounds_toArray, List.set_cons_zero, List.set_cons_succ]
          refine takeP (i := 13) (v := ?_) rfl (by kernel_rfl) (fun _ _ _ h => h) (by rfl) ?_ (by assumption) ?_
          case refine_2 => (intro w'; go_simp; first | done | with_reducible rfl)
          try simp only [Act.put, List.setIfInBounds_toArray, List.set_cons_zero, List.set_cons_succ]
          refine takeP (i := 14) (v := ?_) rfl (by kernel_rfl) (fun _ _ _ h => h) (by rfl) ?_ (by assumption) ?_
          case refine_2 => (intro w'; go_simp; first | done | with_reducible rfl)
          try simp only [Act.put, List.setIfInBounds_toArray, List.set_cons_zero, List.set_cons_succ]
          refine takeP (i := 15) (v := ?_) rfl (by kernel_rfl) (fun _ _ _ h => h) (by rfl) ?_ (by assumption) ?_
          case refine_2 => (intro w'; go_simp; first | done | with_reducible rfl)
          try simp only [Act.put, List.setIfInBounds_toArray, List.set_cons_zero, List.set_cons_succ]
          refine takeH (i := 16) [17, 29] (v := ?_) rfl (by kernel_rfl) (fun _ _ _ h => h) (by rfl) ?_ (by assumption) ?_
          case refine_2 => (intro w' hSw; (try dsimp only at hSw); go_simp; first | done | with_reducible rfl)
          try simp only [Act.put, List.setIfInBounds_toArray, List.set_cons_zero, List.set_cons_succ]
          refine takeP (i := 17) (v := ?_) rfl (by kernel_rfl) (fun _ _ _ h => h) (by rfl) ?_ (by assumption) ?_
          case refine_2 => (intro w'; go_simp; first | done | with_reducible rfl)
          try simp only [Act.put, List.setIfInBounds_toArray, List.set_cons_zero, List.set_cons_succ]
          refine takeP (i := 18) (v := ?_) rfl (by kernel_rfl) (fun _ _ _ h => h) (by rfl) ?_ (by assumption) ?_
          case refine_2 => (intro w'; go_simp; first | done | with_reducible rfl)
          try simp only [Act.put, List.setIfInBounds_toArray, List.set_cons_zero, List.set_cons_succ]
          refine takeP (i := 19) (v := ?_) rfl (by kernel_rfl) (fun _ _ _ h => h) (by rfl) ?_ (by assumption) ?_
          case refine_2 => (intro w'; go_simp; first | done | with_reducible rfl)
          try simp only [Act.put, List.setIfInBounds_toArray, List.set_cons_zero, List.set_cons_succ]
          refine takeP (i := 20) (v := ?_) rfl (by kernel_rfl) (fun _ _ _ h => h) (by rfl) ?_ (by assumption) ?_
          case refine_2 => (intro w'; go_simp; first | done | with_reducible rfl)
          try simp only [Act.put, List.setIfInBounds_toArray, List.set_cons_zero, List.set_cons_succ]
          refine takeP (i := 21) (v := ?_) rfl (by kernel_rfl) (fun _ _ _ h => h) (by rfl) ?_ (by assumption) ?_
          case refine_2 => (intro w'; go_simp; first | done | with_reducible rfl)
          try simp only [Act.put, List.setIfInBounds_toArray, List.set_cons_zero, List.set_cons_succ]
          refine takeP (i := 22) (v := ?_) rfl (by kernel_rfl) (fun _ _ _ h => h) (by rfl) ?_ (by assumption) ?_
          case refine_2 => (intro w'; go_simp; first | done | with_reducible rfl)
          try simp only [Act.put, List.setIfInBounds_toArray, List.set_cons_zero, List.set_cons_succ]
          refine takeH (i := 23) [27, 28, 29] (v := ?_) rfl (by kernel_rfl) (fun _ _ _ h => h) (by rfl) ?_ (by assumption) ?_
          case refine_2 => (intro w' hSw; (try dsimp only at hSw); go_simp; first | done | with_reducible rfl)
          try simp only [Act.put, List.setIfInBounds_toArray, List.set_cons_zero, List.set_cons_succ]
          refine takeP (i := 24) (v := ?_) rfl (by kernel_rfl) (fun _ _ _ h => h) (by rfl) ?_ (by assumption) ?_
          case refine_2 => (intro w'; go_simp; first | done | with_reducible rfl)
          try simp only [Act.put, List.setIfInBounds_toArray, List.set_cons_zero, List.set_cons_succ]
          refine takeP (i := 25) (v := ?_) rfl (by kernel_rfl) (fun _ _ _ h => h) (by rfl) ?_ (by assumption) ?_
          case refine_2 => (intro w'; go_simp; first | done | with_reducible rfl)
          try simp only [Act.put, List.setIfInBounds_toArray, List.set_cons_zero, List.set_cons_succ]
          refine takeP (i := 26) (v := ?_) rfl (by kernel_rfl) (fun _ _ _ h => h) (by rfl) ?_ (by assumption) ?_
          case refine_2 => (intro w'; go_simp; first | done | with_reducible rfl)
          try simp only [Act.put, List.setIfInBounds_toArray, List.set_cons_zero, List.set_cons_succ]
          refine takeP (i := 27) (v := ?_) rfl (by kernel_rfl) (fun _ _ _ h => h) (by rfl) ?_ (by assumption) ?_
          case refine_2 => (intro w'; go_simp; first | done | with_reducible rfl)
          try simp only [Act.put, List.setIfInBounds_toArray, List.set_cons_zero, List.set_cons_succ]
          refine takeH (i := 28) [29] (v := ?_) rfl (by kernel_rfl) (fun _ _ _ h => h) (by rfl) ?_ (by assumption) ?_
          case refine_2 => (intro w' hSw; (try dsimp only at hSw); go_simp; first | done | with_reducible rfl)
          try simp only [Act.put, List.setIfInBounds_toArray, List.set_cons_zero, List.set_cons_succ]
          refine takeP (i := 29) (v := ?_) rfl (by kernel_rfl) (fun _ _ _ h => h) (by rfl) ?_ (by assumption) ?_
          case refine_2 => (intro w'; go_simp; first | done | with_reducible rfl)
          try simp only [Act.put, List.setIfInBounds_toArray, List.set_cons_zero, List.set_cons_succ]
          refine takeP (i := 30) (v := ?_) rfl (by kernel_rfl) (fun _ _ _ h => h) (by rfl) ?_ (by assumption) ?_
          case refine_2 => (intro w'; go_simp; first | done | with_reducible rfl)
          try simp only [Act.put, List.setIfInBounds_toArray, List.set_cons_zero, List.set_cons_succ]
          refine readyG (rs := [31]) (by kernel_rfl) (by simp) ?_
          refine AllG.last rfl (by kernel_rfl) (fun K hK => ?_) AllG.nil
          go_simp
          refine hK.out _ _ ?_
          clear hK K
          try simp only [Act.put, List.setIfInBounds_toArray, List.set_cons_zero, List.set_cons_succ]
          refine doneG (by kernel_rfl) ?_ _
          refine NoPanic.normal ?_
          have hS9 := HS9.out
          rw [iv_set, Hset.out] at hS9
          go_wp2_with fail
          go_roundw
          case rel => exact ⟨y + 1, _, by omega, by go_num, Hst2.out, hS9⟩
          case measure => simp [intOf]; omega
        · obtain rfl : y = N := by omega
          go_wp2_with fail
          go_roundw
          case rel => exact ⟨k + 1, S, by omega, by go_num, hI.out, hS⟩
          case measure => simp [intOf]; omega
    · rw [List.append_nil] at hS
      go_wp2_with fail
      go_ret
      exact ⟨o, uo, S, rfl, hI.out, Hl.out, hS⟩


/-- some square of n rows with entries below n, and the source goes on -/
def SqS (w0 : World) (cv : Value) (g K n : Nat) (L : List Ent) (e : Ending) (w' : World) : Prop := ∃ v us A, e = .returned v ∧ Sq0 n A ∧ us.length = n ∧ Src w0 w' cv g K (own2 v us A ++ L)
set_option maxHeartbeats 8000000 in
set_option maxRecDepth 100000 in
theorem l06Switch_c (w0 w : World) (cv : Value) (bs : List UInt8) (g K : Nat) (L : List Ent) (n : Nat) (v : Value) (us : List Value) (A : List (List Int)) (hb : RdB w0 cv bs)
    (h : Src w0 w cv g K (own2 v us A ++ L)) (hl : us.length = n) (hA : Sq0 n A) (hK : K < 100000000000) (n1 : 1 ≤ n) (n2 : n ≤ 100) :
    Calls Try.prog 130 #[.pointer (some ⟨g, 0, none⟩), v] w (SqS w0 cv g (K + 10) n L) := by
  have HA := Lib.hid hA
  have Hul := Lib.hid hl
  have hRA : RII w v us A := by
    obtain ⟨p, s, h0, h1, hS⟩ := h
    exact (hS.sub ((List.sublist_append_left _ _).trans (List.sublist_cons_self _ _))).rii (by rw [hl, hA.len])
  have hln := hRA.len
  rw [hA.len] at hln
  have hxi := hRA.ixe
  rw [hA.len] at hxi
  have HO := Lib.hid (l06Own_c v us A w hRA (by rw [hA.len]; omega) (fun xs hx => by
    obtain ⟨j, hj, rfl⟩ := List.getElem_of_mem hx
    have := hA.row j (by rw [← hA.len]; exact hj)
    rw [xat_eq hj] at this; omega))
  clear hA hl hRA
  go_enter Try.func130, Try.ntmps130
  go_wp2_with fail
  refine HO.out.mono ?_
  rintro e w1 ⟨o, uo, rfl, hlo, h1⟩
  rw [HA.out.len] at hlo
  have Hl := Lib.hid hlo
  have h2 := h.call h1
  clear h h1 hlo HO
  go_wp2_with fail
  refine (pick_c w0 w1 cv bs g _ _ n hb h2 (by omega)).mono ?_
  rintro e w2 ⟨x, x0, x1, rfl, h3⟩
  obtain ⟨x, rfl⟩ := Int.eq_ofNat_of_zero_le x0
  have hxn : x < n := by omega
  clear h2 x0 x1
  go_wp2_with fail
  refine (pick_c w0 w2 cv bs g _ _ n hb h3 (by omega)).mono ?_
  rintro e w3 ⟨z, z0, z1, rfl, h4⟩
  obtain ⟨z, rfl⟩ := Int.eq_ofNat_of_zero_le z0
  have hzn : z < n := by omega
  clear h3 z0 z1
  by_cases hxz : x = z
  · have f1 : ((x : Int) == (z : Int)) = true := eq_t (by omega)
    have h5 := (h4.perm (L' := (own2 o uo A ++ L) ++ own2 v us A) (by (try simp only [own2, List.cons_append, List.nil_append, List.append_nil]); classical exact List.perm_iff_count.2 (fun a => by simp only [List.cons_append, List.nil_append, List.append_nil, List.count_append, List.count_cons, List.count_nil] <;> omega))).sub (List.sublist_append_left _ _)
    clear h4 hxz
    go_wp2_with fail
    go_ret
    exact ⟨o, uo, A, rfl, HA.out, Hl.out, h5.mono (by omega)⟩
  · have f1 : ((x : Int) == (z : Int)) = false := eq_f (by omega)
    have Hxz := Lib.hid hxz
    clear hxz
    go_wp2_with fail
    refine (pick_c w0 w3 cv bs g _ _ n hb h4 (by omega)).mono ?_
    rintro e w4 ⟨y, y0, y1, rfl, h5⟩
    obtain ⟨y, rfl⟩ := Int.eq_ofNat_of_zero_le y0
    have hyn : y < n := by omega
    clear h4 y0 y1
    obtain ⟨pp, ss, p0, p1, hS⟩ := h5
    obtain ⟨M, hM⟩ : ∃ M, M = box 101 g [cv, .int .i64 pp, .int .u64 ss] :: (L ++ own2 v us A) := ⟨_, rfl⟩
    have hS1 : St w0.heap.size w0 w4 (own2 o uo A ++ M) := by rw [hM]; exact hS.perm (by (try simp only [own2, List.cons_append, List.nil_append, List.append_nil]); classical exact List.perm_iff_count.2 (fun a => by simp only [List.cons_append, List.nil_append, List.append_nil, List.count_append, List.count_cons, List.count_nil] <;> omega))
    have HM := Lib.hid (show ∀ w' S, St w0.heap.size w0 w' (own2 o uo S ++ M) → Src w0 w' cv g (K + 10) (own2 o uo S ++ L) from fun w' S hs => by
      rw [hM] at hs
      exact ⟨pp, ss, p0, by omega, (hs.perm (L' := (box 101 g [cv, .int .i64 pp, .int .u64 ss] :: (own2 o uo S ++ L)) ++ own2 v us A) (by (try simp only [own2, List.cons_append, List.nil_append, List.append_nil]); classical exact List.perm_iff_count.2 (fun a => by simp only [List.cons_append, List.nil_append, List.append_nil, List.count_append, List.count_cons, List.count_nil] <;> omega))).sub (List.sublist_append_left _ _)⟩)
    have hRA : RII w4 v us A := (hS.sub ((List.sublist_append_left _ _).trans ((List.sublist_append_left _ _).trans (List.sublist_cons_self _ _)))).rii (by rw [Hul.out, HA.out.len])
    have ca := hRA.cell x (by rw [HA.out.len]; exact hxn)
    have cb := (hRA.row x (by rw [HA.out.len]; exact hxn)).cell y (by rw [HA.out.row x hxn]; exact hyn)
    have xa := (hRA.row x (by rw [HA.out.len]; exact hxn)).ixe (y : Int) y rfl (by rw [HA.out.row x hxn]; exact hyn)
    have xx := hxi (x : Int) x rfl hxn
    generalize nth (xat A x) y = fst at *
    clear hM hS hRA p0 p1
    go_wp2_with fail
    clear ca cb xa xx
    go_loopw [9, 11, 12, 13, 14, 15] (fun yv kk _ _ _ _ wr => ∃ (k y : Nat) (S : List (List Int)), k ≤ n ∧ kk = .int .i64 k ∧ yv = .int .i64 y ∧ y < n ∧ Hid (Sq0 n S) ∧ St w0.heap.size w0 wr (own2 o uo S ++ M)) (fun _ kk _ _ _ _ _ => n - (intOf kk).toNat)
    case atStart => exact ⟨0, y, A, by omega, rfl, rfl, hyn, HA.out, hS1⟩
    case round =>
      clear hS1 hyn
      obtain ⟨k, y, S, hk, rfl, rfl, hyn, hI, hS⟩ := hrel
      by_cases hlt : k < n
      · have hsl : S.length = n := hI.out.len
        have hlS : uo.length = S.length := by rw [Hl.out, hsl]
        have hsx : (xat S x).length = n := hI.out.row x hxn
        have hsz : (xat S z).length = n := hI.out.row z hzn
        have hR := rii2 hS hlS
        have hat := hS.at_row hlS (j := x) (by rw [hsl]; exact hxn)
        have c1 := hR.cell x (by rw [hsl]; exact hxn)
        have c2 := hR.cell z (by rw [hsl]; exact hzn)
        have i1 := hR.ixe (x : Int) x rfl (by rw [hsl]; exact hxn)
        have i2 := hR.ixe (z : Int) z rfl (by rw [hsl]; exact hzn)
        have j1 := (hR.row x (by rw [hsl]; exact hxn)).ixe (y : Int) y rfl (by rw [hsx]; exact hyn)
        have j2 := (hR.row z (by rw [hsl]; exact hzn)).ixe (y : Int) y rfl (by rw [hsz]; exact hyn)
        have d1 : wr.cell? (el (vat uo x) y) = some (.int .i64 (at2 S x y)) := (hR.row x (by rw [hsl]; exact hxn)).cell y (by rw [hsx]; exact hyn)
        have d2 : wr.cell? (el (vat uo z) y) = some (.int .i64 (at2 S z y)) := (hR.row z (by rw [hsl]; exact hzn)).cell y (by rw [hsz]; exact hyn)
        have hup := hI.out.el x y hxn hyn
        have hdn := hI.out.el z y hzn hyn
        obtain ⟨S2, hS2⟩ : ∃ S2, S2 = putS S x y (at2 S z y) := ⟨_, rfl⟩
        obtain ⟨S3, hS3⟩ : ∃ S3, S3 = putS S2 z y (at2 S x y) := ⟨_, rfl⟩
        have q2 : Sq0 n S2 := by rw [hS2]; exact putS_sq0 hI.out hxn hyn hdn.1 hdn.2
        have q3 : Sq0 n S3 := by rw [hS3]; exact putS_sq0 q2 hzn hyn hup.1 hup.2
        generalize at2 S x y = up at *
        generalize at2 S z y = dn at *
        have HE1 := Lib.hid (own2_set (v := o) (L2 := M) hlS (j := x) (by rw [hsl]; exact hxn) ((xat S x).set y dn))
        rw [show S.set x ((xat S x).set y dn) = S2 from hS2.symm] at HE1
        have hlS2 : uo.length = S2.length := by rw [Hl.out, q2.len]
        have HE2 := Lib.hid (own2_set (v := o) (L2 := M) hlS2 (j := z) (by rw [q2.len]; exact hzn) ((xat S2 z).set y up))
        rw [show S2.set z ((xat S2 z).set y up) = S3 from hS3.symm] at HE2
        have hT : ∀ w', St w0.heap.size w0 w' (own2 o uo S2 ++ M) → (own2 o uo S2 ++ M)[z + 1]? = some (row 2 (vat uo z) (iv (xat S2 z))) ∧ w'.cell? (el o z) = some (vat uo z) := fun w' hs => ⟨hs.at_row hlS2 (j := z) (by rw [q2.len]; exact hzn), (rii2 hs hlS2).cell z (by rw [q2.len]; exact hzn)⟩
        have HT := Lib.hid hT
        have hW : ∀ w', St w0.heap.size w0 w' (own2 o uo S3 ++ M) → w'.cell? (el o x) = some (vat uo x) := fun w' hs => (rii2 hs (by rw [Hl.out, q3.len])).cell x (by rw [q3.len]; exact hxn)
        have HW := Lib.hid hW
        have hV : ∀ w' (i : Nat), i < n → St w0.heap.size w0 w' (own2 o uo S3 ++ M) → w'.cell? (el (vat uo x) i) = some (.int .i64 (at2 S3 x i)) ∧ ∀ W, (Instr.indexAt 52 (vat uo x) (.int .i64 (i : Int))).run Try.prog W = .ok (.pointer (some (el (vat uo x) i))) W := fun w' i hi hs => by
          have hr := (rii2 hs (by rw [Hl.out, q3.len])).row x (by rw [q3.len]; exact hxn)
          exact ⟨hr.cell i (by rw [q3.row x hxn]; exact hi), fun W => hr.ixe (i : Int) i rfl (by rw [q3.row x hxn]; exact hi) W⟩
        have HV := Lib.hid hV
        have Q3 := Lib.hid q3
        have hsz2 : (xat S2 z).length = n := q2.row z hzn
        have Hat := Lib.hid hat
        have Hsz2 := Lib.hid hsz2
        have Hsx := Lib.hid hsx
        have hs2 := Lib.hid hS
        clear hT hW hV hR hI hS2 hS3 q2 q3 hlS hlS2 hsl hsx hsz hat hsz2 hup hdn
        by_cases hdf : dn = fst
        · have g1 : (dn == fst) = true := eq_t hdf
          clear hdf
          go_wp2_with (first
            | (have hz := hw2; clear hz; refine stoI hw2 (z + 1) hat2 y (by rw [Hsz2.out]; exact hyn) rfl _ _ rfl rfl _ rfl ?_; intro w3' hw3; rw [HE2.out] at hw3; have k1 := HW.out _ hw3)
            | (refine stoI hs2.out (x + 1) Hat.out y (by rw [Hsx.out]; exact hyn) rfl _ _ rfl rfl _ rfl ?_; intro w2' hw2; rw [HE1.out] at hw2; obtain ⟨hat2, k2⟩ := HT.out _ hw2))
          go_ret
          exact ⟨o, uo, S3, rfl, Q3.out, Hl.out, HM.out _ _ hw3⟩
        · have g1 : (dn == fst) = false := eq_f hdf
          clear hdf
          go_wp2_with (first
            | (have hz := hw2; clear hz; refine stoI hw2 (z + 1) hat2 y (by rw [Hsz2.out]; exact hyn) rfl _ _ rfl rfl _ rfl ?_; intro w3' hw3; rw [HE2.out] at hw3; have k1 := HW.out _ hw3)
            | (refine stoI hs2.out (x + 1) Hat.out y (by rw [Hsx.out]; exact hyn) rfl _ _ rfl rfl _ rfl ?_; intro w2' hw2; rw [HE1.out] at hw2; obtain ⟨hat2, k2⟩ := HT.out _ hw2))
          clear hw2 hat2 k1 k2 hS
          go_loopw [14, 15] (fun nx ii wz => ∃ i t : Nat, i ≤ n ∧ ii = .int .i64 i ∧ nx = .int .i64 t ∧ t < n ∧ St w0.heap.size w0 wz (own2 o uo S3 ++ M)) (fun _ ii _ => n - (intOf ii).toNat)
          case atStart => exact ⟨0, 0, by omega, rfl, rfl, by omega, hw3⟩
          case round =>
            clear hw3
            obtain ⟨i, t, hi, rfl, rfl, htn, hS9⟩ := hrel
            by_cases hil : i < n
            · have k1 := HW.out _ hS9
              have k2 := (HV.out _ i hil hS9).1
              have k3 := (HV.out _ i hil hS9).2
              generalize at2 S3 x i = q at *
              by_cases hiy : i = y
              · have g2 : ((i : Int) != (y : Int)) = false := ne_f (by omega)
                clear hiy
                go_wp2_with fail
                go_roundw
                case rel => exact ⟨i + 1, t, by omega, by go_num, rfl, htn, hS9⟩
                case measure => simp [intOf]; omega
              · have g2 : ((i : Int) != (y : Int)) = true := ne_t (by omega)
                clear hiy
                by_cases hqd : q = dn
                · have g3 : (q == dn) = true := eq_t hqd
                  clear hqd
                  go_wp2_with fail
                  go_roundw
                  case rel => exact ⟨i + 1, i, by omega, by go_num, rfl, hil, hS9⟩
                  case measure => simp [intOf]; omega
                · have g3 : (q == dn) = false := eq_f hqd
                  clear hqd
                  go_wp2_with fail
                  go_roundw
                  case rel => exact ⟨i + 1, t, by omega, by go_num, rfl, htn, hS9⟩
                  case measure => simp [intOf]; omega
            · go_wp2_with fail
              go_roundw
              case rel => exact ⟨k + 1, t, S3, by omega, by go_num, rfl, htn, Q3.out, hS9⟩
              case measure => simp [intOf]; omega
      · go_wp2_with fail
        go_ret
        exact ⟨o, uo, S, rfl, hI.out, Hl.out, HM.out _ _ hS⟩

end Go.Proofs.Ytejncephbafcdaa
end
