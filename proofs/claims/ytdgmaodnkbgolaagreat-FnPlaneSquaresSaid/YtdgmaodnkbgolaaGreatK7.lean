/- The texts of this claim, run 7: Mul Mk Tab Dot Mf Cmp Ds0 Ds1 Src Set. -/
import Derived.Test.YtdgmaodnkbgolaaGreatK1
import Derived.Test.YtdgmaodnkbgolaaGreatK3
import Derived.Test.YtdgmaodnkbgolaaGreatK4
import Derived.Test.YtdgmaodnkbgolaaGreatK5
import Derived.Test.YtdgmaodnkbgolaaGreatK6
import Derived.Deep.RegionHeld3
import Derived.Deep.DrawnRows
import Derived.Deep.CutRange
import Derived.Shelf.SlSortCmp.NoneTotal
section
/- Walks: products of elements. Walks: the statements' products of elements. -/
namespace Go.Proofs.YtdgmaodnkbgolaaGreat
set_option linter.unusedSimpArgs false
set_option linter.unusedVariables false
open Go.RowKit
attribute [local go_sem ↓] Go.wp_at_zero Go.wp_at_succ


theorem cvr_in {p : Int} (hp : 0 < p) (x y : List Int) (D n i j : Nat) : In p (cvr p x y D n i j) := by
  refine In.tab fun t _ => ?_
  split
  · exact cvl_in hp x y D _ t
  · exact cvl_in hp x y D _ t
theorem cvr_inl {p : Int} (hp : 0 < p) (x y : List Int) (D n i : Nat) : In p (tab n (cvl p x y D i)) := In.tab fun t _ => cvl_in hp x y D i t

set_option maxHeartbeats 8000000 in
set_option maxRecDepth 100000 in
theorem product_c (p : Int) (D : Nat) (v : Value) (xs : List Int) (a b : Int) (w : World) (hv : RdI w v xs) (hf : FV p D xs) (a0 : 0 ≤ a) (a1 : a ≤ 1000000) (b0 : 0 ≤ b) (b1 : b ≤ 1000000) :
    Calls Tryz.prog 52 #[fv p D v, .int .i64 a, .int .i64 b] w (GivesI w (fmul p D xs a b)) := by
  have hS0 := (St.refl w).newboxF 73 #[.int .i64 p, .int .i64 D, v]
  have p2 := hf.p2
  have p64 := hf.p64
  have d6 := hf.d6
  have d1 := hf.d1
  have HQ := Lib.hid hf.len
  have hq := hf.q
  rw [Int.toNat_natCast] at hq
  have HP := Lib.hid hq
  clear hq
  have Hin := Lib.hid hf.inp
  have fp : (p == 0) = false := eq_f (by omega)
  have c0 := hS0.bcell 0 rfl 0 rfl
  have c1 := hS0.bcell 0 rfl 1 rfl
  have hda := fun W => Lib.hid (digitsOf_c a p D W a0 (by omega) p2 (by omega) (by omega))
  have hdb := fun W => Lib.hid (digitsOf_c b p D W b0 (by omega) p2 (by omega) (by omega))
  rw [lows_dgt] at hda hdb
  have Hx := Lib.hid (dgt_in (base := p) (by omega) D a)
  have Hy := Lib.hid (dgt_in (base := p) (by omega) D b)
  have Hxl := Lib.hid (dgt_len p D a)
  have Hyl := Lib.hid (dgt_len p D b)
  have Hend := Lib.hid (fmul_eq (p := p) (by omega) (D := D) (by omega) (poly := xs) (by have := hf.len; omega) a b)
  generalize fmul p D xs a b = R at Hend ⊢
  clear hf
  generalize dgt p D a = x at hda Hx Hxl Hend
  generalize dgt p D b = y at hdb Hy Hyl Hend
  unfold fv
  go_enter Tryz.func52, Tryz.ntmps52
  go_wp2_with fail
  go_region_held3 (fun w' => w'.cell? ⟨w.heap.size, 0, none⟩ = some (.int .i64 p) ∧ w'.cell? ⟨w.heap.size, 1, none⟩ = some (.int .i64 D)) (go_keep)
    (first
    | (go_at_call_of 84 (Value.int .i64 a); refine (hda _).out.mono ?_; rintro e w1 ⟨vx, rfl, h1⟩; have hS1 := hS0.drew.call h1; have g0 := hS1.bcell 0 rfl 0 rfl; have g1 := hS1.bcell 0 rfl 1 rfl)
    | (go_at_call_of 84 (Value.int .i64 b); refine (hdb _).out.mono ?_; rintro e w2 ⟨vy, rfl, h2⟩; have hS2 := hS1.call h2; have k0 := hS2.bcell 0 rfl 0 rfl; have k1 := hS2.bcell 0 rfl 1 rfl))
  simp only [List.cons_append, List.nil_append] at hS2
  clear hS1 h1 h2 g0 g1 hda hdb c0 c1 k0
  have hlx := (hS2.rdI 1 rfl).len
  have hly := (hS2.rdI 2 rfl).len
  rw [Hxl.out] at hlx
  rw [Hyl.out] at hly
  go_wp2_with (at_make; refine mkI hS2 rfl _ _ rfl _ _ (2 * D) (by go_num) (by go_num) (by omega) ?_; intro vz w3 hS3)
  simp only [List.cons_append, List.nil_append] at hS3
  clear k1 hS2
  go_wp2_with fail
  go_loopw [10, 30] (fun _ i wr => ∃ j : Nat, j ≤ D ∧ i = .int .i64 j ∧ St w.heap.size w wr [box 73 w.heap.size [.int .i64 p, .int .i64 D, v], row 2 vx (iv x), row 2 vy (iv y), row 2 vz (iv (tab (2 * D) (cvl p x y D j)))]) (fun _ i _ => D - (intOf i).toNat)
  case atStart => exact ⟨0, by omega, rfl, by rw [cvl_0]; exact hS3⟩
  case round =>
    obtain ⟨i, hi, rfl, hS⟩ := hrel
    by_cases hlt : i < D
    · rw [← cvr_0 p x y D (2 * D) i] at hS
      go_wp2_with fail
      go_loopw [11, 35] (fun _ u wr => ∃ j : Nat, j ≤ D ∧ u = .int .i64 j ∧ St w.heap.size w wr [box 73 w.heap.size [.int .i64 p, .int .i64 D, v], row 2 vx (iv x), row 2 vy (iv y), row 2 vz (iv (cvr p x y D (2 * D) i j))]) (fun _ u _ => D - (intOf u).toNat)
      case atStart => exact ⟨0, by omega, rfl, hS⟩
      case round =>
        obtain ⟨j, hj, rfl, hT⟩ := hrel
        by_cases hlu : j < D
        · have hat : i + j < (cvr p x y D (2 * D) i j).length := by rw [cvr_len]; omega
          have hxt : i < x.length := by rw [Hxl.out]; exact hlt
          have hyt : j < y.length := by rw [Hyl.out]; exact hlu
          have hcz := (hT.rdI 3 rfl).cell (i + j) hat
          have hcx := (hT.rdI 1 rfl).cell i hxt
          have hcy := (hT.rdI 2 rfl).cell j hyt
          have hiz := (hT.rdI 3 rfl).ixe ((i : Int) + (j : Int)) (i + j) (by omega) hat
          have hix := (hT.rdI 1 rfl).ixe (i : Int) i rfl hxt
          have hiy := (hT.rdI 2 rfl).ixe (j : Int) j rfl hyt
          have hab := Hx.out _ (nth_mem hxt)
          have hbb := Hy.out _ (nth_mem hyt)
          have hcc := cvr_in (by omega) x y D (2 * D) i j _ (nth_mem hat)
          have hst := Lib.hid (cvr_step (p := p) (x := x) (y := y) (D := D) (n := 2 * D) (i := i) (j := j) hlu (by omega))
          have u1 := hT.unfrozen 3 rfl (j := i + j) (by rw [iv_len]; exact hat)
          have e0 := hT.bcell 0 rfl 0 rfl
          generalize hA : nth x i = A at hcx hab
          generalize hB : nth y j = B at hcy hbb
          generalize hC : nth (cvr p x y D (2 * D) i j) (i + j) = C at hcz hcc
          have HA := Lib.hid hA
          have HB := Lib.hid hB
          have HC := Lib.hid hC
          obtain ⟨a2, a3⟩ := hab
          obtain ⟨b2, b3⟩ := hbb
          obtain ⟨e2, e3⟩ := hcc
          have n0 : 0 ≤ A * B := Int.mul_nonneg a2 b2
          have n1 : A * B ≤ 4096 := Int.le_trans (Int.mul_le_mul (show A ≤ 64 by omega) (show B ≤ 64 by omega) b2 (by omega)) (by omega)
          have hs1 := hT.store 3 rfl (j := i + j) (by rw [iv_len]; exact hat) (.int .i64 ((C + A * B) % p))
          have hs2 := Lib.hid hs1.drew
          clear hA hB hC hat hyt hxt hs1
          go_wp2_with fail
          go_region
          all_goals
            go_wp2_with fail
            go_roundw
            case rel =>
              refine ⟨j + 1, by omega, by go_num, ?_⟩
              have h := hs2.out
              rw [iv_set] at h
              rw [← hst.out, show cf x i = A from HA.out, show cf y j = B from HB.out, show cf (cvr p x y D (2 * D) i j) (i + j) = C from HC.out]
              exact h
            case measure => simp [intOf]; omega
        · obtain rfl : j = D := by omega
          rw [cvr_end] at hT
          go_wp2_with fail
          go_roundw
          case rel => exact ⟨i + 1, by omega, by go_num, hT⟩
          case measure => simp [intOf]; omega
    · obtain rfl : D = i := by omega
      have hrem := Lib.hid (remainder_c vz v _ xs p _ (hS.drew.rdI 3 rfl) (hS.drew.oldI hv) p2 p64 (cvr_inl (by omega) x y D (2 * D) D) Hin.out (by rw [tab_len]; omega) (by have := HQ.out; omega) (by have := HQ.out; omega))
      have c0 := hS.bcell 0 rfl 0 rfl
      have c2 := hS.bcell 0 rfl 2 rfl
      have Hri : Hid (In p (remL p (tab (2 * D) (cvl p x y D D)) xs)) := Lib.hid (In.remL (by omega) (cvr_inl (by omega) x y D (2 * D) D))
      have Hrl : Hid ((remL p (tab (2 * D) (cvl p x y D D)) xs).length ≤ xs.length - 1) := Lib.hid remL_len
      generalize remL p (tab (2 * D) (cvl p x y D D)) xs = rr at hrem Hri Hrl Hend
      go_wp2_with fail
      go_region_held3 (fun w' => w'.cell? ⟨w.heap.size, 0, none⟩ = some (.int .i64 p) ∧ w'.cell? ⟨w.heap.size, 2, none⟩ = some v) (go_keep)
        (first
        | (go_at_call_of 86 vz; refine (hrem.out).mono ?_; rintro e w5 ⟨vr, rfl, h5⟩; have hS5 := hS.drew.call h5; have k0 := hS5.bcell 0 rfl 0 rfl; have k2 := hS5.bcell 0 rfl 2 rfl)
        | (go_at_call_of 85 vr; refine (numberOf_c vr rr p _ (hS5.rdI 4 rfl) (by omega) p64 Hri.out (by have h1 := Hrl.out; have h2 := HQ.out; have h3 := HP.out; exact Int.le_trans (Int.le_trans (pow_mono (by omega) (show rr.length ≤ D by omega)) h3) (by omega))).mono ?_; rintro e w6 ⟨rfl, rfl⟩))
      simp only [List.cons_append, List.nil_append] at hS5
      go_wp2_with fail
      go_ret
      exact ⟨Hend.out ▸ rfl, hS5.out⟩


set_option maxHeartbeats 8000000 in
set_option maxRecDepth 100000 in
theorem l03Mul_c (p : Int) (D : Nat) (g : Nat) (v : Value) (xs : List Int) (a b : Int) (w : World) (hv : RdI w v xs) (hbx : BoxF w g p D v) (hf : FV p D xs) (a0 : 0 ≤ a) (a1 : a ≤ 1000000) (b0 : 0 ≤ b) (b1 : b ≤ 1000000) :
    Calls Tryz.prog 108 #[.pointer (some ⟨g, 0, none⟩), .int .i64 a, .int .i64 b] w (GivesI w (fmul p D xs a b)) := by
  have hS0 := St.refl w
  have p2 := hf.p2
  have p64 := hf.p64
  have d6 := hf.d6
  have d1 := hf.d1
  have HQ := Lib.hid hf.len
  have hq := hf.q
  rw [Int.toNat_natCast] at hq
  have HP := Lib.hid hq
  clear hq
  have Hin := Lib.hid hf.inp
  have fp : (p == 0) = false := eq_f (by omega)
  have c0 := hbx.1
  have c1 := hbx.2.1
  have HBX := Lib.hid hbx
  have hda := fun W => Lib.hid (l03Digits_c a p D W a0 (by omega) p2 (by omega) (by omega))
  have hdb := fun W => Lib.hid (l03Digits_c b p D W b0 (by omega) p2 (by omega) (by omega))
  rw [lows_dgt] at hda hdb
  have Hx := Lib.hid (dgt_in (base := p) (by omega) D a)
  have Hy := Lib.hid (dgt_in (base := p) (by omega) D b)
  have Hxl := Lib.hid (dgt_len p D a)
  have Hyl := Lib.hid (dgt_len p D b)
  have Hend := Lib.hid (show numL p (remL p (tab (2 * D - 1) (cvl p (dgt p D a) (dgt p D b) D D)) xs) = fmul p D xs a b from rfl)
  generalize fmul p D xs a b = R at Hend ⊢
  clear hf
  generalize dgt p D a = x at hda Hx Hxl Hend
  generalize dgt p D b = y at hdb Hy Hyl Hend
  go_enter Tryz.func108, Tryz.ntmps108
  go_wp2_with fail
  go_region_held3 (fun w' => w'.cell? ⟨g, 0, none⟩ = some (.int .i64 p) ∧ w'.cell? ⟨g, 1, none⟩ = some (.int .i64 D)) (go_keep)
    ((go_at_call_of 150 (Value.int .i64 a); refine (hda _).out.mono ?_; rintro e w1 ⟨vx, rfl, h1⟩; have hS1 := hS0.drew.call h1; have g0 := (hS1.oldF HBX.out).1; have g1 := (hS1.oldF HBX.out).2.1))
  go_wp2_with fail
  go_region_held3 (fun w' => w'.cell? ⟨g, 0, none⟩ = some (.int .i64 p) ∧ w'.cell? ⟨g, 1, none⟩ = some (.int .i64 D)) (go_keep)
    ((go_at_call_of 150 (Value.int .i64 b); refine (hdb _).out.mono ?_; rintro e w2 ⟨vy, rfl, h2⟩; have hS2 := hS1.drew.call h2; have k0 := (hS2.oldF HBX.out).1; have k1 := (hS2.oldF HBX.out).2.1))
  simp only [List.cons_append, List.nil_append] at hS2
  clear hS1 h1 h2 g0 g1 hda hdb c0 c1 k0
  have hlx := (hS2.rdI 0 rfl).len
  have hly := (hS2.rdI 1 rfl).len
  have hM : ((2 * D - 1 : Nat) : Int) = 2 * (D : Int) - 1 := by omega
  rw [Hxl.out] at hlx
  rw [Hyl.out] at hly
  go_wp2_with (at_make; refine mkI hS2 rfl _ _ rfl _ _ (2 * D - 1) (by rw [hM]; go_num) (by rw [hM]; go_num) (by omega) ?_; intro vz w3 hS3)
  simp only [List.cons_append, List.nil_append] at hS3
  clear k1 hS2 hM
  go_wp2_with fail
  go_loopw [10] (fun i wr => ∃ j : Nat, j ≤ D ∧ i = .int .i64 j ∧ St w.heap.size w wr [row 2 vx (iv x), row 2 vy (iv y), row 2 vz (iv (tab (2 * D - 1) (cvl p x y D j)))]) (fun i _ => D - (intOf i).toNat)
  case atStart => exact ⟨0, by omega, rfl, by rw [cvl_0]; exact hS3⟩
  case round =>
    obtain ⟨i, hi, rfl, hS⟩ := hrel
    by_cases hlt : i < D
    · rw [← cvr_0 p x y D (2 * D - 1) i] at hS
      go_wp2_with fail
      go_loopw [11] (fun u wr => ∃ j : Nat, j ≤ D ∧ u = .int .i64 j ∧ St w.heap.size w wr [row 2 vx (iv x), row 2 vy (iv y), row 2 vz (iv (cvr p x y D (2 * D - 1) i j))]) (fun u _ => D - (intOf u).toNat)
      case atStart => exact ⟨0, by omega, rfl, hS⟩
      case round =>
        obtain ⟨j, hj, rfl, hT⟩ := hrel
        by_cases hlu : j < D
        · have hat : i + j < (cvr p x y D (2 * D - 1) i j).length := by rw [cvr_len]; omega
          have hxt : i < x.length := by rw [Hxl.out]; exact hlt
          have hyt : j < y.length := by rw [Hyl.out]; exact hlu
          have hcz := (hT.rdI 2 rfl).cell (i + j) hat
          have hcx := (hT.rdI 0 rfl).cell i hxt
          have hcy := (hT.rdI 1 rfl).cell j hyt
          have hiz := (hT.rdI 2 rfl).ixe ((i : Int) + (j : Int)) (i + j) (by omega) hat
          have hix := (hT.rdI 0 rfl).ixe (i : Int) i rfl hxt
          have hiy := (hT.rdI 1 rfl).ixe (j : Int) j rfl hyt
          have hab := Hx.out _ (nth_mem hxt)
          have hbb := Hy.out _ (nth_mem hyt)
          have hcc := cvr_in (by omega) x y D (2 * D - 1) i j _ (nth_mem hat)
          have hst := Lib.hid (cvr_step (p := p) (x := x) (y := y) (D := D) (n := 2 * D - 1) (i := i) (j := j) hlu (by omega))
          have u1 := hT.unfrozen 2 rfl (j := i + j) (by rw [iv_len]; exact hat)
          have e0 := (hT.oldF HBX.out).1
          generalize hA : nth x i = A at hcx hab
          generalize hB : nth y j = B at hcy hbb
          generalize hC : nth (cvr p x y D (2 * D - 1) i j) (i + j) = C at hcz hcc
          have HA := Lib.hid hA
          have HB := Lib.hid hB
          have HC := Lib.hid hC
          obtain ⟨a2, a3⟩ := hab
          obtain ⟨b2, b3⟩ := hbb
          obtain ⟨e2, e3⟩ := hcc
          have n0 : 0 ≤ A * B := Int.mul_nonneg a2 b2
          have n1 : A * B ≤ 4096 := Int.le_trans (Int.mul_le_mul (show A ≤ 64 by omega) (show B ≤ 64 by omega) b2 (by omega)) (by omega)
          have hs1 := hT.store 2 rfl (j := i + j) (by rw [iv_len]; exact hat) (.int .i64 ((C + A * B) % p))
          have hs2 := Lib.hid hs1.drew
          clear hA hB hC hat hyt hxt hs1
          go_wp2_with fail
          go_region
          all_goals
            go_wp2_with fail
            go_roundw
            case rel =>
              refine ⟨j + 1, by omega, by go_num, ?_⟩
              have h := hs2.out
              rw [iv_set] at h
              rw [← hst.out, show cf x i = A from HA.out, show cf y j = B from HB.out, show cf (cvr p x y D (2 * D - 1) i j) (i + j) = C from HC.out]
              exact h
            case measure => simp [intOf]; omega
        · obtain rfl : j = D := by omega
          rw [cvr_end] at hT
          go_wp2_with fail
          go_roundw
          case rel => exact ⟨i + 1, by omega, by go_num, hT⟩
          case measure => simp [intOf]; omega
    · obtain rfl : D = i := by omega
      have hrem := Lib.hid (l03Rest_c vz v _ xs p _ (hS.drew.rdI 2 rfl) (hS.drew.oldI hv) p2 p64 (cvr_inl (by omega) x y D (2 * D - 1) D) Hin.out (by rw [tab_len]; omega) (by have := HQ.out; omega) (by have := HQ.out; omega))
      have c0 := (hS.oldF HBX.out).1
      have c2 := (hS.oldF HBX.out).2.2
      have Hri : Hid (In p (remL p (tab (2 * D - 1) (cvl p x y D D)) xs)) := Lib.hid (In.remL (by omega) (cvr_inl (by omega) x y D (2 * D - 1) D))
      have Hrl : Hid ((remL p (tab (2 * D - 1) (cvl p x y D D)) xs).length ≤ xs.length - 1) := Lib.hid remL_len
      generalize remL p (tab (2 * D - 1) (cvl p x y D D)) xs = rr at hrem Hri Hrl Hend
      go_wp2_with fail
      go_region_held3 (fun w' => w'.cell? ⟨g, 0, none⟩ = some (.int .i64 p) ∧ w'.cell? ⟨g, 2, none⟩ = some v) (go_keep)
        (first
        | (go_at_call_of 153 vz; refine (hrem.out).mono ?_; rintro e w5 ⟨vr, rfl, h5⟩; have hS5 := hS.drew.call h5; have k0 := (hS5.oldF HBX.out).1; have k2 := (hS5.oldF HBX.out).2.2)
        | (go_at_call_of 152 vr; refine (l03Number_c vr rr p _ (hS5.rdI 3 rfl) (by omega) p64 Hri.out (by have h1 := Hrl.out; have h2 := HQ.out; have h3 := HP.out; exact Int.le_trans (Int.le_trans (pow_mono (by omega) (show rr.length ≤ D by omega)) h3) (by omega))).mono ?_; rintro e w6 ⟨rfl, rfl⟩))
      simp only [List.cons_append, List.nil_append] at hS5
      go_wp2_with fail
      go_ret
      exact ⟨Hend.out ▸ rfl, hS5.out⟩

end Go.Proofs.YtdgmaodnkbgolaaGreat
end

section
/- make inside a region that draws its order. A region that loads cells and writes them by its last stores: what is held of the world is asked until the first of these stores alone. A region that loads cells and writes them at its end: an operation taken first, by a chain of operations that wait for each other. -/
namespace Go.Proofs.YtdgmaodnkbgolaaGreat
set_option linter.unusedSimpArgs false
set_option linter.unusedVariables false
open Go.RowKit
theorem cell_al {w : World} {o : Obj} {a : Addr} {v : Value} (h : w.cell? a = some v) : (w.alloc o).cell? a = some v := by
  rw [World.cell?_alloc_some _ _ _ (by rw [h]; rfl)]; exact h
theorem cell_dr {w : World} {a : Addr} {v : Value} (h : w.cell? a = some v) : w.drew.cell? a = some v := h
theorem cell_sc {w : World} {p a : Addr} {u v : Value} (hp : p.block ≠ a.block) (h : w.cell? a = some v) : (w.setCell p u).cell? a = some v := by
  rw [World.cell?_setCell_far _ _ _ _ hp]; exact h
section
variable {P : Program} {ops : Array Oper} {o : Oper} {a : Act} {K : Act → World → Prop} {Q : Exit → Act → World → Prop} {E : Prop}
end
section
variable {ops : Array Oper} {o : Oper} {a : Act} {K : Act → World → Prop} {Q : Exit → Act → World → Prop} {E : Prop} {B : Nat} {w0 w : World} {L : List Ent}
end

section
variable {P : Program} {ops : Array Oper} {Q : Exit → Act → World → Prop} {md : Region.Mode} {S : World → Prop} {st : Nat}

/-- whichever order is picked; S is shown behind every operation till operation st has come up -/
def anyG (P : Program) (md : Region.Mode) (ops : Array Oper) (Q : Exit → Act → World → Prop) (S : World → Prop) (st : Nat) : Nat → Array Bool → Act → World → Prop
  | 0, listed, a, w => Region.ready md ops listed = [] ∧ Q .normal a w
  | n + 1, listed, a, w => (Region.ready md ops listed = [] → Q .normal a w) ∧
    ∀ i ∈ Region.ready md ops listed, wpOp P ops Q i (fun a' w' => ((listed.setIfInBounds i true).getD st true = false → S w') ∧ anyG P md ops Q S st n (listed.setIfInBounds i true) a' w') a w

theorem wpAny_of_G : ∀ (n : Nat) (listed : Array Bool) (a : Act) (w : World), anyG P md ops Q S st n listed a w → wpAny P md ops Q n listed a w
  | 0, _, _, _, h => h
  | n + 1, _, _, _, h => ⟨h.1, fun i hi => wpOp_mono (fun a' w' h' => wpAny_of_G n _ a' w' h'.2) (h.2 i hi)⟩

theorem set_un {listed : Array Bool} {j k : Nat} (hne : j ≠ k) (h : listed.getD k true = false) : (listed.setIfInBounds j true).getD k true = false := by rw [getD_set_ne true hne]; exact h
/-- what waits for an operation that has not come up cannot come up -/
theorem not_ready {listed : Array Bool} {j k : Nat} (hk : listed.getD k true = false) (hw : ∃ o, ops[j]? = some o ∧ ∃ e ∈ o.after, Region.binds md e = true ∧ e.on = k) : j ∉ Region.ready md ops listed := by
  intro h
  obtain ⟨_, o, ho, hall⟩ := mem_ready.1 h
  obtain ⟨o', ho', e, he, hb, rfl⟩ := hw
  rw [ho] at ho'; cases ho'
  have h1 := hall e he hb
  rcases Nat.lt_or_ge e.on listed.size with h' | h'
  · simp [h'] at hk h1; rw [hk] at h1; cases h1
  · simp [Array.getElem?_eq_none h'] at h1

/-- an operation that yields in whatever world may be taken first -/
theorem anyG_pure {i : Nat} {oi : Oper} {v : Value} (hi : ops[i]? = some oi) (hsel : ∀ (j : Nat) (o : Oper) cs b, ops[j]? = some o → o.op ≠ .select cs b)
    (hQ : ∀ c a w, Q (.panic c) (a.put oi.dst v) w → Q (.panic c) a w) (hne : i ≠ st) :
    ∀ (n : Nat) (listed : Array Bool) (a : Act) (w : World),
      (∀ j oj, ops[j]? = some oj → j ≠ i → listed.getD j true = false → (∀ e ∈ oj.after, Region.binds md e = true → e.on ≠ i) → oi.apart ops oj = true) →
      i ∈ Region.ready md ops listed → YieldsIf P ops (fun _ => True) oi v a → (listed.getD st true = false → S w) →
      anyG P md ops Q S st n (listed.setIfInBounds i true) (a.put oi.dst v) w → anyG P md ops Q S st (n + 1) listed a w := by
  intro n
  induction n with
  | zero =>
    intro listed a w _ hr hy hS H
    refine ⟨fun h => (by rw [h] at hr; cases hr), fun j hj => ?_⟩
    by_cases hji : j = i
    · subst hji; exact hy.wpOp hi trivial ⟨fun e => hS (by rwa [getD_set_ne true hne] at e), H⟩
    · have := ready_mono hj hji
      rw [H.1] at this
      cases this
  | succ n ih =>
    intro listed a w hfree hr hy hS H
    have hiu : listed.getD i true = false := (mem_ready.1 hr).1
    refine ⟨fun h => (by rw [h] at hr; cases hr), fun j hj => ?_⟩
    by_cases hji : j = i
    · subst hji; exact hy.wpOp hi trivial ⟨fun e => hS (by rwa [getD_set_ne true hne] at e), H⟩
    · have h1 := H.2 j (ready_mono hj hji)
      obtain ⟨hjun, oj, hoj, hall⟩ := mem_ready.1 hj
      have hnot : ∀ e ∈ oj.after, Region.binds md e = true → e.on ≠ i := fun e he hb heq => not_ready hiu ⟨oj, hoj, e, he, hb, heq⟩ hj
      have h2 := wpOp_putIf hoj (hfree j oj hoj hji hjun hnot) (fun cs b => hsel i oi cs b hi) (fun cs b => hsel j oj cs b hoj) hQ hy h1
      refine wpOp_mono (fun a' w' h3 => ?_) h2
      have hSw : (listed.setIfInBounds j true).getD st true = false → S w' := fun e => h3.2.1 (by rw [Array.setIfInBounds_comm _ _ (Ne.symm hji), getD_set_ne true hne]; exact e)
      refine ⟨hSw, ih (listed.setIfInBounds j true) a' w' ?_ (ready_mono hr (Ne.symm hji)) h3.1 hSw ?_⟩
      · intro m om hm hmi hun hno
        refine hfree m om hm hmi ?_ hno
        by_cases hjm : j = m
        · subst hjm; exact hjun
        · rwa [getD_set_ne true hjm] at hun
      · rw [Array.setIfInBounds_comm _ _ hji]
        exact h3.2.2
/-- number i is taken first, whatever the world -/
theorem takeP {i : Nat} {oi : Oper} {v : Value} {n : Nat} {listed : Array Bool} {a : Act} {w : World} (hi : ops[i]? = some oi)
    (hs : (Region.noSelect ops && Region.free md ops listed i && (Region.ready md ops listed).contains i && (!(i == st))) = true)
    (hQ : ∀ c a w, Q (.panic c) (a.put oi.dst v) w → Q (.panic c) a w) (hw : Region.wanted oi (yielded ops a.tmps) = true) (hy : ∀ w, (execOp a.eval oi).run P w = .ok (.value v) w) (hS : S w)
    (h : anyG P md ops Q S st n (listed.setIfInBounds i true) (a.put oi.dst v) w) : anyG P md ops Q S st (n + 1) listed a w := by
  simp only [Bool.and_eq_true, Bool.not_eq_true', beq_eq_false_iff_ne] at hs
  obtain ⟨⟨⟨h1, h2⟩, h3⟩, h4⟩ := hs
  exact anyG_pure hi (Region.noSelect_spec h1) hQ h4 n listed a w (Region.free_spec hi h2) (by simpa using h3) (.inl ⟨hw, fun w _ => hy w⟩) (fun _ => hS) h

/-- number i is taken first, behind st -/
theorem anyG_lastP {i : Nat} {oi : Oper} {v : Value} {n : Nat} {listed : Array Bool} {a : Act} {w : World} (hi : ops[i]? = some oi)
    (hs : (Region.noSelect ops && Region.free md ops listed i && (Region.ready md ops listed).contains i && (!(i == st)) && listed.getD st true) = true)
    (hQ : ∀ c a w, Q (.panic c) (a.put oi.dst v) w → Q (.panic c) a w) (hw : Region.wanted oi (yielded ops a.tmps) = true) (hy : ∀ w, (execOp a.eval oi).run P w = .ok (.value v) w)
    (h : anyG P md ops Q S st n (listed.setIfInBounds i true) (a.put oi.dst v) w) : anyG P md ops Q S st (n + 1) listed a w := by
  simp only [Bool.and_eq_true, Bool.not_eq_true', beq_eq_false_iff_ne] at hs
  obtain ⟨⟨⟨⟨h1, h2⟩, h3⟩, h4⟩, h5⟩ := hs
  exact anyG_pure hi (Region.noSelect_spec h1) hQ h4 n listed a w (Region.free_spec hi h2) (by simpa using h3) (.inl ⟨hw, fun w _ => hy w⟩) (fun e => by rw [h5] at e; cases e) h

def waits (md : Region.Mode) (ops : Array Oper) (j k : Nat) : Bool := match ops[j]? with
  | some o => o.after.any fun e => Region.binds md e && e.on == k
  | none => false
theorem waits_spec {j k : Nat} (h : waits md ops j k = true) : ∃ o, ops[j]? = some o ∧ ∃ e ∈ o.after, Region.binds md e = true ∧ e.on = k := by
  unfold waits at h
  cases ho : ops[j]? with
  | none => rw [ho] at h; cases h
  | some o =>
    rw [ho] at h
    simp only [Array.any_eq_true', Bool.and_eq_true, beq_iff_eq] at h
    obtain ⟨e, he, hb, hk⟩ := h
    exact ⟨o, rfl, e, he, hb, hk⟩
def AllG (P : Program) (md : Region.Mode) (ops : Array Oper) (Q : Exit → Act → World → Prop) (S : World → Prop) (st n : Nat) (listed : Array Bool) (a : Act) (w : World) (rs : List Nat) : Prop :=
  ∀ i ∈ rs, wpOp P ops Q i (fun a' w' => ((listed.setIfInBounds i true).getD st true = false → S w') ∧ anyG P md ops Q S st n (listed.setIfInBounds i true) a' w') a w
theorem AllG.nil {n : Nat} {listed : Array Bool} {a : Act} {w : World} : AllG P md ops Q S st n listed a w [] := fun _ h => by cases h
/-- an operation ahead of st -/
theorem AllG.cons {n : Nat} {listed : Array Bool} {a : Act} {w : World} {i : Nat} {o : Oper} {rs : List Nat} (ho : ops[i]? = some o)
    (h : ∀ K' : Act → World → Prop, Shut (∀ a w, S w → (S w → anyG P md ops Q S st n (listed.setIfInBounds i true) a w) → K' a w) → if Region.wanted o (yielded ops a.tmps) = true then Oper.wp P o a w K' Q else K' (a.put o.dst undef) w)
    (hs : AllG P md ops Q S st n listed a w rs) : AllG P md ops Q S st n listed a w (i :: rs) := fun j hj => by
  rcases List.mem_cons.1 hj with rfl | hj
  · exact wpOp_step ho (fun K' hK => h K' (fun a w hS hW => hK a w ⟨fun _ => hS, hW hS⟩))
  · exact hs j hj
/-- st itself, or one behind it -/
theorem AllG.last {n : Nat} {listed : Array Bool} {a : Act} {w : World} {i : Nat} {o : Oper} {rs : List Nat} (ho : ops[i]? = some o) (hl : (listed.setIfInBounds i true).getD st true = true)
    (h : ∀ K' : Act → World → Prop, Shut (∀ a w, anyG P md ops Q S st n (listed.setIfInBounds i true) a w → K' a w) → if Region.wanted o (yielded ops a.tmps) = true then Oper.wp P o a w K' Q else K' (a.put o.dst undef) w)
    (hs : AllG P md ops Q S st n listed a w rs) : AllG P md ops Q S st n listed a w (i :: rs) := fun j hj => by
  rcases List.mem_cons.1 hj with rfl | hj
  · exact wpOp_step ho (fun K' hK => h K' (fun a w hW => hK a w ⟨fun e => (by rw [hl] at e; cases e), hW⟩))
  · exact hs j hj
theorem readyG {rs : List Nat} {n : Nat} {listed : Array Bool} {a : Act} {w : World} (hr : Region.ready md ops listed = rs) (hne : rs ≠ [])
    (h : AllG P md ops Q S st n listed a w rs) : anyG P md ops Q S st (n + 1) listed a w := ⟨fun h0 => absurd (hr ▸ h0) hne, hr ▸ h⟩
theorem doneG {listed : Array Bool} {a : Act} {w : World} (hr : Region.ready md ops listed = []) (h : Q .normal a w) : ∀ n, anyG P md ops Q S st n listed a w
  | 0 => ⟨hr, h⟩
  | _ + 1 => ⟨fun _ => h, by rw [hr]; simp⟩
/-- the beginning -/
theorem regionG {id : Nat} {a : Act} {w : World} (S : World → Prop) (st : Nat) (hm : P.follows .mixedOrders = true) (hS : S w.drew)
    (h : S w.drew → anyG P .any ops (NoPanic Q) S st ops.size (Array.replicate ops.size false) a w.drew) : (Code.region id ops true).wp P Q a w :=
  wp_region_noPanic (wp_region_any hm (wpAny_of_G _ _ _ _ (h hS)))
end

section
variable {P : Program} {ops : Array Oper} {Q : Exit → Act → World → Prop} {md : Region.Mode} {S : World → Prop} {st : Nat}
theorem anyG_firstL {i : Nat} {oi : Oper} {v : Value} (ks : List Nat) (hi : ops[i]? = some oi) (hsel : ∀ (j : Nat) (o : Oper) cs b, ops[j]? = some o → o.op ≠ .select cs b)
    (hQ : ∀ c a w, Q (.panic c) (a.put oi.dst v) w → Q (.panic c) a w)
    (hks : ∀ k ∈ ks, k = i ∨ ∃ m ∈ i :: ks, ∃ o, ops[k]? = some o ∧ ∃ e ∈ o.after, Region.binds md e = true ∧ e.on = m) (hst : ∃ m ∈ i :: ks, ∃ o, ops[st]? = some o ∧ ∃ e ∈ o.after, Region.binds md e = true ∧ e.on = m) :
    ∀ (n : Nat) (listed : Array Bool) (a : Act) (w : World), (∀ k ∈ ks, listed.getD k true = false) → listed.getD st true = false →
      (∀ j oj, ops[j]? = some oj → j ≠ i → listed.getD j true = false → (∀ e ∈ oj.after, Region.binds md e = true → e.on ≠ i) → oi.apart ops oj = true) →
      i ∈ Region.ready md ops listed → YieldsIf P ops S oi v a → S w →
      anyG P md ops Q S st n (listed.setIfInBounds i true) (a.put oi.dst v) w → anyG P md ops Q S st (n + 1) listed a w := by
  intro n
  induction n with
  | zero =>
    intro listed a w hk hs _ hr hy hS H
    refine ⟨fun h => (by rw [h] at hr; cases hr), fun j hj => ?_⟩
    by_cases hji : j = i
    · subst hji; exact hy.wpOp hi hS ⟨fun _ => hS, H⟩
    · have := ready_mono hj hji
      rw [H.1] at this
      cases this
  | succ n ih =>
    intro listed a w hk hs hfree hr hy hS H
    have hiu : listed.getD i true = false := (mem_ready.1 hr).1
    have hun : ∀ m ∈ i :: ks, listed.getD m true = false := fun m hm => by
      rcases List.mem_cons.1 hm with rfl | hm
      · exact hiu
      · exact hk m hm
    refine ⟨fun h => (by rw [h] at hr; cases hr), fun j hj => ?_⟩
    by_cases hji : j = i
    · subst hji; exact hy.wpOp hi hS ⟨fun _ => hS, H⟩
    · have hjk : j ∉ ks := by
        intro hjm
        rcases hks j hjm with e | ⟨m, hm, hw⟩
        · exact hji e
        · exact not_ready (hun m hm) hw hj
      obtain ⟨ms, hms, hws⟩ := hst
      have hjs : j ≠ st := by
        rintro rfl
        exact not_ready (hun ms hms) hws hj
      have h1 := H.2 j (ready_mono hj hji)
      obtain ⟨hjun, oj, hoj, hall⟩ := mem_ready.1 hj
      have hnot : ∀ e ∈ oj.after, Region.binds md e = true → e.on ≠ i := fun e he hb heq => not_ready hiu ⟨oj, hoj, e, he, hb, heq⟩ hj
      have h2 := wpOp_putIf hoj (hfree j oj hoj hji hjun hnot) (fun cs b => hsel i oi cs b hi) (fun cs b => hsel j oj cs b hoj) hQ hy h1
      have hsj : (listed.setIfInBounds j true).getD st true = false := set_un hjs hs
      refine wpOp_mono (fun a' w' h3 => ?_) h2
      have hSw : S w' := h3.2.1 (set_un hjs (set_un (fun e => by subst e; exact not_ready (hun ms hms) hws hr) hs))
      refine ⟨fun _ => hSw, ih (listed.setIfInBounds j true) a' w' (fun k hkm => set_un (fun e => hjk (e ▸ hkm)) (hk k hkm)) hsj ?_ (ready_mono hr (Ne.symm hji)) h3.1 hSw ?_⟩
      · intro m om hm hmi hun hno
        refine hfree m om hm hmi ?_ hno
        by_cases hjm : j = m
        · subst hjm; exact hjun
        · rwa [getD_set_ne true hjm] at hun
      · rw [Array.setIfInBounds_comm _ _ hji]
        exact h3.2.2
/-- number i is taken first; ks: operations that wait for it, for each other, and st for one of them -/
theorem takeH {i : Nat} (ks : List Nat) {oi : Oper} {v : Value} {n : Nat} {listed : Array Bool} {a : Act} {w : World} (hi : ops[i]? = some oi)
    (hs : (Region.noSelect ops && Region.free md ops listed i && (Region.ready md ops listed).contains i && (ks.all fun k => k == i || (i :: ks).any fun m => waits md ops k m) && ((i :: ks).any fun m => waits md ops st m) && (ks.all fun k => !listed.getD k true) && (!listed.getD st true)) = true)
    (hQ : ∀ c a w, Q (.panic c) (a.put oi.dst v) w → Q (.panic c) a w) (hw : Region.wanted oi (yielded ops a.tmps) = true) (hy : ∀ w, S w → (execOp a.eval oi).run P w = .ok (.value v) w) (hS : S w)
    (h : anyG P md ops Q S st n (listed.setIfInBounds i true) (a.put oi.dst v) w) : anyG P md ops Q S st (n + 1) listed a w := by
  simp only [Bool.and_eq_true, Bool.not_eq_true', Bool.or_eq_true, beq_iff_eq, List.all_eq_true] at hs
  obtain ⟨⟨⟨⟨⟨⟨h1, h2⟩, h3⟩, h4⟩, h5⟩, h6⟩, h7⟩ := hs
  refine anyG_firstL ks hi (Region.noSelect_spec h1) hQ (fun k hk => ?_) ?_ n listed a w h6 h7 (Region.free_spec hi h2) (by simpa using h3) (.inl ⟨hw, hy⟩) hS h
  · rcases h4 k hk with e | e
    · exact .inl e
    · obtain ⟨m, hm, hmw⟩ := List.any_eq_true.1 e
      exact .inr ⟨m, hm, waits_spec hmw⟩
  · obtain ⟨m, hm, hmw⟩ := List.any_eq_true.1 h5
    exact ⟨m, hm, waits_spec hmw⟩
end

end Go.Proofs.YtdgmaodnkbgolaaGreat
end

section
/- Walks: the tables of a field. -/
namespace Go.Proofs.YtdgmaodnkbgolaaGreat
set_option linter.unusedSimpArgs false
set_option linter.unusedVariables false
open Go.RowKit
attribute [local go_sem ↓] Go.wp_at_zero Go.wp_at_succ

/-- a square table -/
def tb (q : Nat) (f : Nat → Nat → Int) : List (List Int) := (List.range q).map fun a => tab q (f a)
theorem tb_len (q : Nat) (f : Nat → Nat → Int) : (tb q f).length = q := by simp [tb]
theorem xat_tb {q : Nat} {f : Nat → Nat → Int} {a : Nat} (h : a < q) : xat (tb q f) a = tab q (f a) := by simp [xat, tb, h]
/-- the first k places of a list -/
def pt (q k : Nat) (f : Nat → Int) : List Int := tab q fun i => if i < k then f i else 0
def invT (p : Int) (D : Nat) (fs : List Int) : List Int := tab (qn p D) fun i => invN p D fs i (qn p D)
def fAdd (p : Int) (D : Nat) (a b : Nat) : Int := fsum p D a b 1
def fSub (p : Int) (D : Nat) (a b : Nat) : Int := fsum p D a b (-1)
def fMul (p : Int) (D : Nat) (fs : List Int) (a b : Nat) : Int := fmul p D fs a b
end Go.Proofs.YtdgmaodnkbgolaaGreat
end

section
/- Walks: sums of products, by tables and by the reference. Walks: the reference's sums of products. -/
namespace Go.Proofs.YtdgmaodnkbgolaaGreat
set_option linter.unusedSimpArgs false
set_option linter.unusedVariables false
open Go.RowKit
attribute [local go_sem ↓] Go.wp_at_zero Go.wp_at_succ


/-- the tables of a field, as they lie in memory -/
structure TB (w : World) (p : Int) (D : Nat) (fs : List Int) (va : Value) (ua : List Value) (vs : Value) (us : List Value) (vm : Value) (um : List Value) (vi : Value) : Prop where
  a : RII w va ua (tb (qn p D) (fAdd p D))
  s : RII w vs us (tb (qn p D) (fSub p D))
  m : RII w vm um (tb (qn p D) (fMul p D fs))
  i : RdI w vi (invT p D fs)
theorem TB.keep {w w' : World} {p : Int} {D : Nat} {fs : List Int} {va vs vm vi : Value} {ua us um : List Value} (h : TB w p D fs va ua vs us vm um vi) (hb : Below w.heap.size w w') : TB w' p D fs va ua vs us vm um vi :=
  ⟨h.a.keep hb, h.s.keep hb, h.m.keep hb, h.i.keep hb⟩
/-- elements as numbers below qn -/
theorem El.nat {p : Int} {D : Nat} {a : Int} (h : El p D a) : ∃ n : Nat, a = n ∧ n < qn p D := by
  obtain ⟨n, rfl⟩ := Int.eq_ofNat_of_zero_le h.1
  exact ⟨n, rfl, by have := h.2; unfold qn; omega⟩
theorem nth_tab {n j : Nat} {f : Nat → Int} (h : j < n) : nth (tab n f) j = f j := cf_tab h
theorem In.el {p : Int} {D : Nat} {xs : List Int} (h : In (p ^ D) xs) {j : Nat} (hj : j < xs.length) : El p D (nth xs j) := h _ (nth_mem hj)
/-- a look into a table -/
theorem RII.at2 {w : World} {v : Value} {us : List Value} {q : Nat} {f : Nat → Nat → Int} (h : RII w v us (tb q f)) {i j : Nat} (hi : i < q) (hj : j < q) :
    (∀ W, (Instr.indexAt 26 v (.int .i64 i)).run Tryz.prog W = .ok (.pointer (some (el v i))) W) ∧ w.cell? (el v i) = some (vat us i) ∧
    (∀ W, (Instr.indexAt 48 (vat us i) (.int .i64 j)).run Tryz.prog W = .ok (.pointer (some (el (vat us i) j))) W) ∧ w.cell? (el (vat us i) j) = some (.int .i64 (f i j)) := by
  have hi' : i < (tb q f).length := by rw [tb_len]; exact hi
  have hr := h.row i hi'
  rw [xat_tb hi] at hr
  have hj' : j < (tab q (f i)).length := by rw [tab_len]; exact hj
  refine ⟨h.ixe i i rfl hi', h.cell i hi', hr.ixe j j rfl hj', ?_⟩
  rw [hr.cell j hj', nth_tab hj]

theorem FV.q64 {p : Int} {D : Nat} {fs : List Int} (h : FV p D fs) : p ^ D ≤ 64 := by have := h.q; rwa [Int.toNat_natCast] at this
theorem El.lim {p : Int} {D : Nat} {fs : List Int} {a : Int} (h : El p D a) (hf : FV p D fs) : 0 ≤ a ∧ a ≤ 1000000 := by have := h.1; have := h.2; have := hf.q64; omega

end Go.Proofs.YtdgmaodnkbgolaaGreat
end

section
/- Walks: MakeField of both sides, and values of polynomials. -/
namespace Go.Proofs.YtdgmaodnkbgolaaGreat
set_option linter.unusedSimpArgs false
set_option linter.unusedVariables false
open Go.RowKit
attribute [local go_sem ↓] Go.wp_at_zero Go.wp_at_succ

def mkfP (q : Int) : Int := if mkOk q = true then ((spl q.toNat).1 : Nat) else 0
def mkfD (q : Int) : Int := if mkOk q = true then ((spl q.toNat).2 : Nat) else 0
def mkfL (q : Int) : List Int := if mkOk q = true then mkF q.toNat else []
def mkfC (q : Int) : Int := if mkOk q = true then 0 else 2
/-- a field and a code -/
def MakesFC (w : World) (p d : Int) (xs : List Int) (c : Int) (e : Ending) (w' : World) : Prop := ∃ v, e = .returned (.tuple #[fv p d v, .int .i64 c]) ∧ St w.heap.size w w' [row 2 v (iv xs)]
theorem MakesFC.no {w w' : World} {q : Int} {L : List Ent} (hm : mkOk q = false) (h : St w.heap.size w w' L) :
    MakesFC w (mkfP q) (mkfD q) (mkfL q) (mkfC q) (.returned (.tuple #[.agg #[.int .i64 0, .int .i64 0, .slice none 0 0], .int .i64 2])) w' := by
  refine ⟨.slice none 0 0, by simp [mkfP, mkfD, mkfC, hm, fv], ?_⟩
  rw [mkfL, hm]; exact h.out.newnil _
theorem pp_small {q : Nat} (h2 : 2 ≤ q) (h64 : q ≤ 64) : pp (factors (q : Int)) = ((((spl q).1 : Nat) : Int), (((spl q).2 : Nat) : Int)) := by
  have := List.all_eq_true.1 fac_check q (List.mem_range.2 (by omega))
  simp only [Bool.or_eq_true, beq_iff_eq, decide_eq_true_eq] at this
  rcases this with h | h
  · omega
  · exact h
theorem pp_one : pp (factors 1) = (0, 0) := by decide +kernel
theorem pp_bad {q : Int} (h : mkOk q = false) : (pp (factors q)).1 = 0 ∨ 64 < q := by
  by_cases h1 : q ≤ 0
  · left; unfold factors; rw [if_neg (by omega)]; rfl
  · by_cases h64 : 64 < q
    · exact .inr h64
    · left
      by_cases e : q = 1
      · rw [e, pp_one]
      · obtain ⟨n, rfl⟩ := Int.eq_ofNat_of_zero_le (show 0 ≤ q by omega)
        rw [pp_small (by omega) (by omega)]
        unfold mkOk at h
        rw [decide_eq_true (by omega), decide_eq_true (by omega), Int.toNat_natCast] at h
        simp at h
        show (((spl n).1 : Nat) : Int) = 0
        omega
theorem mkOk_t {q : Int} (h : mkOk q = true) : ∃ n : Nat, q = n ∧ 2 ≤ n ∧ n ≤ 64 ∧ MK n := by
  simp only [mkOk, Bool.and_eq_true, decide_eq_true_eq, bne_iff_ne, ne_eq] at h
  obtain ⟨n, rfl⟩ := Int.eq_ofNat_of_zero_le (show 0 ≤ q by omega)
  rw [Int.toNat_natCast] at h
  exact ⟨n, rfl, by omega, by omega, mk_of (by omega) (by omega) h.2⟩

set_option maxHeartbeats 4000000 in
set_option maxRecDepth 100000 in
theorem MakeField_c (q : Int) (w : World) : Calls Tryz.prog 50 #[.int .i64 q] w (MakesFC w (mkfP q) (mkfD q) (mkfL q) (mkfC q)) := by
  have hS0 := (St.refl w).newboxF 73 #[.int .i64 0, .int .i64 0, .slice none 0 0]
  cases hm : mkOk q
  · have hb := pp_bad hm
    have Hm := Lib.hid hm
    clear hm
    have HP := fun W => Lib.hid (PrimePower_c q W)
    generalize pp (factors q) = P at *
    by_cases hp : P.1 = 0
    · have f1 := eq_t hp
      clear hb hp
      go_enter Tryz.func50, Tryz.ntmps50
      go_wp2_with fail
      refine (HP _).out.mono ?_
      rintro e w1 ⟨rfl, h1⟩
      have hS1 := hS0.call0 h1
      have b0 := hS1.bcell 0 rfl 0 rfl
      have b1 := hS1.bcell 0 rfl 1 rfl
      have b2 := hS1.bcell 0 rfl 2 rfl
      have f2 := hS1.bfree 0 rfl
      go_wp2_with fail
      have hS9 := ((hS1.bstore 0 rfl 0 (.int .i64 0)).bstore 0 rfl 1 (.int .i64 0)).bstore 0 rfl 2 (.slice none 0 0)
      refine bodyPost_ret (v := .tuple #[.agg #[.int .i64 0, .int .i64 0, .slice none 0 0], .int .i64 2]) (by simp [results, Tryz.results50, go_sem, b0, b1, b2]) rfl ?_
      exact MakesFC.no Hm.out hS9
    · have f1 := eq_f hp
      have hq : 64 < q := hb.resolve_left hp
      clear hb hp
      go_enter Tryz.func50, Tryz.ntmps50
      go_wp2_with fail
      refine (HP _).out.mono ?_
      rintro e w1 ⟨rfl, h1⟩
      have hS1 := hS0.call0 h1
      have b0 := hS1.bcell 0 rfl 0 rfl
      have b1 := hS1.bcell 0 rfl 1 rfl
      have b2 := hS1.bcell 0 rfl 2 rfl
      have f2 := hS1.bfree 0 rfl
      go_wp2_with fail
      have hS9 := ((hS1.bstore 0 rfl 0 (.int .i64 0)).bstore 0 rfl 1 (.int .i64 0)).bstore 0 rfl 2 (.slice none 0 0)
      refine bodyPost_ret (v := .tuple #[.agg #[.int .i64 0, .int .i64 0, .slice none 0 0], .int .i64 2]) (by simp [results, Tryz.results50, go_sem, b0, b1, b2]) rfl ?_
      exact MakesFC.no Hm.out hS9
  · obtain ⟨n, rfl, h2, h64, hmk⟩ := mkOk_t hm
    have Hend := Lib.hid (show mkfP n = ((spl n).1 : Nat) ∧ mkfD n = ((spl n).2 : Nat) ∧ mkfL n = mkF n ∧ mkfC n = 0 by simp [mkfP, mkfD, mkfL, mkfC, hm])
    clear hm
    have HP := fun W => Lib.hid (PrimePower_c n W)
    rw [pp_small h2 h64] at HP
    have hf := hmk.fv h64
    have hirr := hmk.irr
    have hn63 := hmk.n63
    have HN := Lib.hid (show irn ((spl n).1 : Nat) (spl n).2 64 0 = mkN n from rfl)
    have Hirr := Lib.hid (show irrB ((spl n).1 : Nat) (dgt ((spl n).1 : Nat) (spl n).2 (mkN n) ++ [1]) = true from hirr)
    have HF := Lib.hid (show mkF n = dgt ((spl n).1 : Nat) (spl n).2 (mkN n) ++ [1] from rfl)
    have hq := hf.q
    rw [Int.toNat_natCast] at hq
    have p2 := hf.p2
    have p64 := hf.p64
    have d6 := hf.d6
    have d1 := hf.d1
    clear hf hirr hmk
    generalize (spl n).1 = P at *
    generalize (spl n).2 = D at *
    generalize mkN n = N0 at *
    have f1 := eq_f (show (P : Int) ≠ 0 by omega)
    have Hin := Lib.hid (fun k => (show In (P : Int) (dgt (P : Int) D k ++ [1]) from fun x hx => by
      rcases List.mem_append.1 hx with hx | hx
      · exact dgt_in (by omega) _ _ x hx
      · simp at hx; subst hx; omega))
    have Hq := Lib.hid hq
    clear hq
    have Hdg := fun (k : Nat) (hk : k ≤ 64) W => Lib.hid (digitsOf_c k P D W (by omega) (by omega) (by omega) (by omega) (by omega))
    simp only [lows_dgt] at Hdg
    have Hir := fun v (k : Nat) W (h : RdI W v (dgt (P : Int) D k ++ [1])) => Lib.hid (irreducible_c v (dgt (P : Int) D k ++ [1]) P W h p2 p64 (Hin.out k) (by simp) (by simpa [dgt_len] using Hq.out))
    have Hlen := Lib.hid (fun k : Nat => show (dgt (P : Int) D k).length < 4294967296 by rw [dgt_len]; omega)
    go_enter Tryz.func50, Tryz.ntmps50
    go_wp2_with fail
    refine (HP _).out.mono ?_
    rintro e w1 ⟨rfl, h1⟩
    have hS1 := hS0.call0 h1
    clear hS0 h1 HP
    go_wp2_with fail
    go_loopw [6] (fun ii wr => ∃ k f : Nat, k + f = 64 ∧ ii = .int .i64 k ∧ Hid (irn P D f k = N0) ∧ St w.heap.size w wr [box 73 w.heap.size [.int .i64 0, .int .i64 0, .slice none 0 0]]) (fun ii _ => 64 - (intOf ii).toNat)
    case atStart => exact ⟨0, 64, rfl, rfl, HN.out, hS1⟩
    case round =>
      obtain ⟨k, f, hkf, rfl, hN, hS⟩ := hrel
      have hk64 : k ≤ 64 := by omega
      have Hkf := Lib.hid hkf
      clear hkf
      cases hi : irrB P (dgt P D k ++ [1])
      · have Hi := Lib.hid hi
        have Hnx := Lib.hid (irn_next (f := f) hi (by rw [hN.out]; exact Hirr.out))
        clear hi
        go_wp2_with fail
        refine (Hdg k hk64 _).out.mono ?_
        rintro e w2 ⟨v2, rfl, h2'⟩
        have hS2 := (hS.call h2').perm List.perm_append_comm
        clear h2'
        go_wp2_with (at_builtin; refine appI hS2 0 rfl (Hlen.out k) rfl _ _ rfl rfl 1 rfl ?_; intro v3 w3 hS3)
        refine (Hir v3 k w3 (hS3.rdI 0 rfl)).out.mono ?_
        rw [Hi.out]
        rintro e w4 ⟨rfl, h4⟩
        have hS4 := hS3.call0 h4
        go_wp2_with fail
        obtain ⟨f', hf', hN'⟩ := Hnx.out
        have Hf' := Lib.hid hf'
        have HN' := Lib.hid hN'
        clear hf' hN'
        go_roundw
        case rel => exact ⟨k + 1, f', by have := Hkf.out; have := Hf'.out; omega, by go_num, HN'.out.symm.trans hN.out, hS4.sub (List.sublist_cons_self _ _)⟩
        case measure => simp [intOf]; have := Hkf.out; have := Hf'.out; omega
      · have Hi := Lib.hid hi
        have hke : k = N0 := by rw [← hN.out, irn_hit hi]
        have HE := Lib.hid hke
        clear hi hke
        go_wp2_with fail
        refine (Hdg k hk64 _).out.mono ?_
        rintro e w2 ⟨v2, rfl, h2'⟩
        have hS2 := (hS.call h2').perm List.perm_append_comm
        clear h2'
        go_wp2_with (at_builtin; refine appI hS2 0 rfl (Hlen.out k) rfl _ _ rfl rfl 1 rfl ?_; intro v3 w3 hS3)
        refine (Hir v3 k w3 (hS3.rdI 0 rfl)).out.mono ?_
        rw [Hi.out]
        rintro e w4 ⟨rfl, h4⟩
        have hS4 : St w.heap.size w w4 [box 73 w.heap.size [.int .i64 0, .int .i64 0, .slice none 0 0]] := (hS3.call0 h4).sub (List.sublist_cons_self _ _)
        clear hS hS2 hS3 h4
        go_wp2_with fail
        refine (Hdg k hk64 _).out.mono ?_
        rintro e w5 ⟨v5, rfl, h5⟩
        have hS5 := (hS4.call h5).perm List.perm_append_comm
        clear h5 hS4
        go_wp2_with (at_builtin; refine appI hS5 0 rfl (Hlen.out k) rfl _ _ rfl rfl 1 rfl ?_; intro v6 w6 hS6; generalize hLk : dgt (P : Int) D k ++ [1] = Lk at hS6; have HLk := Lib.hid hLk; clear hLk; obtain ⟨a6, c6, he6⟩ := (hS6.rdI 0 rfl).shp'; subst he6; have b0 := hS6.bcell 1 rfl 0 rfl; have b1 := hS6.bcell 1 rfl 1 rfl; have b2 := hS6.bcell 1 rfl 2 rfl; have f2 := hS6.bfree 1 rfl)
        have hS9 := ((hS6.bstore 1 rfl 0 (.int .i64 P)).bstore 1 rfl 1 (.int .i64 D)).bstore 1 rfl 2 (.slice a6 Lk.length c6)
        refine bodyPost_ret (v := .tuple #[.agg #[.int .i64 P, .int .i64 D, .slice a6 Lk.length c6], .int .i64 0]) (by simp [results, Tryz.results50, go_sem, b0, b1, b2]) rfl ?_
        refine ⟨_, by rw [Hend.out.1, Hend.out.2.1, Hend.out.2.2.2]; rfl, ?_⟩
        rw [Hend.out.2.2.1, HF.out, ← HE.out, HLk.out]
        exact hS9.sub (by simp only [List.set_cons_zero, List.set_cons_succ, List.cons_append, List.nil_append]; exact (List.nil_sublist _).cons_cons _)
set_option maxHeartbeats 4000000 in
set_option maxRecDepth 100000 in
theorem l03Make_c (q : Nat) (w : World) (h2 : 2 ≤ q) (h64 : q ≤ 64) (hmk : MK q) : Calls Tryz.prog 107 #[.int .i64 q] w (MakesF w ((spl q).1 : Nat) ((spl q).2 : Nat) (mkF q)) := by
  have hS0 := (St.refl w).newboxF 73 #[.int .i64 0, .int .i64 0, .slice none 0 0]
  have HP := fun W => Lib.hid (l03Split_c q W h2 h64)
  have hf := hmk.fv h64
  have hirr := hmk.irr
  have HN := Lib.hid (show irn ((spl q).1 : Nat) (spl q).2 64 0 = mkN q from rfl)
  have Hirr := Lib.hid (show irrB ((spl q).1 : Nat) (dgt ((spl q).1 : Nat) (spl q).2 (mkN q) ++ [1]) = true from hirr)
  have HF := Lib.hid (show mkF q = dgt ((spl q).1 : Nat) (spl q).2 (mkN q) ++ [1] from rfl)
  have hq := hf.q
  rw [Int.toNat_natCast] at hq
  have p2 := hf.p2
  have p64 := hf.p64
  have d6 := hf.d6
  have d1 := hf.d1
  clear hf hirr hmk
  generalize (spl q).1 = P at *
  generalize (spl q).2 = D at *
  generalize mkN q = N0 at *
  have Hin := Lib.hid (fun k => (show In (P : Int) (dgt (P : Int) D k ++ [1]) from fun x hx => by
    rcases List.mem_append.1 hx with hx | hx
    · exact dgt_in (by omega) _ _ x hx
    · simp at hx; subst hx; omega))
  have Hq := Lib.hid hq
  clear hq
  have Hdg := fun (k : Nat) (hk : k ≤ 64) W => Lib.hid (l03Digits_c k P D W (by omega) (by omega) (by omega) (by omega) (by omega))
  simp only [lows_dgt] at Hdg
  have Hir := fun v (k : Nat) W (h : RdI W v (dgt (P : Int) D k ++ [1])) => Lib.hid (l03Irreducible_c v (dgt (P : Int) D k ++ [1]) P W h p2 p64 (Hin.out k) (by simp) (by simpa [dgt_len] using Hq.out))
  have Hlen := Lib.hid (fun k : Nat => show (dgt (P : Int) D k).length < 4294967296 by rw [dgt_len]; omega)
  go_enter Tryz.func107, Tryz.ntmps107
  go_wp2_with fail
  refine (HP _).out.mono ?_
  rintro e w1 ⟨rfl, rfl⟩
  go_wp2_with fail
  go_loopw [5, 6] (fun ii _ wr => ∃ k f : Nat, k + f = 64 ∧ ii = .int .i64 k ∧ Hid (irn P D f k = N0) ∧ St w.heap.size w wr [box 73 w.heap.size [.int .i64 0, .int .i64 0, .slice none 0 0]]) (fun ii _ _ => 64 - (intOf ii).toNat)
  case atStart => exact ⟨0, 64, rfl, rfl, HN.out, hS0⟩
  case round =>
    obtain ⟨k, f, hkf, rfl, hN, hS⟩ := hrel
    have hk64 : k ≤ 64 := by omega
    have Hkf := Lib.hid hkf
    clear hkf
    cases hi : irrB P (dgt P D k ++ [1])
    · have Hi := Lib.hid hi
      have Hnx := Lib.hid (irn_next (f := f) hi (by rw [hN.out]; exact Hirr.out))
      clear hi
      go_wp2_with fail
      refine (Hdg k hk64 _).out.mono ?_
      rintro e w2 ⟨v2, rfl, h2'⟩
      have hS2 := (hS.call h2').perm List.perm_append_comm
      clear h2'
      go_wp2_with (at_builtin; refine appI hS2 0 rfl (Hlen.out k) rfl _ _ rfl rfl 1 rfl ?_; intro v3 w3 hS3)
      refine (Hir v3 k w3 (hS3.rdI 0 rfl)).out.mono ?_
      rw [Hi.out]
      rintro e w4 ⟨rfl, h4⟩
      have hS4 := hS3.call0 h4
      go_wp2_with fail
      obtain ⟨f', hf', hN'⟩ := Hnx.out
      have Hf' := Lib.hid hf'
      have HN' := Lib.hid hN'
      clear hf' hN'
      go_roundw
      case rel => exact ⟨k + 1, f', by have := Hkf.out; have := Hf'.out; omega, by go_num, HN'.out.symm.trans hN.out, hS4.sub (List.sublist_cons_self _ _)⟩
      case measure => simp [intOf]; have := Hkf.out; have := Hf'.out; omega
    · have Hi := Lib.hid hi
      have hke : k = N0 := by rw [← hN.out, irn_hit hi]
      have HE := Lib.hid hke
      clear hi hke
      go_wp2_with fail
      refine (Hdg k hk64 _).out.mono ?_
      rintro e w2 ⟨v2, rfl, h2'⟩
      have hS2 := (hS.call h2').perm List.perm_append_comm
      clear h2'
      go_wp2_with (at_builtin; refine appI hS2 0 rfl (Hlen.out k) rfl _ _ rfl rfl 1 rfl ?_; intro v3 w3 hS3; generalize hLk : dgt (P : Int) D k ++ [1] = Lk at hS3; have HLk := Lib.hid hLk; clear hLk; obtain ⟨a6, c6, he6⟩ := (hS3.rdI 0 rfl).shp'; subst he6)
      refine (Hir _ k w3 (by rw [HLk.out]; exact hS3.rdI 0 rfl)).out.mono ?_
      rw [Hi.out]
      rintro e w4 ⟨rfl, h4⟩
      have hS6 := hS3.call0 h4
      have b0 := hS6.bcell 1 rfl 0 rfl
      have b1 := hS6.bcell 1 rfl 1 rfl
      have b2 := hS6.bcell 1 rfl 2 rfl
      have f2 := hS6.bfree 1 rfl
      clear hS hS2 hS3 h4
      go_wp2_with fail
      have hS9 := ((hS6.bstore 1 rfl 0 (.int .i64 P)).bstore 1 rfl 1 (.int .i64 D)).bstore 1 rfl 2 (.slice a6 Lk.length c6)
      refine bodyPost_ret (v := .agg #[.int .i64 P, .int .i64 D, .slice a6 Lk.length c6]) (by simp [results, Tryz.results107, go_sem, b0, b1, b2]) rfl ?_
      refine ⟨_, rfl, ?_⟩
      rw [HF.out, ← HE.out, HLk.out]
      exact hS9.sub (by simp only [List.set_cons_zero, List.set_cons_succ, List.cons_append, List.nil_append]; exact (List.nil_sublist _).cons_cons _)
end Go.Proofs.YtdgmaodnkbgolaaGreat
end

section
/- Comparison of lists: slices.Compare, the reference's CompareLists, slices.IsSortedFunc. -/
namespace Go.Proofs.YtdgmaodnkbgolaaGreat
set_option linter.unusedSimpArgs false
set_option linter.unusedVariables false
open Go.RowKit

theorem isNaNC_c (x : Int) (w : World) : Calls Tryz.prog 148 #[.int .i64 x] w fun e w' => e = .returned (.bool false) ∧ w = w' := by
  have h := ne_f (rfl : x = x)
  go_enter Tryz.func148, Tryz.ntmps148
  go_wp2_with fail
  go_ret
  exact ⟨rfl, rfl⟩
def cmp1 (x y : Int) : Int := if x < y then -1 else if y < x then 1 else 0
theorem cmpC_c (x y : Int) (w : World) : Calls Tryz.prog 106 #[.int .i64 x, .int .i64 y] w fun e w' => e = .returned (.int .i64 (cmp1 x y)) ∧ w = w' := by
  by_cases h1 : x < y
  · rw [cmp1, if_pos h1]
    go_enter Tryz.func106, Tryz.ntmps106
    go_wp2_with (go_at_call 148; refine (isNaNC_c _ _).mono ?_; rintro e w3 ⟨rfl, rfl⟩)
    go_ret
    exact ⟨rfl, rfl⟩
  · by_cases h2 : y < x
    · rw [cmp1, if_neg h1, if_pos h2]
      go_enter Tryz.func106, Tryz.ntmps106
      go_wp2_with (go_at_call 148; refine (isNaNC_c _ _).mono ?_; rintro e w3 ⟨rfl, rfl⟩)
      go_ret
      exact ⟨rfl, rfl⟩
    · rw [cmp1, if_neg h1, if_neg h2]
      go_enter Tryz.func106, Tryz.ntmps106
      go_wp2_with (go_at_call 148; refine (isNaNC_c _ _).mono ?_; rintro e w3 ⟨rfl, rfl⟩)
      go_ret
      exact ⟨rfl, rfl⟩
theorem cmpI_drop {xs ys : List Int} {k : Nat} (h1 : k < xs.length) (h2 : k < ys.length) : cmpI (xs.drop k) (ys.drop k) = if cmp1 (nth xs k) (nth ys k) ≠ 0 then cmp1 (nth xs k) (nth ys k) else cmpI (xs.drop (k + 1)) (ys.drop (k + 1)) := by
  rw [drop_nth h1, drop_nth h2, cmpI, cmp1]
  by_cases h : nth xs k < nth ys k
  · rw [if_pos h, if_pos h, if_pos (by omega)]
  · rw [if_neg h, if_neg h]
    by_cases h' : nth ys k < nth xs k
    · rw [if_pos h', if_pos h', if_pos (by omega)]
    · rw [if_neg h', if_neg h', if_neg (by omega)]
theorem cmpI_e1 {xs ys : List Int} {k : Nat} (h1 : k < xs.length) (h2 : ys.length ≤ k) : cmpI (xs.drop k) (ys.drop k) = 1 := by
  rw [drop_nth h1, List.drop_of_length_le h2]; rfl
theorem cmpI_e2 {xs ys : List Int} {k : Nat} (h1 : xs.length ≤ k) (h2 : k < ys.length) : cmpI (xs.drop k) (ys.drop k) = -1 := by
  rw [drop_nth h2, List.drop_of_length_le h1]; rfl
theorem cmpI_e3 {xs ys : List Int} {k : Nat} (h1 : xs.length ≤ k) (h2 : ys.length ≤ k) : cmpI (xs.drop k) (ys.drop k) = 0 := by
  rw [List.drop_of_length_le h2, List.drop_of_length_le h1]; rfl
set_option maxHeartbeats 1000000 in
set_option maxRecDepth 100000 in
theorem Compare_c (va vb : Value) (xs ys : List Int) (w : World) (ha : RdI w va xs) (hb : RdI w vb ys) :
    Calls Tryz.prog 64 #[va, vb] w fun e w' => e = .returned (.int .i64 (cmpI xs ys)) ∧ w = w' := by
  have hla := ha.len
  have hlb := hb.len
  have hia := ha.ix
  have hib := hb.ix
  have hca := ha.cell
  have hcb := hb.cell
  have hma := ha.le
  have hmb := hb.le
  go_enter Tryz.func64, Tryz.ntmps64
  go_wp2_with fail
  go_loop [5, 6, 7, 8, 11] (fun _ _ _ _ i => ∃ k : Nat, k ≤ xs.length ∧ k ≤ ys.length ∧ i = .int .i64 k ∧ Hid (cmpI (xs.drop k) (ys.drop k) = cmpI xs ys)) (fun _ _ _ _ i => xs.length - (intOf i).toNat)
  case atStart => exact ⟨0, by omega, by omega, rfl, rfl⟩
  case round =>
    obtain ⟨k, hk, hk2, rfl, hI⟩ := hrel
    by_cases k1 : k < xs.length
    · by_cases k2 : k < ys.length
      · have hd := cmpI_drop k1 k2
        by_cases hc : cmp1 (nth xs k) (nth ys k) = 0
        · rw [if_neg (by omega), hI.out] at hd
          have HD := Lib.hid hd
          have HC := Lib.hid hc
          clear hd hc
          go_wp2_with (go_at_call 106; refine (cmpC_c _ _ _).mono ?_; rw [HC.out]; rintro e w3 ⟨rfl, rfl⟩)
          go_round
          case rel => exact ⟨k + 1, by omega, by omega, by go_num, HD.out.symm⟩
          case measure => simp [intOf]; omega
        · rw [if_pos hc, hI.out] at hd
          have HD := Lib.hid hd
          clear hd
          go_wp2_with (go_at_call 106; refine (cmpC_c _ _ _).mono ?_; rintro e w3 ⟨rfl, rfl⟩)
          go_ret
          exact ⟨by rw [HD.out]; rfl, rfl⟩
      · have HD := Lib.hid (cmpI_e1 k1 (show ys.length ≤ k by omega))
        rw [hI.out] at HD
        go_wp2_with fail
        go_ret
        exact ⟨by rw [HD.out]; rfl, rfl⟩
    · by_cases k2 : k < ys.length
      · have HD := Lib.hid (cmpI_e2 (show xs.length ≤ k by omega) k2)
        rw [hI.out] at HD
        go_wp2_with fail
        go_ret
        exact ⟨by rw [HD.out]; rfl, rfl⟩
      · have HD := Lib.hid (cmpI_e3 (show xs.length ≤ k by omega) (show ys.length ≤ k by omega))
        rw [hI.out] at HD
        go_wp2_with fail
        go_ret
        exact ⟨by rw [HD.out]; rfl, rfl⟩

theorem srtB_no {A : List (List Int)} {k : Nat} (h : k + 1 < A.length) (hc : leL (xat A k) (xat A (k + 1)) = false) : srtB A = false := by
  cases hs : srtB A with
  | false => rfl
  | true =>
    have := List.pairwise_iff_getElem.1 (srtB_pw.1 hs) k (k + 1) (by omega) h (by omega)
    rw [xat_eq (show k < A.length by omega), xat_eq h, this] at hc
    cases hc
set_option maxHeartbeats 2000000 in
set_option maxRecDepth 100000 in
theorem IsSortedR_c (v : Value) (us : List Value) (A : List (List Int)) (w : World) (hv : RII w v us A) :
    Calls Tryz.prog 63 #[v, .func (.func 64) #[] #[]] w (GivesB w (srtB A)) := by
  have hcf : ∀ (args : Array Value) (W : World), (callFunc 64 args).run Tryz.prog W = .ok (.enter 64 args) W :=
    fun args W => callFunc_go (P := Tryz.prog) Tryz.func64 (by kernel_rfl) (by kernel_rfl) args W
  have hln := hv.len
  have hix := hv.ixe
  have hm := hv.le
  by_cases h0 : A.length = 0
  · have hA : Hid (srtB A = true) := by rw [List.eq_nil_of_length_eq_zero h0]; rfl
    go_enter Tryz.func63, Tryz.ntmps63
    go_wp2_with fail
    go_loopw [5] (fun i wr => i = .int .i64 (-1) ∧ St w.heap.size w wr []) (fun _ _ => 0)
    case atStart => exact ⟨by go_num, St.refl w⟩
    case round =>
      obtain ⟨rfl, hS⟩ := hrel
      go_wp2_with fail
      go_ret
      exact ⟨ret_bool hA.out.symm, hS⟩
  · go_enter Tryz.func63, Tryz.ntmps63
    go_wp2_with fail
    go_loopw [5] (fun i wr => ∃ k : Nat, k + 1 ≤ A.length ∧ i = .int .i64 k ∧ Hid (srtB (A.drop k) = true) ∧ St w.heap.size w wr []) (fun i _ => (intOf i).toNat)
    case atStart => exact ⟨A.length - 1, by omega, by go_num, by
      have : A.drop (A.length - 1) = [xat A (A.length - 1)] := by rw [drop_xat (show A.length - 1 < A.length by omega), List.drop_of_length_le (by omega)]
      rw [Hid, this]; rfl, St.refl w⟩
    case round =>
      obtain ⟨k, hk, rfl, hI, hS⟩ := hrel
      by_cases hk0 : 0 < k
      · obtain ⟨m, hmk⟩ : ∃ m, m + 1 = k := ⟨k - 1, by omega⟩
        have R1 := Lib.hid fun s : SS w.heap.size w [] => (s.st.oldII hv).row k (by omega)
        have R0 := Lib.hid fun s : SS w.heap.size w [] => (s.st.oldII hv).row m (by omega)
        have hq1 := fun s : SS w.heap.size w [] => (s.st.oldII hv).cell k (by omega)
        have hq0 := fun s : SS w.heap.size w [] => (s.st.oldII hv).cell m (by omega)
        have x1 := hix (k : Int) k rfl (by omega)
        have x0 := hix ((k : Int) - 1) m (by omega) (by omega)
        have hw : IntKind.i64.wrap ((k : Int) - 1) = ((k : Int) - 1) := IntWalk.i64_in _ (by omega)
        have Hmk := Lib.hid hmk
        have hd := srtB_drop (A := A) (k := m) (by omega)
        rw [hmk, hI.out, Bool.and_true] at hd
        have hno : leL (xat A m) (xat A k) = false → srtB A = false := fun h => srtB_no (k := m) (by omega) (by rw [hmk]; exact h)
        clear hmk
        cases hc : leL (xat A m) (xat A k)
        · have hlt : cmpI (xat A k) (xat A m) < 0 := by
            have := of_decide_eq_false hc
            have := cmpI_neg (xat A m) (xat A k); omega
          have HN := Lib.hid (hno hc)
          clear hd hc hno
          go_wp2_with fail
          have hne : Nonempty (SS _ _ _) := ⟨⟨_, hS⟩⟩
          refine wp_region_st (by kernel_rfl) (by kernel_rfl) hS ?_
          repeat (go_big_quiet_step ((go_at_call 64; exact st_quiet0 (Compare_c _ _ _ _ _ (R1.out _) (R0.out _)))))
          refine wpQuiet_nil ?_
          rintro _ ⟨s2, rfl⟩
          have hS2 := s2.st
          generalize s2.w = w2 at hS2 ⊢
          go_wp2_with fail
          go_ret
          exact ⟨ret_bool HN.out.symm, hS2⟩
        · have hlt : ¬ cmpI (xat A k) (xat A m) < 0 := by
            have := of_decide_eq_true hc
            have := cmpI_neg (xat A m) (xat A k); omega
          rw [hc] at hd
          have HD := Lib.hid hd
          clear hd hc hno
          go_wp2_with fail
          have hne : Nonempty (SS _ _ _) := ⟨⟨_, hS⟩⟩
          refine wp_region_st (by kernel_rfl) (by kernel_rfl) hS ?_
          repeat (go_big_quiet_step ((go_at_call 64; exact st_quiet0 (Compare_c _ _ _ _ _ (R1.out _) (R0.out _)))))
          refine wpQuiet_nil ?_
          rintro _ ⟨s2, rfl⟩
          have hS2 := s2.st
          generalize s2.w = w2 at hS2 ⊢
          go_wp2_with fail
          go_roundw
          case rel => exact ⟨m, by have := Hmk.out; omega, by rw [← Hmk.out]; go_num, HD, hS2⟩
          case measure => (have := Hmk.out; simp [intOf]; omega)
      · obtain rfl : k = 0 := by omega
        go_wp2_with fail
        go_ret
        exact ⟨ret_bool (by rw [← hI.out]; rfl), hS⟩
end Go.Proofs.YtdgmaodnkbgolaaGreat
end

section
/- slices.SortFunc at [][]int64 with slices.Compare: rows that a call owns, put in order; slices.IsSortedFunc. -/
namespace Go.Proofs.YtdgmaodnkbgolaaGreat
set_option linter.unusedSimpArgs false
set_option linter.unusedVariables false
open Go.RowKit
attribute [local go_sem ↓] Go.wp_at_zero Go.wp_at_succ

def Tryz.mSortR_ren : Go.Shelf.Ren := ⟨fun | 6 => 72 | 15 => 101 | 14 => 116 | 28 => 146 | 29 => 147 | 20 => 154 | 21 => 155 | 22 => 156 | 23 => 157 | 24 => 158 | 25 => 159 | 26 => 160 | 27 => 161 | 46 => 177 | 47 => 172 | 48 => 173 | 49 => 178 | 50 => 179 | 57 => 182 | n => n, fun | 22 => 26 | 24 => 48 | 25 => 92 | 3 => 3 | 39 => 129 | 0 => 0 | 53 => 159 | 55 => 93 | 4 => 4 | 46 => 151 | 45 => 150 | 50 => 156 | 5 => 5 | 9 => 9 | 66 => 169 | 70 => 173 | 76 => 177 | 77 => 178 | n => n, fun | n => n⟩
theorem Tryz.mSortR : Go.Proofs.SlLaysF.n6 Tryz.prog Tryz.mSortR_ren := {
  mixed := by kernel_rfl
  f6 := ⟨Tryz.f72.name, by decide, Tryz.func72.trans (congrArg some (by kernel_rfl))⟩
  f14 := ⟨Tryz.f116.name, by decide, Tryz.func116.trans (congrArg some (by kernel_rfl))⟩
  f15 := Tryz.func101.trans (congrArg some (by kernel_rfl))
  f20 := ⟨Tryz.f154.name, by decide, Tryz.func154.trans (congrArg some (by kernel_rfl))⟩
  f21 := ⟨Tryz.f155.name, by decide, Tryz.func155.trans (congrArg some (by kernel_rfl))⟩
  f22 := ⟨Tryz.f156.name, by decide, Tryz.func156.trans (congrArg some (by kernel_rfl))⟩
  f23 := ⟨Tryz.f157.name, by decide, Tryz.func157.trans (congrArg some (by kernel_rfl))⟩
  f24 := ⟨Tryz.f158.name, by decide, Tryz.func158.trans (congrArg some (by kernel_rfl))⟩
  f25 := ⟨Tryz.f159.name, by decide, Tryz.func159.trans (congrArg some (by kernel_rfl))⟩
  f26 := ⟨Tryz.f160.name, by decide, Tryz.func160.trans (congrArg some (by kernel_rfl))⟩
  f27 := ⟨Tryz.f161.name, by decide, Tryz.func161.trans (congrArg some (by kernel_rfl))⟩
  f28 := Tryz.func146.trans (congrArg some (by kernel_rfl))
  f29 := Tryz.func147.trans (congrArg some (by kernel_rfl))
  f46 := ⟨Tryz.f177.name, by decide, Tryz.func177.trans (congrArg some (by kernel_rfl))⟩
  f47 := Tryz.func172.trans (congrArg some (by kernel_rfl))
  f48 := Tryz.func173.trans (congrArg some (by kernel_rfl))
  f49 := ⟨Tryz.f178.name, by decide, Tryz.func178.trans (congrArg some (by kernel_rfl))⟩
  f50 := ⟨Tryz.f179.name, by decide, Tryz.func179.trans (congrArg some (by kernel_rfl))⟩
  f57 := ⟨Tryz.f182.name, by decide, Tryz.func182.trans (congrArg some (by kernel_rfl))⟩
  t0 := Tryz.underlying0
  a0 := Tryz.isAgg0
  z0 := Tryz.sizeOf0
  v0 := Tryz.zeroValue0
  t3 := Tryz.underlying3
  a3 := Tryz.isAgg3
  z3 := Tryz.sizeOf3
  v3 := Tryz.zeroValue3
  t4 := Tryz.underlying4
  a4 := Tryz.isAgg4
  z4 := Tryz.sizeOf4
  v4 := Tryz.zeroValue4
  t5 := Tryz.underlying5
  a5 := Tryz.isAgg5
  z5 := Tryz.sizeOf5
  v5 := Tryz.zeroValue5
  t9 := Tryz.underlying9
  a9 := Tryz.isAgg9
  z9 := Tryz.sizeOf9
  v9 := Tryz.zeroValue9
  t22 := Tryz.underlying26
  a22 := Tryz.isAgg26
  z22 := Tryz.sizeOf26
  v22 := Tryz.zeroValue26
  a24 := Tryz.isAgg48
  z24 := Tryz.sizeOf48
  t25 := Tryz.underlying92
  a25 := Tryz.isAgg92
  z25 := Tryz.sizeOf92
  v25 := Tryz.zeroValue92
  t39 := Tryz.underlying129
  a39 := Tryz.isAgg129
  z39 := Tryz.sizeOf129
  v39 := Tryz.zeroValue129
  t45 := Tryz.underlying150
  a45 := Tryz.isAgg150
  z45 := Tryz.sizeOf150
  v45 := Tryz.zeroValue150
  t46 := Tryz.underlying151
  a46 := Tryz.isAgg151
  z46 := Tryz.sizeOf151
  v46 := Tryz.zeroValue151
  t50 := Tryz.underlying156
  a50 := Tryz.isAgg156
  z50 := Tryz.sizeOf156
  v50 := Tryz.zeroValue156
  t53 := Tryz.underlying159
  a53 := Tryz.isAgg159
  z53 := Tryz.sizeOf159
  v53 := Tryz.zeroValue159
  t55 := Tryz.underlying93
  a55 := Tryz.isAgg93
  z55 := Tryz.sizeOf93
  v55 := Tryz.zeroValue93
  t66 := Tryz.underlying169
  a66 := Tryz.isAgg169
  z66 := Tryz.sizeOf169
  v66 := Tryz.zeroValue169
  t70 := Tryz.underlying173
  a70 := Tryz.isAgg173
  z70 := Tryz.sizeOf173
  v70 := Tryz.zeroValue173
  t76 := Tryz.underlying177
  a76 := Tryz.isAgg177
  z76 := Tryz.sizeOf177
  v76 := Tryz.zeroValue177
  t77 := Tryz.underlying178
  a77 := Tryz.isAgg178
  z77 := Tryz.sizeOf178
  v77 := Tryz.zeroValue178
}

/-! ### a row of any kind -/
theorem holds_of_blockE {α : Type} [Inhabited α] (enc : α → Value) {w : World} {g : Nat} {cur : Array Value} {e : TypeId} {ss : List α} (hb : w.heap[g]? = some (.cells cur e (0, 0))) (ht : cur.toList.take ss.length = ss.map enc) : Go.Sort.Holds enc w g 0 ss.toArray := by
  intro j hj
  have hj' : j < ss.length := by simpa using hj
  refine ⟨?_, by simp [World.frozen?, hb]⟩
  have h1 : (cur.toList.take ss.length)[j]? = (ss.map enc)[j]? := by rw [ht]
  rw [List.getElem?_take_of_lt hj'] at h1
  simp only [World.cell?, hb, Nat.zero_add]
  simp only [Option.isSome_none, Bool.false_eq_true, if_false]
  rw [← Array.getElem?_toList, h1]
  simp [hj']
theorem heap_sortedE {α : Type} [Inhabited α] (enc : α → Value) {w : World} {g n : Nat} {os : Array Obj} {cur : Array Value} {e : TypeId} {fr : Nat × Nat} (d : Array α) (hb : w.heap[g]? = some (.cells cur e fr)) :
    (Go.Sort.grow (Go.Sort.putRow enc (Go.Sort.ahead w n) g 0 d) os).heap[g]? = some (.cells (Go.Sort.putCells enc 0 d cur) e fr) := by
  have hg : g < w.heap.size := (Array.getElem?_eq_some_iff.1 hb).1
  rw [Go.Sort.heap_grow_old _ _ (by simpa using hg)]
  simp [Go.Sort.putRow, Go.Sort.mapBlock, Go.Sort.ahead, Array.getElem?_modify, hb, Go.Sort.onCells]
theorem grownBy_sortedE {α : Type} [Inhabited α] (enc : α → Value) {w : World} {g n : Nat} {os : Array Obj} (d : Array α) : w.grownBy (Go.Sort.grow (Go.Sort.putRow enc (Go.Sort.ahead w n) g 0 d) os) (some g) := by
  refine ⟨rfl, rfl, rfl, by simp, fun k hk hne => ?_⟩
  rw [Go.Sort.heap_grow_old _ _ (by simpa using hk)]
  have : g ≠ k := fun e => hne (by rw [e])
  simp [Go.Sort.putRow, Go.Sort.mapBlock, Go.Sort.ahead, Array.getElem?_modify, this]
theorem take_putCellsE {α : Type} [Inhabited α] (enc : α → Value) (cur : Array Value) (d : Array α) (h : d.size ≤ cur.size) : (Go.Sort.putCells enc 0 d cur).toList.take d.size = d.toList.map enc := by
  apply List.ext_getElem?
  intro j
  by_cases hj : j < d.size
  · rw [List.getElem?_take_of_lt hj, Array.getElem?_toList]
    simp [Go.Sort.putCells, hj, show j < cur.size by omega]
  · rw [List.getElem?_take_eq_none (by omega), List.getElem?_eq_none (by simp; omega)]

end Go.Proofs.YtdgmaodnkbgolaaGreat
end

section
/- slices.SortFunc at [][]int64 with slices.Compare: the rows of an owned list of rows are put in order. -/
namespace Go.Proofs.YtdgmaodnkbgolaaGreat
set_option linter.unusedSimpArgs false
set_option linter.unusedVariables false
open Go.RowKit

theorem callR_cmp : ∀ (args : Array Value) (W : World), (callFunc 64 args).run Tryz.prog W = .ok (.enter 64 args) W :=
  fun args W => callFunc_go (P := Tryz.prog) Tryz.func64 (by kernel_rfl) (by kernel_rfl) args W
def cfR (A : List (List Int)) (x y : Fin A.length) : Int := cmpI (xat A x) (xat A y)
theorem swoR (A : List (List Int)) : Go.Sort.SWO (Go.Proofs.ltOf (cfR A)) where
  irrefl x := by simp [Go.Proofs.ltOf, cfR, cmpI_self]
  trans x y z h1 h2 := by
    have a1 := of_decide_eq_true h1
    have a2 := of_decide_eq_true h2
    refine decide_eq_true ?_
    unfold cfR at *
    have h3 := cmpI_trans (a := xat A x) (b := xat A y) (c := xat A z) (by omega) (by omega)
    rcases Int.lt_or_le (cmpI (xat A x) (xat A z)) 0 with h | h
    · exact h
    · have h4 := cmpI_eq (a := xat A x) (b := xat A z) (by omega)
      rw [h4] at a1
      have := cmpI_neg (xat A y) (xat A z)
      omega
  ntrans x y z h1 h2 := by
    have a1 := of_decide_eq_false h1
    have a2 := of_decide_eq_false h2
    refine decide_eq_false ?_
    unfold cfR at *
    have n1 := cmpI_neg (xat A x) (xat A y)
    have n2 := cmpI_neg (xat A y) (xat A z)
    have n3 := cmpI_neg (xat A x) (xat A z)
    have h3 := cmpI_trans (a := xat A z) (b := xat A y) (c := xat A x) (by omega) (by omega)
    omega
theorem fin_map {α : Type} (us : List α) (d : α) {n : Nat} (h : us.length = n) : (List.finRange n).map (fun k : Fin n => us.getD k d) = us := by
  subst h
  apply List.ext_getElem
  · simp
  · intro i h1 h2
    simp at h1 ⊢
theorem rows_fin {us : List Value} {A : List (List Int)} (h : us.length = A.length) : rowsI us A = (List.finRange A.length).map fun k : Fin A.length => row 2 (vat us k) (iv (xat A k)) := by
  apply List.ext_getElem
  · simp [rowsI, h]
  · intro i h1 h2
    simp [rowsI, h] at h1
    simp [rowsI, vat, xat, h, h1]
set_option maxHeartbeats 1000000 in
theorem SortRows_c {B : Nat} {w0 w : World} {L : List Ent} {v : Value} {us : List Value} {A : List (List Int)} (hS : St B w0 w (own2 v us A ++ L)) (hl : us.length = A.length) (hlen : A.length < 100000) :
    Calls Tryz.prog 72 #[v, .func (.func 64) #[] #[]] w fun e w' => ∃ us' : List Value, e = .returned (.tuple #[]) ∧ us'.length = A.length ∧ St B w0 w' (own2 v us' (srtL A) ++ L) := by
  have hi : (own2 v us A ++ L)[0]? = some (row 48 v us) := rfl
  by_cases h0 : A = []
  · subst h0
    have hu : us = [] := by simpa using hl
    subst hu
    obtain ⟨a, c, hv⟩ := (hS.rd 0 hi).sl.sh
    subst hv
    refine Calls.mono (Go.Proofs.AnyF.slices_SortFunc_none (P := Tryz.prog) (ρ := Tryz.mSortR_ren) { Tryz.mSortR with } a c (.func (.func 64) #[] #[]) w) ?_
    rintro e w' ⟨rfl, rfl⟩
    exact ⟨[], rfl, rfl, hS⟩
  · have hpos : 0 < A.length := by cases A with
      | nil => exact absurd rfl h0
      | cons _ _ => simp
    haveI : Inhabited (Fin A.length) := ⟨⟨0, hpos⟩⟩
    have hrow : ∀ {W : World} {u : List Value}, St B w0 W (row 48 v u :: (rowsI us A ++ L)) → ∀ k : Fin A.length, RdI W (vat us k) (xat A k) := by
      intro W u h k
      refine h.rdI (k + 1) (e := 2) ?_
      rw [List.getElem?_cons_succ, List.getElem?_append_left (by rw [rowsI_len hl]; exact k.isLt)]
      exact rowsI_get hl k.isLt
    have hok := hS.ok _ (List.mem_of_getElem? hi)
    rcases hok with ⟨hp, _⟩ | ⟨_, hv, hu⟩ | ⟨_, g, cap, cur, hv, hB, hh, h1, h2, h3, h4⟩
    · simp [row] at hp
    · simp only [row] at hu
      rw [hu] at hl; simp at hl; omega
    · simp only [row] at hv h1 h4 hh
      subst hv
      have hblk : g < w.heap.size := (Array.getElem?_eq_some_iff.1 hh).1
      have hOne : Go.Proofs.OneCell (fun k : Fin A.length => vat us k) := fun k => (hrow hS k).sl.one
      have hd : (List.finRange A.length).toArray.size = us.length := by simp [hl]
      have hH : Go.Sort.Holds (fun k : Fin A.length => vat us k) w g 0 (List.finRange A.length).toArray := holds_of_blockE _ hh (by
        rw [List.length_finRange]
        exact (by rw [← hl]; exact h4 : cur.toList.take A.length = us).trans (fin_map us undef hl).symm)
      have putAll : ∀ (m : Nat) (os : Array Obj) (dk : Array (Fin A.length)), dk.size = us.length → St B w0 (Go.Proofs.sortWorld (fun k : Fin A.length => vat us k) w g 0 m dk os) (row 48 (.slice (some ⟨g, 0, none⟩) us.length cap) (dk.toList.map fun k : Fin A.length => vat us k) :: (rowsI us A ++ L)) := by
        intro m os dk hs
        have := hS.put 0 hi (w' := Go.Proofs.sortWorld (fun k : Fin A.length => vat us k) w g 0 m dk os) ?_ (row 48 (.slice (some ⟨g, 0, none⟩) us.length cap) (dk.toList.map fun k : Fin A.length => vat us k)) (.inr (.inr ⟨rfl, g, cap, _, ?_, hB, heap_sortedE (fun k : Fin A.length => vat us k) _ hh, ?_, h2, ?_, ?_⟩)) (.inl rfl)
        · exact this
        · exact grownBy_sortedE (fun k : Fin A.length => vat us k) dk
        · simp [row, hs]
        · simp [row, hs]; exact h1
        · simp [Go.Sort.putCells, h3]
        · have := take_putCellsE (fun k : Fin A.length => vat us k) cur dk (by omega)
          rw [hs] at this
          simpa [row, hs] using this
      have hcmp : Go.Proofs.CmpLays1 Tryz.prog 64 #[] (fun k : Fin A.length => vat us k) (cfR A) g 0 (List.finRange A.length).toArray.size w := by
        refine Go.Proofs.CmpReads.lays fun m os dk hs x y => ?_
        have hp := putAll m os dk (by rw [hs, hd])
        refine (Compare_c _ _ _ _ _ (hrow hp x) (hrow hp y)).mono ?_
        rintro e w' ⟨rfl, rfl⟩
        exact ⟨rfl, 0, rfl⟩
      have hc := Go.Proofs.Any.slices_SortFunc (P := Tryz.prog) (ρ := Tryz.mSortR_ren) Tryz.mSortR (fun k : Fin A.length => vat us k) hOne (cfR A) (swoR A) 64 #[] g 0 cap (List.finRange A.length).toArray w callR_cmp hcmp hH hblk (by rw [hd]; omega)
      rw [hd] at hc
      refine Calls.mono hc ?_
      rintro e w' ⟨rfl, d', n, os, hperm, hso, rfl⟩
      have hds : d'.size = us.length := by have := hperm.1; omega
      have hpm : d'.toList.Perm (List.finRange A.length) := by
        have := hperm.2.2
        rw [show d'.extract 0 us.length = d' by rw [← hds]; simp, show (List.finRange A.length).toArray.extract 0 us.length = (List.finRange A.length).toArray by rw [← hd]; simp only [Array.extract_size]] at this
        simpa using this
      have hA : (d'.toList.map fun k : Fin A.length => xat A k) = srtL A := by
        refine srtL_eq ?_ ?_
        · have := hpm.map fun k : Fin A.length => xat A k
          rwa [show (List.finRange A.length).map (fun k : Fin A.length => xat A k) = A from fin_map A [] rfl] at this
        · rw [List.pairwise_map, List.pairwise_iff_getElem]
          intro i j hi' hj' hij
          have := hso i j (by omega) hij (by rw [← hds]; simpa using hj')
          have := of_decide_eq_false this
          unfold cfR at this
          have e1 : d'[i]! = d'.toList[i] := by simp at hi'; simp [hi']
          have e2 : d'[j]! = d'.toList[j] := by simp at hj'; simp [hj']
          rw [e1, e2] at this
          have := cmpI_neg (xat A d'.toList[j]) (xat A d'.toList[i])
          exact decide_eq_true (by omega)
      have hp := putAll n os d' hds
      refine ⟨d'.toList.map fun k : Fin A.length => vat us k, rfl, by simp [hds, hl], ?_⟩
      rw [← hA]
      refine hp.perm ?_
      unfold own2
      refine List.Perm.cons _ (List.Perm.append_right _ ?_)
      rw [rows_fin hl]
      refine (hpm.map _).symm.trans (.of_eq ?_)
      unfold rowsI
      rw [List.zipWith_map, List.zipWith_self]
end Go.Proofs.YtdgmaodnkbgolaaGreat
end

section
/- The source of choices that the laws draw from. -/
namespace Go.Proofs.YtdgmaodnkbgolaaGreat
set_option linter.unusedSimpArgs false
set_option linter.unusedVariables false
open Go.RowKit

/-- the cells of some bytes -/
def bv (bs : List UInt8) : List Value := bs.map fun b => Value.int .u8 b.toNat
def RdB (w : World) (v : Value) (bs : List UInt8) : Prop := Rd w v (bv bs)
theorem bv_len (bs : List UInt8) : (bv bs).length = bs.length := by simp [bv]
def bnth (bs : List UInt8) (j : Nat) : Int := ((bs.getD j 0).toNat : Int)
theorem bnth_bd (bs : List UInt8) (j : Nat) : 0 ≤ bnth bs j ∧ bnth bs j ≤ 255 := by
  unfold bnth; have := (bs.getD j 0).toNat_lt; omega
theorem bv_get {bs : List UInt8} {j : Nat} (h : j < bs.length) : (bv bs).getD j undef = .int .u8 (bnth bs j) := by
  simp [bv, bnth, List.getD, List.getElem?_eq_getElem h]

theorem Tryz.und_bs : Tryz.prog.underlying 22 = some (.slice 5) := by kernel_rfl
theorem Tryz.size_b : (Tryz.prog.info? 5).map (·.size) = some 1 := by kernel_rfl

section
variable {w w' : World} {v : Value} {bs : List UInt8}
theorem RdB.le (h : RdB w v bs) : bs.length ≤ 9223372036854775807 := by have := h.sl.le; rwa [bv_len] at this
theorem RdB.len (h : RdB w v bs) (ty : TypeId) (W : World) : (Builtin.len_ #[22] ty #[v]).run Tryz.prog W = .ok (.int .i64 bs.length) W := by
  have := run_len_sl (P := Tryz.prog) h.sl 22 ty Tryz.und_bs W; rwa [bv_len] at this
theorem RdB.ix (h : RdB w v bs) (k : IntKind) (i : Int) (h0 : 0 ≤ i) (hi : i < bs.length) (W : World) :
    (Instr.indexAt 22 v (.int k i)).run Tryz.prog W = .ok (.pointer (some (el v i.toNat))) W :=
  run_ix_sl (P := Tryz.prog) h.sl 22 Tryz.und_bs Tryz.size_b k i h0 (by rw [bv_len]; exact hi) W
theorem RdB.cell (h : RdB w v bs) (j : Nat) (hj : j < bs.length) : w.cell? (el v j) = some (.int .u8 (bnth bs j)) := by
  rw [Rd.cell h (by rw [bv_len]; exact hj), bv_get hj]
theorem RdB.keep (h : RdB w v bs) (hb : Below w.heap.size w w') : RdB w' v bs := Rd.keep h hb
theorem RdB.sh (h : RdB w v bs) : ∃ a n c, v = .slice a n c := by obtain ⟨a, c, hv, _⟩ := h.sl; exact ⟨a, _, c, hv⟩
end
theorem St.oldB {w0 w : World} {L : List Ent} {v : Value} {bs : List UInt8} (h : St w0.heap.size w0 w L) (hr : RdB w0 v bs) : RdB w v bs := Rd.keep hr h.below

/-- the source lies at the head of what is owned, at most K bytes were drawn -/
def Src (w0 w : World) (cv : Value) (g : Nat) (K : Nat) (L : List Ent) : Prop :=
  ∃ p seed : Int, 0 ≤ p ∧ p ≤ K ∧ St w0.heap.size w0 w (box 95 g [cv, .int .i64 p, .int .u64 seed] :: L)

def AnInt (lo hi : Int) (R : World → Prop) (e : Ending) (w' : World) : Prop := ∃ x : Int, lo ≤ x ∧ x ≤ hi ∧ e = .returned (.int .i64 x) ∧ R w'

theorem Src.mono {w0 w : World} {cv : Value} {g K K' : Nat} {L : List Ent} (h : Src w0 w cv g K L) (hk : K ≤ K') : Src w0 w cv g K' L := by
  obtain ⟨p, s, h0, h1, h2⟩ := h; exact ⟨p, s, h0, by omega, h2⟩
theorem Src.st {w0 w : World} {cv : Value} {g K : Nat} {L : List Ent} (h : Src w0 w cv g K L) : St w0.heap.size w0 w L := by
  obtain ⟨p, s, h0, h1, h2⟩ := h; exact h2.sub (List.sublist_cons_self _ _)

theorem and255 (x : Int) : 0 ≤ wrap64 (bits BinOp.and IntKind.u64 (IntKind.u64.wrap x / 1099511627776) 255) ∧ wrap64 (bits BinOp.and IntKind.u64 (IntKind.u64.wrap x / 1099511627776) 255) ≤ 255 := by
  have h1 : 0 ≤ IntKind.u64.wrap x / 1099511627776 ∧ IntKind.u64.wrap x / 1099511627776 < 18446744073709551616 := by
    simp [IntKind.wrap, IntKind.bits, IntKind.signed]; omega
  rw [u64_and _ _ h1.1 h1.2 (by omega) (by omega)]
  have e255 : (255 : Int).toNat = 255 := rfl
  have h2 := Nat.and_le_right (n := (IntKind.u64.wrap x / 1099511627776).toNat) (m := (255 : Int).toNat)
  rw [e255] at h2 ⊢
  unfold wrap64
  omega

set_option maxHeartbeats 1000000 in
theorem next_c (w0 w : World) (cv : Value) (bs : List UInt8) (g K : Nat) (L : List Ent) (hb : RdB w0 cv bs) (h : Src w0 w cv g K L) (hK : K < 1099511627776) :
    Calls Tryz.prog 66 #[.pointer (some ⟨g, 0, none⟩)] w (AnInt 0 255 fun w' => Src w0 w' cv g (K + 1) L) := by
  obtain ⟨p, seed, h0, h1, hS⟩ := h
  obtain ⟨q, rfl⟩ := Int.eq_ofNat_of_zero_le h0
  have hc0 := hS.bcell 0 rfl 0 rfl
  have hc1 := hS.bcell 0 rfl 1 rfl
  have hc2 := hS.bcell 0 rfl 2 rfl
  have hf := hS.bfree 0 rfl
  have hbw := hS.oldB hb
  have hln := hb.len
  have hix := hb.ix
  have hcell := hbw.cell
  have hle := hb.le
  have hbd := bnth_bd bs q
  obtain ⟨hb0, hb1⟩ := hbd
  by_cases hlt : q < bs.length
  · have hlt' : q + 1 ≤ bs.length := hlt
    go_enter Tryz.func66, Tryz.ntmps66
    go_wp2_with fail
    go_quiet (fail)
    go_wp2_with fail
    go_quiet (fail)
    go_wp2_with fail
    refine abs_wp (((hS.drewN _).bstore 0 rfl 1 _).bstore 0 rfl 2 _) ?_
    intro w2 hS2
    clear hc0 hc1 hc2 hf
    have hc0 := hS2.bcell 0 rfl 0 rfl
    have hc1 := hS2.bcell 0 rfl 1 rfl
    go_quiet (fail)
    go_wp2_with fail
    go_ret
    exact ⟨_, hb0, hb1, rfl, _, _, by omega, by omega, hS2.drewN _⟩
  · have hlt' : ¬ q + 1 ≤ bs.length := by omega
    go_enter Tryz.func66, Tryz.ntmps66
    go_wp2_with fail
    go_quiet (fail)
    go_wp2_with fail
    refine abs_wp (((hS.drewN _).bstore 0 rfl 1 _).bstore 0 rfl 2 _) ?_
    intro w2 hS2
    clear hc0 hc1 hc2 hf
    have hc0 := hS2.bcell 0 rfl 0 rfl
    have hc1 := hS2.bcell 0 rfl 1 rfl
    have hc2 := hS2.bcell 0 rfl 2 rfl
    go_quiet (fail)
    go_wp2_with fail
    go_ret
    exact ⟨_, (and255 _).1, (and255 _).2, rfl, _, _, by omega, by omega, hS2.drewN _⟩

set_option maxHeartbeats 1000000 in
theorem pick_c (w0 w : World) (cv : Value) (bs : List UInt8) (g K : Nat) (L : List Ent) (n : Int) (hb : RdB w0 cv bs) (h : Src w0 w cv g K L) (hK : K < 1000000000000) :
    Calls Tryz.prog 22 #[.pointer (some ⟨g, 0, none⟩), .int .i64 n] w (AnInt 0 (max (n - 1) 0) fun w' => Src w0 w' cv g (K + 2) L) := by
  by_cases h1 : n ≤ 1
  · go_enter Tryz.func22, Tryz.ntmps22
    go_wp2_with fail
    go_ret
    exact ⟨0, by omega, by omega, rfl, h.mono (by omega)⟩
  · by_cases h2 : n ≤ 200
    · go_enter Tryz.func22, Tryz.ntmps22
      go_wp2_with fail
      refine (next_c w0 w cv bs g K L hb h (by omega)).mono ?_
      rintro e w1 ⟨x, hx0, hx1, rfl, h3⟩
      go_wp2_with fail
      go_ret
      have := Int.emod_nonneg x (show n ≠ 0 by omega)
      have := Int.emod_lt_of_pos x (show 0 < n by omega)
      exact ⟨_, by omega, by omega, rfl, h3.mono (by omega)⟩
    · go_enter Tryz.func22, Tryz.ntmps22
      go_wp2_with fail
      refine (next_c w0 w cv bs g K L hb h (by omega)).mono ?_
      rintro e w1 ⟨x, hx0, hx1, rfl, h3⟩
      go_wp2_with fail
      refine (next_c w0 w1 cv bs g (K + 1) L hb h3 (by omega)).mono ?_
      rintro e w2 ⟨y, hy0, hy1, rfl, h4⟩
      go_wp2_with fail
      go_ret
      have := Int.emod_nonneg (x * 256 + y) (show n ≠ 0 by omega)
      have := Int.emod_lt_of_pos (x * 256 + y) (show 0 < n by omega)
      exact ⟨_, by omega, by omega, rfl, h4.mono (by omega)⟩

def ABool (R : World → Prop) (e : Ending) (w' : World) : Prop := ∃ x : Bool, e = .returned (.bool x) ∧ R w'

theorem one_c (w0 w : World) (cv : Value) (bs : List UInt8) (g K : Nat) (L : List Ent) (n : Int) (hb : RdB w0 cv bs) (h : Src w0 w cv g K L) (hK : K < 1000000000000) :
    Calls Tryz.prog 25 #[.pointer (some ⟨g, 0, none⟩), .int .i64 n] w (ABool fun w' => Src w0 w' cv g (K + 2) L) := by
  go_enter Tryz.func25, Tryz.ntmps25
  go_wp2_with fail
  refine (pick_c w0 w cv bs g K L n hb h hK).mono ?_
  rintro e w1 ⟨x, hx0, hx1, rfl, h3⟩
  go_wp2_with fail
  go_ret
  exact ⟨_, rfl, h3⟩

/-- one of some numbers: whatever holds of all of them holds of it -/
def AmongPost (xs : List Int) (R : World → Prop) (e : Ending) (w' : World) : Prop := ∃ x ∈ xs, e = .returned (.int .i64 x) ∧ R w'

theorem among_c (w0 w : World) (cv : Value) (bs : List UInt8) (g K : Nat) (L : List Ent) (v : Value) (xs : List Int) (hb : RdB w0 cv bs) (h : Src w0 w cv g K (row 2 v (iv xs) :: L)) (hne : 0 < xs.length)
    (hK : K < 1000000000000) :
    Calls Tryz.prog 20 #[.pointer (some ⟨g, 0, none⟩), v] w (AmongPost xs fun w' => Src w0 w' cv g (K + 2) L) := by
  have hr : RdI w v xs := by obtain ⟨p, s, h0, h1, h2⟩ := h; exact h2.rdI 1 rfl
  have hln := hr.len
  have hix := hr.ix
  have hle := hr.le
  go_enter Tryz.func20, Tryz.ntmps20
  go_wp2_with fail
  refine (pick_c w0 w cv bs g K _ _ hb h hK).mono ?_
  rintro e w1 ⟨x, hx0, hx1, rfl, h3⟩
  obtain ⟨k, rfl⟩ := Int.eq_ofNat_of_zero_le hx0
  have hk : k < xs.length := by omega
  have hr1 : RdI w1 v xs := by obtain ⟨p, s, h0, h1, h2⟩ := h3; exact h2.rdI 1 rfl
  have hc := hr1.cell
  go_wp2_with fail
  go_ret
  obtain ⟨p, s, h0, h1, h2⟩ := h3
  exact ⟨nth xs k, nth_mem hk, rfl, p, s, h0, h1, h2.sub (List.Sublist.cons_cons _ (List.sublist_cons_self _ _))⟩

theorem l00From_c (w : World) (cv : Value) (bs : List UInt8) (hb : RdB w cv bs) :
    Calls Tryz.prog 19 #[cv] w fun e w' => e = .returned (.pointer (some ⟨w.heap.size, 0, none⟩)) ∧ Src w w' cv w.heap.size 0 [] := by
  obtain ⟨av, n, c, rfl⟩ := hb.sh
  go_enter Tryz.func19, Tryz.ntmps19
  go_wp2_with fail
  go_ret
  exact ⟨rfl, 0, 0, by omega, by omega, (St.refl w).newbox _ _⟩
end Go.Proofs.YtdgmaodnkbgolaaGreat
end

section
/- Walks: sets. -/
namespace Go.Proofs.YtdgmaodnkbgolaaGreat
set_option linter.unusedSimpArgs false
set_option linter.unusedVariables false
open Go.RowKit

theorem validSetB_32 (xs : List Int) : validSetB xs 32 = incB (-1) 32 xs := by simp [validSetB, inB]

/-- the first place of a number from place k on, or -1 -/
def idxF (x : Int) (xs : List Int) (k : Nat) : Int := match (xs.drop k).findIdx? (x == ·) with | some j => (k + j : Nat) | none => -1

set_option maxHeartbeats 1000000 in
theorem IndexS_c (v : Value) (xs : List Int) (x : Int) (w : World) (hv : RdI w v xs) :
    Calls Tryz.prog 77 #[v, .int .i64 x] w fun e w' => e = .returned (.int .i64 (idxF x xs 0)) ∧ w = w' := by
  have hln := hv.len
  have hix := hv.ix
  have hcell := hv.cell
  have hm := hv.le
  go_enter Tryz.func77, Tryz.ntmps77
  go_wp2_with fail
  go_loop [5, 8] (fun _ i => ∃ k : Nat, k ≤ xs.length ∧ i = .int .i64 k ∧ Hid (idxF x xs 0 = idxF x xs k)) (fun _ i => xs.length - (intOf i).toNat)
  case atStart => exact ⟨0, by omega, rfl, rfl⟩
  case round =>
    obtain ⟨k, hk, rfl, hI⟩ := hrel
    by_cases hlt : k < xs.length
    · by_cases h1 : x = nth xs k
      · have f1 := eq_t h1
        have H1 := Lib.hid h1; clear h1
        go_wp2_with fail
        go_ret
        refine ⟨ret_i64 ?_, rfl⟩
        rw [hI.out, idxF, drop_nth hlt, List.findIdx?_cons, f1]; simp
      · have f1 := eq_f h1
        have H1 := Lib.hid h1; clear h1
        go_wp2_with fail
        go_round
        case rel =>
          refine ⟨k + 1, by omega, by go_num, ?_⟩
          rw [Hid, hI.out, idxF, drop_nth hlt, List.findIdx?_cons, f1]
          simp only [idxF]
          cases (xs.drop (k + 1)).findIdx? (x == ·) <;> simp <;> omega
        case measure => simp [intOf]; omega
    · go_wp2_with fail
      go_ret
      exact ⟨ret_i64 (by rw [hI.out, idxF, List.drop_of_length_le (by omega)]; rfl), rfl⟩

theorem idxF_ge {x : Int} {xs : List Int} : decide (0 ≤ idxF x xs 0) = xs.contains x := by
  unfold idxF
  rw [List.drop_zero]
  cases h : xs.findIdx? (x == ·) with
  | none =>
    have hn : xs.contains x = false := by
      rw [Bool.eq_false_iff]; intro hc
      rw [List.contains_iff_mem] at hc
      have := List.findIdx?_eq_none_iff.1 h x hc
      simp at this
    rw [hn]; simp
  | some j =>
    have hy : xs.contains x = true := by
      rw [List.contains_iff_mem]
      obtain ⟨hj, hp, _⟩ := List.findIdx?_eq_some_iff_getElem.1 h
      have : x = xs[j] := by simpa using hp
      rw [this]; exact List.getElem_mem hj
    rw [hy]; simp

theorem ContainsS_c (v : Value) (xs : List Int) (x : Int) (w : World) (hv : RdI w v xs) :
    Calls Tryz.prog 45 #[v, .int .i64 x] w fun e w' => e = .returned (.bool (decide (x ∈ xs))) ∧ w = w' := by
  go_enter Tryz.func45, Tryz.ntmps45
  go_wp2_with fail
  refine (IndexS_c v xs x w hv).mono ?_
  rintro e w1 ⟨rfl, rfl⟩
  go_wp2_with fail
  go_ret
  exact ⟨ret_bool (by rw [← ce]; exact idxF_ge), rfl⟩

set_option maxHeartbeats 2000000 in
set_option maxRecDepth 100000 in
theorem filtered_c (K : FuncId) (hcf : ∀ (args : Array Value) (W : World), (callFunc K args).run Tryz.prog W = .ok (.enter K args) W) (f : Bool → Bool → Bool) (hK : ∀ (a b : Bool) (W : World), Calls Tryz.prog K #[.bool a, .bool b] W fun e w' => e = .returned (.bool (f a b)) ∧ W = w')
    (va vb : Value) (xs ys : List Int) (w : World) (ha : RdI w va xs) (hb : RdI w vb ys) :
    Calls Tryz.prog 75 #[va, vb, .func (.func K) #[] #[]] w (MakesI w (filtR f xs ys)) := by
  have HK := Lib.hid hK
  clear hK
  have vx := validSetB_32 xs
  have vy := validSetB_32 ys
  by_cases h1 : IsSet xs
  · have h1' : incB (-1) 32 xs = true := h1
    by_cases h2 : IsSet ys
    · have h2' : incB (-1) 32 ys = true := h2
      have Hg := Lib.hid (show filtR f xs ys = [] ++ upF (fun x => f (xs.contains x) (ys.contains x)) 0 32 by rw [filtR, if_pos ⟨h1, h2⟩]; rfl)
      go_enter Tryz.func75, Tryz.ntmps75
      go_wp2_with fail
      refine (ValidSet_c va xs 32 w ha).mono ?_
      rw [vx, h1']
      rintro e w1 ⟨rfl, rfl⟩
      go_wp2_with fail
      refine (ValidSet_c vb ys 32 w hb).mono ?_
      rw [vy, h2']
      rintro e w1 ⟨rfl, rfl⟩
      clear vx vy h1' h2'
      go_wp2_with fail
      go_loopw [7, 8] (fun v i wr => ∃ (k : Nat) (zs : List Int), k ≤ 32 ∧ zs.length ≤ k ∧ i = .int .i64 k ∧ Hid (filtR f xs ys = zs ++ upF (fun x => f (xs.contains x) (ys.contains x)) k (32 - k)) ∧
          St w.heap.size w wr [row 2 v (iv zs)]) (fun _ i _ => 32 - (intOf i).toNat)
      case atStart => exact ⟨0, [], by omega, by simp, rfl, Hg, (St.refl w).emp⟩
      case round =>
        obtain ⟨k, zs, hk, hz, rfl, hI, hS⟩ := hrel
        by_cases hlt : k < 32
        · go_wp2_with fail
          refine (ContainsS_c va xs k wr (hS.oldI ha)).mono ?_
          rintro e w2 ⟨rfl, rfl⟩
          go_wp2_with fail
          refine (ContainsS_c vb ys k wr (hS.oldI hb)).mono ?_
          rintro e w2 ⟨rfl, rfl⟩
          go_wp2_with fail
          refine (HK.out _ _ _).mono ?_
          rintro e w2 ⟨rfl, rfl⟩
          have hstep : upF (fun x => f (xs.contains x) (ys.contains x)) k (32 - k) = if f (xs.contains (k : Int)) (ys.contains (k : Int)) then (k : Int) :: upF (fun x => f (xs.contains x) (ys.contains x)) (k + 1) (32 - (k + 1)) else upF (fun x => f (xs.contains x) (ys.contains x)) (k + 1) (32 - (k + 1)) := by
            rw [show 32 - k = (32 - (k + 1)) + 1 by omega]; rfl
          rw [ce, ce] at hstep
          have Hs := Lib.hid hstep
          clear hstep
          by_cases hf : f (decide ((k : Int) ∈ xs)) (decide ((k : Int) ∈ ys)) = true
          · rw [hf]
            have Hf := Lib.hid hf; clear hf
            go_wp2_with (at_builtin; refine appI hS 0 rfl (by omega) rfl _ _ rfl rfl _ rfl ?_; intro v' w2 hS2)
            go_roundw
            case rel => exact ⟨k + 1, zs ++ [(k : Int)], by omega, by simp; omega, by go_num, by rw [Hid, hI.out, Hs.out, if_pos Hf.out]; simp, hS2⟩
            case measure => simp [intOf]; omega
          · have hf' : f (decide ((k : Int) ∈ xs)) (decide ((k : Int) ∈ ys)) = false := by simpa using hf
            rw [hf']
            have Hf := Lib.hid hf'; clear hf hf'
            go_wp2_with fail
            go_roundw
            case rel => exact ⟨k + 1, zs, by omega, by omega, by go_num, by rw [Hid, hI.out, Hs.out, Hf.out, if_neg (by simp)], hS⟩
            case measure => simp [intOf]; omega
        · go_wp2_with fail
          go_ret
          refine ⟨_, rfl, ?_⟩
          rw [hI.out, show 32 - k = 0 by omega]
          simp only [upF, List.append_nil]
          exact hS
    · have h2' : incB (-1) 32 ys = false := by simpa [IsSet] using h2
      go_enter Tryz.func75, Tryz.ntmps75
      go_wp2_with fail
      refine (ValidSet_c va xs 32 w ha).mono ?_
      rw [vx, h1']
      rintro e w1 ⟨rfl, rfl⟩
      go_wp2_with fail
      refine (ValidSet_c vb ys 32 w hb).mono ?_
      rw [vy, h2']
      rintro e w1 ⟨rfl, rfl⟩
      go_wp2_with fail
      go_ret
      exact ⟨_, rfl, by rw [filtR, if_neg (fun h => h2 h.2)]; exact (St.refl w).emp⟩
  · have h1' : incB (-1) 32 xs = false := by simpa [IsSet] using h1
    go_enter Tryz.func75, Tryz.ntmps75
    go_wp2_with fail
    refine (ValidSet_c va xs 32 w ha).mono ?_
    rw [vx, h1']
    rintro e w1 ⟨rfl, rfl⟩
    go_wp2_with fail
    go_ret
    exact ⟨_, rfl, by rw [filtR, if_neg (fun h => h1 h.1)]; exact (St.refl w).emp⟩
end Go.Proofs.YtdgmaodnkbgolaaGreat
end
