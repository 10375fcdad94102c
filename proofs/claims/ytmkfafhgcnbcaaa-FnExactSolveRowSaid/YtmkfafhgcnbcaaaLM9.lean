/- The law FnExactSolveRow, walked. -/
import Derived.Test.YtmkfafhgcnbcaaaSol2
import Derived.Test.YtmkfafhgcnbcaaaFx
import Derived.Test.YtmkfafhgcnbcaaaPrfF
import Derived.Deep.RegionHeld3
import Derived.Deep.DrawnRows
namespace Go.Proofs.Ytmkfafhgcnbcaaa
set_option linter.unusedSimpArgs false
set_option linter.unusedVariables false
open Go.RowKit
attribute [local go_sem ↓] Go.wp_at_zero Go.wp_at_succ

theorem len_slvM (p d : Int) (xs : List Int) (xss : List (List Int)) (b : List Int) : (slvM p d xs xss b).length ≤ 1048576 := by
  unfold slvM; split
  · rename_i h
    unfold slvC at h
    by_cases h1 : matOk p d xs xss = true
    · have := (matOk_t h1).cols; rw [solP_len]; omega
    · rw [if_neg h1] at h; cases h
  · simp

set_option maxHeartbeats 8000000 in
set_option maxRecDepth 100000 in
theorem FnExactSolveRow_law (w : World) (p0 d0 : Int) (v0 : Value) (xs0 : List Int) (wd0 : (Lit.int .i64 d0).wf = true) (hv0 : RdI w v0 xs0) (v1 : Value) (us1 : List Value) (xss1 : List (List Int)) (hv1 : RII w v1 us1 xss1) (v2 : Value) (xs2 : List Int) (hv2 : RdI w v2 xs2) :
    Calls Try.prog 11 #[fv p0 d0 v0, v1, v2] w (GivesB w true) := by
  have hS0 := ((St.refl w).newboxF 24 #[.int .i64 p0, .int .i64 d0, v0])
  simp only [World.size_alloc] at hS0
  by_cases hl2 : 1048576 < xs2.length
  · have hll2 := hv2.len
    go_enter Try.func11, Try.ntmps11
    unfold fv
    go_wp2_with fail
    go_ret
    exact ⟨rfl, hS0.out⟩
  have Hl2 := Lib.hid (show xs2.length ≤ 1048576 by omega)
  have hll2 := hv2.len
  by_cases hz0 : szI 1048576 xs0 < 0
  · go_enter Try.func11, Try.ntmps11
    unfold fv
    go_wp2_with fail
    refine (szField_c p0 d0 v0 xs0 _ _ (hS0.oldI hv0) (by omega)).mono ?_
    rintro e e0 ⟨rfl, h0⟩
    have hT0 := hS0.call0 h0
    have b0_0_0 := hT0.bcell 0 rfl 0 rfl
    have b0_0_1 := hT0.bcell 0 rfl 1 rfl
    have b0_0_2 := hT0.bcell 0 rfl 2 rfl
    go_wp2_with fail
    go_ret
    exact ⟨rfl, hT0.out⟩
  have hzt0 := szI_top2 (left := 1048576) (xs := xs0) (by omega)
  have hzb0 : 0 ≤ szI 1048576 xs0 ∧ szI 1048576 xs0 ≤ 1048576 := by omega
  have Hz0 := Lib.hid (show xs0.length ≤ 1048576 by omega)
  by_cases hz1 : szII (szI 1048576 xs0) xss1 < 0
  · go_enter Try.func11, Try.ntmps11
    unfold fv
    go_wp2_with fail
    refine (szField_c p0 d0 v0 xs0 _ _ (hS0.oldI hv0) (by omega)).mono ?_
    rintro e e0 ⟨rfl, h0⟩
    have hT0 := hS0.call0 h0
    have b0_0_0 := hT0.bcell 0 rfl 0 rfl
    have b0_0_1 := hT0.bcell 0 rfl 1 rfl
    have b0_0_2 := hT0.bcell 0 rfl 2 rfl
    go_wp2_with fail
    refine (szInt64SS_c v1 us1 xss1 _ _ (hT0.oldII hv1) hzb0).mono ?_
    rintro e e1 ⟨rfl, rfl⟩
    have b1_0_0 := hT0.bcell 0 rfl 0 rfl
    have b1_0_1 := hT0.bcell 0 rfl 1 rfl
    have b1_0_2 := hT0.bcell 0 rfl 2 rfl
    go_wp2_with fail
    go_ret
    exact ⟨rfl, hT0.out⟩
  have hzb1 : 0 ≤ szII (szI 1048576 xs0) xss1 ∧ szII (szI 1048576 xs0) xss1 ≤ 1048576 := by have := szII_top (left := szI 1048576 xs0) (xss := xss1) (by omega); omega
  have hq1 := szII_le (left := szI 1048576 xs0) (xss := xss1) (by omega)
  have Hz1_1 := Lib.hid (show xss1.length ≤ 1048576 by have := hq1.1; omega)
  have Hz2_1 := Lib.hid (show ∀ xs ∈ xss1, xs.length ≤ 1048576 from fun xs hx => by have := hq1.2 xs hx; omega)
  have Ht1 := Lib.hid (show tot xss1 ≤ 1048576 by have := szII_tot (left := szI 1048576 xs0) (xss := xss1) (by omega); omega)
  clear hq1
  have hx0 := Hz0.out
  have hx1 := Ht1.out
  have hx2 := Hl2.out
  have Hb := Lib.hid (len_slvM p0 d0 xs0 xss1 xs2)
  have Hs := fun w v0 v1 us1 v2 (hv0 : RdI w v0 xs0) (hv1 : RII w v1 us1 xss1) (hv2 : RdI w v2 xs2) => Lib.hid (sSolveRow_c p0 d0 v0 xs0 v1 us1 xss1 v2 xs2 w hv0 hv1 hv2)
  have hd0 := wf_le wd0
  have Hi := fun w v0 v1 us1 v2 (hv0 : RdI w v0 xs0) (hv1 : RII w v1 us1 xss1) (hv2 : RdI w v2 xs2) => Lib.hid (SolveRow_c p0 d0 v0 xs0 v1 us1 xss1 v2 xs2 w hv0 hv1 hv2 hd0)
  generalize slvM p0 d0 xs0 xss1 xs2 = R at Hb Hs Hi
  generalize slvC p0 d0 xs0 xss1 xs2 = cc at Hs Hi
  have hcc : (cc != cc) = false := by simp
  have HeR := Lib.hid (show decide (R = R) = true by simp)
  have ht := Hb.out
  have htt : ((1 + (R.length : Int)) != (1 + (R.length : Int))) = false := by simp
  have HeX0 := Lib.hid (show eqF p0 d0 p0 d0 xs0 xs0 = true by simp [eqF])
  have HeX1 := Lib.hid (show decide (xss1 = xss1) = true by simp)
  have HeX2 := Lib.hid (show decide (xs2 = xs2) = true by simp)
  go_enter Try.func11, Try.ntmps11
  unfold fv
  go_wp2_with fail
  refine (szField_c p0 d0 v0 xs0 _ _ (hS0.oldI hv0) (by omega)).mono ?_
  rintro e w1 ⟨rfl, h1⟩
  have hS1 : St w.heap.size w w1 (box 24 w.heap.size [.int .i64 p0, .int .i64 d0, v0] :: ([])) := (hS0.call0 h1).perm (by classical exact List.perm_iff_count.2 (fun a => by simp only [List.cons_append, List.nil_append, List.append_nil, List.count_append, List.count_cons, List.count_nil] <;> omega))
  clear hS0 h1
  have b0_0 := hS1.bcell 0 rfl 0 rfl
  have b0_1 := hS1.bcell 0 rfl 1 rfl
  have b0_2 := hS1.bcell 0 rfl 2 rfl
  go_wp2_with fail
  refine (szInt64SS_c v1 us1 xss1 _ _ (hS1.oldII hv1) hzb0).mono ?_
  rintro e w2 ⟨rfl, rfl⟩
  go_wp2_with fail
  refine (toField_c p0 d0 v0 xs0 _ (hS1.oldI hv0) Hz0.out).mono ?_
  rintro e w3 ⟨t3, rfl, h3⟩
  have hr3 := h3.rdI 0 rfl
  have hS2 : St w.heap.size w w3 (box 24 w.heap.size [.int .i64 p0, .int .i64 d0, v0] :: ([])) := (hS1.call0 h3.out).perm (by classical exact List.perm_iff_count.2 (fun a => by simp only [List.cons_append, List.nil_append, List.append_nil, List.count_append, List.count_cons, List.count_nil] <;> omega))
  clear b0_0 b0_1 b0_2 hS1 h3
  have b0_0 := hS2.bcell 0 rfl 0 rfl
  have b0_1 := hS2.bcell 0 rfl 1 rfl
  have b0_2 := hS2.bcell 0 rfl 2 rfl
  go_wp2_with fail
  refine (toInt64SS_c v1 us1 xss1 _ (hS2.oldII hv1) Hz1_1.out Hz2_1.out).mono ?_
  rintro e w4 ⟨t4, tu4, rfl, hl4, h4⟩
  have hr4 := h4.rii hl4
  have hr3 := hr3.keep h4.below
  have hS3 : St w.heap.size w w4 (box 24 w.heap.size [.int .i64 p0, .int .i64 d0, v0] :: ([])) := (hS2.call0 h4.out).perm (by classical exact List.perm_iff_count.2 (fun a => by simp only [List.cons_append, List.nil_append, List.append_nil, List.count_append, List.count_cons, List.count_nil] <;> omega))
  clear b0_0 b0_1 b0_2 hS2 h4 hl4
  have b0_0 := hS3.bcell 0 rfl 0 rfl
  have b0_1 := hS3.bcell 0 rfl 1 rfl
  have b0_2 := hS3.bcell 0 rfl 2 rfl
  go_wp2_with fail
  refine (toInt64S_c v2 xs2 _ (hS3.oldI hv2) Hl2.out).mono ?_
  rintro e w5 ⟨t5, rfl, h5⟩
  have hr5 := h5.rdI 0 rfl
  have hr3 := hr3.keep h5.below
  have hr4 := hr4.keep h5.below
  have hS4 : St w.heap.size w w5 (box 24 w.heap.size [.int .i64 p0, .int .i64 d0, v0] :: ([])) := (hS3.call0 h5.out).perm (by classical exact List.perm_iff_count.2 (fun a => by simp only [List.cons_append, List.nil_append, List.append_nil, List.count_append, List.count_cons, List.count_nil] <;> omega))
  clear b0_0 b0_1 b0_2 hS3 h5
  have b0_0 := hS4.bcell 0 rfl 0 rfl
  have b0_1 := hS4.bcell 0 rfl 1 rfl
  have b0_2 := hS4.bcell 0 rfl 2 rfl
  go_wp2_with fail
  refine (Hs _ _ _ _ _ hr3 hr4 hr5).out.mono ?_
  rintro e w6 ⟨t6, rfl, h6⟩
  have hS5 : St w.heap.size w w6 (box 24 w.heap.size [.int .i64 p0, .int .i64 d0, v0] :: ([row 2 t6 (iv R)] ++ [])) := (hS4.call h6).perm (by classical exact List.perm_iff_count.2 (fun a => by simp only [List.cons_append, List.nil_append, List.append_nil, List.count_append, List.count_cons, List.count_nil] <;> omega))
  clear b0_0 b0_1 b0_2 hS4 h6 hr3 hr4 hr5
  have b0_0 := hS5.bcell 0 rfl 0 rfl
  have b0_1 := hS5.bcell 0 rfl 1 rfl
  have b0_2 := hS5.bcell 0 rfl 2 rfl
  go_wp2_with fail
  refine (toField_c p0 d0 v0 xs0 _ (hS5.oldI hv0) Hz0.out).mono ?_
  rintro e w7 ⟨t7, rfl, h7⟩
  obtain ⟨a7, c7, rfl⟩ := (h7.rdI 0 rfl).shp'
  unfold fv
  have hS6 : St w.heap.size w _ (box 29 w7.heap.size [.int .i64 p0, .int .i64 d0, .slice a7 xs0.length c7] :: box 24 w.heap.size [.int .i64 p0, .int .i64 d0, v0] :: ([row 2 (.slice a7 xs0.length c7) (iv xs0)] ++ [row 2 t6 (iv R)] ++ [])) := ((hS5.call h7).newboxF 29 #[.int .i64 p0, .int .i64 d0, .slice a7 xs0.length c7]).perm (by classical exact List.perm_iff_count.2 (fun a => by simp only [List.cons_append, List.nil_append, List.append_nil, List.count_append, List.count_cons, List.count_nil] <;> omega))
  clear b0_0 b0_1 b0_2 hS5 h7
  have b0_0 := hS6.bcell 0 rfl 0 rfl
  have b0_1 := hS6.bcell 0 rfl 1 rfl
  have b0_2 := hS6.bcell 0 rfl 2 rfl
  have b1_0 := hS6.bcell 1 rfl 0 rfl
  have b1_1 := hS6.bcell 1 rfl 1 rfl
  have b1_2 := hS6.bcell 1 rfl 2 rfl
  go_wp2_with fail
  refine (toInt64SS_c v1 us1 xss1 _ (hS6.oldII hv1) Hz1_1.out Hz2_1.out).mono ?_
  rintro e w8 ⟨t8, tu8, rfl, hl8, h8⟩
  have Hl_x1 := Lib.hid hl8
  have hS7 : St w.heap.size w w8 (box 29 w7.heap.size [.int .i64 p0, .int .i64 d0, .slice a7 xs0.length c7] :: box 24 w.heap.size [.int .i64 p0, .int .i64 d0, v0] :: (own2 t8 tu8 xss1 ++ [row 2 (.slice a7 xs0.length c7) (iv xs0)] ++ [row 2 t6 (iv R)] ++ [])) := (hS6.call h8).perm (by classical exact List.perm_iff_count.2 (fun a => by simp only [List.cons_append, List.nil_append, List.append_nil, List.count_append, List.count_cons, List.count_nil] <;> omega))
  clear b0_0 b0_1 b0_2 b1_0 b1_1 b1_2 hS6 h8 hl8
  have b0_0 := hS7.bcell 0 rfl 0 rfl
  have b0_1 := hS7.bcell 0 rfl 1 rfl
  have b0_2 := hS7.bcell 0 rfl 2 rfl
  have b1_0 := hS7.bcell 1 rfl 0 rfl
  have b1_1 := hS7.bcell 1 rfl 1 rfl
  have b1_2 := hS7.bcell 1 rfl 2 rfl
  go_wp2_with fail
  refine (toInt64S_c v2 xs2 _ (hS7.oldI hv2) Hl2.out).mono ?_
  rintro e w9 ⟨t9, rfl, h9⟩
  have hS8 : St w.heap.size w w9 (box 29 w7.heap.size [.int .i64 p0, .int .i64 d0, .slice a7 xs0.length c7] :: box 24 w.heap.size [.int .i64 p0, .int .i64 d0, v0] :: ([row 2 t9 (iv xs2)] ++ own2 t8 tu8 xss1 ++ [row 2 (.slice a7 xs0.length c7) (iv xs0)] ++ [row 2 t6 (iv R)] ++ [])) := (hS7.call h9).perm (by classical exact List.perm_iff_count.2 (fun a => by simp only [List.cons_append, List.nil_append, List.append_nil, List.count_append, List.count_cons, List.count_nil] <;> omega))
  clear b0_0 b0_1 b0_2 b1_0 b1_1 b1_2 hS7 h9
  have b0_0 := hS8.bcell 0 rfl 0 rfl
  have b0_1 := hS8.bcell 0 rfl 1 rfl
  have b0_2 := hS8.bcell 0 rfl 2 rfl
  have b1_0 := hS8.bcell 1 rfl 0 rfl
  have b1_1 := hS8.bcell 1 rfl 1 rfl
  have b1_2 := hS8.bcell 1 rfl 2 rfl
  go_wp2_with fail
  refine (Hi _ _ _ _ _ (St.rdI (hS8.perm (L' := [row 2 (.slice a7 xs0.length c7) (iv xs0)] ++ (box 29 w7.heap.size [.int .i64 p0, .int .i64 d0, .slice a7 xs0.length c7] :: box 24 w.heap.size [.int .i64 p0, .int .i64 d0, v0] :: ([row 2 t9 (iv xs2)] ++ own2 t8 tu8 xss1 ++ [row 2 t6 (iv R)] ++ []))) (by classical exact List.perm_iff_count.2 (fun a => by simp only [List.cons_append, List.nil_append, List.append_nil, List.count_append, List.count_cons, List.count_nil] <;> omega))) 0 rfl) (rii2 (hS8.perm (L' := own2 t8 tu8 xss1 ++ (box 29 w7.heap.size [.int .i64 p0, .int .i64 d0, .slice a7 xs0.length c7] :: box 24 w.heap.size [.int .i64 p0, .int .i64 d0, v0] :: ([row 2 t9 (iv xs2)] ++ [row 2 (.slice a7 xs0.length c7) (iv xs0)] ++ [row 2 t6 (iv R)] ++ []))) (by classical exact List.perm_iff_count.2 (fun a => by simp only [List.cons_append, List.nil_append, List.append_nil, List.count_append, List.count_cons, List.count_nil] <;> omega))) Hl_x1.out) (St.rdI (hS8.perm (L' := [row 2 t9 (iv xs2)] ++ (box 29 w7.heap.size [.int .i64 p0, .int .i64 d0, .slice a7 xs0.length c7] :: box 24 w.heap.size [.int .i64 p0, .int .i64 d0, v0] :: (own2 t8 tu8 xss1 ++ [row 2 (.slice a7 xs0.length c7) (iv xs0)] ++ [row 2 t6 (iv R)] ++ []))) (by classical exact List.perm_iff_count.2 (fun a => by simp only [List.cons_append, List.nil_append, List.append_nil, List.count_append, List.count_cons, List.count_nil] <;> omega))) 0 rfl)).out.mono ?_
  rintro e w10 ⟨t10, rfl, h10⟩
  have hS9 : St w.heap.size w w10 (box 29 w7.heap.size [.int .i64 p0, .int .i64 d0, .slice a7 xs0.length c7] :: box 24 w.heap.size [.int .i64 p0, .int .i64 d0, v0] :: ([row 2 t10 (iv R)] ++ [row 2 t9 (iv xs2)] ++ own2 t8 tu8 xss1 ++ [row 2 (.slice a7 xs0.length c7) (iv xs0)] ++ [row 2 t6 (iv R)] ++ [])) := (hS8.call h10).perm (by classical exact List.perm_iff_count.2 (fun a => by simp only [List.cons_append, List.nil_append, List.append_nil, List.count_append, List.count_cons, List.count_nil] <;> omega))
  clear b0_0 b0_1 b0_2 b1_0 b1_1 b1_2 hS8 h10
  have b0_0 := hS9.bcell 0 rfl 0 rfl
  have b0_1 := hS9.bcell 0 rfl 1 rfl
  have b0_2 := hS9.bcell 0 rfl 2 rfl
  have b1_0 := hS9.bcell 1 rfl 0 rfl
  have b1_1 := hS9.bcell 1 rfl 1 rfl
  have b1_2 := hS9.bcell 1 rfl 2 rfl
  go_wp2_with fail
  refine (eqInt64S_c _ _ R R _ (St.rdI (hS9.perm (L' := [row 2 t10 (iv R)] ++ (box 29 w7.heap.size [.int .i64 p0, .int .i64 d0, .slice a7 xs0.length c7] :: box 24 w.heap.size [.int .i64 p0, .int .i64 d0, v0] :: ([row 2 t9 (iv xs2)] ++ own2 t8 tu8 xss1 ++ [row 2 (.slice a7 xs0.length c7) (iv xs0)] ++ [row 2 t6 (iv R)] ++ []))) (by classical exact List.perm_iff_count.2 (fun a => by simp only [List.cons_append, List.nil_append, List.append_nil, List.count_append, List.count_cons, List.count_nil] <;> omega))) 0 rfl) (St.rdI (hS9.perm (L' := [row 2 t6 (iv R)] ++ (box 29 w7.heap.size [.int .i64 p0, .int .i64 d0, .slice a7 xs0.length c7] :: box 24 w.heap.size [.int .i64 p0, .int .i64 d0, v0] :: ([row 2 t10 (iv R)] ++ [row 2 t9 (iv xs2)] ++ own2 t8 tu8 xss1 ++ [row 2 (.slice a7 xs0.length c7) (iv xs0)] ++ []))) (by classical exact List.perm_iff_count.2 (fun a => by simp only [List.cons_append, List.nil_append, List.append_nil, List.count_append, List.count_cons, List.count_nil] <;> omega))) 0 rfl)).mono ?_
  rw [show decide (R = R) = true from decide_eq_true rfl]
  rintro e w11 ⟨rfl, h11⟩
  have hS10 : St w.heap.size w w11 (box 29 w7.heap.size [.int .i64 p0, .int .i64 d0, .slice a7 xs0.length c7] :: box 24 w.heap.size [.int .i64 p0, .int .i64 d0, v0] :: ([row 2 t10 (iv R)] ++ [row 2 t9 (iv xs2)] ++ own2 t8 tu8 xss1 ++ [row 2 (.slice a7 xs0.length c7) (iv xs0)] ++ [row 2 t6 (iv R)] ++ [])) := (hS9.call0 h11).perm (by classical exact List.perm_iff_count.2 (fun a => by simp only [List.cons_append, List.nil_append, List.append_nil, List.count_append, List.count_cons, List.count_nil] <;> omega))
  clear b0_0 b0_1 b0_2 b1_0 b1_1 b1_2 hS9 h11
  have b0_0 := hS10.bcell 0 rfl 0 rfl
  have b0_1 := hS10.bcell 0 rfl 1 rfl
  have b0_2 := hS10.bcell 0 rfl 2 rfl
  have b1_0 := hS10.bcell 1 rfl 0 rfl
  have b1_1 := hS10.bcell 1 rfl 1 rfl
  have b1_2 := hS10.bcell 1 rfl 2 rfl
  go_wp2_with fail
  have hrx0 := (St.rdI (hS10.perm (L' := [row 2 (.slice a7 xs0.length c7) (iv xs0)] ++ (box 29 w7.heap.size [.int .i64 p0, .int .i64 d0, .slice a7 xs0.length c7] :: box 24 w.heap.size [.int .i64 p0, .int .i64 d0, v0] :: ([row 2 t10 (iv R)] ++ [row 2 t9 (iv xs2)] ++ own2 t8 tu8 xss1 ++ [row 2 t6 (iv R)] ++ []))) (by classical exact List.perm_iff_count.2 (fun a => by simp only [List.cons_append, List.nil_append, List.append_nil, List.count_append, List.count_cons, List.count_nil] <;> omega))) 0 rfl)
  go_region_held3 (fun w' => w'.cell? ⟨w7.heap.size, 0, none⟩ = some (.int .i64 p0) ∧ w'.cell? ⟨w7.heap.size, 1, none⟩ = some (.int .i64 d0) ∧ w'.cell? ⟨w7.heap.size, 2, none⟩ = some (.slice a7 xs0.length c7) ∧ w'.cell? ⟨w.heap.size, 0, none⟩ = some (.int .i64 p0) ∧ w'.cell? ⟨w.heap.size, 1, none⟩ = some (.int .i64 d0) ∧ w'.cell? ⟨w.heap.size, 2, none⟩ = some (v0)) (go_keep)
    (first
    | (go_at_call 19; refine (toField_c p0 d0 v0 xs0 _ (hS10.drew.oldI hv0) Hz0.out).mono ?_; rintro e w12 ⟨t12, rfl, h12⟩; have hr12 := h12.rdI 0 rfl; have hU12 := hS10.drew.call0 h12.out; have fw12_0_0 := hU12.bcell 0 rfl 0 rfl; have fw12_0_1 := hU12.bcell 0 rfl 1 rfl; have fw12_0_2 := hU12.bcell 0 rfl 2 rfl; have fw12_1_0 := hU12.bcell 1 rfl 0 rfl; have fw12_1_1 := hU12.bcell 1 rfl 1 rfl; have fw12_1_2 := hU12.bcell 1 rfl 2 rfl)
    | (go_at_call 22; refine (eqField_c p0 d0 p0 d0 _ _ xs0 xs0 _ ((hrx0.keep (St.refl _).drew.below).keep h12.below) hr12).mono ?_; rw [HeX0.out]; rintro e w13 ⟨rfl, h13⟩; have hU13 := hU12.call0 h13; have fw13_0_0 := hU13.bcell 0 rfl 0 rfl; have fw13_0_1 := hU13.bcell 0 rfl 1 rfl; have fw13_0_2 := hU13.bcell 0 rfl 2 rfl; have fw13_1_0 := hU13.bcell 1 rfl 0 rfl; have fw13_1_1 := hU13.bcell 1 rfl 1 rfl; have fw13_1_2 := hU13.bcell 1 rfl 2 rfl))
  have hS11 : St w.heap.size w w13 (box 29 w7.heap.size [.int .i64 p0, .int .i64 d0, .slice a7 xs0.length c7] :: box 24 w.heap.size [.int .i64 p0, .int .i64 d0, v0] :: ([row 2 t10 (iv R)] ++ [row 2 t9 (iv xs2)] ++ own2 t8 tu8 xss1 ++ [row 2 (.slice a7 xs0.length c7) (iv xs0)] ++ [row 2 t6 (iv R)] ++ [])) := (hU13).perm (by classical exact List.perm_iff_count.2 (fun a => by simp only [List.cons_append, List.nil_append, List.append_nil, List.count_append, List.count_cons, List.count_nil] <;> omega))
  clear b0_0 b0_1 b0_2 b1_0 b1_1 b1_2 hS10 hU12 hU13 h12 h13 hr12 hrx0 fw12_0_0 fw12_0_1 fw12_0_2 fw12_1_0 fw12_1_1 fw12_1_2 fw13_0_0 fw13_0_1 fw13_0_2 fw13_1_0 fw13_1_1 fw13_1_2
  have b0_0 := hS11.bcell 0 rfl 0 rfl
  have b0_1 := hS11.bcell 0 rfl 1 rfl
  have b0_2 := hS11.bcell 0 rfl 2 rfl
  have b1_0 := hS11.bcell 1 rfl 0 rfl
  have b1_1 := hS11.bcell 1 rfl 1 rfl
  have b1_2 := hS11.bcell 1 rfl 2 rfl
  go_wp2_with fail
  have hrx1 := (rii2 (hS11.perm (L' := own2 t8 tu8 xss1 ++ (box 29 w7.heap.size [.int .i64 p0, .int .i64 d0, .slice a7 xs0.length c7] :: box 24 w.heap.size [.int .i64 p0, .int .i64 d0, v0] :: ([row 2 t10 (iv R)] ++ [row 2 t9 (iv xs2)] ++ [row 2 (.slice a7 xs0.length c7) (iv xs0)] ++ [row 2 t6 (iv R)] ++ []))) (by classical exact List.perm_iff_count.2 (fun a => by simp only [List.cons_append, List.nil_append, List.append_nil, List.count_append, List.count_cons, List.count_nil] <;> omega))) Hl_x1.out)
  refine (toInt64SS_c v1 us1 xss1 _ (hS11.oldII hv1) Hz1_1.out Hz2_1.out).mono ?_
  rintro e w14 ⟨t14, tu14, rfl, hl14, h14⟩
  have hr14 := h14.rii hl14
  have hrx1 := hrx1.keep h14.below
  have hS12 : St w.heap.size w w14 (box 29 w7.heap.size [.int .i64 p0, .int .i64 d0, .slice a7 xs0.length c7] :: box 24 w.heap.size [.int .i64 p0, .int .i64 d0, v0] :: ([row 2 t10 (iv R)] ++ [row 2 t9 (iv xs2)] ++ own2 t8 tu8 xss1 ++ [row 2 (.slice a7 xs0.length c7) (iv xs0)] ++ [row 2 t6 (iv R)] ++ [])) := (hS11.call0 h14.out).perm (by classical exact List.perm_iff_count.2 (fun a => by simp only [List.cons_append, List.nil_append, List.append_nil, List.count_append, List.count_cons, List.count_nil] <;> omega))
  clear b0_0 b0_1 b0_2 b1_0 b1_1 b1_2 hS11 h14 hl14
  have b0_0 := hS12.bcell 0 rfl 0 rfl
  have b0_1 := hS12.bcell 0 rfl 1 rfl
  have b0_2 := hS12.bcell 0 rfl 2 rfl
  have b1_0 := hS12.bcell 1 rfl 0 rfl
  have b1_1 := hS12.bcell 1 rfl 1 rfl
  have b1_2 := hS12.bcell 1 rfl 2 rfl
  go_wp2_with fail
  refine (eqInt64SS_c _ _ tu8 tu14 xss1 xss1 _ hrx1 hr14).mono ?_
  rw [show decide (xss1 = xss1) = true from decide_eq_true rfl]
  rintro e w15 ⟨rfl, h15⟩
  have hS13 : St w.heap.size w w15 (box 29 w7.heap.size [.int .i64 p0, .int .i64 d0, .slice a7 xs0.length c7] :: box 24 w.heap.size [.int .i64 p0, .int .i64 d0, v0] :: ([row 2 t10 (iv R)] ++ [row 2 t9 (iv xs2)] ++ own2 t8 tu8 xss1 ++ [row 2 (.slice a7 xs0.length c7) (iv xs0)] ++ [row 2 t6 (iv R)] ++ [])) := (hS12.call0 h15).perm (by classical exact List.perm_iff_count.2 (fun a => by simp only [List.cons_append, List.nil_append, List.append_nil, List.count_append, List.count_cons, List.count_nil] <;> omega))
  clear b0_0 b0_1 b0_2 b1_0 b1_1 b1_2 hS12 h15 hr14 hrx1
  have b0_0 := hS13.bcell 0 rfl 0 rfl
  have b0_1 := hS13.bcell 0 rfl 1 rfl
  have b0_2 := hS13.bcell 0 rfl 2 rfl
  have b1_0 := hS13.bcell 1 rfl 0 rfl
  have b1_1 := hS13.bcell 1 rfl 1 rfl
  have b1_2 := hS13.bcell 1 rfl 2 rfl
  go_wp2_with fail
  have hrx2 := (St.rdI (hS13.perm (L' := [row 2 t9 (iv xs2)] ++ (box 29 w7.heap.size [.int .i64 p0, .int .i64 d0, .slice a7 xs0.length c7] :: box 24 w.heap.size [.int .i64 p0, .int .i64 d0, v0] :: ([row 2 t10 (iv R)] ++ own2 t8 tu8 xss1 ++ [row 2 (.slice a7 xs0.length c7) (iv xs0)] ++ [row 2 t6 (iv R)] ++ []))) (by classical exact List.perm_iff_count.2 (fun a => by simp only [List.cons_append, List.nil_append, List.append_nil, List.count_append, List.count_cons, List.count_nil] <;> omega))) 0 rfl)
  refine (toInt64S_c v2 xs2 _ (hS13.oldI hv2) Hl2.out).mono ?_
  rintro e w16 ⟨t16, rfl, h16⟩
  have hr16 := h16.rdI 0 rfl
  have hrx2 := hrx2.keep h16.below
  have hS14 : St w.heap.size w w16 (box 29 w7.heap.size [.int .i64 p0, .int .i64 d0, .slice a7 xs0.length c7] :: box 24 w.heap.size [.int .i64 p0, .int .i64 d0, v0] :: ([row 2 t10 (iv R)] ++ [row 2 t9 (iv xs2)] ++ own2 t8 tu8 xss1 ++ [row 2 (.slice a7 xs0.length c7) (iv xs0)] ++ [row 2 t6 (iv R)] ++ [])) := (hS13.call0 h16.out).perm (by classical exact List.perm_iff_count.2 (fun a => by simp only [List.cons_append, List.nil_append, List.append_nil, List.count_append, List.count_cons, List.count_nil] <;> omega))
  clear b0_0 b0_1 b0_2 b1_0 b1_1 b1_2 hS13 h16
  have b0_0 := hS14.bcell 0 rfl 0 rfl
  have b0_1 := hS14.bcell 0 rfl 1 rfl
  have b0_2 := hS14.bcell 0 rfl 2 rfl
  have b1_0 := hS14.bcell 1 rfl 0 rfl
  have b1_1 := hS14.bcell 1 rfl 1 rfl
  have b1_2 := hS14.bcell 1 rfl 2 rfl
  go_wp2_with fail
  refine (eqInt64S_c _ _ xs2 xs2 _ hrx2 hr16).mono ?_
  rw [show decide (xs2 = xs2) = true from decide_eq_true rfl]
  rintro e w17 ⟨rfl, h17⟩
  have hS15 : St w.heap.size w w17 (box 29 w7.heap.size [.int .i64 p0, .int .i64 d0, .slice a7 xs0.length c7] :: box 24 w.heap.size [.int .i64 p0, .int .i64 d0, v0] :: ([row 2 t10 (iv R)] ++ [row 2 t9 (iv xs2)] ++ own2 t8 tu8 xss1 ++ [row 2 (.slice a7 xs0.length c7) (iv xs0)] ++ [row 2 t6 (iv R)] ++ [])) := (hS14.call0 h17).perm (by classical exact List.perm_iff_count.2 (fun a => by simp only [List.cons_append, List.nil_append, List.append_nil, List.count_append, List.count_cons, List.count_nil] <;> omega))
  clear b0_0 b0_1 b0_2 b1_0 b1_1 b1_2 hS14 h17 hr16 hrx2
  have b0_0 := hS15.bcell 0 rfl 0 rfl
  have b0_1 := hS15.bcell 0 rfl 1 rfl
  have b0_2 := hS15.bcell 0 rfl 2 rfl
  have b1_0 := hS15.bcell 1 rfl 0 rfl
  have b1_1 := hS15.bcell 1 rfl 1 rfl
  have b1_2 := hS15.bcell 1 rfl 2 rfl
  go_wp2_with fail
  refine (markField_c p0 d0 _ xs0 1 (by omega) (by omega) (hS15.perm (L' := [row 2 (.slice a7 xs0.length c7) (iv xs0)] ++ (box 29 w7.heap.size [.int .i64 p0, .int .i64 d0, .slice a7 xs0.length c7] :: box 24 w.heap.size [.int .i64 p0, .int .i64 d0, v0] :: ([row 2 t10 (iv R)] ++ [row 2 t9 (iv xs2)] ++ own2 t8 tu8 xss1 ++ [row 2 t6 (iv R)] ++ []))) (by classical exact List.perm_iff_count.2 (fun a => by simp only [List.cons_append, List.nil_append, List.append_nil, List.count_append, List.count_cons, List.count_nil] <;> omega)))).mono ?_
  rintro e w18 ⟨rfl, hm18⟩
  have hS16 : St w.heap.size w w18 (box 29 w7.heap.size [.int .i64 p0, .int .i64 d0, .slice a7 xs0.length c7] :: box 24 w.heap.size [.int .i64 p0, .int .i64 d0, v0] :: ([row 2 t10 (iv R)] ++ [row 2 t9 (iv xs2)] ++ own2 t8 tu8 xss1 ++ [row 2 (.slice a7 xs0.length c7) (iv (mrk 1 xs0.length))] ++ [row 2 t6 (iv R)] ++ [])) := (hm18).perm (by classical exact List.perm_iff_count.2 (fun a => by simp only [List.cons_append, List.nil_append, List.append_nil, List.count_append, List.count_cons, List.count_nil] <;> omega))
  clear b0_0 b0_1 b0_2 b1_0 b1_1 b1_2 hS15 hm18
  have b0_0 := hS16.bcell 0 rfl 0 rfl
  have b0_1 := hS16.bcell 0 rfl 1 rfl
  have b0_2 := hS16.bcell 0 rfl 2 rfl
  have b1_0 := hS16.bcell 1 rfl 0 rfl
  have b1_1 := hS16.bcell 1 rfl 1 rfl
  have b1_2 := hS16.bcell 1 rfl 2 rfl
  go_wp2_with fail
  refine (markInt64SS_c _ tu8 xss1 (1 + xs0.length) (by omega) (by omega) Hl_x1.out (hS16.perm (L' := own2 t8 tu8 xss1 ++ (box 29 w7.heap.size [.int .i64 p0, .int .i64 d0, .slice a7 xs0.length c7] :: box 24 w.heap.size [.int .i64 p0, .int .i64 d0, v0] :: ([row 2 t10 (iv R)] ++ [row 2 t9 (iv xs2)] ++ [row 2 (.slice a7 xs0.length c7) (iv (mrk 1 xs0.length))] ++ [row 2 t6 (iv R)] ++ []))) (by classical exact List.perm_iff_count.2 (fun a => by simp only [List.cons_append, List.nil_append, List.append_nil, List.count_append, List.count_cons, List.count_nil] <;> omega)))).mono ?_
  rintro e w19 ⟨rfl, hm19⟩
  have hS17 : St w.heap.size w w19 (box 29 w7.heap.size [.int .i64 p0, .int .i64 d0, .slice a7 xs0.length c7] :: box 24 w.heap.size [.int .i64 p0, .int .i64 d0, v0] :: ([row 2 t10 (iv R)] ++ [row 2 t9 (iv xs2)] ++ own2 t8 tu8 (mrkL (1 + xs0.length) xss1) ++ [row 2 (.slice a7 xs0.length c7) (iv (mrk 1 xs0.length))] ++ [row 2 t6 (iv R)] ++ [])) := (hm19).perm (by classical exact List.perm_iff_count.2 (fun a => by simp only [List.cons_append, List.nil_append, List.append_nil, List.count_append, List.count_cons, List.count_nil] <;> omega))
  clear b0_0 b0_1 b0_2 b1_0 b1_1 b1_2 hS16 hm19
  have b0_0 := hS17.bcell 0 rfl 0 rfl
  have b0_1 := hS17.bcell 0 rfl 1 rfl
  have b0_2 := hS17.bcell 0 rfl 2 rfl
  have b1_0 := hS17.bcell 1 rfl 0 rfl
  have b1_1 := hS17.bcell 1 rfl 1 rfl
  have b1_2 := hS17.bcell 1 rfl 2 rfl
  go_wp2_with fail
  refine (markL_c _ xs2 (1 + xs0.length + tot xss1) (by omega) (by omega) (hS17.perm (L' := [row 2 t9 (iv xs2)] ++ (box 29 w7.heap.size [.int .i64 p0, .int .i64 d0, .slice a7 xs0.length c7] :: box 24 w.heap.size [.int .i64 p0, .int .i64 d0, v0] :: ([row 2 t10 (iv R)] ++ own2 t8 tu8 (mrkL (1 + xs0.length) xss1) ++ [row 2 (.slice a7 xs0.length c7) (iv (mrk 1 xs0.length))] ++ [row 2 t6 (iv R)] ++ []))) (by classical exact List.perm_iff_count.2 (fun a => by simp only [List.cons_append, List.nil_append, List.append_nil, List.count_append, List.count_cons, List.count_nil] <;> omega)))).mono ?_
  rintro e w20 ⟨rfl, hm20⟩
  have hS18 : St w.heap.size w w20 (box 29 w7.heap.size [.int .i64 p0, .int .i64 d0, .slice a7 xs0.length c7] :: box 24 w.heap.size [.int .i64 p0, .int .i64 d0, v0] :: ([row 2 t10 (iv R)] ++ [row 2 t9 (iv (mrk (1 + xs0.length + tot xss1) xs2.length))] ++ own2 t8 tu8 (mrkL (1 + xs0.length) xss1) ++ [row 2 (.slice a7 xs0.length c7) (iv (mrk 1 xs0.length))] ++ [row 2 t6 (iv R)] ++ [])) := (hm20).perm (by classical exact List.perm_iff_count.2 (fun a => by simp only [List.cons_append, List.nil_append, List.append_nil, List.count_append, List.count_cons, List.count_nil] <;> omega))
  clear b0_0 b0_1 b0_2 b1_0 b1_1 b1_2 hS17 hm20
  have b0_0 := hS18.bcell 0 rfl 0 rfl
  have b0_1 := hS18.bcell 0 rfl 1 rfl
  have b0_2 := hS18.bcell 0 rfl 2 rfl
  have b1_0 := hS18.bcell 1 rfl 0 rfl
  have b1_1 := hS18.bcell 1 rfl 1 rfl
  have b1_2 := hS18.bcell 1 rfl 2 rfl
  go_wp2_with fail
  refine (eqInt64S_c _ _ R R _ (St.rdI (hS18.perm (L' := [row 2 t10 (iv R)] ++ (box 29 w7.heap.size [.int .i64 p0, .int .i64 d0, .slice a7 xs0.length c7] :: box 24 w.heap.size [.int .i64 p0, .int .i64 d0, v0] :: ([row 2 t9 (iv (mrk (1 + xs0.length + tot xss1) xs2.length))] ++ own2 t8 tu8 (mrkL (1 + xs0.length) xss1) ++ [row 2 (.slice a7 xs0.length c7) (iv (mrk 1 xs0.length))] ++ [row 2 t6 (iv R)] ++ []))) (by classical exact List.perm_iff_count.2 (fun a => by simp only [List.cons_append, List.nil_append, List.append_nil, List.count_append, List.count_cons, List.count_nil] <;> omega))) 0 rfl) (St.rdI (hS18.perm (L' := [row 2 t6 (iv R)] ++ (box 29 w7.heap.size [.int .i64 p0, .int .i64 d0, .slice a7 xs0.length c7] :: box 24 w.heap.size [.int .i64 p0, .int .i64 d0, v0] :: ([row 2 t10 (iv R)] ++ [row 2 t9 (iv (mrk (1 + xs0.length + tot xss1) xs2.length))] ++ own2 t8 tu8 (mrkL (1 + xs0.length) xss1) ++ [row 2 (.slice a7 xs0.length c7) (iv (mrk 1 xs0.length))] ++ []))) (by classical exact List.perm_iff_count.2 (fun a => by simp only [List.cons_append, List.nil_append, List.append_nil, List.count_append, List.count_cons, List.count_nil] <;> omega))) 0 rfl)).mono ?_
  rw [show decide (R = R) = true from decide_eq_true rfl]
  rintro e w21 ⟨rfl, h21⟩
  have hS19 : St w.heap.size w w21 (box 29 w7.heap.size [.int .i64 p0, .int .i64 d0, .slice a7 xs0.length c7] :: box 24 w.heap.size [.int .i64 p0, .int .i64 d0, v0] :: ([row 2 t10 (iv R)] ++ [row 2 t9 (iv (mrk (1 + xs0.length + tot xss1) xs2.length))] ++ own2 t8 tu8 (mrkL (1 + xs0.length) xss1) ++ [row 2 (.slice a7 xs0.length c7) (iv (mrk 1 xs0.length))] ++ [row 2 t6 (iv R)] ++ [])) := (hS18.call0 h21).perm (by classical exact List.perm_iff_count.2 (fun a => by simp only [List.cons_append, List.nil_append, List.append_nil, List.count_append, List.count_cons, List.count_nil] <;> omega))
  clear b0_0 b0_1 b0_2 b1_0 b1_1 b1_2 hS18 h21
  have b0_0 := hS19.bcell 0 rfl 0 rfl
  have b0_1 := hS19.bcell 0 rfl 1 rfl
  have b0_2 := hS19.bcell 0 rfl 2 rfl
  have b1_0 := hS19.bcell 1 rfl 0 rfl
  have b1_1 := hS19.bcell 1 rfl 1 rfl
  have b1_2 := hS19.bcell 1 rfl 2 rfl
  go_wp2_with fail
  refine (markL_c _ R 1 (by omega) (by omega) (hS19.perm (L' := [row 2 t10 (iv R)] ++ (box 29 w7.heap.size [.int .i64 p0, .int .i64 d0, .slice a7 xs0.length c7] :: box 24 w.heap.size [.int .i64 p0, .int .i64 d0, v0] :: ([row 2 t9 (iv (mrk (1 + xs0.length + tot xss1) xs2.length))] ++ own2 t8 tu8 (mrkL (1 + xs0.length) xss1) ++ [row 2 (.slice a7 xs0.length c7) (iv (mrk 1 xs0.length))] ++ [row 2 t6 (iv R)] ++ []))) (by classical exact List.perm_iff_count.2 (fun a => by simp only [List.cons_append, List.nil_append, List.append_nil, List.count_append, List.count_cons, List.count_nil] <;> omega)))).mono ?_
  rintro e w22 ⟨rfl, hm22⟩
  have hS20 : St w.heap.size w w22 (box 29 w7.heap.size [.int .i64 p0, .int .i64 d0, .slice a7 xs0.length c7] :: box 24 w.heap.size [.int .i64 p0, .int .i64 d0, v0] :: ([row 2 t10 (iv (mrk 1 R.length))] ++ [row 2 t9 (iv (mrk (1 + xs0.length + tot xss1) xs2.length))] ++ own2 t8 tu8 (mrkL (1 + xs0.length) xss1) ++ [row 2 (.slice a7 xs0.length c7) (iv (mrk 1 xs0.length))] ++ [row 2 t6 (iv R)] ++ [])) := (hm22).perm (by classical exact List.perm_iff_count.2 (fun a => by simp only [List.cons_append, List.nil_append, List.append_nil, List.count_append, List.count_cons, List.count_nil] <;> omega))
  clear b0_0 b0_1 b0_2 b1_0 b1_1 b1_2 hS19 hm22
  have b0_0 := hS20.bcell 0 rfl 0 rfl
  have b0_1 := hS20.bcell 0 rfl 1 rfl
  have b0_2 := hS20.bcell 0 rfl 2 rfl
  have b1_0 := hS20.bcell 1 rfl 0 rfl
  have b1_1 := hS20.bcell 1 rfl 1 rfl
  have b1_2 := hS20.bcell 1 rfl 2 rfl
  go_wp2_with fail
  refine (heldInt64S_c _ R.length 1 _ (by omega) (by omega) (St.rdI (hS20.perm (L' := [row 2 t10 (iv (mrk 1 R.length))] ++ (box 29 w7.heap.size [.int .i64 p0, .int .i64 d0, .slice a7 xs0.length c7] :: box 24 w.heap.size [.int .i64 p0, .int .i64 d0, v0] :: ([row 2 t9 (iv (mrk (1 + xs0.length + tot xss1) xs2.length))] ++ own2 t8 tu8 (mrkL (1 + xs0.length) xss1) ++ [row 2 (.slice a7 xs0.length c7) (iv (mrk 1 xs0.length))] ++ [row 2 t6 (iv R)] ++ []))) (by classical exact List.perm_iff_count.2 (fun a => by simp only [List.cons_append, List.nil_append, List.append_nil, List.count_append, List.count_cons, List.count_nil] <;> omega))) 0 rfl)).mono ?_
  rintro e w23 ⟨rfl, rfl⟩
  go_wp2_with fail
  refine (toField_c p0 d0 v0 xs0 _ (hS20.oldI hv0) Hz0.out).mono ?_
  rintro e w24 ⟨t24, rfl, h24⟩
  have hr24 := h24.rdI 0 rfl
  have hS21 : St w.heap.size w w24 (box 29 w7.heap.size [.int .i64 p0, .int .i64 d0, .slice a7 xs0.length c7] :: box 24 w.heap.size [.int .i64 p0, .int .i64 d0, v0] :: ([row 2 t10 (iv (mrk 1 R.length))] ++ [row 2 t9 (iv (mrk (1 + xs0.length + tot xss1) xs2.length))] ++ own2 t8 tu8 (mrkL (1 + xs0.length) xss1) ++ [row 2 (.slice a7 xs0.length c7) (iv (mrk 1 xs0.length))] ++ [row 2 t6 (iv R)] ++ [])) := (hS20.call0 h24.out).perm (by classical exact List.perm_iff_count.2 (fun a => by simp only [List.cons_append, List.nil_append, List.append_nil, List.count_append, List.count_cons, List.count_nil] <;> omega))
  clear b0_0 b0_1 b0_2 b1_0 b1_1 b1_2 hS20 h24
  have b0_0 := hS21.bcell 0 rfl 0 rfl
  have b0_1 := hS21.bcell 0 rfl 1 rfl
  have b0_2 := hS21.bcell 0 rfl 2 rfl
  have b1_0 := hS21.bcell 1 rfl 0 rfl
  have b1_1 := hS21.bcell 1 rfl 1 rfl
  have b1_2 := hS21.bcell 1 rfl 2 rfl
  go_wp2_with fail
  refine (toInt64SS_c v1 us1 xss1 _ (hS21.oldII hv1) Hz1_1.out Hz2_1.out).mono ?_
  rintro e w25 ⟨t25, tu25, rfl, hl25, h25⟩
  have hr25 := h25.rii hl25
  have hr24 := hr24.keep h25.below
  have hS22 : St w.heap.size w w25 (box 29 w7.heap.size [.int .i64 p0, .int .i64 d0, .slice a7 xs0.length c7] :: box 24 w.heap.size [.int .i64 p0, .int .i64 d0, v0] :: ([row 2 t10 (iv (mrk 1 R.length))] ++ [row 2 t9 (iv (mrk (1 + xs0.length + tot xss1) xs2.length))] ++ own2 t8 tu8 (mrkL (1 + xs0.length) xss1) ++ [row 2 (.slice a7 xs0.length c7) (iv (mrk 1 xs0.length))] ++ [row 2 t6 (iv R)] ++ [])) := (hS21.call0 h25.out).perm (by classical exact List.perm_iff_count.2 (fun a => by simp only [List.cons_append, List.nil_append, List.append_nil, List.count_append, List.count_cons, List.count_nil] <;> omega))
  clear b0_0 b0_1 b0_2 b1_0 b1_1 b1_2 hS21 h25 hl25
  have b0_0 := hS22.bcell 0 rfl 0 rfl
  have b0_1 := hS22.bcell 0 rfl 1 rfl
  have b0_2 := hS22.bcell 0 rfl 2 rfl
  have b1_0 := hS22.bcell 1 rfl 0 rfl
  have b1_1 := hS22.bcell 1 rfl 1 rfl
  have b1_2 := hS22.bcell 1 rfl 2 rfl
  go_wp2_with fail
  refine (toInt64S_c v2 xs2 _ (hS22.oldI hv2) Hl2.out).mono ?_
  rintro e w26 ⟨t26, rfl, h26⟩
  have hr26 := h26.rdI 0 rfl
  have hr24 := hr24.keep h26.below
  have hr25 := hr25.keep h26.below
  have hS23 : St w.heap.size w w26 (box 29 w7.heap.size [.int .i64 p0, .int .i64 d0, .slice a7 xs0.length c7] :: box 24 w.heap.size [.int .i64 p0, .int .i64 d0, v0] :: ([row 2 t10 (iv (mrk 1 R.length))] ++ [row 2 t9 (iv (mrk (1 + xs0.length + tot xss1) xs2.length))] ++ own2 t8 tu8 (mrkL (1 + xs0.length) xss1) ++ [row 2 (.slice a7 xs0.length c7) (iv (mrk 1 xs0.length))] ++ [row 2 t6 (iv R)] ++ [])) := (hS22.call0 h26.out).perm (by classical exact List.perm_iff_count.2 (fun a => by simp only [List.cons_append, List.nil_append, List.append_nil, List.count_append, List.count_cons, List.count_nil] <;> omega))
  clear b0_0 b0_1 b0_2 b1_0 b1_1 b1_2 hS22 h26
  have b0_0 := hS23.bcell 0 rfl 0 rfl
  have b0_1 := hS23.bcell 0 rfl 1 rfl
  have b0_2 := hS23.bcell 0 rfl 2 rfl
  have b1_0 := hS23.bcell 1 rfl 0 rfl
  have b1_1 := hS23.bcell 1 rfl 1 rfl
  have b1_2 := hS23.bcell 1 rfl 2 rfl
  go_wp2_with fail
  refine (Hi _ _ _ _ _ hr24 hr25 hr26).out.mono ?_
  rintro e w27 ⟨t27, rfl, h27⟩
  have hS24 : St w.heap.size w w27 (box 29 w7.heap.size [.int .i64 p0, .int .i64 d0, .slice a7 xs0.length c7] :: box 24 w.heap.size [.int .i64 p0, .int .i64 d0, v0] :: ([row 2 t27 (iv R)] ++ [row 2 t10 (iv (mrk 1 R.length))] ++ [row 2 t9 (iv (mrk (1 + xs0.length + tot xss1) xs2.length))] ++ own2 t8 tu8 (mrkL (1 + xs0.length) xss1) ++ [row 2 (.slice a7 xs0.length c7) (iv (mrk 1 xs0.length))] ++ [row 2 t6 (iv R)] ++ [])) := (hS23.call h27).perm (by classical exact List.perm_iff_count.2 (fun a => by simp only [List.cons_append, List.nil_append, List.append_nil, List.count_append, List.count_cons, List.count_nil] <;> omega))
  clear b0_0 b0_1 b0_2 b1_0 b1_1 b1_2 hS23 h27 hr24 hr25 hr26
  have b0_0 := hS24.bcell 0 rfl 0 rfl
  have b0_1 := hS24.bcell 0 rfl 1 rfl
  have b0_2 := hS24.bcell 0 rfl 2 rfl
  have b1_0 := hS24.bcell 1 rfl 0 rfl
  have b1_1 := hS24.bcell 1 rfl 1 rfl
  have b1_2 := hS24.bcell 1 rfl 2 rfl
  go_wp2_with fail
  refine (eqInt64S_c _ _ R R _ (St.rdI (hS24.perm (L' := [row 2 t27 (iv R)] ++ (box 29 w7.heap.size [.int .i64 p0, .int .i64 d0, .slice a7 xs0.length c7] :: box 24 w.heap.size [.int .i64 p0, .int .i64 d0, v0] :: ([row 2 t10 (iv (mrk 1 R.length))] ++ [row 2 t9 (iv (mrk (1 + xs0.length + tot xss1) xs2.length))] ++ own2 t8 tu8 (mrkL (1 + xs0.length) xss1) ++ [row 2 (.slice a7 xs0.length c7) (iv (mrk 1 xs0.length))] ++ [row 2 t6 (iv R)] ++ []))) (by classical exact List.perm_iff_count.2 (fun a => by simp only [List.cons_append, List.nil_append, List.append_nil, List.count_append, List.count_cons, List.count_nil] <;> omega))) 0 rfl) (St.rdI (hS24.perm (L' := [row 2 t6 (iv R)] ++ (box 29 w7.heap.size [.int .i64 p0, .int .i64 d0, .slice a7 xs0.length c7] :: box 24 w.heap.size [.int .i64 p0, .int .i64 d0, v0] :: ([row 2 t27 (iv R)] ++ [row 2 t10 (iv (mrk 1 R.length))] ++ [row 2 t9 (iv (mrk (1 + xs0.length + tot xss1) xs2.length))] ++ own2 t8 tu8 (mrkL (1 + xs0.length) xss1) ++ [row 2 (.slice a7 xs0.length c7) (iv (mrk 1 xs0.length))] ++ []))) (by classical exact List.perm_iff_count.2 (fun a => by simp only [List.cons_append, List.nil_append, List.append_nil, List.count_append, List.count_cons, List.count_nil] <;> omega))) 0 rfl)).mono ?_
  rw [show decide (R = R) = true from decide_eq_true rfl]
  rintro e w28 ⟨rfl, h28⟩
  have hS25 : St w.heap.size w w28 (box 29 w7.heap.size [.int .i64 p0, .int .i64 d0, .slice a7 xs0.length c7] :: box 24 w.heap.size [.int .i64 p0, .int .i64 d0, v0] :: ([row 2 t27 (iv R)] ++ [row 2 t10 (iv (mrk 1 R.length))] ++ [row 2 t9 (iv (mrk (1 + xs0.length + tot xss1) xs2.length))] ++ own2 t8 tu8 (mrkL (1 + xs0.length) xss1) ++ [row 2 (.slice a7 xs0.length c7) (iv (mrk 1 xs0.length))] ++ [row 2 t6 (iv R)] ++ [])) := (hS24.call0 h28).perm (by classical exact List.perm_iff_count.2 (fun a => by simp only [List.cons_append, List.nil_append, List.append_nil, List.count_append, List.count_cons, List.count_nil] <;> omega))
  clear b0_0 b0_1 b0_2 b1_0 b1_1 b1_2 hS24 h28
  have b0_0 := hS25.bcell 0 rfl 0 rfl
  have b0_1 := hS25.bcell 0 rfl 1 rfl
  have b0_2 := hS25.bcell 0 rfl 2 rfl
  have b1_0 := hS25.bcell 1 rfl 0 rfl
  have b1_1 := hS25.bcell 1 rfl 1 rfl
  have b1_2 := hS25.bcell 1 rfl 2 rfl
  go_wp2_with fail
  refine (heldInt64S_c _ R.length 1 _ (by omega) (by omega) (St.rdI (hS25.perm (L' := [row 2 t10 (iv (mrk 1 R.length))] ++ (box 29 w7.heap.size [.int .i64 p0, .int .i64 d0, .slice a7 xs0.length c7] :: box 24 w.heap.size [.int .i64 p0, .int .i64 d0, v0] :: ([row 2 t27 (iv R)] ++ [row 2 t9 (iv (mrk (1 + xs0.length + tot xss1) xs2.length))] ++ own2 t8 tu8 (mrkL (1 + xs0.length) xss1) ++ [row 2 (.slice a7 xs0.length c7) (iv (mrk 1 xs0.length))] ++ [row 2 t6 (iv R)] ++ []))) (by classical exact List.perm_iff_count.2 (fun a => by simp only [List.cons_append, List.nil_append, List.append_nil, List.count_append, List.count_cons, List.count_nil] <;> omega))) 0 rfl)).mono ?_
  rintro e w29 ⟨rfl, rfl⟩
  go_wp2_with fail
  go_ret
  exact ⟨rfl, hS25.out⟩
end Go.Proofs.Ytmkfafhgcnbcaaa
