/- The law FnExactDeterminantOf, walked. -/
import Derived.Test.YtmkfafhgcnbcaaaDet
import Derived.Test.YtmkfafhgcnbcaaaFx
import Derived.Test.YtmkfafhgcnbcaaaPrfF
import Derived.Deep.RegionHeld3
import Derived.Deep.DrawnRows
namespace Go.Proofs.Ytmkfafhgcnbcaaa
set_option linter.unusedSimpArgs false
set_option linter.unusedVariables false
open Go.RowKit
attribute [local go_sem ↓] Go.wp_at_zero Go.wp_at_succ

set_option maxHeartbeats 8000000 in
set_option maxRecDepth 100000 in
theorem FnExactDeterminantOf_law (w : World) (p0 d0 : Int) (v0 : Value) (xs0 : List Int) (wd0 : (Lit.int .i64 d0).wf = true) (hv0 : RdI w v0 xs0) (v1 : Value) (us1 : List Value) (xss1 : List (List Int)) (hv1 : RII w v1 us1 xss1) :
    Calls Try.prog 6 #[fv p0 d0 v0, v1] w (GivesB w true) := by
  have hS0 := ((St.refl w).newboxF 24 #[.int .i64 p0, .int .i64 d0, v0])
  simp only [World.size_alloc] at hS0
  by_cases hz0 : szI 1048576 xs0 < 0
  · go_enter Try.func6, Try.ntmps6
    unfold fv
    go_wp2_with fail
    refine (szField_c p0 d0 v0 xs0 _ _ (hS0.oldI hv0) (by omega)).mono ?_
    rintro e e0 ⟨rfl, h0⟩
    have hT0 := hS0.call0 h0
    have b0_0_0 := hT0.bcell 0 rfl 0 rfl
    have b0_0_1 := hT0.bcell 0 rfl 1 rfl
    have b0_0_2 := hT0.bcell 0 rfl 2 rfl
    go_wp2_with fail
    go_ret
    exact ⟨rfl, hT0.out⟩
  have hzt0 := szI_top2 (left := 1048576) (xs := xs0) (by omega)
  have hzb0 : 0 ≤ szI 1048576 xs0 ∧ szI 1048576 xs0 ≤ 1048576 := by omega
  have Hz0 := Lib.hid (show xs0.length ≤ 1048576 by omega)
  by_cases hz1 : szII (szI 1048576 xs0) xss1 < 0
  · go_enter Try.func6, Try.ntmps6
    unfold fv
    go_wp2_with fail
    refine (szField_c p0 d0 v0 xs0 _ _ (hS0.oldI hv0) (by omega)).mono ?_
    rintro e e0 ⟨rfl, h0⟩
    have hT0 := hS0.call0 h0
    have b0_0_0 := hT0.bcell 0 rfl 0 rfl
    have b0_0_1 := hT0.bcell 0 rfl 1 rfl
    have b0_0_2 := hT0.bcell 0 rfl 2 rfl
    go_wp2_with fail
    refine (szInt64SS_c v1 us1 xss1 _ _ (hT0.oldII hv1) hzb0).mono ?_
    rintro e e1 ⟨rfl, rfl⟩
    have b1_0_0 := hT0.bcell 0 rfl 0 rfl
    have b1_0_1 := hT0.bcell 0 rfl 1 rfl
    have b1_0_2 := hT0.bcell 0 rfl 2 rfl
    go_wp2_with fail
    go_ret
    exact ⟨rfl, hT0.out⟩
  have hzb1 : 0 ≤ szII (szI 1048576 xs0) xss1 ∧ szII (szI 1048576 xs0) xss1 ≤ 1048576 := by have := szII_top (left := szI 1048576 xs0) (xss := xss1) (by omega); omega
  have hq1 := szII_le (left := szI 1048576 xs0) (xss := xss1) (by omega)
  have Hz1_1 := Lib.hid (show xss1.length ≤ 1048576 by have := hq1.1; omega)
  have Hz2_1 := Lib.hid (show ∀ xs ∈ xss1, xs.length ≤ 1048576 from fun xs hx => by have := hq1.2 xs hx; omega)
  have Ht1 := Lib.hid (show tot xss1 ≤ 1048576 by have := szII_tot (left := szI 1048576 xs0) (xss := xss1) (by omega); omega)
  clear hq1
  have hx0 := Hz0.out
  have hx1 := Ht1.out
  have Hs := fun w v0 v1 us1 (hv0 : RdI w v0 xs0) (hv1 : RII w v1 us1 xss1) => Lib.hid (sDeterminantOf_c p0 d0 v0 xs0 v1 us1 xss1 w hv0 hv1)
  have hd0 := wf_le wd0
  have Hi := fun w v0 v1 us1 (hv0 : RdI w v0 xs0) (hv1 : RII w v1 us1 xss1) => Lib.hid (DeterminantOf_c p0 d0 v0 xs0 v1 us1 xss1 w hv0 hv1 hd0)
  generalize detM p0 d0 xs0 xss1 = R at Hs Hi
  generalize detC p0 d0 xs0 xss1 = cc at Hs Hi
  have hcc : (cc != cc) = false := by simp
  have hrr : (R != R) = false := by simp
  have HeX0 := Lib.hid (show eqF p0 d0 p0 d0 xs0 xs0 = true by simp [eqF])
  have HeX1 := Lib.hid (show decide (xss1 = xss1) = true by simp)
  go_enter Try.func6, Try.ntmps6
  unfold fv
  go_wp2_with fail
  refine (szField_c p0 d0 v0 xs0 _ _ (hS0.oldI hv0) (by omega)).mono ?_
  rintro e w1 ⟨rfl, h1⟩
  have hS1 : St w.heap.size w w1 (box 24 w.heap.size [.int .i64 p0, .int .i64 d0, v0] :: ([])) := (hS0.call0 h1).perm (by classical exact List.perm_iff_count.2 (fun a => by simp only [List.cons_append, List.nil_append, List.append_nil, List.count_append, List.count_cons, List.count_nil] <;> omega))
  clear hS0 h1
  have b0_0 := hS1.bcell 0 rfl 0 rfl
  have b0_1 := hS1.bcell 0 rfl 1 rfl
  have b0_2 := hS1.bcell 0 rfl 2 rfl
  go_wp2_with fail
  refine (szInt64SS_c v1 us1 xss1 _ _ (hS1.oldII hv1) hzb0).mono ?_
  rintro e w2 ⟨rfl, rfl⟩
  go_wp2_with fail
  refine (toField_c p0 d0 v0 xs0 _ (hS1.oldI hv0) Hz0.out).mono ?_
  rintro e w3 ⟨t3, rfl, h3⟩
  have hr3 := h3.rdI 0 rfl
  have hS2 : St w.heap.size w w3 (box 24 w.heap.size [.int .i64 p0, .int .i64 d0, v0] :: ([])) := (hS1.call0 h3.out).perm (by classical exact List.perm_iff_count.2 (fun a => by simp only [List.cons_append, List.nil_append, List.append_nil, List.count_append, List.count_cons, List.count_nil] <;> omega))
  clear b0_0 b0_1 b0_2 hS1 h3
  have b0_0 := hS2.bcell 0 rfl 0 rfl
  have b0_1 := hS2.bcell 0 rfl 1 rfl
  have b0_2 := hS2.bcell 0 rfl 2 rfl
  go_wp2_with fail
  refine (toInt64SS_c v1 us1 xss1 _ (hS2.oldII hv1) Hz1_1.out Hz2_1.out).mono ?_
  rintro e w4 ⟨t4, tu4, rfl, hl4, h4⟩
  have hr4 := h4.rii hl4
  have hr3 := hr3.keep h4.below
  have hS3 : St w.heap.size w w4 (box 24 w.heap.size [.int .i64 p0, .int .i64 d0, v0] :: ([])) := (hS2.call0 h4.out).perm (by classical exact List.perm_iff_count.2 (fun a => by simp only [List.cons_append, List.nil_append, List.append_nil, List.count_append, List.count_cons, List.count_nil] <;> omega))
  clear b0_0 b0_1 b0_2 hS2 h4 hl4
  have b0_0 := hS3.bcell 0 rfl 0 rfl
  have b0_1 := hS3.bcell 0 rfl 1 rfl
  have b0_2 := hS3.bcell 0 rfl 2 rfl
  go_wp2_with fail
  refine (Hs _ _ _ _ hr3 hr4).out.mono ?_
  rintro e w5 ⟨rfl, h5⟩
  have hS4 : St w.heap.size w w5 (box 24 w.heap.size [.int .i64 p0, .int .i64 d0, v0] :: ([])) := (hS3.call0 h5).perm (by classical exact List.perm_iff_count.2 (fun a => by simp only [List.cons_append, List.nil_append, List.append_nil, List.count_append, List.count_cons, List.count_nil] <;> omega))
  clear b0_0 b0_1 b0_2 hS3 h5 hr3 hr4
  have b0_0 := hS4.bcell 0 rfl 0 rfl
  have b0_1 := hS4.bcell 0 rfl 1 rfl
  have b0_2 := hS4.bcell 0 rfl 2 rfl
  go_wp2_with fail
  refine (toField_c p0 d0 v0 xs0 _ (hS4.oldI hv0) Hz0.out).mono ?_
  rintro e w6 ⟨t6, rfl, h6⟩
  obtain ⟨a6, c6, rfl⟩ := (h6.rdI 0 rfl).shp'
  unfold fv
  have hS5 : St w.heap.size w _ (box 29 w6.heap.size [.int .i64 p0, .int .i64 d0, .slice a6 xs0.length c6] :: box 24 w.heap.size [.int .i64 p0, .int .i64 d0, v0] :: ([row 2 (.slice a6 xs0.length c6) (iv xs0)] ++ [])) := ((hS4.call h6).newboxF 29 #[.int .i64 p0, .int .i64 d0, .slice a6 xs0.length c6]).perm (by classical exact List.perm_iff_count.2 (fun a => by simp only [List.cons_append, List.nil_append, List.append_nil, List.count_append, List.count_cons, List.count_nil] <;> omega))
  clear b0_0 b0_1 b0_2 hS4 h6
  have b0_0 := hS5.bcell 0 rfl 0 rfl
  have b0_1 := hS5.bcell 0 rfl 1 rfl
  have b0_2 := hS5.bcell 0 rfl 2 rfl
  have b1_0 := hS5.bcell 1 rfl 0 rfl
  have b1_1 := hS5.bcell 1 rfl 1 rfl
  have b1_2 := hS5.bcell 1 rfl 2 rfl
  go_wp2_with fail
  refine (toInt64SS_c v1 us1 xss1 _ (hS5.oldII hv1) Hz1_1.out Hz2_1.out).mono ?_
  rintro e w7 ⟨t7, tu7, rfl, hl7, h7⟩
  have Hl_x1 := Lib.hid hl7
  have hS6 : St w.heap.size w w7 (box 29 w6.heap.size [.int .i64 p0, .int .i64 d0, .slice a6 xs0.length c6] :: box 24 w.heap.size [.int .i64 p0, .int .i64 d0, v0] :: (own2 t7 tu7 xss1 ++ [row 2 (.slice a6 xs0.length c6) (iv xs0)] ++ [])) := (hS5.call h7).perm (by classical exact List.perm_iff_count.2 (fun a => by simp only [List.cons_append, List.nil_append, List.append_nil, List.count_append, List.count_cons, List.count_nil] <;> omega))
  clear b0_0 b0_1 b0_2 b1_0 b1_1 b1_2 hS5 h7 hl7
  have b0_0 := hS6.bcell 0 rfl 0 rfl
  have b0_1 := hS6.bcell 0 rfl 1 rfl
  have b0_2 := hS6.bcell 0 rfl 2 rfl
  have b1_0 := hS6.bcell 1 rfl 0 rfl
  have b1_1 := hS6.bcell 1 rfl 1 rfl
  have b1_2 := hS6.bcell 1 rfl 2 rfl
  go_wp2_with fail
  refine (Hi _ _ _ _ (St.rdI (hS6.perm (L' := [row 2 (.slice a6 xs0.length c6) (iv xs0)] ++ (box 29 w6.heap.size [.int .i64 p0, .int .i64 d0, .slice a6 xs0.length c6] :: box 24 w.heap.size [.int .i64 p0, .int .i64 d0, v0] :: (own2 t7 tu7 xss1 ++ []))) (by classical exact List.perm_iff_count.2 (fun a => by simp only [List.cons_append, List.nil_append, List.append_nil, List.count_append, List.count_cons, List.count_nil] <;> omega))) 0 rfl) (rii2 (hS6.perm (L' := own2 t7 tu7 xss1 ++ (box 29 w6.heap.size [.int .i64 p0, .int .i64 d0, .slice a6 xs0.length c6] :: box 24 w.heap.size [.int .i64 p0, .int .i64 d0, v0] :: ([row 2 (.slice a6 xs0.length c6) (iv xs0)] ++ []))) (by classical exact List.perm_iff_count.2 (fun a => by simp only [List.cons_append, List.nil_append, List.append_nil, List.count_append, List.count_cons, List.count_nil] <;> omega))) Hl_x1.out)).out.mono ?_
  rintro e w8 ⟨rfl, h8⟩
  have hS7 : St w.heap.size w w8 (box 29 w6.heap.size [.int .i64 p0, .int .i64 d0, .slice a6 xs0.length c6] :: box 24 w.heap.size [.int .i64 p0, .int .i64 d0, v0] :: (own2 t7 tu7 xss1 ++ [row 2 (.slice a6 xs0.length c6) (iv xs0)] ++ [])) := (hS6.call0 h8).perm (by classical exact List.perm_iff_count.2 (fun a => by simp only [List.cons_append, List.nil_append, List.append_nil, List.count_append, List.count_cons, List.count_nil] <;> omega))
  clear b0_0 b0_1 b0_2 b1_0 b1_1 b1_2 hS6 h8
  have b0_0 := hS7.bcell 0 rfl 0 rfl
  have b0_1 := hS7.bcell 0 rfl 1 rfl
  have b0_2 := hS7.bcell 0 rfl 2 rfl
  have b1_0 := hS7.bcell 1 rfl 0 rfl
  have b1_1 := hS7.bcell 1 rfl 1 rfl
  have b1_2 := hS7.bcell 1 rfl 2 rfl
  go_wp2_with fail
  have hrx0 := (St.rdI (hS7.perm (L' := [row 2 (.slice a6 xs0.length c6) (iv xs0)] ++ (box 29 w6.heap.size [.int .i64 p0, .int .i64 d0, .slice a6 xs0.length c6] :: box 24 w.heap.size [.int .i64 p0, .int .i64 d0, v0] :: (own2 t7 tu7 xss1 ++ []))) (by classical exact List.perm_iff_count.2 (fun a => by simp only [List.cons_append, List.nil_append, List.append_nil, List.count_append, List.count_cons, List.count_nil] <;> omega))) 0 rfl)
  go_region_held3 (fun w' => w'.cell? ⟨w6.heap.size, 0, none⟩ = some (.int .i64 p0) ∧ w'.cell? ⟨w6.heap.size, 1, none⟩ = some (.int .i64 d0) ∧ w'.cell? ⟨w6.heap.size, 2, none⟩ = some (.slice a6 xs0.length c6) ∧ w'.cell? ⟨w.heap.size, 0, none⟩ = some (.int .i64 p0) ∧ w'.cell? ⟨w.heap.size, 1, none⟩ = some (.int .i64 d0) ∧ w'.cell? ⟨w.heap.size, 2, none⟩ = some (v0)) (go_keep)
    (first
    | (go_at_call 19; refine (toField_c p0 d0 v0 xs0 _ (hS7.drew.oldI hv0) Hz0.out).mono ?_; rintro e w9 ⟨t9, rfl, h9⟩; have hr9 := h9.rdI 0 rfl; have hU9 := hS7.drew.call0 h9.out; have fw9_0_0 := hU9.bcell 0 rfl 0 rfl; have fw9_0_1 := hU9.bcell 0 rfl 1 rfl; have fw9_0_2 := hU9.bcell 0 rfl 2 rfl; have fw9_1_0 := hU9.bcell 1 rfl 0 rfl; have fw9_1_1 := hU9.bcell 1 rfl 1 rfl; have fw9_1_2 := hU9.bcell 1 rfl 2 rfl)
    | (go_at_call 22; refine (eqField_c p0 d0 p0 d0 _ _ xs0 xs0 _ ((hrx0.keep (St.refl _).drew.below).keep h9.below) hr9).mono ?_; rw [HeX0.out]; rintro e w10 ⟨rfl, h10⟩; have hU10 := hU9.call0 h10; have fw10_0_0 := hU10.bcell 0 rfl 0 rfl; have fw10_0_1 := hU10.bcell 0 rfl 1 rfl; have fw10_0_2 := hU10.bcell 0 rfl 2 rfl; have fw10_1_0 := hU10.bcell 1 rfl 0 rfl; have fw10_1_1 := hU10.bcell 1 rfl 1 rfl; have fw10_1_2 := hU10.bcell 1 rfl 2 rfl))
  have hS8 : St w.heap.size w w10 (box 29 w6.heap.size [.int .i64 p0, .int .i64 d0, .slice a6 xs0.length c6] :: box 24 w.heap.size [.int .i64 p0, .int .i64 d0, v0] :: (own2 t7 tu7 xss1 ++ [row 2 (.slice a6 xs0.length c6) (iv xs0)] ++ [])) := (hU10).perm (by classical exact List.perm_iff_count.2 (fun a => by simp only [List.cons_append, List.nil_append, List.append_nil, List.count_append, List.count_cons, List.count_nil] <;> omega))
  clear b0_0 b0_1 b0_2 b1_0 b1_1 b1_2 hS7 hU9 hU10 h9 h10 hr9 hrx0 fw9_0_0 fw9_0_1 fw9_0_2 fw9_1_0 fw9_1_1 fw9_1_2 fw10_0_0 fw10_0_1 fw10_0_2 fw10_1_0 fw10_1_1 fw10_1_2
  have b0_0 := hS8.bcell 0 rfl 0 rfl
  have b0_1 := hS8.bcell 0 rfl 1 rfl
  have b0_2 := hS8.bcell 0 rfl 2 rfl
  have b1_0 := hS8.bcell 1 rfl 0 rfl
  have b1_1 := hS8.bcell 1 rfl 1 rfl
  have b1_2 := hS8.bcell 1 rfl 2 rfl
  go_wp2_with fail
  have hrx1 := (rii2 (hS8.perm (L' := own2 t7 tu7 xss1 ++ (box 29 w6.heap.size [.int .i64 p0, .int .i64 d0, .slice a6 xs0.length c6] :: box 24 w.heap.size [.int .i64 p0, .int .i64 d0, v0] :: ([row 2 (.slice a6 xs0.length c6) (iv xs0)] ++ []))) (by classical exact List.perm_iff_count.2 (fun a => by simp only [List.cons_append, List.nil_append, List.append_nil, List.count_append, List.count_cons, List.count_nil] <;> omega))) Hl_x1.out)
  refine (toInt64SS_c v1 us1 xss1 _ (hS8.oldII hv1) Hz1_1.out Hz2_1.out).mono ?_
  rintro e w11 ⟨t11, tu11, rfl, hl11, h11⟩
  have hr11 := h11.rii hl11
  have hrx1 := hrx1.keep h11.below
  have hS9 : St w.heap.size w w11 (box 29 w6.heap.size [.int .i64 p0, .int .i64 d0, .slice a6 xs0.length c6] :: box 24 w.heap.size [.int .i64 p0, .int .i64 d0, v0] :: (own2 t7 tu7 xss1 ++ [row 2 (.slice a6 xs0.length c6) (iv xs0)] ++ [])) := (hS8.call0 h11.out).perm (by classical exact List.perm_iff_count.2 (fun a => by simp only [List.cons_append, List.nil_append, List.append_nil, List.count_append, List.count_cons, List.count_nil] <;> omega))
  clear b0_0 b0_1 b0_2 b1_0 b1_1 b1_2 hS8 h11 hl11
  have b0_0 := hS9.bcell 0 rfl 0 rfl
  have b0_1 := hS9.bcell 0 rfl 1 rfl
  have b0_2 := hS9.bcell 0 rfl 2 rfl
  have b1_0 := hS9.bcell 1 rfl 0 rfl
  have b1_1 := hS9.bcell 1 rfl 1 rfl
  have b1_2 := hS9.bcell 1 rfl 2 rfl
  go_wp2_with fail
  refine (eqInt64SS_c _ _ tu7 tu11 xss1 xss1 _ hrx1 hr11).mono ?_
  rw [show decide (xss1 = xss1) = true from decide_eq_true rfl]
  rintro e w12 ⟨rfl, h12⟩
  have hS10 : St w.heap.size w w12 (box 29 w6.heap.size [.int .i64 p0, .int .i64 d0, .slice a6 xs0.length c6] :: box 24 w.heap.size [.int .i64 p0, .int .i64 d0, v0] :: (own2 t7 tu7 xss1 ++ [row 2 (.slice a6 xs0.length c6) (iv xs0)] ++ [])) := (hS9.call0 h12).perm (by classical exact List.perm_iff_count.2 (fun a => by simp only [List.cons_append, List.nil_append, List.append_nil, List.count_append, List.count_cons, List.count_nil] <;> omega))
  clear b0_0 b0_1 b0_2 b1_0 b1_1 b1_2 hS9 h12 hr11 hrx1
  have b0_0 := hS10.bcell 0 rfl 0 rfl
  have b0_1 := hS10.bcell 0 rfl 1 rfl
  have b0_2 := hS10.bcell 0 rfl 2 rfl
  have b1_0 := hS10.bcell 1 rfl 0 rfl
  have b1_1 := hS10.bcell 1 rfl 1 rfl
  have b1_2 := hS10.bcell 1 rfl 2 rfl
  go_wp2_with fail
  go_ret
  exact ⟨rfl, hS10.out⟩
end Go.Proofs.Ytmkfafhgcnbcaaa
