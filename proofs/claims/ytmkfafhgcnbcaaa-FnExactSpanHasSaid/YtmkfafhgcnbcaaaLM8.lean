/- The law FnExactSpanHas, walked. -/
import Derived.Test.YtmkfafhgcnbcaaaSpn
import Derived.Test.YtmkfafhgcnbcaaaFx
import Derived.Test.YtmkfafhgcnbcaaaPrfF
import Derived.Deep.RegionHeld3
import Derived.Deep.DrawnRows
namespace Go.Proofs.Ytmkfafhgcnbcaaa
set_option linter.unusedSimpArgs false
set_option linter.unusedVariables false
open Go.RowKit
attribute [local go_sem ↓] Go.wp_at_zero Go.wp_at_succ

set_option maxHeartbeats 8000000 in
set_option maxRecDepth 100000 in
theorem FnExactSpanHas_law (w : World) (p0 d0 : Int) (v0 : Value) (xs0 : List Int) (wd0 : (Lit.int .i64 d0).wf = true) (hv0 : RdI w v0 xs0) (v1 : Value) (us1 : List Value) (xss1 : List (List Int)) (hv1 : RII w v1 us1 xss1) (v2 : Value) (xs2 : List Int) (hv2 : RdI w v2 xs2) :
    Calls Try.prog 8 #[fv p0 d0 v0, v1, v2] w (GivesB w true) := by
  have hS0 := ((St.refl w).newboxF 24 #[.int .i64 p0, .int .i64 d0, v0])
  simp only [World.size_alloc] at hS0
  by_cases hl2 : 1048576 < xs2.length
  · have hll2 := hv2.len
    go_enter Try.func8, Try.ntmps8
    unfold fv
    go_wp2_with fail
    go_ret
    exact ⟨rfl, hS0.out⟩
  have Hl2 := Lib.hid (show xs2.length ≤ 1048576 by omega)
  have hll2 := hv2.len
  by_cases hz0 : szI 1048576 xs0 < 0
  · go_enter Try.func8, Try.ntmps8
    unfold fv
    go_wp2_with fail
    refine (szField_c p0 d0 v0 xs0 _ _ (hS0.oldI hv0) (by omega)).mono ?_
    rintro e e0 ⟨rfl, h0⟩
    have hT0 := hS0.call0 h0
    have b0_0_0 := hT0.bcell 0 rfl 0 rfl
    have b0_0_1 := hT0.bcell 0 rfl 1 rfl
    have b0_0_2 := hT0.bcell 0 rfl 2 rfl
    go_wp2_with fail
    go_ret
    exact ⟨rfl, hT0.out⟩
  have hzt0 := szI_top2 (left := 1048576) (xs := xs0) (by omega)
  have hzb0 : 0 ≤ szI 1048576 xs0 ∧ szI 1048576 xs0 ≤ 1048576 := by omega
  have Hz0 := Lib.hid (show xs0.length ≤ 1048576 by omega)
  by_cases hz1 : szII (szI 1048576 xs0) xss1 < 0
  · go_enter Try.func8, Try.ntmps8
    unfold fv
    go_wp2_with fail
    refine (szField_c p0 d0 v0 xs0 _ _ (hS0.oldI hv0) (by omega)).mono ?_
    rintro e e0 ⟨rfl, h0⟩
    have hT0 := hS0.call0 h0
    have b0_0_0 := hT0.bcell 0 rfl 0 rfl
    have b0_0_1 := hT0.bcell 0 rfl 1 rfl
    have b0_0_2 := hT0.bcell 0 rfl 2 rfl
    go_wp2_with fail
    refine (szInt64SS_c v1 us1 xss1 _ _ (hT0.oldII hv1) hzb0).mono ?_
    rintro e e1 ⟨rfl, rfl⟩
    have b1_0_0 := hT0.bcell 0 rfl 0 rfl
    have b1_0_1 := hT0.bcell 0 rfl 1 rfl
    have b1_0_2 := hT0.bcell 0 rfl 2 rfl
    go_wp2_with fail
    go_ret
    exact ⟨rfl, hT0.out⟩
  have hzb1 : 0 ≤ szII (szI 1048576 xs0) xss1 ∧ szII (szI 1048576 xs0) xss1 ≤ 1048576 := by have := szII_top (left := szI 1048576 xs0) (xss := xss1) (by omega); omega
  have hq1 := szII_le (left := szI 1048576 xs0) (xss := xss1) (by omega)
  have Hz1_1 := Lib.hid (show xss1.length ≤ 1048576 by have := hq1.1; omega)
  have Hz2_1 := Lib.hid (show ∀ xs ∈ xss1, xs.length ≤ 1048576 from fun xs hx => by have := hq1.2 xs hx; omega)
  have Ht1 := Lib.hid (show tot xss1 ≤ 1048576 by have := szII_tot (left := szI 1048576 xs0) (xss := xss1) (by omega); omega)
  clear hq1
  have hx0 := Hz0.out
  have hx1 := Ht1.out
  have hx2 := Hl2.out
  have Hs := fun w v0 v1 us1 v2 (hv0 : RdI w v0 xs0) (hv1 : RII w v1 us1 xss1) (hv2 : RdI w v2 xs2) => Lib.hid (sSpanHas_c p0 d0 v0 xs0 v1 us1 xss1 v2 xs2 w hv0 hv1 hv2)
  have hd0 := wf_le wd0
  have Hi := fun w v0 v1 us1 v2 (hv0 : RdI w v0 xs0) (hv1 : RII w v1 us1 xss1) (hv2 : RdI w v2 xs2) => Lib.hid (SpanHas_c p0 d0 v0 xs0 v1 us1 xss1 v2 xs2 w hv0 hv1 hv2 hd0)
  generalize spnB p0 d0 xs0 xss1 xs2 = R at Hs Hi
  have hrr : (R != R) = false := by simp
  have HeX0 := Lib.hid (show eqF p0 d0 p0 d0 xs0 xs0 = true by simp [eqF])
  have HeX1 := Lib.hid (show decide (xss1 = xss1) = true by simp)
  have HeX2 := Lib.hid (show decide (xs2 = xs2) = true by simp)
  go_enter Try.func8, Try.ntmps8
  unfold fv
  go_wp2_with fail
  refine (szField_c p0 d0 v0 xs0 _ _ (hS0.oldI hv0) (by omega)).mono ?_
  rintro e w1 ⟨rfl, h1⟩
  have hS1 : St w.heap.size w w1 (box 24 w.heap.size [.int .i64 p0, .int .i64 d0, v0] :: ([])) := (hS0.call0 h1).perm (by classical exact List.perm_iff_count.2 (fun a => by simp only [List.cons_append, List.nil_append, List.append_nil, List.count_append, List.count_cons, List.count_nil] <;> omega))
  clear hS0 h1
  have b0_0 := hS1.bcell 0 rfl 0 rfl
  have b0_1 := hS1.bcell 0 rfl 1 rfl
  have b0_2 := hS1.bcell 0 rfl 2 rfl
  go_wp2_with fail
  refine (szInt64SS_c v1 us1 xss1 _ _ (hS1.oldII hv1) hzb0).mono ?_
  rintro e w2 ⟨rfl, rfl⟩
  go_wp2_with fail
  refine (toField_c p0 d0 v0 xs0 _ (hS1.oldI hv0) Hz0.out).mono ?_
  rintro e w3 ⟨t3, rfl, h3⟩
  have hr3 := h3.rdI 0 rfl
  have hS2 : St w.heap.size w w3 (box 24 w.heap.size [.int .i64 p0, .int .i64 d0, v0] :: ([])) := (hS1.call0 h3.out).perm (by classical exact List.perm_iff_count.2 (fun a => by simp only [List.cons_append, List.nil_append, List.append_nil, List.count_append, List.count_cons, List.count_nil] <;> omega))
  clear b0_0 b0_1 b0_2 hS1 h3
  have b0_0 := hS2.bcell 0 rfl 0 rfl
  have b0_1 := hS2.bcell 0 rfl 1 rfl
  have b0_2 := hS2.bcell 0 rfl 2 rfl
  go_wp2_with fail
  refine (toInt64SS_c v1 us1 xss1 _ (hS2.oldII hv1) Hz1_1.out Hz2_1.out).mono ?_
  rintro e w4 ⟨t4, tu4, rfl, hl4, h4⟩
  have hr4 := h4.rii hl4
  have hr3 := hr3.keep h4.below
  have hS3 : St w.heap.size w w4 (box 24 w.heap.size [.int .i64 p0, .int .i64 d0, v0] :: ([])) := (hS2.call0 h4.out).perm (by classical exact List.perm_iff_count.2 (fun a => by simp only [List.cons_append, List.nil_append, List.append_nil, List.count_append, List.count_cons, List.count_nil] <;> omega))
  clear b0_0 b0_1 b0_2 hS2 h4 hl4
  have b0_0 := hS3.bcell 0 rfl 0 rfl
  have b0_1 := hS3.bcell 0 rfl 1 rfl
  have b0_2 := hS3.bcell 0 rfl 2 rfl
  go_wp2_with fail
  refine (toInt64S_c v2 xs2 _ (hS3.oldI hv2) Hl2.out).mono ?_
  rintro e w5 ⟨t5, rfl, h5⟩
  have hr5 := h5.rdI 0 rfl
  have hr3 := hr3.keep h5.below
  have hr4 := hr4.keep h5.below
  have hS4 : St w.heap.size w w5 (box 24 w.heap.size [.int .i64 p0, .int .i64 d0, v0] :: ([])) := (hS3.call0 h5.out).perm (by classical exact List.perm_iff_count.2 (fun a => by simp only [List.cons_append, List.nil_append, List.append_nil, List.count_append, List.count_cons, List.count_nil] <;> omega))
  clear b0_0 b0_1 b0_2 hS3 h5
  have b0_0 := hS4.bcell 0 rfl 0 rfl
  have b0_1 := hS4.bcell 0 rfl 1 rfl
  have b0_2 := hS4.bcell 0 rfl 2 rfl
  go_wp2_with fail
  refine (Hs _ _ _ _ _ hr3 hr4 hr5).out.mono ?_
  rintro e w6 ⟨rfl, h6⟩
  have hS5 : St w.heap.size w w6 (box 24 w.heap.size [.int .i64 p0, .int .i64 d0, v0] :: ([])) := (hS4.call0 h6).perm (by classical exact List.perm_iff_count.2 (fun a => by simp only [List.cons_append, List.nil_append, List.append_nil, List.count_append, List.count_cons, List.count_nil] <;> omega))
  clear b0_0 b0_1 b0_2 hS4 h6 hr3 hr4 hr5
  have b0_0 := hS5.bcell 0 rfl 0 rfl
  have b0_1 := hS5.bcell 0 rfl 1 rfl
  have b0_2 := hS5.bcell 0 rfl 2 rfl
  go_wp2_with fail
  refine (toField_c p0 d0 v0 xs0 _ (hS5.oldI hv0) Hz0.out).mono ?_
  rintro e w7 ⟨t7, rfl, h7⟩
  obtain ⟨a7, c7, rfl⟩ := (h7.rdI 0 rfl).shp'
  unfold fv
  have hS6 : St w.heap.size w _ (box 29 w7.heap.size [.int .i64 p0, .int .i64 d0, .slice a7 xs0.length c7] :: box 24 w.heap.size [.int .i64 p0, .int .i64 d0, v0] :: ([row 2 (.slice a7 xs0.length c7) (iv xs0)] ++ [])) := ((hS5.call h7).newboxF 29 #[.int .i64 p0, .int .i64 d0, .slice a7 xs0.length c7]).perm (by classical exact List.perm_iff_count.2 (fun a => by simp only [List.cons_append, List.nil_append, List.append_nil, List.count_append, List.count_cons, List.count_nil] <;> omega))
  clear b0_0 b0_1 b0_2 hS5 h7
  have b0_0 := hS6.bcell 0 rfl 0 rfl
  have b0_1 := hS6.bcell 0 rfl 1 rfl
  have b0_2 := hS6.bcell 0 rfl 2 rfl
  have b1_0 := hS6.bcell 1 rfl 0 rfl
  have b1_1 := hS6.bcell 1 rfl 1 rfl
  have b1_2 := hS6.bcell 1 rfl 2 rfl
  go_wp2_with fail
  refine (toInt64SS_c v1 us1 xss1 _ (hS6.oldII hv1) Hz1_1.out Hz2_1.out).mono ?_
  rintro e w8 ⟨t8, tu8, rfl, hl8, h8⟩
  have Hl_x1 := Lib.hid hl8
  have hS7 : St w.heap.size w w8 (box 29 w7.heap.size [.int .i64 p0, .int .i64 d0, .slice a7 xs0.length c7] :: box 24 w.heap.size [.int .i64 p0, .int .i64 d0, v0] :: (own2 t8 tu8 xss1 ++ [row 2 (.slice a7 xs0.length c7) (iv xs0)] ++ [])) := (hS6.call h8).perm (by classical exact List.perm_iff_count.2 (fun a => by simp only [List.cons_append, List.nil_append, List.append_nil, List.count_append, List.count_cons, List.count_nil] <;> omega))
  clear b0_0 b0_1 b0_2 b1_0 b1_1 b1_2 hS6 h8 hl8
  have b0_0 := hS7.bcell 0 rfl 0 rfl
  have b0_1 := hS7.bcell 0 rfl 1 rfl
  have b0_2 := hS7.bcell 0 rfl 2 rfl
  have b1_0 := hS7.bcell 1 rfl 0 rfl
  have b1_1 := hS7.bcell 1 rfl 1 rfl
  have b1_2 := hS7.bcell 1 rfl 2 rfl
  go_wp2_with fail
  refine (toInt64S_c v2 xs2 _ (hS7.oldI hv2) Hl2.out).mono ?_
  rintro e w9 ⟨t9, rfl, h9⟩
  have hS8 : St w.heap.size w w9 (box 29 w7.heap.size [.int .i64 p0, .int .i64 d0, .slice a7 xs0.length c7] :: box 24 w.heap.size [.int .i64 p0, .int .i64 d0, v0] :: ([row 2 t9 (iv xs2)] ++ own2 t8 tu8 xss1 ++ [row 2 (.slice a7 xs0.length c7) (iv xs0)] ++ [])) := (hS7.call h9).perm (by classical exact List.perm_iff_count.2 (fun a => by simp only [List.cons_append, List.nil_append, List.append_nil, List.count_append, List.count_cons, List.count_nil] <;> omega))
  clear b0_0 b0_1 b0_2 b1_0 b1_1 b1_2 hS7 h9
  have b0_0 := hS8.bcell 0 rfl 0 rfl
  have b0_1 := hS8.bcell 0 rfl 1 rfl
  have b0_2 := hS8.bcell 0 rfl 2 rfl
  have b1_0 := hS8.bcell 1 rfl 0 rfl
  have b1_1 := hS8.bcell 1 rfl 1 rfl
  have b1_2 := hS8.bcell 1 rfl 2 rfl
  go_wp2_with fail
  refine (Hi _ _ _ _ _ (St.rdI (hS8.perm (L' := [row 2 (.slice a7 xs0.length c7) (iv xs0)] ++ (box 29 w7.heap.size [.int .i64 p0, .int .i64 d0, .slice a7 xs0.length c7] :: box 24 w.heap.size [.int .i64 p0, .int .i64 d0, v0] :: ([row 2 t9 (iv xs2)] ++ own2 t8 tu8 xss1 ++ []))) (by classical exact List.perm_iff_count.2 (fun a => by simp only [List.cons_append, List.nil_append, List.append_nil, List.count_append, List.count_cons, List.count_nil] <;> omega))) 0 rfl) (rii2 (hS8.perm (L' := own2 t8 tu8 xss1 ++ (box 29 w7.heap.size [.int .i64 p0, .int .i64 d0, .slice a7 xs0.length c7] :: box 24 w.heap.size [.int .i64 p0, .int .i64 d0, v0] :: ([row 2 t9 (iv xs2)] ++ [row 2 (.slice a7 xs0.length c7) (iv xs0)] ++ []))) (by classical exact List.perm_iff_count.2 (fun a => by simp only [List.cons_append, List.nil_append, List.append_nil, List.count_append, List.count_cons, List.count_nil] <;> omega))) Hl_x1.out) (St.rdI (hS8.perm (L' := [row 2 t9 (iv xs2)] ++ (box 29 w7.heap.size [.int .i64 p0, .int .i64 d0, .slice a7 xs0.length c7] :: box 24 w.heap.size [.int .i64 p0, .int .i64 d0, v0] :: (own2 t8 tu8 xss1 ++ [row 2 (.slice a7 xs0.length c7) (iv xs0)] ++ []))) (by classical exact List.perm_iff_count.2 (fun a => by simp only [List.cons_append, List.nil_append, List.append_nil, List.count_append, List.count_cons, List.count_nil] <;> omega))) 0 rfl)).out.mono ?_
  rintro e w10 ⟨rfl, h10⟩
  have hS9 : St w.heap.size w w10 (box 29 w7.heap.size [.int .i64 p0, .int .i64 d0, .slice a7 xs0.length c7] :: box 24 w.heap.size [.int .i64 p0, .int .i64 d0, v0] :: ([row 2 t9 (iv xs2)] ++ own2 t8 tu8 xss1 ++ [row 2 (.slice a7 xs0.length c7) (iv xs0)] ++ [])) := (hS8.call0 h10).perm (by classical exact List.perm_iff_count.2 (fun a => by simp only [List.cons_append, List.nil_append, List.append_nil, List.count_append, List.count_cons, List.count_nil] <;> omega))
  clear b0_0 b0_1 b0_2 b1_0 b1_1 b1_2 hS8 h10
  have b0_0 := hS9.bcell 0 rfl 0 rfl
  have b0_1 := hS9.bcell 0 rfl 1 rfl
  have b0_2 := hS9.bcell 0 rfl 2 rfl
  have b1_0 := hS9.bcell 1 rfl 0 rfl
  have b1_1 := hS9.bcell 1 rfl 1 rfl
  have b1_2 := hS9.bcell 1 rfl 2 rfl
  go_wp2_with fail
  have hrx0 := (St.rdI (hS9.perm (L' := [row 2 (.slice a7 xs0.length c7) (iv xs0)] ++ (box 29 w7.heap.size [.int .i64 p0, .int .i64 d0, .slice a7 xs0.length c7] :: box 24 w.heap.size [.int .i64 p0, .int .i64 d0, v0] :: ([row 2 t9 (iv xs2)] ++ own2 t8 tu8 xss1 ++ []))) (by classical exact List.perm_iff_count.2 (fun a => by simp only [List.cons_append, List.nil_append, List.append_nil, List.count_append, List.count_cons, List.count_nil] <;> omega))) 0 rfl)
  go_region_held3 (fun w' => w'.cell? ⟨w7.heap.size, 0, none⟩ = some (.int .i64 p0) ∧ w'.cell? ⟨w7.heap.size, 1, none⟩ = some (.int .i64 d0) ∧ w'.cell? ⟨w7.heap.size, 2, none⟩ = some (.slice a7 xs0.length c7) ∧ w'.cell? ⟨w.heap.size, 0, none⟩ = some (.int .i64 p0) ∧ w'.cell? ⟨w.heap.size, 1, none⟩ = some (.int .i64 d0) ∧ w'.cell? ⟨w.heap.size, 2, none⟩ = some (v0)) (go_keep)
    (first
    | (go_at_call 19; refine (toField_c p0 d0 v0 xs0 _ (hS9.drew.oldI hv0) Hz0.out).mono ?_; rintro e w11 ⟨t11, rfl, h11⟩; have hr11 := h11.rdI 0 rfl; have hU11 := hS9.drew.call0 h11.out; have fw11_0_0 := hU11.bcell 0 rfl 0 rfl; have fw11_0_1 := hU11.bcell 0 rfl 1 rfl; have fw11_0_2 := hU11.bcell 0 rfl 2 rfl; have fw11_1_0 := hU11.bcell 1 rfl 0 rfl; have fw11_1_1 := hU11.bcell 1 rfl 1 rfl; have fw11_1_2 := hU11.bcell 1 rfl 2 rfl)
    | (go_at_call 22; refine (eqField_c p0 d0 p0 d0 _ _ xs0 xs0 _ ((hrx0.keep (St.refl _).drew.below).keep h11.below) hr11).mono ?_; rw [HeX0.out]; rintro e w12 ⟨rfl, h12⟩; have hU12 := hU11.call0 h12; have fw12_0_0 := hU12.bcell 0 rfl 0 rfl; have fw12_0_1 := hU12.bcell 0 rfl 1 rfl; have fw12_0_2 := hU12.bcell 0 rfl 2 rfl; have fw12_1_0 := hU12.bcell 1 rfl 0 rfl; have fw12_1_1 := hU12.bcell 1 rfl 1 rfl; have fw12_1_2 := hU12.bcell 1 rfl 2 rfl))
  have hS10 : St w.heap.size w w12 (box 29 w7.heap.size [.int .i64 p0, .int .i64 d0, .slice a7 xs0.length c7] :: box 24 w.heap.size [.int .i64 p0, .int .i64 d0, v0] :: ([row 2 t9 (iv xs2)] ++ own2 t8 tu8 xss1 ++ [row 2 (.slice a7 xs0.length c7) (iv xs0)] ++ [])) := (hU12).perm (by classical exact List.perm_iff_count.2 (fun a => by simp only [List.cons_append, List.nil_append, List.append_nil, List.count_append, List.count_cons, List.count_nil] <;> omega))
  clear b0_0 b0_1 b0_2 b1_0 b1_1 b1_2 hS9 hU11 hU12 h11 h12 hr11 hrx0 fw11_0_0 fw11_0_1 fw11_0_2 fw11_1_0 fw11_1_1 fw11_1_2 fw12_0_0 fw12_0_1 fw12_0_2 fw12_1_0 fw12_1_1 fw12_1_2
  have b0_0 := hS10.bcell 0 rfl 0 rfl
  have b0_1 := hS10.bcell 0 rfl 1 rfl
  have b0_2 := hS10.bcell 0 rfl 2 rfl
  have b1_0 := hS10.bcell 1 rfl 0 rfl
  have b1_1 := hS10.bcell 1 rfl 1 rfl
  have b1_2 := hS10.bcell 1 rfl 2 rfl
  go_wp2_with fail
  have hrx1 := (rii2 (hS10.perm (L' := own2 t8 tu8 xss1 ++ (box 29 w7.heap.size [.int .i64 p0, .int .i64 d0, .slice a7 xs0.length c7] :: box 24 w.heap.size [.int .i64 p0, .int .i64 d0, v0] :: ([row 2 t9 (iv xs2)] ++ [row 2 (.slice a7 xs0.length c7) (iv xs0)] ++ []))) (by classical exact List.perm_iff_count.2 (fun a => by simp only [List.cons_append, List.nil_append, List.append_nil, List.count_append, List.count_cons, List.count_nil] <;> omega))) Hl_x1.out)
  refine (toInt64SS_c v1 us1 xss1 _ (hS10.oldII hv1) Hz1_1.out Hz2_1.out).mono ?_
  rintro e w13 ⟨t13, tu13, rfl, hl13, h13⟩
  have hr13 := h13.rii hl13
  have hrx1 := hrx1.keep h13.below
  have hS11 : St w.heap.size w w13 (box 29 w7.heap.size [.int .i64 p0, .int .i64 d0, .slice a7 xs0.length c7] :: box 24 w.heap.size [.int .i64 p0, .int .i64 d0, v0] :: ([row 2 t9 (iv xs2)] ++ own2 t8 tu8 xss1 ++ [row 2 (.slice a7 xs0.length c7) (iv xs0)] ++ [])) := (hS10.call0 h13.out).perm (by classical exact List.perm_iff_count.2 (fun a => by simp only [List.cons_append, List.nil_append, List.append_nil, List.count_append, List.count_cons, List.count_nil] <;> omega))
  clear b0_0 b0_1 b0_2 b1_0 b1_1 b1_2 hS10 h13 hl13
  have b0_0 := hS11.bcell 0 rfl 0 rfl
  have b0_1 := hS11.bcell 0 rfl 1 rfl
  have b0_2 := hS11.bcell 0 rfl 2 rfl
  have b1_0 := hS11.bcell 1 rfl 0 rfl
  have b1_1 := hS11.bcell 1 rfl 1 rfl
  have b1_2 := hS11.bcell 1 rfl 2 rfl
  go_wp2_with fail
  refine (eqInt64SS_c _ _ tu8 tu13 xss1 xss1 _ hrx1 hr13).mono ?_
  rw [show decide (xss1 = xss1) = true from decide_eq_true rfl]
  rintro e w14 ⟨rfl, h14⟩
  have hS12 : St w.heap.size w w14 (box 29 w7.heap.size [.int .i64 p0, .int .i64 d0, .slice a7 xs0.length c7] :: box 24 w.heap.size [.int .i64 p0, .int .i64 d0, v0] :: ([row 2 t9 (iv xs2)] ++ own2 t8 tu8 xss1 ++ [row 2 (.slice a7 xs0.length c7) (iv xs0)] ++ [])) := (hS11.call0 h14).perm (by classical exact List.perm_iff_count.2 (fun a => by simp only [List.cons_append, List.nil_append, List.append_nil, List.count_append, List.count_cons, List.count_nil] <;> omega))
  clear b0_0 b0_1 b0_2 b1_0 b1_1 b1_2 hS11 h14 hr13 hrx1
  have b0_0 := hS12.bcell 0 rfl 0 rfl
  have b0_1 := hS12.bcell 0 rfl 1 rfl
  have b0_2 := hS12.bcell 0 rfl 2 rfl
  have b1_0 := hS12.bcell 1 rfl 0 rfl
  have b1_1 := hS12.bcell 1 rfl 1 rfl
  have b1_2 := hS12.bcell 1 rfl 2 rfl
  go_wp2_with fail
  have hrx2 := (St.rdI (hS12.perm (L' := [row 2 t9 (iv xs2)] ++ (box 29 w7.heap.size [.int .i64 p0, .int .i64 d0, .slice a7 xs0.length c7] :: box 24 w.heap.size [.int .i64 p0, .int .i64 d0, v0] :: (own2 t8 tu8 xss1 ++ [row 2 (.slice a7 xs0.length c7) (iv xs0)] ++ []))) (by classical exact List.perm_iff_count.2 (fun a => by simp only [List.cons_append, List.nil_append, List.append_nil, List.count_append, List.count_cons, List.count_nil] <;> omega))) 0 rfl)
  refine (toInt64S_c v2 xs2 _ (hS12.oldI hv2) Hl2.out).mono ?_
  rintro e w15 ⟨t15, rfl, h15⟩
  have hr15 := h15.rdI 0 rfl
  have hrx2 := hrx2.keep h15.below
  have hS13 : St w.heap.size w w15 (box 29 w7.heap.size [.int .i64 p0, .int .i64 d0, .slice a7 xs0.length c7] :: box 24 w.heap.size [.int .i64 p0, .int .i64 d0, v0] :: ([row 2 t9 (iv xs2)] ++ own2 t8 tu8 xss1 ++ [row 2 (.slice a7 xs0.length c7) (iv xs0)] ++ [])) := (hS12.call0 h15.out).perm (by classical exact List.perm_iff_count.2 (fun a => by simp only [List.cons_append, List.nil_append, List.append_nil, List.count_append, List.count_cons, List.count_nil] <;> omega))
  clear b0_0 b0_1 b0_2 b1_0 b1_1 b1_2 hS12 h15
  have b0_0 := hS13.bcell 0 rfl 0 rfl
  have b0_1 := hS13.bcell 0 rfl 1 rfl
  have b0_2 := hS13.bcell 0 rfl 2 rfl
  have b1_0 := hS13.bcell 1 rfl 0 rfl
  have b1_1 := hS13.bcell 1 rfl 1 rfl
  have b1_2 := hS13.bcell 1 rfl 2 rfl
  go_wp2_with fail
  refine (eqInt64S_c _ _ xs2 xs2 _ hrx2 hr15).mono ?_
  rw [show decide (xs2 = xs2) = true from decide_eq_true rfl]
  rintro e w16 ⟨rfl, h16⟩
  have hS14 : St w.heap.size w w16 (box 29 w7.heap.size [.int .i64 p0, .int .i64 d0, .slice a7 xs0.length c7] :: box 24 w.heap.size [.int .i64 p0, .int .i64 d0, v0] :: ([row 2 t9 (iv xs2)] ++ own2 t8 tu8 xss1 ++ [row 2 (.slice a7 xs0.length c7) (iv xs0)] ++ [])) := (hS13.call0 h16).perm (by classical exact List.perm_iff_count.2 (fun a => by simp only [List.cons_append, List.nil_append, List.append_nil, List.count_append, List.count_cons, List.count_nil] <;> omega))
  clear b0_0 b0_1 b0_2 b1_0 b1_1 b1_2 hS13 h16 hr15 hrx2
  have b0_0 := hS14.bcell 0 rfl 0 rfl
  have b0_1 := hS14.bcell 0 rfl 1 rfl
  have b0_2 := hS14.bcell 0 rfl 2 rfl
  have b1_0 := hS14.bcell 1 rfl 0 rfl
  have b1_1 := hS14.bcell 1 rfl 1 rfl
  have b1_2 := hS14.bcell 1 rfl 2 rfl
  go_wp2_with fail
  go_ret
  exact ⟨rfl, hS14.out⟩
end Go.Proofs.Ytmkfafhgcnbcaaa
