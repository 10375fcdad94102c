/- The law FnExactMatrixMul, walked. -/
import Derived.Test.YtmkfafhgcnbcaaaMMul
import Derived.Test.YtmkfafhgcnbcaaaFx
import Derived.Test.YtmkfafhgcnbcaaaPrfF
import Derived.Deep.RegionHeld3
import Derived.Deep.DrawnRows
namespace Go.Proofs.Ytmkfafhgcnbcaaa
set_option linter.unusedSimpArgs false
set_option linter.unusedVariables false
open Go.RowKit
attribute [local go_sem ↓] Go.wp_at_zero Go.wp_at_succ

theorem tot_rect {xss : List (List Int)} {n : Nat} (h : ∀ x ∈ xss, x.length = n) : tot xss = xss.length * n := by
  induction xss with
  | nil => simp [tot]
  | cons x r ih => rw [tot, ih (fun y hy => h y (by simp [hy])), h x (by simp), List.length_cons, Nat.add_mul]; omega
theorem tot_mulM (p d : Int) (xs : List Int) (xss yss : List (List Int)) : tot (mulM p d xs xss yss) ≤ 1048576 := by
  unfold mulM; split
  · rename_i h
    unfold mulC at h
    cases h1 : matOk p d xs xss
    · rw [h1] at h; simp at h
    · cases h2 : matOk p d xs yss
      · rw [h1, h2] at h; simp at h
      · have hm := matOk_t h1
        have hn := matOk_t h2
        rw [tot_rect (n := (xat yss 0).length) (fun x hx => by
          obtain ⟨r, _, rfl⟩ := List.mem_map.1 hx
          rw [mulR_len, trL_len]), mulL_len]
        have := Nat.mul_le_mul hm.rows hn.cols
        omega
  · simp [tot]

set_option maxHeartbeats 8000000 in
set_option maxRecDepth 100000 in
theorem FnExactMatrixMul_law (w : World) (p0 d0 : Int) (v0 : Value) (xs0 : List Int) (wd0 : (Lit.int .i64 d0).wf = true) (hv0 : RdI w v0 xs0) (v1 : Value) (us1 : List Value) (xss1 : List (List Int)) (hv1 : RII w v1 us1 xss1) (v2 : Value) (us2 : List Value) (xss2 : List (List Int)) (hv2 : RII w v2 us2 xss2) :
    Calls Try.prog 5 #[fv p0 d0 v0, v1, v2] w (GivesB w true) := by
  have hS0 := ((St.refl w).newboxF 24 #[.int .i64 p0, .int .i64 d0, v0])
  simp only [World.size_alloc] at hS0
  by_cases hz0 : szI 1048576 xs0 < 0
  · go_enter Try.func5, Try.ntmps5
    unfold fv
    go_wp2_with fail
    refine (szField_c p0 d0 v0 xs0 _ _ (hS0.oldI hv0) (by omega)).mono ?_
    rintro e e0 ⟨rfl, h0⟩
    have hT0 := hS0.call0 h0
    have b0_0_0 := hT0.bcell 0 rfl 0 rfl
    have b0_0_1 := hT0.bcell 0 rfl 1 rfl
    have b0_0_2 := hT0.bcell 0 rfl 2 rfl
    go_wp2_with fail
    go_ret
    exact ⟨rfl, hT0.out⟩
  have hzt0 := szI_top2 (left := 1048576) (xs := xs0) (by omega)
  have hzb0 : 0 ≤ szI 1048576 xs0 ∧ szI 1048576 xs0 ≤ 1048576 := by omega
  have Hz0 := Lib.hid (show xs0.length ≤ 1048576 by omega)
  by_cases hz1 : szII (szI 1048576 xs0) xss1 < 0
  · go_enter Try.func5, Try.ntmps5
    unfold fv
    go_wp2_with fail
    refine (szField_c p0 d0 v0 xs0 _ _ (hS0.oldI hv0) (by omega)).mono ?_
    rintro e e0 ⟨rfl, h0⟩
    have hT0 := hS0.call0 h0
    have b0_0_0 := hT0.bcell 0 rfl 0 rfl
    have b0_0_1 := hT0.bcell 0 rfl 1 rfl
    have b0_0_2 := hT0.bcell 0 rfl 2 rfl
    go_wp2_with fail
    refine (szInt64SS_c v1 us1 xss1 _ _ (hT0.oldII hv1) hzb0).mono ?_
    rintro e e1 ⟨rfl, rfl⟩
    have b1_0_0 := hT0.bcell 0 rfl 0 rfl
    have b1_0_1 := hT0.bcell 0 rfl 1 rfl
    have b1_0_2 := hT0.bcell 0 rfl 2 rfl
    go_wp2_with fail
    go_ret
    exact ⟨rfl, hT0.out⟩
  have hzb1 : 0 ≤ szII (szI 1048576 xs0) xss1 ∧ szII (szI 1048576 xs0) xss1 ≤ 1048576 := by have := szII_top (left := szI 1048576 xs0) (xss := xss1) (by omega); omega
  have hq1 := szII_le (left := szI 1048576 xs0) (xss := xss1) (by omega)
  have Hz1_1 := Lib.hid (show xss1.length ≤ 1048576 by have := hq1.1; omega)
  have Hz2_1 := Lib.hid (show ∀ xs ∈ xss1, xs.length ≤ 1048576 from fun xs hx => by have := hq1.2 xs hx; omega)
  have Ht1 := Lib.hid (show tot xss1 ≤ 1048576 by have := szII_tot (left := szI 1048576 xs0) (xss := xss1) (by omega); omega)
  clear hq1
  by_cases hz2 : szII (szII (szI 1048576 xs0) xss1) xss2 < 0
  · go_enter Try.func5, Try.ntmps5
    unfold fv
    go_wp2_with fail
    refine (szField_c p0 d0 v0 xs0 _ _ (hS0.oldI hv0) (by omega)).mono ?_
    rintro e e0 ⟨rfl, h0⟩
    have hT0 := hS0.call0 h0
    have b0_0_0 := hT0.bcell 0 rfl 0 rfl
    have b0_0_1 := hT0.bcell 0 rfl 1 rfl
    have b0_0_2 := hT0.bcell 0 rfl 2 rfl
    go_wp2_with fail
    refine (szInt64SS_c v1 us1 xss1 _ _ (hT0.oldII hv1) hzb0).mono ?_
    rintro e e1 ⟨rfl, rfl⟩
    have b1_0_0 := hT0.bcell 0 rfl 0 rfl
    have b1_0_1 := hT0.bcell 0 rfl 1 rfl
    have b1_0_2 := hT0.bcell 0 rfl 2 rfl
    go_wp2_with fail
    refine (szInt64SS_c v2 us2 xss2 _ _ (hT0.oldII hv2) hzb1).mono ?_
    rintro e e2 ⟨rfl, rfl⟩
    have b2_0_0 := hT0.bcell 0 rfl 0 rfl
    have b2_0_1 := hT0.bcell 0 rfl 1 rfl
    have b2_0_2 := hT0.bcell 0 rfl 2 rfl
    go_wp2_with fail
    go_ret
    exact ⟨rfl, hT0.out⟩
  have hzb2 : 0 ≤ szII (szII (szI 1048576 xs0) xss1) xss2 ∧ szII (szII (szI 1048576 xs0) xss1) xss2 ≤ 1048576 := by have := szII_top (left := szII (szI 1048576 xs0) xss1) (xss := xss2) (by omega); omega
  have hq2 := szII_le (left := szII (szI 1048576 xs0) xss1) (xss := xss2) (by omega)
  have Hz1_2 := Lib.hid (show xss2.length ≤ 1048576 by have := hq2.1; omega)
  have Hz2_2 := Lib.hid (show ∀ xs ∈ xss2, xs.length ≤ 1048576 from fun xs hx => by have := hq2.2 xs hx; omega)
  have Ht2 := Lib.hid (show tot xss2 ≤ 1048576 by have := szII_tot (left := szII (szI 1048576 xs0) xss1) (xss := xss2) (by omega); omega)
  clear hq2
  have hx0 := Hz0.out
  have hx1 := Ht1.out
  have hx2 := Ht2.out
  have Hb := Lib.hid (tot_mulM p0 d0 xs0 xss1 xss2)
  have Hs := fun w v0 v1 us1 v2 us2 (hv0 : RdI w v0 xs0) (hv1 : RII w v1 us1 xss1) (hv2 : RII w v2 us2 xss2) => Lib.hid (sMatrixMul_c p0 d0 v0 xs0 v1 us1 xss1 v2 us2 xss2 w hv0 hv1 hv2)
  have hd0 := wf_le wd0
  have Hi := fun w v0 v1 us1 v2 us2 (hv0 : RdI w v0 xs0) (hv1 : RII w v1 us1 xss1) (hv2 : RII w v2 us2 xss2) => Lib.hid (MatrixMul_c p0 d0 v0 xs0 v1 us1 xss1 v2 us2 xss2 w hv0 hv1 hv2 hd0)
  generalize mulM p0 d0 xs0 xss1 xss2 = R at Hb Hs Hi
  generalize mulC p0 d0 xs0 xss1 xss2 = cc at Hs Hi
  have hcc : (cc != cc) = false := by simp
  have HeR := Lib.hid (show decide (R = R) = true by simp)
  have ht := Hb.out
  have htt : ((1 + (tot R : Int)) != (1 + (tot R : Int))) = false := by simp
  have HeX0 := Lib.hid (show eqF p0 d0 p0 d0 xs0 xs0 = true by simp [eqF])
  have HeX1 := Lib.hid (show decide (xss1 = xss1) = true by simp)
  have HeX2 := Lib.hid (show decide (xss2 = xss2) = true by simp)
  go_enter Try.func5, Try.ntmps5
  unfold fv
  go_wp2_with fail
  refine (szField_c p0 d0 v0 xs0 _ _ (hS0.oldI hv0) (by omega)).mono ?_
  rintro e w1 ⟨rfl, h1⟩
  have hS1 : St w.heap.size w w1 (box 24 w.heap.size [.int .i64 p0, .int .i64 d0, v0] :: ([])) := (hS0.call0 h1).perm (by classical exact List.perm_iff_count.2 (fun a => by simp only [List.cons_append, List.nil_append, List.append_nil, List.count_append, List.count_cons, List.count_nil] <;> omega))
  clear hS0 h1
  have b0_0 := hS1.bcell 0 rfl 0 rfl
  have b0_1 := hS1.bcell 0 rfl 1 rfl
  have b0_2 := hS1.bcell 0 rfl 2 rfl
  go_wp2_with fail
  refine (szInt64SS_c v1 us1 xss1 _ _ (hS1.oldII hv1) hzb0).mono ?_
  rintro e w2 ⟨rfl, rfl⟩
  go_wp2_with fail
  refine (szInt64SS_c v2 us2 xss2 _ _ (hS1.oldII hv2) hzb1).mono ?_
  rintro e w3 ⟨rfl, rfl⟩
  go_wp2_with fail
  refine (toField_c p0 d0 v0 xs0 _ (hS1.oldI hv0) Hz0.out).mono ?_
  rintro e w4 ⟨t4, rfl, h4⟩
  have hr4 := h4.rdI 0 rfl
  have hS2 : St w.heap.size w w4 (box 24 w.heap.size [.int .i64 p0, .int .i64 d0, v0] :: ([])) := (hS1.call0 h4.out).perm (by classical exact List.perm_iff_count.2 (fun a => by simp only [List.cons_append, List.nil_append, List.append_nil, List.count_append, List.count_cons, List.count_nil] <;> omega))
  clear b0_0 b0_1 b0_2 hS1 h4
  have b0_0 := hS2.bcell 0 rfl 0 rfl
  have b0_1 := hS2.bcell 0 rfl 1 rfl
  have b0_2 := hS2.bcell 0 rfl 2 rfl
  go_wp2_with fail
  refine (toInt64SS_c v1 us1 xss1 _ (hS2.oldII hv1) Hz1_1.out Hz2_1.out).mono ?_
  rintro e w5 ⟨t5, tu5, rfl, hl5, h5⟩
  have hr5 := h5.rii hl5
  have hr4 := hr4.keep h5.below
  have hS3 : St w.heap.size w w5 (box 24 w.heap.size [.int .i64 p0, .int .i64 d0, v0] :: ([])) := (hS2.call0 h5.out).perm (by classical exact List.perm_iff_count.2 (fun a => by simp only [List.cons_append, List.nil_append, List.append_nil, List.count_append, List.count_cons, List.count_nil] <;> omega))
  clear b0_0 b0_1 b0_2 hS2 h5 hl5
  have b0_0 := hS3.bcell 0 rfl 0 rfl
  have b0_1 := hS3.bcell 0 rfl 1 rfl
  have b0_2 := hS3.bcell 0 rfl 2 rfl
  go_wp2_with fail
  refine (toInt64SS_c v2 us2 xss2 _ (hS3.oldII hv2) Hz1_2.out Hz2_2.out).mono ?_
  rintro e w6 ⟨t6, tu6, rfl, hl6, h6⟩
  have hr6 := h6.rii hl6
  have hr4 := hr4.keep h6.below
  have hr5 := hr5.keep h6.below
  have hS4 : St w.heap.size w w6 (box 24 w.heap.size [.int .i64 p0, .int .i64 d0, v0] :: ([])) := (hS3.call0 h6.out).perm (by classical exact List.perm_iff_count.2 (fun a => by simp only [List.cons_append, List.nil_append, List.append_nil, List.count_append, List.count_cons, List.count_nil] <;> omega))
  clear b0_0 b0_1 b0_2 hS3 h6 hl6
  have b0_0 := hS4.bcell 0 rfl 0 rfl
  have b0_1 := hS4.bcell 0 rfl 1 rfl
  have b0_2 := hS4.bcell 0 rfl 2 rfl
  go_wp2_with fail
  refine (Hs _ _ _ _ _ _ hr4 hr5 hr6).out.mono ?_
  rintro e w7 ⟨t7, tu7, rfl, hl7, h7⟩
  have Hl_w0 := Lib.hid hl7
  have hS5 : St w.heap.size w w7 (box 24 w.heap.size [.int .i64 p0, .int .i64 d0, v0] :: (own2 t7 tu7 R ++ [])) := (hS4.call h7).perm (by classical exact List.perm_iff_count.2 (fun a => by simp only [List.cons_append, List.nil_append, List.append_nil, List.count_append, List.count_cons, List.count_nil] <;> omega))
  clear b0_0 b0_1 b0_2 hS4 h7 hl7 hr4 hr5 hr6
  have b0_0 := hS5.bcell 0 rfl 0 rfl
  have b0_1 := hS5.bcell 0 rfl 1 rfl
  have b0_2 := hS5.bcell 0 rfl 2 rfl
  go_wp2_with fail
  refine (toField_c p0 d0 v0 xs0 _ (hS5.oldI hv0) Hz0.out).mono ?_
  rintro e w8 ⟨t8, rfl, h8⟩
  obtain ⟨a8, c8, rfl⟩ := (h8.rdI 0 rfl).shp'
  unfold fv
  have hS6 : St w.heap.size w _ (box 29 w8.heap.size [.int .i64 p0, .int .i64 d0, .slice a8 xs0.length c8] :: box 24 w.heap.size [.int .i64 p0, .int .i64 d0, v0] :: ([row 2 (.slice a8 xs0.length c8) (iv xs0)] ++ own2 t7 tu7 R ++ [])) := ((hS5.call h8).newboxF 29 #[.int .i64 p0, .int .i64 d0, .slice a8 xs0.length c8]).perm (by classical exact List.perm_iff_count.2 (fun a => by simp only [List.cons_append, List.nil_append, List.append_nil, List.count_append, List.count_cons, List.count_nil] <;> omega))
  clear b0_0 b0_1 b0_2 hS5 h8
  have b0_0 := hS6.bcell 0 rfl 0 rfl
  have b0_1 := hS6.bcell 0 rfl 1 rfl
  have b0_2 := hS6.bcell 0 rfl 2 rfl
  have b1_0 := hS6.bcell 1 rfl 0 rfl
  have b1_1 := hS6.bcell 1 rfl 1 rfl
  have b1_2 := hS6.bcell 1 rfl 2 rfl
  go_wp2_with fail
  refine (toInt64SS_c v1 us1 xss1 _ (hS6.oldII hv1) Hz1_1.out Hz2_1.out).mono ?_
  rintro e w9 ⟨t9, tu9, rfl, hl9, h9⟩
  have Hl_x1 := Lib.hid hl9
  have hS7 : St w.heap.size w w9 (box 29 w8.heap.size [.int .i64 p0, .int .i64 d0, .slice a8 xs0.length c8] :: box 24 w.heap.size [.int .i64 p0, .int .i64 d0, v0] :: (own2 t9 tu9 xss1 ++ [row 2 (.slice a8 xs0.length c8) (iv xs0)] ++ own2 t7 tu7 R ++ [])) := (hS6.call h9).perm (by classical exact List.perm_iff_count.2 (fun a => by simp only [List.cons_append, List.nil_append, List.append_nil, List.count_append, List.count_cons, List.count_nil] <;> omega))
  clear b0_0 b0_1 b0_2 b1_0 b1_1 b1_2 hS6 h9 hl9
  have b0_0 := hS7.bcell 0 rfl 0 rfl
  have b0_1 := hS7.bcell 0 rfl 1 rfl
  have b0_2 := hS7.bcell 0 rfl 2 rfl
  have b1_0 := hS7.bcell 1 rfl 0 rfl
  have b1_1 := hS7.bcell 1 rfl 1 rfl
  have b1_2 := hS7.bcell 1 rfl 2 rfl
  go_wp2_with fail
  refine (toInt64SS_c v2 us2 xss2 _ (hS7.oldII hv2) Hz1_2.out Hz2_2.out).mono ?_
  rintro e w10 ⟨t10, tu10, rfl, hl10, h10⟩
  have Hl_x2 := Lib.hid hl10
  have hS8 : St w.heap.size w w10 (box 29 w8.heap.size [.int .i64 p0, .int .i64 d0, .slice a8 xs0.length c8] :: box 24 w.heap.size [.int .i64 p0, .int .i64 d0, v0] :: (own2 t10 tu10 xss2 ++ own2 t9 tu9 xss1 ++ [row 2 (.slice a8 xs0.length c8) (iv xs0)] ++ own2 t7 tu7 R ++ [])) := (hS7.call h10).perm (by classical exact List.perm_iff_count.2 (fun a => by simp only [List.cons_append, List.nil_append, List.append_nil, List.count_append, List.count_cons, List.count_nil] <;> omega))
  clear b0_0 b0_1 b0_2 b1_0 b1_1 b1_2 hS7 h10 hl10
  have b0_0 := hS8.bcell 0 rfl 0 rfl
  have b0_1 := hS8.bcell 0 rfl 1 rfl
  have b0_2 := hS8.bcell 0 rfl 2 rfl
  have b1_0 := hS8.bcell 1 rfl 0 rfl
  have b1_1 := hS8.bcell 1 rfl 1 rfl
  have b1_2 := hS8.bcell 1 rfl 2 rfl
  go_wp2_with fail
  refine (Hi _ _ _ _ _ _ (St.rdI (hS8.perm (L' := [row 2 (.slice a8 xs0.length c8) (iv xs0)] ++ (box 29 w8.heap.size [.int .i64 p0, .int .i64 d0, .slice a8 xs0.length c8] :: box 24 w.heap.size [.int .i64 p0, .int .i64 d0, v0] :: (own2 t10 tu10 xss2 ++ own2 t9 tu9 xss1 ++ own2 t7 tu7 R ++ []))) (by classical exact List.perm_iff_count.2 (fun a => by simp only [List.cons_append, List.nil_append, List.append_nil, List.count_append, List.count_cons, List.count_nil] <;> omega))) 0 rfl) (rii2 (hS8.perm (L' := own2 t9 tu9 xss1 ++ (box 29 w8.heap.size [.int .i64 p0, .int .i64 d0, .slice a8 xs0.length c8] :: box 24 w.heap.size [.int .i64 p0, .int .i64 d0, v0] :: (own2 t10 tu10 xss2 ++ [row 2 (.slice a8 xs0.length c8) (iv xs0)] ++ own2 t7 tu7 R ++ []))) (by classical exact List.perm_iff_count.2 (fun a => by simp only [List.cons_append, List.nil_append, List.append_nil, List.count_append, List.count_cons, List.count_nil] <;> omega))) Hl_x1.out) (rii2 (hS8.perm (L' := own2 t10 tu10 xss2 ++ (box 29 w8.heap.size [.int .i64 p0, .int .i64 d0, .slice a8 xs0.length c8] :: box 24 w.heap.size [.int .i64 p0, .int .i64 d0, v0] :: (own2 t9 tu9 xss1 ++ [row 2 (.slice a8 xs0.length c8) (iv xs0)] ++ own2 t7 tu7 R ++ []))) (by classical exact List.perm_iff_count.2 (fun a => by simp only [List.cons_append, List.nil_append, List.append_nil, List.count_append, List.count_cons, List.count_nil] <;> omega))) Hl_x2.out)).out.mono ?_
  rintro e w11 ⟨t11, tu11, rfl, hl11, h11⟩
  have Hl_g0 := Lib.hid hl11
  have hS9 : St w.heap.size w w11 (box 29 w8.heap.size [.int .i64 p0, .int .i64 d0, .slice a8 xs0.length c8] :: box 24 w.heap.size [.int .i64 p0, .int .i64 d0, v0] :: (own2 t11 tu11 R ++ own2 t10 tu10 xss2 ++ own2 t9 tu9 xss1 ++ [row 2 (.slice a8 xs0.length c8) (iv xs0)] ++ own2 t7 tu7 R ++ [])) := (hS8.call h11).perm (by classical exact List.perm_iff_count.2 (fun a => by simp only [List.cons_append, List.nil_append, List.append_nil, List.count_append, List.count_cons, List.count_nil] <;> omega))
  clear b0_0 b0_1 b0_2 b1_0 b1_1 b1_2 hS8 h11 hl11
  have b0_0 := hS9.bcell 0 rfl 0 rfl
  have b0_1 := hS9.bcell 0 rfl 1 rfl
  have b0_2 := hS9.bcell 0 rfl 2 rfl
  have b1_0 := hS9.bcell 1 rfl 0 rfl
  have b1_1 := hS9.bcell 1 rfl 1 rfl
  have b1_2 := hS9.bcell 1 rfl 2 rfl
  go_wp2_with fail
  refine (eqInt64SS_c _ _ tu11 tu7 R R _ (rii2 (hS9.perm (L' := own2 t11 tu11 R ++ (box 29 w8.heap.size [.int .i64 p0, .int .i64 d0, .slice a8 xs0.length c8] :: box 24 w.heap.size [.int .i64 p0, .int .i64 d0, v0] :: (own2 t10 tu10 xss2 ++ own2 t9 tu9 xss1 ++ [row 2 (.slice a8 xs0.length c8) (iv xs0)] ++ own2 t7 tu7 R ++ []))) (by classical exact List.perm_iff_count.2 (fun a => by simp only [List.cons_append, List.nil_append, List.append_nil, List.count_append, List.count_cons, List.count_nil] <;> omega))) Hl_g0.out) (rii2 (hS9.perm (L' := own2 t7 tu7 R ++ (box 29 w8.heap.size [.int .i64 p0, .int .i64 d0, .slice a8 xs0.length c8] :: box 24 w.heap.size [.int .i64 p0, .int .i64 d0, v0] :: (own2 t11 tu11 R ++ own2 t10 tu10 xss2 ++ own2 t9 tu9 xss1 ++ [row 2 (.slice a8 xs0.length c8) (iv xs0)] ++ []))) (by classical exact List.perm_iff_count.2 (fun a => by simp only [List.cons_append, List.nil_append, List.append_nil, List.count_append, List.count_cons, List.count_nil] <;> omega))) Hl_w0.out)).mono ?_
  rw [show decide (R = R) = true from decide_eq_true rfl]
  rintro e w12 ⟨rfl, h12⟩
  have hS10 : St w.heap.size w w12 (box 29 w8.heap.size [.int .i64 p0, .int .i64 d0, .slice a8 xs0.length c8] :: box 24 w.heap.size [.int .i64 p0, .int .i64 d0, v0] :: (own2 t11 tu11 R ++ own2 t10 tu10 xss2 ++ own2 t9 tu9 xss1 ++ [row 2 (.slice a8 xs0.length c8) (iv xs0)] ++ own2 t7 tu7 R ++ [])) := (hS9.call0 h12).perm (by classical exact List.perm_iff_count.2 (fun a => by simp only [List.cons_append, List.nil_append, List.append_nil, List.count_append, List.count_cons, List.count_nil] <;> omega))
  clear b0_0 b0_1 b0_2 b1_0 b1_1 b1_2 hS9 h12
  have b0_0 := hS10.bcell 0 rfl 0 rfl
  have b0_1 := hS10.bcell 0 rfl 1 rfl
  have b0_2 := hS10.bcell 0 rfl 2 rfl
  have b1_0 := hS10.bcell 1 rfl 0 rfl
  have b1_1 := hS10.bcell 1 rfl 1 rfl
  have b1_2 := hS10.bcell 1 rfl 2 rfl
  go_wp2_with fail
  have hrx0 := (St.rdI (hS10.perm (L' := [row 2 (.slice a8 xs0.length c8) (iv xs0)] ++ (box 29 w8.heap.size [.int .i64 p0, .int .i64 d0, .slice a8 xs0.length c8] :: box 24 w.heap.size [.int .i64 p0, .int .i64 d0, v0] :: (own2 t11 tu11 R ++ own2 t10 tu10 xss2 ++ own2 t9 tu9 xss1 ++ own2 t7 tu7 R ++ []))) (by classical exact List.perm_iff_count.2 (fun a => by simp only [List.cons_append, List.nil_append, List.append_nil, List.count_append, List.count_cons, List.count_nil] <;> omega))) 0 rfl)
  go_region_held3 (fun w' => w'.cell? ⟨w8.heap.size, 0, none⟩ = some (.int .i64 p0) ∧ w'.cell? ⟨w8.heap.size, 1, none⟩ = some (.int .i64 d0) ∧ w'.cell? ⟨w8.heap.size, 2, none⟩ = some (.slice a8 xs0.length c8) ∧ w'.cell? ⟨w.heap.size, 0, none⟩ = some (.int .i64 p0) ∧ w'.cell? ⟨w.heap.size, 1, none⟩ = some (.int .i64 d0) ∧ w'.cell? ⟨w.heap.size, 2, none⟩ = some (v0)) (go_keep)
    (first
    | (go_at_call 19; refine (toField_c p0 d0 v0 xs0 _ (hS10.drew.oldI hv0) Hz0.out).mono ?_; rintro e w13 ⟨t13, rfl, h13⟩; have hr13 := h13.rdI 0 rfl; have hU13 := hS10.drew.call0 h13.out; have fw13_0_0 := hU13.bcell 0 rfl 0 rfl; have fw13_0_1 := hU13.bcell 0 rfl 1 rfl; have fw13_0_2 := hU13.bcell 0 rfl 2 rfl; have fw13_1_0 := hU13.bcell 1 rfl 0 rfl; have fw13_1_1 := hU13.bcell 1 rfl 1 rfl; have fw13_1_2 := hU13.bcell 1 rfl 2 rfl)
    | (go_at_call 22; refine (eqField_c p0 d0 p0 d0 _ _ xs0 xs0 _ ((hrx0.keep (St.refl _).drew.below).keep h13.below) hr13).mono ?_; rw [HeX0.out]; rintro e w14 ⟨rfl, h14⟩; have hU14 := hU13.call0 h14; have fw14_0_0 := hU14.bcell 0 rfl 0 rfl; have fw14_0_1 := hU14.bcell 0 rfl 1 rfl; have fw14_0_2 := hU14.bcell 0 rfl 2 rfl; have fw14_1_0 := hU14.bcell 1 rfl 0 rfl; have fw14_1_1 := hU14.bcell 1 rfl 1 rfl; have fw14_1_2 := hU14.bcell 1 rfl 2 rfl))
  have hS11 : St w.heap.size w w14 (box 29 w8.heap.size [.int .i64 p0, .int .i64 d0, .slice a8 xs0.length c8] :: box 24 w.heap.size [.int .i64 p0, .int .i64 d0, v0] :: (own2 t11 tu11 R ++ own2 t10 tu10 xss2 ++ own2 t9 tu9 xss1 ++ [row 2 (.slice a8 xs0.length c8) (iv xs0)] ++ own2 t7 tu7 R ++ [])) := (hU14).perm (by classical exact List.perm_iff_count.2 (fun a => by simp only [List.cons_append, List.nil_append, List.append_nil, List.count_append, List.count_cons, List.count_nil] <;> omega))
  clear b0_0 b0_1 b0_2 b1_0 b1_1 b1_2 hS10 hU13 hU14 h13 h14 hr13 hrx0 fw13_0_0 fw13_0_1 fw13_0_2 fw13_1_0 fw13_1_1 fw13_1_2 fw14_0_0 fw14_0_1 fw14_0_2 fw14_1_0 fw14_1_1 fw14_1_2
  have b0_0 := hS11.bcell 0 rfl 0 rfl
  have b0_1 := hS11.bcell 0 rfl 1 rfl
  have b0_2 := hS11.bcell 0 rfl 2 rfl
  have b1_0 := hS11.bcell 1 rfl 0 rfl
  have b1_1 := hS11.bcell 1 rfl 1 rfl
  have b1_2 := hS11.bcell 1 rfl 2 rfl
  go_wp2_with fail
  have hrx1 := (rii2 (hS11.perm (L' := own2 t9 tu9 xss1 ++ (box 29 w8.heap.size [.int .i64 p0, .int .i64 d0, .slice a8 xs0.length c8] :: box 24 w.heap.size [.int .i64 p0, .int .i64 d0, v0] :: (own2 t11 tu11 R ++ own2 t10 tu10 xss2 ++ [row 2 (.slice a8 xs0.length c8) (iv xs0)] ++ own2 t7 tu7 R ++ []))) (by classical exact List.perm_iff_count.2 (fun a => by simp only [List.cons_append, List.nil_append, List.append_nil, List.count_append, List.count_cons, List.count_nil] <;> omega))) Hl_x1.out)
  refine (toInt64SS_c v1 us1 xss1 _ (hS11.oldII hv1) Hz1_1.out Hz2_1.out).mono ?_
  rintro e w15 ⟨t15, tu15, rfl, hl15, h15⟩
  have hr15 := h15.rii hl15
  have hrx1 := hrx1.keep h15.below
  have hS12 : St w.heap.size w w15 (box 29 w8.heap.size [.int .i64 p0, .int .i64 d0, .slice a8 xs0.length c8] :: box 24 w.heap.size [.int .i64 p0, .int .i64 d0, v0] :: (own2 t11 tu11 R ++ own2 t10 tu10 xss2 ++ own2 t9 tu9 xss1 ++ [row 2 (.slice a8 xs0.length c8) (iv xs0)] ++ own2 t7 tu7 R ++ [])) := (hS11.call0 h15.out).perm (by classical exact List.perm_iff_count.2 (fun a => by simp only [List.cons_append, List.nil_append, List.append_nil, List.count_append, List.count_cons, List.count_nil] <;> omega))
  clear b0_0 b0_1 b0_2 b1_0 b1_1 b1_2 hS11 h15 hl15
  have b0_0 := hS12.bcell 0 rfl 0 rfl
  have b0_1 := hS12.bcell 0 rfl 1 rfl
  have b0_2 := hS12.bcell 0 rfl 2 rfl
  have b1_0 := hS12.bcell 1 rfl 0 rfl
  have b1_1 := hS12.bcell 1 rfl 1 rfl
  have b1_2 := hS12.bcell 1 rfl 2 rfl
  go_wp2_with fail
  refine (eqInt64SS_c _ _ tu9 tu15 xss1 xss1 _ hrx1 hr15).mono ?_
  rw [show decide (xss1 = xss1) = true from decide_eq_true rfl]
  rintro e w16 ⟨rfl, h16⟩
  have hS13 : St w.heap.size w w16 (box 29 w8.heap.size [.int .i64 p0, .int .i64 d0, .slice a8 xs0.length c8] :: box 24 w.heap.size [.int .i64 p0, .int .i64 d0, v0] :: (own2 t11 tu11 R ++ own2 t10 tu10 xss2 ++ own2 t9 tu9 xss1 ++ [row 2 (.slice a8 xs0.length c8) (iv xs0)] ++ own2 t7 tu7 R ++ [])) := (hS12.call0 h16).perm (by classical exact List.perm_iff_count.2 (fun a => by simp only [List.cons_append, List.nil_append, List.append_nil, List.count_append, List.count_cons, List.count_nil] <;> omega))
  clear b0_0 b0_1 b0_2 b1_0 b1_1 b1_2 hS12 h16 hr15 hrx1
  have b0_0 := hS13.bcell 0 rfl 0 rfl
  have b0_1 := hS13.bcell 0 rfl 1 rfl
  have b0_2 := hS13.bcell 0 rfl 2 rfl
  have b1_0 := hS13.bcell 1 rfl 0 rfl
  have b1_1 := hS13.bcell 1 rfl 1 rfl
  have b1_2 := hS13.bcell 1 rfl 2 rfl
  go_wp2_with fail
  have hrx2 := (rii2 (hS13.perm (L' := own2 t10 tu10 xss2 ++ (box 29 w8.heap.size [.int .i64 p0, .int .i64 d0, .slice a8 xs0.length c8] :: box 24 w.heap.size [.int .i64 p0, .int .i64 d0, v0] :: (own2 t11 tu11 R ++ own2 t9 tu9 xss1 ++ [row 2 (.slice a8 xs0.length c8) (iv xs0)] ++ own2 t7 tu7 R ++ []))) (by classical exact List.perm_iff_count.2 (fun a => by simp only [List.cons_append, List.nil_append, List.append_nil, List.count_append, List.count_cons, List.count_nil] <;> omega))) Hl_x2.out)
  refine (toInt64SS_c v2 us2 xss2 _ (hS13.oldII hv2) Hz1_2.out Hz2_2.out).mono ?_
  rintro e w17 ⟨t17, tu17, rfl, hl17, h17⟩
  have hr17 := h17.rii hl17
  have hrx2 := hrx2.keep h17.below
  have hS14 : St w.heap.size w w17 (box 29 w8.heap.size [.int .i64 p0, .int .i64 d0, .slice a8 xs0.length c8] :: box 24 w.heap.size [.int .i64 p0, .int .i64 d0, v0] :: (own2 t11 tu11 R ++ own2 t10 tu10 xss2 ++ own2 t9 tu9 xss1 ++ [row 2 (.slice a8 xs0.length c8) (iv xs0)] ++ own2 t7 tu7 R ++ [])) := (hS13.call0 h17.out).perm (by classical exact List.perm_iff_count.2 (fun a => by simp only [List.cons_append, List.nil_append, List.append_nil, List.count_append, List.count_cons, List.count_nil] <;> omega))
  clear b0_0 b0_1 b0_2 b1_0 b1_1 b1_2 hS13 h17 hl17
  have b0_0 := hS14.bcell 0 rfl 0 rfl
  have b0_1 := hS14.bcell 0 rfl 1 rfl
  have b0_2 := hS14.bcell 0 rfl 2 rfl
  have b1_0 := hS14.bcell 1 rfl 0 rfl
  have b1_1 := hS14.bcell 1 rfl 1 rfl
  have b1_2 := hS14.bcell 1 rfl 2 rfl
  go_wp2_with fail
  refine (eqInt64SS_c _ _ tu10 tu17 xss2 xss2 _ hrx2 hr17).mono ?_
  rw [show decide (xss2 = xss2) = true from decide_eq_true rfl]
  rintro e w18 ⟨rfl, h18⟩
  have hS15 : St w.heap.size w w18 (box 29 w8.heap.size [.int .i64 p0, .int .i64 d0, .slice a8 xs0.length c8] :: box 24 w.heap.size [.int .i64 p0, .int .i64 d0, v0] :: (own2 t11 tu11 R ++ own2 t10 tu10 xss2 ++ own2 t9 tu9 xss1 ++ [row 2 (.slice a8 xs0.length c8) (iv xs0)] ++ own2 t7 tu7 R ++ [])) := (hS14.call0 h18).perm (by classical exact List.perm_iff_count.2 (fun a => by simp only [List.cons_append, List.nil_append, List.append_nil, List.count_append, List.count_cons, List.count_nil] <;> omega))
  clear b0_0 b0_1 b0_2 b1_0 b1_1 b1_2 hS14 h18 hr17 hrx2
  have b0_0 := hS15.bcell 0 rfl 0 rfl
  have b0_1 := hS15.bcell 0 rfl 1 rfl
  have b0_2 := hS15.bcell 0 rfl 2 rfl
  have b1_0 := hS15.bcell 1 rfl 0 rfl
  have b1_1 := hS15.bcell 1 rfl 1 rfl
  have b1_2 := hS15.bcell 1 rfl 2 rfl
  go_wp2_with fail
  refine (markField_c p0 d0 _ xs0 1 (by omega) (by omega) (hS15.perm (L' := [row 2 (.slice a8 xs0.length c8) (iv xs0)] ++ (box 29 w8.heap.size [.int .i64 p0, .int .i64 d0, .slice a8 xs0.length c8] :: box 24 w.heap.size [.int .i64 p0, .int .i64 d0, v0] :: (own2 t11 tu11 R ++ own2 t10 tu10 xss2 ++ own2 t9 tu9 xss1 ++ own2 t7 tu7 R ++ []))) (by classical exact List.perm_iff_count.2 (fun a => by simp only [List.cons_append, List.nil_append, List.append_nil, List.count_append, List.count_cons, List.count_nil] <;> omega)))).mono ?_
  rintro e w19 ⟨rfl, hm19⟩
  have hS16 : St w.heap.size w w19 (box 29 w8.heap.size [.int .i64 p0, .int .i64 d0, .slice a8 xs0.length c8] :: box 24 w.heap.size [.int .i64 p0, .int .i64 d0, v0] :: (own2 t11 tu11 R ++ own2 t10 tu10 xss2 ++ own2 t9 tu9 xss1 ++ [row 2 (.slice a8 xs0.length c8) (iv (mrk 1 xs0.length))] ++ own2 t7 tu7 R ++ [])) := (hm19).perm (by classical exact List.perm_iff_count.2 (fun a => by simp only [List.cons_append, List.nil_append, List.append_nil, List.count_append, List.count_cons, List.count_nil] <;> omega))
  clear b0_0 b0_1 b0_2 b1_0 b1_1 b1_2 hS15 hm19
  have b0_0 := hS16.bcell 0 rfl 0 rfl
  have b0_1 := hS16.bcell 0 rfl 1 rfl
  have b0_2 := hS16.bcell 0 rfl 2 rfl
  have b1_0 := hS16.bcell 1 rfl 0 rfl
  have b1_1 := hS16.bcell 1 rfl 1 rfl
  have b1_2 := hS16.bcell 1 rfl 2 rfl
  go_wp2_with fail
  refine (markInt64SS_c _ tu9 xss1 (1 + xs0.length) (by omega) (by omega) Hl_x1.out (hS16.perm (L' := own2 t9 tu9 xss1 ++ (box 29 w8.heap.size [.int .i64 p0, .int .i64 d0, .slice a8 xs0.length c8] :: box 24 w.heap.size [.int .i64 p0, .int .i64 d0, v0] :: (own2 t11 tu11 R ++ own2 t10 tu10 xss2 ++ [row 2 (.slice a8 xs0.length c8) (iv (mrk 1 xs0.length))] ++ own2 t7 tu7 R ++ []))) (by classical exact List.perm_iff_count.2 (fun a => by simp only [List.cons_append, List.nil_append, List.append_nil, List.count_append, List.count_cons, List.count_nil] <;> omega)))).mono ?_
  rintro e w20 ⟨rfl, hm20⟩
  have hS17 : St w.heap.size w w20 (box 29 w8.heap.size [.int .i64 p0, .int .i64 d0, .slice a8 xs0.length c8] :: box 24 w.heap.size [.int .i64 p0, .int .i64 d0, v0] :: (own2 t11 tu11 R ++ own2 t10 tu10 xss2 ++ own2 t9 tu9 (mrkL (1 + xs0.length) xss1) ++ [row 2 (.slice a8 xs0.length c8) (iv (mrk 1 xs0.length))] ++ own2 t7 tu7 R ++ [])) := (hm20).perm (by classical exact List.perm_iff_count.2 (fun a => by simp only [List.cons_append, List.nil_append, List.append_nil, List.count_append, List.count_cons, List.count_nil] <;> omega))
  clear b0_0 b0_1 b0_2 b1_0 b1_1 b1_2 hS16 hm20
  have b0_0 := hS17.bcell 0 rfl 0 rfl
  have b0_1 := hS17.bcell 0 rfl 1 rfl
  have b0_2 := hS17.bcell 0 rfl 2 rfl
  have b1_0 := hS17.bcell 1 rfl 0 rfl
  have b1_1 := hS17.bcell 1 rfl 1 rfl
  have b1_2 := hS17.bcell 1 rfl 2 rfl
  go_wp2_with fail
  refine (markInt64SS_c _ tu10 xss2 (1 + xs0.length + tot xss1) (by omega) (by omega) Hl_x2.out (hS17.perm (L' := own2 t10 tu10 xss2 ++ (box 29 w8.heap.size [.int .i64 p0, .int .i64 d0, .slice a8 xs0.length c8] :: box 24 w.heap.size [.int .i64 p0, .int .i64 d0, v0] :: (own2 t11 tu11 R ++ own2 t9 tu9 (mrkL (1 + xs0.length) xss1) ++ [row 2 (.slice a8 xs0.length c8) (iv (mrk 1 xs0.length))] ++ own2 t7 tu7 R ++ []))) (by classical exact List.perm_iff_count.2 (fun a => by simp only [List.cons_append, List.nil_append, List.append_nil, List.count_append, List.count_cons, List.count_nil] <;> omega)))).mono ?_
  rintro e w21 ⟨rfl, hm21⟩
  have hS18 : St w.heap.size w w21 (box 29 w8.heap.size [.int .i64 p0, .int .i64 d0, .slice a8 xs0.length c8] :: box 24 w.heap.size [.int .i64 p0, .int .i64 d0, v0] :: (own2 t11 tu11 R ++ own2 t10 tu10 (mrkL (1 + xs0.length + tot xss1) xss2) ++ own2 t9 tu9 (mrkL (1 + xs0.length) xss1) ++ [row 2 (.slice a8 xs0.length c8) (iv (mrk 1 xs0.length))] ++ own2 t7 tu7 R ++ [])) := (hm21).perm (by classical exact List.perm_iff_count.2 (fun a => by simp only [List.cons_append, List.nil_append, List.append_nil, List.count_append, List.count_cons, List.count_nil] <;> omega))
  clear b0_0 b0_1 b0_2 b1_0 b1_1 b1_2 hS17 hm21
  have b0_0 := hS18.bcell 0 rfl 0 rfl
  have b0_1 := hS18.bcell 0 rfl 1 rfl
  have b0_2 := hS18.bcell 0 rfl 2 rfl
  have b1_0 := hS18.bcell 1 rfl 0 rfl
  have b1_1 := hS18.bcell 1 rfl 1 rfl
  have b1_2 := hS18.bcell 1 rfl 2 rfl
  go_wp2_with fail
  refine (eqInt64SS_c _ _ tu11 tu7 R R _ (rii2 (hS18.perm (L' := own2 t11 tu11 R ++ (box 29 w8.heap.size [.int .i64 p0, .int .i64 d0, .slice a8 xs0.length c8] :: box 24 w.heap.size [.int .i64 p0, .int .i64 d0, v0] :: (own2 t10 tu10 (mrkL (1 + xs0.length + tot xss1) xss2) ++ own2 t9 tu9 (mrkL (1 + xs0.length) xss1) ++ [row 2 (.slice a8 xs0.length c8) (iv (mrk 1 xs0.length))] ++ own2 t7 tu7 R ++ []))) (by classical exact List.perm_iff_count.2 (fun a => by simp only [List.cons_append, List.nil_append, List.append_nil, List.count_append, List.count_cons, List.count_nil] <;> omega))) Hl_g0.out) (rii2 (hS18.perm (L' := own2 t7 tu7 R ++ (box 29 w8.heap.size [.int .i64 p0, .int .i64 d0, .slice a8 xs0.length c8] :: box 24 w.heap.size [.int .i64 p0, .int .i64 d0, v0] :: (own2 t11 tu11 R ++ own2 t10 tu10 (mrkL (1 + xs0.length + tot xss1) xss2) ++ own2 t9 tu9 (mrkL (1 + xs0.length) xss1) ++ [row 2 (.slice a8 xs0.length c8) (iv (mrk 1 xs0.length))] ++ []))) (by classical exact List.perm_iff_count.2 (fun a => by simp only [List.cons_append, List.nil_append, List.append_nil, List.count_append, List.count_cons, List.count_nil] <;> omega))) Hl_w0.out)).mono ?_
  rw [show decide (R = R) = true from decide_eq_true rfl]
  rintro e w22 ⟨rfl, h22⟩
  have hS19 : St w.heap.size w w22 (box 29 w8.heap.size [.int .i64 p0, .int .i64 d0, .slice a8 xs0.length c8] :: box 24 w.heap.size [.int .i64 p0, .int .i64 d0, v0] :: (own2 t11 tu11 R ++ own2 t10 tu10 (mrkL (1 + xs0.length + tot xss1) xss2) ++ own2 t9 tu9 (mrkL (1 + xs0.length) xss1) ++ [row 2 (.slice a8 xs0.length c8) (iv (mrk 1 xs0.length))] ++ own2 t7 tu7 R ++ [])) := (hS18.call0 h22).perm (by classical exact List.perm_iff_count.2 (fun a => by simp only [List.cons_append, List.nil_append, List.append_nil, List.count_append, List.count_cons, List.count_nil] <;> omega))
  clear b0_0 b0_1 b0_2 b1_0 b1_1 b1_2 hS18 h22
  have b0_0 := hS19.bcell 0 rfl 0 rfl
  have b0_1 := hS19.bcell 0 rfl 1 rfl
  have b0_2 := hS19.bcell 0 rfl 2 rfl
  have b1_0 := hS19.bcell 1 rfl 0 rfl
  have b1_1 := hS19.bcell 1 rfl 1 rfl
  have b1_2 := hS19.bcell 1 rfl 2 rfl
  go_wp2_with fail
  refine (markInt64SS_c _ tu11 R 1 (by omega) (by omega) Hl_g0.out (hS19.perm (L' := own2 t11 tu11 R ++ (box 29 w8.heap.size [.int .i64 p0, .int .i64 d0, .slice a8 xs0.length c8] :: box 24 w.heap.size [.int .i64 p0, .int .i64 d0, v0] :: (own2 t10 tu10 (mrkL (1 + xs0.length + tot xss1) xss2) ++ own2 t9 tu9 (mrkL (1 + xs0.length) xss1) ++ [row 2 (.slice a8 xs0.length c8) (iv (mrk 1 xs0.length))] ++ own2 t7 tu7 R ++ []))) (by classical exact List.perm_iff_count.2 (fun a => by simp only [List.cons_append, List.nil_append, List.append_nil, List.count_append, List.count_cons, List.count_nil] <;> omega)))).mono ?_
  rintro e w23 ⟨rfl, hm23⟩
  have hS20 : St w.heap.size w w23 (box 29 w8.heap.size [.int .i64 p0, .int .i64 d0, .slice a8 xs0.length c8] :: box 24 w.heap.size [.int .i64 p0, .int .i64 d0, v0] :: (own2 t11 tu11 (mrkL 1 R) ++ own2 t10 tu10 (mrkL (1 + xs0.length + tot xss1) xss2) ++ own2 t9 tu9 (mrkL (1 + xs0.length) xss1) ++ [row 2 (.slice a8 xs0.length c8) (iv (mrk 1 xs0.length))] ++ own2 t7 tu7 R ++ [])) := (hm23).perm (by classical exact List.perm_iff_count.2 (fun a => by simp only [List.cons_append, List.nil_append, List.append_nil, List.count_append, List.count_cons, List.count_nil] <;> omega))
  clear b0_0 b0_1 b0_2 b1_0 b1_1 b1_2 hS19 hm23
  have b0_0 := hS20.bcell 0 rfl 0 rfl
  have b0_1 := hS20.bcell 0 rfl 1 rfl
  have b0_2 := hS20.bcell 0 rfl 2 rfl
  have b1_0 := hS20.bcell 1 rfl 0 rfl
  have b1_1 := hS20.bcell 1 rfl 1 rfl
  have b1_2 := hS20.bcell 1 rfl 2 rfl
  go_wp2_with fail
  refine (heldInt64SS_c _ tu11 R 1 _ (by omega) (by omega) (rii2 (hS20.perm (L' := own2 t11 tu11 (mrkL 1 R) ++ (box 29 w8.heap.size [.int .i64 p0, .int .i64 d0, .slice a8 xs0.length c8] :: box 24 w.heap.size [.int .i64 p0, .int .i64 d0, v0] :: (own2 t10 tu10 (mrkL (1 + xs0.length + tot xss1) xss2) ++ own2 t9 tu9 (mrkL (1 + xs0.length) xss1) ++ [row 2 (.slice a8 xs0.length c8) (iv (mrk 1 xs0.length))] ++ own2 t7 tu7 R ++ []))) (by classical exact List.perm_iff_count.2 (fun a => by simp only [List.cons_append, List.nil_append, List.append_nil, List.count_append, List.count_cons, List.count_nil] <;> omega))) (by rw [mrkL_len]; exact Hl_g0.out))).mono ?_
  rintro e w24 ⟨rfl, rfl⟩
  go_wp2_with fail
  refine (toField_c p0 d0 v0 xs0 _ (hS20.oldI hv0) Hz0.out).mono ?_
  rintro e w25 ⟨t25, rfl, h25⟩
  have hr25 := h25.rdI 0 rfl
  have hS21 : St w.heap.size w w25 (box 29 w8.heap.size [.int .i64 p0, .int .i64 d0, .slice a8 xs0.length c8] :: box 24 w.heap.size [.int .i64 p0, .int .i64 d0, v0] :: (own2 t11 tu11 (mrkL 1 R) ++ own2 t10 tu10 (mrkL (1 + xs0.length + tot xss1) xss2) ++ own2 t9 tu9 (mrkL (1 + xs0.length) xss1) ++ [row 2 (.slice a8 xs0.length c8) (iv (mrk 1 xs0.length))] ++ own2 t7 tu7 R ++ [])) := (hS20.call0 h25.out).perm (by classical exact List.perm_iff_count.2 (fun a => by simp only [List.cons_append, List.nil_append, List.append_nil, List.count_append, List.count_cons, List.count_nil] <;> omega))
  clear b0_0 b0_1 b0_2 b1_0 b1_1 b1_2 hS20 h25
  have b0_0 := hS21.bcell 0 rfl 0 rfl
  have b0_1 := hS21.bcell 0 rfl 1 rfl
  have b0_2 := hS21.bcell 0 rfl 2 rfl
  have b1_0 := hS21.bcell 1 rfl 0 rfl
  have b1_1 := hS21.bcell 1 rfl 1 rfl
  have b1_2 := hS21.bcell 1 rfl 2 rfl
  go_wp2_with fail
  refine (toInt64SS_c v1 us1 xss1 _ (hS21.oldII hv1) Hz1_1.out Hz2_1.out).mono ?_
  rintro e w26 ⟨t26, tu26, rfl, hl26, h26⟩
  have hr26 := h26.rii hl26
  have hr25 := hr25.keep h26.below
  have hS22 : St w.heap.size w w26 (box 29 w8.heap.size [.int .i64 p0, .int .i64 d0, .slice a8 xs0.length c8] :: box 24 w.heap.size [.int .i64 p0, .int .i64 d0, v0] :: (own2 t11 tu11 (mrkL 1 R) ++ own2 t10 tu10 (mrkL (1 + xs0.length + tot xss1) xss2) ++ own2 t9 tu9 (mrkL (1 + xs0.length) xss1) ++ [row 2 (.slice a8 xs0.length c8) (iv (mrk 1 xs0.length))] ++ own2 t7 tu7 R ++ [])) := (hS21.call0 h26.out).perm (by classical exact List.perm_iff_count.2 (fun a => by simp only [List.cons_append, List.nil_append, List.append_nil, List.count_append, List.count_cons, List.count_nil] <;> omega))
  clear b0_0 b0_1 b0_2 b1_0 b1_1 b1_2 hS21 h26 hl26
  have b0_0 := hS22.bcell 0 rfl 0 rfl
  have b0_1 := hS22.bcell 0 rfl 1 rfl
  have b0_2 := hS22.bcell 0 rfl 2 rfl
  have b1_0 := hS22.bcell 1 rfl 0 rfl
  have b1_1 := hS22.bcell 1 rfl 1 rfl
  have b1_2 := hS22.bcell 1 rfl 2 rfl
  go_wp2_with fail
  refine (toInt64SS_c v2 us2 xss2 _ (hS22.oldII hv2) Hz1_2.out Hz2_2.out).mono ?_
  rintro e w27 ⟨t27, tu27, rfl, hl27, h27⟩
  have hr27 := h27.rii hl27
  have hr25 := hr25.keep h27.below
  have hr26 := hr26.keep h27.below
  have hS23 : St w.heap.size w w27 (box 29 w8.heap.size [.int .i64 p0, .int .i64 d0, .slice a8 xs0.length c8] :: box 24 w.heap.size [.int .i64 p0, .int .i64 d0, v0] :: (own2 t11 tu11 (mrkL 1 R) ++ own2 t10 tu10 (mrkL (1 + xs0.length + tot xss1) xss2) ++ own2 t9 tu9 (mrkL (1 + xs0.length) xss1) ++ [row 2 (.slice a8 xs0.length c8) (iv (mrk 1 xs0.length))] ++ own2 t7 tu7 R ++ [])) := (hS22.call0 h27.out).perm (by classical exact List.perm_iff_count.2 (fun a => by simp only [List.cons_append, List.nil_append, List.append_nil, List.count_append, List.count_cons, List.count_nil] <;> omega))
  clear b0_0 b0_1 b0_2 b1_0 b1_1 b1_2 hS22 h27 hl27
  have b0_0 := hS23.bcell 0 rfl 0 rfl
  have b0_1 := hS23.bcell 0 rfl 1 rfl
  have b0_2 := hS23.bcell 0 rfl 2 rfl
  have b1_0 := hS23.bcell 1 rfl 0 rfl
  have b1_1 := hS23.bcell 1 rfl 1 rfl
  have b1_2 := hS23.bcell 1 rfl 2 rfl
  go_wp2_with fail
  refine (Hi _ _ _ _ _ _ hr25 hr26 hr27).out.mono ?_
  rintro e w28 ⟨t28, tu28, rfl, hl28, h28⟩
  have Hl_h0 := Lib.hid hl28
  have hS24 : St w.heap.size w w28 (box 29 w8.heap.size [.int .i64 p0, .int .i64 d0, .slice a8 xs0.length c8] :: box 24 w.heap.size [.int .i64 p0, .int .i64 d0, v0] :: (own2 t28 tu28 R ++ own2 t11 tu11 (mrkL 1 R) ++ own2 t10 tu10 (mrkL (1 + xs0.length + tot xss1) xss2) ++ own2 t9 tu9 (mrkL (1 + xs0.length) xss1) ++ [row 2 (.slice a8 xs0.length c8) (iv (mrk 1 xs0.length))] ++ own2 t7 tu7 R ++ [])) := (hS23.call h28).perm (by classical exact List.perm_iff_count.2 (fun a => by simp only [List.cons_append, List.nil_append, List.append_nil, List.count_append, List.count_cons, List.count_nil] <;> omega))
  clear b0_0 b0_1 b0_2 b1_0 b1_1 b1_2 hS23 h28 hl28 hr25 hr26 hr27
  have b0_0 := hS24.bcell 0 rfl 0 rfl
  have b0_1 := hS24.bcell 0 rfl 1 rfl
  have b0_2 := hS24.bcell 0 rfl 2 rfl
  have b1_0 := hS24.bcell 1 rfl 0 rfl
  have b1_1 := hS24.bcell 1 rfl 1 rfl
  have b1_2 := hS24.bcell 1 rfl 2 rfl
  go_wp2_with fail
  refine (eqInt64SS_c _ _ tu28 tu7 R R _ (rii2 (hS24.perm (L' := own2 t28 tu28 R ++ (box 29 w8.heap.size [.int .i64 p0, .int .i64 d0, .slice a8 xs0.length c8] :: box 24 w.heap.size [.int .i64 p0, .int .i64 d0, v0] :: (own2 t11 tu11 (mrkL 1 R) ++ own2 t10 tu10 (mrkL (1 + xs0.length + tot xss1) xss2) ++ own2 t9 tu9 (mrkL (1 + xs0.length) xss1) ++ [row 2 (.slice a8 xs0.length c8) (iv (mrk 1 xs0.length))] ++ own2 t7 tu7 R ++ []))) (by classical exact List.perm_iff_count.2 (fun a => by simp only [List.cons_append, List.nil_append, List.append_nil, List.count_append, List.count_cons, List.count_nil] <;> omega))) Hl_h0.out) (rii2 (hS24.perm (L' := own2 t7 tu7 R ++ (box 29 w8.heap.size [.int .i64 p0, .int .i64 d0, .slice a8 xs0.length c8] :: box 24 w.heap.size [.int .i64 p0, .int .i64 d0, v0] :: (own2 t28 tu28 R ++ own2 t11 tu11 (mrkL 1 R) ++ own2 t10 tu10 (mrkL (1 + xs0.length + tot xss1) xss2) ++ own2 t9 tu9 (mrkL (1 + xs0.length) xss1) ++ [row 2 (.slice a8 xs0.length c8) (iv (mrk 1 xs0.length))] ++ []))) (by classical exact List.perm_iff_count.2 (fun a => by simp only [List.cons_append, List.nil_append, List.append_nil, List.count_append, List.count_cons, List.count_nil] <;> omega))) Hl_w0.out)).mono ?_
  rw [show decide (R = R) = true from decide_eq_true rfl]
  rintro e w29 ⟨rfl, h29⟩
  have hS25 : St w.heap.size w w29 (box 29 w8.heap.size [.int .i64 p0, .int .i64 d0, .slice a8 xs0.length c8] :: box 24 w.heap.size [.int .i64 p0, .int .i64 d0, v0] :: (own2 t28 tu28 R ++ own2 t11 tu11 (mrkL 1 R) ++ own2 t10 tu10 (mrkL (1 + xs0.length + tot xss1) xss2) ++ own2 t9 tu9 (mrkL (1 + xs0.length) xss1) ++ [row 2 (.slice a8 xs0.length c8) (iv (mrk 1 xs0.length))] ++ own2 t7 tu7 R ++ [])) := (hS24.call0 h29).perm (by classical exact List.perm_iff_count.2 (fun a => by simp only [List.cons_append, List.nil_append, List.append_nil, List.count_append, List.count_cons, List.count_nil] <;> omega))
  clear b0_0 b0_1 b0_2 b1_0 b1_1 b1_2 hS24 h29
  have b0_0 := hS25.bcell 0 rfl 0 rfl
  have b0_1 := hS25.bcell 0 rfl 1 rfl
  have b0_2 := hS25.bcell 0 rfl 2 rfl
  have b1_0 := hS25.bcell 1 rfl 0 rfl
  have b1_1 := hS25.bcell 1 rfl 1 rfl
  have b1_2 := hS25.bcell 1 rfl 2 rfl
  go_wp2_with fail
  refine (heldInt64SS_c _ tu11 R 1 _ (by omega) (by omega) (rii2 (hS25.perm (L' := own2 t11 tu11 (mrkL 1 R) ++ (box 29 w8.heap.size [.int .i64 p0, .int .i64 d0, .slice a8 xs0.length c8] :: box 24 w.heap.size [.int .i64 p0, .int .i64 d0, v0] :: (own2 t28 tu28 R ++ own2 t10 tu10 (mrkL (1 + xs0.length + tot xss1) xss2) ++ own2 t9 tu9 (mrkL (1 + xs0.length) xss1) ++ [row 2 (.slice a8 xs0.length c8) (iv (mrk 1 xs0.length))] ++ own2 t7 tu7 R ++ []))) (by classical exact List.perm_iff_count.2 (fun a => by simp only [List.cons_append, List.nil_append, List.append_nil, List.count_append, List.count_cons, List.count_nil] <;> omega))) (by rw [mrkL_len]; exact Hl_g0.out))).mono ?_
  rintro e w30 ⟨rfl, rfl⟩
  go_wp2_with fail
  go_ret
  exact ⟨rfl, hS25.out⟩
end Go.Proofs.Ytmkfafhgcnbcaaa
