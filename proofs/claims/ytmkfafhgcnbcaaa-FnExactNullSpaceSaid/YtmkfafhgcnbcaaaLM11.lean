/- The law FnExactNullSpace, walked. -/
import Derived.Test.YtmkfafhgcnbcaaaNul
import Derived.Test.YtmkfafhgcnbcaaaFx
import Derived.Test.YtmkfafhgcnbcaaaPrfF
import Derived.Deep.RegionHeld3
import Derived.Deep.DrawnRows
namespace Go.Proofs.Ytmkfafhgcnbcaaa
set_option linter.unusedSimpArgs false
set_option linter.unusedVariables false
open Go.RowKit
attribute [local go_sem ↓] Go.wp_at_zero Go.wp_at_succ

theorem tot_rect {xss : List (List Int)} {n : Nat} (h : ∀ x ∈ xss, x.length = n) : tot xss = xss.length * n := by
  induction xss with
  | nil => simp [tot]
  | cons x r ih => rw [tot, ih (fun y hy => h y (by simp [hy])), h x (by simp), List.length_cons, Nat.add_mul]; omega
theorem tot_nulM (p d : Int) (xs : List Int) (xss : List (List Int)) : tot (nulM p d xs xss) ≤ 1048576 := by
  unfold nulM; split
  · rename_i h1
    have hm := matOk_t h1
    obtain ⟨D, rfl⟩ := Int.eq_ofNat_of_zero_le (show 0 ≤ d by have := hm.f.d1; omega)
    rw [Int.toNat_natCast]
    have h2 := red_pre hm.f.fa (xat xss 0).length 0 (R := nulB p D (red p D xs (xat xss 0).length 0 xss [] 1).1 (red p D xs (xat xss 0).length 0 xss [] 1).2.1 (xat xss 0).length (xat xss 0).length) (piv := []) (det := 1) (nulB_rect hm.f.fa _) (by simp)
    have h3 := nulB_le (p := p) (D := D) (R := (red p D xs (xat xss 0).length 0 xss [] 1).1) (piv := (red p D xs (xat xss 0).length 0 xss [] 1).2.1) (n := (xat xss 0).length) (xat xss 0).length
    unfold nulX
    rw [tot_rect (n := (xat xss 0).length) (fun x hx => (h2.1 x (List.mem_of_mem_take hx)).1)]
    have h4 := hm.cols
    have h5 : (List.take (red p D xs (xat xss 0).length 0 (nulB p D (red p D xs (xat xss 0).length 0 xss [] 1).1 (red p D xs (xat xss 0).length 0 xss [] 1).2.1 (xat xss 0).length (xat xss 0).length) [] 1).2.1.length (red p D xs (xat xss 0).length 0 (nulB p D (red p D xs (xat xss 0).length 0 xss [] 1).1 (red p D xs (xat xss 0).length 0 xss [] 1).2.1 (xat xss 0).length (xat xss 0).length) [] 1).1).length ≤ 32 := by rw [List.length_take]; omega
    have := Nat.mul_le_mul h5 h4
    omega
  · simp [tot]

set_option maxHeartbeats 8000000 in
set_option maxRecDepth 100000 in
theorem FnExactNullSpace_law (w : World) (p0 d0 : Int) (v0 : Value) (xs0 : List Int) (wd0 : (Lit.int .i64 d0).wf = true) (hv0 : RdI w v0 xs0) (v1 : Value) (us1 : List Value) (xss1 : List (List Int)) (hv1 : RII w v1 us1 xss1) :
    Calls Try.prog 13 #[fv p0 d0 v0, v1] w (GivesB w true) := by
  have hS0 := ((St.refl w).newboxF 24 #[.int .i64 p0, .int .i64 d0, v0])
  simp only [World.size_alloc] at hS0
  by_cases hz0 : szI 1048576 xs0 < 0
  · go_enter Try.func13, Try.ntmps13
    unfold fv
    go_wp2_with fail
    refine (szField_c p0 d0 v0 xs0 _ _ (hS0.oldI hv0) (by omega)).mono ?_
    rintro e e0 ⟨rfl, h0⟩
    have hT0 := hS0.call0 h0
    have b0_0_0 := hT0.bcell 0 rfl 0 rfl
    have b0_0_1 := hT0.bcell 0 rfl 1 rfl
    have b0_0_2 := hT0.bcell 0 rfl 2 rfl
    go_wp2_with fail
    go_ret
    exact ⟨rfl, hT0.out⟩
  have hzt0 := szI_top2 (left := 1048576) (xs := xs0) (by omega)
  have hzb0 : 0 ≤ szI 1048576 xs0 ∧ szI 1048576 xs0 ≤ 1048576 := by omega
  have Hz0 := Lib.hid (show xs0.length ≤ 1048576 by omega)
  by_cases hz1 : szII (szI 1048576 xs0) xss1 < 0
  · go_enter Try.func13, Try.ntmps13
    unfold fv
    go_wp2_with fail
    refine (szField_c p0 d0 v0 xs0 _ _ (hS0.oldI hv0) (by omega)).mono ?_
    rintro e e0 ⟨rfl, h0⟩
    have hT0 := hS0.call0 h0
    have b0_0_0 := hT0.bcell 0 rfl 0 rfl
    have b0_0_1 := hT0.bcell 0 rfl 1 rfl
    have b0_0_2 := hT0.bcell 0 rfl 2 rfl
    go_wp2_with fail
    refine (szInt64SS_c v1 us1 xss1 _ _ (hT0.oldII hv1) hzb0).mono ?_
    rintro e e1 ⟨rfl, rfl⟩
    have b1_0_0 := hT0.bcell 0 rfl 0 rfl
    have b1_0_1 := hT0.bcell 0 rfl 1 rfl
    have b1_0_2 := hT0.bcell 0 rfl 2 rfl
    go_wp2_with fail
    go_ret
    exact ⟨rfl, hT0.out⟩
  have hzb1 : 0 ≤ szII (szI 1048576 xs0) xss1 ∧ szII (szI 1048576 xs0) xss1 ≤ 1048576 := by have := szII_top (left := szI 1048576 xs0) (xss := xss1) (by omega); omega
  have hq1 := szII_le (left := szI 1048576 xs0) (xss := xss1) (by omega)
  have Hz1_1 := Lib.hid (show xss1.length ≤ 1048576 by have := hq1.1; omega)
  have Hz2_1 := Lib.hid (show ∀ xs ∈ xss1, xs.length ≤ 1048576 from fun xs hx => by have := hq1.2 xs hx; omega)
  have Ht1 := Lib.hid (show tot xss1 ≤ 1048576 by have := szII_tot (left := szI 1048576 xs0) (xss := xss1) (by omega); omega)
  clear hq1
  have hx0 := Hz0.out
  have hx1 := Ht1.out
  have Hb := Lib.hid (tot_nulM p0 d0 xs0 xss1)
  have Hs := fun w v0 v1 us1 (hv0 : RdI w v0 xs0) (hv1 : RII w v1 us1 xss1) => Lib.hid (sNullSpace_c p0 d0 v0 xs0 v1 us1 xss1 w hv0 hv1)
  have hd0 := wf_le wd0
  have Hi := fun w v0 v1 us1 (hv0 : RdI w v0 xs0) (hv1 : RII w v1 us1 xss1) => Lib.hid (NullSpace_c p0 d0 v0 xs0 v1 us1 xss1 w hv0 hv1 hd0)
  generalize nulM p0 d0 xs0 xss1 = R at Hb Hs Hi
  generalize matC p0 d0 xs0 xss1 = cc at Hs Hi
  have hcc : (cc != cc) = false := by simp
  have HeR := Lib.hid (show decide (R = R) = true by simp)
  have ht := Hb.out
  have htt : ((1 + (tot R : Int)) != (1 + (tot R : Int))) = false := by simp
  have HeX0 := Lib.hid (show eqF p0 d0 p0 d0 xs0 xs0 = true by simp [eqF])
  have HeX1 := Lib.hid (show decide (xss1 = xss1) = true by simp)
  go_enter Try.func13, Try.ntmps13
  unfold fv
  go_wp2_with fail
  refine (szField_c p0 d0 v0 xs0 _ _ (hS0.oldI hv0) (by omega)).mono ?_
  rintro e w1 ⟨rfl, h1⟩
  have hS1 : St w.heap.size w w1 (box 24 w.heap.size [.int .i64 p0, .int .i64 d0, v0] :: ([])) := (hS0.call0 h1).perm (by classical exact List.perm_iff_count.2 (fun a => by simp only [List.cons_append, List.nil_append, List.append_nil, List.count_append, List.count_cons, List.count_nil] <;> omega))
  clear hS0 h1
  have b0_0 := hS1.bcell 0 rfl 0 rfl
  have b0_1 := hS1.bcell 0 rfl 1 rfl
  have b0_2 := hS1.bcell 0 rfl 2 rfl
  go_wp2_with fail
  refine (szInt64SS_c v1 us1 xss1 _ _ (hS1.oldII hv1) hzb0).mono ?_
  rintro e w2 ⟨rfl, rfl⟩
  go_wp2_with fail
  refine (toField_c p0 d0 v0 xs0 _ (hS1.oldI hv0) Hz0.out).mono ?_
  rintro e w3 ⟨t3, rfl, h3⟩
  have hr3 := h3.rdI 0 rfl
  have hS2 : St w.heap.size w w3 (box 24 w.heap.size [.int .i64 p0, .int .i64 d0, v0] :: ([])) := (hS1.call0 h3.out).perm (by classical exact List.perm_iff_count.2 (fun a => by simp only [List.cons_append, List.nil_append, List.append_nil, List.count_append, List.count_cons, List.count_nil] <;> omega))
  clear b0_0 b0_1 b0_2 hS1 h3
  have b0_0 := hS2.bcell 0 rfl 0 rfl
  have b0_1 := hS2.bcell 0 rfl 1 rfl
  have b0_2 := hS2.bcell 0 rfl 2 rfl
  go_wp2_with fail
  refine (toInt64SS_c v1 us1 xss1 _ (hS2.oldII hv1) Hz1_1.out Hz2_1.out).mono ?_
  rintro e w4 ⟨t4, tu4, rfl, hl4, h4⟩
  have hr4 := h4.rii hl4
  have hr3 := hr3.keep h4.below
  have hS3 : St w.heap.size w w4 (box 24 w.heap.size [.int .i64 p0, .int .i64 d0, v0] :: ([])) := (hS2.call0 h4.out).perm (by classical exact List.perm_iff_count.2 (fun a => by simp only [List.cons_append, List.nil_append, List.append_nil, List.count_append, List.count_cons, List.count_nil] <;> omega))
  clear b0_0 b0_1 b0_2 hS2 h4 hl4
  have b0_0 := hS3.bcell 0 rfl 0 rfl
  have b0_1 := hS3.bcell 0 rfl 1 rfl
  have b0_2 := hS3.bcell 0 rfl 2 rfl
  go_wp2_with fail
  refine (Hs _ _ _ _ hr3 hr4).out.mono ?_
  rintro e w5 ⟨t5, tu5, rfl, hl5, h5⟩
  have Hl_w0 := Lib.hid hl5
  have hS4 : St w.heap.size w w5 (box 24 w.heap.size [.int .i64 p0, .int .i64 d0, v0] :: (own2 t5 tu5 R ++ [])) := (hS3.call h5).perm (by classical exact List.perm_iff_count.2 (fun a => by simp only [List.cons_append, List.nil_append, List.append_nil, List.count_append, List.count_cons, List.count_nil] <;> omega))
  clear b0_0 b0_1 b0_2 hS3 h5 hl5 hr3 hr4
  have b0_0 := hS4.bcell 0 rfl 0 rfl
  have b0_1 := hS4.bcell 0 rfl 1 rfl
  have b0_2 := hS4.bcell 0 rfl 2 rfl
  go_wp2_with fail
  refine (toField_c p0 d0 v0 xs0 _ (hS4.oldI hv0) Hz0.out).mono ?_
  rintro e w6 ⟨t6, rfl, h6⟩
  obtain ⟨a6, c6, rfl⟩ := (h6.rdI 0 rfl).shp'
  unfold fv
  have hS5 : St w.heap.size w _ (box 29 w6.heap.size [.int .i64 p0, .int .i64 d0, .slice a6 xs0.length c6] :: box 24 w.heap.size [.int .i64 p0, .int .i64 d0, v0] :: ([row 2 (.slice a6 xs0.length c6) (iv xs0)] ++ own2 t5 tu5 R ++ [])) := ((hS4.call h6).newboxF 29 #[.int .i64 p0, .int .i64 d0, .slice a6 xs0.length c6]).perm (by classical exact List.perm_iff_count.2 (fun a => by simp only [List.cons_append, List.nil_append, List.append_nil, List.count_append, List.count_cons, List.count_nil] <;> omega))
  clear b0_0 b0_1 b0_2 hS4 h6
  have b0_0 := hS5.bcell 0 rfl 0 rfl
  have b0_1 := hS5.bcell 0 rfl 1 rfl
  have b0_2 := hS5.bcell 0 rfl 2 rfl
  have b1_0 := hS5.bcell 1 rfl 0 rfl
  have b1_1 := hS5.bcell 1 rfl 1 rfl
  have b1_2 := hS5.bcell 1 rfl 2 rfl
  go_wp2_with fail
  refine (toInt64SS_c v1 us1 xss1 _ (hS5.oldII hv1) Hz1_1.out Hz2_1.out).mono ?_
  rintro e w7 ⟨t7, tu7, rfl, hl7, h7⟩
  have Hl_x1 := Lib.hid hl7
  have hS6 : St w.heap.size w w7 (box 29 w6.heap.size [.int .i64 p0, .int .i64 d0, .slice a6 xs0.length c6] :: box 24 w.heap.size [.int .i64 p0, .int .i64 d0, v0] :: (own2 t7 tu7 xss1 ++ [row 2 (.slice a6 xs0.length c6) (iv xs0)] ++ own2 t5 tu5 R ++ [])) := (hS5.call h7).perm (by classical exact List.perm_iff_count.2 (fun a => by simp only [List.cons_append, List.nil_append, List.append_nil, List.count_append, List.count_cons, List.count_nil] <;> omega))
  clear b0_0 b0_1 b0_2 b1_0 b1_1 b1_2 hS5 h7 hl7
  have b0_0 := hS6.bcell 0 rfl 0 rfl
  have b0_1 := hS6.bcell 0 rfl 1 rfl
  have b0_2 := hS6.bcell 0 rfl 2 rfl
  have b1_0 := hS6.bcell 1 rfl 0 rfl
  have b1_1 := hS6.bcell 1 rfl 1 rfl
  have b1_2 := hS6.bcell 1 rfl 2 rfl
  go_wp2_with fail
  refine (Hi _ _ _ _ (St.rdI (hS6.perm (L' := [row 2 (.slice a6 xs0.length c6) (iv xs0)] ++ (box 29 w6.heap.size [.int .i64 p0, .int .i64 d0, .slice a6 xs0.length c6] :: box 24 w.heap.size [.int .i64 p0, .int .i64 d0, v0] :: (own2 t7 tu7 xss1 ++ own2 t5 tu5 R ++ []))) (by classical exact List.perm_iff_count.2 (fun a => by simp only [List.cons_append, List.nil_append, List.append_nil, List.count_append, List.count_cons, List.count_nil] <;> omega))) 0 rfl) (rii2 (hS6.perm (L' := own2 t7 tu7 xss1 ++ (box 29 w6.heap.size [.int .i64 p0, .int .i64 d0, .slice a6 xs0.length c6] :: box 24 w.heap.size [.int .i64 p0, .int .i64 d0, v0] :: ([row 2 (.slice a6 xs0.length c6) (iv xs0)] ++ own2 t5 tu5 R ++ []))) (by classical exact List.perm_iff_count.2 (fun a => by simp only [List.cons_append, List.nil_append, List.append_nil, List.count_append, List.count_cons, List.count_nil] <;> omega))) Hl_x1.out)).out.mono ?_
  rintro e w8 ⟨t8, tu8, rfl, hl8, h8⟩
  have Hl_g0 := Lib.hid hl8
  have hS7 : St w.heap.size w w8 (box 29 w6.heap.size [.int .i64 p0, .int .i64 d0, .slice a6 xs0.length c6] :: box 24 w.heap.size [.int .i64 p0, .int .i64 d0, v0] :: (own2 t8 tu8 R ++ own2 t7 tu7 xss1 ++ [row 2 (.slice a6 xs0.length c6) (iv xs0)] ++ own2 t5 tu5 R ++ [])) := (hS6.call h8).perm (by classical exact List.perm_iff_count.2 (fun a => by simp only [List.cons_append, List.nil_append, List.append_nil, List.count_append, List.count_cons, List.count_nil] <;> omega))
  clear b0_0 b0_1 b0_2 b1_0 b1_1 b1_2 hS6 h8 hl8
  have b0_0 := hS7.bcell 0 rfl 0 rfl
  have b0_1 := hS7.bcell 0 rfl 1 rfl
  have b0_2 := hS7.bcell 0 rfl 2 rfl
  have b1_0 := hS7.bcell 1 rfl 0 rfl
  have b1_1 := hS7.bcell 1 rfl 1 rfl
  have b1_2 := hS7.bcell 1 rfl 2 rfl
  go_wp2_with fail
  refine (eqInt64SS_c _ _ tu8 tu5 R R _ (rii2 (hS7.perm (L' := own2 t8 tu8 R ++ (box 29 w6.heap.size [.int .i64 p0, .int .i64 d0, .slice a6 xs0.length c6] :: box 24 w.heap.size [.int .i64 p0, .int .i64 d0, v0] :: (own2 t7 tu7 xss1 ++ [row 2 (.slice a6 xs0.length c6) (iv xs0)] ++ own2 t5 tu5 R ++ []))) (by classical exact List.perm_iff_count.2 (fun a => by simp only [List.cons_append, List.nil_append, List.append_nil, List.count_append, List.count_cons, List.count_nil] <;> omega))) Hl_g0.out) (rii2 (hS7.perm (L' := own2 t5 tu5 R ++ (box 29 w6.heap.size [.int .i64 p0, .int .i64 d0, .slice a6 xs0.length c6] :: box 24 w.heap.size [.int .i64 p0, .int .i64 d0, v0] :: (own2 t8 tu8 R ++ own2 t7 tu7 xss1 ++ [row 2 (.slice a6 xs0.length c6) (iv xs0)] ++ []))) (by classical exact List.perm_iff_count.2 (fun a => by simp only [List.cons_append, List.nil_append, List.append_nil, List.count_append, List.count_cons, List.count_nil] <;> omega))) Hl_w0.out)).mono ?_
  rw [show decide (R = R) = true from decide_eq_true rfl]
  rintro e w9 ⟨rfl, h9⟩
  have hS8 : St w.heap.size w w9 (box 29 w6.heap.size [.int .i64 p0, .int .i64 d0, .slice a6 xs0.length c6] :: box 24 w.heap.size [.int .i64 p0, .int .i64 d0, v0] :: (own2 t8 tu8 R ++ own2 t7 tu7 xss1 ++ [row 2 (.slice a6 xs0.length c6) (iv xs0)] ++ own2 t5 tu5 R ++ [])) := (hS7.call0 h9).perm (by classical exact List.perm_iff_count.2 (fun a => by simp only [List.cons_append, List.nil_append, List.append_nil, List.count_append, List.count_cons, List.count_nil] <;> omega))
  clear b0_0 b0_1 b0_2 b1_0 b1_1 b1_2 hS7 h9
  have b0_0 := hS8.bcell 0 rfl 0 rfl
  have b0_1 := hS8.bcell 0 rfl 1 rfl
  have b0_2 := hS8.bcell 0 rfl 2 rfl
  have b1_0 := hS8.bcell 1 rfl 0 rfl
  have b1_1 := hS8.bcell 1 rfl 1 rfl
  have b1_2 := hS8.bcell 1 rfl 2 rfl
  go_wp2_with fail
  have hrx0 := (St.rdI (hS8.perm (L' := [row 2 (.slice a6 xs0.length c6) (iv xs0)] ++ (box 29 w6.heap.size [.int .i64 p0, .int .i64 d0, .slice a6 xs0.length c6] :: box 24 w.heap.size [.int .i64 p0, .int .i64 d0, v0] :: (own2 t8 tu8 R ++ own2 t7 tu7 xss1 ++ own2 t5 tu5 R ++ []))) (by classical exact List.perm_iff_count.2 (fun a => by simp only [List.cons_append, List.nil_append, List.append_nil, List.count_append, List.count_cons, List.count_nil] <;> omega))) 0 rfl)
  go_region_held3 (fun w' => w'.cell? ⟨w6.heap.size, 0, none⟩ = some (.int .i64 p0) ∧ w'.cell? ⟨w6.heap.size, 1, none⟩ = some (.int .i64 d0) ∧ w'.cell? ⟨w6.heap.size, 2, none⟩ = some (.slice a6 xs0.length c6) ∧ w'.cell? ⟨w.heap.size, 0, none⟩ = some (.int .i64 p0) ∧ w'.cell? ⟨w.heap.size, 1, none⟩ = some (.int .i64 d0) ∧ w'.cell? ⟨w.heap.size, 2, none⟩ = some (v0)) (go_keep)
    (first
    | (go_at_call 19; refine (toField_c p0 d0 v0 xs0 _ (hS8.drew.oldI hv0) Hz0.out).mono ?_; rintro e w10 ⟨t10, rfl, h10⟩; have hr10 := h10.rdI 0 rfl; have hU10 := hS8.drew.call0 h10.out; have fw10_0_0 := hU10.bcell 0 rfl 0 rfl; have fw10_0_1 := hU10.bcell 0 rfl 1 rfl; have fw10_0_2 := hU10.bcell 0 rfl 2 rfl; have fw10_1_0 := hU10.bcell 1 rfl 0 rfl; have fw10_1_1 := hU10.bcell 1 rfl 1 rfl; have fw10_1_2 := hU10.bcell 1 rfl 2 rfl)
    | (go_at_call 22; refine (eqField_c p0 d0 p0 d0 _ _ xs0 xs0 _ ((hrx0.keep (St.refl _).drew.below).keep h10.below) hr10).mono ?_; rw [HeX0.out]; rintro e w11 ⟨rfl, h11⟩; have hU11 := hU10.call0 h11; have fw11_0_0 := hU11.bcell 0 rfl 0 rfl; have fw11_0_1 := hU11.bcell 0 rfl 1 rfl; have fw11_0_2 := hU11.bcell 0 rfl 2 rfl; have fw11_1_0 := hU11.bcell 1 rfl 0 rfl; have fw11_1_1 := hU11.bcell 1 rfl 1 rfl; have fw11_1_2 := hU11.bcell 1 rfl 2 rfl))
  have hS9 : St w.heap.size w w11 (box 29 w6.heap.size [.int .i64 p0, .int .i64 d0, .slice a6 xs0.length c6] :: box 24 w.heap.size [.int .i64 p0, .int .i64 d0, v0] :: (own2 t8 tu8 R ++ own2 t7 tu7 xss1 ++ [row 2 (.slice a6 xs0.length c6) (iv xs0)] ++ own2 t5 tu5 R ++ [])) := (hU11).perm (by classical exact List.perm_iff_count.2 (fun a => by simp only [List.cons_append, List.nil_append, List.append_nil, List.count_append, List.count_cons, List.count_nil] <;> omega))
  clear b0_0 b0_1 b0_2 b1_0 b1_1 b1_2 hS8 hU10 hU11 h10 h11 hr10 hrx0 fw10_0_0 fw10_0_1 fw10_0_2 fw10_1_0 fw10_1_1 fw10_1_2 fw11_0_0 fw11_0_1 fw11_0_2 fw11_1_0 fw11_1_1 fw11_1_2
  have b0_0 := hS9.bcell 0 rfl 0 rfl
  have b0_1 := hS9.bcell 0 rfl 1 rfl
  have b0_2 := hS9.bcell 0 rfl 2 rfl
  have b1_0 := hS9.bcell 1 rfl 0 rfl
  have b1_1 := hS9.bcell 1 rfl 1 rfl
  have b1_2 := hS9.bcell 1 rfl 2 rfl
  go_wp2_with fail
  have hrx1 := (rii2 (hS9.perm (L' := own2 t7 tu7 xss1 ++ (box 29 w6.heap.size [.int .i64 p0, .int .i64 d0, .slice a6 xs0.length c6] :: box 24 w.heap.size [.int .i64 p0, .int .i64 d0, v0] :: (own2 t8 tu8 R ++ [row 2 (.slice a6 xs0.length c6) (iv xs0)] ++ own2 t5 tu5 R ++ []))) (by classical exact List.perm_iff_count.2 (fun a => by simp only [List.cons_append, List.nil_append, List.append_nil, List.count_append, List.count_cons, List.count_nil] <;> omega))) Hl_x1.out)
  refine (toInt64SS_c v1 us1 xss1 _ (hS9.oldII hv1) Hz1_1.out Hz2_1.out).mono ?_
  rintro e w12 ⟨t12, tu12, rfl, hl12, h12⟩
  have hr12 := h12.rii hl12
  have hrx1 := hrx1.keep h12.below
  have hS10 : St w.heap.size w w12 (box 29 w6.heap.size [.int .i64 p0, .int .i64 d0, .slice a6 xs0.length c6] :: box 24 w.heap.size [.int .i64 p0, .int .i64 d0, v0] :: (own2 t8 tu8 R ++ own2 t7 tu7 xss1 ++ [row 2 (.slice a6 xs0.length c6) (iv xs0)] ++ own2 t5 tu5 R ++ [])) := (hS9.call0 h12.out).perm (by classical exact List.perm_iff_count.2 (fun a => by simp only [List.cons_append, List.nil_append, List.append_nil, List.count_append, List.count_cons, List.count_nil] <;> omega))
  clear b0_0 b0_1 b0_2 b1_0 b1_1 b1_2 hS9 h12 hl12
  have b0_0 := hS10.bcell 0 rfl 0 rfl
  have b0_1 := hS10.bcell 0 rfl 1 rfl
  have b0_2 := hS10.bcell 0 rfl 2 rfl
  have b1_0 := hS10.bcell 1 rfl 0 rfl
  have b1_1 := hS10.bcell 1 rfl 1 rfl
  have b1_2 := hS10.bcell 1 rfl 2 rfl
  go_wp2_with fail
  refine (eqInt64SS_c _ _ tu7 tu12 xss1 xss1 _ hrx1 hr12).mono ?_
  rw [show decide (xss1 = xss1) = true from decide_eq_true rfl]
  rintro e w13 ⟨rfl, h13⟩
  have hS11 : St w.heap.size w w13 (box 29 w6.heap.size [.int .i64 p0, .int .i64 d0, .slice a6 xs0.length c6] :: box 24 w.heap.size [.int .i64 p0, .int .i64 d0, v0] :: (own2 t8 tu8 R ++ own2 t7 tu7 xss1 ++ [row 2 (.slice a6 xs0.length c6) (iv xs0)] ++ own2 t5 tu5 R ++ [])) := (hS10.call0 h13).perm (by classical exact List.perm_iff_count.2 (fun a => by simp only [List.cons_append, List.nil_append, List.append_nil, List.count_append, List.count_cons, List.count_nil] <;> omega))
  clear b0_0 b0_1 b0_2 b1_0 b1_1 b1_2 hS10 h13 hr12 hrx1
  have b0_0 := hS11.bcell 0 rfl 0 rfl
  have b0_1 := hS11.bcell 0 rfl 1 rfl
  have b0_2 := hS11.bcell 0 rfl 2 rfl
  have b1_0 := hS11.bcell 1 rfl 0 rfl
  have b1_1 := hS11.bcell 1 rfl 1 rfl
  have b1_2 := hS11.bcell 1 rfl 2 rfl
  go_wp2_with fail
  refine (markField_c p0 d0 _ xs0 1 (by omega) (by omega) (hS11.perm (L' := [row 2 (.slice a6 xs0.length c6) (iv xs0)] ++ (box 29 w6.heap.size [.int .i64 p0, .int .i64 d0, .slice a6 xs0.length c6] :: box 24 w.heap.size [.int .i64 p0, .int .i64 d0, v0] :: (own2 t8 tu8 R ++ own2 t7 tu7 xss1 ++ own2 t5 tu5 R ++ []))) (by classical exact List.perm_iff_count.2 (fun a => by simp only [List.cons_append, List.nil_append, List.append_nil, List.count_append, List.count_cons, List.count_nil] <;> omega)))).mono ?_
  rintro e w14 ⟨rfl, hm14⟩
  have hS12 : St w.heap.size w w14 (box 29 w6.heap.size [.int .i64 p0, .int .i64 d0, .slice a6 xs0.length c6] :: box 24 w.heap.size [.int .i64 p0, .int .i64 d0, v0] :: (own2 t8 tu8 R ++ own2 t7 tu7 xss1 ++ [row 2 (.slice a6 xs0.length c6) (iv (mrk 1 xs0.length))] ++ own2 t5 tu5 R ++ [])) := (hm14).perm (by classical exact List.perm_iff_count.2 (fun a => by simp only [List.cons_append, List.nil_append, List.append_nil, List.count_append, List.count_cons, List.count_nil] <;> omega))
  clear b0_0 b0_1 b0_2 b1_0 b1_1 b1_2 hS11 hm14
  have b0_0 := hS12.bcell 0 rfl 0 rfl
  have b0_1 := hS12.bcell 0 rfl 1 rfl
  have b0_2 := hS12.bcell 0 rfl 2 rfl
  have b1_0 := hS12.bcell 1 rfl 0 rfl
  have b1_1 := hS12.bcell 1 rfl 1 rfl
  have b1_2 := hS12.bcell 1 rfl 2 rfl
  go_wp2_with fail
  refine (markInt64SS_c _ tu7 xss1 (1 + xs0.length) (by omega) (by omega) Hl_x1.out (hS12.perm (L' := own2 t7 tu7 xss1 ++ (box 29 w6.heap.size [.int .i64 p0, .int .i64 d0, .slice a6 xs0.length c6] :: box 24 w.heap.size [.int .i64 p0, .int .i64 d0, v0] :: (own2 t8 tu8 R ++ [row 2 (.slice a6 xs0.length c6) (iv (mrk 1 xs0.length))] ++ own2 t5 tu5 R ++ []))) (by classical exact List.perm_iff_count.2 (fun a => by simp only [List.cons_append, List.nil_append, List.append_nil, List.count_append, List.count_cons, List.count_nil] <;> omega)))).mono ?_
  rintro e w15 ⟨rfl, hm15⟩
  have hS13 : St w.heap.size w w15 (box 29 w6.heap.size [.int .i64 p0, .int .i64 d0, .slice a6 xs0.length c6] :: box 24 w.heap.size [.int .i64 p0, .int .i64 d0, v0] :: (own2 t8 tu8 R ++ own2 t7 tu7 (mrkL (1 + xs0.length) xss1) ++ [row 2 (.slice a6 xs0.length c6) (iv (mrk 1 xs0.length))] ++ own2 t5 tu5 R ++ [])) := (hm15).perm (by classical exact List.perm_iff_count.2 (fun a => by simp only [List.cons_append, List.nil_append, List.append_nil, List.count_append, List.count_cons, List.count_nil] <;> omega))
  clear b0_0 b0_1 b0_2 b1_0 b1_1 b1_2 hS12 hm15
  have b0_0 := hS13.bcell 0 rfl 0 rfl
  have b0_1 := hS13.bcell 0 rfl 1 rfl
  have b0_2 := hS13.bcell 0 rfl 2 rfl
  have b1_0 := hS13.bcell 1 rfl 0 rfl
  have b1_1 := hS13.bcell 1 rfl 1 rfl
  have b1_2 := hS13.bcell 1 rfl 2 rfl
  go_wp2_with fail
  refine (eqInt64SS_c _ _ tu8 tu5 R R _ (rii2 (hS13.perm (L' := own2 t8 tu8 R ++ (box 29 w6.heap.size [.int .i64 p0, .int .i64 d0, .slice a6 xs0.length c6] :: box 24 w.heap.size [.int .i64 p0, .int .i64 d0, v0] :: (own2 t7 tu7 (mrkL (1 + xs0.length) xss1) ++ [row 2 (.slice a6 xs0.length c6) (iv (mrk 1 xs0.length))] ++ own2 t5 tu5 R ++ []))) (by classical exact List.perm_iff_count.2 (fun a => by simp only [List.cons_append, List.nil_append, List.append_nil, List.count_append, List.count_cons, List.count_nil] <;> omega))) Hl_g0.out) (rii2 (hS13.perm (L' := own2 t5 tu5 R ++ (box 29 w6.heap.size [.int .i64 p0, .int .i64 d0, .slice a6 xs0.length c6] :: box 24 w.heap.size [.int .i64 p0, .int .i64 d0, v0] :: (own2 t8 tu8 R ++ own2 t7 tu7 (mrkL (1 + xs0.length) xss1) ++ [row 2 (.slice a6 xs0.length c6) (iv (mrk 1 xs0.length))] ++ []))) (by classical exact List.perm_iff_count.2 (fun a => by simp only [List.cons_append, List.nil_append, List.append_nil, List.count_append, List.count_cons, List.count_nil] <;> omega))) Hl_w0.out)).mono ?_
  rw [show decide (R = R) = true from decide_eq_true rfl]
  rintro e w16 ⟨rfl, h16⟩
  have hS14 : St w.heap.size w w16 (box 29 w6.heap.size [.int .i64 p0, .int .i64 d0, .slice a6 xs0.length c6] :: box 24 w.heap.size [.int .i64 p0, .int .i64 d0, v0] :: (own2 t8 tu8 R ++ own2 t7 tu7 (mrkL (1 + xs0.length) xss1) ++ [row 2 (.slice a6 xs0.length c6) (iv (mrk 1 xs0.length))] ++ own2 t5 tu5 R ++ [])) := (hS13.call0 h16).perm (by classical exact List.perm_iff_count.2 (fun a => by simp only [List.cons_append, List.nil_append, List.append_nil, List.count_append, List.count_cons, List.count_nil] <;> omega))
  clear b0_0 b0_1 b0_2 b1_0 b1_1 b1_2 hS13 h16
  have b0_0 := hS14.bcell 0 rfl 0 rfl
  have b0_1 := hS14.bcell 0 rfl 1 rfl
  have b0_2 := hS14.bcell 0 rfl 2 rfl
  have b1_0 := hS14.bcell 1 rfl 0 rfl
  have b1_1 := hS14.bcell 1 rfl 1 rfl
  have b1_2 := hS14.bcell 1 rfl 2 rfl
  go_wp2_with fail
  refine (markInt64SS_c _ tu8 R 1 (by omega) (by omega) Hl_g0.out (hS14.perm (L' := own2 t8 tu8 R ++ (box 29 w6.heap.size [.int .i64 p0, .int .i64 d0, .slice a6 xs0.length c6] :: box 24 w.heap.size [.int .i64 p0, .int .i64 d0, v0] :: (own2 t7 tu7 (mrkL (1 + xs0.length) xss1) ++ [row 2 (.slice a6 xs0.length c6) (iv (mrk 1 xs0.length))] ++ own2 t5 tu5 R ++ []))) (by classical exact List.perm_iff_count.2 (fun a => by simp only [List.cons_append, List.nil_append, List.append_nil, List.count_append, List.count_cons, List.count_nil] <;> omega)))).mono ?_
  rintro e w17 ⟨rfl, hm17⟩
  have hS15 : St w.heap.size w w17 (box 29 w6.heap.size [.int .i64 p0, .int .i64 d0, .slice a6 xs0.length c6] :: box 24 w.heap.size [.int .i64 p0, .int .i64 d0, v0] :: (own2 t8 tu8 (mrkL 1 R) ++ own2 t7 tu7 (mrkL (1 + xs0.length) xss1) ++ [row 2 (.slice a6 xs0.length c6) (iv (mrk 1 xs0.length))] ++ own2 t5 tu5 R ++ [])) := (hm17).perm (by classical exact List.perm_iff_count.2 (fun a => by simp only [List.cons_append, List.nil_append, List.append_nil, List.count_append, List.count_cons, List.count_nil] <;> omega))
  clear b0_0 b0_1 b0_2 b1_0 b1_1 b1_2 hS14 hm17
  have b0_0 := hS15.bcell 0 rfl 0 rfl
  have b0_1 := hS15.bcell 0 rfl 1 rfl
  have b0_2 := hS15.bcell 0 rfl 2 rfl
  have b1_0 := hS15.bcell 1 rfl 0 rfl
  have b1_1 := hS15.bcell 1 rfl 1 rfl
  have b1_2 := hS15.bcell 1 rfl 2 rfl
  go_wp2_with fail
  refine (heldInt64SS_c _ tu8 R 1 _ (by omega) (by omega) (rii2 (hS15.perm (L' := own2 t8 tu8 (mrkL 1 R) ++ (box 29 w6.heap.size [.int .i64 p0, .int .i64 d0, .slice a6 xs0.length c6] :: box 24 w.heap.size [.int .i64 p0, .int .i64 d0, v0] :: (own2 t7 tu7 (mrkL (1 + xs0.length) xss1) ++ [row 2 (.slice a6 xs0.length c6) (iv (mrk 1 xs0.length))] ++ own2 t5 tu5 R ++ []))) (by classical exact List.perm_iff_count.2 (fun a => by simp only [List.cons_append, List.nil_append, List.append_nil, List.count_append, List.count_cons, List.count_nil] <;> omega))) (by rw [mrkL_len]; exact Hl_g0.out))).mono ?_
  rintro e w18 ⟨rfl, rfl⟩
  go_wp2_with fail
  refine (toField_c p0 d0 v0 xs0 _ (hS15.oldI hv0) Hz0.out).mono ?_
  rintro e w19 ⟨t19, rfl, h19⟩
  have hr19 := h19.rdI 0 rfl
  have hS16 : St w.heap.size w w19 (box 29 w6.heap.size [.int .i64 p0, .int .i64 d0, .slice a6 xs0.length c6] :: box 24 w.heap.size [.int .i64 p0, .int .i64 d0, v0] :: (own2 t8 tu8 (mrkL 1 R) ++ own2 t7 tu7 (mrkL (1 + xs0.length) xss1) ++ [row 2 (.slice a6 xs0.length c6) (iv (mrk 1 xs0.length))] ++ own2 t5 tu5 R ++ [])) := (hS15.call0 h19.out).perm (by classical exact List.perm_iff_count.2 (fun a => by simp only [List.cons_append, List.nil_append, List.append_nil, List.count_append, List.count_cons, List.count_nil] <;> omega))
  clear b0_0 b0_1 b0_2 b1_0 b1_1 b1_2 hS15 h19
  have b0_0 := hS16.bcell 0 rfl 0 rfl
  have b0_1 := hS16.bcell 0 rfl 1 rfl
  have b0_2 := hS16.bcell 0 rfl 2 rfl
  have b1_0 := hS16.bcell 1 rfl 0 rfl
  have b1_1 := hS16.bcell 1 rfl 1 rfl
  have b1_2 := hS16.bcell 1 rfl 2 rfl
  go_wp2_with fail
  refine (toInt64SS_c v1 us1 xss1 _ (hS16.oldII hv1) Hz1_1.out Hz2_1.out).mono ?_
  rintro e w20 ⟨t20, tu20, rfl, hl20, h20⟩
  have hr20 := h20.rii hl20
  have hr19 := hr19.keep h20.below
  have hS17 : St w.heap.size w w20 (box 29 w6.heap.size [.int .i64 p0, .int .i64 d0, .slice a6 xs0.length c6] :: box 24 w.heap.size [.int .i64 p0, .int .i64 d0, v0] :: (own2 t8 tu8 (mrkL 1 R) ++ own2 t7 tu7 (mrkL (1 + xs0.length) xss1) ++ [row 2 (.slice a6 xs0.length c6) (iv (mrk 1 xs0.length))] ++ own2 t5 tu5 R ++ [])) := (hS16.call0 h20.out).perm (by classical exact List.perm_iff_count.2 (fun a => by simp only [List.cons_append, List.nil_append, List.append_nil, List.count_append, List.count_cons, List.count_nil] <;> omega))
  clear b0_0 b0_1 b0_2 b1_0 b1_1 b1_2 hS16 h20 hl20
  have b0_0 := hS17.bcell 0 rfl 0 rfl
  have b0_1 := hS17.bcell 0 rfl 1 rfl
  have b0_2 := hS17.bcell 0 rfl 2 rfl
  have b1_0 := hS17.bcell 1 rfl 0 rfl
  have b1_1 := hS17.bcell 1 rfl 1 rfl
  have b1_2 := hS17.bcell 1 rfl 2 rfl
  go_wp2_with fail
  refine (Hi _ _ _ _ hr19 hr20).out.mono ?_
  rintro e w21 ⟨t21, tu21, rfl, hl21, h21⟩
  have Hl_h0 := Lib.hid hl21
  have hS18 : St w.heap.size w w21 (box 29 w6.heap.size [.int .i64 p0, .int .i64 d0, .slice a6 xs0.length c6] :: box 24 w.heap.size [.int .i64 p0, .int .i64 d0, v0] :: (own2 t21 tu21 R ++ own2 t8 tu8 (mrkL 1 R) ++ own2 t7 tu7 (mrkL (1 + xs0.length) xss1) ++ [row 2 (.slice a6 xs0.length c6) (iv (mrk 1 xs0.length))] ++ own2 t5 tu5 R ++ [])) := (hS17.call h21).perm (by classical exact List.perm_iff_count.2 (fun a => by simp only [List.cons_append, List.nil_append, List.append_nil, List.count_append, List.count_cons, List.count_nil] <;> omega))
  clear b0_0 b0_1 b0_2 b1_0 b1_1 b1_2 hS17 h21 hl21 hr19 hr20
  have b0_0 := hS18.bcell 0 rfl 0 rfl
  have b0_1 := hS18.bcell 0 rfl 1 rfl
  have b0_2 := hS18.bcell 0 rfl 2 rfl
  have b1_0 := hS18.bcell 1 rfl 0 rfl
  have b1_1 := hS18.bcell 1 rfl 1 rfl
  have b1_2 := hS18.bcell 1 rfl 2 rfl
  go_wp2_with fail
  refine (eqInt64SS_c _ _ tu21 tu5 R R _ (rii2 (hS18.perm (L' := own2 t21 tu21 R ++ (box 29 w6.heap.size [.int .i64 p0, .int .i64 d0, .slice a6 xs0.length c6] :: box 24 w.heap.size [.int .i64 p0, .int .i64 d0, v0] :: (own2 t8 tu8 (mrkL 1 R) ++ own2 t7 tu7 (mrkL (1 + xs0.length) xss1) ++ [row 2 (.slice a6 xs0.length c6) (iv (mrk 1 xs0.length))] ++ own2 t5 tu5 R ++ []))) (by classical exact List.perm_iff_count.2 (fun a => by simp only [List.cons_append, List.nil_append, List.append_nil, List.count_append, List.count_cons, List.count_nil] <;> omega))) Hl_h0.out) (rii2 (hS18.perm (L' := own2 t5 tu5 R ++ (box 29 w6.heap.size [.int .i64 p0, .int .i64 d0, .slice a6 xs0.length c6] :: box 24 w.heap.size [.int .i64 p0, .int .i64 d0, v0] :: (own2 t21 tu21 R ++ own2 t8 tu8 (mrkL 1 R) ++ own2 t7 tu7 (mrkL (1 + xs0.length) xss1) ++ [row 2 (.slice a6 xs0.length c6) (iv (mrk 1 xs0.length))] ++ []))) (by classical exact List.perm_iff_count.2 (fun a => by simp only [List.cons_append, List.nil_append, List.append_nil, List.count_append, List.count_cons, List.count_nil] <;> omega))) Hl_w0.out)).mono ?_
  rw [show decide (R = R) = true from decide_eq_true rfl]
  rintro e w22 ⟨rfl, h22⟩
  have hS19 : St w.heap.size w w22 (box 29 w6.heap.size [.int .i64 p0, .int .i64 d0, .slice a6 xs0.length c6] :: box 24 w.heap.size [.int .i64 p0, .int .i64 d0, v0] :: (own2 t21 tu21 R ++ own2 t8 tu8 (mrkL 1 R) ++ own2 t7 tu7 (mrkL (1 + xs0.length) xss1) ++ [row 2 (.slice a6 xs0.length c6) (iv (mrk 1 xs0.length))] ++ own2 t5 tu5 R ++ [])) := (hS18.call0 h22).perm (by classical exact List.perm_iff_count.2 (fun a => by simp only [List.cons_append, List.nil_append, List.append_nil, List.count_append, List.count_cons, List.count_nil] <;> omega))
  clear b0_0 b0_1 b0_2 b1_0 b1_1 b1_2 hS18 h22
  have b0_0 := hS19.bcell 0 rfl 0 rfl
  have b0_1 := hS19.bcell 0 rfl 1 rfl
  have b0_2 := hS19.bcell 0 rfl 2 rfl
  have b1_0 := hS19.bcell 1 rfl 0 rfl
  have b1_1 := hS19.bcell 1 rfl 1 rfl
  have b1_2 := hS19.bcell 1 rfl 2 rfl
  go_wp2_with fail
  refine (heldInt64SS_c _ tu8 R 1 _ (by omega) (by omega) (rii2 (hS19.perm (L' := own2 t8 tu8 (mrkL 1 R) ++ (box 29 w6.heap.size [.int .i64 p0, .int .i64 d0, .slice a6 xs0.length c6] :: box 24 w.heap.size [.int .i64 p0, .int .i64 d0, v0] :: (own2 t21 tu21 R ++ own2 t7 tu7 (mrkL (1 + xs0.length) xss1) ++ [row 2 (.slice a6 xs0.length c6) (iv (mrk 1 xs0.length))] ++ own2 t5 tu5 R ++ []))) (by classical exact List.perm_iff_count.2 (fun a => by simp only [List.cons_append, List.nil_append, List.append_nil, List.count_append, List.count_cons, List.count_nil] <;> omega))) (by rw [mrkL_len]; exact Hl_g0.out))).mono ?_
  rintro e w23 ⟨rfl, rfl⟩
  go_wp2_with fail
  go_ret
  exact ⟨rfl, hS19.out⟩
end Go.Proofs.Ytmkfafhgcnbcaaa
