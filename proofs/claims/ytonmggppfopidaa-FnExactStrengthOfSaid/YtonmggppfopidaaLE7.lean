/- The law FnExactStrengthOf, walked. -/
import Derived.Test.YtonmggppfopidaaStr5
import Derived.Test.YtonmggppfopidaaLE4
import Derived.Deep.RegionHeld3
import Derived.Deep.DrawnRows
namespace Go.Proofs.Ytonmggppfopidaa
set_option linter.unusedSimpArgs false
set_option linter.unusedVariables false
open Go.RowKit
attribute [local go_sem ↓] Go.wp_at_zero Go.wp_at_succ


set_option maxHeartbeats 8000000 in
set_option maxRecDepth 100000 in
theorem FnExactStrengthOf_law (w : World) (lv0 co0 : Int) (v0 : Value) (us0 : List Value) (xss0 : List (List Int)) (hv0 : RII w v0 us0 xss0) :
    Calls Try.prog 15 #[av lv0 co0 v0] w (GivesB w true) := by
  have hS0 := ((St.refl w).newboxF 42 #[.int .i64 lv0, .int .i64 co0, v0])
  simp only [World.size_alloc] at hS0
  by_cases hz0 : szII 1048576 xss0 < 0
  · go_enter Try.func15, Try.ntmps15
    unfold av
    go_wp2_with fail
    refine (szArray_c lv0 co0 v0 us0 xss0 _ _ (hS0.oldII hv0) (by omega)).mono ?_
    rintro e e0 ⟨rfl, h0⟩
    have hT0 := hS0.call0 (w' := e0) h0
    have b0_0_0 := hT0.bcell 0 rfl 0 rfl
    have b0_0_1 := hT0.bcell 0 rfl 1 rfl
    have b0_0_2 := hT0.bcell 0 rfl 2 rfl
    go_wp2_with fail
    go_ret
    exact ⟨rfl, hT0.out⟩
  · have hzb0 : 0 ≤ szII 1048576 xss0 ∧ szII 1048576 xss0 ≤ 1048576 := by have := szII_top (left := 1048576) (xss := xss0) (by omega); omega
    have hq0 := szII_le (left := 1048576) (xss := xss0) (by omega)
    have Hz1_0 := Lib.hid (show xss0.length ≤ 1048576 by have := hq0.1; omega)
    have Hz2_0 := Lib.hid (show ∀ xs ∈ xss0, xs.length ≤ 1048576 from fun xs hx => by have := hq0.2 xs hx; omega)
    have Ht0 := Lib.hid (show (tot xss0 : Int) + (szII 1048576 xss0) ≤ 1048576 by have := szII_tot2 (left := 1048576) (xss := xss0) (by omega); omega)
    clear hq0
    have hx0 := Ht0.out
    have Hs := fun w v0 us0 (hv0 : RII w v0 us0 xss0) => Lib.hid (sStrengthOf_c lv0 co0 v0 us0 xss0 w hv0)
    have Hi := fun w v0 us0 (hv0 : RII w v0 us0 xss0) => Lib.hid (StrengthOf_c lv0 co0 v0 us0 xss0 w hv0)
    generalize strO lv0 co0 xss0 = r1 at Hs Hi
    have hcc : (r1 != r1) = false := by simp
    have HeX0 := Lib.hid (show eqA lv0 co0 lv0 co0 xss0 xss0 = true by simp [eqA])
    go_enter Try.func15, Try.ntmps15
    unfold av
    go_wp2_with fail
    refine (szArray_c lv0 co0 v0 us0 xss0 _ _ (hS0.oldII hv0) (by omega)).mono ?_
    rintro e w1 ⟨rfl, h1⟩
    have hS1 : St w.heap.size w w1 (box 42 w.heap.size [.int .i64 lv0, .int .i64 co0, v0] :: ([])) := (hS0.call0 h1).perm (by classical exact List.perm_iff_count.2 (fun a => by simp only [List.cons_append, List.nil_append, List.append_nil, List.count_append, List.count_cons, List.count_nil] <;> omega))
    clear hS0 h1
    have b0_0 := hS1.bcell 0 rfl 0 rfl
    have b0_1 := hS1.bcell 0 rfl 1 rfl
    have b0_2 := hS1.bcell 0 rfl 2 rfl
    go_wp2_with fail
    refine (toArray_c lv0 co0 v0 us0 xss0 _ (hS1.oldII hv0) Hz1_0.out Hz2_0.out).mono ?_
    rintro e w2 ⟨vw2x, usw2x, rfl, hl2, h2⟩
    have hr2 := h2.rii hl2
    have hS2 : St w.heap.size w w2 (box 42 w.heap.size [.int .i64 lv0, .int .i64 co0, v0] :: ([])) := (hS1.call0 h2.out).perm (by classical exact List.perm_iff_count.2 (fun a => by simp only [List.cons_append, List.nil_append, List.append_nil, List.count_append, List.count_cons, List.count_nil] <;> omega))
    clear b0_0 b0_1 b0_2 hS1 h2 hl2
    have b0_0 := hS2.bcell 0 rfl 0 rfl
    have b0_1 := hS2.bcell 0 rfl 1 rfl
    have b0_2 := hS2.bcell 0 rfl 2 rfl
    go_wp2_with fail
    refine (Hs _ _ _ hr2).out.mono ?_
    rintro e w3 ⟨rfl, h3⟩
    have hS3 : St w.heap.size w w3 (box 42 w.heap.size [.int .i64 lv0, .int .i64 co0, v0] :: ([])) := (hS2.call0 h3).perm (by classical exact List.perm_iff_count.2 (fun a => by simp only [List.cons_append, List.nil_append, List.append_nil, List.count_append, List.count_cons, List.count_nil] <;> omega))
    clear b0_0 b0_1 b0_2 hS2 h3 hr2
    have b0_0 := hS3.bcell 0 rfl 0 rfl
    have b0_1 := hS3.bcell 0 rfl 1 rfl
    have b0_2 := hS3.bcell 0 rfl 2 rfl
    go_wp2_with fail
    refine (toArray_c lv0 co0 v0 us0 xss0 _ (hS3.oldII hv0) Hz1_0.out Hz2_0.out).mono ?_
    rintro e w4 ⟨vw4x, usw4x, rfl, hl4, h4⟩
    have Hl4 := Lib.hid hl4
    obtain ⟨a4, c4, rfl⟩ := (h4.rii hl4).1.sl.sh
    unfold av
    have hS4 : St w.heap.size w _ (box 45 w4.heap.size [.int .i64 lv0, .int .i64 co0, .slice a4 usw4x.length c4] :: box 42 w.heap.size [.int .i64 lv0, .int .i64 co0, v0] :: (own2 (.slice a4 usw4x.length c4) usw4x xss0 ++ [])) := ((hS3.call h4).newboxF 45 #[.int .i64 lv0, .int .i64 co0, .slice a4 usw4x.length c4]).perm (by classical exact List.perm_iff_count.2 (fun a => by simp only [List.cons_append, List.nil_append, List.append_nil, List.count_append, List.count_cons, List.count_nil] <;> omega))
    clear b0_0 b0_1 b0_2 hS3 h4 hl4
    have b0_0 := hS4.bcell 0 rfl 0 rfl
    have b0_1 := hS4.bcell 0 rfl 1 rfl
    have b0_2 := hS4.bcell 0 rfl 2 rfl
    have b1_0 := hS4.bcell 1 rfl 0 rfl
    have b1_1 := hS4.bcell 1 rfl 1 rfl
    have b1_2 := hS4.bcell 1 rfl 2 rfl
    go_wp2_with fail
    refine (Hi _ _ _ (rii2 (hS4.perm (L' := own2 (.slice a4 usw4x.length c4) usw4x xss0 ++ (box 45 w4.heap.size [.int .i64 lv0, .int .i64 co0, .slice a4 usw4x.length c4] :: box 42 w.heap.size [.int .i64 lv0, .int .i64 co0, v0] :: ([]))) (by classical exact List.perm_iff_count.2 (fun a => by simp only [List.cons_append, List.nil_append, List.append_nil, List.count_append, List.count_cons, List.count_nil] <;> omega))) Hl4.out)).out.mono ?_
    rintro e w5 ⟨rfl, h5⟩
    have hS5 : St w.heap.size w w5 (box 45 w4.heap.size [.int .i64 lv0, .int .i64 co0, .slice a4 usw4x.length c4] :: box 42 w.heap.size [.int .i64 lv0, .int .i64 co0, v0] :: (own2 (.slice a4 usw4x.length c4) usw4x xss0 ++ [])) := (hS4.call0 h5).perm (by classical exact List.perm_iff_count.2 (fun a => by simp only [List.cons_append, List.nil_append, List.append_nil, List.count_append, List.count_cons, List.count_nil] <;> omega))
    clear b0_0 b0_1 b0_2 b1_0 b1_1 b1_2 hS4 h5
    have b0_0 := hS5.bcell 0 rfl 0 rfl
    have b0_1 := hS5.bcell 0 rfl 1 rfl
    have b0_2 := hS5.bcell 0 rfl 2 rfl
    have b1_0 := hS5.bcell 1 rfl 0 rfl
    have b1_1 := hS5.bcell 1 rfl 1 rfl
    have b1_2 := hS5.bcell 1 rfl 2 rfl
    go_wp2_with fail
    have hrx0 := (rii2 (hS5.perm (L' := own2 (.slice a4 usw4x.length c4) usw4x xss0 ++ (box 45 w4.heap.size [.int .i64 lv0, .int .i64 co0, .slice a4 usw4x.length c4] :: box 42 w.heap.size [.int .i64 lv0, .int .i64 co0, v0] :: ([]))) (by classical exact List.perm_iff_count.2 (fun a => by simp only [List.cons_append, List.nil_append, List.append_nil, List.count_append, List.count_cons, List.count_nil] <;> omega))) Hl4.out)
    go_region_held3 (fun w' => w'.cell? ⟨w4.heap.size, 0, none⟩ = some (.int .i64 lv0) ∧ w'.cell? ⟨w4.heap.size, 1, none⟩ = some (.int .i64 co0) ∧ w'.cell? ⟨w4.heap.size, 2, none⟩ = some (.slice a4 usw4x.length c4) ∧ w'.cell? ⟨w.heap.size, 0, none⟩ = some (.int .i64 lv0) ∧ w'.cell? ⟨w.heap.size, 1, none⟩ = some (.int .i64 co0) ∧ w'.cell? ⟨w.heap.size, 2, none⟩ = some (v0)) (go_keep)
      (first
      | (go_at_call 31; refine (toArray_c lv0 co0 v0 us0 xss0 _ (hS5.drew.oldII hv0) Hz1_0.out Hz2_0.out).mono ?_; rintro e w6 ⟨vw6x, usw6x, rfl, hl6, h6⟩; have hr6 := h6.rii hl6; have hU6 := hS5.drew.call0 h6.out; clear hl6; have fw6_0_0 := hU6.bcell 0 rfl 0 rfl; have fw6_0_1 := hU6.bcell 0 rfl 1 rfl; have fw6_0_2 := hU6.bcell 0 rfl 2 rfl; have fw6_1_0 := hU6.bcell 1 rfl 0 rfl; have fw6_1_1 := hU6.bcell 1 rfl 1 rfl; have fw6_1_2 := hU6.bcell 1 rfl 2 rfl)
      | (go_at_call 33; refine (eqArray_c lv0 co0 lv0 co0 _ _ usw4x usw6x xss0 xss0 _ ((hrx0.keep (St.refl _).drew.below).keep h6.below) hr6).mono ?_; rw [HeX0.out]; rintro e w7 ⟨rfl, h7⟩; have hU7 := hU6.call0 h7; have fw7_0_0 := hU7.bcell 0 rfl 0 rfl; have fw7_0_1 := hU7.bcell 0 rfl 1 rfl; have fw7_0_2 := hU7.bcell 0 rfl 2 rfl; have fw7_1_0 := hU7.bcell 1 rfl 0 rfl; have fw7_1_1 := hU7.bcell 1 rfl 1 rfl; have fw7_1_2 := hU7.bcell 1 rfl 2 rfl))
    have hS6 : St w.heap.size w w7 (box 45 w4.heap.size [.int .i64 lv0, .int .i64 co0, .slice a4 usw4x.length c4] :: box 42 w.heap.size [.int .i64 lv0, .int .i64 co0, v0] :: (own2 (.slice a4 usw4x.length c4) usw4x xss0 ++ [])) := (hU7).perm (by classical exact List.perm_iff_count.2 (fun a => by simp only [List.cons_append, List.nil_append, List.append_nil, List.count_append, List.count_cons, List.count_nil] <;> omega))
    clear b0_0 b0_1 b0_2 b1_0 b1_1 b1_2 hS5 hU6 hU7 h6 h7 hr6 hrx0 fw6_0_0 fw6_0_1 fw6_0_2 fw6_1_0 fw6_1_1 fw6_1_2 fw7_0_0 fw7_0_1 fw7_0_2 fw7_1_0 fw7_1_1 fw7_1_2
    have b0_0 := hS6.bcell 0 rfl 0 rfl
    have b0_1 := hS6.bcell 0 rfl 1 rfl
    have b0_2 := hS6.bcell 0 rfl 2 rfl
    have b1_0 := hS6.bcell 1 rfl 0 rfl
    have b1_1 := hS6.bcell 1 rfl 1 rfl
    have b1_2 := hS6.bcell 1 rfl 2 rfl
    go_wp2_with fail
    go_ret
    exact ⟨rfl, hS6.out⟩
end Go.Proofs.Ytonmggppfopidaa
