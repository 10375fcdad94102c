/- The law FnExactJoinArrays, walked. -/
import Derived.Test.YtonmggppfopidaaJoin2
import Derived.Test.YtonmggppfopidaaLE4
import Derived.Deep.RegionHeld3
import Derived.Deep.DrawnRows
namespace Go.Proofs.Ytonmggppfopidaa
set_option linter.unusedSimpArgs false
set_option linter.unusedVariables false
open Go.RowKit
attribute [local go_sem ↓] Go.wp_at_zero Go.wp_at_succ

theorem joinA_tot (lv co : Int) (xss : List (List Int)) (lv' co' : Int) (yss : List (List Int)) : tot (joinA lv co xss lv' co' yss).rows ≤ tot xss + tot yss := by
  unfold joinA; split
  · rw [tot_app]; exact Nat.le_refl _
  · simp [noA, tot]

set_option maxHeartbeats 8000000 in
set_option maxRecDepth 100000 in
theorem FnExactJoinArrays_law (w : World) (lv0 co0 : Int) (v0 : Value) (us0 : List Value) (xss0 : List (List Int)) (hv0 : RII w v0 us0 xss0) (lv1 co1 : Int) (v1 : Value) (us1 : List Value) (xss1 : List (List Int)) (hv1 : RII w v1 us1 xss1) :
    Calls Try.prog 13 #[av lv0 co0 v0, av lv1 co1 v1] w (GivesB w true) := by
  have hS0 := (((St.refl w).newboxF 42 #[.int .i64 lv0, .int .i64 co0, v0]).newboxF 42 #[.int .i64 lv1, .int .i64 co1, v1])
  simp only [World.size_alloc] at hS0
  by_cases hz0 : szII 1048576 xss0 < 0
  · go_enter Try.func13, Try.ntmps13
    unfold av
    go_wp2_with fail
    refine (szArray_c lv0 co0 v0 us0 xss0 _ _ (hS0.oldII hv0) (by omega)).mono ?_
    rintro e e0 ⟨rfl, h0⟩
    have hT0 := hS0.call0 (w' := e0) h0
    have b0_0_0 := hT0.bcell 0 rfl 0 rfl
    have b0_0_1 := hT0.bcell 0 rfl 1 rfl
    have b0_0_2 := hT0.bcell 0 rfl 2 rfl
    have b0_1_0 := hT0.bcell 1 rfl 0 rfl
    have b0_1_1 := hT0.bcell 1 rfl 1 rfl
    have b0_1_2 := hT0.bcell 1 rfl 2 rfl
    go_wp2_with fail
    go_ret
    exact ⟨rfl, hT0.out⟩
  · have hzb0 : 0 ≤ szII 1048576 xss0 ∧ szII 1048576 xss0 ≤ 1048576 := by have := szII_top (left := 1048576) (xss := xss0) (by omega); omega
    have hq0 := szII_le (left := 1048576) (xss := xss0) (by omega)
    have Hz1_0 := Lib.hid (show xss0.length ≤ 1048576 by have := hq0.1; omega)
    have Hz2_0 := Lib.hid (show ∀ xs ∈ xss0, xs.length ≤ 1048576 from fun xs hx => by have := hq0.2 xs hx; omega)
    have Ht0 := Lib.hid (show (tot xss0 : Int) + (szII 1048576 xss0) ≤ 1048576 by have := szII_tot2 (left := 1048576) (xss := xss0) (by omega); omega)
    clear hq0
    by_cases hz1 : szII (szII 1048576 xss0) xss1 < 0
    · go_enter Try.func13, Try.ntmps13
      unfold av
      go_wp2_with fail
      refine (szArray_c lv0 co0 v0 us0 xss0 _ _ (hS0.oldII hv0) (by omega)).mono ?_
      rintro e e0 ⟨rfl, h0⟩
      have hT0 := hS0.call0 (w' := e0) h0
      have b0_0_0 := hT0.bcell 0 rfl 0 rfl
      have b0_0_1 := hT0.bcell 0 rfl 1 rfl
      have b0_0_2 := hT0.bcell 0 rfl 2 rfl
      have b0_1_0 := hT0.bcell 1 rfl 0 rfl
      have b0_1_1 := hT0.bcell 1 rfl 1 rfl
      have b0_1_2 := hT0.bcell 1 rfl 2 rfl
      go_wp2_with fail
      refine (szArray_c lv1 co1 v1 us1 xss1 _ _ (hT0.oldII hv1) hzb0).mono ?_
      rintro e e1 ⟨rfl, h1⟩
      have hT1 := hT0.call0 (w' := e1) h1
      have b1_0_0 := hT1.bcell 0 rfl 0 rfl
      have b1_0_1 := hT1.bcell 0 rfl 1 rfl
      have b1_0_2 := hT1.bcell 0 rfl 2 rfl
      have b1_1_0 := hT1.bcell 1 rfl 0 rfl
      have b1_1_1 := hT1.bcell 1 rfl 1 rfl
      have b1_1_2 := hT1.bcell 1 rfl 2 rfl
      go_wp2_with fail
      go_ret
      exact ⟨rfl, hT1.out⟩
    · have hzb1 : 0 ≤ szII (szII 1048576 xss0) xss1 ∧ szII (szII 1048576 xss0) xss1 ≤ 1048576 := by have := szII_top (left := szII 1048576 xss0) (xss := xss1) (by omega); omega
      have hq1 := szII_le (left := szII 1048576 xss0) (xss := xss1) (by omega)
      have Hz1_1 := Lib.hid (show xss1.length ≤ 1048576 by have := hq1.1; omega)
      have Hz2_1 := Lib.hid (show ∀ xs ∈ xss1, xs.length ≤ 1048576 from fun xs hx => by have := hq1.2 xs hx; omega)
      have Ht1 := Lib.hid (show (tot xss1 : Int) + (szII (szII 1048576 xss0) xss1) ≤ szII 1048576 xss0 by have := szII_tot2 (left := szII 1048576 xss0) (xss := xss1) (by omega); omega)
      clear hq1
      have hx0 := Ht0.out
      have hx1 := Ht1.out
      have Hb := Lib.hid (show tot (joinA lv0 co0 xss0 lv1 co1 xss1).rows ≤ 1048576 from by have := joinA_tot lv0 co0 xss0 lv1 co1 xss1; have := Ht0.out; have := Ht1.out; omega)
      have Hs := fun w v0 us0 v1 us1 (hv0 : RII w v0 us0 xss0) (hv1 : RII w v1 us1 xss1) => Lib.hid (sJoinArrays_c lv0 co0 lv1 co1 v0 v1 us0 us1 xss0 xss1 w hv0 hv1)
      have Hi := fun w v0 us0 v1 us1 (hv0 : RII w v0 us0 xss0) (hv1 : RII w v1 us1 xss1) => Lib.hid (JoinArrays_c lv0 co0 lv1 co1 v0 v1 us0 us1 xss0 xss1 w hv0 hv1)
      generalize joinA lv0 co0 xss0 lv1 co1 xss1 = A at Hb Hs Hi
      generalize joinC lv0 co0 xss0 lv1 co1 xss1 = cc at Hs Hi
      obtain ⟨l, d, R⟩ := A
      simp only at Hb
      have HeA := Lib.hid (show eqA l d l d R R = true by simp [eqA])
      have hcc : (cc != cc) = false := by simp
      have ht1 := Hb.out
      have htt : ((1 + (tot R : Int)) != (1 + (tot R : Int))) = false := by simp
      have HeX0 := Lib.hid (show eqA lv0 co0 lv0 co0 xss0 xss0 = true by simp [eqA])
      have HeX1 := Lib.hid (show eqA lv1 co1 lv1 co1 xss1 xss1 = true by simp [eqA])
      go_enter Try.func13, Try.ntmps13
      unfold av
      go_wp2_with fail
      refine (szArray_c lv0 co0 v0 us0 xss0 _ _ (hS0.oldII hv0) (by omega)).mono ?_
      rintro e w1 ⟨rfl, h1⟩
      have hS1 : St w.heap.size w w1 (box 42 (w.heap.size + 1) [.int .i64 lv1, .int .i64 co1, v1] :: box 42 w.heap.size [.int .i64 lv0, .int .i64 co0, v0] :: ([])) := (hS0.call0 h1).perm (by classical exact List.perm_iff_count.2 (fun a => by simp only [List.cons_append, List.nil_append, List.append_nil, List.count_append, List.count_cons, List.count_nil] <;> omega))
      clear hS0 h1
      have b0_0 := hS1.bcell 0 rfl 0 rfl
      have b0_1 := hS1.bcell 0 rfl 1 rfl
      have b0_2 := hS1.bcell 0 rfl 2 rfl
      have b1_0 := hS1.bcell 1 rfl 0 rfl
      have b1_1 := hS1.bcell 1 rfl 1 rfl
      have b1_2 := hS1.bcell 1 rfl 2 rfl
      go_wp2_with fail
      refine (szArray_c lv1 co1 v1 us1 xss1 _ _ (hS1.oldII hv1) hzb0).mono ?_
      rintro e w2 ⟨rfl, h2⟩
      have hS2 : St w.heap.size w w2 (box 42 (w.heap.size + 1) [.int .i64 lv1, .int .i64 co1, v1] :: box 42 w.heap.size [.int .i64 lv0, .int .i64 co0, v0] :: ([])) := (hS1.call0 h2).perm (by classical exact List.perm_iff_count.2 (fun a => by simp only [List.cons_append, List.nil_append, List.append_nil, List.count_append, List.count_cons, List.count_nil] <;> omega))
      clear b0_0 b0_1 b0_2 b1_0 b1_1 b1_2 hS1 h2
      have b0_0 := hS2.bcell 0 rfl 0 rfl
      have b0_1 := hS2.bcell 0 rfl 1 rfl
      have b0_2 := hS2.bcell 0 rfl 2 rfl
      have b1_0 := hS2.bcell 1 rfl 0 rfl
      have b1_1 := hS2.bcell 1 rfl 1 rfl
      have b1_2 := hS2.bcell 1 rfl 2 rfl
      go_wp2_with fail
      go_cut [6, 7] from 17 (fun s0 s1 w' => CutA w (box 42 (w.heap.size + 1) [.int .i64 lv1, .int .i64 co1, v1] :: box 42 w.heap.size [.int .i64 lv0, .int .i64 co0, v0] :: ([])) 45 l d cc R s0 s1 w')
      case first =>
        have l_1 := Nat.ne_of_gt (hS2.blt 1 rfl).2
        have m_1 := Nat.ne_of_lt (hS2.blt 1 rfl).2
        have l_0 := Nat.ne_of_gt (hS2.blt 0 rfl).2
        have m_0 := Nat.ne_of_lt (hS2.blt 0 rfl).2
        go_region_held3 (fun w' => w'.cell? ⟨w.heap.size, 0, none⟩ = some (.int .i64 lv0) ∧ w'.cell? ⟨w.heap.size, 1, none⟩ = some (.int .i64 co0) ∧ w'.cell? ⟨w.heap.size, 2, none⟩ = some (v0) ∧ w'.cell? ⟨(w.heap.size + 1), 0, none⟩ = some (.int .i64 lv1) ∧ w'.cell? ⟨(w.heap.size + 1), 1, none⟩ = some (.int .i64 co1) ∧ w'.cell? ⟨(w.heap.size + 1), 2, none⟩ = some (v1)) (go_keep)
          (first
          | (go_at_call_of 31 (Value.int .i64 lv0); (first | (refine (toArray_c lv0 co0 v0 us0 xss0 _ (hS2.drew.oldII hv0) Hz1_0.out Hz2_0.out).mono ?_; rintro e w3 ⟨vw3x, usw3x, rfl, hl3, h3⟩; have hr3_0 := h3.rii hl3; have hU3 := hS2.drew.call0 h3.out; clear hl3) | (refine (toArray_c lv0 co0 v0 us0 xss0 _ (((hS2.newbox 45 #[.int .i64 0, .int .i64 0, .slice none 0 0]).perm (L' := box 42 (w.heap.size + 1) [.int .i64 lv1, .int .i64 co1, v1] :: box 42 w.heap.size [.int .i64 lv0, .int .i64 co0, v0] :: (box 45 w2.heap.size [.int .i64 0, .int .i64 0, .slice none 0 0] :: ([]))) (by classical exact List.perm_iff_count.2 (fun a => by simp only [List.cons_append, List.nil_append, List.append_nil, List.count_append, List.count_cons, List.count_nil] <;> omega))).drew.oldII hv0) Hz1_0.out Hz2_0.out).mono ?_; rintro e w3 ⟨vw3x, usw3x, rfl, hl3, h3⟩; have hr3_0 := h3.rii hl3; have hU3 := ((hS2.newbox 45 #[.int .i64 0, .int .i64 0, .slice none 0 0]).perm (L' := box 42 (w.heap.size + 1) [.int .i64 lv1, .int .i64 co1, v1] :: box 42 w.heap.size [.int .i64 lv0, .int .i64 co0, v0] :: (box 45 w2.heap.size [.int .i64 0, .int .i64 0, .slice none 0 0] :: ([]))) (by classical exact List.perm_iff_count.2 (fun a => by simp only [List.cons_append, List.nil_append, List.append_nil, List.count_append, List.count_cons, List.count_nil] <;> omega))).drew.call0 h3.out; clear hl3)); have fw3_1_0 := hU3.bcell 1 rfl 0 rfl; have fw3_1_1 := hU3.bcell 1 rfl 1 rfl; have fw3_1_2 := hU3.bcell 1 rfl 2 rfl; have lw3_1 := Nat.ne_of_gt (hU3.blt 1 rfl).2; have mw3_1 := Nat.ne_of_lt (hU3.blt 1 rfl).2; have fw3_0_0 := hU3.bcell 0 rfl 0 rfl; have fw3_0_1 := hU3.bcell 0 rfl 1 rfl; have fw3_0_2 := hU3.bcell 0 rfl 2 rfl; have lw3_0 := Nat.ne_of_gt (hU3.blt 0 rfl).2; have mw3_0 := Nat.ne_of_lt (hU3.blt 0 rfl).2)
          | (go_at_call_of 31 (Value.int .i64 lv1); (first | (refine (toArray_c lv1 co1 v1 us1 xss1 _ (hU3.oldII hv1) Hz1_1.out Hz2_1.out).mono ?_; rintro e w4 ⟨vw4x, usw4x, rfl, hl4, h4⟩; have hr4_1 := h4.rii hl4; have hU4 := hU3.call0 h4.out; clear hl4; have hr4_0 := hr3_0.keep h4.below) | (refine (toArray_c lv1 co1 v1 us1 xss1 _ (((hU3.newbox 45 #[.int .i64 0, .int .i64 0, .slice none 0 0]).perm (L' := box 42 (w.heap.size + 1) [.int .i64 lv1, .int .i64 co1, v1] :: box 42 w.heap.size [.int .i64 lv0, .int .i64 co0, v0] :: (box 45 w3.heap.size [.int .i64 0, .int .i64 0, .slice none 0 0] :: ([]))) (by classical exact List.perm_iff_count.2 (fun a => by simp only [List.cons_append, List.nil_append, List.append_nil, List.count_append, List.count_cons, List.count_nil] <;> omega))).oldII hv1) Hz1_1.out Hz2_1.out).mono ?_; rintro e w4 ⟨vw4x, usw4x, rfl, hl4, h4⟩; have hr4_1 := h4.rii hl4; have hU4 := ((hU3.newbox 45 #[.int .i64 0, .int .i64 0, .slice none 0 0]).perm (L' := box 42 (w.heap.size + 1) [.int .i64 lv1, .int .i64 co1, v1] :: box 42 w.heap.size [.int .i64 lv0, .int .i64 co0, v0] :: (box 45 w3.heap.size [.int .i64 0, .int .i64 0, .slice none 0 0] :: ([]))) (by classical exact List.perm_iff_count.2 (fun a => by simp only [List.cons_append, List.nil_append, List.append_nil, List.count_append, List.count_cons, List.count_nil] <;> omega))).call0 h4.out; clear hl4; have hr4_0 := (hr3_0.keep ((St.refl _).alloc' _).below).keep h4.below)); have fw4_1_0 := hU4.bcell 1 rfl 0 rfl; have fw4_1_1 := hU4.bcell 1 rfl 1 rfl; have fw4_1_2 := hU4.bcell 1 rfl 2 rfl; have lw4_1 := Nat.ne_of_gt (hU4.blt 1 rfl).2; have mw4_1 := Nat.ne_of_lt (hU4.blt 1 rfl).2; have fw4_0_0 := hU4.bcell 0 rfl 0 rfl; have fw4_0_1 := hU4.bcell 0 rfl 1 rfl; have fw4_0_2 := hU4.bcell 0 rfl 2 rfl; have lw4_0 := Nat.ne_of_gt (hU4.blt 0 rfl).2; have mw4_0 := Nat.ne_of_lt (hU4.blt 0 rfl).2)
          | (go_at_call 59; (first | (refine (Hs _ _ _ _ _ hr4_0 hr4_1).out.mono ?_; rintro e w5 ⟨vw5y, usw5y, rfl, hl5, h5⟩; have hU5 := hU4.call h5) | (refine (Hs _ _ _ _ _ (hr4_0.keep ((St.refl _).alloc' _).below) (hr4_1.keep ((St.refl _).alloc' _).below)).out.mono ?_; rintro e w5 ⟨vw5y, usw5y, rfl, hl5, h5⟩; have hU5 := ((hU4.newbox 45 #[.int .i64 0, .int .i64 0, .slice none 0 0]).perm (L' := box 42 (w.heap.size + 1) [.int .i64 lv1, .int .i64 co1, v1] :: box 42 w.heap.size [.int .i64 lv0, .int .i64 co0, v0] :: (box 45 w4.heap.size [.int .i64 0, .int .i64 0, .slice none 0 0] :: ([]))) (by classical exact List.perm_iff_count.2 (fun a => by simp only [List.cons_append, List.nil_append, List.append_nil, List.count_append, List.count_cons, List.count_nil] <;> omega))).call h5)); have Hl5 := Lib.hid hl5; obtain ⟨a5, c5, hvy⟩ := (h5.rii hl5).1.sl.sh; subst hvy; unfold av; clear hl5; (first | (have y0 := hU5.bfree 2 rfl; have y1 := hU5.bcell 2 rfl 0 rfl; have y2 := hU5.bcell 2 rfl 1 rfl; have y3 := hU5.bcell 2 rfl 2 rfl) | skip); have fw5_1_0 := hU5.bcell 1 rfl 0 rfl; have fw5_1_1 := hU5.bcell 1 rfl 1 rfl; have fw5_1_2 := hU5.bcell 1 rfl 2 rfl; have lw5_1 := Nat.ne_of_gt (hU5.blt 1 rfl).2; have mw5_1 := Nat.ne_of_lt (hU5.blt 1 rfl).2; have fw5_0_0 := hU5.bcell 0 rfl 0 rfl; have fw5_0_1 := hU5.bcell 0 rfl 1 rfl; have fw5_0_2 := hU5.bcell 0 rfl 2 rfl; have lw5_0 := Nat.ne_of_gt (hU5.blt 0 rfl).2; have mw5_0 := Nat.ne_of_lt (hU5.blt 0 rfl).2))
        all_goals
          go_wp2_with fail
          go_meet
          case rel =>
            first
            | exact ⟨_, a5, c5, usw5y, rfl, rfl, Hl5.out, (((hU5.bstore 2 rfl 0 (.int .i64 l)).bstore 2 rfl 1 (.int .i64 d)).bstore 2 rfl 2 (.slice a5 usw5y.length c5)).perm (by simp only [List.cons_append, List.nil_append, List.append_nil, List.set_cons_succ, List.set_cons_zero]; classical exact List.perm_iff_count.2 (fun a => by simp only [List.cons_append, List.nil_append, List.append_nil, List.count_append, List.count_cons, List.count_nil] <;> omega))⟩
            | exact ⟨_, a5, c5, usw5y, rfl, rfl, Hl5.out, (hU5.newboxF 45 #[.int .i64 l, .int .i64 d, .slice a5 usw5y.length c5]).perm (by classical exact List.perm_iff_count.2 (fun a => by simp only [List.cons_append, List.nil_append, List.append_nil, List.count_append, List.count_cons, List.count_nil] <;> omega))⟩
      obtain ⟨g_w0, a_w0, c_w0, us_w0, rfl, rfl, hl_w0, hcut'⟩ := hcut
      have Hl_w0 := Lib.hid hl_w0; clear hl_w0
      have hS3 : St w.heap.size w _ (box 45 g_w0 [.int .i64 l, .int .i64 d, .slice a_w0 us_w0.length c_w0] :: box 42 (w.heap.size + 1) [.int .i64 lv1, .int .i64 co1, v1] :: box 42 w.heap.size [.int .i64 lv0, .int .i64 co0, v0] :: (own2 (.slice a_w0 us_w0.length c_w0) us_w0 R ++ [])) := (hcut').perm (by classical exact List.perm_iff_count.2 (fun a => by simp only [List.cons_append, List.nil_append, List.append_nil, List.count_append, List.count_cons, List.count_nil] <;> omega))
      clear b0_0 b0_1 b0_2 b1_0 b1_1 b1_2 hS2 hcut'
      have b0_0 := hS3.bcell 0 rfl 0 rfl
      have b0_1 := hS3.bcell 0 rfl 1 rfl
      have b0_2 := hS3.bcell 0 rfl 2 rfl
      have b1_0 := hS3.bcell 1 rfl 0 rfl
      have b1_1 := hS3.bcell 1 rfl 1 rfl
      have b1_2 := hS3.bcell 1 rfl 2 rfl
      have b2_0 := hS3.bcell 2 rfl 0 rfl
      have b2_1 := hS3.bcell 2 rfl 1 rfl
      have b2_2 := hS3.bcell 2 rfl 2 rfl
      go_wp2_with fail
      refine (toArray_c lv0 co0 v0 us0 xss0 _ (hS3.oldII hv0) Hz1_0.out Hz2_0.out).mono ?_
      rintro e w6 ⟨vw6x, usw6x, rfl, hl6, h6⟩
      have Hl6 := Lib.hid hl6
      obtain ⟨a6, c6, rfl⟩ := (h6.rii hl6).1.sl.sh
      unfold av
      have hS4 : St w.heap.size w _ (box 45 w6.heap.size [.int .i64 lv0, .int .i64 co0, .slice a6 usw6x.length c6] :: box 45 g_w0 [.int .i64 l, .int .i64 d, .slice a_w0 us_w0.length c_w0] :: box 42 (w.heap.size + 1) [.int .i64 lv1, .int .i64 co1, v1] :: box 42 w.heap.size [.int .i64 lv0, .int .i64 co0, v0] :: (own2 (.slice a6 usw6x.length c6) usw6x xss0 ++ own2 (.slice a_w0 us_w0.length c_w0) us_w0 R ++ [])) := ((hS3.call h6).newboxF 45 #[.int .i64 lv0, .int .i64 co0, .slice a6 usw6x.length c6]).perm (by classical exact List.perm_iff_count.2 (fun a => by simp only [List.cons_append, List.nil_append, List.append_nil, List.count_append, List.count_cons, List.count_nil] <;> omega))
      clear b0_0 b0_1 b0_2 b1_0 b1_1 b1_2 b2_0 b2_1 b2_2 hS3 h6 hl6
      have b0_0 := hS4.bcell 0 rfl 0 rfl
      have b0_1 := hS4.bcell 0 rfl 1 rfl
      have b0_2 := hS4.bcell 0 rfl 2 rfl
      have b1_0 := hS4.bcell 1 rfl 0 rfl
      have b1_1 := hS4.bcell 1 rfl 1 rfl
      have b1_2 := hS4.bcell 1 rfl 2 rfl
      have b2_0 := hS4.bcell 2 rfl 0 rfl
      have b2_1 := hS4.bcell 2 rfl 1 rfl
      have b2_2 := hS4.bcell 2 rfl 2 rfl
      have b3_0 := hS4.bcell 3 rfl 0 rfl
      have b3_1 := hS4.bcell 3 rfl 1 rfl
      have b3_2 := hS4.bcell 3 rfl 2 rfl
      go_wp2_with fail
      refine (toArray_c lv1 co1 v1 us1 xss1 _ (hS4.oldII hv1) Hz1_1.out Hz2_1.out).mono ?_
      rintro e w7 ⟨vw7x, usw7x, rfl, hl7, h7⟩
      have Hl7 := Lib.hid hl7
      obtain ⟨a7, c7, rfl⟩ := (h7.rii hl7).1.sl.sh
      unfold av
      have hS5 : St w.heap.size w _ (box 45 w7.heap.size [.int .i64 lv1, .int .i64 co1, .slice a7 usw7x.length c7] :: box 45 w6.heap.size [.int .i64 lv0, .int .i64 co0, .slice a6 usw6x.length c6] :: box 45 g_w0 [.int .i64 l, .int .i64 d, .slice a_w0 us_w0.length c_w0] :: box 42 (w.heap.size + 1) [.int .i64 lv1, .int .i64 co1, v1] :: box 42 w.heap.size [.int .i64 lv0, .int .i64 co0, v0] :: (own2 (.slice a7 usw7x.length c7) usw7x xss1 ++ own2 (.slice a6 usw6x.length c6) usw6x xss0 ++ own2 (.slice a_w0 us_w0.length c_w0) us_w0 R ++ [])) := ((hS4.call h7).newboxF 45 #[.int .i64 lv1, .int .i64 co1, .slice a7 usw7x.length c7]).perm (by classical exact List.perm_iff_count.2 (fun a => by simp only [List.cons_append, List.nil_append, List.append_nil, List.count_append, List.count_cons, List.count_nil] <;> omega))
      clear b0_0 b0_1 b0_2 b1_0 b1_1 b1_2 b2_0 b2_1 b2_2 b3_0 b3_1 b3_2 hS4 h7 hl7
      have b0_0 := hS5.bcell 0 rfl 0 rfl
      have b0_1 := hS5.bcell 0 rfl 1 rfl
      have b0_2 := hS5.bcell 0 rfl 2 rfl
      have b1_0 := hS5.bcell 1 rfl 0 rfl
      have b1_1 := hS5.bcell 1 rfl 1 rfl
      have b1_2 := hS5.bcell 1 rfl 2 rfl
      have b2_0 := hS5.bcell 2 rfl 0 rfl
      have b2_1 := hS5.bcell 2 rfl 1 rfl
      have b2_2 := hS5.bcell 2 rfl 2 rfl
      have b3_0 := hS5.bcell 3 rfl 0 rfl
      have b3_1 := hS5.bcell 3 rfl 1 rfl
      have b3_2 := hS5.bcell 3 rfl 2 rfl
      have b4_0 := hS5.bcell 4 rfl 0 rfl
      have b4_1 := hS5.bcell 4 rfl 1 rfl
      have b4_2 := hS5.bcell 4 rfl 2 rfl
      go_wp2_with fail
      refine (Hi _ _ _ _ _ (rii2 (hS5.perm (L' := own2 (.slice a6 usw6x.length c6) usw6x xss0 ++ (box 45 w7.heap.size [.int .i64 lv1, .int .i64 co1, .slice a7 usw7x.length c7] :: box 45 w6.heap.size [.int .i64 lv0, .int .i64 co0, .slice a6 usw6x.length c6] :: box 45 g_w0 [.int .i64 l, .int .i64 d, .slice a_w0 us_w0.length c_w0] :: box 42 (w.heap.size + 1) [.int .i64 lv1, .int .i64 co1, v1] :: box 42 w.heap.size [.int .i64 lv0, .int .i64 co0, v0] :: (own2 (.slice a7 usw7x.length c7) usw7x xss1 ++ own2 (.slice a_w0 us_w0.length c_w0) us_w0 R ++ []))) (by classical exact List.perm_iff_count.2 (fun a => by simp only [List.cons_append, List.nil_append, List.append_nil, List.count_append, List.count_cons, List.count_nil] <;> omega))) Hl6.out) (rii2 (hS5.perm (L' := own2 (.slice a7 usw7x.length c7) usw7x xss1 ++ (box 45 w7.heap.size [.int .i64 lv1, .int .i64 co1, .slice a7 usw7x.length c7] :: box 45 w6.heap.size [.int .i64 lv0, .int .i64 co0, .slice a6 usw6x.length c6] :: box 45 g_w0 [.int .i64 l, .int .i64 d, .slice a_w0 us_w0.length c_w0] :: box 42 (w.heap.size + 1) [.int .i64 lv1, .int .i64 co1, v1] :: box 42 w.heap.size [.int .i64 lv0, .int .i64 co0, v0] :: (own2 (.slice a6 usw6x.length c6) usw6x xss0 ++ own2 (.slice a_w0 us_w0.length c_w0) us_w0 R ++ []))) (by classical exact List.perm_iff_count.2 (fun a => by simp only [List.cons_append, List.nil_append, List.append_nil, List.count_append, List.count_cons, List.count_nil] <;> omega))) Hl7.out)).out.mono ?_
      rintro e w8 ⟨vw8y, usw8y, rfl, hl8, h8⟩
      have Hl8 := Lib.hid hl8
      obtain ⟨a8, c8, rfl⟩ := (h8.rii hl8).1.sl.sh
      unfold av
      have hS6 : St w.heap.size w _ (box 45 w8.heap.size [.int .i64 l, .int .i64 d, .slice a8 usw8y.length c8] :: box 45 w7.heap.size [.int .i64 lv1, .int .i64 co1, .slice a7 usw7x.length c7] :: box 45 w6.heap.size [.int .i64 lv0, .int .i64 co0, .slice a6 usw6x.length c6] :: box 45 g_w0 [.int .i64 l, .int .i64 d, .slice a_w0 us_w0.length c_w0] :: box 42 (w.heap.size + 1) [.int .i64 lv1, .int .i64 co1, v1] :: box 42 w.heap.size [.int .i64 lv0, .int .i64 co0, v0] :: (own2 (.slice a8 usw8y.length c8) usw8y R ++ own2 (.slice a7 usw7x.length c7) usw7x xss1 ++ own2 (.slice a6 usw6x.length c6) usw6x xss0 ++ own2 (.slice a_w0 us_w0.length c_w0) us_w0 R ++ [])) := ((hS5.call h8).newboxF 45 #[.int .i64 l, .int .i64 d, .slice a8 usw8y.length c8]).perm (by classical exact List.perm_iff_count.2 (fun a => by simp only [List.cons_append, List.nil_append, List.append_nil, List.count_append, List.count_cons, List.count_nil] <;> omega))
      clear b0_0 b0_1 b0_2 b1_0 b1_1 b1_2 b2_0 b2_1 b2_2 b3_0 b3_1 b3_2 b4_0 b4_1 b4_2 hS5 h8 hl8
      have b0_0 := hS6.bcell 0 rfl 0 rfl
      have b0_1 := hS6.bcell 0 rfl 1 rfl
      have b0_2 := hS6.bcell 0 rfl 2 rfl
      have b1_0 := hS6.bcell 1 rfl 0 rfl
      have b1_1 := hS6.bcell 1 rfl 1 rfl
      have b1_2 := hS6.bcell 1 rfl 2 rfl
      have b2_0 := hS6.bcell 2 rfl 0 rfl
      have b2_1 := hS6.bcell 2 rfl 1 rfl
      have b2_2 := hS6.bcell 2 rfl 2 rfl
      have b3_0 := hS6.bcell 3 rfl 0 rfl
      have b3_1 := hS6.bcell 3 rfl 1 rfl
      have b3_2 := hS6.bcell 3 rfl 2 rfl
      have b4_0 := hS6.bcell 4 rfl 0 rfl
      have b4_1 := hS6.bcell 4 rfl 1 rfl
      have b4_2 := hS6.bcell 4 rfl 2 rfl
      have b5_0 := hS6.bcell 5 rfl 0 rfl
      have b5_1 := hS6.bcell 5 rfl 1 rfl
      have b5_2 := hS6.bcell 5 rfl 2 rfl
      go_wp2_with fail
      refine (eqArray_c l d l d _ _ usw8y us_w0 R R _ (rii2 (hS6.perm (L' := own2 (.slice a8 usw8y.length c8) usw8y R ++ (box 45 w8.heap.size [.int .i64 l, .int .i64 d, .slice a8 usw8y.length c8] :: box 45 w7.heap.size [.int .i64 lv1, .int .i64 co1, .slice a7 usw7x.length c7] :: box 45 w6.heap.size [.int .i64 lv0, .int .i64 co0, .slice a6 usw6x.length c6] :: box 45 g_w0 [.int .i64 l, .int .i64 d, .slice a_w0 us_w0.length c_w0] :: box 42 (w.heap.size + 1) [.int .i64 lv1, .int .i64 co1, v1] :: box 42 w.heap.size [.int .i64 lv0, .int .i64 co0, v0] :: (own2 (.slice a7 usw7x.length c7) usw7x xss1 ++ own2 (.slice a6 usw6x.length c6) usw6x xss0 ++ own2 (.slice a_w0 us_w0.length c_w0) us_w0 R ++ []))) (by classical exact List.perm_iff_count.2 (fun a => by simp only [List.cons_append, List.nil_append, List.append_nil, List.count_append, List.count_cons, List.count_nil] <;> omega))) Hl8.out) (rii2 (hS6.perm (L' := own2 (.slice a_w0 us_w0.length c_w0) us_w0 R ++ (box 45 w8.heap.size [.int .i64 l, .int .i64 d, .slice a8 usw8y.length c8] :: box 45 w7.heap.size [.int .i64 lv1, .int .i64 co1, .slice a7 usw7x.length c7] :: box 45 w6.heap.size [.int .i64 lv0, .int .i64 co0, .slice a6 usw6x.length c6] :: box 45 g_w0 [.int .i64 l, .int .i64 d, .slice a_w0 us_w0.length c_w0] :: box 42 (w.heap.size + 1) [.int .i64 lv1, .int .i64 co1, v1] :: box 42 w.heap.size [.int .i64 lv0, .int .i64 co0, v0] :: (own2 (.slice a8 usw8y.length c8) usw8y R ++ own2 (.slice a7 usw7x.length c7) usw7x xss1 ++ own2 (.slice a6 usw6x.length c6) usw6x xss0 ++ []))) (by classical exact List.perm_iff_count.2 (fun a => by simp only [List.cons_append, List.nil_append, List.append_nil, List.count_append, List.count_cons, List.count_nil] <;> omega))) Hl_w0.out)).mono ?_
      rw [HeA.out]
      rintro e w9 ⟨rfl, h9⟩
      have hS7 : St w.heap.size w w9 (box 45 w8.heap.size [.int .i64 l, .int .i64 d, .slice a8 usw8y.length c8] :: box 45 w7.heap.size [.int .i64 lv1, .int .i64 co1, .slice a7 usw7x.length c7] :: box 45 w6.heap.size [.int .i64 lv0, .int .i64 co0, .slice a6 usw6x.length c6] :: box 45 g_w0 [.int .i64 l, .int .i64 d, .slice a_w0 us_w0.length c_w0] :: box 42 (w.heap.size + 1) [.int .i64 lv1, .int .i64 co1, v1] :: box 42 w.heap.size [.int .i64 lv0, .int .i64 co0, v0] :: (own2 (.slice a8 usw8y.length c8) usw8y R ++ own2 (.slice a7 usw7x.length c7) usw7x xss1 ++ own2 (.slice a6 usw6x.length c6) usw6x xss0 ++ own2 (.slice a_w0 us_w0.length c_w0) us_w0 R ++ [])) := (hS6.call0 h9).perm (by classical exact List.perm_iff_count.2 (fun a => by simp only [List.cons_append, List.nil_append, List.append_nil, List.count_append, List.count_cons, List.count_nil] <;> omega))
      clear b0_0 b0_1 b0_2 b1_0 b1_1 b1_2 b2_0 b2_1 b2_2 b3_0 b3_1 b3_2 b4_0 b4_1 b4_2 b5_0 b5_1 b5_2 hS6 h9
      have b0_0 := hS7.bcell 0 rfl 0 rfl
      have b0_1 := hS7.bcell 0 rfl 1 rfl
      have b0_2 := hS7.bcell 0 rfl 2 rfl
      have b1_0 := hS7.bcell 1 rfl 0 rfl
      have b1_1 := hS7.bcell 1 rfl 1 rfl
      have b1_2 := hS7.bcell 1 rfl 2 rfl
      have b2_0 := hS7.bcell 2 rfl 0 rfl
      have b2_1 := hS7.bcell 2 rfl 1 rfl
      have b2_2 := hS7.bcell 2 rfl 2 rfl
      have b3_0 := hS7.bcell 3 rfl 0 rfl
      have b3_1 := hS7.bcell 3 rfl 1 rfl
      have b3_2 := hS7.bcell 3 rfl 2 rfl
      have b4_0 := hS7.bcell 4 rfl 0 rfl
      have b4_1 := hS7.bcell 4 rfl 1 rfl
      have b4_2 := hS7.bcell 4 rfl 2 rfl
      have b5_0 := hS7.bcell 5 rfl 0 rfl
      have b5_1 := hS7.bcell 5 rfl 1 rfl
      have b5_2 := hS7.bcell 5 rfl 2 rfl
      go_wp2_with fail
      have hrx0 := (rii2 (hS7.perm (L' := own2 (.slice a6 usw6x.length c6) usw6x xss0 ++ (box 45 w8.heap.size [.int .i64 l, .int .i64 d, .slice a8 usw8y.length c8] :: box 45 w7.heap.size [.int .i64 lv1, .int .i64 co1, .slice a7 usw7x.length c7] :: box 45 w6.heap.size [.int .i64 lv0, .int .i64 co0, .slice a6 usw6x.length c6] :: box 45 g_w0 [.int .i64 l, .int .i64 d, .slice a_w0 us_w0.length c_w0] :: box 42 (w.heap.size + 1) [.int .i64 lv1, .int .i64 co1, v1] :: box 42 w.heap.size [.int .i64 lv0, .int .i64 co0, v0] :: (own2 (.slice a8 usw8y.length c8) usw8y R ++ own2 (.slice a7 usw7x.length c7) usw7x xss1 ++ own2 (.slice a_w0 us_w0.length c_w0) us_w0 R ++ []))) (by classical exact List.perm_iff_count.2 (fun a => by simp only [List.cons_append, List.nil_append, List.append_nil, List.count_append, List.count_cons, List.count_nil] <;> omega))) Hl6.out)
      go_region_held3 (fun w' => w'.cell? ⟨w6.heap.size, 0, none⟩ = some (.int .i64 lv0) ∧ w'.cell? ⟨w6.heap.size, 1, none⟩ = some (.int .i64 co0) ∧ w'.cell? ⟨w6.heap.size, 2, none⟩ = some (.slice a6 usw6x.length c6) ∧ w'.cell? ⟨w.heap.size, 0, none⟩ = some (.int .i64 lv0) ∧ w'.cell? ⟨w.heap.size, 1, none⟩ = some (.int .i64 co0) ∧ w'.cell? ⟨w.heap.size, 2, none⟩ = some (v0)) (go_keep)
        (first
        | (go_at_call 31; refine (toArray_c lv0 co0 v0 us0 xss0 _ (hS7.drew.oldII hv0) Hz1_0.out Hz2_0.out).mono ?_; rintro e w10 ⟨vw10x, usw10x, rfl, hl10, h10⟩; have hr10 := h10.rii hl10; have hU10 := hS7.drew.call0 h10.out; clear hl10; have fw10_2_0 := hU10.bcell 2 rfl 0 rfl; have fw10_2_1 := hU10.bcell 2 rfl 1 rfl; have fw10_2_2 := hU10.bcell 2 rfl 2 rfl; have fw10_5_0 := hU10.bcell 5 rfl 0 rfl; have fw10_5_1 := hU10.bcell 5 rfl 1 rfl; have fw10_5_2 := hU10.bcell 5 rfl 2 rfl)
        | (go_at_call 33; refine (eqArray_c lv0 co0 lv0 co0 _ _ usw6x usw10x xss0 xss0 _ ((hrx0.keep (St.refl _).drew.below).keep h10.below) hr10).mono ?_; rw [HeX0.out]; rintro e w11 ⟨rfl, h11⟩; have hU11 := hU10.call0 h11; have fw11_2_0 := hU11.bcell 2 rfl 0 rfl; have fw11_2_1 := hU11.bcell 2 rfl 1 rfl; have fw11_2_2 := hU11.bcell 2 rfl 2 rfl; have fw11_5_0 := hU11.bcell 5 rfl 0 rfl; have fw11_5_1 := hU11.bcell 5 rfl 1 rfl; have fw11_5_2 := hU11.bcell 5 rfl 2 rfl))
      have hS8 : St w.heap.size w w11 (box 45 w8.heap.size [.int .i64 l, .int .i64 d, .slice a8 usw8y.length c8] :: box 45 w7.heap.size [.int .i64 lv1, .int .i64 co1, .slice a7 usw7x.length c7] :: box 45 w6.heap.size [.int .i64 lv0, .int .i64 co0, .slice a6 usw6x.length c6] :: box 45 g_w0 [.int .i64 l, .int .i64 d, .slice a_w0 us_w0.length c_w0] :: box 42 (w.heap.size + 1) [.int .i64 lv1, .int .i64 co1, v1] :: box 42 w.heap.size [.int .i64 lv0, .int .i64 co0, v0] :: (own2 (.slice a8 usw8y.length c8) usw8y R ++ own2 (.slice a7 usw7x.length c7) usw7x xss1 ++ own2 (.slice a6 usw6x.length c6) usw6x xss0 ++ own2 (.slice a_w0 us_w0.length c_w0) us_w0 R ++ [])) := (hU11).perm (by classical exact List.perm_iff_count.2 (fun a => by simp only [List.cons_append, List.nil_append, List.append_nil, List.count_append, List.count_cons, List.count_nil] <;> omega))
      clear b0_0 b0_1 b0_2 b1_0 b1_1 b1_2 b2_0 b2_1 b2_2 b3_0 b3_1 b3_2 b4_0 b4_1 b4_2 b5_0 b5_1 b5_2 hS7 hU10 hU11 h10 h11 hr10 hrx0 fw10_2_0 fw10_2_1 fw10_2_2 fw10_5_0 fw10_5_1 fw10_5_2 fw11_2_0 fw11_2_1 fw11_2_2 fw11_5_0 fw11_5_1 fw11_5_2
      have b0_0 := hS8.bcell 0 rfl 0 rfl
      have b0_1 := hS8.bcell 0 rfl 1 rfl
      have b0_2 := hS8.bcell 0 rfl 2 rfl
      have b1_0 := hS8.bcell 1 rfl 0 rfl
      have b1_1 := hS8.bcell 1 rfl 1 rfl
      have b1_2 := hS8.bcell 1 rfl 2 rfl
      have b2_0 := hS8.bcell 2 rfl 0 rfl
      have b2_1 := hS8.bcell 2 rfl 1 rfl
      have b2_2 := hS8.bcell 2 rfl 2 rfl
      have b3_0 := hS8.bcell 3 rfl 0 rfl
      have b3_1 := hS8.bcell 3 rfl 1 rfl
      have b3_2 := hS8.bcell 3 rfl 2 rfl
      have b4_0 := hS8.bcell 4 rfl 0 rfl
      have b4_1 := hS8.bcell 4 rfl 1 rfl
      have b4_2 := hS8.bcell 4 rfl 2 rfl
      have b5_0 := hS8.bcell 5 rfl 0 rfl
      have b5_1 := hS8.bcell 5 rfl 1 rfl
      have b5_2 := hS8.bcell 5 rfl 2 rfl
      go_wp2_with fail
      have hrx1 := (rii2 (hS8.perm (L' := own2 (.slice a7 usw7x.length c7) usw7x xss1 ++ (box 45 w8.heap.size [.int .i64 l, .int .i64 d, .slice a8 usw8y.length c8] :: box 45 w7.heap.size [.int .i64 lv1, .int .i64 co1, .slice a7 usw7x.length c7] :: box 45 w6.heap.size [.int .i64 lv0, .int .i64 co0, .slice a6 usw6x.length c6] :: box 45 g_w0 [.int .i64 l, .int .i64 d, .slice a_w0 us_w0.length c_w0] :: box 42 (w.heap.size + 1) [.int .i64 lv1, .int .i64 co1, v1] :: box 42 w.heap.size [.int .i64 lv0, .int .i64 co0, v0] :: (own2 (.slice a8 usw8y.length c8) usw8y R ++ own2 (.slice a6 usw6x.length c6) usw6x xss0 ++ own2 (.slice a_w0 us_w0.length c_w0) us_w0 R ++ []))) (by classical exact List.perm_iff_count.2 (fun a => by simp only [List.cons_append, List.nil_append, List.append_nil, List.count_append, List.count_cons, List.count_nil] <;> omega))) Hl7.out)
      go_region_held3 (fun w' => w'.cell? ⟨w7.heap.size, 0, none⟩ = some (.int .i64 lv1) ∧ w'.cell? ⟨w7.heap.size, 1, none⟩ = some (.int .i64 co1) ∧ w'.cell? ⟨w7.heap.size, 2, none⟩ = some (.slice a7 usw7x.length c7) ∧ w'.cell? ⟨(w.heap.size + 1), 0, none⟩ = some (.int .i64 lv1) ∧ w'.cell? ⟨(w.heap.size + 1), 1, none⟩ = some (.int .i64 co1) ∧ w'.cell? ⟨(w.heap.size + 1), 2, none⟩ = some (v1)) (go_keep)
        (first
        | (go_at_call 31; refine (toArray_c lv1 co1 v1 us1 xss1 _ (hS8.drew.oldII hv1) Hz1_1.out Hz2_1.out).mono ?_; rintro e w12 ⟨vw12x, usw12x, rfl, hl12, h12⟩; have hr12 := h12.rii hl12; have hU12 := hS8.drew.call0 h12.out; clear hl12; have fw12_1_0 := hU12.bcell 1 rfl 0 rfl; have fw12_1_1 := hU12.bcell 1 rfl 1 rfl; have fw12_1_2 := hU12.bcell 1 rfl 2 rfl; have fw12_4_0 := hU12.bcell 4 rfl 0 rfl; have fw12_4_1 := hU12.bcell 4 rfl 1 rfl; have fw12_4_2 := hU12.bcell 4 rfl 2 rfl)
        | (go_at_call 33; refine (eqArray_c lv1 co1 lv1 co1 _ _ usw7x usw12x xss1 xss1 _ ((hrx1.keep (St.refl _).drew.below).keep h12.below) hr12).mono ?_; rw [HeX1.out]; rintro e w13 ⟨rfl, h13⟩; have hU13 := hU12.call0 h13; have fw13_1_0 := hU13.bcell 1 rfl 0 rfl; have fw13_1_1 := hU13.bcell 1 rfl 1 rfl; have fw13_1_2 := hU13.bcell 1 rfl 2 rfl; have fw13_4_0 := hU13.bcell 4 rfl 0 rfl; have fw13_4_1 := hU13.bcell 4 rfl 1 rfl; have fw13_4_2 := hU13.bcell 4 rfl 2 rfl))
      have hS9 : St w.heap.size w w13 (box 45 w8.heap.size [.int .i64 l, .int .i64 d, .slice a8 usw8y.length c8] :: box 45 w7.heap.size [.int .i64 lv1, .int .i64 co1, .slice a7 usw7x.length c7] :: box 45 w6.heap.size [.int .i64 lv0, .int .i64 co0, .slice a6 usw6x.length c6] :: box 45 g_w0 [.int .i64 l, .int .i64 d, .slice a_w0 us_w0.length c_w0] :: box 42 (w.heap.size + 1) [.int .i64 lv1, .int .i64 co1, v1] :: box 42 w.heap.size [.int .i64 lv0, .int .i64 co0, v0] :: (own2 (.slice a8 usw8y.length c8) usw8y R ++ own2 (.slice a7 usw7x.length c7) usw7x xss1 ++ own2 (.slice a6 usw6x.length c6) usw6x xss0 ++ own2 (.slice a_w0 us_w0.length c_w0) us_w0 R ++ [])) := (hU13).perm (by classical exact List.perm_iff_count.2 (fun a => by simp only [List.cons_append, List.nil_append, List.append_nil, List.count_append, List.count_cons, List.count_nil] <;> omega))
      clear b0_0 b0_1 b0_2 b1_0 b1_1 b1_2 b2_0 b2_1 b2_2 b3_0 b3_1 b3_2 b4_0 b4_1 b4_2 b5_0 b5_1 b5_2 hS8 hU12 hU13 h12 h13 hr12 hrx1 fw12_1_0 fw12_1_1 fw12_1_2 fw12_4_0 fw12_4_1 fw12_4_2 fw13_1_0 fw13_1_1 fw13_1_2 fw13_4_0 fw13_4_1 fw13_4_2
      have b0_0 := hS9.bcell 0 rfl 0 rfl
      have b0_1 := hS9.bcell 0 rfl 1 rfl
      have b0_2 := hS9.bcell 0 rfl 2 rfl
      have b1_0 := hS9.bcell 1 rfl 0 rfl
      have b1_1 := hS9.bcell 1 rfl 1 rfl
      have b1_2 := hS9.bcell 1 rfl 2 rfl
      have b2_0 := hS9.bcell 2 rfl 0 rfl
      have b2_1 := hS9.bcell 2 rfl 1 rfl
      have b2_2 := hS9.bcell 2 rfl 2 rfl
      have b3_0 := hS9.bcell 3 rfl 0 rfl
      have b3_1 := hS9.bcell 3 rfl 1 rfl
      have b3_2 := hS9.bcell 3 rfl 2 rfl
      have b4_0 := hS9.bcell 4 rfl 0 rfl
      have b4_1 := hS9.bcell 4 rfl 1 rfl
      have b4_2 := hS9.bcell 4 rfl 2 rfl
      have b5_0 := hS9.bcell 5 rfl 0 rfl
      have b5_1 := hS9.bcell 5 rfl 1 rfl
      have b5_2 := hS9.bcell 5 rfl 2 rfl
      go_wp2_with fail
      refine (markArray_c lv0 co0 _ usw6x xss0 1 (by omega) (by omega) Hl6.out (hS9.perm (L' := own2 (.slice a6 usw6x.length c6) usw6x xss0 ++ (box 45 w8.heap.size [.int .i64 l, .int .i64 d, .slice a8 usw8y.length c8] :: box 45 w7.heap.size [.int .i64 lv1, .int .i64 co1, .slice a7 usw7x.length c7] :: box 45 w6.heap.size [.int .i64 lv0, .int .i64 co0, .slice a6 usw6x.length c6] :: box 45 g_w0 [.int .i64 l, .int .i64 d, .slice a_w0 us_w0.length c_w0] :: box 42 (w.heap.size + 1) [.int .i64 lv1, .int .i64 co1, v1] :: box 42 w.heap.size [.int .i64 lv0, .int .i64 co0, v0] :: (own2 (.slice a8 usw8y.length c8) usw8y R ++ own2 (.slice a7 usw7x.length c7) usw7x xss1 ++ own2 (.slice a_w0 us_w0.length c_w0) us_w0 R ++ []))) (by classical exact List.perm_iff_count.2 (fun a => by simp only [List.cons_append, List.nil_append, List.append_nil, List.count_append, List.count_cons, List.count_nil] <;> omega)))).mono ?_
      rintro e w14 ⟨rfl, hm14⟩
      have hS10 : St w.heap.size w w14 (box 45 w8.heap.size [.int .i64 l, .int .i64 d, .slice a8 usw8y.length c8] :: box 45 w7.heap.size [.int .i64 lv1, .int .i64 co1, .slice a7 usw7x.length c7] :: box 45 w6.heap.size [.int .i64 lv0, .int .i64 co0, .slice a6 usw6x.length c6] :: box 45 g_w0 [.int .i64 l, .int .i64 d, .slice a_w0 us_w0.length c_w0] :: box 42 (w.heap.size + 1) [.int .i64 lv1, .int .i64 co1, v1] :: box 42 w.heap.size [.int .i64 lv0, .int .i64 co0, v0] :: (own2 (.slice a8 usw8y.length c8) usw8y R ++ own2 (.slice a7 usw7x.length c7) usw7x xss1 ++ own2 (.slice a6 usw6x.length c6) usw6x (mrkL 1 xss0) ++ own2 (.slice a_w0 us_w0.length c_w0) us_w0 R ++ [])) := (hm14).perm (by classical exact List.perm_iff_count.2 (fun a => by simp only [List.cons_append, List.nil_append, List.append_nil, List.count_append, List.count_cons, List.count_nil] <;> omega))
      clear b0_0 b0_1 b0_2 b1_0 b1_1 b1_2 b2_0 b2_1 b2_2 b3_0 b3_1 b3_2 b4_0 b4_1 b4_2 b5_0 b5_1 b5_2 hS9 hm14
      have b0_0 := hS10.bcell 0 rfl 0 rfl
      have b0_1 := hS10.bcell 0 rfl 1 rfl
      have b0_2 := hS10.bcell 0 rfl 2 rfl
      have b1_0 := hS10.bcell 1 rfl 0 rfl
      have b1_1 := hS10.bcell 1 rfl 1 rfl
      have b1_2 := hS10.bcell 1 rfl 2 rfl
      have b2_0 := hS10.bcell 2 rfl 0 rfl
      have b2_1 := hS10.bcell 2 rfl 1 rfl
      have b2_2 := hS10.bcell 2 rfl 2 rfl
      have b3_0 := hS10.bcell 3 rfl 0 rfl
      have b3_1 := hS10.bcell 3 rfl 1 rfl
      have b3_2 := hS10.bcell 3 rfl 2 rfl
      have b4_0 := hS10.bcell 4 rfl 0 rfl
      have b4_1 := hS10.bcell 4 rfl 1 rfl
      have b4_2 := hS10.bcell 4 rfl 2 rfl
      have b5_0 := hS10.bcell 5 rfl 0 rfl
      have b5_1 := hS10.bcell 5 rfl 1 rfl
      have b5_2 := hS10.bcell 5 rfl 2 rfl
      go_wp2_with fail
      refine (markArray_c lv1 co1 _ usw7x xss1 (1 + tot xss0) (by omega) (by omega) Hl7.out (hS10.perm (L' := own2 (.slice a7 usw7x.length c7) usw7x xss1 ++ (box 45 w8.heap.size [.int .i64 l, .int .i64 d, .slice a8 usw8y.length c8] :: box 45 w7.heap.size [.int .i64 lv1, .int .i64 co1, .slice a7 usw7x.length c7] :: box 45 w6.heap.size [.int .i64 lv0, .int .i64 co0, .slice a6 usw6x.length c6] :: box 45 g_w0 [.int .i64 l, .int .i64 d, .slice a_w0 us_w0.length c_w0] :: box 42 (w.heap.size + 1) [.int .i64 lv1, .int .i64 co1, v1] :: box 42 w.heap.size [.int .i64 lv0, .int .i64 co0, v0] :: (own2 (.slice a8 usw8y.length c8) usw8y R ++ own2 (.slice a6 usw6x.length c6) usw6x (mrkL 1 xss0) ++ own2 (.slice a_w0 us_w0.length c_w0) us_w0 R ++ []))) (by classical exact List.perm_iff_count.2 (fun a => by simp only [List.cons_append, List.nil_append, List.append_nil, List.count_append, List.count_cons, List.count_nil] <;> omega)))).mono ?_
      rintro e w15 ⟨rfl, hm15⟩
      have hS11 : St w.heap.size w w15 (box 45 w8.heap.size [.int .i64 l, .int .i64 d, .slice a8 usw8y.length c8] :: box 45 w7.heap.size [.int .i64 lv1, .int .i64 co1, .slice a7 usw7x.length c7] :: box 45 w6.heap.size [.int .i64 lv0, .int .i64 co0, .slice a6 usw6x.length c6] :: box 45 g_w0 [.int .i64 l, .int .i64 d, .slice a_w0 us_w0.length c_w0] :: box 42 (w.heap.size + 1) [.int .i64 lv1, .int .i64 co1, v1] :: box 42 w.heap.size [.int .i64 lv0, .int .i64 co0, v0] :: (own2 (.slice a8 usw8y.length c8) usw8y R ++ own2 (.slice a7 usw7x.length c7) usw7x (mrkL (1 + tot xss0) xss1) ++ own2 (.slice a6 usw6x.length c6) usw6x (mrkL 1 xss0) ++ own2 (.slice a_w0 us_w0.length c_w0) us_w0 R ++ [])) := (hm15).perm (by classical exact List.perm_iff_count.2 (fun a => by simp only [List.cons_append, List.nil_append, List.append_nil, List.count_append, List.count_cons, List.count_nil] <;> omega))
      clear b0_0 b0_1 b0_2 b1_0 b1_1 b1_2 b2_0 b2_1 b2_2 b3_0 b3_1 b3_2 b4_0 b4_1 b4_2 b5_0 b5_1 b5_2 hS10 hm15
      have b0_0 := hS11.bcell 0 rfl 0 rfl
      have b0_1 := hS11.bcell 0 rfl 1 rfl
      have b0_2 := hS11.bcell 0 rfl 2 rfl
      have b1_0 := hS11.bcell 1 rfl 0 rfl
      have b1_1 := hS11.bcell 1 rfl 1 rfl
      have b1_2 := hS11.bcell 1 rfl 2 rfl
      have b2_0 := hS11.bcell 2 rfl 0 rfl
      have b2_1 := hS11.bcell 2 rfl 1 rfl
      have b2_2 := hS11.bcell 2 rfl 2 rfl
      have b3_0 := hS11.bcell 3 rfl 0 rfl
      have b3_1 := hS11.bcell 3 rfl 1 rfl
      have b3_2 := hS11.bcell 3 rfl 2 rfl
      have b4_0 := hS11.bcell 4 rfl 0 rfl
      have b4_1 := hS11.bcell 4 rfl 1 rfl
      have b4_2 := hS11.bcell 4 rfl 2 rfl
      have b5_0 := hS11.bcell 5 rfl 0 rfl
      have b5_1 := hS11.bcell 5 rfl 1 rfl
      have b5_2 := hS11.bcell 5 rfl 2 rfl
      go_wp2_with fail
      refine (eqArray_c l d l d _ _ usw8y us_w0 R R _ (rii2 (hS11.perm (L' := own2 (.slice a8 usw8y.length c8) usw8y R ++ (box 45 w8.heap.size [.int .i64 l, .int .i64 d, .slice a8 usw8y.length c8] :: box 45 w7.heap.size [.int .i64 lv1, .int .i64 co1, .slice a7 usw7x.length c7] :: box 45 w6.heap.size [.int .i64 lv0, .int .i64 co0, .slice a6 usw6x.length c6] :: box 45 g_w0 [.int .i64 l, .int .i64 d, .slice a_w0 us_w0.length c_w0] :: box 42 (w.heap.size + 1) [.int .i64 lv1, .int .i64 co1, v1] :: box 42 w.heap.size [.int .i64 lv0, .int .i64 co0, v0] :: (own2 (.slice a7 usw7x.length c7) usw7x (mrkL (1 + tot xss0) xss1) ++ own2 (.slice a6 usw6x.length c6) usw6x (mrkL 1 xss0) ++ own2 (.slice a_w0 us_w0.length c_w0) us_w0 R ++ []))) (by classical exact List.perm_iff_count.2 (fun a => by simp only [List.cons_append, List.nil_append, List.append_nil, List.count_append, List.count_cons, List.count_nil] <;> omega))) Hl8.out) (rii2 (hS11.perm (L' := own2 (.slice a_w0 us_w0.length c_w0) us_w0 R ++ (box 45 w8.heap.size [.int .i64 l, .int .i64 d, .slice a8 usw8y.length c8] :: box 45 w7.heap.size [.int .i64 lv1, .int .i64 co1, .slice a7 usw7x.length c7] :: box 45 w6.heap.size [.int .i64 lv0, .int .i64 co0, .slice a6 usw6x.length c6] :: box 45 g_w0 [.int .i64 l, .int .i64 d, .slice a_w0 us_w0.length c_w0] :: box 42 (w.heap.size + 1) [.int .i64 lv1, .int .i64 co1, v1] :: box 42 w.heap.size [.int .i64 lv0, .int .i64 co0, v0] :: (own2 (.slice a8 usw8y.length c8) usw8y R ++ own2 (.slice a7 usw7x.length c7) usw7x (mrkL (1 + tot xss0) xss1) ++ own2 (.slice a6 usw6x.length c6) usw6x (mrkL 1 xss0) ++ []))) (by classical exact List.perm_iff_count.2 (fun a => by simp only [List.cons_append, List.nil_append, List.append_nil, List.count_append, List.count_cons, List.count_nil] <;> omega))) Hl_w0.out)).mono ?_
      rw [HeA.out]
      rintro e w16 ⟨rfl, h16⟩
      have hS12 : St w.heap.size w w16 (box 45 w8.heap.size [.int .i64 l, .int .i64 d, .slice a8 usw8y.length c8] :: box 45 w7.heap.size [.int .i64 lv1, .int .i64 co1, .slice a7 usw7x.length c7] :: box 45 w6.heap.size [.int .i64 lv0, .int .i64 co0, .slice a6 usw6x.length c6] :: box 45 g_w0 [.int .i64 l, .int .i64 d, .slice a_w0 us_w0.length c_w0] :: box 42 (w.heap.size + 1) [.int .i64 lv1, .int .i64 co1, v1] :: box 42 w.heap.size [.int .i64 lv0, .int .i64 co0, v0] :: (own2 (.slice a8 usw8y.length c8) usw8y R ++ own2 (.slice a7 usw7x.length c7) usw7x (mrkL (1 + tot xss0) xss1) ++ own2 (.slice a6 usw6x.length c6) usw6x (mrkL 1 xss0) ++ own2 (.slice a_w0 us_w0.length c_w0) us_w0 R ++ [])) := (hS11.call0 h16).perm (by classical exact List.perm_iff_count.2 (fun a => by simp only [List.cons_append, List.nil_append, List.append_nil, List.count_append, List.count_cons, List.count_nil] <;> omega))
      clear b0_0 b0_1 b0_2 b1_0 b1_1 b1_2 b2_0 b2_1 b2_2 b3_0 b3_1 b3_2 b4_0 b4_1 b4_2 b5_0 b5_1 b5_2 hS11 h16
      have b0_0 := hS12.bcell 0 rfl 0 rfl
      have b0_1 := hS12.bcell 0 rfl 1 rfl
      have b0_2 := hS12.bcell 0 rfl 2 rfl
      have b1_0 := hS12.bcell 1 rfl 0 rfl
      have b1_1 := hS12.bcell 1 rfl 1 rfl
      have b1_2 := hS12.bcell 1 rfl 2 rfl
      have b2_0 := hS12.bcell 2 rfl 0 rfl
      have b2_1 := hS12.bcell 2 rfl 1 rfl
      have b2_2 := hS12.bcell 2 rfl 2 rfl
      have b3_0 := hS12.bcell 3 rfl 0 rfl
      have b3_1 := hS12.bcell 3 rfl 1 rfl
      have b3_2 := hS12.bcell 3 rfl 2 rfl
      have b4_0 := hS12.bcell 4 rfl 0 rfl
      have b4_1 := hS12.bcell 4 rfl 1 rfl
      have b4_2 := hS12.bcell 4 rfl 2 rfl
      have b5_0 := hS12.bcell 5 rfl 0 rfl
      have b5_1 := hS12.bcell 5 rfl 1 rfl
      have b5_2 := hS12.bcell 5 rfl 2 rfl
      go_wp2_with fail
      refine (markArray_c l d _ usw8y R 1 (by omega) (by omega) Hl8.out (hS12.perm (L' := own2 (.slice a8 usw8y.length c8) usw8y R ++ (box 45 w8.heap.size [.int .i64 l, .int .i64 d, .slice a8 usw8y.length c8] :: box 45 w7.heap.size [.int .i64 lv1, .int .i64 co1, .slice a7 usw7x.length c7] :: box 45 w6.heap.size [.int .i64 lv0, .int .i64 co0, .slice a6 usw6x.length c6] :: box 45 g_w0 [.int .i64 l, .int .i64 d, .slice a_w0 us_w0.length c_w0] :: box 42 (w.heap.size + 1) [.int .i64 lv1, .int .i64 co1, v1] :: box 42 w.heap.size [.int .i64 lv0, .int .i64 co0, v0] :: (own2 (.slice a7 usw7x.length c7) usw7x (mrkL (1 + tot xss0) xss1) ++ own2 (.slice a6 usw6x.length c6) usw6x (mrkL 1 xss0) ++ own2 (.slice a_w0 us_w0.length c_w0) us_w0 R ++ []))) (by classical exact List.perm_iff_count.2 (fun a => by simp only [List.cons_append, List.nil_append, List.append_nil, List.count_append, List.count_cons, List.count_nil] <;> omega)))).mono ?_
      rintro e w17 ⟨rfl, hm17⟩
      have hS13 : St w.heap.size w w17 (box 45 w8.heap.size [.int .i64 l, .int .i64 d, .slice a8 usw8y.length c8] :: box 45 w7.heap.size [.int .i64 lv1, .int .i64 co1, .slice a7 usw7x.length c7] :: box 45 w6.heap.size [.int .i64 lv0, .int .i64 co0, .slice a6 usw6x.length c6] :: box 45 g_w0 [.int .i64 l, .int .i64 d, .slice a_w0 us_w0.length c_w0] :: box 42 (w.heap.size + 1) [.int .i64 lv1, .int .i64 co1, v1] :: box 42 w.heap.size [.int .i64 lv0, .int .i64 co0, v0] :: (own2 (.slice a8 usw8y.length c8) usw8y (mrkL 1 R) ++ own2 (.slice a7 usw7x.length c7) usw7x (mrkL (1 + tot xss0) xss1) ++ own2 (.slice a6 usw6x.length c6) usw6x (mrkL 1 xss0) ++ own2 (.slice a_w0 us_w0.length c_w0) us_w0 R ++ [])) := (hm17).perm (by classical exact List.perm_iff_count.2 (fun a => by simp only [List.cons_append, List.nil_append, List.append_nil, List.count_append, List.count_cons, List.count_nil] <;> omega))
      clear b0_0 b0_1 b0_2 b1_0 b1_1 b1_2 b2_0 b2_1 b2_2 b3_0 b3_1 b3_2 b4_0 b4_1 b4_2 b5_0 b5_1 b5_2 hS12 hm17
      have b0_0 := hS13.bcell 0 rfl 0 rfl
      have b0_1 := hS13.bcell 0 rfl 1 rfl
      have b0_2 := hS13.bcell 0 rfl 2 rfl
      have b1_0 := hS13.bcell 1 rfl 0 rfl
      have b1_1 := hS13.bcell 1 rfl 1 rfl
      have b1_2 := hS13.bcell 1 rfl 2 rfl
      have b2_0 := hS13.bcell 2 rfl 0 rfl
      have b2_1 := hS13.bcell 2 rfl 1 rfl
      have b2_2 := hS13.bcell 2 rfl 2 rfl
      have b3_0 := hS13.bcell 3 rfl 0 rfl
      have b3_1 := hS13.bcell 3 rfl 1 rfl
      have b3_2 := hS13.bcell 3 rfl 2 rfl
      have b4_0 := hS13.bcell 4 rfl 0 rfl
      have b4_1 := hS13.bcell 4 rfl 1 rfl
      have b4_2 := hS13.bcell 4 rfl 2 rfl
      have b5_0 := hS13.bcell 5 rfl 0 rfl
      have b5_1 := hS13.bcell 5 rfl 1 rfl
      have b5_2 := hS13.bcell 5 rfl 2 rfl
      go_wp2_with fail
      refine (heldArray_c l d _ usw8y R 1 _ (by omega) (by omega) (rii2 (hS13.perm (L' := own2 (.slice a8 usw8y.length c8) usw8y (mrkL 1 R) ++ (box 45 w8.heap.size [.int .i64 l, .int .i64 d, .slice a8 usw8y.length c8] :: box 45 w7.heap.size [.int .i64 lv1, .int .i64 co1, .slice a7 usw7x.length c7] :: box 45 w6.heap.size [.int .i64 lv0, .int .i64 co0, .slice a6 usw6x.length c6] :: box 45 g_w0 [.int .i64 l, .int .i64 d, .slice a_w0 us_w0.length c_w0] :: box 42 (w.heap.size + 1) [.int .i64 lv1, .int .i64 co1, v1] :: box 42 w.heap.size [.int .i64 lv0, .int .i64 co0, v0] :: (own2 (.slice a7 usw7x.length c7) usw7x (mrkL (1 + tot xss0) xss1) ++ own2 (.slice a6 usw6x.length c6) usw6x (mrkL 1 xss0) ++ own2 (.slice a_w0 us_w0.length c_w0) us_w0 R ++ []))) (by classical exact List.perm_iff_count.2 (fun a => by simp only [List.cons_append, List.nil_append, List.append_nil, List.count_append, List.count_cons, List.count_nil] <;> omega))) (by rw [mrkL_len]; exact Hl8.out))).mono ?_
      rintro e w18 ⟨rfl, h18⟩
      have hS14 : St w.heap.size w w18 (box 45 w8.heap.size [.int .i64 l, .int .i64 d, .slice a8 usw8y.length c8] :: box 45 w7.heap.size [.int .i64 lv1, .int .i64 co1, .slice a7 usw7x.length c7] :: box 45 w6.heap.size [.int .i64 lv0, .int .i64 co0, .slice a6 usw6x.length c6] :: box 45 g_w0 [.int .i64 l, .int .i64 d, .slice a_w0 us_w0.length c_w0] :: box 42 (w.heap.size + 1) [.int .i64 lv1, .int .i64 co1, v1] :: box 42 w.heap.size [.int .i64 lv0, .int .i64 co0, v0] :: (own2 (.slice a8 usw8y.length c8) usw8y (mrkL 1 R) ++ own2 (.slice a7 usw7x.length c7) usw7x (mrkL (1 + tot xss0) xss1) ++ own2 (.slice a6 usw6x.length c6) usw6x (mrkL 1 xss0) ++ own2 (.slice a_w0 us_w0.length c_w0) us_w0 R ++ [])) := (hS13.call0 h18).perm (by classical exact List.perm_iff_count.2 (fun a => by simp only [List.cons_append, List.nil_append, List.append_nil, List.count_append, List.count_cons, List.count_nil] <;> omega))
      clear b0_0 b0_1 b0_2 b1_0 b1_1 b1_2 b2_0 b2_1 b2_2 b3_0 b3_1 b3_2 b4_0 b4_1 b4_2 b5_0 b5_1 b5_2 hS13 h18
      have b0_0 := hS14.bcell 0 rfl 0 rfl
      have b0_1 := hS14.bcell 0 rfl 1 rfl
      have b0_2 := hS14.bcell 0 rfl 2 rfl
      have b1_0 := hS14.bcell 1 rfl 0 rfl
      have b1_1 := hS14.bcell 1 rfl 1 rfl
      have b1_2 := hS14.bcell 1 rfl 2 rfl
      have b2_0 := hS14.bcell 2 rfl 0 rfl
      have b2_1 := hS14.bcell 2 rfl 1 rfl
      have b2_2 := hS14.bcell 2 rfl 2 rfl
      have b3_0 := hS14.bcell 3 rfl 0 rfl
      have b3_1 := hS14.bcell 3 rfl 1 rfl
      have b3_2 := hS14.bcell 3 rfl 2 rfl
      have b4_0 := hS14.bcell 4 rfl 0 rfl
      have b4_1 := hS14.bcell 4 rfl 1 rfl
      have b4_2 := hS14.bcell 4 rfl 2 rfl
      have b5_0 := hS14.bcell 5 rfl 0 rfl
      have b5_1 := hS14.bcell 5 rfl 1 rfl
      have b5_2 := hS14.bcell 5 rfl 2 rfl
      go_wp2_with fail
      go_cut [15, 16] from 17 (fun s0 s1 w' => CutA w (box 45 w8.heap.size [.int .i64 l, .int .i64 d, .slice a8 usw8y.length c8] :: box 45 w7.heap.size [.int .i64 lv1, .int .i64 co1, .slice a7 usw7x.length c7] :: box 45 w6.heap.size [.int .i64 lv0, .int .i64 co0, .slice a6 usw6x.length c6] :: box 45 g_w0 [.int .i64 l, .int .i64 d, .slice a_w0 us_w0.length c_w0] :: box 42 (w.heap.size + 1) [.int .i64 lv1, .int .i64 co1, v1] :: box 42 w.heap.size [.int .i64 lv0, .int .i64 co0, v0] :: (own2 (.slice a8 usw8y.length c8) usw8y (mrkL 1 R) ++ own2 (.slice a7 usw7x.length c7) usw7x (mrkL (1 + tot xss0) xss1) ++ own2 (.slice a6 usw6x.length c6) usw6x (mrkL 1 xss0) ++ own2 (.slice a_w0 us_w0.length c_w0) us_w0 R ++ [])) 45 l d cc R s0 s1 w')
      case first =>
        have l_5 := Nat.ne_of_gt (hS14.blt 5 rfl).2
        have m_5 := Nat.ne_of_lt (hS14.blt 5 rfl).2
        have l_4 := Nat.ne_of_gt (hS14.blt 4 rfl).2
        have m_4 := Nat.ne_of_lt (hS14.blt 4 rfl).2
        go_region_held3 (fun w' => w'.cell? ⟨w.heap.size, 0, none⟩ = some (.int .i64 lv0) ∧ w'.cell? ⟨w.heap.size, 1, none⟩ = some (.int .i64 co0) ∧ w'.cell? ⟨w.heap.size, 2, none⟩ = some (v0) ∧ w'.cell? ⟨(w.heap.size + 1), 0, none⟩ = some (.int .i64 lv1) ∧ w'.cell? ⟨(w.heap.size + 1), 1, none⟩ = some (.int .i64 co1) ∧ w'.cell? ⟨(w.heap.size + 1), 2, none⟩ = some (v1)) (go_keep)
          (first
          | (go_at_call_of 31 (Value.int .i64 lv0); (first | (refine (toArray_c lv0 co0 v0 us0 xss0 _ (hS14.drew.oldII hv0) Hz1_0.out Hz2_0.out).mono ?_; rintro e w19 ⟨vw19x, usw19x, rfl, hl19, h19⟩; have hr19_0 := h19.rii hl19; have hU19 := hS14.drew.call0 h19.out; clear hl19) | (refine (toArray_c lv0 co0 v0 us0 xss0 _ (((hS14.newbox 45 #[.int .i64 0, .int .i64 0, .slice none 0 0]).perm (L' := box 45 w8.heap.size [.int .i64 l, .int .i64 d, .slice a8 usw8y.length c8] :: box 45 w7.heap.size [.int .i64 lv1, .int .i64 co1, .slice a7 usw7x.length c7] :: box 45 w6.heap.size [.int .i64 lv0, .int .i64 co0, .slice a6 usw6x.length c6] :: box 45 g_w0 [.int .i64 l, .int .i64 d, .slice a_w0 us_w0.length c_w0] :: box 42 (w.heap.size + 1) [.int .i64 lv1, .int .i64 co1, v1] :: box 42 w.heap.size [.int .i64 lv0, .int .i64 co0, v0] :: (box 45 w18.heap.size [.int .i64 0, .int .i64 0, .slice none 0 0] :: (own2 (.slice a8 usw8y.length c8) usw8y (mrkL 1 R) ++ own2 (.slice a7 usw7x.length c7) usw7x (mrkL (1 + tot xss0) xss1) ++ own2 (.slice a6 usw6x.length c6) usw6x (mrkL 1 xss0) ++ own2 (.slice a_w0 us_w0.length c_w0) us_w0 R ++ []))) (by classical exact List.perm_iff_count.2 (fun a => by simp only [List.cons_append, List.nil_append, List.append_nil, List.count_append, List.count_cons, List.count_nil] <;> omega))).drew.oldII hv0) Hz1_0.out Hz2_0.out).mono ?_; rintro e w19 ⟨vw19x, usw19x, rfl, hl19, h19⟩; have hr19_0 := h19.rii hl19; have hU19 := ((hS14.newbox 45 #[.int .i64 0, .int .i64 0, .slice none 0 0]).perm (L' := box 45 w8.heap.size [.int .i64 l, .int .i64 d, .slice a8 usw8y.length c8] :: box 45 w7.heap.size [.int .i64 lv1, .int .i64 co1, .slice a7 usw7x.length c7] :: box 45 w6.heap.size [.int .i64 lv0, .int .i64 co0, .slice a6 usw6x.length c6] :: box 45 g_w0 [.int .i64 l, .int .i64 d, .slice a_w0 us_w0.length c_w0] :: box 42 (w.heap.size + 1) [.int .i64 lv1, .int .i64 co1, v1] :: box 42 w.heap.size [.int .i64 lv0, .int .i64 co0, v0] :: (box 45 w18.heap.size [.int .i64 0, .int .i64 0, .slice none 0 0] :: (own2 (.slice a8 usw8y.length c8) usw8y (mrkL 1 R) ++ own2 (.slice a7 usw7x.length c7) usw7x (mrkL (1 + tot xss0) xss1) ++ own2 (.slice a6 usw6x.length c6) usw6x (mrkL 1 xss0) ++ own2 (.slice a_w0 us_w0.length c_w0) us_w0 R ++ []))) (by classical exact List.perm_iff_count.2 (fun a => by simp only [List.cons_append, List.nil_append, List.append_nil, List.count_append, List.count_cons, List.count_nil] <;> omega))).drew.call0 h19.out; clear hl19)); have fw19_5_0 := hU19.bcell 5 rfl 0 rfl; have fw19_5_1 := hU19.bcell 5 rfl 1 rfl; have fw19_5_2 := hU19.bcell 5 rfl 2 rfl; have lw19_5 := Nat.ne_of_gt (hU19.blt 5 rfl).2; have mw19_5 := Nat.ne_of_lt (hU19.blt 5 rfl).2; have fw19_4_0 := hU19.bcell 4 rfl 0 rfl; have fw19_4_1 := hU19.bcell 4 rfl 1 rfl; have fw19_4_2 := hU19.bcell 4 rfl 2 rfl; have lw19_4 := Nat.ne_of_gt (hU19.blt 4 rfl).2; have mw19_4 := Nat.ne_of_lt (hU19.blt 4 rfl).2)
          | (go_at_call_of 31 (Value.int .i64 lv1); (first | (refine (toArray_c lv1 co1 v1 us1 xss1 _ (hU19.oldII hv1) Hz1_1.out Hz2_1.out).mono ?_; rintro e w20 ⟨vw20x, usw20x, rfl, hl20, h20⟩; have hr20_1 := h20.rii hl20; have hU20 := hU19.call0 h20.out; clear hl20; have hr20_0 := hr19_0.keep h20.below) | (refine (toArray_c lv1 co1 v1 us1 xss1 _ (((hU19.newbox 45 #[.int .i64 0, .int .i64 0, .slice none 0 0]).perm (L' := box 45 w8.heap.size [.int .i64 l, .int .i64 d, .slice a8 usw8y.length c8] :: box 45 w7.heap.size [.int .i64 lv1, .int .i64 co1, .slice a7 usw7x.length c7] :: box 45 w6.heap.size [.int .i64 lv0, .int .i64 co0, .slice a6 usw6x.length c6] :: box 45 g_w0 [.int .i64 l, .int .i64 d, .slice a_w0 us_w0.length c_w0] :: box 42 (w.heap.size + 1) [.int .i64 lv1, .int .i64 co1, v1] :: box 42 w.heap.size [.int .i64 lv0, .int .i64 co0, v0] :: (box 45 w19.heap.size [.int .i64 0, .int .i64 0, .slice none 0 0] :: (own2 (.slice a8 usw8y.length c8) usw8y (mrkL 1 R) ++ own2 (.slice a7 usw7x.length c7) usw7x (mrkL (1 + tot xss0) xss1) ++ own2 (.slice a6 usw6x.length c6) usw6x (mrkL 1 xss0) ++ own2 (.slice a_w0 us_w0.length c_w0) us_w0 R ++ []))) (by classical exact List.perm_iff_count.2 (fun a => by simp only [List.cons_append, List.nil_append, List.append_nil, List.count_append, List.count_cons, List.count_nil] <;> omega))).oldII hv1) Hz1_1.out Hz2_1.out).mono ?_; rintro e w20 ⟨vw20x, usw20x, rfl, hl20, h20⟩; have hr20_1 := h20.rii hl20; have hU20 := ((hU19.newbox 45 #[.int .i64 0, .int .i64 0, .slice none 0 0]).perm (L' := box 45 w8.heap.size [.int .i64 l, .int .i64 d, .slice a8 usw8y.length c8] :: box 45 w7.heap.size [.int .i64 lv1, .int .i64 co1, .slice a7 usw7x.length c7] :: box 45 w6.heap.size [.int .i64 lv0, .int .i64 co0, .slice a6 usw6x.length c6] :: box 45 g_w0 [.int .i64 l, .int .i64 d, .slice a_w0 us_w0.length c_w0] :: box 42 (w.heap.size + 1) [.int .i64 lv1, .int .i64 co1, v1] :: box 42 w.heap.size [.int .i64 lv0, .int .i64 co0, v0] :: (box 45 w19.heap.size [.int .i64 0, .int .i64 0, .slice none 0 0] :: (own2 (.slice a8 usw8y.length c8) usw8y (mrkL 1 R) ++ own2 (.slice a7 usw7x.length c7) usw7x (mrkL (1 + tot xss0) xss1) ++ own2 (.slice a6 usw6x.length c6) usw6x (mrkL 1 xss0) ++ own2 (.slice a_w0 us_w0.length c_w0) us_w0 R ++ []))) (by classical exact List.perm_iff_count.2 (fun a => by simp only [List.cons_append, List.nil_append, List.append_nil, List.count_append, List.count_cons, List.count_nil] <;> omega))).call0 h20.out; clear hl20; have hr20_0 := (hr19_0.keep ((St.refl _).alloc' _).below).keep h20.below)); have fw20_5_0 := hU20.bcell 5 rfl 0 rfl; have fw20_5_1 := hU20.bcell 5 rfl 1 rfl; have fw20_5_2 := hU20.bcell 5 rfl 2 rfl; have lw20_5 := Nat.ne_of_gt (hU20.blt 5 rfl).2; have mw20_5 := Nat.ne_of_lt (hU20.blt 5 rfl).2; have fw20_4_0 := hU20.bcell 4 rfl 0 rfl; have fw20_4_1 := hU20.bcell 4 rfl 1 rfl; have fw20_4_2 := hU20.bcell 4 rfl 2 rfl; have lw20_4 := Nat.ne_of_gt (hU20.blt 4 rfl).2; have mw20_4 := Nat.ne_of_lt (hU20.blt 4 rfl).2)
          | (go_at_call 60; (first | (refine (Hi _ _ _ _ _ hr20_0 hr20_1).out.mono ?_; rintro e w21 ⟨vw21y, usw21y, rfl, hl21, h21⟩; have hU21 := hU20.call h21) | (refine (Hi _ _ _ _ _ (hr20_0.keep ((St.refl _).alloc' _).below) (hr20_1.keep ((St.refl _).alloc' _).below)).out.mono ?_; rintro e w21 ⟨vw21y, usw21y, rfl, hl21, h21⟩; have hU21 := ((hU20.newbox 45 #[.int .i64 0, .int .i64 0, .slice none 0 0]).perm (L' := box 45 w8.heap.size [.int .i64 l, .int .i64 d, .slice a8 usw8y.length c8] :: box 45 w7.heap.size [.int .i64 lv1, .int .i64 co1, .slice a7 usw7x.length c7] :: box 45 w6.heap.size [.int .i64 lv0, .int .i64 co0, .slice a6 usw6x.length c6] :: box 45 g_w0 [.int .i64 l, .int .i64 d, .slice a_w0 us_w0.length c_w0] :: box 42 (w.heap.size + 1) [.int .i64 lv1, .int .i64 co1, v1] :: box 42 w.heap.size [.int .i64 lv0, .int .i64 co0, v0] :: (box 45 w20.heap.size [.int .i64 0, .int .i64 0, .slice none 0 0] :: (own2 (.slice a8 usw8y.length c8) usw8y (mrkL 1 R) ++ own2 (.slice a7 usw7x.length c7) usw7x (mrkL (1 + tot xss0) xss1) ++ own2 (.slice a6 usw6x.length c6) usw6x (mrkL 1 xss0) ++ own2 (.slice a_w0 us_w0.length c_w0) us_w0 R ++ []))) (by classical exact List.perm_iff_count.2 (fun a => by simp only [List.cons_append, List.nil_append, List.append_nil, List.count_append, List.count_cons, List.count_nil] <;> omega))).call h21)); have Hl21 := Lib.hid hl21; obtain ⟨a21, c21, hvy⟩ := (h21.rii hl21).1.sl.sh; subst hvy; unfold av; clear hl21; (first | (have y0 := hU21.bfree 6 rfl; have y1 := hU21.bcell 6 rfl 0 rfl; have y2 := hU21.bcell 6 rfl 1 rfl; have y3 := hU21.bcell 6 rfl 2 rfl) | skip); have fw21_5_0 := hU21.bcell 5 rfl 0 rfl; have fw21_5_1 := hU21.bcell 5 rfl 1 rfl; have fw21_5_2 := hU21.bcell 5 rfl 2 rfl; have lw21_5 := Nat.ne_of_gt (hU21.blt 5 rfl).2; have mw21_5 := Nat.ne_of_lt (hU21.blt 5 rfl).2; have fw21_4_0 := hU21.bcell 4 rfl 0 rfl; have fw21_4_1 := hU21.bcell 4 rfl 1 rfl; have fw21_4_2 := hU21.bcell 4 rfl 2 rfl; have lw21_4 := Nat.ne_of_gt (hU21.blt 4 rfl).2; have mw21_4 := Nat.ne_of_lt (hU21.blt 4 rfl).2))
        all_goals
          go_wp2_with fail
          go_meet
          case rel =>
            first
            | exact ⟨_, a21, c21, usw21y, rfl, rfl, Hl21.out, (((hU21.bstore 6 rfl 0 (.int .i64 l)).bstore 6 rfl 1 (.int .i64 d)).bstore 6 rfl 2 (.slice a21 usw21y.length c21)).perm (by simp only [List.cons_append, List.nil_append, List.append_nil, List.set_cons_succ, List.set_cons_zero]; classical exact List.perm_iff_count.2 (fun a => by simp only [List.cons_append, List.nil_append, List.append_nil, List.count_append, List.count_cons, List.count_nil] <;> omega))⟩
            | exact ⟨_, a21, c21, usw21y, rfl, rfl, Hl21.out, (hU21.newboxF 45 #[.int .i64 l, .int .i64 d, .slice a21 usw21y.length c21]).perm (by classical exact List.perm_iff_count.2 (fun a => by simp only [List.cons_append, List.nil_append, List.append_nil, List.count_append, List.count_cons, List.count_nil] <;> omega))⟩
      obtain ⟨g_h0, a_h0, c_h0, us_h0, rfl, rfl, hl_h0, hcut'⟩ := hcut
      have Hl_h0 := Lib.hid hl_h0; clear hl_h0
      have hS15 : St w.heap.size w _ (box 45 g_h0 [.int .i64 l, .int .i64 d, .slice a_h0 us_h0.length c_h0] :: box 45 w8.heap.size [.int .i64 l, .int .i64 d, .slice a8 usw8y.length c8] :: box 45 w7.heap.size [.int .i64 lv1, .int .i64 co1, .slice a7 usw7x.length c7] :: box 45 w6.heap.size [.int .i64 lv0, .int .i64 co0, .slice a6 usw6x.length c6] :: box 45 g_w0 [.int .i64 l, .int .i64 d, .slice a_w0 us_w0.length c_w0] :: box 42 (w.heap.size + 1) [.int .i64 lv1, .int .i64 co1, v1] :: box 42 w.heap.size [.int .i64 lv0, .int .i64 co0, v0] :: (own2 (.slice a_h0 us_h0.length c_h0) us_h0 R ++ own2 (.slice a8 usw8y.length c8) usw8y (mrkL 1 R) ++ own2 (.slice a7 usw7x.length c7) usw7x (mrkL (1 + tot xss0) xss1) ++ own2 (.slice a6 usw6x.length c6) usw6x (mrkL 1 xss0) ++ own2 (.slice a_w0 us_w0.length c_w0) us_w0 R ++ [])) := (hcut').perm (by classical exact List.perm_iff_count.2 (fun a => by simp only [List.cons_append, List.nil_append, List.append_nil, List.count_append, List.count_cons, List.count_nil] <;> omega))
      clear b0_0 b0_1 b0_2 b1_0 b1_1 b1_2 b2_0 b2_1 b2_2 b3_0 b3_1 b3_2 b4_0 b4_1 b4_2 b5_0 b5_1 b5_2 hS14 hcut'
      have b0_0 := hS15.bcell 0 rfl 0 rfl
      have b0_1 := hS15.bcell 0 rfl 1 rfl
      have b0_2 := hS15.bcell 0 rfl 2 rfl
      have b1_0 := hS15.bcell 1 rfl 0 rfl
      have b1_1 := hS15.bcell 1 rfl 1 rfl
      have b1_2 := hS15.bcell 1 rfl 2 rfl
      have b2_0 := hS15.bcell 2 rfl 0 rfl
      have b2_1 := hS15.bcell 2 rfl 1 rfl
      have b2_2 := hS15.bcell 2 rfl 2 rfl
      have b3_0 := hS15.bcell 3 rfl 0 rfl
      have b3_1 := hS15.bcell 3 rfl 1 rfl
      have b3_2 := hS15.bcell 3 rfl 2 rfl
      have b4_0 := hS15.bcell 4 rfl 0 rfl
      have b4_1 := hS15.bcell 4 rfl 1 rfl
      have b4_2 := hS15.bcell 4 rfl 2 rfl
      have b5_0 := hS15.bcell 5 rfl 0 rfl
      have b5_1 := hS15.bcell 5 rfl 1 rfl
      have b5_2 := hS15.bcell 5 rfl 2 rfl
      have b6_0 := hS15.bcell 6 rfl 0 rfl
      have b6_1 := hS15.bcell 6 rfl 1 rfl
      have b6_2 := hS15.bcell 6 rfl 2 rfl
      go_wp2_with fail
      refine (eqArray_c l d l d _ _ us_h0 us_w0 R R _ (rii2 (hS15.perm (L' := own2 (.slice a_h0 us_h0.length c_h0) us_h0 R ++ (box 45 g_h0 [.int .i64 l, .int .i64 d, .slice a_h0 us_h0.length c_h0] :: box 45 w8.heap.size [.int .i64 l, .int .i64 d, .slice a8 usw8y.length c8] :: box 45 w7.heap.size [.int .i64 lv1, .int .i64 co1, .slice a7 usw7x.length c7] :: box 45 w6.heap.size [.int .i64 lv0, .int .i64 co0, .slice a6 usw6x.length c6] :: box 45 g_w0 [.int .i64 l, .int .i64 d, .slice a_w0 us_w0.length c_w0] :: box 42 (w.heap.size + 1) [.int .i64 lv1, .int .i64 co1, v1] :: box 42 w.heap.size [.int .i64 lv0, .int .i64 co0, v0] :: (own2 (.slice a8 usw8y.length c8) usw8y (mrkL 1 R) ++ own2 (.slice a7 usw7x.length c7) usw7x (mrkL (1 + tot xss0) xss1) ++ own2 (.slice a6 usw6x.length c6) usw6x (mrkL 1 xss0) ++ own2 (.slice a_w0 us_w0.length c_w0) us_w0 R ++ []))) (by classical exact List.perm_iff_count.2 (fun a => by simp only [List.cons_append, List.nil_append, List.append_nil, List.count_append, List.count_cons, List.count_nil] <;> omega))) Hl_h0.out) (rii2 (hS15.perm (L' := own2 (.slice a_w0 us_w0.length c_w0) us_w0 R ++ (box 45 g_h0 [.int .i64 l, .int .i64 d, .slice a_h0 us_h0.length c_h0] :: box 45 w8.heap.size [.int .i64 l, .int .i64 d, .slice a8 usw8y.length c8] :: box 45 w7.heap.size [.int .i64 lv1, .int .i64 co1, .slice a7 usw7x.length c7] :: box 45 w6.heap.size [.int .i64 lv0, .int .i64 co0, .slice a6 usw6x.length c6] :: box 45 g_w0 [.int .i64 l, .int .i64 d, .slice a_w0 us_w0.length c_w0] :: box 42 (w.heap.size + 1) [.int .i64 lv1, .int .i64 co1, v1] :: box 42 w.heap.size [.int .i64 lv0, .int .i64 co0, v0] :: (own2 (.slice a_h0 us_h0.length c_h0) us_h0 R ++ own2 (.slice a8 usw8y.length c8) usw8y (mrkL 1 R) ++ own2 (.slice a7 usw7x.length c7) usw7x (mrkL (1 + tot xss0) xss1) ++ own2 (.slice a6 usw6x.length c6) usw6x (mrkL 1 xss0) ++ []))) (by classical exact List.perm_iff_count.2 (fun a => by simp only [List.cons_append, List.nil_append, List.append_nil, List.count_append, List.count_cons, List.count_nil] <;> omega))) Hl_w0.out)).mono ?_
      rw [HeA.out]
      rintro e w22 ⟨rfl, h22⟩
      have hS16 : St w.heap.size w w22 (box 45 g_h0 [.int .i64 l, .int .i64 d, .slice a_h0 us_h0.length c_h0] :: box 45 w8.heap.size [.int .i64 l, .int .i64 d, .slice a8 usw8y.length c8] :: box 45 w7.heap.size [.int .i64 lv1, .int .i64 co1, .slice a7 usw7x.length c7] :: box 45 w6.heap.size [.int .i64 lv0, .int .i64 co0, .slice a6 usw6x.length c6] :: box 45 g_w0 [.int .i64 l, .int .i64 d, .slice a_w0 us_w0.length c_w0] :: box 42 (w.heap.size + 1) [.int .i64 lv1, .int .i64 co1, v1] :: box 42 w.heap.size [.int .i64 lv0, .int .i64 co0, v0] :: (own2 (.slice a_h0 us_h0.length c_h0) us_h0 R ++ own2 (.slice a8 usw8y.length c8) usw8y (mrkL 1 R) ++ own2 (.slice a7 usw7x.length c7) usw7x (mrkL (1 + tot xss0) xss1) ++ own2 (.slice a6 usw6x.length c6) usw6x (mrkL 1 xss0) ++ own2 (.slice a_w0 us_w0.length c_w0) us_w0 R ++ [])) := (hS15.call0 h22).perm (by classical exact List.perm_iff_count.2 (fun a => by simp only [List.cons_append, List.nil_append, List.append_nil, List.count_append, List.count_cons, List.count_nil] <;> omega))
      clear b0_0 b0_1 b0_2 b1_0 b1_1 b1_2 b2_0 b2_1 b2_2 b3_0 b3_1 b3_2 b4_0 b4_1 b4_2 b5_0 b5_1 b5_2 b6_0 b6_1 b6_2 hS15 h22
      have b0_0 := hS16.bcell 0 rfl 0 rfl
      have b0_1 := hS16.bcell 0 rfl 1 rfl
      have b0_2 := hS16.bcell 0 rfl 2 rfl
      have b1_0 := hS16.bcell 1 rfl 0 rfl
      have b1_1 := hS16.bcell 1 rfl 1 rfl
      have b1_2 := hS16.bcell 1 rfl 2 rfl
      have b2_0 := hS16.bcell 2 rfl 0 rfl
      have b2_1 := hS16.bcell 2 rfl 1 rfl
      have b2_2 := hS16.bcell 2 rfl 2 rfl
      have b3_0 := hS16.bcell 3 rfl 0 rfl
      have b3_1 := hS16.bcell 3 rfl 1 rfl
      have b3_2 := hS16.bcell 3 rfl 2 rfl
      have b4_0 := hS16.bcell 4 rfl 0 rfl
      have b4_1 := hS16.bcell 4 rfl 1 rfl
      have b4_2 := hS16.bcell 4 rfl 2 rfl
      have b5_0 := hS16.bcell 5 rfl 0 rfl
      have b5_1 := hS16.bcell 5 rfl 1 rfl
      have b5_2 := hS16.bcell 5 rfl 2 rfl
      have b6_0 := hS16.bcell 6 rfl 0 rfl
      have b6_1 := hS16.bcell 6 rfl 1 rfl
      have b6_2 := hS16.bcell 6 rfl 2 rfl
      go_wp2_with fail
      refine (heldArray_c l d _ usw8y R 1 _ (by omega) (by omega) (rii2 (hS16.perm (L' := own2 (.slice a8 usw8y.length c8) usw8y (mrkL 1 R) ++ (box 45 g_h0 [.int .i64 l, .int .i64 d, .slice a_h0 us_h0.length c_h0] :: box 45 w8.heap.size [.int .i64 l, .int .i64 d, .slice a8 usw8y.length c8] :: box 45 w7.heap.size [.int .i64 lv1, .int .i64 co1, .slice a7 usw7x.length c7] :: box 45 w6.heap.size [.int .i64 lv0, .int .i64 co0, .slice a6 usw6x.length c6] :: box 45 g_w0 [.int .i64 l, .int .i64 d, .slice a_w0 us_w0.length c_w0] :: box 42 (w.heap.size + 1) [.int .i64 lv1, .int .i64 co1, v1] :: box 42 w.heap.size [.int .i64 lv0, .int .i64 co0, v0] :: (own2 (.slice a_h0 us_h0.length c_h0) us_h0 R ++ own2 (.slice a7 usw7x.length c7) usw7x (mrkL (1 + tot xss0) xss1) ++ own2 (.slice a6 usw6x.length c6) usw6x (mrkL 1 xss0) ++ own2 (.slice a_w0 us_w0.length c_w0) us_w0 R ++ []))) (by classical exact List.perm_iff_count.2 (fun a => by simp only [List.cons_append, List.nil_append, List.append_nil, List.count_append, List.count_cons, List.count_nil] <;> omega))) (by rw [mrkL_len]; exact Hl8.out))).mono ?_
      rintro e w23 ⟨rfl, h23⟩
      have hS17 : St w.heap.size w w23 (box 45 g_h0 [.int .i64 l, .int .i64 d, .slice a_h0 us_h0.length c_h0] :: box 45 w8.heap.size [.int .i64 l, .int .i64 d, .slice a8 usw8y.length c8] :: box 45 w7.heap.size [.int .i64 lv1, .int .i64 co1, .slice a7 usw7x.length c7] :: box 45 w6.heap.size [.int .i64 lv0, .int .i64 co0, .slice a6 usw6x.length c6] :: box 45 g_w0 [.int .i64 l, .int .i64 d, .slice a_w0 us_w0.length c_w0] :: box 42 (w.heap.size + 1) [.int .i64 lv1, .int .i64 co1, v1] :: box 42 w.heap.size [.int .i64 lv0, .int .i64 co0, v0] :: (own2 (.slice a_h0 us_h0.length c_h0) us_h0 R ++ own2 (.slice a8 usw8y.length c8) usw8y (mrkL 1 R) ++ own2 (.slice a7 usw7x.length c7) usw7x (mrkL (1 + tot xss0) xss1) ++ own2 (.slice a6 usw6x.length c6) usw6x (mrkL 1 xss0) ++ own2 (.slice a_w0 us_w0.length c_w0) us_w0 R ++ [])) := (hS16.call0 h23).perm (by classical exact List.perm_iff_count.2 (fun a => by simp only [List.cons_append, List.nil_append, List.append_nil, List.count_append, List.count_cons, List.count_nil] <;> omega))
      clear b0_0 b0_1 b0_2 b1_0 b1_1 b1_2 b2_0 b2_1 b2_2 b3_0 b3_1 b3_2 b4_0 b4_1 b4_2 b5_0 b5_1 b5_2 b6_0 b6_1 b6_2 hS16 h23
      have b0_0 := hS17.bcell 0 rfl 0 rfl
      have b0_1 := hS17.bcell 0 rfl 1 rfl
      have b0_2 := hS17.bcell 0 rfl 2 rfl
      have b1_0 := hS17.bcell 1 rfl 0 rfl
      have b1_1 := hS17.bcell 1 rfl 1 rfl
      have b1_2 := hS17.bcell 1 rfl 2 rfl
      have b2_0 := hS17.bcell 2 rfl 0 rfl
      have b2_1 := hS17.bcell 2 rfl 1 rfl
      have b2_2 := hS17.bcell 2 rfl 2 rfl
      have b3_0 := hS17.bcell 3 rfl 0 rfl
      have b3_1 := hS17.bcell 3 rfl 1 rfl
      have b3_2 := hS17.bcell 3 rfl 2 rfl
      have b4_0 := hS17.bcell 4 rfl 0 rfl
      have b4_1 := hS17.bcell 4 rfl 1 rfl
      have b4_2 := hS17.bcell 4 rfl 2 rfl
      have b5_0 := hS17.bcell 5 rfl 0 rfl
      have b5_1 := hS17.bcell 5 rfl 1 rfl
      have b5_2 := hS17.bcell 5 rfl 2 rfl
      have b6_0 := hS17.bcell 6 rfl 0 rfl
      have b6_1 := hS17.bcell 6 rfl 1 rfl
      have b6_2 := hS17.bcell 6 rfl 2 rfl
      go_wp2_with fail
      go_ret
      exact ⟨rfl, hS17.out⟩
end Go.Proofs.Ytonmggppfopidaa
