/- The laws FnExactValidArray and FnExactSameArray, walked. -/
import Derived.Test.YtonmggppfopidaaArr2
namespace Go.Proofs.Ytonmggppfopidaa
set_option linter.unusedSimpArgs false
set_option linter.unusedVariables false
open Go.RowKit

theorem St.rii' {B : Nat} {w0 w : World} {L : List Ent} {v : Value} {us : List Value} {xss : List (List Int)} (h : St B w0 w L) (hs : (own2 v us xss).Sublist L) (hl : us.length = xss.length) : RII w v us xss := (h.sub hs).rii hl

set_option maxHeartbeats 4000000 in
set_option maxRecDepth 100000 in
theorem FnExactValidArray_law (w : World) (lv co : Int) (v : Value) (us : List Value) (xss : List (List Int)) (hv : RII w v us xss) :
    Calls Try.prog 6 #[av lv co v] w (GivesB w true) := by
  have hS0 := (St.refl w).newbox 42 #[.int .i64 lv, .int .i64 co, v]
  by_cases hsz : szII 1048576 xss < 0
  · go_enter Try.func6, Try.ntmps6
    unfold av
    go_wp2_with fail
    refine (szArray_c lv co v us xss _ _ (hS0.oldII hv) (by omega)).mono ?_
    rintro e w1 ⟨rfl, h1⟩
    have hS1 := hS0.call0 (w' := w1) h1
    go_wp2_with fail
    go_ret
    exact ⟨rfl, hS1.out⟩
  · obtain ⟨hz1, hz2⟩ := szII_le (left := 1048576) (xss := xss) (by omega)
    have hz1' : xss.length ≤ 1048576 := by omega
    have Hz := Lib.hid (show ∀ xs ∈ xss, xs.length ≤ 1048576 from fun xs hx => by have := hz2 xs hx; omega)
    clear hz2 hz1
    go_enter Try.func6, Try.ntmps6
    unfold av
    go_wp2_with fail
    refine (szArray_c lv co v us xss _ _ (hS0.oldII hv) (by omega)).mono ?_
    rintro e w1 ⟨rfl, h1⟩
    have hS1 := hS0.call0 (w' := w1) h1
    have b0 := hS1.bcell 0 rfl 0 rfl
    have b1 := hS1.bcell 0 rfl 1 rfl
    have b2 := hS1.bcell 0 rfl 2 rfl
    go_wp2_with fail
    refine (toArray_c lv co v us xss w1 (hS1.oldII hv) hz1' Hz.out).mono ?_
    rintro e w2 ⟨v2, us2, rfl, hl2, h2⟩
    have Hl2 := Lib.hid hl2; clear hl2
    have hS2 := hS1.call h2
    clear b0 b1 b2
    go_wp2_with fail
    refine (sValidArray_c lv co v2 us2 xss w2 (h2.rii Hl2.out)).mono ?_
    rintro e w3 ⟨rfl, h3⟩
    have hS3 := (hS2.call0 h3).sub (L' := [box 42 w.heap.size [.int .i64 lv, .int .i64 co, v]]) (List.sublist_append_left _ _)
    clear hS1 hS2 h1 h2 h3 Hl2
    have b0 := hS3.bcell 0 rfl 0 rfl
    have b1 := hS3.bcell 0 rfl 1 rfl
    have b2 := hS3.bcell 0 rfl 2 rfl
    go_wp2_with fail
    refine (toArray_c lv co v us xss w3 (hS3.oldII hv) hz1' Hz.out).mono ?_
    rintro e w4 ⟨v4, us4, rfl, hl4, h4⟩
    have Hl4 := Lib.hid hl4; clear hl4
    obtain ⟨a4, c4, rfl⟩ := (h4.rii Hl4.out).1.sl.sh
    have hS4 := (hS3.call h4).newbox 45 #[.int .i64 lv, .int .i64 co, .slice a4 us4.length c4]
    have hr4 : RII _ _ us4 xss := hS4.rii' ((List.sublist_append_right _ _).trans (List.sublist_append_left _ _)) Hl4.out
    unfold av
    clear hS3 b0 b1 b2
    go_wp2_with fail
    refine (ValidArray_c lv co _ us4 xss _ hr4).mono ?_
    rintro e w5 ⟨rfl, h5⟩
    have hS5 := hS4.call0 (w' := w5) h5
    have hr5 := hr4.keep h5.below
    have hS6 := hS5.sub (L' := [box 42 w.heap.size [.int .i64 lv, .int .i64 co, v], box 45 w4.heap.size [.int .i64 lv, .int .i64 co, .slice a4 us4.length c4]]) ((List.sublist_append_right _ _).cons_cons _)
    have Heq := Lib.hid (show eqA lv co lv co xss xss = true by simp [eqA])
    clear hS4 hr4 h5 hS5
    have b0 := hS6.bcell 0 rfl 0 rfl
    have b1 := hS6.bcell 0 rfl 1 rfl
    have b2 := hS6.bcell 0 rfl 2 rfl
    have d0 := hS6.bcell 1 rfl 0 rfl
    have d1 := hS6.bcell 1 rfl 1 rfl
    have d2 := hS6.bcell 1 rfl 2 rfl
    have hr6 : RII w5.drew _ us4 xss := hr5.keep (St.refl w5).drew.below
    go_wp2_with fail
    go_region_with (first
      | (go_at_call 31; refine (toArray_c lv co v us xss _ (hS6.drew.oldII hv) hz1' Hz.out).mono ?_; rintro e w7 ⟨v7, us7, rfl, hl7, h7⟩; have Hl7 := Lib.hid hl7; clear hl7; have hS7 := hS6.drew.call h7; have g0 := hS7.bcell 1 rfl 0 rfl; have g1 := hS7.bcell 1 rfl 1 rfl; have g2 := hS7.bcell 1 rfl 2 rfl)
      | (go_at_call 33; refine (eqArray_c lv co lv co _ _ us4 us7 xss xss _ (hr6.keep h7.below) (h7.rii Hl7.out)).mono ?_; rw [Heq.out]; rintro e w8 ⟨rfl, h8⟩))
    all_goals
      go_wp2_with fail
      go_ret
      exact ⟨rfl, (hS7.call0 h8).out⟩
end Go.Proofs.Ytonmggppfopidaa
