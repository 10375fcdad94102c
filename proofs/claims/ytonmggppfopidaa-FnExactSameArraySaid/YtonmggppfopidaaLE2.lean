/- The law FnExactSameArray, walked. -/
import Derived.Test.YtonmggppfopidaaSame
import Derived.Test.YtonmggppfopidaaLE1
import Derived.Deep.Cut
namespace Go.Proofs.Ytonmggppfopidaa
open Go.RowKit

set_option maxHeartbeats 4000000 in
set_option maxRecDepth 100000 in
theorem FnExactSameArray_law (w : World) (lv co : Int) (v : Value) (us : List Value) (xss : List (List Int)) (hv : RII w v us xss) (lv' co' : Int) (v' : Value) (us' : List Value) (xss' : List (List Int)) (hv' : RII w v' us' xss') :
    Calls Try.prog 8 #[av lv co v, av lv' co' v'] w (GivesB w true) := by
  have hS0 := ((St.refl w).newbox 42 #[.int .i64 lv, .int .i64 co, v]).newbox 42 #[.int .i64 lv', .int .i64 co', v']
  simp only [List.nil_append, List.cons_append, World.size_alloc] at hS0
  by_cases hsz : szII 1048576 xss < 0
  · go_enter Try.func8, Try.ntmps8
    unfold av
    go_wp2_with fail
    refine (szArray_c lv co v us xss _ _ (hS0.oldII hv) (by omega)).mono ?_
    rintro e w1 ⟨rfl, h1⟩
    have hS1 := hS0.call0 (w' := w1) h1
    go_wp2_with fail
    go_ret
    exact ⟨rfl, hS1.out⟩
  · obtain ⟨hz1, hz2⟩ := szII_le (left := 1048576) (xss := xss) (by omega)
    have hz3 := szII_top (left := 1048576) (xss := xss) (by omega)
    have hz1' : xss.length ≤ 1048576 := by omega
    have hz4 : 0 ≤ szII 1048576 xss ∧ szII 1048576 xss ≤ 1048576 := by omega
    have Hz := Lib.hid (show ∀ xs ∈ xss, xs.length ≤ 1048576 from fun xs hx => by have := hz2 xs hx; omega)
    clear hz2 hz1
    by_cases hsz' : szII (szII 1048576 xss) xss' < 0
    · go_enter Try.func8, Try.ntmps8
      unfold av
      go_wp2_with fail
      refine (szArray_c lv co v us xss _ _ (hS0.oldII hv) (by omega)).mono ?_
      rintro e w1 ⟨rfl, h1⟩
      have hS1 := hS0.call0 (w' := w1) h1
      have b0 := hS1.bcell 1 rfl 0 rfl
      have b1 := hS1.bcell 1 rfl 1 rfl
      have b2 := hS1.bcell 1 rfl 2 rfl
      go_wp2_with fail
      refine (szArray_c lv' co' v' us' xss' _ _ (hS1.oldII hv') hz4).mono ?_
      rintro e w2 ⟨rfl, h2⟩
      have hS2 := hS1.call0 (w' := w2) h2
      go_wp2_with fail
      go_ret
      exact ⟨rfl, hS2.out⟩
    · obtain ⟨hz1, hz2⟩ := szII_le (left := szII 1048576 xss) (xss := xss') (by omega)
      have hz1x : xss'.length ≤ 1048576 := by omega
      have Hzx := Lib.hid (show ∀ xs ∈ xss', xs.length ≤ 1048576 from fun xs hx => by have := hz2 xs hx; omega)
      clear hz2 hz1
      go_enter Try.func8, Try.ntmps8
      unfold av
      go_wp2_with fail
      refine (szArray_c lv co v us xss _ _ (hS0.oldII hv) (by omega)).mono ?_
      rintro e w1 ⟨rfl, h1⟩
      have hS1 := hS0.call0 (w' := w1) h1
      have b0 := hS1.bcell 1 rfl 0 rfl
      have b1 := hS1.bcell 1 rfl 1 rfl
      have b2 := hS1.bcell 1 rfl 2 rfl
      go_wp2_with fail
      refine (szArray_c lv' co' v' us' xss' _ _ (hS1.oldII hv') hz4).mono ?_
      rintro e w2 ⟨rfl, h2⟩
      have hS2 := hS1.call0 (w' := w2) h2
      clear hS1 h1 h2 b0 b1 b2 hS0
      have b0 := hS2.drew.bcell 0 rfl 0 rfl
      have b1 := hS2.drew.bcell 0 rfl 1 rfl
      have b2 := hS2.drew.bcell 0 rfl 2 rfl
      have d0 := hS2.drew.bcell 1 rfl 0 rfl
      have d1 := hS2.drew.bcell 1 rfl 1 rfl
      have d2 := hS2.drew.bcell 1 rfl 2 rfl
      go_wp2_with fail
      go_cut [6] from 10 (fun s6 w' => s6 = .bool (eqA lv co lv' co' xss xss') ∧ St w.heap.size w w' [box 42 w.heap.size [.int .i64 lv, .int .i64 co, v], box 42 (w.heap.size + 1) [.int .i64 lv', .int .i64 co', v']])
      case first =>
        go_region_with (first
          | (go_at_call_of 31 (v); refine (toArray_c lv co v us xss _ (hS2.drew.oldII hv) hz1' Hz.out).mono ?_; rintro e w3 ⟨v3, us3, rfl, hl3, h3⟩; have Hl3 := Lib.hid hl3; clear hl3; have hS3 := hS2.drew.call h3; have g0 := hS3.bcell 1 rfl 0 rfl; have g1 := hS3.bcell 1 rfl 1 rfl; have g2 := hS3.bcell 1 rfl 2 rfl; clear hS2)
          | (go_at_call_of 31 (v'); refine (toArray_c lv' co' v' us' xss' _ (hS3.oldII hv') hz1x Hzx.out).mono ?_; rintro e w4 ⟨v4, us4, rfl, hl4, h4⟩; have Hl4 := Lib.hid hl4; clear hl4; have hS4 := hS3.call h4; have hr3 := (h3.rii Hl3.out).keep h4.below; have hr4 := h4.rii Hl4.out)
          | (go_at_call 38; refine (sSameArray_c lv co lv' co' v3 v4 us3 us4 xss xss' _ hr3 hr4).mono ?_; rintro e w5 ⟨rfl, h5⟩; have hS5 := hS4.call0 h5))
        all_goals
          go_wp2_with fail
          go_meet
          case rel => exact ⟨rfl, hS5.sub ((List.sublist_append_left _ _).trans (List.sublist_append_left _ _))⟩
      obtain ⟨rfl, hS3⟩ := hcut
      clear hS2 b0 b1 b2 d0 d1 d2
      have b0 := hS3.bcell 0 rfl 0 rfl
      have b1 := hS3.bcell 0 rfl 1 rfl
      have b2 := hS3.bcell 0 rfl 2 rfl
      go_wp2_with fail
      refine (toArray_c lv co v us xss _ (hS3.oldII hv) hz1' Hz.out).mono ?_
      rintro e w3 ⟨v3, us3, rfl, hl3, h3⟩
      have hr3 := h3.rii hl3
      obtain ⟨a3, c3, rfl⟩ := hr3.1.sl.sh
      have hS3' := hS3.call0 h3.out
      have d0 := hS3'.bcell 1 rfl 0 rfl
      have d1 := hS3'.bcell 1 rfl 1 rfl
      have d2 := hS3'.bcell 1 rfl 2 rfl
      have l1 := (hS3'.blt 1 rfl).2
      have hS4 := hS3'.newboxF 45 #[.int .i64 lv, .int .i64 co, .slice a3 us3.length c3]
      have hr4 := hr3.keep (w' := w3.alloc (.cells #[.int .i64 lv, .int .i64 co, .slice a3 us3.length c3] 45)) ((St.refl w3).alloc' _).below
      clear b0 b1 b2 hS3' hS3 h3 hl3 hr3
      unfold av
      go_wp2_with fail
      refine (toArray_c lv' co' v' us' xss' _ (hS4.oldII hv') hz1x Hzx.out).mono ?_
      rintro e w4 ⟨v4, us4, rfl, hl4, h4⟩
      have hr5 := h4.rii hl4
      obtain ⟨a4, c4, rfl⟩ := hr5.1.sl.sh
      have hS5 := (hS4.call0 h4.out).newboxF 45 #[.int .i64 lv', .int .i64 co', .slice a4 us4.length c4]
      have hk := ((St.refl w4).alloc' (.cells #[.int .i64 lv', .int .i64 co', .slice a4 us4.length c4] 45)).below
      have hr6 := (hr4.keep h4.below).keep hk
      have hr7 := hr5.keep hk
      clear hS4 h4 hl4 hr5 hr4 hk l1 d0 d1 d2
      have b0 := hS5.bcell 0 rfl 0 rfl
      have b1 := hS5.bcell 0 rfl 1 rfl
      have b2 := hS5.bcell 0 rfl 2 rfl
      have d0 := hS5.bcell 1 rfl 0 rfl
      have d1 := hS5.bcell 1 rfl 1 rfl
      have d2 := hS5.bcell 1 rfl 2 rfl
      unfold av
      go_wp2_with fail
      refine (SameArray_c lv co lv' co' _ _ us3 us4 xss xss' _ hr6 hr7).mono ?_
      rintro e w5 ⟨rfl, h5⟩
      have hS6 := hS5.call0 (w' := w5) h5
      have hr8 := hr6.keep h5.below
      have hr9 := hr7.keep h5.below
      clear hS5 hr6 hr7 h5 b0 b1 b2 d0 d1 d2
      generalize eqA lv co lv' co' xss xss' = qq
      have Hqq : Hid ((qq != qq) = false) := by unfold Hid; simp
      have f0 := Hqq.out
      have HeA := Lib.hid (show eqA lv co lv co xss xss = true by simp [eqA])
      have HeB := Lib.hid (show eqA lv' co' lv' co' xss' xss' = true by simp [eqA])
      have b0 := hS6.drew.bcell 1 rfl 0 rfl
      have b1 := hS6.drew.bcell 1 rfl 1 rfl
      have b2 := hS6.drew.bcell 1 rfl 2 rfl
      have d0 := hS6.drew.bcell 2 rfl 0 rfl
      have d1 := hS6.drew.bcell 2 rfl 1 rfl
      have d2 := hS6.drew.bcell 2 rfl 2 rfl
      go_wp2_with fail
      go_cut [39] from 10 (fun s39 w' => s39 = .bool false ∧ St w.heap.size w w' [box 45 w4.heap.size [.int .i64 lv', .int .i64 co', .slice a4 us4.length c4], box 42 (w.heap.size + 1) [.int .i64 lv', .int .i64 co', v']] ∧ RII w' (.slice a4 us4.length c4) us4 xss')
      case first =>
        go_region_with (first
          | (go_at_call 31; refine (toArray_c lv co v us xss _ (hS6.drew.oldII hv) hz1' Hz.out).mono ?_; rintro e w7 ⟨v7, us7, rfl, hl7, h7⟩; have hr7 := h7.rii hl7; have hS7 := hS6.drew.call0 h7.out; clear hl7; have g0 := hS7.bcell 1 rfl 0 rfl; have g1 := hS7.bcell 1 rfl 1 rfl; have g2 := hS7.bcell 1 rfl 2 rfl)
          | (go_at_call 33; refine (eqArray_c lv co lv co _ _ us3 us7 xss xss _ ((hr8.keep (St.refl w5).drew.below).keep h7.below) hr7).mono ?_; rw [HeA.out]; rintro e w8 ⟨rfl, h8⟩; have hS8 := hS7.call0 h8))
        all_goals
          go_wp2_with fail
          go_meet
          case rel => exact ⟨rfl, hS8.sub (((List.Sublist.refl _).cons _).cons _ |>.cons_cons _), ((hr9.keep (St.refl w5).drew.below).keep h7.below).keep h8.below⟩
      obtain ⟨rfl, hS7, hr10⟩ := hcut
      clear hS6 b0 b1 b2 d0 d1 d2 hr8 hr9
      have b0 := hS7.drew.bcell 0 rfl 0 rfl
      have b1 := hS7.drew.bcell 0 rfl 1 rfl
      have b2 := hS7.drew.bcell 0 rfl 2 rfl
      have d0 := hS7.drew.bcell 1 rfl 0 rfl
      have d1 := hS7.drew.bcell 1 rfl 1 rfl
      have d2 := hS7.drew.bcell 1 rfl 2 rfl
      go_wp2_with fail
      go_cut [44] from 10 (fun s44 w' => s44 = .bool false ∧ St w.heap.size w w' [])
      case first =>
        go_region_with (first
          | (go_at_call 31; refine (toArray_c lv' co' v' us' xss' _ (hS7.drew.oldII hv') hz1x Hzx.out).mono ?_; rintro e w8 ⟨v8, us8, rfl, hl8, h8⟩; have hr8 := h8.rii hl8; have hS8 := hS7.drew.call0 h8.out; clear hl8; have g0 := hS8.bcell 0 rfl 0 rfl; have g1 := hS8.bcell 0 rfl 1 rfl; have g2 := hS8.bcell 0 rfl 2 rfl)
          | (go_at_call 33; refine (eqArray_c lv' co' lv' co' _ _ us4 us8 xss' xss' _ ((hr10.keep (St.refl _).drew.below).keep h8.below) hr8).mono ?_; rw [HeB.out]; rintro e w9 ⟨rfl, h9⟩; have hS9 := hS8.call0 h9))
        all_goals
          go_wp2_with fail
          go_meet
          case rel => exact ⟨rfl, hS9.out⟩
      obtain ⟨rfl, hS8⟩ := hcut
      go_wp2_with fail
      go_ret
      exact ⟨rfl, hS8⟩
end Go.Proofs.Ytonmggppfopidaa
