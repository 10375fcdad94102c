/- The law FnExactDeriveArray, walked. -/
import Derived.Test.YtonmggppfopidaaDer2
import Derived.Test.YtonmggppfopidaaLE1
import Derived.Test.YtonmggppfopidaaLE3
namespace Go.Proofs.Ytonmggppfopidaa
set_option linter.unusedSimpArgs false
set_option linter.unusedVariables false
open Go.RowKit

/-- where the ways meet: an array of its own behind a box of its own, and a code -/
def CutA (w : World) (base : List Ent) (T : TypeId) (l d cc : Int) (R : List (List Int)) (s0 s1 : Value) (w' : World) : Prop :=
  ∃ (g : Nat) (a : Option Addr) (c : Nat) (us : List Value), s0 = .pointer (some ⟨g, 0, none⟩) ∧ s1 = .int .i64 cc ∧ us.length = R.length ∧
    St w.heap.size w w' (box T g [.int .i64 l, .int .i64 d, .slice a us.length c] :: (base ++ own2 (.slice a us.length c) us R))
theorem szL_tot : ∀ {left : Int} {xss : List (List Int)}, 0 ≤ szL left xss → (tot xss : Int) ≤ left
  | left, [], h => by simpa [szL, tot] using h
  | left, x :: r, h => by
    unfold szL at h
    split at h
    · omega
    · rename_i hn
      have h1 := szL_tot h
      have h2 := szI_le (show 0 ≤ szI left x by omega)
      have h3 : szI left x = left - x.length := by
        unfold szI; unfold szI at hn; split at hn
        · omega
        · rename_i h4; rw [if_neg h4]
      simp only [tot]; push_cast; omega
theorem szII_tot {left : Int} {xss : List (List Int)} (h : 0 ≤ szII left xss) : (tot xss : Int) ≤ left := by
  unfold szII at h
  split at h
  · omega
  · have := szL_tot h; omega
theorem szL_tot2 : ∀ {left : Int} {xss : List (List Int)}, 0 ≤ szL left xss → (tot xss : Int) + szL left xss ≤ left
  | left, [], h => by simp [szL, tot]
  | left, x :: r, h => by
    unfold szL at h ⊢
    split at h
    · omega
    · rename_i hn
      rw [if_neg hn]
      have h1 := szL_tot2 h
      have h3 : szI left x = left - x.length := by
        unfold szI; unfold szI at hn; split at hn
        · omega
        · rename_i h4; rw [if_neg h4]
      simp only [tot]; push_cast; omega
theorem szII_tot2 {left : Int} {xss : List (List Int)} (h : 0 ≤ szII left xss) : (tot xss : Int) + szII left xss ≤ left := by
  unfold szII at h ⊢
  split at h
  · omega
  · rename_i hn; rw [if_neg hn]; have := szL_tot2 h; omega
theorem tot_app (a b : List (List Int)) : tot (a ++ b) = tot a + tot b := by
  induction a with
  | nil => simp [tot]
  | cons x r ih => simp only [List.cons_append, tot, ih]; omega
theorem derRow_le (c : Nat) (xs : List Int) : (derRow c xs).length ≤ xs.length := by simp [derRow]; omega
theorem derRows_tot (c : Nat) (x : Int) (xss : List (List Int)) : tot (derRows c x xss) ≤ tot xss := by
  unfold derRows
  induction xss with
  | nil => simp [tot]
  | cons y r ih =>
    simp only [List.filter_cons]
    split
    · simp only [List.map_cons, tot]; have := derRow_le c y; omega
    · simp only [tot]; omega
theorem derA_tot (lv co : Int) (xss : List (List Int)) (c x : Int) : tot (derA lv co xss c x).rows ≤ tot xss := by
  unfold derA; split
  · exact derRows_tot _ _ _
  · simp [noA, tot]

set_option maxHeartbeats 4000000 in
set_option maxRecDepth 100000 in
theorem FnExactDeriveArray_law (w : World) (lv co : Int) (v : Value) (us : List Value) (xss : List (List Int)) (hv : RII w v us xss) (c : Int) (_ : (Lit.int .i64 c).wf = true) (x : Int) (_ : (Lit.int .i64 x).wf = true) :
    Calls Try.prog 12 #[av lv co v, .int .i64 c, .int .i64 x] w (GivesB w true) := by
  have hS0 := (St.refl w).newboxF 42 #[.int .i64 lv, .int .i64 co, v]
  by_cases hsz : szII 1048576 xss < 0
  · go_enter Try.func12, Try.ntmps12
    unfold av
    go_wp2_with fail
    refine (szArray_c lv co v us xss _ _ (hS0.oldII hv) (by omega)).mono ?_
    rintro e w1 ⟨rfl, h1⟩
    have hS1 := hS0.call0 (w' := w1) h1
    go_wp2_with fail
    go_ret
    exact ⟨rfl, hS1.out⟩
  · obtain ⟨hz1, hz2⟩ := szII_le (left := 1048576) (xss := xss) (by omega)
    have Hz1 := Lib.hid (show xss.length ≤ 1048576 by omega)
    have Hz2 := Lib.hid (show ∀ xs ∈ xss, xs.length ≤ 1048576 from fun xs hx => by have := hz2 xs hx; omega)
    have Ht := Lib.hid (show tot xss ≤ 1048576 by have := szII_tot (left := 1048576) (xss := xss) (by omega); omega)
    have Hb := Lib.hid (show tot (derA lv co xss c x).rows ≤ 1048576 by have := derA_tot lv co xss c x; have := Ht.out; omega)
    have Hs := fun w v us (hv : RII w v us xss) => Lib.hid (sDeriveArray_c lv co c x v us xss w hv)
    have Hi := fun w v us (hv : RII w v us xss) => Lib.hid (DeriveArray_c lv co c x v us xss w hv)
    generalize derA lv co xss c x = A at Hb Hs Hi
    generalize derC lv co xss c x = cc at Hs Hi
    obtain ⟨l, d, R⟩ := A
    simp only at Hb
    have HeX := Lib.hid (show eqA lv co lv co xss xss = true by simp [eqA])
    have HeA := Lib.hid (show eqA l d l d R R = true by simp [eqA])
    have hcc : (cc != cc) = false := by simp
    have ht0 := Ht.out
    have ht1 := Hb.out
    have htt : ((1 + (tot R : Int)) != (1 + (tot R : Int))) = false := by simp
    clear hz2 hz1
    go_enter Try.func12, Try.ntmps12
    unfold av
    go_wp2_with fail
    refine (szArray_c lv co v us xss _ _ (hS0.oldII hv) (by omega)).mono ?_
    rintro e w1 ⟨rfl, h1⟩
    have hS1 : St w.heap.size w w1 (box 42 w.heap.size [.int .i64 lv, .int .i64 co, v] :: ([])) := (hS0.call0 h1).perm (by classical exact List.perm_iff_count.2 (fun a => by simp only [List.cons_append, List.nil_append, List.append_nil, List.count_append, List.count_cons, List.count_nil] <;> omega))
    have b0_0 := hS1.bcell 0 rfl 0 rfl
    have b0_1 := hS1.bcell 0 rfl 1 rfl
    have b0_2 := hS1.bcell 0 rfl 2 rfl
    clear hS0 h1
    go_wp2_with fail
    refine (toArray_c lv co v us xss w1 (hS1.oldII hv) Hz1.out Hz2.out).mono ?_
    rintro e w2 ⟨v2, us2, rfl, hl2, h2⟩
    have hr2 := h2.rii hl2
    have hS2 : St w.heap.size w w2 (box 42 w.heap.size [.int .i64 lv, .int .i64 co, v] :: ([])) := (hS1.call0 h2.out).perm (by classical exact List.perm_iff_count.2 (fun a => by simp only [List.cons_append, List.nil_append, List.append_nil, List.count_append, List.count_cons, List.count_nil] <;> omega))
    clear b0_0 b0_1 b0_2 hS1
    have b0_0 := hS2.bcell 0 rfl 0 rfl
    have b0_1 := hS2.bcell 0 rfl 1 rfl
    have b0_2 := hS2.bcell 0 rfl 2 rfl
    clear h2 hl2
    go_wp2_with fail
    refine (Hs _ _ _ hr2).out.mono ?_
    rintro e w3 ⟨v3, us3, rfl, hl3, h3⟩
    have Hl3 := Lib.hid hl3
    obtain ⟨a3, c3, rfl⟩ := (h3.rii hl3).1.sl.sh
    have hS3 : St w.heap.size w _ (box 45 w3.heap.size [.int .i64 l, .int .i64 d, .slice a3 us3.length c3] :: box 42 w.heap.size [.int .i64 lv, .int .i64 co, v] :: (own2 (.slice a3 us3.length c3) us3 R ++ [])) := ((hS2.call h3).newboxF 45 #[.int .i64 l, .int .i64 d, .slice a3 us3.length c3]).perm (by classical exact List.perm_iff_count.2 (fun a => by simp only [List.cons_append, List.nil_append, List.append_nil, List.count_append, List.count_cons, List.count_nil] <;> omega))
    clear b0_0 b0_1 b0_2 hS2
    have b0_0 := hS3.bcell 0 rfl 0 rfl
    have b0_1 := hS3.bcell 0 rfl 1 rfl
    have b0_2 := hS3.bcell 0 rfl 2 rfl
    have b1_0 := hS3.bcell 1 rfl 0 rfl
    have b1_1 := hS3.bcell 1 rfl 1 rfl
    have b1_2 := hS3.bcell 1 rfl 2 rfl
    clear h3 hl3 hr2
    unfold av
    go_wp2_with fail
    refine (toArray_c lv co v us xss _ (hS3.oldII hv) Hz1.out Hz2.out).mono ?_
    rintro e w4 ⟨v4, us4, rfl, hl4, h4⟩
    have Hl4 := Lib.hid hl4
    obtain ⟨a4, c4, rfl⟩ := (h4.rii hl4).1.sl.sh
    have hS4 : St w.heap.size w _ (box 45 w4.heap.size [.int .i64 lv, .int .i64 co, .slice a4 us4.length c4] :: box 45 w3.heap.size [.int .i64 l, .int .i64 d, .slice a3 us3.length c3] :: box 42 w.heap.size [.int .i64 lv, .int .i64 co, v] :: (own2 (.slice a4 us4.length c4) us4 xss ++ own2 (.slice a3 us3.length c3) us3 R ++ [])) := ((hS3.call h4).newboxF 45 #[.int .i64 lv, .int .i64 co, .slice a4 us4.length c4]).perm (by classical exact List.perm_iff_count.2 (fun a => by simp only [List.cons_append, List.nil_append, List.append_nil, List.count_append, List.count_cons, List.count_nil] <;> omega))
    clear b0_0 b0_1 b0_2 b1_0 b1_1 b1_2 hS3
    have b0_0 := hS4.bcell 0 rfl 0 rfl
    have b0_1 := hS4.bcell 0 rfl 1 rfl
    have b0_2 := hS4.bcell 0 rfl 2 rfl
    have b1_0 := hS4.bcell 1 rfl 0 rfl
    have b1_1 := hS4.bcell 1 rfl 1 rfl
    have b1_2 := hS4.bcell 1 rfl 2 rfl
    have b2_0 := hS4.bcell 2 rfl 0 rfl
    have b2_1 := hS4.bcell 2 rfl 1 rfl
    have b2_2 := hS4.bcell 2 rfl 2 rfl
    clear h4 hl4
    unfold av
    go_wp2_with fail
    refine (Hi _ _ _ (rii2 (hS4.perm (L' := own2 (.slice a4 us4.length c4) us4 xss ++ (box 45 w4.heap.size [.int .i64 lv, .int .i64 co, .slice a4 us4.length c4] :: box 45 w3.heap.size [.int .i64 l, .int .i64 d, .slice a3 us3.length c3] :: box 42 w.heap.size [.int .i64 lv, .int .i64 co, v] :: (own2 (.slice a3 us3.length c3) us3 R ++ []))) (by classical exact List.perm_iff_count.2 (fun a => by simp only [List.cons_append, List.nil_append, List.append_nil, List.count_append, List.count_cons, List.count_nil] <;> omega))) Hl4.out)).out.mono ?_
    rintro e w5 ⟨v5, us5, rfl, hl5, h5⟩
    have Hl5 := Lib.hid hl5
    obtain ⟨a5, c5, rfl⟩ := (h5.rii hl5).1.sl.sh
    have hS5 : St w.heap.size w _ (box 45 w5.heap.size [.int .i64 l, .int .i64 d, .slice a5 us5.length c5] :: box 45 w4.heap.size [.int .i64 lv, .int .i64 co, .slice a4 us4.length c4] :: box 45 w3.heap.size [.int .i64 l, .int .i64 d, .slice a3 us3.length c3] :: box 42 w.heap.size [.int .i64 lv, .int .i64 co, v] :: (own2 (.slice a5 us5.length c5) us5 R ++ own2 (.slice a4 us4.length c4) us4 xss ++ own2 (.slice a3 us3.length c3) us3 R ++ [])) := ((hS4.call h5).newboxF 45 #[.int .i64 l, .int .i64 d, .slice a5 us5.length c5]).perm (by classical exact List.perm_iff_count.2 (fun a => by simp only [List.cons_append, List.nil_append, List.append_nil, List.count_append, List.count_cons, List.count_nil] <;> omega))
    clear b0_0 b0_1 b0_2 b1_0 b1_1 b1_2 b2_0 b2_1 b2_2 hS4
    have b0_0 := hS5.bcell 0 rfl 0 rfl
    have b0_1 := hS5.bcell 0 rfl 1 rfl
    have b0_2 := hS5.bcell 0 rfl 2 rfl
    have b1_0 := hS5.bcell 1 rfl 0 rfl
    have b1_1 := hS5.bcell 1 rfl 1 rfl
    have b1_2 := hS5.bcell 1 rfl 2 rfl
    have b2_0 := hS5.bcell 2 rfl 0 rfl
    have b2_1 := hS5.bcell 2 rfl 1 rfl
    have b2_2 := hS5.bcell 2 rfl 2 rfl
    have b3_0 := hS5.bcell 3 rfl 0 rfl
    have b3_1 := hS5.bcell 3 rfl 1 rfl
    have b3_2 := hS5.bcell 3 rfl 2 rfl
    clear h5 hl5
    unfold av
    go_wp2_with fail
    refine (eqArray_c l d l d _ _ us5 us3 R R _ (rii2 (hS5.perm (L' := own2 (.slice a5 us5.length c5) us5 R ++ (box 45 w5.heap.size [.int .i64 l, .int .i64 d, .slice a5 us5.length c5] :: box 45 w4.heap.size [.int .i64 lv, .int .i64 co, .slice a4 us4.length c4] :: box 45 w3.heap.size [.int .i64 l, .int .i64 d, .slice a3 us3.length c3] :: box 42 w.heap.size [.int .i64 lv, .int .i64 co, v] :: (own2 (.slice a4 us4.length c4) us4 xss ++ own2 (.slice a3 us3.length c3) us3 R ++ []))) (by classical exact List.perm_iff_count.2 (fun a => by simp only [List.cons_append, List.nil_append, List.append_nil, List.count_append, List.count_cons, List.count_nil] <;> omega))) Hl5.out) (rii2 (hS5.perm (L' := own2 (.slice a3 us3.length c3) us3 R ++ (box 45 w5.heap.size [.int .i64 l, .int .i64 d, .slice a5 us5.length c5] :: box 45 w4.heap.size [.int .i64 lv, .int .i64 co, .slice a4 us4.length c4] :: box 45 w3.heap.size [.int .i64 l, .int .i64 d, .slice a3 us3.length c3] :: box 42 w.heap.size [.int .i64 lv, .int .i64 co, v] :: (own2 (.slice a5 us5.length c5) us5 R ++ own2 (.slice a4 us4.length c4) us4 xss ++ []))) (by classical exact List.perm_iff_count.2 (fun a => by simp only [List.cons_append, List.nil_append, List.append_nil, List.count_append, List.count_cons, List.count_nil] <;> omega))) Hl3.out)).mono ?_
    rw [HeA.out]
    rintro e w6 ⟨rfl, h6⟩
    have hS6 : St w.heap.size w w6 (box 45 w5.heap.size [.int .i64 l, .int .i64 d, .slice a5 us5.length c5] :: box 45 w4.heap.size [.int .i64 lv, .int .i64 co, .slice a4 us4.length c4] :: box 45 w3.heap.size [.int .i64 l, .int .i64 d, .slice a3 us3.length c3] :: box 42 w.heap.size [.int .i64 lv, .int .i64 co, v] :: (own2 (.slice a5 us5.length c5) us5 R ++ own2 (.slice a4 us4.length c4) us4 xss ++ own2 (.slice a3 us3.length c3) us3 R ++ [])) := (hS5.call0 h6).perm (by classical exact List.perm_iff_count.2 (fun a => by simp only [List.cons_append, List.nil_append, List.append_nil, List.count_append, List.count_cons, List.count_nil] <;> omega))
    clear b0_0 b0_1 b0_2 b1_0 b1_1 b1_2 b2_0 b2_1 b2_2 b3_0 b3_1 b3_2 hS5
    have b0_0 := hS6.bcell 0 rfl 0 rfl
    have b0_1 := hS6.bcell 0 rfl 1 rfl
    have b0_2 := hS6.bcell 0 rfl 2 rfl
    have b1_0 := hS6.bcell 1 rfl 0 rfl
    have b1_1 := hS6.bcell 1 rfl 1 rfl
    have b1_2 := hS6.bcell 1 rfl 2 rfl
    have b2_0 := hS6.bcell 2 rfl 0 rfl
    have b2_1 := hS6.bcell 2 rfl 1 rfl
    have b2_2 := hS6.bcell 2 rfl 2 rfl
    have b3_0 := hS6.bcell 3 rfl 0 rfl
    have b3_1 := hS6.bcell 3 rfl 1 rfl
    have b3_2 := hS6.bcell 3 rfl 2 rfl
    clear h6
    go_wp2_with fail
    clear b0_0 b0_1 b0_2 b1_0 b1_1 b1_2 b2_0 b2_1 b2_2 b3_0 b3_1 b3_2
    have b0_0 := hS6.drew.bcell 0 rfl 0 rfl
    have b0_1 := hS6.drew.bcell 0 rfl 1 rfl
    have b0_2 := hS6.drew.bcell 0 rfl 2 rfl
    have b1_0 := hS6.drew.bcell 1 rfl 0 rfl
    have b1_1 := hS6.drew.bcell 1 rfl 1 rfl
    have b1_2 := hS6.drew.bcell 1 rfl 2 rfl
    have b2_0 := hS6.drew.bcell 2 rfl 0 rfl
    have b2_1 := hS6.drew.bcell 2 rfl 1 rfl
    have b2_2 := hS6.drew.bcell 2 rfl 2 rfl
    have b3_0 := hS6.drew.bcell 3 rfl 0 rfl
    have b3_1 := hS6.drew.bcell 3 rfl 1 rfl
    have b3_2 := hS6.drew.bcell 3 rfl 2 rfl
    go_cut [53] from 18 (fun s53 w' => s53 = .bool false ∧ St w.heap.size w w' (box 45 w5.heap.size [.int .i64 l, .int .i64 d, .slice a5 us5.length c5] :: box 45 w4.heap.size [.int .i64 lv, .int .i64 co, .slice a4 us4.length c4] :: box 45 w3.heap.size [.int .i64 l, .int .i64 d, .slice a3 us3.length c3] :: box 42 w.heap.size [.int .i64 lv, .int .i64 co, v] :: (own2 (.slice a5 us5.length c5) us5 R ++ own2 (.slice a4 us4.length c4) us4 xss ++ own2 (.slice a3 us3.length c3) us3 R ++ [])))
    case first =>
      have hrx := (rii2 (hS6.perm (L' := own2 (.slice a4 us4.length c4) us4 xss ++ (box 45 w5.heap.size [.int .i64 l, .int .i64 d, .slice a5 us5.length c5] :: box 45 w4.heap.size [.int .i64 lv, .int .i64 co, .slice a4 us4.length c4] :: box 45 w3.heap.size [.int .i64 l, .int .i64 d, .slice a3 us3.length c3] :: box 42 w.heap.size [.int .i64 lv, .int .i64 co, v] :: (own2 (.slice a5 us5.length c5) us5 R ++ own2 (.slice a3 us3.length c3) us3 R ++ []))) (by classical exact List.perm_iff_count.2 (fun a => by simp only [List.cons_append, List.nil_append, List.append_nil, List.count_append, List.count_cons, List.count_nil] <;> omega))) Hl4.out)
      go_region_with (first
        | (go_at_call 31; refine (toArray_c lv co v us xss _ (hS6.drew.oldII hv) Hz1.out Hz2.out).mono ?_; rintro e w7 ⟨v7, us7, rfl, hl7, h7⟩; have hr7 := h7.rii hl7; have hS7 := hS6.drew.call0 h7.out; clear hl7; have g0 := hS7.bcell 1 rfl 0 rfl; have g1 := hS7.bcell 1 rfl 1 rfl; have g2 := hS7.bcell 1 rfl 2 rfl)
        | (go_at_call 33; refine (eqArray_c lv co lv co _ _ us4 us7 xss xss _ ((hrx.keep (St.refl _).drew.below).keep h7.below) hr7).mono ?_; rw [HeX.out]; rintro e w8 ⟨rfl, h8⟩; have hS8 := hS7.call0 h8))
      all_goals
        go_wp2_with fail
        go_meet
        case rel => exact ⟨rfl, hS8⟩
    obtain ⟨rfl, hcut'⟩ := hcut
    have hS7 : St w.heap.size w wc (box 45 w5.heap.size [.int .i64 l, .int .i64 d, .slice a5 us5.length c5] :: box 45 w4.heap.size [.int .i64 lv, .int .i64 co, .slice a4 us4.length c4] :: box 45 w3.heap.size [.int .i64 l, .int .i64 d, .slice a3 us3.length c3] :: box 42 w.heap.size [.int .i64 lv, .int .i64 co, v] :: (own2 (.slice a5 us5.length c5) us5 R ++ own2 (.slice a4 us4.length c4) us4 xss ++ own2 (.slice a3 us3.length c3) us3 R ++ [])) := (hcut').perm (by classical exact List.perm_iff_count.2 (fun a => by simp only [List.cons_append, List.nil_append, List.append_nil, List.count_append, List.count_cons, List.count_nil] <;> omega))
    clear b0_0 b0_1 b0_2 b1_0 b1_1 b1_2 b2_0 b2_1 b2_2 b3_0 b3_1 b3_2 hS6
    have b0_0 := hS7.bcell 0 rfl 0 rfl
    have b0_1 := hS7.bcell 0 rfl 1 rfl
    have b0_2 := hS7.bcell 0 rfl 2 rfl
    have b1_0 := hS7.bcell 1 rfl 0 rfl
    have b1_1 := hS7.bcell 1 rfl 1 rfl
    have b1_2 := hS7.bcell 1 rfl 2 rfl
    have b2_0 := hS7.bcell 2 rfl 0 rfl
    have b2_1 := hS7.bcell 2 rfl 1 rfl
    have b2_2 := hS7.bcell 2 rfl 2 rfl
    have b3_0 := hS7.bcell 3 rfl 0 rfl
    have b3_1 := hS7.bcell 3 rfl 1 rfl
    have b3_2 := hS7.bcell 3 rfl 2 rfl
    clear hcut'
    go_wp2_with fail
    refine (markArray_c lv co _ us4 xss 1 (by omega) (by omega) Hl4.out (hS7.perm (L' := own2 (.slice a4 us4.length c4) us4 xss ++ (box 45 w5.heap.size [.int .i64 l, .int .i64 d, .slice a5 us5.length c5] :: box 45 w4.heap.size [.int .i64 lv, .int .i64 co, .slice a4 us4.length c4] :: box 45 w3.heap.size [.int .i64 l, .int .i64 d, .slice a3 us3.length c3] :: box 42 w.heap.size [.int .i64 lv, .int .i64 co, v] :: (own2 (.slice a5 us5.length c5) us5 R ++ own2 (.slice a3 us3.length c3) us3 R ++ []))) (by classical exact List.perm_iff_count.2 (fun a => by simp only [List.cons_append, List.nil_append, List.append_nil, List.count_append, List.count_cons, List.count_nil] <;> omega)))).mono ?_
    rintro e w9 ⟨rfl, hmw9⟩
    have hS8 : St w.heap.size w w9 (box 45 w5.heap.size [.int .i64 l, .int .i64 d, .slice a5 us5.length c5] :: box 45 w4.heap.size [.int .i64 lv, .int .i64 co, .slice a4 us4.length c4] :: box 45 w3.heap.size [.int .i64 l, .int .i64 d, .slice a3 us3.length c3] :: box 42 w.heap.size [.int .i64 lv, .int .i64 co, v] :: (own2 (.slice a5 us5.length c5) us5 R ++ own2 (.slice a4 us4.length c4) us4 (mrkL 1 xss) ++ own2 (.slice a3 us3.length c3) us3 R ++ [])) := (hmw9).perm (by classical exact List.perm_iff_count.2 (fun a => by simp only [List.cons_append, List.nil_append, List.append_nil, List.count_append, List.count_cons, List.count_nil] <;> omega))
    clear b0_0 b0_1 b0_2 b1_0 b1_1 b1_2 b2_0 b2_1 b2_2 b3_0 b3_1 b3_2 hS7
    have b0_0 := hS8.bcell 0 rfl 0 rfl
    have b0_1 := hS8.bcell 0 rfl 1 rfl
    have b0_2 := hS8.bcell 0 rfl 2 rfl
    have b1_0 := hS8.bcell 1 rfl 0 rfl
    have b1_1 := hS8.bcell 1 rfl 1 rfl
    have b1_2 := hS8.bcell 1 rfl 2 rfl
    have b2_0 := hS8.bcell 2 rfl 0 rfl
    have b2_1 := hS8.bcell 2 rfl 1 rfl
    have b2_2 := hS8.bcell 2 rfl 2 rfl
    have b3_0 := hS8.bcell 3 rfl 0 rfl
    have b3_1 := hS8.bcell 3 rfl 1 rfl
    have b3_2 := hS8.bcell 3 rfl 2 rfl
    clear hmw9
    go_wp2_with fail
    refine (eqArray_c l d l d _ _ us5 us3 R R _ (rii2 (hS8.perm (L' := own2 (.slice a5 us5.length c5) us5 R ++ (box 45 w5.heap.size [.int .i64 l, .int .i64 d, .slice a5 us5.length c5] :: box 45 w4.heap.size [.int .i64 lv, .int .i64 co, .slice a4 us4.length c4] :: box 45 w3.heap.size [.int .i64 l, .int .i64 d, .slice a3 us3.length c3] :: box 42 w.heap.size [.int .i64 lv, .int .i64 co, v] :: (own2 (.slice a4 us4.length c4) us4 (mrkL 1 xss) ++ own2 (.slice a3 us3.length c3) us3 R ++ []))) (by classical exact List.perm_iff_count.2 (fun a => by simp only [List.cons_append, List.nil_append, List.append_nil, List.count_append, List.count_cons, List.count_nil] <;> omega))) Hl5.out) (rii2 (hS8.perm (L' := own2 (.slice a3 us3.length c3) us3 R ++ (box 45 w5.heap.size [.int .i64 l, .int .i64 d, .slice a5 us5.length c5] :: box 45 w4.heap.size [.int .i64 lv, .int .i64 co, .slice a4 us4.length c4] :: box 45 w3.heap.size [.int .i64 l, .int .i64 d, .slice a3 us3.length c3] :: box 42 w.heap.size [.int .i64 lv, .int .i64 co, v] :: (own2 (.slice a5 us5.length c5) us5 R ++ own2 (.slice a4 us4.length c4) us4 (mrkL 1 xss) ++ []))) (by classical exact List.perm_iff_count.2 (fun a => by simp only [List.cons_append, List.nil_append, List.append_nil, List.count_append, List.count_cons, List.count_nil] <;> omega))) Hl3.out)).mono ?_
    rw [HeA.out]
    rintro e w10 ⟨rfl, h10⟩
    have hS9 : St w.heap.size w w10 (box 45 w5.heap.size [.int .i64 l, .int .i64 d, .slice a5 us5.length c5] :: box 45 w4.heap.size [.int .i64 lv, .int .i64 co, .slice a4 us4.length c4] :: box 45 w3.heap.size [.int .i64 l, .int .i64 d, .slice a3 us3.length c3] :: box 42 w.heap.size [.int .i64 lv, .int .i64 co, v] :: (own2 (.slice a5 us5.length c5) us5 R ++ own2 (.slice a4 us4.length c4) us4 (mrkL 1 xss) ++ own2 (.slice a3 us3.length c3) us3 R ++ [])) := (hS8.call0 h10).perm (by classical exact List.perm_iff_count.2 (fun a => by simp only [List.cons_append, List.nil_append, List.append_nil, List.count_append, List.count_cons, List.count_nil] <;> omega))
    clear b0_0 b0_1 b0_2 b1_0 b1_1 b1_2 b2_0 b2_1 b2_2 b3_0 b3_1 b3_2 hS8
    have b0_0 := hS9.bcell 0 rfl 0 rfl
    have b0_1 := hS9.bcell 0 rfl 1 rfl
    have b0_2 := hS9.bcell 0 rfl 2 rfl
    have b1_0 := hS9.bcell 1 rfl 0 rfl
    have b1_1 := hS9.bcell 1 rfl 1 rfl
    have b1_2 := hS9.bcell 1 rfl 2 rfl
    have b2_0 := hS9.bcell 2 rfl 0 rfl
    have b2_1 := hS9.bcell 2 rfl 1 rfl
    have b2_2 := hS9.bcell 2 rfl 2 rfl
    have b3_0 := hS9.bcell 3 rfl 0 rfl
    have b3_1 := hS9.bcell 3 rfl 1 rfl
    have b3_2 := hS9.bcell 3 rfl 2 rfl
    clear h10
    go_wp2_with fail
    refine (markArray_c l d _ us5 R 1 (by omega) (by omega) Hl5.out (hS9.perm (L' := own2 (.slice a5 us5.length c5) us5 R ++ (box 45 w5.heap.size [.int .i64 l, .int .i64 d, .slice a5 us5.length c5] :: box 45 w4.heap.size [.int .i64 lv, .int .i64 co, .slice a4 us4.length c4] :: box 45 w3.heap.size [.int .i64 l, .int .i64 d, .slice a3 us3.length c3] :: box 42 w.heap.size [.int .i64 lv, .int .i64 co, v] :: (own2 (.slice a4 us4.length c4) us4 (mrkL 1 xss) ++ own2 (.slice a3 us3.length c3) us3 R ++ []))) (by classical exact List.perm_iff_count.2 (fun a => by simp only [List.cons_append, List.nil_append, List.append_nil, List.count_append, List.count_cons, List.count_nil] <;> omega)))).mono ?_
    rintro e w11 ⟨rfl, hmw11⟩
    have hS10 : St w.heap.size w w11 (box 45 w5.heap.size [.int .i64 l, .int .i64 d, .slice a5 us5.length c5] :: box 45 w4.heap.size [.int .i64 lv, .int .i64 co, .slice a4 us4.length c4] :: box 45 w3.heap.size [.int .i64 l, .int .i64 d, .slice a3 us3.length c3] :: box 42 w.heap.size [.int .i64 lv, .int .i64 co, v] :: (own2 (.slice a5 us5.length c5) us5 (mrkL 1 R) ++ own2 (.slice a4 us4.length c4) us4 (mrkL 1 xss) ++ own2 (.slice a3 us3.length c3) us3 R ++ [])) := (hmw11).perm (by classical exact List.perm_iff_count.2 (fun a => by simp only [List.cons_append, List.nil_append, List.append_nil, List.count_append, List.count_cons, List.count_nil] <;> omega))
    clear b0_0 b0_1 b0_2 b1_0 b1_1 b1_2 b2_0 b2_1 b2_2 b3_0 b3_1 b3_2 hS9
    have b0_0 := hS10.bcell 0 rfl 0 rfl
    have b0_1 := hS10.bcell 0 rfl 1 rfl
    have b0_2 := hS10.bcell 0 rfl 2 rfl
    have b1_0 := hS10.bcell 1 rfl 0 rfl
    have b1_1 := hS10.bcell 1 rfl 1 rfl
    have b1_2 := hS10.bcell 1 rfl 2 rfl
    have b2_0 := hS10.bcell 2 rfl 0 rfl
    have b2_1 := hS10.bcell 2 rfl 1 rfl
    have b2_2 := hS10.bcell 2 rfl 2 rfl
    have b3_0 := hS10.bcell 3 rfl 0 rfl
    have b3_1 := hS10.bcell 3 rfl 1 rfl
    have b3_2 := hS10.bcell 3 rfl 2 rfl
    clear hmw11
    go_wp2_with fail
    refine (heldArray_c l d _ us5 R 1 _ (by omega) (by omega) (rii2 (hS10.perm (L' := own2 (.slice a5 us5.length c5) us5 (mrkL 1 R) ++ (box 45 w5.heap.size [.int .i64 l, .int .i64 d, .slice a5 us5.length c5] :: box 45 w4.heap.size [.int .i64 lv, .int .i64 co, .slice a4 us4.length c4] :: box 45 w3.heap.size [.int .i64 l, .int .i64 d, .slice a3 us3.length c3] :: box 42 w.heap.size [.int .i64 lv, .int .i64 co, v] :: (own2 (.slice a4 us4.length c4) us4 (mrkL 1 xss) ++ own2 (.slice a3 us3.length c3) us3 R ++ []))) (by classical exact List.perm_iff_count.2 (fun a => by simp only [List.cons_append, List.nil_append, List.append_nil, List.count_append, List.count_cons, List.count_nil] <;> omega))) (by rw [mrkL_len]; exact Hl5.out))).mono ?_
    rintro e w12 ⟨rfl, h12⟩
    have hS11 : St w.heap.size w w12 (box 45 w5.heap.size [.int .i64 l, .int .i64 d, .slice a5 us5.length c5] :: box 45 w4.heap.size [.int .i64 lv, .int .i64 co, .slice a4 us4.length c4] :: box 45 w3.heap.size [.int .i64 l, .int .i64 d, .slice a3 us3.length c3] :: box 42 w.heap.size [.int .i64 lv, .int .i64 co, v] :: (own2 (.slice a5 us5.length c5) us5 (mrkL 1 R) ++ own2 (.slice a4 us4.length c4) us4 (mrkL 1 xss) ++ own2 (.slice a3 us3.length c3) us3 R ++ [])) := (hS10.call0 h12).perm (by classical exact List.perm_iff_count.2 (fun a => by simp only [List.cons_append, List.nil_append, List.append_nil, List.count_append, List.count_cons, List.count_nil] <;> omega))
    clear b0_0 b0_1 b0_2 b1_0 b1_1 b1_2 b2_0 b2_1 b2_2 b3_0 b3_1 b3_2 hS10
    have b0_0 := hS11.bcell 0 rfl 0 rfl
    have b0_1 := hS11.bcell 0 rfl 1 rfl
    have b0_2 := hS11.bcell 0 rfl 2 rfl
    have b1_0 := hS11.bcell 1 rfl 0 rfl
    have b1_1 := hS11.bcell 1 rfl 1 rfl
    have b1_2 := hS11.bcell 1 rfl 2 rfl
    have b2_0 := hS11.bcell 2 rfl 0 rfl
    have b2_1 := hS11.bcell 2 rfl 1 rfl
    have b2_2 := hS11.bcell 2 rfl 2 rfl
    have b3_0 := hS11.bcell 3 rfl 0 rfl
    have b3_1 := hS11.bcell 3 rfl 1 rfl
    have b3_2 := hS11.bcell 3 rfl 2 rfl
    clear h12
    go_wp2_with fail
    refine (toArray_c lv co v us xss _ (hS11.oldII hv) Hz1.out Hz2.out).mono ?_
    rintro e w13 ⟨v13, us13, rfl, hl13, h13⟩
    have hr13 := h13.rii hl13
    have hS12 : St w.heap.size w w13 (box 45 w5.heap.size [.int .i64 l, .int .i64 d, .slice a5 us5.length c5] :: box 45 w4.heap.size [.int .i64 lv, .int .i64 co, .slice a4 us4.length c4] :: box 45 w3.heap.size [.int .i64 l, .int .i64 d, .slice a3 us3.length c3] :: box 42 w.heap.size [.int .i64 lv, .int .i64 co, v] :: (own2 (.slice a5 us5.length c5) us5 (mrkL 1 R) ++ own2 (.slice a4 us4.length c4) us4 (mrkL 1 xss) ++ own2 (.slice a3 us3.length c3) us3 R ++ [])) := (hS11.call0 h13.out).perm (by classical exact List.perm_iff_count.2 (fun a => by simp only [List.cons_append, List.nil_append, List.append_nil, List.count_append, List.count_cons, List.count_nil] <;> omega))
    clear b0_0 b0_1 b0_2 b1_0 b1_1 b1_2 b2_0 b2_1 b2_2 b3_0 b3_1 b3_2 hS11
    have b0_0 := hS12.bcell 0 rfl 0 rfl
    have b0_1 := hS12.bcell 0 rfl 1 rfl
    have b0_2 := hS12.bcell 0 rfl 2 rfl
    have b1_0 := hS12.bcell 1 rfl 0 rfl
    have b1_1 := hS12.bcell 1 rfl 1 rfl
    have b1_2 := hS12.bcell 1 rfl 2 rfl
    have b2_0 := hS12.bcell 2 rfl 0 rfl
    have b2_1 := hS12.bcell 2 rfl 1 rfl
    have b2_2 := hS12.bcell 2 rfl 2 rfl
    have b3_0 := hS12.bcell 3 rfl 0 rfl
    have b3_1 := hS12.bcell 3 rfl 1 rfl
    have b3_2 := hS12.bcell 3 rfl 2 rfl
    clear h13 hl13
    go_wp2_with fail
    refine (Hi _ _ _ hr13).out.mono ?_
    rintro e w14 ⟨v14, us14, rfl, hl14, h14⟩
    have Hl14 := Lib.hid hl14
    obtain ⟨a14, c14, rfl⟩ := (h14.rii hl14).1.sl.sh
    have hS13 : St w.heap.size w _ (box 45 w14.heap.size [.int .i64 l, .int .i64 d, .slice a14 us14.length c14] :: box 45 w5.heap.size [.int .i64 l, .int .i64 d, .slice a5 us5.length c5] :: box 45 w4.heap.size [.int .i64 lv, .int .i64 co, .slice a4 us4.length c4] :: box 45 w3.heap.size [.int .i64 l, .int .i64 d, .slice a3 us3.length c3] :: box 42 w.heap.size [.int .i64 lv, .int .i64 co, v] :: (own2 (.slice a14 us14.length c14) us14 R ++ own2 (.slice a5 us5.length c5) us5 (mrkL 1 R) ++ own2 (.slice a4 us4.length c4) us4 (mrkL 1 xss) ++ own2 (.slice a3 us3.length c3) us3 R ++ [])) := ((hS12.call h14).newboxF 45 #[.int .i64 l, .int .i64 d, .slice a14 us14.length c14]).perm (by classical exact List.perm_iff_count.2 (fun a => by simp only [List.cons_append, List.nil_append, List.append_nil, List.count_append, List.count_cons, List.count_nil] <;> omega))
    clear b0_0 b0_1 b0_2 b1_0 b1_1 b1_2 b2_0 b2_1 b2_2 b3_0 b3_1 b3_2 hS12
    have b0_0 := hS13.bcell 0 rfl 0 rfl
    have b0_1 := hS13.bcell 0 rfl 1 rfl
    have b0_2 := hS13.bcell 0 rfl 2 rfl
    have b1_0 := hS13.bcell 1 rfl 0 rfl
    have b1_1 := hS13.bcell 1 rfl 1 rfl
    have b1_2 := hS13.bcell 1 rfl 2 rfl
    have b2_0 := hS13.bcell 2 rfl 0 rfl
    have b2_1 := hS13.bcell 2 rfl 1 rfl
    have b2_2 := hS13.bcell 2 rfl 2 rfl
    have b3_0 := hS13.bcell 3 rfl 0 rfl
    have b3_1 := hS13.bcell 3 rfl 1 rfl
    have b3_2 := hS13.bcell 3 rfl 2 rfl
    have b4_0 := hS13.bcell 4 rfl 0 rfl
    have b4_1 := hS13.bcell 4 rfl 1 rfl
    have b4_2 := hS13.bcell 4 rfl 2 rfl
    clear h14 hl14 hr13
    unfold av
    go_wp2_with fail
    refine (eqArray_c l d l d _ _ us14 us3 R R _ (rii2 (hS13.perm (L' := own2 (.slice a14 us14.length c14) us14 R ++ (box 45 w14.heap.size [.int .i64 l, .int .i64 d, .slice a14 us14.length c14] :: box 45 w5.heap.size [.int .i64 l, .int .i64 d, .slice a5 us5.length c5] :: box 45 w4.heap.size [.int .i64 lv, .int .i64 co, .slice a4 us4.length c4] :: box 45 w3.heap.size [.int .i64 l, .int .i64 d, .slice a3 us3.length c3] :: box 42 w.heap.size [.int .i64 lv, .int .i64 co, v] :: (own2 (.slice a5 us5.length c5) us5 (mrkL 1 R) ++ own2 (.slice a4 us4.length c4) us4 (mrkL 1 xss) ++ own2 (.slice a3 us3.length c3) us3 R ++ []))) (by classical exact List.perm_iff_count.2 (fun a => by simp only [List.cons_append, List.nil_append, List.append_nil, List.count_append, List.count_cons, List.count_nil] <;> omega))) Hl14.out) (rii2 (hS13.perm (L' := own2 (.slice a3 us3.length c3) us3 R ++ (box 45 w14.heap.size [.int .i64 l, .int .i64 d, .slice a14 us14.length c14] :: box 45 w5.heap.size [.int .i64 l, .int .i64 d, .slice a5 us5.length c5] :: box 45 w4.heap.size [.int .i64 lv, .int .i64 co, .slice a4 us4.length c4] :: box 45 w3.heap.size [.int .i64 l, .int .i64 d, .slice a3 us3.length c3] :: box 42 w.heap.size [.int .i64 lv, .int .i64 co, v] :: (own2 (.slice a14 us14.length c14) us14 R ++ own2 (.slice a5 us5.length c5) us5 (mrkL 1 R) ++ own2 (.slice a4 us4.length c4) us4 (mrkL 1 xss) ++ []))) (by classical exact List.perm_iff_count.2 (fun a => by simp only [List.cons_append, List.nil_append, List.append_nil, List.count_append, List.count_cons, List.count_nil] <;> omega))) Hl3.out)).mono ?_
    rw [HeA.out]
    rintro e w15 ⟨rfl, h15⟩
    have hS14 : St w.heap.size w w15 (box 45 w14.heap.size [.int .i64 l, .int .i64 d, .slice a14 us14.length c14] :: box 45 w5.heap.size [.int .i64 l, .int .i64 d, .slice a5 us5.length c5] :: box 45 w4.heap.size [.int .i64 lv, .int .i64 co, .slice a4 us4.length c4] :: box 45 w3.heap.size [.int .i64 l, .int .i64 d, .slice a3 us3.length c3] :: box 42 w.heap.size [.int .i64 lv, .int .i64 co, v] :: (own2 (.slice a14 us14.length c14) us14 R ++ own2 (.slice a5 us5.length c5) us5 (mrkL 1 R) ++ own2 (.slice a4 us4.length c4) us4 (mrkL 1 xss) ++ own2 (.slice a3 us3.length c3) us3 R ++ [])) := (hS13.call0 h15).perm (by classical exact List.perm_iff_count.2 (fun a => by simp only [List.cons_append, List.nil_append, List.append_nil, List.count_append, List.count_cons, List.count_nil] <;> omega))
    clear b0_0 b0_1 b0_2 b1_0 b1_1 b1_2 b2_0 b2_1 b2_2 b3_0 b3_1 b3_2 b4_0 b4_1 b4_2 hS13
    have b0_0 := hS14.bcell 0 rfl 0 rfl
    have b0_1 := hS14.bcell 0 rfl 1 rfl
    have b0_2 := hS14.bcell 0 rfl 2 rfl
    have b1_0 := hS14.bcell 1 rfl 0 rfl
    have b1_1 := hS14.bcell 1 rfl 1 rfl
    have b1_2 := hS14.bcell 1 rfl 2 rfl
    have b2_0 := hS14.bcell 2 rfl 0 rfl
    have b2_1 := hS14.bcell 2 rfl 1 rfl
    have b2_2 := hS14.bcell 2 rfl 2 rfl
    have b3_0 := hS14.bcell 3 rfl 0 rfl
    have b3_1 := hS14.bcell 3 rfl 1 rfl
    have b3_2 := hS14.bcell 3 rfl 2 rfl
    have b4_0 := hS14.bcell 4 rfl 0 rfl
    have b4_1 := hS14.bcell 4 rfl 1 rfl
    have b4_2 := hS14.bcell 4 rfl 2 rfl
    clear h15
    go_wp2_with fail
    refine (heldArray_c l d _ us5 R 1 _ (by omega) (by omega) (rii2 (hS14.perm (L' := own2 (.slice a5 us5.length c5) us5 (mrkL 1 R) ++ (box 45 w14.heap.size [.int .i64 l, .int .i64 d, .slice a14 us14.length c14] :: box 45 w5.heap.size [.int .i64 l, .int .i64 d, .slice a5 us5.length c5] :: box 45 w4.heap.size [.int .i64 lv, .int .i64 co, .slice a4 us4.length c4] :: box 45 w3.heap.size [.int .i64 l, .int .i64 d, .slice a3 us3.length c3] :: box 42 w.heap.size [.int .i64 lv, .int .i64 co, v] :: (own2 (.slice a14 us14.length c14) us14 R ++ own2 (.slice a4 us4.length c4) us4 (mrkL 1 xss) ++ own2 (.slice a3 us3.length c3) us3 R ++ []))) (by classical exact List.perm_iff_count.2 (fun a => by simp only [List.cons_append, List.nil_append, List.append_nil, List.count_append, List.count_cons, List.count_nil] <;> omega))) (by rw [mrkL_len]; exact Hl5.out))).mono ?_
    rintro e w16 ⟨rfl, h16⟩
    have hS15 : St w.heap.size w w16 (box 45 w14.heap.size [.int .i64 l, .int .i64 d, .slice a14 us14.length c14] :: box 45 w5.heap.size [.int .i64 l, .int .i64 d, .slice a5 us5.length c5] :: box 45 w4.heap.size [.int .i64 lv, .int .i64 co, .slice a4 us4.length c4] :: box 45 w3.heap.size [.int .i64 l, .int .i64 d, .slice a3 us3.length c3] :: box 42 w.heap.size [.int .i64 lv, .int .i64 co, v] :: (own2 (.slice a14 us14.length c14) us14 R ++ own2 (.slice a5 us5.length c5) us5 (mrkL 1 R) ++ own2 (.slice a4 us4.length c4) us4 (mrkL 1 xss) ++ own2 (.slice a3 us3.length c3) us3 R ++ [])) := (hS14.call0 h16).perm (by classical exact List.perm_iff_count.2 (fun a => by simp only [List.cons_append, List.nil_append, List.append_nil, List.count_append, List.count_cons, List.count_nil] <;> omega))
    clear b0_0 b0_1 b0_2 b1_0 b1_1 b1_2 b2_0 b2_1 b2_2 b3_0 b3_1 b3_2 b4_0 b4_1 b4_2 hS14
    have b0_0 := hS15.bcell 0 rfl 0 rfl
    have b0_1 := hS15.bcell 0 rfl 1 rfl
    have b0_2 := hS15.bcell 0 rfl 2 rfl
    have b1_0 := hS15.bcell 1 rfl 0 rfl
    have b1_1 := hS15.bcell 1 rfl 1 rfl
    have b1_2 := hS15.bcell 1 rfl 2 rfl
    have b2_0 := hS15.bcell 2 rfl 0 rfl
    have b2_1 := hS15.bcell 2 rfl 1 rfl
    have b2_2 := hS15.bcell 2 rfl 2 rfl
    have b3_0 := hS15.bcell 3 rfl 0 rfl
    have b3_1 := hS15.bcell 3 rfl 1 rfl
    have b3_2 := hS15.bcell 3 rfl 2 rfl
    have b4_0 := hS15.bcell 4 rfl 0 rfl
    have b4_1 := hS15.bcell 4 rfl 1 rfl
    have b4_2 := hS15.bcell 4 rfl 2 rfl
    clear h16
    go_wp2_with fail
    go_ret
    exact ⟨rfl, hS15.out⟩
end Go.Proofs.Ytonmggppfopidaa
