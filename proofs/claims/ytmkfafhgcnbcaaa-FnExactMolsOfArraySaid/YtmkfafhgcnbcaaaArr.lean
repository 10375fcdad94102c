/- Walks: arrays by value. -/
import Derived.Test.YtmkfafhgcnbcaaaEx
import Derived.Test.YtmkfafhgcnbcaaaIn
namespace Go.Proofs.Ytmkfafhgcnbcaaa
set_option linter.unusedSimpArgs false
set_option linter.unusedVariables false
open Go.RowKit

/-- an array as a value -/
def av (lv co : Int) (v : Value) : Value := .agg #[.int .i64 lv, .int .i64 co, v]

theorem szL_neg : ∀ {left : Int} {xss : List (List Int)}, 0 ≤ left → szL left xss < 0 → szL left xss = -1
  | left, [], h, h' => by simp only [szL] at h'; omega
  | left, x :: r, h, h' => by
    unfold szL at h' ⊢
    split
    · rfl
    · rename_i hn
      rw [if_neg hn] at h'
      exact szL_neg (by omega) h'
theorem szII_neg {left : Int} {xss : List (List Int)} (h : szII left xss < 0) : szII left xss = -1 := by
  unfold szII at h ⊢
  split
  · rfl
  · rename_i hn
    rw [if_neg hn] at h
    exact szL_neg (by omega) h

theorem szArray_c (lv co : Int) (v : Value) (us : List Value) (xss : List (List Int)) (left : Int) (w : World) (hv : RII w v us xss) (hl : 0 ≤ left ∧ left ≤ 1048576) :
    Calls Try.prog 56 #[av lv co v, .int .i64 left] w (GivesI w (szII left xss)) := by
  unfold av
  have hS1 := (St.refl w).newbox 57 #[.int .i64 lv, .int .i64 co, v]
  go_enter Try.func56, Try.ntmps56
  go_wp2_with fail
  refine (szInt64SS_c v us xss _ _ (hS1.oldII hv) hl).mono ?_
  rintro e w1 ⟨rfl, rfl⟩
  by_cases h : szII left xss < 0
  · have H := Lib.hid (szII_neg h)
    go_wp2_with fail
    go_ret
    exact ⟨ret_i64 H.out.symm, hS1.out⟩
  · go_wp2_with fail
    go_ret
    exact ⟨rfl, hS1.out⟩

set_option maxHeartbeats 1000000 in
set_option maxRecDepth 100000 in
theorem toArray_c (lv co : Int) (v : Value) (us : List Value) (xss : List (List Int)) (w : World) (hv : RII w v us xss) (hN : xss.length ≤ 1048576) (hNN : ∀ xs ∈ xss, xs.length ≤ 1048576) :
    Calls Try.prog 58 #[av lv co v] w fun e w' => ∃ v' us', e = .returned (av lv co v') ∧ us'.length = xss.length ∧ St w.heap.size w w' (own2 v' us' xss) := by
  have HNN := Lib.hid hNN
  clear hNN
  have hS1 := (((St.refl w).newbox 57 #[.int .i64 lv, .int .i64 co, v]).newbox 51 #[.int .i64 0, .int .i64 0, .slice none 0 0]).newbox 51 #[.int .i64 lv, .int .i64 co, .slice none 0 0]
  unfold av
  go_enter Try.func58, Try.ntmps58
  go_wp2_with fail
  refine (toInt64SS_c v us xss _ (hS1.oldII hv) hN HNN.out).mono ?_
  rintro e w1 ⟨v1, us1, rfl, hl1, h1⟩
  have Hl1 := Lib.hid hl1
  clear hl1
  have hsl := (h1.rii Hl1.out).1.sl
  obtain ⟨a1, c1, rfl⟩ := hsl.sh
  have hS2 := hS1.call h1
  clear hS1 h1 hsl
  simp only [List.nil_append, List.cons_append, World.size_alloc] at hS2
  have b0 := hS2.bcell 2 rfl 0 rfl
  have b1 := hS2.bcell 2 rfl 1 rfl
  have b2 := hS2.bcell 2 rfl 2 rfl
  have d0 := hS2.bcell 1 rfl 0 rfl
  have d1 := hS2.bcell 1 rfl 1 rfl
  have d2 := hS2.bcell 1 rfl 2 rfl
  have f2 := hS2.bfree 2 rfl
  have f1 := hS2.bfree 1 rfl
  go_wp2_with fail
  refine bodyPost_ret (v := .agg #[.int .i64 lv, .int .i64 co, .slice a1 us1.length c1]) (by simp [results, Try.results58, go_sem, b0, b1, b2, d0, d1, d2]) rfl ⟨_, us1, rfl, Hl1.out, ?_⟩
  exact ((((hS2.bstore 2 rfl 2 _).bstore 1 rfl 0 _).bstore 1 rfl 1 _).bstore 1 rfl 2 _).sub ((((List.Sublist.refl _).cons _).cons _).cons _)
end Go.Proofs.Ytmkfafhgcnbcaaa
