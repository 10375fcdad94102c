/- Walks: fields by value: the helpers of the exact laws. -/
import Derived.Test.YtmkfafhgcnbcaaaEx
import Derived.Test.YtmkfafhgcnbcaaaReg
import Derived.Test.YtmkfafhgcnbcaaaMrk
namespace Go.Proofs.Ytmkfafhgcnbcaaa
set_option linter.unusedSimpArgs false
set_option linter.unusedVariables false
open Go.RowKit

/-- a field as a value -/
def fv (p d : Int) (v : Value) : Value := .agg #[.int .i64 p, .int .i64 d, v]
theorem RdI.shp' {w : World} {v : Value} {xs : List Int} (h : RdI w v xs) : ∃ a c, v = .slice a xs.length c := by
  obtain ⟨a, c, hv⟩ := h.sl.sh
  rw [iv_len] at hv
  exact ⟨a, c, hv⟩

theorem RII.shp' {w : World} {v : Value} {us : List Value} {xss : List (List Int)} (h : RII w v us xss) : ∃ a c, v = .slice a xss.length c := by
  obtain ⟨a, c, hv⟩ := h.1.sl.sh
  rw [h.2.1] at hv
  exact ⟨a, c, hv⟩
theorem szI_neg {left : Int} {xs : List Int} (h : szI left xs < 0) : szI left xs = -1 := by
  unfold szI at h ⊢
  split
  · rfl
  · rename_i hn; rw [if_neg hn] at h; omega
theorem szI_top2 {left : Int} {xs : List Int} (h : 0 ≤ szI left xs) : (xs.length : Int) + szI left xs = left := by
  unfold szI at h ⊢
  split at h
  · omega
  · rename_i hn; rw [if_neg hn]; omega

theorem szField_c (p d : Int) (v : Value) (xs : List Int) (left : Int) (w : World) (hv : RdI w v xs) (hl : 0 ≤ left ∧ left ≤ 1048576) :
    Calls Try.prog 16 #[fv p d v, .int .i64 left] w (GivesI w (szI left xs)) := by
  unfold fv
  have hS1 := (St.refl w).newbox 24 #[.int .i64 p, .int .i64 d, v]
  go_enter Try.func16, Try.ntmps16
  go_wp2_with fail
  refine (szInt64S_c v xs _ _ (hS1.oldI hv) hl).mono ?_
  rintro e w1 ⟨rfl, rfl⟩
  by_cases h : szI left xs < 0
  · have H := Lib.hid (szI_neg h)
    go_wp2_with fail
    go_ret
    exact ⟨ret_i64 H.out.symm, hS1.out⟩
  · go_wp2_with fail
    go_ret
    exact ⟨rfl, hS1.out⟩

/-- it hands over a field of its own -/
def MakesF (w : World) (p d : Int) (xs : List Int) (e : Ending) (w' : World) : Prop := ∃ v, e = .returned (fv p d v) ∧ St w.heap.size w w' [row 2 v (iv xs)]

set_option maxHeartbeats 1000000 in
set_option maxRecDepth 100000 in
theorem toField_c (p d : Int) (v : Value) (xs : List Int) (w : World) (hv : RdI w v xs) (hN : xs.length ≤ 1048576) :
    Calls Try.prog 19 #[fv p d v] w (MakesF w p d xs) := by
  have hS1 := (((St.refl w).newbox 24 #[.int .i64 p, .int .i64 d, v]).newbox 29 #[.int .i64 0, .int .i64 0, .slice none 0 0]).newbox 29 #[.int .i64 p, .int .i64 d, .slice none 0 0]
  unfold fv
  go_enter Try.func19, Try.ntmps19
  go_wp2_with fail
  refine (toInt64S_c v xs _ (hS1.oldI hv) hN).mono ?_
  rintro e w1 ⟨v1, rfl, h1⟩
  obtain ⟨a1, c1, rfl⟩ := (h1.rdI 0 rfl).shp'
  have hS2 := hS1.call h1
  clear hS1 h1
  simp only [List.nil_append, List.cons_append, World.size_alloc] at hS2
  have b0 := hS2.bcell 2 rfl 0 rfl
  have b1 := hS2.bcell 2 rfl 1 rfl
  have b2 := hS2.bcell 2 rfl 2 rfl
  have d0 := hS2.bcell 1 rfl 0 rfl
  have d1 := hS2.bcell 1 rfl 1 rfl
  have d2 := hS2.bcell 1 rfl 2 rfl
  have f2 := hS2.bfree 2 rfl
  have f1 := hS2.bfree 1 rfl
  go_wp2_with fail
  refine bodyPost_ret (v := .agg #[.int .i64 p, .int .i64 d, .slice a1 xs.length c1]) (by simp [results, Try.results19, go_sem, b0, b1, b2, d0, d1, d2]) rfl ⟨_, rfl, ?_⟩
  exact ((((hS2.bstore 2 rfl 2 _).bstore 1 rfl 0 _).bstore 1 rfl 1 _).bstore 1 rfl 2 _).sub ((((List.Sublist.refl _).cons _).cons _).cons _)

def eqF (p d p' d' : Int) (xs ys : List Int) : Bool := decide (p = p' ∧ d = d' ∧ xs = ys)
theorem eqField_c (p d p' d' : Int) (v v' : Value) (xs ys : List Int) (w : World) (hv : RdI w v xs) (hv' : RdI w v' ys) :
    Calls Try.prog 22 #[fv p d v, fv p' d' v'] w (GivesB w (eqF p d p' d' xs ys)) := by
  have hS1 := ((St.refl w).newbox 29 #[.int .i64 p, .int .i64 d, v]).newbox 29 #[.int .i64 p', .int .i64 d', v']
  unfold fv
  by_cases h1 : p = p'
  · have f1 := ne_f h1
    have H1 := Lib.hid h1; clear h1
    by_cases h2 : d = d'
    · have f2 := ne_f h2
      have H2 := Lib.hid h2; clear h2
      go_enter Try.func22, Try.ntmps22
      go_wp2_with fail
      refine (eqInt64S_c v v' xs ys _ (hS1.oldI hv) (hS1.oldI hv')).mono ?_
      by_cases h3 : xs = ys
      · have f3 : decide (xs = ys) = true := decide_eq_true h3
        have H3 := Lib.hid h3; clear h3
        rintro e w1 ⟨rfl, h⟩
        have hS2 := hS1.call0 (w' := w1) h
        go_wp2_with fail
        go_ret
        exact ⟨ret_bool (decide_eq_true ⟨H1.out, H2.out, H3.out⟩).symm, hS2.out⟩
      · have f3 : decide (xs = ys) = false := decide_eq_false h3
        have H3 := Lib.hid h3; clear h3
        rintro e w1 ⟨rfl, h⟩
        have hS2 := hS1.call0 (w' := w1) h
        go_wp2_with fail
        go_ret
        exact ⟨ret_bool (decide_eq_false (fun h => H3.out h.2.2)).symm, hS2.out⟩
    · have f2 := ne_t h2
      have H2 := Lib.hid h2; clear h2
      go_enter Try.func22, Try.ntmps22
      go_wp2_with fail
      go_ret
      exact ⟨ret_bool (decide_eq_false (fun h => H2.out h.2.1)).symm, hS1.out⟩
  · have f1 := ne_t h1
    have H1 := Lib.hid h1; clear h1
    go_enter Try.func22, Try.ntmps22
    go_wp2_with fail
    go_ret
    exact ⟨ret_bool (decide_eq_false (fun h => H1.out h.1)).symm, hS1.out⟩

theorem markField_c {B : Nat} {w0 w : World} {L : List Ent} (p d : Int) (v : Value) (xs : List Int) (k : Int) (h0 : 0 ≤ k) (h1 : k + xs.length ≤ 4611686018427387904) (hS : St B w0 w ([row 2 v (iv xs)] ++ L)) :
    Calls Try.prog 26 #[fv p d v, .int .i64 k] w fun e w' => e = .returned (.int .i64 (k + xs.length)) ∧ St B w0 w' ([row 2 v (iv (mrk k xs.length))] ++ L) := by
  have hcall := Lib.hid (markInt64S_c v xs k h0 h1 (hS.alloc' (.cells #[.int .i64 p, .int .i64 d, v] 29)) 0 rfl)
  clear h0 h1
  unfold fv
  go_enter Try.func26, Try.ntmps26
  go_wp2_with fail
  refine hcall.out.mono ?_
  rintro e w2 ⟨rfl, hS2⟩
  go_wp2_with fail
  go_ret
  exact ⟨rfl, hS2⟩
theorem markL_c {B : Nat} {w0 w : World} {L : List Ent} (v : Value) (xs : List Int) (k : Int) (h0 : 0 ≤ k) (h1 : k + xs.length ≤ 4611686018427387904) (hS : St B w0 w ([row 2 v (iv xs)] ++ L)) :
    Calls Try.prog 41 #[v, .int .i64 k] w fun e w' => e = .returned (.int .i64 (k + xs.length)) ∧ St B w0 w' ([row 2 v (iv (mrk k xs.length))] ++ L) :=
  markInt64S_c v xs k h0 h1 hS 0 rfl
end Go.Proofs.Ytmkfafhgcnbcaaa
