/- Walks: fields by value: the helpers of the exact laws. -/
import Derived.Test.YtpfgbbbjldpnnaaEx
import Derived.Test.YtpfgbbbjldpnnaaReg
import Derived.Test.YtpfgbbbjldpnnaaMrk
namespace Go.Proofs.Ytpfgbbbjldpnnaa
set_option linter.unusedSimpArgs false
set_option linter.unusedVariables false
open Go.RowKit

/-- a field as a value -/
def fv (p d : Int) (v : Value) : Value := .agg #[.int .i64 p, .int .i64 d, v]
theorem RdI.shp' {w : World} {v : Value} {xs : List Int} (h : RdI w v xs) : ∃ a c, v = .slice a xs.length c := by
  obtain ⟨a, c, hv⟩ := h.sl.sh
  rw [iv_len] at hv
  exact ⟨a, c, hv⟩

theorem RII.shp' {w : World} {v : Value} {us : List Value} {xss : List (List Int)} (h : RII w v us xss) : ∃ a c, v = .slice a xss.length c := by
  obtain ⟨a, c, hv⟩ := h.1.sl.sh
  rw [h.2.1] at hv
  exact ⟨a, c, hv⟩
theorem szI_neg {left : Int} {xs : List Int} (h : szI left xs < 0) : szI left xs = -1 := by
  unfold szI at h ⊢
  split
  · rfl
  · rename_i hn; rw [if_neg hn] at h; omega
theorem szI_top2 {left : Int} {xs : List Int} (h : 0 ≤ szI left xs) : (xs.length : Int) + szI left xs = left := by
  unfold szI at h ⊢
  split at h
  · omega
  · rename_i hn; rw [if_neg hn]; omega

/-- it hands over a field of its own -/
def MakesF (w : World) (p d : Int) (xs : List Int) (e : Ending) (w' : World) : Prop := ∃ v, e = .returned (fv p d v) ∧ St w.heap.size w w' [row 2 v (iv xs)]

def eqF (p d p' d' : Int) (xs ys : List Int) : Bool := decide (p = p' ∧ d = d' ∧ xs = ys)
theorem markL_c {B : Nat} {w0 w : World} {L : List Ent} (v : Value) (xs : List Int) (k : Int) (h0 : 0 ≤ k) (h1 : k + xs.length ≤ 4611686018427387904) (hS : St B w0 w ([row 2 v (iv xs)] ++ L)) :
    Calls Try.prog 122 #[v, .int .i64 k] w fun e w' => e = .returned (.int .i64 (k + xs.length)) ∧ St B w0 w' ([row 2 v (iv (mrk k xs.length))] ++ L) :=
  markInt64S_c v xs k h0 h1 hS 0 rfl
end Go.Proofs.Ytpfgbbbjldpnnaa
