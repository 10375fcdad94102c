/- How arrays that come in read. -/
import Derived.Test.YtmkfafhgcnbcaaaPrf3
import Derived.Test.YtmkfafhgcnbcaaaArr
namespace Go.Proofs.Ytmkfafhgcnbcaaa
set_option linter.unusedSimpArgs false
set_option linter.unusedVariables false
open Go.RowKit Go.ChangeShapes Go.WideShapes Go.Deep Go.Joins

section
variable {H : Type} {enc : TypeId × Value → H} {w : World} {base : Nat} {held : Bool}

set_option maxRecDepth 100000 in
theorem open_arr {r : Reach} {b0 : Nat} {v : Value} {d : DataW H} {p : List MemPlace} (hv : Value.okWide Try.prog w r b0 57 v) (h : DataW.Trod enc Try.prog w base (fun _ => true) held 57 v d p) :
    ∃ lv co v' us xss, v = av lv co v' ∧ RII w v' us xss ∧ (Lit.int .i64 lv).wf = true ∧ (Lit.int .i64 co).wf = true ∧ wfII xss := by
  obtain ⟨c0, c1, c2, y0, y1, y2, m, rfl, _, _, h0, h1, h2⟩ := open_agg3 Try.underlying57 (by kernel_rfl) (by kernel_rfl) hv h
  obtain ⟨lv, e0, _, w0⟩ := DataW.trod_int Try.underlying2 h0
  obtain ⟨co, e1, _, w1⟩ := DataW.trod_int Try.underlying2 h1
  obtain rfl : c0 = .int .i64 lv := by simpa using e0
  obtain rfl : c1 = .int .i64 co := by simpa using e1
  obtain ⟨us, xss, hr, hw⟩ := open_ii Try.underlying25 Try.underlying22 Try.underlying2 (by kernel_rfl) (by kernel_rfl) h2
  exact ⟨lv, co, c2, us, xss, rfl, hr, w0, w1, hw⟩
end
end Go.Proofs.Ytmkfafhgcnbcaaa
