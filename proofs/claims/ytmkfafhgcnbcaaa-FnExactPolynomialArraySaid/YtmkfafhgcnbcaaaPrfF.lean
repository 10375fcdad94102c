/- How fields that come in read. -/
import Derived.Test.YtmkfafhgcnbcaaaPrf3
import Derived.Test.YtmkfafhgcnbcaaaFx
namespace Go.Proofs.Ytmkfafhgcnbcaaa
set_option linter.unusedSimpArgs false
set_option linter.unusedVariables false
open Go.RowKit Go.ChangeShapes Go.WideShapes Go.Deep Go.Joins

section
variable {H : Type} {enc : TypeId × Value → H} {w : World} {base : Nat} {held : Bool}

set_option maxRecDepth 100000 in
theorem open_fld {r : Reach} {b0 : Nat} {v : Value} {d : DataW H} {p : List MemPlace} (hv : Value.okWide Try.prog w r b0 24 v) (h : DataW.Trod enc Try.prog w base (fun _ => true) held 24 v d p) :
    ∃ pp dd v' xs, v = fv pp dd v' ∧ RdI w v' xs ∧ (Lit.int .i64 pp).wf = true ∧ (Lit.int .i64 dd).wf = true ∧ wfI xs := by
  obtain ⟨c0, c1, c2, y0, y1, y2, m, rfl, _, _, h0, h1, h2⟩ := open_agg3 Try.underlying24 (by kernel_rfl) (by kernel_rfl) hv h
  obtain ⟨pp, e0, _, w0⟩ := DataW.trod_int Try.underlying2 h0
  obtain ⟨dd, e1, _, w1⟩ := DataW.trod_int Try.underlying2 h1
  obtain rfl : c0 = .int .i64 pp := by simpa using e0
  obtain rfl : c1 = .int .i64 dd := by simpa using e1
  obtain ⟨xs, hr, hw⟩ := open_i Try.underlying22 Try.underlying2 (by kernel_rfl) h2
  exact ⟨pp, dd, c2, xs, rfl, hr, w0, w1, hw⟩
theorem wf_le {x : Int} (h : (Lit.int .i64 x).wf = true) : x ≤ 9223372036854775807 := by
  simp only [Lit.wf, Bool.and_eq_true, decide_eq_true_eq] at h
  have e : IntKind.max .i64 = 9223372036854775807 := by decide
  omega
end
end Go.Proofs.Ytmkfafhgcnbcaaa
