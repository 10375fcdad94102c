/- Arguments that are slices of slices of slices of integers. -/
import Derived.Test.YtpfgbbbjldpnnaaPrf3
import Derived.Test.YtpfgbbbjldpnnaaSss
import Derived.Deep.Slices
namespace Go.Proofs.Ytpfgbbbjldpnnaa
set_option linter.unusedSimpArgs false
set_option linter.unusedVariables false
open Go.ChangeShapes Go.WideShapes Go.ChangeAt Go.RowKit Go.Deep
section
variable {H : Type} {enc : TypeId × Value → H} {w : World} {base : Nat} {held : Bool}
theorem open_iii {t3 t e q : TypeId} {fuel : Nat} {v : Value} {x : DataW H × List MemPlace} (h3 : Try.prog.underlying t3 = some (.slice t)) (ht : Try.prog.underlying t = some (.slice e)) (he : Try.prog.underlying e = some (.slice q)) (hq : Try.prog.underlying q = some (.int .i64))
    (ct : Try.prog.cellsOf t = 1) (ce : Try.prog.cellsOf e = 1) (cq : Try.prog.cellsOf q = 1) (h : DataW.trod enc Try.prog w base (fun _ => true) held fuel t3 [v] = some x) : ∃ vs uss X, RIII w v vs uss X := by
  rcases open_slice1 h3 ct h with ⟨hcs, _⟩ | ⟨a, len, cap, m, n, V, D, Pl, hcs, _, hl, hm, hmm, _, hx⟩
  · obtain rfl : v = .slice none 0 0 := by simpa using hcs
    exact ⟨[], [], [], ⟨Rd.nil w, rfl, fun j hj => by cases hj⟩⟩
  · obtain rfl : v = .slice (some a) len cap := by simpa using hcs
    simp only [if_true] at hmm
    subst hmm
    have each : ∀ i, i < len → ∃ y : List Value × List (List Int), RII w (V i) y.1 y.2 := fun i hi => by
      obtain ⟨us, xss, hr, _⟩ := open_ii ht he hq ce cq (hx i (by omega)).2
      exact ⟨(us, xss), hr⟩
    obtain ⟨y, hy⟩ := choose_lt each
    refine ⟨(List.range len).map V, (List.range len).map fun i => (y i).1, (List.range len).map fun i => (y i).2, ⟨⟨some a, m, by simp, by simpa using hl, hm, .inr (by simp)⟩, ?_⟩, by simp, ?_⟩
    · intro i u hu
      have hi : i < len := by have := (List.getElem?_eq_some_iff.1 hu).1; simpa using this
      simp [hi] at hu
      rw [← hu]; exact (hx i (by omega)).1
    · intro j hj
      have hj' : j < len := by simpa using hj
      have e1 : vat ((List.range len).map V) j = V j := by simp [vat, hj']
      have e2 : vsat ((List.range len).map fun i => (y i).1) j = (y j).1 := by simp [vsat, hj']
      have e3 : x3at ((List.range len).map fun i => (y i).2) j = (y j).2 := by simp [x3at, hj']
      rw [e1, e2, e3]
      exact hy j hj'
end
end Go.Proofs.Ytpfgbbbjldpnnaa
