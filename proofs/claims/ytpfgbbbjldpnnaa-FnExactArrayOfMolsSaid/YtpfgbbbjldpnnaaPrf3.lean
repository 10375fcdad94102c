/- How slices that come in read. -/
import Derived.Test.YtpfgbbbjldpnnaaPrf
import Derived.Test.YtpfgbbbjldpnnaaII
import Derived.ProofKit
import Derived.OpenShut
import Derived.ChangeArms
import Derived.Deep.Matrix
import Derived.Lib.SmallJoins
namespace Go.Proofs.Ytpfgbbbjldpnnaa
set_option linter.unusedSimpArgs false
set_option linter.unusedVariables false
open Go.RowKit Go.ChangeShapes Go.WideShapes Go.Deep Go.Joins

section
variable {H : Type} {enc : TypeId × Value → H} {w : World} {base : Nat} {held : Bool}

/-- all numbers fit -/
def wfI (xs : List Int) : Prop := ∀ x ∈ xs, (Lit.int .i64 x).wf = true
def wfII (xss : List (List Int)) : Prop := ∀ xs ∈ xss, wfI xs

theorem isRow_rdI {a : Option Addr} {len cap : Nat} {zs : List Int} (h : IsRow .i64 w a len cap zs) : RdI w (.slice a len cap) (zs.take len) := h.rd

theorem open_i {t q : TypeId} {fuel : Nat} {v : Value} {x : DataW H × List MemPlace} (ht : Try.prog.underlying t = some (.slice q)) (hq : Try.prog.underlying q = some (.int .i64)) (cq : Try.prog.cellsOf q = 1)
    (h : DataW.trod enc Try.prog w base (fun _ => true) held fuel t [v] = some x) : ∃ xs, RdI w v xs ∧ wfI xs := by
  rcases open_ints ht hq cq h with ⟨hcs, _⟩ | ⟨a, l, c, zs, hcs, _, hl, hm, hz, _, hcell, hwz⟩
  · obtain rfl : v = .slice none 0 0 := by simpa using hcs
    exact ⟨[], RdI.nil w, by intro x hx; cases hx⟩
  · obtain rfl : v = .slice (some a) l c := by simpa using hcs
    exact ⟨zs.take l, isRow_rdI (.inr ⟨a, rfl, hl, hm, by simpa using hz, hcell, hwz⟩), fun x hx => hwz x (List.mem_of_mem_take hx)⟩

theorem open_ii {t e q : TypeId} {fuel : Nat} {v : Value} {x : DataW H × List MemPlace} (ht : Try.prog.underlying t = some (.slice e)) (he : Try.prog.underlying e = some (.slice q)) (hq : Try.prog.underlying q = some (.int .i64))
    (ce : Try.prog.cellsOf e = 1) (cq : Try.prog.cellsOf q = 1) (h : DataW.trod enc Try.prog w base (fun _ => true) held fuel t [v] = some x) : ∃ us xss, RII w v us xss ∧ wfII xss := by
  rcases open_int_rows ht he hq ce cq h with ⟨hcs, _⟩ | ⟨a, len, cap, A, L, C, Z, hcs, _, hl, hm, _, hr⟩
  · obtain rfl : v = .slice none 0 0 := by simpa using hcs
    exact ⟨[], [], ⟨Rd.nil w, rfl, fun j hj => by cases hj⟩, by intro x hx; cases hx⟩
  · obtain rfl : v = .slice (some a) len cap := by simpa using hcs
    refine ⟨(List.range len).map fun r => .slice (A r) (L r) (C r), (List.range len).map fun r => (Z r).take (L r), ⟨⟨⟨some a, cap, by simp, by simpa using hl, hm, .inr (by simp)⟩, ?_⟩, by simp, ?_⟩, ?_⟩
    · intro i u hu
      have hi : i < len := by have := (List.getElem?_eq_some_iff.1 hu).1; simpa using this
      have h1 := (hr i (by omega)).1
      simp [hi] at hu
      rw [← hu]; exact h1
    · intro j hj
      have hj' : j < len := by simpa using hj
      obtain ⟨_, h2, h3, h4, h5, h6, h7⟩ := hr j (by omega)
      have e1 : vat ((List.range len).map fun r => Value.slice (A r) (L r) (C r)) j = .slice (A j) (L j) (C j) := by simp [vat, hj']
      have e2 : xat ((List.range len).map fun r => (Z r).take (L r)) j = (Z j).take (L j) := by simp [xat, hj']
      rw [e1, e2]
      refine isRow_rdI ?_
      cases hA : A j with
      | none =>
        have := h6 hA
        exact .inl ⟨rfl, by omega, this, List.eq_nil_of_length_eq_zero (by omega)⟩
      | some a' => exact .inr ⟨a', rfl, h2, h3, h4, fun i hi => (h7 a' hA).2 i (by omega), h5⟩
    · intro xs hx
      obtain ⟨j, hj, rfl⟩ := List.mem_map.1 hx
      have hj' : j < len := by simpa using hj
      obtain ⟨_, _, _, _, h5, _⟩ := hr j (by omega)
      exact fun x hx => h5 x (List.mem_of_mem_take hx)

end
end Go.Proofs.Ytpfgbbbjldpnnaa
