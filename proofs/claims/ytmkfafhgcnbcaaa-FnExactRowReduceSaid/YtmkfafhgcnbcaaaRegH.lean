/- A region that loads cells and writes them at its end: an operation taken first, by a chain of operations that wait for each other. -/
import Derived.Test.YtmkfafhgcnbcaaaRegG
namespace Go.Proofs.Ytmkfafhgcnbcaaa
set_option linter.unusedSimpArgs false
set_option linter.unusedVariables false
open Go.RowKit
section
variable {P : Program} {ops : Array Oper} {Q : Exit → Act → World → Prop} {md : Region.Mode} {S : World → Prop} {st : Nat}
theorem anyG_firstL {i : Nat} {oi : Oper} {v : Value} (ks : List Nat) (hi : ops[i]? = some oi) (hsel : ∀ (j : Nat) (o : Oper) cs b, ops[j]? = some o → o.op ≠ .select cs b)
    (hQ : ∀ c a w, Q (.panic c) (a.put oi.dst v) w → Q (.panic c) a w)
    (hks : ∀ k ∈ ks, k = i ∨ ∃ m ∈ i :: ks, ∃ o, ops[k]? = some o ∧ ∃ e ∈ o.after, Region.binds md e = true ∧ e.on = m) (hst : ∃ m ∈ i :: ks, ∃ o, ops[st]? = some o ∧ ∃ e ∈ o.after, Region.binds md e = true ∧ e.on = m) :
    ∀ (n : Nat) (listed : Array Bool) (a : Act) (w : World), (∀ k ∈ ks, listed.getD k true = false) → listed.getD st true = false →
      (∀ j oj, ops[j]? = some oj → j ≠ i → listed.getD j true = false → (∀ e ∈ oj.after, Region.binds md e = true → e.on ≠ i) → oi.apart ops oj = true) →
      i ∈ Region.ready md ops listed → YieldsIf P ops S oi v a → S w →
      anyG P md ops Q S st n (listed.setIfInBounds i true) (a.put oi.dst v) w → anyG P md ops Q S st (n + 1) listed a w := by
  intro n
  induction n with
  | zero =>
    intro listed a w hk hs _ hr hy hS H
    refine ⟨fun h => (by rw [h] at hr; cases hr), fun j hj => ?_⟩
    by_cases hji : j = i
    · subst hji; exact hy.wpOp hi hS ⟨fun _ => hS, H⟩
    · have := ready_mono hj hji
      rw [H.1] at this
      cases this
  | succ n ih =>
    intro listed a w hk hs hfree hr hy hS H
    have hiu : listed.getD i true = false := (mem_ready.1 hr).1
    have hun : ∀ m ∈ i :: ks, listed.getD m true = false := fun m hm => by
      rcases List.mem_cons.1 hm with rfl | hm
      · exact hiu
      · exact hk m hm
    refine ⟨fun h => (by rw [h] at hr; cases hr), fun j hj => ?_⟩
    by_cases hji : j = i
    · subst hji; exact hy.wpOp hi hS ⟨fun _ => hS, H⟩
    · have hjk : j ∉ ks := by
        intro hjm
        rcases hks j hjm with e | ⟨m, hm, hw⟩
        · exact hji e
        · exact not_ready (hun m hm) hw hj
      obtain ⟨ms, hms, hws⟩ := hst
      have hjs : j ≠ st := by
        rintro rfl
        exact not_ready (hun ms hms) hws hj
      have h1 := H.2 j (ready_mono hj hji)
      obtain ⟨hjun, oj, hoj, hall⟩ := mem_ready.1 hj
      have hnot : ∀ e ∈ oj.after, Region.binds md e = true → e.on ≠ i := fun e he hb heq => not_ready hiu ⟨oj, hoj, e, he, hb, heq⟩ hj
      have h2 := wpOp_putIf hoj (hfree j oj hoj hji hjun hnot) (fun cs b => hsel i oi cs b hi) (fun cs b => hsel j oj cs b hoj) hQ hy h1
      have hsj : (listed.setIfInBounds j true).getD st true = false := set_un hjs hs
      refine wpOp_mono (fun a' w' h3 => ?_) h2
      have hSw : S w' := h3.2.1 (set_un hjs (set_un (fun e => by subst e; exact not_ready (hun ms hms) hws hr) hs))
      refine ⟨fun _ => hSw, ih (listed.setIfInBounds j true) a' w' (fun k hkm => set_un (fun e => hjk (e ▸ hkm)) (hk k hkm)) hsj ?_ (ready_mono hr (Ne.symm hji)) h3.1 hSw ?_⟩
      · intro m om hm hmi hun hno
        refine hfree m om hm hmi ?_ hno
        by_cases hjm : j = m
        · subst hjm; exact hjun
        · rwa [getD_set_ne true hjm] at hun
      · rw [Array.setIfInBounds_comm _ _ hji]
        exact h3.2.2
/-- number i is taken first; ks: operations that wait for it, for each other, and st for one of them -/
theorem takeH {i : Nat} (ks : List Nat) {oi : Oper} {v : Value} {n : Nat} {listed : Array Bool} {a : Act} {w : World} (hi : ops[i]? = some oi)
    (hs : (Region.noSelect ops && Region.free md ops listed i && (Region.ready md ops listed).contains i && (ks.all fun k => k == i || (i :: ks).any fun m => waits md ops k m) && ((i :: ks).any fun m => waits md ops st m) && (ks.all fun k => !listed.getD k true) && (!listed.getD st true)) = true)
    (hQ : ∀ c a w, Q (.panic c) (a.put oi.dst v) w → Q (.panic c) a w) (hw : Region.wanted oi (yielded ops a.tmps) = true) (hy : ∀ w, S w → (execOp a.eval oi).run P w = .ok (.value v) w) (hS : S w)
    (h : anyG P md ops Q S st n (listed.setIfInBounds i true) (a.put oi.dst v) w) : anyG P md ops Q S st (n + 1) listed a w := by
  simp only [Bool.and_eq_true, Bool.not_eq_true', Bool.or_eq_true, beq_iff_eq, List.all_eq_true] at hs
  obtain ⟨⟨⟨⟨⟨⟨h1, h2⟩, h3⟩, h4⟩, h5⟩, h6⟩, h7⟩ := hs
  refine anyG_firstL ks hi (Region.noSelect_spec h1) hQ (fun k hk => ?_) ?_ n listed a w h6 h7 (Region.free_spec hi h2) (by simpa using h3) (.inl ⟨hw, hy⟩) hS h
  · rcases h4 k hk with e | e
    · exact .inl e
    · obtain ⟨m, hm, hmw⟩ := List.any_eq_true.1 e
      exact .inr ⟨m, hm, waits_spec hmw⟩
  · obtain ⟨m, hm, hmw⟩ := List.any_eq_true.1 h5
    exact ⟨m, hm, waits_spec hmw⟩
end
end Go.Proofs.Ytmkfafhgcnbcaaa
