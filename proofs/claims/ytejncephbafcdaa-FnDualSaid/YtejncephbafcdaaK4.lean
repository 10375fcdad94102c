/- The texts of this claim, run 4: Mk Ds0 Ds1 AnyR Src Set Src2 Drw Set2 Arr2 Ds2 Ds3 Has Ds4 Ds5 PPm. -/
import Derived.Test.YtejncephbafcdaaK1
import Derived.Test.YtejncephbafcdaaK2
import Derived.Test.YtejncephbafcdaaK3
import Derived.Deep.RegionHeld3
import Derived.Deep.DrawnRows
import Derived.Shelf.SlSortCmp.NoneTotal
section
/- make inside a region that draws its order. A region that loads cells and writes them by its last stores: what is held of the world is asked until the first of these stores alone. A region that loads cells and writes them at its end: an operation taken first, by a chain of operations that wait for each other. -/
namespace Go.Proofs.Ytejncephbafcdaa
set_option linter.unusedSimpArgs false
set_option linter.unusedVariables false
open Go.RowKit
theorem cell_dr {w : World} {a : Addr} {v : Value} (h : w.cell? a = some v) : w.drew.cell? a = some v := h
section
variable {P : Program} {ops : Array Oper} {o : Oper} {a : Act} {K : Act → World → Prop} {Q : Exit → Act → World → Prop} {E : Prop}
end
section
variable {ops : Array Oper} {o : Oper} {a : Act} {K : Act → World → Prop} {Q : Exit → Act → World → Prop} {E : Prop} {B : Nat} {w0 w : World} {L : List Ent}
end

section
variable {P : Program} {ops : Array Oper} {Q : Exit → Act → World → Prop} {md : Region.Mode} {S : World → Prop} {st : Nat}

/-- whichever order is picked; S is shown behind every operation till operation st has come up -/
def anyG (P : Program) (md : Region.Mode) (ops : Array Oper) (Q : Exit → Act → World → Prop) (S : World → Prop) (st : Nat) : Nat → Array Bool → Act → World → Prop
  | 0, listed, a, w => Region.ready md ops listed = [] ∧ Q .normal a w
  | n + 1, listed, a, w => (Region.ready md ops listed = [] → Q .normal a w) ∧
    ∀ i ∈ Region.ready md ops listed, wpOp P ops Q i (fun a' w' => ((listed.setIfInBounds i true).getD st true = false → S w') ∧ anyG P md ops Q S st n (listed.setIfInBounds i true) a' w') a w

theorem wpAny_of_G : ∀ (n : Nat) (listed : Array Bool) (a : Act) (w : World), anyG P md ops Q S st n listed a w → wpAny P md ops Q n listed a w
  | 0, _, _, _, h => h
  | n + 1, _, _, _, h => ⟨h.1, fun i hi => wpOp_mono (fun a' w' h' => wpAny_of_G n _ a' w' h'.2) (h.2 i hi)⟩

theorem set_un {listed : Array Bool} {j k : Nat} (hne : j ≠ k) (h : listed.getD k true = false) : (listed.setIfInBounds j true).getD k true = false := by rw [getD_set_ne true hne]; exact h
/-- what waits for an operation that has not come up cannot come up -/
theorem not_ready {listed : Array Bool} {j k : Nat} (hk : listed.getD k true = false) (hw : ∃ o, ops[j]? = some o ∧ ∃ e ∈ o.after, Region.binds md e = true ∧ e.on = k) : j ∉ Region.ready md ops listed := by
  intro h
  obtain ⟨_, o, ho, hall⟩ := mem_ready.1 h
  obtain ⟨o', ho', e, he, hb, rfl⟩ := hw
  rw [ho] at ho'; cases ho'
  have h1 := hall e he hb
  rcases Nat.lt_or_ge e.on listed.size with h' | h'
  · simp [h'] at hk h1; rw [hk] at h1; cases h1
  · simp [Array.getElem?_eq_none h'] at h1

/-- an operation that yields in whatever world may be taken first -/
theorem anyG_pure {i : Nat} {oi : Oper} {v : Value} (hi : ops[i]? = some oi) (hsel : ∀ (j : Nat) (o : Oper) cs b, ops[j]? = some o → o.op ≠ .select cs b)
    (hQ : ∀ c a w, Q (.panic c) (a.put oi.dst v) w → Q (.panic c) a w) (hne : i ≠ st) :
    ∀ (n : Nat) (listed : Array Bool) (a : Act) (w : World),
      (∀ j oj, ops[j]? = some oj → j ≠ i → listed.getD j true = false → (∀ e ∈ oj.after, Region.binds md e = true → e.on ≠ i) → oi.apart ops oj = true) →
      i ∈ Region.ready md ops listed → YieldsIf P ops (fun _ => True) oi v a → (listed.getD st true = false → S w) →
      anyG P md ops Q S st n (listed.setIfInBounds i true) (a.put oi.dst v) w → anyG P md ops Q S st (n + 1) listed a w := by
  intro n
  induction n with
  | zero =>
    intro listed a w _ hr hy hS H
    refine ⟨fun h => (by rw [h] at hr; cases hr), fun j hj => ?_⟩
    by_cases hji : j = i
    · subst hji; exact hy.wpOp hi trivial ⟨fun e => hS (by rwa [getD_set_ne true hne] at e), H⟩
    · have := ready_mono hj hji
      rw [H.1] at this
      cases this
  | succ n ih =>
    intro listed a w hfree hr hy hS H
    have hiu : listed.getD i true = false := (mem_ready.1 hr).1
    refine ⟨fun h => (by rw [h] at hr; cases hr), fun j hj => ?_⟩
    by_cases hji : j = i
    · subst hji; exact hy.wpOp hi trivial ⟨fun e => hS (by rwa [getD_set_ne true hne] at e), H⟩
    · have h1 := H.2 j (ready_mono hj hji)
      obtain ⟨hjun, oj, hoj, hall⟩ := mem_ready.1 hj
      have hnot : ∀ e ∈ oj.after, Region.binds md e = true → e.on ≠ i := fun e he hb heq => not_ready hiu ⟨oj, hoj, e, he, hb, heq⟩ hj
      have h2 := wpOp_putIf hoj (hfree j oj hoj hji hjun hnot) (fun cs b => hsel i oi cs b hi) (fun cs b => hsel j oj cs b hoj) hQ hy h1
      refine wpOp_mono (fun a' w' h3 => ?_) h2
      have hSw : (listed.setIfInBounds j true).getD st true = false → S w' := fun e => h3.2.1 (by rw [Array.setIfInBounds_comm _ _ (Ne.symm hji), getD_set_ne true hne]; exact e)
      refine ⟨hSw, ih (listed.setIfInBounds j true) a' w' ?_ (ready_mono hr (Ne.symm hji)) h3.1 hSw ?_⟩
      · intro m om hm hmi hun hno
        refine hfree m om hm hmi ?_ hno
        by_cases hjm : j = m
        · subst hjm; exact hjun
        · rwa [getD_set_ne true hjm] at hun
      · rw [Array.setIfInBounds_comm _ _ hji]
        exact h3.2.2
/-- number i is taken first, whatever the world -/
theorem takeP {i : Nat} {oi : Oper} {v : Value} {n : Nat} {listed : Array Bool} {a : Act} {w : World} (hi : ops[i]? = some oi)
    (hs : (Region.noSelect ops && Region.free md ops listed i && (Region.ready md ops listed).contains i && (!(i == st))) = true)
    (hQ : ∀ c a w, Q (.panic c) (a.put oi.dst v) w → Q (.panic c) a w) (hw : Region.wanted oi (yielded ops a.tmps) = true) (hy : ∀ w, (execOp a.eval oi).run P w = .ok (.value v) w) (hS : S w)
    (h : anyG P md ops Q S st n (listed.setIfInBounds i true) (a.put oi.dst v) w) : anyG P md ops Q S st (n + 1) listed a w := by
  simp only [Bool.and_eq_true, Bool.not_eq_true', beq_eq_false_iff_ne] at hs
  obtain ⟨⟨⟨h1, h2⟩, h3⟩, h4⟩ := hs
  exact anyG_pure hi (Region.noSelect_spec h1) hQ h4 n listed a w (Region.free_spec hi h2) (by simpa using h3) (.inl ⟨hw, fun w _ => hy w⟩) (fun _ => hS) h

def waits (md : Region.Mode) (ops : Array Oper) (j k : Nat) : Bool := match ops[j]? with
  | some o => o.after.any fun e => Region.binds md e && e.on == k
  | none => false
theorem waits_spec {j k : Nat} (h : waits md ops j k = true) : ∃ o, ops[j]? = some o ∧ ∃ e ∈ o.after, Region.binds md e = true ∧ e.on = k := by
  unfold waits at h
  cases ho : ops[j]? with
  | none => rw [ho] at h; cases h
  | some o =>
    rw [ho] at h
    simp only [Array.any_eq_true', Bool.and_eq_true, beq_iff_eq] at h
    obtain ⟨e, he, hb, hk⟩ := h
    exact ⟨o, rfl, e, he, hb, hk⟩
def AllG (P : Program) (md : Region.Mode) (ops : Array Oper) (Q : Exit → Act → World → Prop) (S : World → Prop) (st n : Nat) (listed : Array Bool) (a : Act) (w : World) (rs : List Nat) : Prop :=
  ∀ i ∈ rs, wpOp P ops Q i (fun a' w' => ((listed.setIfInBounds i true).getD st true = false → S w') ∧ anyG P md ops Q S st n (listed.setIfInBounds i true) a' w') a w
theorem AllG.nil {n : Nat} {listed : Array Bool} {a : Act} {w : World} : AllG P md ops Q S st n listed a w [] := fun _ h => by cases h
/-- an operation ahead of st -/
theorem AllG.cons {n : Nat} {listed : Array Bool} {a : Act} {w : World} {i : Nat} {o : Oper} {rs : List Nat} (ho : ops[i]? = some o)
    (h : ∀ K' : Act → World → Prop, Shut (∀ a w, S w → (S w → anyG P md ops Q S st n (listed.setIfInBounds i true) a w) → K' a w) → if Region.wanted o (yielded ops a.tmps) = true then Oper.wp P o a w K' Q else K' (a.put o.dst undef) w)
    (hs : AllG P md ops Q S st n listed a w rs) : AllG P md ops Q S st n listed a w (i :: rs) := fun j hj => by
  rcases List.mem_cons.1 hj with rfl | hj
  · exact wpOp_step ho (fun K' hK => h K' (fun a w hS hW => hK a w ⟨fun _ => hS, hW hS⟩))
  · exact hs j hj
/-- st itself, or one behind it -/
theorem AllG.last {n : Nat} {listed : Array Bool} {a : Act} {w : World} {i : Nat} {o : Oper} {rs : List Nat} (ho : ops[i]? = some o) (hl : (listed.setIfInBounds i true).getD st true = true)
    (h : ∀ K' : Act → World → Prop, Shut (∀ a w, anyG P md ops Q S st n (listed.setIfInBounds i true) a w → K' a w) → if Region.wanted o (yielded ops a.tmps) = true then Oper.wp P o a w K' Q else K' (a.put o.dst undef) w)
    (hs : AllG P md ops Q S st n listed a w rs) : AllG P md ops Q S st n listed a w (i :: rs) := fun j hj => by
  rcases List.mem_cons.1 hj with rfl | hj
  · exact wpOp_step ho (fun K' hK => h K' (fun a w hW => hK a w ⟨fun e => (by rw [hl] at e; cases e), hW⟩))
  · exact hs j hj
theorem readyG {rs : List Nat} {n : Nat} {listed : Array Bool} {a : Act} {w : World} (hr : Region.ready md ops listed = rs) (hne : rs ≠ [])
    (h : AllG P md ops Q S st n listed a w rs) : anyG P md ops Q S st (n + 1) listed a w := ⟨fun h0 => absurd (hr ▸ h0) hne, hr ▸ h⟩
theorem doneG {listed : Array Bool} {a : Act} {w : World} (hr : Region.ready md ops listed = []) (h : Q .normal a w) : ∀ n, anyG P md ops Q S st n listed a w
  | 0 => ⟨hr, h⟩
  | _ + 1 => ⟨fun _ => h, by rw [hr]; simp⟩
/-- the beginning -/
theorem regionG {id : Nat} {a : Act} {w : World} (S : World → Prop) (st : Nat) (hm : P.follows .mixedOrders = true) (hS : S w.drew)
    (h : S w.drew → anyG P .any ops (NoPanic Q) S st ops.size (Array.replicate ops.size false) a w.drew) : (Code.region id ops true).wp P Q a w :=
  wp_region_noPanic (wp_region_any hm (wpAny_of_G _ _ _ _ (h hS)))
end

section
variable {P : Program} {ops : Array Oper} {Q : Exit → Act → World → Prop} {md : Region.Mode} {S : World → Prop} {st : Nat}
theorem anyG_firstL {i : Nat} {oi : Oper} {v : Value} (ks : List Nat) (hi : ops[i]? = some oi) (hsel : ∀ (j : Nat) (o : Oper) cs b, ops[j]? = some o → o.op ≠ .select cs b)
    (hQ : ∀ c a w, Q (.panic c) (a.put oi.dst v) w → Q (.panic c) a w)
    (hks : ∀ k ∈ ks, k = i ∨ ∃ m ∈ i :: ks, ∃ o, ops[k]? = some o ∧ ∃ e ∈ o.after, Region.binds md e = true ∧ e.on = m) (hst : ∃ m ∈ i :: ks, ∃ o, ops[st]? = some o ∧ ∃ e ∈ o.after, Region.binds md e = true ∧ e.on = m) :
    ∀ (n : Nat) (listed : Array Bool) (a : Act) (w : World), (∀ k ∈ ks, listed.getD k true = false) → listed.getD st true = false →
      (∀ j oj, ops[j]? = some oj → j ≠ i → listed.getD j true = false → (∀ e ∈ oj.after, Region.binds md e = true → e.on ≠ i) → oi.apart ops oj = true) →
      i ∈ Region.ready md ops listed → YieldsIf P ops S oi v a → S w →
      anyG P md ops Q S st n (listed.setIfInBounds i true) (a.put oi.dst v) w → anyG P md ops Q S st (n + 1) listed a w := by
  intro n
  induction n with
  | zero =>
    intro listed a w hk hs _ hr hy hS H
    refine ⟨fun h => (by rw [h] at hr; cases hr), fun j hj => ?_⟩
    by_cases hji : j = i
    · subst hji; exact hy.wpOp hi hS ⟨fun _ => hS, H⟩
    · have := ready_mono hj hji
      rw [H.1] at this
      cases this
  | succ n ih =>
    intro listed a w hk hs hfree hr hy hS H
    have hiu : listed.getD i true = false := (mem_ready.1 hr).1
    have hun : ∀ m ∈ i :: ks, listed.getD m true = false := fun m hm => by
      rcases List.mem_cons.1 hm with rfl | hm
      · exact hiu
      · exact hk m hm
    refine ⟨fun h => (by rw [h] at hr; cases hr), fun j hj => ?_⟩
    by_cases hji : j = i
    · subst hji; exact hy.wpOp hi hS ⟨fun _ => hS, H⟩
    · have hjk : j ∉ ks := by
        intro hjm
        rcases hks j hjm with e | ⟨m, hm, hw⟩
        · exact hji e
        · exact not_ready (hun m hm) hw hj
      obtain ⟨ms, hms, hws⟩ := hst
      have hjs : j ≠ st := by
        rintro rfl
        exact not_ready (hun ms hms) hws hj
      have h1 := H.2 j (ready_mono hj hji)
      obtain ⟨hjun, oj, hoj, hall⟩ := mem_ready.1 hj
      have hnot : ∀ e ∈ oj.after, Region.binds md e = true → e.on ≠ i := fun e he hb heq => not_ready hiu ⟨oj, hoj, e, he, hb, heq⟩ hj
      have h2 := wpOp_putIf hoj (hfree j oj hoj hji hjun hnot) (fun cs b => hsel i oi cs b hi) (fun cs b => hsel j oj cs b hoj) hQ hy h1
      have hsj : (listed.setIfInBounds j true).getD st true = false := set_un hjs hs
      refine wpOp_mono (fun a' w' h3 => ?_) h2
      have hSw : S w' := h3.2.1 (set_un hjs (set_un (fun e => by subst e; exact not_ready (hun ms hms) hws hr) hs))
      refine ⟨fun _ => hSw, ih (listed.setIfInBounds j true) a' w' (fun k hkm => set_un (fun e => hjk (e ▸ hkm)) (hk k hkm)) hsj ?_ (ready_mono hr (Ne.symm hji)) h3.1 hSw ?_⟩
      · intro m om hm hmi hun hno
        refine hfree m om hm hmi ?_ hno
        by_cases hjm : j = m
        · subst hjm; exact hjun
        · rwa [getD_set_ne true hjm] at hun
      · rw [Array.setIfInBounds_comm _ _ hji]
        exact h3.2.2
/-- number i is taken first; ks: operations that wait for it, for each other, and st for one of them -/
theorem takeH {i : Nat} (ks : List Nat) {oi : Oper} {v : Value} {n : Nat} {listed : Array Bool} {a : Act} {w : World} (hi : ops[i]? = some oi)
    (hs : (Region.noSelect ops && Region.free md ops listed i && (Region.ready md ops listed).contains i && (ks.all fun k => k == i || (i :: ks).any fun m => waits md ops k m) && ((i :: ks).any fun m => waits md ops st m) && (ks.all fun k => !listed.getD k true) && (!listed.getD st true)) = true)
    (hQ : ∀ c a w, Q (.panic c) (a.put oi.dst v) w → Q (.panic c) a w) (hw : Region.wanted oi (yielded ops a.tmps) = true) (hy : ∀ w, S w → (execOp a.eval oi).run P w = .ok (.value v) w) (hS : S w)
    (h : anyG P md ops Q S st n (listed.setIfInBounds i true) (a.put oi.dst v) w) : anyG P md ops Q S st (n + 1) listed a w := by
  simp only [Bool.and_eq_true, Bool.not_eq_true', Bool.or_eq_true, beq_iff_eq, List.all_eq_true] at hs
  obtain ⟨⟨⟨⟨⟨⟨h1, h2⟩, h3⟩, h4⟩, h5⟩, h6⟩, h7⟩ := hs
  refine anyG_firstL ks hi (Region.noSelect_spec h1) hQ (fun k hk => ?_) ?_ n listed a w h6 h7 (Region.free_spec hi h2) (by simpa using h3) (.inl ⟨hw, hy⟩) hS h
  · rcases h4 k hk with e | e
    · exact .inl e
    · obtain ⟨m, hm, hmw⟩ := List.any_eq_true.1 e
      exact .inr ⟨m, hm, waits_spec hmw⟩
  · obtain ⟨m, hm, hmw⟩ := List.any_eq_true.1 h5
    exact ⟨m, hm, waits_spec hmw⟩
end

end Go.Proofs.Ytejncephbafcdaa
end

section
/- slices.SortFunc at [][]int64 with slices.Compare: rows that a call owns, put in order; slices.IsSortedFunc. -/
namespace Go.Proofs.Ytejncephbafcdaa
set_option linter.unusedSimpArgs false
set_option linter.unusedVariables false
open Go.RowKit
attribute [local go_sem ↓] Go.wp_at_zero Go.wp_at_succ

def Try.mSortR_ren : Go.Shelf.Ren := ⟨fun | 6 => 113 | 15 => 120 | 14 => 145 | 28 => 155 | 29 => 156 | 20 => 164 | 21 => 165 | 22 => 166 | 23 => 167 | 24 => 168 | 25 => 169 | 26 => 170 | 27 => 171 | 46 => 178 | 47 => 173 | 48 => 174 | 49 => 179 | 50 => 180 | 57 => 182 | n => n, fun | 22 => 26 | 24 => 52 | 25 => 123 | 3 => 3 | 39 => 131 | 0 => 0 | 53 => 156 | 55 => 99 | 4 => 4 | 46 => 149 | 45 => 148 | 50 => 153 | 5 => 5 | 9 => 9 | 66 => 166 | 70 => 170 | 76 => 174 | 77 => 175 | n => n, fun | n => n⟩
theorem Try.mSortR : Go.Proofs.SlLaysF.n6 Try.prog Try.mSortR_ren := {
  mixed := by kernel_rfl
  f6 := ⟨Try.f113.name, by decide, Try.func113.trans (congrArg some (by kernel_rfl))⟩
  f14 := ⟨Try.f145.name, by decide, Try.func145.trans (congrArg some (by kernel_rfl))⟩
  f15 := Try.func120.trans (congrArg some (by kernel_rfl))
  f20 := ⟨Try.f164.name, by decide, Try.func164.trans (congrArg some (by kernel_rfl))⟩
  f21 := ⟨Try.f165.name, by decide, Try.func165.trans (congrArg some (by kernel_rfl))⟩
  f22 := ⟨Try.f166.name, by decide, Try.func166.trans (congrArg some (by kernel_rfl))⟩
  f23 := ⟨Try.f167.name, by decide, Try.func167.trans (congrArg some (by kernel_rfl))⟩
  f24 := ⟨Try.f168.name, by decide, Try.func168.trans (congrArg some (by kernel_rfl))⟩
  f25 := ⟨Try.f169.name, by decide, Try.func169.trans (congrArg some (by kernel_rfl))⟩
  f26 := ⟨Try.f170.name, by decide, Try.func170.trans (congrArg some (by kernel_rfl))⟩
  f27 := ⟨Try.f171.name, by decide, Try.func171.trans (congrArg some (by kernel_rfl))⟩
  f28 := Try.func155.trans (congrArg some (by kernel_rfl))
  f29 := Try.func156.trans (congrArg some (by kernel_rfl))
  f46 := ⟨Try.f178.name, by decide, Try.func178.trans (congrArg some (by kernel_rfl))⟩
  f47 := Try.func173.trans (congrArg some (by kernel_rfl))
  f48 := Try.func174.trans (congrArg some (by kernel_rfl))
  f49 := ⟨Try.f179.name, by decide, Try.func179.trans (congrArg some (by kernel_rfl))⟩
  f50 := ⟨Try.f180.name, by decide, Try.func180.trans (congrArg some (by kernel_rfl))⟩
  f57 := ⟨Try.f182.name, by decide, Try.func182.trans (congrArg some (by kernel_rfl))⟩
  t0 := Try.underlying0
  a0 := Try.isAgg0
  z0 := Try.sizeOf0
  v0 := Try.zeroValue0
  t3 := Try.underlying3
  a3 := Try.isAgg3
  z3 := Try.sizeOf3
  v3 := Try.zeroValue3
  t4 := Try.underlying4
  a4 := Try.isAgg4
  z4 := Try.sizeOf4
  v4 := Try.zeroValue4
  t5 := Try.underlying5
  a5 := Try.isAgg5
  z5 := Try.sizeOf5
  v5 := Try.zeroValue5
  t9 := Try.underlying9
  a9 := Try.isAgg9
  z9 := Try.sizeOf9
  v9 := Try.zeroValue9
  t22 := Try.underlying26
  a22 := Try.isAgg26
  z22 := Try.sizeOf26
  v22 := Try.zeroValue26
  a24 := Try.isAgg52
  z24 := Try.sizeOf52
  t25 := Try.underlying123
  a25 := Try.isAgg123
  z25 := Try.sizeOf123
  v25 := Try.zeroValue123
  t39 := Try.underlying131
  a39 := Try.isAgg131
  z39 := Try.sizeOf131
  v39 := Try.zeroValue131
  t45 := Try.underlying148
  a45 := Try.isAgg148
  z45 := Try.sizeOf148
  v45 := Try.zeroValue148
  t46 := Try.underlying149
  a46 := Try.isAgg149
  z46 := Try.sizeOf149
  v46 := Try.zeroValue149
  t50 := Try.underlying153
  a50 := Try.isAgg153
  z50 := Try.sizeOf153
  v50 := Try.zeroValue153
  t53 := Try.underlying156
  a53 := Try.isAgg156
  z53 := Try.sizeOf156
  v53 := Try.zeroValue156
  t55 := Try.underlying99
  a55 := Try.isAgg99
  z55 := Try.sizeOf99
  v55 := Try.zeroValue99
  t66 := Try.underlying166
  a66 := Try.isAgg166
  z66 := Try.sizeOf166
  v66 := Try.zeroValue166
  t70 := Try.underlying170
  a70 := Try.isAgg170
  z70 := Try.sizeOf170
  v70 := Try.zeroValue170
  t76 := Try.underlying174
  a76 := Try.isAgg174
  z76 := Try.sizeOf174
  v76 := Try.zeroValue174
  t77 := Try.underlying175
  a77 := Try.isAgg175
  z77 := Try.sizeOf175
  v77 := Try.zeroValue175
}

/-! ### a row of any kind -/
theorem holds_of_blockE {α : Type} [Inhabited α] (enc : α → Value) {w : World} {g : Nat} {cur : Array Value} {e : TypeId} {ss : List α} (hb : w.heap[g]? = some (.cells cur e (0, 0))) (ht : cur.toList.take ss.length = ss.map enc) : Go.Sort.Holds enc w g 0 ss.toArray := by
  intro j hj
  have hj' : j < ss.length := by simpa using hj
  refine ⟨?_, by simp [World.frozen?, hb]⟩
  have h1 : (cur.toList.take ss.length)[j]? = (ss.map enc)[j]? := by rw [ht]
  rw [List.getElem?_take_of_lt hj'] at h1
  simp only [World.cell?, hb, Nat.zero_add]
  simp only [Option.isSome_none, Bool.false_eq_true, if_false]
  rw [← Array.getElem?_toList, h1]
  simp [hj']
theorem heap_sortedE {α : Type} [Inhabited α] (enc : α → Value) {w : World} {g n : Nat} {os : Array Obj} {cur : Array Value} {e : TypeId} {fr : Nat × Nat} (d : Array α) (hb : w.heap[g]? = some (.cells cur e fr)) :
    (Go.Sort.grow (Go.Sort.putRow enc (Go.Sort.ahead w n) g 0 d) os).heap[g]? = some (.cells (Go.Sort.putCells enc 0 d cur) e fr) := by
  have hg : g < w.heap.size := (Array.getElem?_eq_some_iff.1 hb).1
  rw [Go.Sort.heap_grow_old _ _ (by simpa using hg)]
  simp [Go.Sort.putRow, Go.Sort.mapBlock, Go.Sort.ahead, Array.getElem?_modify, hb, Go.Sort.onCells]
theorem grownBy_sortedE {α : Type} [Inhabited α] (enc : α → Value) {w : World} {g n : Nat} {os : Array Obj} (d : Array α) : w.grownBy (Go.Sort.grow (Go.Sort.putRow enc (Go.Sort.ahead w n) g 0 d) os) (some g) := by
  refine ⟨rfl, rfl, rfl, by simp, fun k hk hne => ?_⟩
  rw [Go.Sort.heap_grow_old _ _ (by simpa using hk)]
  have : g ≠ k := fun e => hne (by rw [e])
  simp [Go.Sort.putRow, Go.Sort.mapBlock, Go.Sort.ahead, Array.getElem?_modify, this]
theorem take_putCellsE {α : Type} [Inhabited α] (enc : α → Value) (cur : Array Value) (d : Array α) (h : d.size ≤ cur.size) : (Go.Sort.putCells enc 0 d cur).toList.take d.size = d.toList.map enc := by
  apply List.ext_getElem?
  intro j
  by_cases hj : j < d.size
  · rw [List.getElem?_take_of_lt hj, Array.getElem?_toList]
    simp [Go.Sort.putCells, hj, show j < cur.size by omega]
  · rw [List.getElem?_take_eq_none (by omega), List.getElem?_eq_none (by simp; omega)]

end Go.Proofs.Ytejncephbafcdaa
end

section
/- slices.SortFunc at [][]int64 with slices.Compare: the rows of an owned list of rows are put in order. -/
namespace Go.Proofs.Ytejncephbafcdaa
set_option linter.unusedSimpArgs false
set_option linter.unusedVariables false
open Go.RowKit

theorem callR_cmp : ∀ (args : Array Value) (W : World), (callFunc 109 args).run Try.prog W = .ok (.enter 109 args) W :=
  fun args W => callFunc_go (P := Try.prog) Try.func109 (by kernel_rfl) (by kernel_rfl) args W
def cfR (A : List (List Int)) (x y : Fin A.length) : Int := cmpI (xat A x) (xat A y)
theorem swoR (A : List (List Int)) : Go.Sort.SWO (Go.Proofs.ltOf (cfR A)) where
  irrefl x := by simp [Go.Proofs.ltOf, cfR, cmpI_self]
  trans x y z h1 h2 := by
    have a1 := of_decide_eq_true h1
    have a2 := of_decide_eq_true h2
    refine decide_eq_true ?_
    unfold cfR at *
    have h3 := cmpI_trans (a := xat A x) (b := xat A y) (c := xat A z) (by omega) (by omega)
    rcases Int.lt_or_le (cmpI (xat A x) (xat A z)) 0 with h | h
    · exact h
    · have h4 := cmpI_eq (a := xat A x) (b := xat A z) (by omega)
      rw [h4] at a1
      have := cmpI_neg (xat A y) (xat A z)
      omega
  ntrans x y z h1 h2 := by
    have a1 := of_decide_eq_false h1
    have a2 := of_decide_eq_false h2
    refine decide_eq_false ?_
    unfold cfR at *
    have n1 := cmpI_neg (xat A x) (xat A y)
    have n2 := cmpI_neg (xat A y) (xat A z)
    have n3 := cmpI_neg (xat A x) (xat A z)
    have h3 := cmpI_trans (a := xat A z) (b := xat A y) (c := xat A x) (by omega) (by omega)
    omega
theorem fin_map {α : Type} (us : List α) (d : α) {n : Nat} (h : us.length = n) : (List.finRange n).map (fun k : Fin n => us.getD k d) = us := by
  subst h
  apply List.ext_getElem
  · simp
  · intro i h1 h2
    simp at h1 ⊢
theorem rows_fin {us : List Value} {A : List (List Int)} (h : us.length = A.length) : rowsI us A = (List.finRange A.length).map fun k : Fin A.length => row 2 (vat us k) (iv (xat A k)) := by
  apply List.ext_getElem
  · simp [rowsI, h]
  · intro i h1 h2
    simp [rowsI, h] at h1
    simp [rowsI, vat, xat, h, h1]
set_option maxHeartbeats 1000000 in
theorem SortRows_c {B : Nat} {w0 w : World} {L : List Ent} {v : Value} {us : List Value} {A : List (List Int)} (hS : St B w0 w (own2 v us A ++ L)) (hl : us.length = A.length) (hlen : A.length < 100000) :
    Calls Try.prog 113 #[v, .func (.func 109) #[] #[]] w fun e w' => ∃ us' : List Value, e = .returned (.tuple #[]) ∧ us'.length = A.length ∧ St B w0 w' (own2 v us' (srtL A) ++ L) := by
  have hi : (own2 v us A ++ L)[0]? = some (row 52 v us) := rfl
  by_cases h0 : A = []
  · subst h0
    have hu : us = [] := by simpa using hl
    subst hu
    obtain ⟨a, c, hv⟩ := (hS.rd 0 hi).sl.sh
    subst hv
    refine Calls.mono (Go.Proofs.AnyF.slices_SortFunc_none (P := Try.prog) (ρ := Try.mSortR_ren) { Try.mSortR with } a c (.func (.func 109) #[] #[]) w) ?_
    rintro e w' ⟨rfl, rfl⟩
    exact ⟨[], rfl, rfl, hS⟩
  · have hpos : 0 < A.length := by cases A with
      | nil => exact absurd rfl h0
      | cons _ _ => simp
    haveI : Inhabited (Fin A.length) := ⟨⟨0, hpos⟩⟩
    have hrow : ∀ {W : World} {u : List Value}, St B w0 W (row 52 v u :: (rowsI us A ++ L)) → ∀ k : Fin A.length, RdI W (vat us k) (xat A k) := by
      intro W u h k
      refine h.rdI (k + 1) (e := 2) ?_
      rw [List.getElem?_cons_succ, List.getElem?_append_left (by rw [rowsI_len hl]; exact k.isLt)]
      exact rowsI_get hl k.isLt
    have hok := hS.ok _ (List.mem_of_getElem? hi)
    rcases hok with ⟨hp, _⟩ | ⟨_, hv, hu⟩ | ⟨_, g, cap, cur, hv, hB, hh, h1, h2, h3, h4⟩
    · simp [row] at hp
    · simp only [row] at hu
      rw [hu] at hl; simp at hl; omega
    · simp only [row] at hv h1 h4 hh
      subst hv
      have hblk : g < w.heap.size := (Array.getElem?_eq_some_iff.1 hh).1
      have hOne : Go.Proofs.OneCell (fun k : Fin A.length => vat us k) := fun k => (hrow hS k).sl.one
      have hd : (List.finRange A.length).toArray.size = us.length := by simp [hl]
      have hH : Go.Sort.Holds (fun k : Fin A.length => vat us k) w g 0 (List.finRange A.length).toArray := holds_of_blockE _ hh (by
        rw [List.length_finRange]
        exact (by rw [← hl]; exact h4 : cur.toList.take A.length = us).trans (fin_map us undef hl).symm)
      have putAll : ∀ (m : Nat) (os : Array Obj) (dk : Array (Fin A.length)), dk.size = us.length → St B w0 (Go.Proofs.sortWorld (fun k : Fin A.length => vat us k) w g 0 m dk os) (row 52 (.slice (some ⟨g, 0, none⟩) us.length cap) (dk.toList.map fun k : Fin A.length => vat us k) :: (rowsI us A ++ L)) := by
        intro m os dk hs
        have := hS.put 0 hi (w' := Go.Proofs.sortWorld (fun k : Fin A.length => vat us k) w g 0 m dk os) ?_ (row 52 (.slice (some ⟨g, 0, none⟩) us.length cap) (dk.toList.map fun k : Fin A.length => vat us k)) (.inr (.inr ⟨rfl, g, cap, _, ?_, hB, heap_sortedE (fun k : Fin A.length => vat us k) _ hh, ?_, h2, ?_, ?_⟩)) (.inl rfl)
        · exact this
        · exact grownBy_sortedE (fun k : Fin A.length => vat us k) dk
        · simp [row, hs]
        · simp [row, hs]; exact h1
        · simp [Go.Sort.putCells, h3]
        · have := take_putCellsE (fun k : Fin A.length => vat us k) cur dk (by omega)
          rw [hs] at this
          simpa [row, hs] using this
      have hcmp : Go.Proofs.CmpLays1 Try.prog 109 #[] (fun k : Fin A.length => vat us k) (cfR A) g 0 (List.finRange A.length).toArray.size w := by
        refine Go.Proofs.CmpReads.lays fun m os dk hs x y => ?_
        have hp := putAll m os dk (by rw [hs, hd])
        refine (Compare_c _ _ _ _ _ (hrow hp x) (hrow hp y)).mono ?_
        rintro e w' ⟨rfl, rfl⟩
        exact ⟨rfl, 0, rfl⟩
      have hc := Go.Proofs.Any.slices_SortFunc (P := Try.prog) (ρ := Try.mSortR_ren) Try.mSortR (fun k : Fin A.length => vat us k) hOne (cfR A) (swoR A) 109 #[] g 0 cap (List.finRange A.length).toArray w callR_cmp hcmp hH hblk (by rw [hd]; omega)
      rw [hd] at hc
      refine Calls.mono hc ?_
      rintro e w' ⟨rfl, d', n, os, hperm, hso, rfl⟩
      have hds : d'.size = us.length := by have := hperm.1; omega
      have hpm : d'.toList.Perm (List.finRange A.length) := by
        have := hperm.2.2
        rw [show d'.extract 0 us.length = d' by rw [← hds]; simp, show (List.finRange A.length).toArray.extract 0 us.length = (List.finRange A.length).toArray by rw [← hd]; simp only [Array.extract_size]] at this
        simpa using this
      have hA : (d'.toList.map fun k : Fin A.length => xat A k) = srtL A := by
        refine srtL_eq ?_ ?_
        · have := hpm.map fun k : Fin A.length => xat A k
          rwa [show (List.finRange A.length).map (fun k : Fin A.length => xat A k) = A from fin_map A [] rfl] at this
        · rw [List.pairwise_map, List.pairwise_iff_getElem]
          intro i j hi' hj' hij
          have := hso i j (by omega) hij (by rw [← hds]; simpa using hj')
          have := of_decide_eq_false this
          unfold cfR at this
          have e1 : d'[i]! = d'.toList[i] := by simp at hi'; simp [hi']
          have e2 : d'[j]! = d'.toList[j] := by simp at hj'; simp [hj']
          rw [e1, e2] at this
          have := cmpI_neg (xat A d'.toList[j]) (xat A d'.toList[i])
          exact decide_eq_true (by omega)
      have hp := putAll n os d' hds
      refine ⟨d'.toList.map fun k : Fin A.length => vat us k, rfl, by simp [hds, hl], ?_⟩
      rw [← hA]
      refine hp.perm ?_
      unfold own2
      refine List.Perm.cons _ (List.Perm.append_right _ ?_)
      rw [rows_fin hl]
      refine (hpm.map _).symm.trans (.of_eq ?_)
      unfold rowsI
      rw [List.zipWith_map, List.zipWith_self]
end Go.Proofs.Ytejncephbafcdaa
end

section
/- Walks: slices.ContainsFunc on rows of integers. -/
namespace Go.Proofs.Ytejncephbafcdaa
set_option linter.unusedSimpArgs false
set_option linter.unusedVariables false
open Go.RowKit

/-! slices.ContainsFunc on rows -/
def anyR (p : List Int → Bool) (xss : List (List Int)) : Bool := xss.any p
def idxR (p : List Int → Bool) (xss : List (List Int)) (k : Nat) : Int := match (xss.drop k).findIdx? p with | some j => (k + j : Nat) | none => -1
theorem idxR_step {p : List Int → Bool} {xs : List (List Int)} {k : Nat} (hk : k < xs.length) (h : p (xat xs k) = false) : idxR p xs k = idxR p xs (k + 1) := by
  unfold idxR
  rw [drop_xat hk, List.findIdx?_cons, h]
  cases (xs.drop (k + 1)).findIdx? p with
  | none => rfl
  | some j => simp; omega
theorem idxR_hit {p : List Int → Bool} {xs : List (List Int)} {k : Nat} (hk : k < xs.length) (h : p (xat xs k) = true) : idxR p xs k = k := by
  unfold idxR; rw [drop_xat hk, List.findIdx?_cons, h]; simp
theorem idxR_end {p : List Int → Bool} {xs : List (List Int)} {k : Nat} (hk : xs.length ≤ k) : idxR p xs k = -1 := by
  unfold idxR; rw [List.drop_of_length_le hk]; rfl
theorem idxR_any {p : List Int → Bool} {xs : List (List Int)} : decide (0 ≤ idxR p xs 0) = anyR p xs := by
  unfold idxR anyR
  rw [List.drop_zero]
  cases h : xs.findIdx? p with
  | none =>
    have hy : xs.any p = false := by
      rw [List.any_eq_false]
      intro x hx
      have := List.findIdx?_eq_none_iff.1 h x hx
      simp [this]
    rw [hy]; simp
  | some j =>
    have hy : xs.any p = true := by
      obtain ⟨hj, hp, _⟩ := List.findIdx?_eq_some_iff_getElem.1 h
      exact List.any_eq_true.2 ⟨_, List.getElem_mem hj, hp⟩
    rw [hy]; simp

set_option maxHeartbeats 1000000 in
set_option maxRecDepth 100000 in
theorem IndexFuncR_c (K : FuncId) (caps : Array Value) (p : List Int → Bool) (v : Value) (us : List Value) (xss : List (List Int)) (w : World) (hv : RII w v us xss)
    (hcf : ∀ (args : Array Value) (W : World), (callFunc K args).run Try.prog W = .ok (.enter K args) W)
    (hK : ∀ (j : Nat) (W : World), St w.heap.size w W [] → j < xss.length → Calls Try.prog K (#[vat us j] ++ caps) W (GivesB W (p (xat xss j)))) :
    Calls Try.prog 117 #[v, .func (.func K) #[] caps] w (GivesI w (idxR p xss 0)) := by
  have HK := Lib.hid hK
  clear hK
  have hln := hv.len
  have hix := hv.ix
  have hm := hv.le
  go_enter Try.func117, Try.ntmps117
  go_wp2_with fail
  go_loopw [5, 8] (fun _ i wr => ∃ k : Nat, k ≤ xss.length ∧ i = .int .i64 k ∧ Hid (idxR p xss 0 = idxR p xss k) ∧ St w.heap.size w wr []) (fun _ i _ => xss.length - (intOf i).toNat)
  case atStart => exact ⟨0, by omega, rfl, rfl, St.refl w⟩
  case round =>
    obtain ⟨k, hk, rfl, hI, hS⟩ := hrel
    by_cases hlt : k < xss.length
    · have hc := (hS.oldII hv).cell k hlt
      go_wp2_with fail
      refine (HK.out _ _ hS hlt).mono ?_
      cases hp : p (xat xss k)
      · have Hp := Lib.hid hp; clear hp
        rintro e w2 ⟨rfl, h2⟩
        have hS2 := hS.call0 h2
        go_wp2_with fail
        go_roundw
        case rel => exact ⟨k + 1, by omega, by go_num, by rw [Hid, hI.out, idxR_step hlt Hp.out], hS2⟩
        case measure => simp [intOf]; omega
      · have Hp := Lib.hid hp; clear hp
        rintro e w2 ⟨rfl, h2⟩
        have hS2 := hS.call0 h2
        go_wp2_with fail
        go_ret
        exact ⟨ret_i64 (by rw [hI.out, idxR_hit hlt Hp.out]), hS2⟩
    · go_wp2_with fail
      go_ret
      exact ⟨ret_i64 (by rw [hI.out, idxR_end (by omega)]), hS⟩
theorem ContainsFuncR_c (K : FuncId) (caps : Array Value) (p : List Int → Bool) (v : Value) (us : List Value) (xss : List (List Int)) (w : World) (hv : RII w v us xss)
    (hcf : ∀ (args : Array Value) (W : World), (callFunc K args).run Try.prog W = .ok (.enter K args) W)
    (hK : ∀ (j : Nat) (W : World), St w.heap.size w W [] → j < xss.length → Calls Try.prog K (#[vat us j] ++ caps) W (GivesB W (p (xat xss j)))) :
    Calls Try.prog 66 #[v, .func (.func K) #[] caps] w (GivesB w (anyR p xss)) := by
  have HK := Lib.hid hK
  clear hK
  go_enter Try.func66, Try.ntmps66
  go_wp2_with fail
  refine (IndexFuncR_c K caps p v us xss w hv hcf HK.out).mono ?_
  rintro e w1 ⟨rfl, h1⟩
  go_wp2_with fail
  go_ret
  exact ⟨ret_bool idxR_any, h1⟩

theorem szII_c (v : Value) (us : List Value) (xss : List (List Int)) (w : World) (hv : RII w v us xss) :
    Calls Try.prog 41 #[v] w fun e w' => e = .returned (.int .i64 xss.length) ∧ w = w' := by
  have hln := hv.len
  go_enter Try.func41, Try.ntmps41
  go_wp2_with fail
  go_ret
  exact ⟨rfl, rfl⟩
end Go.Proofs.Ytejncephbafcdaa
end

section
/- The source of choices that the laws draw from. -/
namespace Go.Proofs.Ytejncephbafcdaa
set_option linter.unusedSimpArgs false
set_option linter.unusedVariables false
open Go.RowKit

/-- the cells of some bytes -/
def bv (bs : List UInt8) : List Value := bs.map fun b => Value.int .u8 b.toNat
def RdB (w : World) (v : Value) (bs : List UInt8) : Prop := Rd w v (bv bs)
theorem bv_len (bs : List UInt8) : (bv bs).length = bs.length := by simp [bv]
def bnth (bs : List UInt8) (j : Nat) : Int := ((bs.getD j 0).toNat : Int)
theorem bnth_bd (bs : List UInt8) (j : Nat) : 0 ≤ bnth bs j ∧ bnth bs j ≤ 255 := by
  unfold bnth; have := (bs.getD j 0).toNat_lt; omega
theorem bv_get {bs : List UInt8} {j : Nat} (h : j < bs.length) : (bv bs).getD j undef = .int .u8 (bnth bs j) := by
  simp [bv, bnth, List.getD, List.getElem?_eq_getElem h]

theorem Try.und_bs : Try.prog.underlying 22 = some (.slice 5) := by kernel_rfl
theorem Try.size_b : (Try.prog.info? 5).map (·.size) = some 1 := by kernel_rfl

section
variable {w w' : World} {v : Value} {bs : List UInt8}
theorem RdB.le (h : RdB w v bs) : bs.length ≤ 9223372036854775807 := by have := h.sl.le; rwa [bv_len] at this
theorem RdB.len (h : RdB w v bs) (ty : TypeId) (W : World) : (Builtin.len_ #[22] ty #[v]).run Try.prog W = .ok (.int .i64 bs.length) W := by
  have := run_len_sl (P := Try.prog) h.sl 22 ty Try.und_bs W; rwa [bv_len] at this
theorem RdB.ix (h : RdB w v bs) (k : IntKind) (i : Int) (h0 : 0 ≤ i) (hi : i < bs.length) (W : World) :
    (Instr.indexAt 22 v (.int k i)).run Try.prog W = .ok (.pointer (some (el v i.toNat))) W :=
  run_ix_sl (P := Try.prog) h.sl 22 Try.und_bs Try.size_b k i h0 (by rw [bv_len]; exact hi) W
theorem RdB.cell (h : RdB w v bs) (j : Nat) (hj : j < bs.length) : w.cell? (el v j) = some (.int .u8 (bnth bs j)) := by
  rw [Rd.cell h (by rw [bv_len]; exact hj), bv_get hj]
theorem RdB.keep (h : RdB w v bs) (hb : Below w.heap.size w w') : RdB w' v bs := Rd.keep h hb
theorem RdB.sh (h : RdB w v bs) : ∃ a n c, v = .slice a n c := by obtain ⟨a, c, hv, _⟩ := h.sl; exact ⟨a, _, c, hv⟩
end
theorem St.oldB {w0 w : World} {L : List Ent} {v : Value} {bs : List UInt8} (h : St w0.heap.size w0 w L) (hr : RdB w0 v bs) : RdB w v bs := Rd.keep hr h.below

/-- the source lies at the head of what is owned, at most K bytes were drawn -/
def Src (w0 w : World) (cv : Value) (g : Nat) (K : Nat) (L : List Ent) : Prop :=
  ∃ p seed : Int, 0 ≤ p ∧ p ≤ K ∧ St w0.heap.size w0 w (box 101 g [cv, .int .i64 p, .int .u64 seed] :: L)

def AnInt (lo hi : Int) (R : World → Prop) (e : Ending) (w' : World) : Prop := ∃ x : Int, lo ≤ x ∧ x ≤ hi ∧ e = .returned (.int .i64 x) ∧ R w'

theorem Src.mono {w0 w : World} {cv : Value} {g K K' : Nat} {L : List Ent} (h : Src w0 w cv g K L) (hk : K ≤ K') : Src w0 w cv g K' L := by
  obtain ⟨p, s, h0, h1, h2⟩ := h; exact ⟨p, s, h0, by omega, h2⟩
theorem Src.st {w0 w : World} {cv : Value} {g K : Nat} {L : List Ent} (h : Src w0 w cv g K L) : St w0.heap.size w0 w L := by
  obtain ⟨p, s, h0, h1, h2⟩ := h; exact h2.sub (List.sublist_cons_self _ _)

theorem and255 (x : Int) : 0 ≤ wrap64 (bits BinOp.and IntKind.u64 (IntKind.u64.wrap x / 1099511627776) 255) ∧ wrap64 (bits BinOp.and IntKind.u64 (IntKind.u64.wrap x / 1099511627776) 255) ≤ 255 := by
  have h1 : 0 ≤ IntKind.u64.wrap x / 1099511627776 ∧ IntKind.u64.wrap x / 1099511627776 < 18446744073709551616 := by
    simp [IntKind.wrap, IntKind.bits, IntKind.signed]; omega
  rw [u64_and _ _ h1.1 h1.2 (by omega) (by omega)]
  have e255 : (255 : Int).toNat = 255 := rfl
  have h2 := Nat.and_le_right (n := (IntKind.u64.wrap x / 1099511627776).toNat) (m := (255 : Int).toNat)
  rw [e255] at h2 ⊢
  unfold wrap64
  omega

set_option maxHeartbeats 1000000 in
theorem next_c (w0 w : World) (cv : Value) (bs : List UInt8) (g K : Nat) (L : List Ent) (hb : RdB w0 cv bs) (h : Src w0 w cv g K L) (hK : K < 1099511627776) :
    Calls Try.prog 127 #[.pointer (some ⟨g, 0, none⟩)] w (AnInt 0 255 fun w' => Src w0 w' cv g (K + 1) L) := by
  obtain ⟨p, seed, h0, h1, hS⟩ := h
  obtain ⟨q, rfl⟩ := Int.eq_ofNat_of_zero_le h0
  have hc0 := hS.bcell 0 rfl 0 rfl
  have hc1 := hS.bcell 0 rfl 1 rfl
  have hc2 := hS.bcell 0 rfl 2 rfl
  have hf := hS.bfree 0 rfl
  have hbw := hS.oldB hb
  have hln := hb.len
  have hix := hb.ix
  have hcell := hbw.cell
  have hle := hb.le
  have hbd := bnth_bd bs q
  obtain ⟨hb0, hb1⟩ := hbd
  by_cases hlt : q < bs.length
  · have hlt' : q + 1 ≤ bs.length := hlt
    go_enter Try.func127, Try.ntmps127
    go_wp2_with fail
    go_quiet (fail)
    go_wp2_with fail
    go_quiet (fail)
    go_wp2_with fail
    refine abs_wp (((hS.drewN _).bstore 0 rfl 1 _).bstore 0 rfl 2 _) ?_
    intro w2 hS2
    clear hc0 hc1 hc2 hf
    have hc0 := hS2.bcell 0 rfl 0 rfl
    have hc1 := hS2.bcell 0 rfl 1 rfl
    go_quiet (fail)
    go_wp2_with fail
    go_ret
    exact ⟨_, hb0, hb1, rfl, _, _, by omega, by omega, hS2.drewN _⟩
  · have hlt' : ¬ q + 1 ≤ bs.length := by omega
    go_enter Try.func127, Try.ntmps127
    go_wp2_with fail
    go_quiet (fail)
    go_wp2_with fail
    refine abs_wp (((hS.drewN _).bstore 0 rfl 1 _).bstore 0 rfl 2 _) ?_
    intro w2 hS2
    clear hc0 hc1 hc2 hf
    have hc0 := hS2.bcell 0 rfl 0 rfl
    have hc1 := hS2.bcell 0 rfl 1 rfl
    have hc2 := hS2.bcell 0 rfl 2 rfl
    go_quiet (fail)
    go_wp2_with fail
    go_ret
    exact ⟨_, (and255 _).1, (and255 _).2, rfl, _, _, by omega, by omega, hS2.drewN _⟩

set_option maxHeartbeats 1000000 in
theorem pick_c (w0 w : World) (cv : Value) (bs : List UInt8) (g K : Nat) (L : List Ent) (n : Int) (hb : RdB w0 cv bs) (h : Src w0 w cv g K L) (hK : K < 1000000000000) :
    Calls Try.prog 84 #[.pointer (some ⟨g, 0, none⟩), .int .i64 n] w (AnInt 0 (max (n - 1) 0) fun w' => Src w0 w' cv g (K + 2) L) := by
  by_cases h1 : n ≤ 1
  · go_enter Try.func84, Try.ntmps84
    go_wp2_with fail
    go_ret
    exact ⟨0, by omega, by omega, rfl, h.mono (by omega)⟩
  · by_cases h2 : n ≤ 200
    · go_enter Try.func84, Try.ntmps84
      go_wp2_with fail
      refine (next_c w0 w cv bs g K L hb h (by omega)).mono ?_
      rintro e w1 ⟨x, hx0, hx1, rfl, h3⟩
      go_wp2_with fail
      go_ret
      have := Int.emod_nonneg x (show n ≠ 0 by omega)
      have := Int.emod_lt_of_pos x (show 0 < n by omega)
      exact ⟨_, by omega, by omega, rfl, h3.mono (by omega)⟩
    · go_enter Try.func84, Try.ntmps84
      go_wp2_with fail
      refine (next_c w0 w cv bs g K L hb h (by omega)).mono ?_
      rintro e w1 ⟨x, hx0, hx1, rfl, h3⟩
      go_wp2_with fail
      refine (next_c w0 w1 cv bs g (K + 1) L hb h3 (by omega)).mono ?_
      rintro e w2 ⟨y, hy0, hy1, rfl, h4⟩
      go_wp2_with fail
      go_ret
      have := Int.emod_nonneg (x * 256 + y) (show n ≠ 0 by omega)
      have := Int.emod_lt_of_pos (x * 256 + y) (show 0 < n by omega)
      exact ⟨_, by omega, by omega, rfl, h4.mono (by omega)⟩

def ABool (R : World → Prop) (e : Ending) (w' : World) : Prop := ∃ x : Bool, e = .returned (.bool x) ∧ R w'

theorem one_c (w0 w : World) (cv : Value) (bs : List UInt8) (g K : Nat) (L : List Ent) (n : Int) (hb : RdB w0 cv bs) (h : Src w0 w cv g K L) (hK : K < 1000000000000) :
    Calls Try.prog 39 #[.pointer (some ⟨g, 0, none⟩), .int .i64 n] w (ABool fun w' => Src w0 w' cv g (K + 2) L) := by
  go_enter Try.func39, Try.ntmps39
  go_wp2_with fail
  refine (pick_c w0 w cv bs g K L n hb h hK).mono ?_
  rintro e w1 ⟨x, hx0, hx1, rfl, h3⟩
  go_wp2_with fail
  go_ret
  exact ⟨_, rfl, h3⟩

theorem l00From_c (w : World) (cv : Value) (bs : List UInt8) (hb : RdB w cv bs) :
    Calls Try.prog 36 #[cv] w fun e w' => e = .returned (.pointer (some ⟨w.heap.size, 0, none⟩)) ∧ Src w w' cv w.heap.size 0 [] := by
  obtain ⟨av, n, c, rfl⟩ := hb.sh
  go_enter Try.func36, Try.ntmps36
  go_wp2_with fail
  go_ret
  exact ⟨rfl, 0, 0, by omega, by omega, (St.refl w).newbox _ _⟩
end Go.Proofs.Ytejncephbafcdaa
end

section
/- Walks: sets. -/
namespace Go.Proofs.Ytejncephbafcdaa
set_option linter.unusedSimpArgs false
set_option linter.unusedVariables false
open Go.RowKit

theorem validSetB_32 (xs : List Int) : validSetB xs 32 = incB (-1) 32 xs := by simp [validSetB, inB]

/-- the first place of a number from place k on, or -1 -/
def idxF (x : Int) (xs : List Int) (k : Nat) : Int := match (xs.drop k).findIdx? (x == ·) with | some j => (k + j : Nat) | none => -1

set_option maxHeartbeats 1000000 in
theorem IndexS_c (v : Value) (xs : List Int) (x : Int) (w : World) (hv : RdI w v xs) :
    Calls Try.prog 115 #[v, .int .i64 x] w fun e w' => e = .returned (.int .i64 (idxF x xs 0)) ∧ w = w' := by
  have hln := hv.len
  have hix := hv.ix
  have hcell := hv.cell
  have hm := hv.le
  go_enter Try.func115, Try.ntmps115
  go_wp2_with fail
  go_loop [5, 8] (fun _ i => ∃ k : Nat, k ≤ xs.length ∧ i = .int .i64 k ∧ Hid (idxF x xs 0 = idxF x xs k)) (fun _ i => xs.length - (intOf i).toNat)
  case atStart => exact ⟨0, by omega, rfl, rfl⟩
  case round =>
    obtain ⟨k, hk, rfl, hI⟩ := hrel
    by_cases hlt : k < xs.length
    · by_cases h1 : x = nth xs k
      · have f1 := eq_t h1
        have H1 := Lib.hid h1; clear h1
        go_wp2_with fail
        go_ret
        refine ⟨ret_i64 ?_, rfl⟩
        rw [hI.out, idxF, drop_nth hlt, List.findIdx?_cons, f1]; simp
      · have f1 := eq_f h1
        have H1 := Lib.hid h1; clear h1
        go_wp2_with fail
        go_round
        case rel =>
          refine ⟨k + 1, by omega, by go_num, ?_⟩
          rw [Hid, hI.out, idxF, drop_nth hlt, List.findIdx?_cons, f1]
          simp only [idxF]
          cases (xs.drop (k + 1)).findIdx? (x == ·) <;> simp <;> omega
        case measure => simp [intOf]; omega
    · go_wp2_with fail
      go_ret
      exact ⟨ret_i64 (by rw [hI.out, idxF, List.drop_of_length_le (by omega)]; rfl), rfl⟩

theorem idxF_ge {x : Int} {xs : List Int} : decide (0 ≤ idxF x xs 0) = xs.contains x := by
  unfold idxF
  rw [List.drop_zero]
  cases h : xs.findIdx? (x == ·) with
  | none =>
    have hn : xs.contains x = false := by
      rw [Bool.eq_false_iff]; intro hc
      rw [List.contains_iff_mem] at hc
      have := List.findIdx?_eq_none_iff.1 h x hc
      simp at this
    rw [hn]; simp
  | some j =>
    have hy : xs.contains x = true := by
      rw [List.contains_iff_mem]
      obtain ⟨hj, hp, _⟩ := List.findIdx?_eq_some_iff_getElem.1 h
      have : x = xs[j] := by simpa using hp
      rw [this]; exact List.getElem_mem hj
    rw [hy]; simp

theorem ContainsS_c (v : Value) (xs : List Int) (x : Int) (w : World) (hv : RdI w v xs) :
    Calls Try.prog 144 #[v, .int .i64 x] w fun e w' => e = .returned (.bool (decide (x ∈ xs))) ∧ w = w' := by
  go_enter Try.func144, Try.ntmps144
  go_wp2_with fail
  refine (IndexS_c v xs x w hv).mono ?_
  rintro e w1 ⟨rfl, rfl⟩
  go_wp2_with fail
  go_ret
  exact ⟨ret_bool (by rw [← ce]; exact idxF_ge), rfl⟩

set_option maxHeartbeats 2000000 in
set_option maxRecDepth 100000 in
theorem filtered_c (K : FuncId) (hcf : ∀ (args : Array Value) (W : World), (callFunc K args).run Try.prog W = .ok (.enter K args) W) (f : Bool → Bool → Bool) (hK : ∀ (a b : Bool) (W : World), Calls Try.prog K #[.bool a, .bool b] W fun e w' => e = .returned (.bool (f a b)) ∧ W = w')
    (va vb : Value) (xs ys : List Int) (w : World) (ha : RdI w va xs) (hb : RdI w vb ys) :
    Calls Try.prog 110 #[va, vb, .func (.func K) #[] #[]] w (MakesI w (filtR f xs ys)) := by
  have HK := Lib.hid hK
  clear hK
  have vx := validSetB_32 xs
  have vy := validSetB_32 ys
  by_cases h1 : IsSet xs
  · have h1' : incB (-1) 32 xs = true := h1
    by_cases h2 : IsSet ys
    · have h2' : incB (-1) 32 ys = true := h2
      have Hg := Lib.hid (show filtR f xs ys = [] ++ upF (fun x => f (xs.contains x) (ys.contains x)) 0 32 by rw [filtR, if_pos ⟨h1, h2⟩]; rfl)
      go_enter Try.func110, Try.ntmps110
      go_wp2_with fail
      refine (ValidSet_c va xs 32 w ha).mono ?_
      rw [vx, h1']
      rintro e w1 ⟨rfl, rfl⟩
      go_wp2_with fail
      refine (ValidSet_c vb ys 32 w hb).mono ?_
      rw [vy, h2']
      rintro e w1 ⟨rfl, rfl⟩
      clear vx vy h1' h2'
      go_wp2_with fail
      go_loopw [7, 8] (fun v i wr => ∃ (k : Nat) (zs : List Int), k ≤ 32 ∧ zs.length ≤ k ∧ i = .int .i64 k ∧ Hid (filtR f xs ys = zs ++ upF (fun x => f (xs.contains x) (ys.contains x)) k (32 - k)) ∧
          St w.heap.size w wr [row 2 v (iv zs)]) (fun _ i _ => 32 - (intOf i).toNat)
      case atStart => exact ⟨0, [], by omega, by simp, rfl, Hg, (St.refl w).emp⟩
      case round =>
        obtain ⟨k, zs, hk, hz, rfl, hI, hS⟩ := hrel
        by_cases hlt : k < 32
        · go_wp2_with fail
          refine (ContainsS_c va xs k wr (hS.oldI ha)).mono ?_
          rintro e w2 ⟨rfl, rfl⟩
          go_wp2_with fail
          refine (ContainsS_c vb ys k wr (hS.oldI hb)).mono ?_
          rintro e w2 ⟨rfl, rfl⟩
          go_wp2_with fail
          refine (HK.out _ _ _).mono ?_
          rintro e w2 ⟨rfl, rfl⟩
          have hstep : upF (fun x => f (xs.contains x) (ys.contains x)) k (32 - k) = if f (xs.contains (k : Int)) (ys.contains (k : Int)) then (k : Int) :: upF (fun x => f (xs.contains x) (ys.contains x)) (k + 1) (32 - (k + 1)) else upF (fun x => f (xs.contains x) (ys.contains x)) (k + 1) (32 - (k + 1)) := by
            rw [show 32 - k = (32 - (k + 1)) + 1 by omega]; rfl
          rw [ce, ce] at hstep
          have Hs := Lib.hid hstep
          clear hstep
          by_cases hf : f (decide ((k : Int) ∈ xs)) (decide ((k : Int) ∈ ys)) = true
          · rw [hf]
            have Hf := Lib.hid hf; clear hf
            go_wp2_with (at_builtin; refine appI hS 0 rfl (by omega) rfl _ _ rfl rfl _ rfl ?_; intro v' w2 hS2)
            go_roundw
            case rel => exact ⟨k + 1, zs ++ [(k : Int)], by omega, by simp; omega, by go_num, by rw [Hid, hI.out, Hs.out, if_pos Hf.out]; simp, hS2⟩
            case measure => simp [intOf]; omega
          · have hf' : f (decide ((k : Int) ∈ xs)) (decide ((k : Int) ∈ ys)) = false := by simpa using hf
            rw [hf']
            have Hf := Lib.hid hf'; clear hf hf'
            go_wp2_with fail
            go_roundw
            case rel => exact ⟨k + 1, zs, by omega, by omega, by go_num, by rw [Hid, hI.out, Hs.out, Hf.out, if_neg (by simp)], hS⟩
            case measure => simp [intOf]; omega
        · go_wp2_with fail
          go_ret
          refine ⟨_, rfl, ?_⟩
          rw [hI.out, show 32 - k = 0 by omega]
          simp only [upF, List.append_nil]
          exact hS
    · have h2' : incB (-1) 32 ys = false := by simpa [IsSet] using h2
      go_enter Try.func110, Try.ntmps110
      go_wp2_with fail
      refine (ValidSet_c va xs 32 w ha).mono ?_
      rw [vx, h1']
      rintro e w1 ⟨rfl, rfl⟩
      go_wp2_with fail
      refine (ValidSet_c vb ys 32 w hb).mono ?_
      rw [vy, h2']
      rintro e w1 ⟨rfl, rfl⟩
      go_wp2_with fail
      go_ret
      exact ⟨_, rfl, by rw [filtR, if_neg (fun h => h2 h.2)]; exact (St.refl w).emp⟩
  · have h1' : incB (-1) 32 xs = false := by simpa [IsSet] using h1
    go_enter Try.func110, Try.ntmps110
    go_wp2_with fail
    refine (ValidSet_c va xs 32 w ha).mono ?_
    rw [vx, h1']
    rintro e w1 ⟨rfl, rfl⟩
    go_wp2_with fail
    go_ret
    exact ⟨_, rfl, by rw [filtR, if_neg (fun h => h1 h.1)]; exact (St.refl w).emp⟩
end Go.Proofs.Ytejncephbafcdaa
end

section
/- The source of choices: what lies beside it. -/
namespace Go.Proofs.Ytejncephbafcdaa
set_option linter.unusedSimpArgs false
set_option linter.unusedVariables false
open Go.RowKit

theorem Src.call {w0 w w' : World} {cv : Value} {g K : Nat} {L L' : List Ent} (h : Src w0 w cv g K L) (h' : St w.heap.size w w' L') : Src w0 w' cv g K (L ++ L') := by
  obtain ⟨p, s, h0, h1, hS⟩ := h
  exact ⟨p, s, h0, h1, hS.call h'⟩
theorem Src.sub {w0 w : World} {cv : Value} {g K : Nat} {L L' : List Ent} (h : Src w0 w cv g K L) (h' : L'.Sublist L) : Src w0 w cv g K L' := by
  obtain ⟨p, s, h0, h1, hS⟩ := h
  exact ⟨p, s, h0, h1, hS.sub (h'.cons_cons _)⟩
theorem Src.rdI {w0 w : World} {cv : Value} {g K : Nat} {L : List Ent} (h : Src w0 w cv g K L) (i : Nat) {e : TypeId} {v : Value} {xs : List Int} (hi : L[i]? = some (row e v (iv xs))) : RdI w v xs := by
  obtain ⟨p, s, h0, h1, hS⟩ := h
  exact hS.rdI (i + 1) hi

theorem St.emp0 {w : World} : St w.heap.size w (w.alloc (.cells #[] 2)) [row 2 (.slice (some ⟨w.heap.size, 0, none⟩) 0 0) (iv [])] :=
  (St.refl w).new 2 #[] (by simp)

theorem Src.perm {w0 w : World} {cv : Value} {g K : Nat} {L L' : List Ent} (h : Src w0 w cv g K L) (h' : L.Perm L') : Src w0 w cv g K L' := by
  obtain ⟨p, s, h0, h1, hS⟩ := h
  exact ⟨p, s, h0, h1, hS.perm (h'.cons _)⟩
theorem Src.call0 {w0 w w' : World} {cv : Value} {g K : Nat} {L : List Ent} (h : Src w0 w cv g K L) (h' : St w.heap.size w w' []) : Src w0 w' cv g K L := by
  have := h.call h'; rwa [List.append_nil] at this
theorem Src.rd {w0 w : World} {cv : Value} {g K : Nat} {L : List Ent} (h : Src w0 w cv g K L) (i : Nat) {e : TypeId} {v : Value} {us : List Value} (hi : L[i]? = some (row e v us)) : Rd w v us := by
  obtain ⟨p, s, h0, h1, hS⟩ := h
  exact hS.rd (i + 1) hi
theorem Src.box {w0 w : World} {cv : Value} {g K : Nat} {L : List Ent} (h : Src w0 w cv g K L) (i : Nat) {e : TypeId} {gf : Nat} {us : List Value} (hi : L[i]? = some (Go.Proofs.Ytejncephbafcdaa.box e gf us)) (j : Nat) {u : Value} (hj : us[j]? = some u) : w.cell? ⟨gf, j, none⟩ = some u := by
  obtain ⟨p, s, h0, h1, hS⟩ := h
  exact hS.bcell (i + 1) hi j hj
theorem Src.bfree {w0 w : World} {cv : Value} {g K : Nat} {L : List Ent} (h : Src w0 w cv g K L) (i : Nat) {e : TypeId} {gf : Nat} {us : List Value} (hi : L[i]? = some (Go.Proofs.Ytejncephbafcdaa.box e gf us)) (j : Nat) : w.frozen? ⟨gf, j, none⟩ = false := by
  obtain ⟨p, s, h0, h1, hS⟩ := h
  exact hS.bfree (i + 1) hi j
theorem Src.bstore {w0 w : World} {cv : Value} {g K : Nat} {L : List Ent} (h : Src w0 w cv g K L) (i : Nat) {e : TypeId} {gf : Nat} {us : List Value} (hi : L[i]? = some (Go.Proofs.Ytejncephbafcdaa.box e gf us)) (j : Nat) (u : Value) :
    Src w0 (w.setCell ⟨gf, j, none⟩ u) cv g K (L.set i (Go.Proofs.Ytejncephbafcdaa.box e gf (us.set j u))) := by
  obtain ⟨p, s, h0, h1, hS⟩ := h
  exact ⟨p, s, h0, h1, hS.bstore (i + 1) hi j u⟩
/-- a new block behind a pointer, ahead of the others -/
theorem Src.newboxF {w0 w : World} {cv : Value} {g K : Nat} {L : List Ent} (h : Src w0 w cv g K L) (e : TypeId) (cs : Array Value) : Src w0 (w.alloc (.cells cs e)) cv g K (Go.Proofs.Ytejncephbafcdaa.box e w.heap.size cs.toList :: L) := by
  obtain ⟨p, s, h0, h1, hS⟩ := h
  exact ⟨p, s, h0, h1, (hS.newboxF e cs).perm (List.Perm.swap _ _ _)⟩
theorem Src.drew {w0 w : World} {cv : Value} {g K : Nat} {L : List Ent} (h : Src w0 w cv g K L) : Src w0 w.drew cv g K L := by
  obtain ⟨p, s, h0, h1, hS⟩ := h
  exact ⟨p, s, h0, h1, hS.drew⟩
theorem St.emp0II {w : World} : St w.heap.size w (w.alloc (.cells #[] 52)) [row 52 (.slice (some ⟨w.heap.size, 0, none⟩) 0 0) []] :=
  (St.refl w).new 52 #[] (by simp)
/-- a new empty row of rows, ahead of the others -/
theorem Src.empII {w0 w : World} {cv : Value} {g K : Nat} {L : List Ent} (h : Src w0 w cv g K L) :
    Src w0 (w.alloc (.cells #[] 52)) cv g K (row 52 (.slice (some ⟨w.heap.size, 0, none⟩) 0 0) [] :: L) :=
  (h.call St.emp0II).perm List.perm_append_comm

/-- the source, laid behind what there is -/
theorem l00FromS (w0 w : World) (cv : Value) (bs : List UInt8) (L : List Ent) (hb : RdB w0 cv bs) (hS : St w0.heap.size w0 w L) :
    Calls Try.prog 36 #[cv] w fun e w' => ∃ g, e = .returned (.pointer (some ⟨g, 0, none⟩)) ∧ Src w0 w' cv g 0 L :=
  (l00From_c w cv bs (hS.oldB hb)).mono fun e w' ⟨he, p, s, h0, h1, h2⟩ => ⟨_, he, p, s, h0, h1, (hS.call h2).perm List.perm_append_comm⟩
theorem Src.riiS {w0 w : World} {cv : Value} {g K : Nat} {L : List Ent} (h : Src w0 w cv g K L) {v : Value} {us : List Value} {A : List (List Int)} (hs : (own2 v us A).Sublist L) (hl : us.length = A.length) : RII w v us A := (h.st.sub hs).rii hl
end Go.Proofs.Ytejncephbafcdaa
end

section
/- Walks: what the laws on numbers draw. -/
namespace Go.Proofs.Ytejncephbafcdaa
set_option linter.unusedSimpArgs false
set_option linter.unusedVariables false
open Go.RowKit

theorem Src.lit {w0 w : World} {cv : Value} {g K : Nat} {L : List Ent} (h : Src w0 w cv g K L) (xs : List Int) (hm : xs.length ≤ 1000) :
    Src w0 (w.alloc (.cells (iv xs).toArray 2)) cv g K (row 2 (.slice (some ⟨w.heap.size, 0, none⟩) xs.length xs.length) (iv xs) :: L) := by
  obtain ⟨p, s, h0, h1, hS⟩ := h
  refine ⟨p, s, h0, h1, ?_⟩
  have h2 := hS.new 2 (iv xs).toArray (by simp [iv_len]; unfold maxLen; omega)
  simp only [List.size_toArray, iv_len] at h2
  refine h2.perm ?_
  refine List.Perm.trans (List.perm_append_comm) ?_
  simp only [List.cons_append, List.nil_append]
  exact List.Perm.swap _ _ _

end Go.Proofs.Ytejncephbafcdaa
end

section
/- Walks: operations on sets, and what the law on sets draws. -/
namespace Go.Proofs.Ytejncephbafcdaa
set_option linter.unusedSimpArgs false
set_option linter.unusedVariables false
open Go.RowKit

def ifSets (a b : List Int) (r : List Int) : List Int := if IsSet a ∧ IsSet b then r else []

theorem keepM (a b : Bool) (W : World) : Calls Try.prog 118 #[.bool a, .bool b] W fun e w' => e = .returned (.bool (a && b)) ∧ W = w' := by
  cases a <;> cases b <;> (go_enter Try.func118, Try.ntmps118; go_wp2_with fail; go_ret; exact ⟨rfl, rfl⟩)
theorem MeetSets_c (va vb : Value) (xs ys : List Int) (w : World) (ha : RdI w va xs) (hb : RdI w vb ys) :
    Calls Try.prog 72 #[va, vb] w (MakesI w (ifSets xs ys (mee xs ys))) := by
  go_enter Try.func72, Try.ntmps72
  go_wp2_with fail
  refine (filtered_c _ (callFunc_go Try.func118 (by kernel_rfl) (by kernel_rfl)) (fun a b => a && b) keepM va vb xs ys w ha hb).mono ?_
  rintro e w1 ⟨v, rfl, h1⟩
  go_wp2_with fail
  go_ret
  exact ⟨_, rfl, h1⟩
set_option maxHeartbeats 2000000 in
set_option maxRecDepth 100000 in
theorem l00Rises_c (v : Value) (xs : List Int) (lo hi : Int) (w : World) (hv : RdI w v xs) :
    Calls Try.prog 142 #[v, .int .i64 lo, .int .i64 hi] w (GivesB w (incB (lo - 1) (hi + 1) xs)) := by
  have hln := hv.len
  have hix := hv.ix
  have hm := hv.le
  go_enter Try.func142, Try.ntmps142
  go_wp2_with fail
  go_loopw [7] (fun i wr => ∃ (k : Nat) (last : Int), k ≤ xs.length ∧ i = .int .i64 k ∧ Hid (incB (lo - 1) (hi + 1) xs = incB last (hi + 1) (xs.drop k)) ∧ Hid (k = 0 → last = lo - 1) ∧ Hid (0 < k → last = nth xs (k - 1)) ∧ lo - 1 ≤ last ∧ St w.heap.size w wr []) (fun i _ => xs.length - (intOf i).toNat)
  case atStart => exact ⟨0, lo - 1, by omega, rfl, rfl, fun _ => rfl, fun h => by omega, by omega, St.refl w⟩
  case round =>
    obtain ⟨k, last, hk, rfl, hI, hl0, hl1, hll, hS⟩ := hrel
    by_cases hlt : k < xs.length
    · have hd := Lib.hid (incB_drop hlt last (hi + 1))
      have hq := fun s : SS w.heap.size w [] => (s.st.oldI hv).cell k hlt
      by_cases h1 : lo ≤ nth xs k ∧ nth xs k ≤ hi
      · have i1 := inB_true h1
        obtain ⟨h1a, h1b⟩ := h1
        by_cases h0 : 0 < k
        · have Hl := Lib.hid (hl1.out h0)
          have hix1 := hv.ixe ((k : Int) - 1) (k - 1) (by omega) (by omega)
          have hq1 := fun s : SS w.heap.size w [] => (s.st.oldI hv).cell (k - 1) (by omega)
          by_cases h2 : nth xs k ≤ nth xs (k - 1)
          · go_wp2_with fail
            have hne : Nonempty (SS _ _ _) := ⟨⟨_, hS⟩⟩
            refine wp_region_st (by kernel_rfl) (by kernel_rfl) hS ?_
            repeat (go_big_quiet_step ((go_at_call 68; exact st_quiet0 (l00In_c _ _ _ _))))
            refine wpQuiet_nil ?_
            rintro _ ⟨s2, rfl⟩
            have hS2 := s2.st
            generalize s2.w = w2 at hS2 ⊢
            go_wp2_with fail
            go_ret
            exact ⟨ret_bool (by rw [hI.out, hd.out, Hl.out]; simp [h2]), hS2⟩
          · go_wp2_with fail
            have hne : Nonempty (SS _ _ _) := ⟨⟨_, hS⟩⟩
            refine wp_region_st (by kernel_rfl) (by kernel_rfl) hS ?_
            repeat (go_big_quiet_step ((go_at_call 68; exact st_quiet0 (l00In_c _ _ _ _))))
            refine wpQuiet_nil ?_
            rintro _ ⟨s2, rfl⟩
            have hS2 := s2.st
            generalize s2.w = w2 at hS2 ⊢
            go_wp2_with fail
            go_roundw
            case rel => exact ⟨k + 1, nth xs k, by omega, by go_num, by rw [Hid, hI.out, hd.out, Hl.out, if_neg (by omega)], fun h => by omega, fun _ => rfl, by omega, hS2⟩
            case measure => simp [intOf]; omega
        · have Hl := Lib.hid (hl0.out (by omega))
          go_wp2_with fail
          have hne : Nonempty (SS _ _ _) := ⟨⟨_, hS⟩⟩
          refine wp_region_st (by kernel_rfl) (by kernel_rfl) hS ?_
          repeat (go_big_quiet_step ((go_at_call 68; exact st_quiet0 (l00In_c _ _ _ _))))
          refine wpQuiet_nil ?_
          rintro _ ⟨s2, rfl⟩
          have hS2 := s2.st
          generalize s2.w = w2 at hS2 ⊢
          go_wp2_with fail
          go_roundw
          case rel => exact ⟨k + 1, nth xs k, by omega, by go_num, by rw [Hid, hI.out, hd.out, Hl.out, if_neg (by omega)], fun h => by omega, fun _ => rfl, by omega, hS2⟩
          case measure => simp [intOf]; omega
      · have i1 := inB_false h1
        have H1 := Lib.hid h1; clear h1
        go_wp2_with fail
        have hne : Nonempty (SS _ _ _) := ⟨⟨_, hS⟩⟩
        refine wp_region_st (by kernel_rfl) (by kernel_rfl) hS ?_
        repeat (go_big_quiet_step ((go_at_call 68; exact st_quiet0 (l00In_c _ _ _ _))))
        refine wpQuiet_nil ?_
        rintro _ ⟨s2, rfl⟩
        have hS2 := s2.st
        generalize s2.w = w2 at hS2 ⊢
        go_wp2_with fail
        go_ret
        exact ⟨ret_bool (by rw [hI.out, hd.out, if_pos (by have := H1.out; omega)]), hS2⟩
    · go_wp2_with fail
      go_ret
      exact ⟨ret_bool (by rw [hI.out, List.drop_of_length_le (by omega)]; simp [incB]), hS⟩

end Go.Proofs.Ytejncephbafcdaa
end

section
/- Walks: arrays by value. Walks: valid arrays, equal arrays. -/
namespace Go.Proofs.Ytejncephbafcdaa
set_option linter.unusedSimpArgs false
set_option linter.unusedVariables false
open Go.RowKit


/-- an array as a value -/
def av (lv co : Int) (v : Value) : Value := .agg #[.int .i64 lv, .int .i64 co, v]

/-- a block that holds an array -/
def BoxA (w : World) (g : Nat) (lv co : Int) (v : Value) : Prop :=
  w.cell? ⟨g, 0, none⟩ = some (.int .i64 lv) ∧ w.cell? ⟨g, 1, none⟩ = some (.int .i64 co) ∧ w.cell? ⟨g, 2, none⟩ = some v
theorem cell_keep {w w' : World} (hb : Below w.heap.size w w') {p : Addr} {u : Value} (h : w.cell? p = some u) : w'.cell? p = some u := by
  rw [hb.cell (World.block_lt_of_cell? _ _ h)]; exact h
theorem BoxA.keep {w w' : World} {g : Nat} {lv co : Int} {v : Value} (h : BoxA w g lv co v) (hb : Below w.heap.size w w') : BoxA w' g lv co v :=
  ⟨cell_keep hb h.1, cell_keep hb h.2.1, cell_keep hb h.2.2⟩
end Go.Proofs.Ytejncephbafcdaa
end

section
/- Walks: valid designs of both sides, equal designs. -/
namespace Go.Proofs.Ytejncephbafcdaa
set_option linter.unusedSimpArgs false
set_option linter.unusedVariables false
open Go.RowKit

/-- a design as a value -/
def dv (P : Int) (v : Value) : Value := .agg #[.int .i64 P, v]
def BoxD (w : World) (g : Nat) (P : Int) (v : Value) : Prop := w.cell? ⟨g, 0, none⟩ = some (.int .i64 P) ∧ w.cell? ⟨g, 1, none⟩ = some v
theorem BoxD.keep {w0 w : World} {g : Nat} {P : Int} {v : Value} (h : BoxD w0 g P v) (hb : Below w0.heap.size w0 w) : BoxD w g P v := by
  obtain ⟨h1, h2⟩ := h
  have hg : g < w0.heap.size := by
    rcases Nat.lt_or_ge g w0.heap.size with h | h
    · exact h
    · rw [World.cell?, Array.getElem?_eq_none h] at h1; cases h1
  exact ⟨by rw [hb.cell hg]; exact h1, by rw [hb.cell hg]; exact h2⟩
theorem St.oldBoxD {w0 w : World} {L : List Ent} {g : Nat} {P : Int} {v : Value} (h : St w0.heap.size w0 w L) (hr : BoxD w0 g P v) : BoxD w g P v := hr.keep h.below

theorem isBlock_c (v : Value) (xs : List Int) (P : Int) (w : World) (hv : RdI w v xs) :
    Calls Try.prog 124 #[v, .int .i64 P] w fun e w' => e = .returned (.bool (blkB P xs)) ∧ w = w' := by
  have hln := hv.len
  by_cases h0 : 0 < xs.length
  · have H : Hid (blkB P xs = validSetB xs P) := by rw [Hid, blkB, decide_eq_true h0]; rfl
    go_enter Try.func124, Try.ntmps124
    go_wp2_with (go_at_call 132; refine (ValidSet_c _ _ _ _ hv).mono ?_; rintro e w1 ⟨rfl, rfl⟩)
    go_ret
    exact ⟨by rw [H.out]; rfl, rfl⟩
  · have H : Hid (blkB P xs = false) := by rw [Hid, blkB, decide_eq_false h0]; rfl
    go_enter Try.func124, Try.ntmps124
    go_wp2_with fail
    go_ret
    exact ⟨by rw [H.out]; rfl, rfl⟩
theorem areBlocks1_c (v : Value) (xs : List Int) (g : Nat) (P : Int) (w : World) (hv : RdI w v xs) (hb : w.cell? ⟨g, 0, none⟩ = some (.int .i64 P)) :
    Calls Try.prog 123 #[v, .pointer (some ⟨g, 0, none⟩)] w (GivesB w (!blkB P xs)) := by
  go_enter Try.func123, Try.ntmps123
  go_wp2_with fail
  refine (isBlock_c _ _ _ _ hv).mono ?_
  rintro e w1 ⟨rfl, rfl⟩
  go_wp2_with fail
  go_ret
  exact ⟨rfl, St.refl w⟩
theorem anyR_not {p : List Int → Bool} {A : List (List Int)} : (!anyR (fun b => !p b) A) = A.all p := by
  unfold anyR
  induction A with
  | nil => rfl
  | cons a r ih => simp only [List.any_cons, List.all_cons, Bool.not_or, ih, Bool.not_not]
set_option maxHeartbeats 1000000 in
theorem areBlocks_c (v : Value) (us : List Value) (A : List (List Int)) (P : Int) (w : World) (hv : RII w v us A) :
    Calls Try.prog 81 #[v, .int .i64 P] w (GivesB w (inB P 1 32 && A.all (blkB P))) := by
  have hS1 := (St.refl w).newbox 2 #[.int .i64 P]
  have hcf := callFunc_go Try.func123 (by kernel_rfl) (by kernel_rfl)
  have hb := hS1.bcell 0 rfl 0 rfl
  cases hp : inB P 1 32
  · go_enter Try.func81, Try.ntmps81
    go_wp2_with (go_at_call 43; refine (within_c _ _ _ _).mono ?_; rw [hp]; rintro e w1 ⟨rfl, rfl⟩)
    go_ret
    exact ⟨rfl, hS1.out⟩
  · have hmf : ∀ (fn : Fn) (first cap : Array Value) (w : World), (Instr.makeFunc fn first cap).run Try.prog w = .ok (.func fn first cap) w := fun _ _ _ _ => rfl
    have hcall := Lib.hid (ContainsFuncR_c 123 #[.pointer (some ⟨w.heap.size, 0, none⟩)] (fun b => !blkB P b) v us A _ (hS1.oldII hv) hcf (fun j W hW hj => areBlocks1_c _ _ w.heap.size P W ((hW.oldII (hS1.oldII hv)).row j hj) (by
      have h2 := hS1.call0 hW
      exact h2.bcell 0 rfl 0 rfl)))
    clear hcf
    go_enter Try.func81, Try.ntmps81
    go_wp2_with (first | (go_at_call 43; refine (within_c _ _ _ _).mono ?_; rw [hp]; rintro e w1 ⟨rfl, rfl⟩) | (go_at_call 66; refine hcall.out.mono ?_; rintro e w2 ⟨rfl, h2⟩; have hS2 := hS1.call0 h2))
    go_ret
    exact ⟨ret_bool (by rw [anyR_not]; rfl), hS2.out⟩
set_option maxHeartbeats 1000000 in
theorem ValidDesign_c (P : Int) (v : Value) (us : List Value) (A : List (List Int)) (w : World) (hv : RII w v us A) :
    Calls Try.prog 57 #[dv P v] w (GivesB w (dOk P A)) := by
  have hS1 := (St.refl w).newbox 41 #[.int .i64 P, v]
  have hb0 := hS1.bcell 0 rfl 0 rfl
  have hb1 := hS1.bcell 0 rfl 1 rfl
  have hln := hv.len
  unfold dv
  have hcall := fun W a => Lib.hid (areBlocks_c v us A P W a)
  have hsrt := fun W a => Lib.hid (IsSortedR_c v us A W a)
  cases hp : inB P 1 32 && A.all (blkB P)
  · rw [hp] at hcall
    have H : Hid (dOk P A = false) := by rw [Hid, dOk, hp]; rfl
    go_enter Try.func57, Try.ntmps57
    go_wp2_with (go_at_call 81; refine (hcall _ (hS1.oldII hv)).out.mono ?_; rintro e w2 ⟨rfl, h2⟩; have hS2 := hS1.call0 h2)
    go_ret
    exact ⟨ret_bool H.out.symm, hS2.out⟩
  · rw [hp] at hcall
    by_cases hl : A.length ≤ 128
    · have H : Hid (dOk P A = srtB A) := by rw [Hid, dOk, hp, decide_eq_true hl]; rfl
      go_enter Try.func57, Try.ntmps57
      go_wp2_with (first | (go_at_call 81; refine (hcall _ (hS1.oldII hv)).out.mono ?_; rintro e w2 ⟨rfl, h2⟩; have hS2 := hS1.call0 h2; have c1 := hS2.bcell 0 rfl 1 rfl) | (go_at_call 108; refine (hsrt _ (hS2.oldII hv)).out.mono ?_; rintro e w3 ⟨rfl, h3⟩; have hS3 := hS2.call0 h3))
      go_ret
      exact ⟨ret_bool H.out.symm, hS3.out⟩
    · have H : Hid (dOk P A = false) := by rw [Hid, dOk, hp, decide_eq_false hl]; rfl
      have hl' : 128 < A.length := by omega
      go_enter Try.func57, Try.ntmps57
      go_wp2_with (go_at_call 81; refine (hcall _ (hS1.oldII hv)).out.mono ?_; rintro e w2 ⟨rfl, h2⟩; have hS2 := hS1.call0 h2; have c1 := hS2.bcell 0 rfl 1 rfl)
      go_ret
      exact ⟨ret_bool H.out.symm, hS2.out⟩

theorem blkB_in {P : Int} (h : 1 ≤ P ∧ P ≤ 32) (b : List Int) : blkB P b = (decide (0 < b.length) && incB (-1) P b) := by
  rw [blkB, validSetB, show inB P 0 32 = true by simp [inB]; omega, Bool.and_true]
theorem l10Block_c (v : Value) (xs : List Int) (P : Int) (w : World) (hv : RdI w v xs) (h : 1 ≤ P ∧ P ≤ 32) :
    Calls Try.prog 104 #[v, .int .i64 P] w (GivesB w (blkB P xs)) := by
  have hln := hv.len
  have hw : IntKind.i64.wrap (P - 1) = P - 1 := IntWalk.i64_in _ (by omega)
  by_cases h0 : 0 < xs.length
  · have H : Hid (blkB P xs = incB (-1) P xs) := by rw [Hid, blkB_in h, decide_eq_true h0]; rfl
    go_enter Try.func104, Try.ntmps104
    go_wp2_with (go_at_call 142; refine (l00Rises_c _ _ _ _ _ hv).mono ?_; rintro e w1 ⟨rfl, h1⟩)
    go_ret
    exact ⟨by rw [H.out]; rfl, h1⟩
  · have H : Hid (blkB P xs = false) := by rw [Hid, blkB, decide_eq_false h0]; rfl
    go_enter Try.func104, Try.ntmps104
    go_wp2_with fail
    go_ret
    exact ⟨by rw [H.out]; rfl, St.refl w⟩
theorem srtB_adj : ∀ {A : List (List Int)}, (∀ j, j + 1 < A.length → leL (xat A j) (xat A (j + 1)) = true) → srtB A = true
  | [], _ => rfl
  | [_], _ => rfl
  | a :: b :: r, h => by
    rw [srtB, Bool.and_eq_true]
    exact ⟨h 0 (by simp), srtB_adj fun j hj => h (j + 1) (by simp at hj ⊢; omega)⟩
set_option maxHeartbeats 4000000 in
set_option maxRecDepth 100000 in
theorem l10Ok_c (P : Int) (g : Nat) (v : Value) (us : List Value) (A : List (List Int)) (w : World) (hv : RII w v us A) (hb : BoxD w g P v) :
    Calls Try.prog 55 #[.pointer (some ⟨g, 0, none⟩)] w (GivesB w (dOk P A)) := by
  have hln := hv.len
  have hix := hv.ixe
  have q0 := fun s : SS w.heap.size w [] => (s.st.oldBoxD hb).1
  have q1 := fun s : SS w.heap.size w [] => (s.st.oldBoxD hb).2
  obtain ⟨b0, b1⟩ := id hb
  cases hp : inB P 1 32
  · have H : Hid (dOk P A = false) := by rw [Hid, dOk, hp]; rfl
    go_enter Try.func55, Try.ntmps55
    go_wp2_with (go_at_call 68; refine (l00In_c _ _ _ _).mono ?_; rw [hp]; rintro e w1 ⟨rfl, rfl⟩)
    go_ret
    exact ⟨ret_bool H.out.symm, St.refl w⟩
  · have hP : 1 ≤ P ∧ P ≤ 32 := by simpa [inB] using hp
    by_cases hl : A.length ≤ 128
    · have H0 : Hid (dOk P A = (A.all (blkB P) && srtB A)) := by rw [Hid, dOk, hp, decide_eq_true hl, Bool.and_true]; rfl
      go_enter Try.func55, Try.ntmps55
      go_wp2_with (go_at_call 68; refine (l00In_c _ _ _ _).mono ?_; rw [hp]; rintro e w1 ⟨rfl, rfl⟩)
      go_loopw [3] (fun i wr => ∃ k : Nat, k ≤ A.length ∧ i = .int .i64 k ∧ Hid ((∀ j, j < k → blkB P (xat A j) = true) ∧ (∀ j, j + 1 < k → leL (xat A j) (xat A (j + 1)) = true)) ∧ St w.heap.size w wr []) (fun i _ => A.length - (intOf i).toNat)
      case atStart => exact ⟨0, by omega, rfl, ⟨fun j hj => by omega, fun j hj => by omega⟩, St.refl w⟩
      case round =>
        clear b0 b1
        obtain ⟨k, hk, rfl, hI, hS⟩ := hrel
        obtain ⟨b0, b1⟩ := hS.oldBoxD hb
        by_cases hlt : k < A.length
        · have R1 := Lib.hid fun s : SS w.heap.size w [] => (s.st.oldII hv).row k hlt
          have hq1 := fun s : SS w.heap.size w [] => (s.st.oldII hv).cell k hlt
          have x1 := hix (k : Int) k rfl hlt
          cases hbk : blkB P (xat A k)
          · have HN : Hid (dOk P A = false) := by
              rw [Hid, H0.out, Bool.and_eq_false_iff]
              refine .inl (Bool.eq_false_iff.2 fun h => ?_)
              rw [List.all_eq_true.1 h _ (xat_mem hlt)] at hbk; cases hbk
            have Hbk := Lib.hid hbk
            go_wp2_with fail
            have hne : Nonempty (SS _ _ _) := ⟨⟨_, hS⟩⟩
            refine wp_region_st (by kernel_rfl) (by kernel_rfl) hS ?_
            repeat (go_big_quiet_step ((go_at_call 104; exact st_quiet (l10Block_c _ _ _ _ (R1.out _) hP))))
            refine wpQuiet_nil ?_
            rintro _ ⟨s2, rfl⟩
            have hS2 := s2.st
            generalize s2.w = w2 at hS2 ⊢
            go_wp2_with fail
            go_ret
            exact ⟨ret_bool HN.out.symm, hS2⟩
          · have Hbk := Lib.hid hbk
            by_cases hk0 : 0 < k
            · obtain ⟨m, hmk⟩ : ∃ m, m + 1 = k := ⟨k - 1, by omega⟩
              have R0 := Lib.hid fun s : SS w.heap.size w [] => (s.st.oldII hv).row m (by omega)
              have hq0 := fun s : SS w.heap.size w [] => (s.st.oldII hv).cell m (by omega)
              have x0 := hix ((k : Int) - 1) m (by omega) (by omega)
              have hw : IntKind.i64.wrap ((k : Int) - 1) = ((k : Int) - 1) := IntWalk.i64_in _ (by omega)
              have Hmk := Lib.hid hmk
              clear hmk
              cases hc : leL (xat A m) (xat A k)
              · have hgt : 0 < cmpI (xat A m) (xat A k) := by
                  have := of_decide_eq_false hc; omega
                have HN : Hid (dOk P A = false) := by
                  rw [Hid, H0.out, srtB_no (k := m) (by have := Hmk.out; omega) (by rw [Hmk.out]; exact hc), Bool.and_false]
                clear hc
                go_wp2_with fail
                have hne : Nonempty (SS _ _ _) := ⟨⟨_, hS⟩⟩
                refine wp_region_st (by kernel_rfl) (by kernel_rfl) hS ?_
                repeat (go_big_quiet_step ((first | (go_at_call 104; exact st_quiet (l10Block_c _ _ _ _ (R1.out _) hP)) | (go_at_call 105; exact st_quiet (sCompareLists_c _ _ _ _ _ (R0.out _) (R1.out _))))))
                refine wpQuiet_nil ?_
                rintro _ ⟨s2, rfl⟩
                have hS2 := s2.st
                generalize s2.w = w2 at hS2 ⊢
                go_wp2_with fail
                go_ret
                exact ⟨ret_bool HN.out.symm, hS2⟩
              · have hgt : ¬ 0 < cmpI (xat A m) (xat A k) := by
                  have := of_decide_eq_true hc; omega
                have Hc := Lib.hid hc
                clear hc
                go_wp2_with fail
                have hne : Nonempty (SS _ _ _) := ⟨⟨_, hS⟩⟩
                refine wp_region_st (by kernel_rfl) (by kernel_rfl) hS ?_
                repeat (go_big_quiet_step ((first | (go_at_call 104; exact st_quiet (l10Block_c _ _ _ _ (R1.out _) hP)) | (go_at_call 105; exact st_quiet (sCompareLists_c _ _ _ _ _ (R0.out _) (R1.out _))))))
                refine wpQuiet_nil ?_
                rintro _ ⟨s2, rfl⟩
                have hS2 := s2.st
                generalize s2.w = w2 at hS2 ⊢
                go_wp2_with fail
                go_roundw
                case rel => exact ⟨k + 1, by omega, by go_num, ⟨fun j hj => by
                  by_cases e : j = k
                  · rw [e]; exact Hbk.out
                  · exact hI.out.1 j (by omega), fun j hj => by
                  by_cases e : j = m
                  · rw [e, Hmk.out]; exact Hc.out
                  · exact hI.out.2 j (by have := Hmk.out; omega)⟩, hS2⟩
                case measure => simp [intOf]; omega
            · go_wp2_with fail
              have hne : Nonempty (SS _ _ _) := ⟨⟨_, hS⟩⟩
              refine wp_region_st (by kernel_rfl) (by kernel_rfl) hS ?_
              repeat (go_big_quiet_step ((go_at_call 104; exact st_quiet (l10Block_c _ _ _ _ (R1.out _) hP))))
              refine wpQuiet_nil ?_
              rintro _ ⟨s2, rfl⟩
              have hS2 := s2.st
              generalize s2.w = w2 at hS2 ⊢
              go_wp2_with fail
              go_roundw
              case rel => exact ⟨k + 1, by omega, by go_num, ⟨fun j hj => by
                rw [show j = k by omega]; exact Hbk.out, fun j hj => by omega⟩, hS2⟩
              case measure => simp [intOf]; omega
        · obtain rfl : k = A.length := by omega
          have HY : Hid (dOk P A = true) := by
            rw [Hid, H0.out, Bool.and_eq_true]
            refine ⟨List.all_eq_true.2 fun b hb' => ?_, srtB_adj hI.out.2⟩
            obtain ⟨j, hj, rfl⟩ := List.getElem_of_mem hb'
            have := hI.out.1 j hj
            rwa [xat_eq hj] at this
          go_wp2_with fail
          go_ret
          exact ⟨ret_bool HY.out.symm, hS⟩
    · have H : Hid (dOk P A = false) := by rw [Hid, dOk, hp, decide_eq_false hl]; simp
      have hl' : 128 < A.length := by omega
      go_enter Try.func55, Try.ntmps55
      go_wp2_with (go_at_call 68; refine (l00In_c _ _ _ _).mono ?_; rw [hp]; rintro e w1 ⟨rfl, rfl⟩)
      go_ret
      exact ⟨ret_bool H.out.symm, St.refl w⟩

end Go.Proofs.Ytejncephbafcdaa
end

section
/- Walks: a design of sorted copies; complements. -/
namespace Go.Proofs.Ytejncephbafcdaa
set_option linter.unusedSimpArgs false
set_option linter.unusedVariables false
open Go.RowKit
attribute [local go_sem ↓] Go.wp_at_zero Go.wp_at_succ

/-- it hands over a design of its own, and a code -/
def MakesD (w : World) (P : Int) (A : List (List Int)) (c : Int) (e : Ending) (w' : World) : Prop := ∃ v us, e = .returned (.tuple #[dv P v, .int .i64 c]) ∧ us.length = A.length ∧ St w.heap.size w w' (own2 v us A)
theorem MakesD.no {w w' : World} {L : List Ent} {c : Int} (h : St w.heap.size w w' L) : MakesD w 0 [] c (.returned (.tuple #[.agg #[.int .i64 0, .slice none 0 0], .int .i64 c])) w' :=
  ⟨_, [], rfl, rfl, h.out.newnil _⟩
set_option maxHeartbeats 1000000 in
theorem sorted_c (P : Int) (v : Value) (us : List Value) (A : List (List Int)) (w : World) (hv : RII w v us A) (hl : A.length ≤ 128) (hN : ∀ xs ∈ A, xs.length ≤ 1048576) :
    Calls Try.prog 60 #[.int .i64 P, v] w (MakesD w P (srtL A) 0) := by
  have hS0 := (St.refl w).newboxF 41 #[.int .i64 0, .slice none 0 0]
  have hln := hv.len
  have hc := Lib.hid (copyLists_c v us A _ (hS0.oldII hv) (by omega) hN)
  go_enter Try.func60, Try.ntmps60
  go_wp2_with fail
  refine hc.out.mono ?_
  clear hc
  rintro e w1 ⟨v1, us1, rfl, hl1, h1⟩
  have h2 := hS0.call h1
  obtain ⟨a1, c1, hv1⟩ := (h1.rd 0 (e := 52) (v := v1) (us := us1) rfl).sl.sh
  rw [hl1] at hv1
  subst hv1
  have hB := h2.newboxF 41 #[.int .i64 P, .slice a1 A.length c1]
  have b0 := hB.bcell 0 rfl 0 rfl
  have b1 := hB.bcell 0 rfl 1 rfl
  have h3 := hB.perm (L' := own2 (.slice a1 A.length c1) us1 A ++ [box 41 w.heap.size [.int .i64 0, .slice none 0 0], box 41 w1.heap.size [.int .i64 P, .slice a1 A.length c1]]) (by (try simp only [own2, List.cons_append, List.nil_append, List.append_nil]); classical exact List.perm_iff_count.2 (fun a => by simp only [List.cons_append, List.nil_append, List.append_nil, List.count_append, List.count_cons, List.count_nil] <;> omega))
  clear h1 h2 hB hS0
  go_wp2_with fail
  refine (SortRows_c h3 hl1 (by omega)).mono ?_
  rintro e w2 ⟨us2, rfl, hl2, h4⟩
  have h5 := h4.perm (L' := box 41 w.heap.size [.int .i64 0, .slice none 0 0] :: box 41 w1.heap.size [.int .i64 P, .slice a1 A.length c1] :: own2 (.slice a1 A.length c1) us2 (srtL A)) (by (try simp only [own2, List.cons_append, List.nil_append, List.append_nil]); classical exact List.perm_iff_count.2 (fun a => by simp only [List.cons_append, List.nil_append, List.append_nil, List.count_append, List.count_cons, List.count_nil] <;> omega))
  clear h3 h4 b0 b1
  have b0 := h5.bcell 1 rfl 0 rfl
  have b1 := h5.bcell 1 rfl 1 rfl
  have e0 := h5.bcell 0 rfl 0 rfl
  have e1 := h5.bcell 0 rfl 1 rfl
  have f0 := h5.bfree 0 rfl
  have h6 := (h5.bstore 0 rfl 0 (.int .i64 P)).bstore 0 rfl 1 (.slice a1 A.length c1)
  have d0 := h6.bcell 0 rfl 0 rfl
  have d1 := h6.bcell 0 rfl 1 rfl
  go_wp2_with fail
  refine bodyPost_ret (v := .tuple #[.agg #[.int .i64 P, .slice a1 A.length c1], .int .i64 0]) (by simp [results, Try.results60, go_sem, d0, d1]) rfl ?_
  exact ⟨_, us2, rfl, by rw [hl2, srtL_len], h6.sub ((List.sublist_cons_self _ _).trans (List.sublist_cons_self _ _))⟩

end Go.Proofs.Ytejncephbafcdaa
end

section
/- Walks: whether a list holds a number. -/
namespace Go.Proofs.Ytejncephbafcdaa
set_option linter.unusedSimpArgs false
set_option linter.unusedVariables false
open Go.RowKit
set_option maxHeartbeats 1000000 in
set_option maxRecDepth 100000 in
theorem l00Has_c (v : Value) (xs : List Int) (n : Int) (w : World) (hv : RdI w v xs) :
    Calls Try.prog 69 #[v, .int .i64 n] w fun e w' => e = .returned (.bool (decide (n ∈ xs))) ∧ w = w' := by
  have hln := hv.len
  have hix := hv.ix
  have hm := hv.le
  go_enter Try.func69, Try.ntmps69
  go_wp2_with fail
  go_loopw [5] (fun i wr => ∃ k : Nat, k ≤ xs.length ∧ i = .int .i64 k ∧ Hid (n ∉ xs.take k) ∧ wr = w) (fun i _ => xs.length - (intOf i).toNat)
  case atStart => exact ⟨0, by omega, rfl, by simp [Hid], rfl⟩
  case round =>
    obtain ⟨k, hk, rfl, hI, rfl⟩ := hrel
    by_cases hlt : k < xs.length
    · have hc := hv.cell k hlt
      by_cases hp : nth xs k = n
      · have f1 := eq_t hp
        have Hp := Lib.hid (show decide (n ∈ xs) = true by rw [decide_eq_true_iff, ← hp]; exact nth_mem hlt)
        clear hp
        go_wp2_with fail
        go_ret
        exact ⟨ret_bool Hp.out.symm, rfl⟩
      · have f1 := eq_f hp
        have Hp := Lib.hid (show n ∉ xs.take (k + 1) by rw [take_nth hlt, List.mem_append, not_or]; exact ⟨hI.out, by simp; exact fun e => hp e.symm⟩)
        clear hp
        go_wp2_with fail
        go_roundw
        case rel => exact ⟨k + 1, by omega, by go_num, Hp, by first | rfl | trivial⟩
        case measure => simp [intOf]; omega
    · have Hn := Lib.hid (show decide (n ∈ xs) = false by rw [decide_eq_false_iff_not]; have := hI.out; rwa [List.take_of_length_le (by omega)] at this)
      go_wp2_with fail
      go_ret
      exact ⟨ret_bool Hn.out.symm, rfl⟩
end Go.Proofs.Ytejncephbafcdaa
end

section
/- Walks: complements, derived and residual designs. -/
namespace Go.Proofs.Ytejncephbafcdaa
set_option linter.unusedSimpArgs false
set_option linter.unusedVariables false
open Go.RowKit
attribute [local go_sem ↓] Go.wp_at_zero Go.wp_at_succ
/-- the complements of blocks -/
def cplB (P : Nat) (b : List Int) : List Int := ifSets (idn P) b (min' (idn P) b)
def cplL (P : Nat) (A : List (List Int)) : List (List Int) := A.map (cplB P)
end Go.Proofs.Ytejncephbafcdaa
end

section
/- Walks: derived and residual designs. -/
namespace Go.Proofs.Ytejncephbafcdaa
set_option linter.unusedSimpArgs false
set_option linter.unusedVariables false
open Go.RowKit
attribute [local go_sem ↓] Go.wp_at_zero Go.wp_at_succ

/-- the places in a set of the points of a block -/
def plc (S : List Int) (x : Int) : Int := idxP (fun y => x == y) S 0
def meB (b S : List Int) : List Int := ifSets b S (mee b S)
def rsB (b S : List Int) : List Int := (meB b S).map (plc S)
/-- blocks but one, on a set of points -/
def resR (A : List (List Int)) (blk : Int) (S : List Int) : Nat → List (List Int)
  | 0 => []
  | j + 1 => if (j : Int) = blk then resR A blk S j else resR A blk S j ++ [rsB (xat A j) S]
end Go.Proofs.Ytejncephbafcdaa
end

section
/- Permutations as lists, in plain terms. -/
namespace Go.Proofs.Ytejncephbafcdaa
set_option linter.unusedSimpArgs false
set_option linter.unusedVariables false
/-- a list that holds each number below its length once -/
structure IsP (xs : List Int) : Prop where
  lt : ∀ j, j < xs.length → 0 ≤ nth xs j ∧ nth xs j < xs.length
  inj : ∀ i j, i < xs.length → j < xs.length → nth xs i = nth xs j → i = j
/-- a permutation as a function -/
def pf (xs : List Int) (j : Nat) : Nat := (nth xs j).toNat
theorem nth_pf {xs : List Int} (h : IsP xs) {j : Nat} (hj : j < xs.length) : nth xs j = (pf xs j : Int) := by
  have := (h.lt j hj).1; unfold pf; omega
theorem IsP.bij {xs : List Int} (h : IsP xs) : Bij xs.length (pf xs) where
  lt j hj := by have := h.lt j hj; unfold pf; omega
  inj i j hi hj e := h.inj i j hi hj (by rw [nth_pf h hi, nth_pf h hj, e])
theorem IsP.pf_lt {xs : List Int} (h : IsP xs) {j : Nat} (hj : j < xs.length) : pf xs j < xs.length := h.bij.lt j hj
theorem IsP.nodup {xs : List Int} (h : IsP xs) : xs.Nodup := by
  rw [List.nodup_iff_pairwise_ne, List.pairwise_iff_getElem]
  intro a b ha hb hab e
  have := h.inj a b ha hb (by rw [nth_eq ha, nth_eq hb, e])
  omega
theorem nth_ext {xs ys : List Int} (hl : xs.length = ys.length) (h : ∀ j, j < xs.length → nth xs j = nth ys j) : xs = ys := by
  apply List.ext_getElem hl
  intro j h1 h2
  have := h j h1
  rwa [nth_eq h1, nth_eq h2] at this
/-- the identity -/
def iot (n : Nat) : List Int := (List.range n).map fun k : Nat => (k : Int)
theorem iot_len (n : Nat) : (iot n).length = n := by simp [iot]
theorem nth_iot {n j : Nat} (h : j < n) : nth (iot n) j = j := by simp [iot, nth, h]
theorem iot_isP (n : Nat) : IsP (iot n) where
  lt j hj := by rw [iot_len] at hj ⊢; rw [nth_iot hj]; omega
  inj i j hi hj e := by rw [iot_len] at hi hj; rw [nth_iot hi, nth_iot hj] at e; omega
theorem mem_iot {n : Nat} {x : Int} : x ∈ iot n ↔ 0 ≤ x ∧ x < n := by
  unfold iot; rw [List.mem_map]
  constructor
  · rintro ⟨k, hk, rfl⟩; have := List.mem_range.1 hk; omega
  · intro h; exact ⟨x.toNat, List.mem_range.2 (by omega), by omega⟩
theorem IsP.perm {xs : List Int} (h : IsP xs) : xs.Perm (iot xs.length) := by
  refine (List.perm_ext_iff_of_nodup h.nodup (iot_isP _).nodup).2 fun x => ?_
  rw [mem_iot]
  constructor
  · intro hx
    obtain ⟨j, hj, rfl⟩ := List.getElem_of_mem hx
    have := h.lt j hj; rwa [nth_eq hj] at this
  · intro hx
    obtain ⟨j, hj, e⟩ := h.bij.onto (y := x.toNat) (by omega)
    have := nth_pf h hj
    rw [e] at this
    have hm := nth_mem hj
    rw [this] at hm
    rwa [Int.toNat_of_nonneg hx.1] at hm
/-! ### exchanges -/
theorem nth_set {xs : List Int} {i j : Nat} {x : Int} (h : i < xs.length) : nth (xs.set i x) j = if i = j then x else nth xs j := by
  unfold nth
  rw [List.getD_eq_getElem?_getD, List.getElem?_set]
  split
  · rename_i e; subst e; simp [h]
  · simp
/-! ### composition, inverse -/
/-- place j of the first k is written at the number that stands there -/
def invQ (xs : List Int) : Nat → List Int
  | 0 => List.replicate xs.length 0
  | k + 1 => (invQ xs k).set (pf xs k) k
def invL (xs : List Int) : List Int := invQ xs xs.length
theorem invQ_len (xs : List Int) : ∀ k, (invQ xs k).length = xs.length
  | 0 => by simp [invQ]
  | k + 1 => by rw [invQ, List.length_set, invQ_len xs k]
theorem nth_invQ {xs : List Int} (h : IsP xs) : ∀ k, k ≤ xs.length → ∀ j, j < k → nth (invQ xs k) (pf xs j) = j
  | 0, _, j, hj => by omega
  | k + 1, hk, j, hj => by
    rw [invQ, nth_set (by rw [invQ_len]; exact h.pf_lt (by omega))]
    by_cases e : k = j
    · subst e; rw [if_pos rfl]
    · rw [if_neg (fun e2 => e (h.bij.inj k j (by omega) (by omega) e2)), nth_invQ h k (by omega) j (by omega)]
theorem invL_len (xs : List Int) : (invL xs).length = xs.length := invQ_len xs _
theorem nth_invL {xs : List Int} (h : IsP xs) {j : Nat} (hj : j < xs.length) : nth (invL xs) (pf xs j) = j := nth_invQ h _ (Nat.le_refl _) j hj
theorem IsP.inv {xs : List Int} (h : IsP xs) : IsP (invL xs) := by
  have key : ∀ y, y < xs.length → ∃ j, j < xs.length ∧ pf xs j = y := fun y hy => h.bij.onto hy
  refine ⟨fun y hy => ?_, fun a b ha hb e => ?_⟩
  · rw [invL_len] at hy ⊢
    obtain ⟨j, hj, rfl⟩ := key y hy
    rw [nth_invL h hj]; omega
  · rw [invL_len] at ha hb
    obtain ⟨i, hi, rfl⟩ := key a ha
    obtain ⟨j, hj, rfl⟩ := key b hb
    rw [nth_invL h hi, nth_invL h hj] at e
    have : i = j := by omega
    rw [this]
/-! ### signs -/
end Go.Proofs.Ytejncephbafcdaa
end
