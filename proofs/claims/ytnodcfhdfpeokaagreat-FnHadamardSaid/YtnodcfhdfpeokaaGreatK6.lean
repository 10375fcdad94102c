/- The texts of this claim, run 6: Mk Tab Dot Times Mf Has Red RS Srt Drw Pm3. -/
import Derived.Test.YtnodcfhdfpeokaaGreatK1
import Derived.Test.YtnodcfhdfpeokaaGreatK4
import Derived.Test.YtnodcfhdfpeokaaGreatK5
import Derived.Deep.RegionHeld3
import Derived.Deep.DrawnRows
import Derived.Deep.CutRange
import Derived.Shelf.SortM.Plain
import Derived.Shelf.SortM.SortNone
import Derived.Sort.OwnSortedInts
section
/- make inside a region that draws its order. A region that loads cells and writes them by its last stores: what is held of the world is asked until the first of these stores alone. A region that loads cells and writes them at its end: an operation taken first, by a chain of operations that wait for each other. -/
namespace Go.Proofs.YtnodcfhdfpeokaaGreat
set_option linter.unusedSimpArgs false
set_option linter.unusedVariables false
open Go.RowKit
theorem cell_al {w : World} {o : Obj} {a : Addr} {v : Value} (h : w.cell? a = some v) : (w.alloc o).cell? a = some v := by
  rw [World.cell?_alloc_some _ _ _ (by rw [h]; rfl)]; exact h
theorem cell_dr {w : World} {a : Addr} {v : Value} (h : w.cell? a = some v) : w.drew.cell? a = some v := h
theorem cell_sc {w : World} {p a : Addr} {u v : Value} (hp : p.block ≠ a.block) (h : w.cell? a = some v) : (w.setCell p u).cell? a = some v := by
  rw [World.cell?_setCell_far _ _ _ _ hp]; exact h
section
variable {P : Program} {ops : Array Oper} {o : Oper} {a : Act} {K : Act → World → Prop} {Q : Exit → Act → World → Prop} {E : Prop}
end
section
variable {ops : Array Oper} {o : Oper} {a : Act} {K : Act → World → Prop} {Q : Exit → Act → World → Prop} {E : Prop} {B : Nat} {w0 w : World} {L : List Ent}
end

section
variable {P : Program} {ops : Array Oper} {Q : Exit → Act → World → Prop} {md : Region.Mode} {S : World → Prop} {st : Nat}

/-- whichever order is picked; S is shown behind every operation till operation st has come up -/
def anyG (P : Program) (md : Region.Mode) (ops : Array Oper) (Q : Exit → Act → World → Prop) (S : World → Prop) (st : Nat) : Nat → Array Bool → Act → World → Prop
  | 0, listed, a, w => Region.ready md ops listed = [] ∧ Q .normal a w
  | n + 1, listed, a, w => (Region.ready md ops listed = [] → Q .normal a w) ∧
    ∀ i ∈ Region.ready md ops listed, wpOp P ops Q i (fun a' w' => ((listed.setIfInBounds i true).getD st true = false → S w') ∧ anyG P md ops Q S st n (listed.setIfInBounds i true) a' w') a w

theorem wpAny_of_G : ∀ (n : Nat) (listed : Array Bool) (a : Act) (w : World), anyG P md ops Q S st n listed a w → wpAny P md ops Q n listed a w
  | 0, _, _, _, h => h
  | n + 1, _, _, _, h => ⟨h.1, fun i hi => wpOp_mono (fun a' w' h' => wpAny_of_G n _ a' w' h'.2) (h.2 i hi)⟩

theorem set_un {listed : Array Bool} {j k : Nat} (hne : j ≠ k) (h : listed.getD k true = false) : (listed.setIfInBounds j true).getD k true = false := by rw [getD_set_ne true hne]; exact h
/-- what waits for an operation that has not come up cannot come up -/
theorem not_ready {listed : Array Bool} {j k : Nat} (hk : listed.getD k true = false) (hw : ∃ o, ops[j]? = some o ∧ ∃ e ∈ o.after, Region.binds md e = true ∧ e.on = k) : j ∉ Region.ready md ops listed := by
  intro h
  obtain ⟨_, o, ho, hall⟩ := mem_ready.1 h
  obtain ⟨o', ho', e, he, hb, rfl⟩ := hw
  rw [ho] at ho'; cases ho'
  have h1 := hall e he hb
  rcases Nat.lt_or_ge e.on listed.size with h' | h'
  · simp [h'] at hk h1; rw [hk] at h1; cases h1
  · simp [Array.getElem?_eq_none h'] at h1

/-- an operation that yields in whatever world may be taken first -/
theorem anyG_pure {i : Nat} {oi : Oper} {v : Value} (hi : ops[i]? = some oi) (hsel : ∀ (j : Nat) (o : Oper) cs b, ops[j]? = some o → o.op ≠ .select cs b)
    (hQ : ∀ c a w, Q (.panic c) (a.put oi.dst v) w → Q (.panic c) a w) (hne : i ≠ st) :
    ∀ (n : Nat) (listed : Array Bool) (a : Act) (w : World),
      (∀ j oj, ops[j]? = some oj → j ≠ i → listed.getD j true = false → (∀ e ∈ oj.after, Region.binds md e = true → e.on ≠ i) → oi.apart ops oj = true) →
      i ∈ Region.ready md ops listed → YieldsIf P ops (fun _ => True) oi v a → (listed.getD st true = false → S w) →
      anyG P md ops Q S st n (listed.setIfInBounds i true) (a.put oi.dst v) w → anyG P md ops Q S st (n + 1) listed a w := by
  intro n
  induction n with
  | zero =>
    intro listed a w _ hr hy hS H
    refine ⟨fun h => (by rw [h] at hr; cases hr), fun j hj => ?_⟩
    by_cases hji : j = i
    · subst hji; exact hy.wpOp hi trivial ⟨fun e => hS (by rwa [getD_set_ne true hne] at e), H⟩
    · have := ready_mono hj hji
      rw [H.1] at this
      cases this
  | succ n ih =>
    intro listed a w hfree hr hy hS H
    have hiu : listed.getD i true = false := (mem_ready.1 hr).1
    refine ⟨fun h => (by rw [h] at hr; cases hr), fun j hj => ?_⟩
    by_cases hji : j = i
    · subst hji; exact hy.wpOp hi trivial ⟨fun e => hS (by rwa [getD_set_ne true hne] at e), H⟩
    · have h1 := H.2 j (ready_mono hj hji)
      obtain ⟨hjun, oj, hoj, hall⟩ := mem_ready.1 hj
      have hnot : ∀ e ∈ oj.after, Region.binds md e = true → e.on ≠ i := fun e he hb heq => not_ready hiu ⟨oj, hoj, e, he, hb, heq⟩ hj
      have h2 := wpOp_putIf hoj (hfree j oj hoj hji hjun hnot) (fun cs b => hsel i oi cs b hi) (fun cs b => hsel j oj cs b hoj) hQ hy h1
      refine wpOp_mono (fun a' w' h3 => ?_) h2
      have hSw : (listed.setIfInBounds j true).getD st true = false → S w' := fun e => h3.2.1 (by rw [Array.setIfInBounds_comm _ _ (Ne.symm hji), getD_set_ne true hne]; exact e)
      refine ⟨hSw, ih (listed.setIfInBounds j true) a' w' ?_ (ready_mono hr (Ne.symm hji)) h3.1 hSw ?_⟩
      · intro m om hm hmi hun hno
        refine hfree m om hm hmi ?_ hno
        by_cases hjm : j = m
        · subst hjm; exact hjun
        · rwa [getD_set_ne true hjm] at hun
      · rw [Array.setIfInBounds_comm _ _ hji]
        exact h3.2.2
/-- number i is taken first, whatever the world -/
theorem takeP {i : Nat} {oi : Oper} {v : Value} {n : Nat} {listed : Array Bool} {a : Act} {w : World} (hi : ops[i]? = some oi)
    (hs : (Region.noSelect ops && Region.free md ops listed i && (Region.ready md ops listed).contains i && (!(i == st))) = true)
    (hQ : ∀ c a w, Q (.panic c) (a.put oi.dst v) w → Q (.panic c) a w) (hw : Region.wanted oi (yielded ops a.tmps) = true) (hy : ∀ w, (execOp a.eval oi).run P w = .ok (.value v) w) (hS : S w)
    (h : anyG P md ops Q S st n (listed.setIfInBounds i true) (a.put oi.dst v) w) : anyG P md ops Q S st (n + 1) listed a w := by
  simp only [Bool.and_eq_true, Bool.not_eq_true', beq_eq_false_iff_ne] at hs
  obtain ⟨⟨⟨h1, h2⟩, h3⟩, h4⟩ := hs
  exact anyG_pure hi (Region.noSelect_spec h1) hQ h4 n listed a w (Region.free_spec hi h2) (by simpa using h3) (.inl ⟨hw, fun w _ => hy w⟩) (fun _ => hS) h

def waits (md : Region.Mode) (ops : Array Oper) (j k : Nat) : Bool := match ops[j]? with
  | some o => o.after.any fun e => Region.binds md e && e.on == k
  | none => false
theorem waits_spec {j k : Nat} (h : waits md ops j k = true) : ∃ o, ops[j]? = some o ∧ ∃ e ∈ o.after, Region.binds md e = true ∧ e.on = k := by
  unfold waits at h
  cases ho : ops[j]? with
  | none => rw [ho] at h; cases h
  | some o =>
    rw [ho] at h
    simp only [Array.any_eq_true', Bool.and_eq_true, beq_iff_eq] at h
    obtain ⟨e, he, hb, hk⟩ := h
    exact ⟨o, rfl, e, he, hb, hk⟩
def AllG (P : Program) (md : Region.Mode) (ops : Array Oper) (Q : Exit → Act → World → Prop) (S : World → Prop) (st n : Nat) (listed : Array Bool) (a : Act) (w : World) (rs : List Nat) : Prop :=
  ∀ i ∈ rs, wpOp P ops Q i (fun a' w' => ((listed.setIfInBounds i true).getD st true = false → S w') ∧ anyG P md ops Q S st n (listed.setIfInBounds i true) a' w') a w
theorem AllG.nil {n : Nat} {listed : Array Bool} {a : Act} {w : World} : AllG P md ops Q S st n listed a w [] := fun _ h => by cases h
/-- an operation ahead of st -/
theorem AllG.cons {n : Nat} {listed : Array Bool} {a : Act} {w : World} {i : Nat} {o : Oper} {rs : List Nat} (ho : ops[i]? = some o)
    (h : ∀ K' : Act → World → Prop, Shut (∀ a w, S w → (S w → anyG P md ops Q S st n (listed.setIfInBounds i true) a w) → K' a w) → if Region.wanted o (yielded ops a.tmps) = true then Oper.wp P o a w K' Q else K' (a.put o.dst undef) w)
    (hs : AllG P md ops Q S st n listed a w rs) : AllG P md ops Q S st n listed a w (i :: rs) := fun j hj => by
  rcases List.mem_cons.1 hj with rfl | hj
  · exact wpOp_step ho (fun K' hK => h K' (fun a w hS hW => hK a w ⟨fun _ => hS, hW hS⟩))
  · exact hs j hj
/-- st itself, or one behind it -/
theorem AllG.last {n : Nat} {listed : Array Bool} {a : Act} {w : World} {i : Nat} {o : Oper} {rs : List Nat} (ho : ops[i]? = some o) (hl : (listed.setIfInBounds i true).getD st true = true)
    (h : ∀ K' : Act → World → Prop, Shut (∀ a w, anyG P md ops Q S st n (listed.setIfInBounds i true) a w → K' a w) → if Region.wanted o (yielded ops a.tmps) = true then Oper.wp P o a w K' Q else K' (a.put o.dst undef) w)
    (hs : AllG P md ops Q S st n listed a w rs) : AllG P md ops Q S st n listed a w (i :: rs) := fun j hj => by
  rcases List.mem_cons.1 hj with rfl | hj
  · exact wpOp_step ho (fun K' hK => h K' (fun a w hW => hK a w ⟨fun e => (by rw [hl] at e; cases e), hW⟩))
  · exact hs j hj
theorem readyG {rs : List Nat} {n : Nat} {listed : Array Bool} {a : Act} {w : World} (hr : Region.ready md ops listed = rs) (hne : rs ≠ [])
    (h : AllG P md ops Q S st n listed a w rs) : anyG P md ops Q S st (n + 1) listed a w := ⟨fun h0 => absurd (hr ▸ h0) hne, hr ▸ h⟩
theorem doneG {listed : Array Bool} {a : Act} {w : World} (hr : Region.ready md ops listed = []) (h : Q .normal a w) : ∀ n, anyG P md ops Q S st n listed a w
  | 0 => ⟨hr, h⟩
  | _ + 1 => ⟨fun _ => h, by rw [hr]; simp⟩
/-- the beginning -/
theorem regionG {id : Nat} {a : Act} {w : World} (S : World → Prop) (st : Nat) (hm : P.follows .mixedOrders = true) (hS : S w.drew)
    (h : S w.drew → anyG P .any ops (NoPanic Q) S st ops.size (Array.replicate ops.size false) a w.drew) : (Code.region id ops true).wp P Q a w :=
  wp_region_noPanic (wp_region_any hm (wpAny_of_G _ _ _ _ (h hS)))
end

section
variable {P : Program} {ops : Array Oper} {Q : Exit → Act → World → Prop} {md : Region.Mode} {S : World → Prop} {st : Nat}
theorem anyG_firstL {i : Nat} {oi : Oper} {v : Value} (ks : List Nat) (hi : ops[i]? = some oi) (hsel : ∀ (j : Nat) (o : Oper) cs b, ops[j]? = some o → o.op ≠ .select cs b)
    (hQ : ∀ c a w, Q (.panic c) (a.put oi.dst v) w → Q (.panic c) a w)
    (hks : ∀ k ∈ ks, k = i ∨ ∃ m ∈ i :: ks, ∃ o, ops[k]? = some o ∧ ∃ e ∈ o.after, Region.binds md e = true ∧ e.on = m) (hst : ∃ m ∈ i :: ks, ∃ o, ops[st]? = some o ∧ ∃ e ∈ o.after, Region.binds md e = true ∧ e.on = m) :
    ∀ (n : Nat) (listed : Array Bool) (a : Act) (w : World), (∀ k ∈ ks, listed.getD k true = false) → listed.getD st true = false →
      (∀ j oj, ops[j]? = some oj → j ≠ i → listed.getD j true = false → (∀ e ∈ oj.after, Region.binds md e = true → e.on ≠ i) → oi.apart ops oj = true) →
      i ∈ Region.ready md ops listed → YieldsIf P ops S oi v a → S w →
      anyG P md ops Q S st n (listed.setIfInBounds i true) (a.put oi.dst v) w → anyG P md ops Q S st (n + 1) listed a w := by
  intro n
  induction n with
  | zero =>
    intro listed a w hk hs _ hr hy hS H
    refine ⟨fun h => (by rw [h] at hr; cases hr), fun j hj => ?_⟩
    by_cases hji : j = i
    · subst hji; exact hy.wpOp hi hS ⟨fun _ => hS, H⟩
    · have := ready_mono hj hji
      rw [H.1] at this
      cases this
  | succ n ih =>
    intro listed a w hk hs hfree hr hy hS H
    have hiu : listed.getD i true = false := (mem_ready.1 hr).1
    have hun : ∀ m ∈ i :: ks, listed.getD m true = false := fun m hm => by
      rcases List.mem_cons.1 hm with rfl | hm
      · exact hiu
      · exact hk m hm
    refine ⟨fun h => (by rw [h] at hr; cases hr), fun j hj => ?_⟩
    by_cases hji : j = i
    · subst hji; exact hy.wpOp hi hS ⟨fun _ => hS, H⟩
    · have hjk : j ∉ ks := by
        intro hjm
        rcases hks j hjm with e | ⟨m, hm, hw⟩
        · exact hji e
        · exact not_ready (hun m hm) hw hj
      obtain ⟨ms, hms, hws⟩ := hst
      have hjs : j ≠ st := by
        rintro rfl
        exact not_ready (hun ms hms) hws hj
      have h1 := H.2 j (ready_mono hj hji)
      obtain ⟨hjun, oj, hoj, hall⟩ := mem_ready.1 hj
      have hnot : ∀ e ∈ oj.after, Region.binds md e = true → e.on ≠ i := fun e he hb heq => not_ready hiu ⟨oj, hoj, e, he, hb, heq⟩ hj
      have h2 := wpOp_putIf hoj (hfree j oj hoj hji hjun hnot) (fun cs b => hsel i oi cs b hi) (fun cs b => hsel j oj cs b hoj) hQ hy h1
      have hsj : (listed.setIfInBounds j true).getD st true = false := set_un hjs hs
      refine wpOp_mono (fun a' w' h3 => ?_) h2
      have hSw : S w' := h3.2.1 (set_un hjs (set_un (fun e => by subst e; exact not_ready (hun ms hms) hws hr) hs))
      refine ⟨fun _ => hSw, ih (listed.setIfInBounds j true) a' w' (fun k hkm => set_un (fun e => hjk (e ▸ hkm)) (hk k hkm)) hsj ?_ (ready_mono hr (Ne.symm hji)) h3.1 hSw ?_⟩
      · intro m om hm hmi hun hno
        refine hfree m om hm hmi ?_ hno
        by_cases hjm : j = m
        · subst hjm; exact hjun
        · rwa [getD_set_ne true hjm] at hun
      · rw [Array.setIfInBounds_comm _ _ hji]
        exact h3.2.2
/-- number i is taken first; ks: operations that wait for it, for each other, and st for one of them -/
theorem takeH {i : Nat} (ks : List Nat) {oi : Oper} {v : Value} {n : Nat} {listed : Array Bool} {a : Act} {w : World} (hi : ops[i]? = some oi)
    (hs : (Region.noSelect ops && Region.free md ops listed i && (Region.ready md ops listed).contains i && (ks.all fun k => k == i || (i :: ks).any fun m => waits md ops k m) && ((i :: ks).any fun m => waits md ops st m) && (ks.all fun k => !listed.getD k true) && (!listed.getD st true)) = true)
    (hQ : ∀ c a w, Q (.panic c) (a.put oi.dst v) w → Q (.panic c) a w) (hw : Region.wanted oi (yielded ops a.tmps) = true) (hy : ∀ w, S w → (execOp a.eval oi).run P w = .ok (.value v) w) (hS : S w)
    (h : anyG P md ops Q S st n (listed.setIfInBounds i true) (a.put oi.dst v) w) : anyG P md ops Q S st (n + 1) listed a w := by
  simp only [Bool.and_eq_true, Bool.not_eq_true', Bool.or_eq_true, beq_iff_eq, List.all_eq_true] at hs
  obtain ⟨⟨⟨⟨⟨⟨h1, h2⟩, h3⟩, h4⟩, h5⟩, h6⟩, h7⟩ := hs
  refine anyG_firstL ks hi (Region.noSelect_spec h1) hQ (fun k hk => ?_) ?_ n listed a w h6 h7 (Region.free_spec hi h2) (by simpa using h3) (.inl ⟨hw, hy⟩) hS h
  · rcases h4 k hk with e | e
    · exact .inl e
    · obtain ⟨m, hm, hmw⟩ := List.any_eq_true.1 e
      exact .inr ⟨m, hm, waits_spec hmw⟩
  · obtain ⟨m, hm, hmw⟩ := List.any_eq_true.1 h5
    exact ⟨m, hm, waits_spec hmw⟩
end

end Go.Proofs.YtnodcfhdfpeokaaGreat
end

section
/- Walks: the tables of a field. -/
namespace Go.Proofs.YtnodcfhdfpeokaaGreat
set_option linter.unusedSimpArgs false
set_option linter.unusedVariables false
open Go.RowKit
attribute [local go_sem ↓] Go.wp_at_zero Go.wp_at_succ

/-- a square table -/
def tb (q : Nat) (f : Nat → Nat → Int) : List (List Int) := (List.range q).map fun a => tab q (f a)
theorem tb_len (q : Nat) (f : Nat → Nat → Int) : (tb q f).length = q := by simp [tb]
theorem xat_tb {q : Nat} {f : Nat → Nat → Int} {a : Nat} (h : a < q) : xat (tb q f) a = tab q (f a) := by simp [xat, tb, h]
def invT (p : Int) (D : Nat) (fs : List Int) : List Int := tab (qn p D) fun i => invN p D fs i (qn p D)
def fAdd (p : Int) (D : Nat) (a b : Nat) : Int := fsum p D a b 1
def fSub (p : Int) (D : Nat) (a b : Nat) : Int := fsum p D a b (-1)
def fMul (p : Int) (D : Nat) (fs : List Int) (a b : Nat) : Int := fmul p D fs a b
end Go.Proofs.YtnodcfhdfpeokaaGreat
end

section
/- Walks: sums of products, by tables and by the reference. Walks: the reference's sums of products. -/
namespace Go.Proofs.YtnodcfhdfpeokaaGreat
set_option linter.unusedSimpArgs false
set_option linter.unusedVariables false
open Go.RowKit
attribute [local go_sem ↓] Go.wp_at_zero Go.wp_at_succ


/-- the tables of a field, as they lie in memory -/
structure TB (w : World) (p : Int) (D : Nat) (fs : List Int) (va : Value) (ua : List Value) (vs : Value) (us : List Value) (vm : Value) (um : List Value) (vi : Value) : Prop where
  a : RII w va ua (tb (qn p D) (fAdd p D))
  s : RII w vs us (tb (qn p D) (fSub p D))
  m : RII w vm um (tb (qn p D) (fMul p D fs))
  i : RdI w vi (invT p D fs)
theorem TB.keep {w w' : World} {p : Int} {D : Nat} {fs : List Int} {va vs vm vi : Value} {ua us um : List Value} (h : TB w p D fs va ua vs us vm um vi) (hb : Below w.heap.size w w') : TB w' p D fs va ua vs us vm um vi :=
  ⟨h.a.keep hb, h.s.keep hb, h.m.keep hb, h.i.keep hb⟩
/-- elements as numbers below qn -/
theorem El.nat {p : Int} {D : Nat} {a : Int} (h : El p D a) : ∃ n : Nat, a = n ∧ n < qn p D := by
  obtain ⟨n, rfl⟩ := Int.eq_ofNat_of_zero_le h.1
  exact ⟨n, rfl, by have := h.2; unfold qn; omega⟩
theorem nth_tab {n j : Nat} {f : Nat → Int} (h : j < n) : nth (tab n f) j = f j := cf_tab h
theorem In.el {p : Int} {D : Nat} {xs : List Int} (h : In (p ^ D) xs) {j : Nat} (hj : j < xs.length) : El p D (nth xs j) := h _ (nth_mem hj)
/-- a look into a table -/
theorem RII.at2 {w : World} {v : Value} {us : List Value} {q : Nat} {f : Nat → Nat → Int} (h : RII w v us (tb q f)) {i j : Nat} (hi : i < q) (hj : j < q) :
    (∀ W, (Instr.indexAt 24 v (.int .i64 i)).run Tryz.prog W = .ok (.pointer (some (el v i))) W) ∧ w.cell? (el v i) = some (vat us i) ∧
    (∀ W, (Instr.indexAt 31 (vat us i) (.int .i64 j)).run Tryz.prog W = .ok (.pointer (some (el (vat us i) j))) W) ∧ w.cell? (el (vat us i) j) = some (.int .i64 (f i j)) := by
  have hi' : i < (tb q f).length := by rw [tb_len]; exact hi
  have hr := h.row i hi'
  rw [xat_tb hi] at hr
  have hj' : j < (tab q (f i)).length := by rw [tab_len]; exact hj
  refine ⟨h.ixe i i rfl hi', h.cell i hi', hr.ixe j j rfl hj', ?_⟩
  rw [hr.cell j hj', nth_tab hj]

theorem FV.q64 {p : Int} {D : Nat} {fs : List Int} (h : FV p D fs) : p ^ D ≤ 64 := by have := h.q; rwa [Int.toNat_natCast] at this
theorem El.lim {p : Int} {D : Nat} {fs : List Int} {a : Int} (h : El p D a) (hf : FV p D fs) : 0 ≤ a ∧ a ≤ 1000000 := by have := h.1; have := h.2; have := hf.q64; omega

end Go.Proofs.YtnodcfhdfpeokaaGreat
end

section
/- Walks: products of matrices. Walks: MatrixMul of both sides. -/
namespace Go.Proofs.YtnodcfhdfpeokaaGreat
set_option linter.unusedSimpArgs false
set_option linter.unusedVariables false
open Go.RowKit
attribute [local go_sem ↓] Go.wp_at_zero Go.wp_at_succ
section
variable {ops : Array Oper} {o : Oper} {a : Act} {K : Act → World → Prop} {Q : Exit → Act → World → Prop} {E : Prop} {B : Nat} {w0 w : World} {L : List Ent}
/-- append of one integer to an owned row of integers, as a step -/
theorem stepI1 (hS : St B w0 w L) (i : Nat) {v : Value} {xs : List Int} (hi : L[i]? = some (row 2 v (iv xs))) (hN : xs.length < 4294967296) (hg : o.guard = none) (s x : Operand)
    (hop : o.op = .call { callee := .builtin .append, args := #[s, x], argTypes := #[31, 31] }) (hs : a.eval s = v) (n : Int) (hx : a.eval x = .slice (some ⟨w.heap.size, 0, none⟩) 1 1)
    (hK : ∀ v' w', St B w0 w' (L.set i (row 2 v' (iv (xs ++ [n])))) → K (a.put o.dst v') w') :
    if Region.wanted o (yielded ops a.tmps) = true then Oper.wp Tryz.prog o a (w.alloc (.cells #[.int .i64 n] 2)) K Q else E :=
  step_st_app1 hg s x 31 hop 2 (.int .i64 0) 8 Tryz.und_is Tryz.info_i rfl hS i hi hs (.int .i64 n) hx rfl (by omega) (by rw [iv_len]; exact hN)
    (fun v' w' h => hK v' w' (by rw [iv_app, iv_one]; exact h))
end
end Go.Proofs.YtnodcfhdfpeokaaGreat
end

section
/- Walks: MakeField of both sides, and values of polynomials. -/
namespace Go.Proofs.YtnodcfhdfpeokaaGreat
set_option linter.unusedSimpArgs false
set_option linter.unusedVariables false
open Go.RowKit
attribute [local go_sem ↓] Go.wp_at_zero Go.wp_at_succ

def mkfP (q : Int) : Int := if mkOk q = true then ((spl q.toNat).1 : Nat) else 0
def mkfD (q : Int) : Int := if mkOk q = true then ((spl q.toNat).2 : Nat) else 0
def mkfL (q : Int) : List Int := if mkOk q = true then mkF q.toNat else []
def mkfC (q : Int) : Int := if mkOk q = true then 0 else 2
/-- a field and a code -/
def MakesFC (w : World) (p d : Int) (xs : List Int) (c : Int) (e : Ending) (w' : World) : Prop := ∃ v, e = .returned (.tuple #[fv p d v, .int .i64 c]) ∧ St w.heap.size w w' [row 2 v (iv xs)]
theorem MakesFC.no {w w' : World} {q : Int} {L : List Ent} (hm : mkOk q = false) (h : St w.heap.size w w' L) :
    MakesFC w (mkfP q) (mkfD q) (mkfL q) (mkfC q) (.returned (.tuple #[.agg #[.int .i64 0, .int .i64 0, .slice none 0 0], .int .i64 2])) w' := by
  refine ⟨.slice none 0 0, by simp [mkfP, mkfD, mkfC, hm, fv], ?_⟩
  rw [mkfL, hm]; exact h.out.newnil _
theorem mkOk_t {q : Int} (h : mkOk q = true) : ∃ n : Nat, q = n ∧ 2 ≤ n ∧ n ≤ 64 ∧ MK n := by
  simp only [mkOk, Bool.and_eq_true, decide_eq_true_eq, bne_iff_ne, ne_eq] at h
  obtain ⟨n, rfl⟩ := Int.eq_ofNat_of_zero_le (show 0 ≤ q by omega)
  rw [Int.toNat_natCast] at h
  exact ⟨n, rfl, by omega, by omega, mk_of (by omega) (by omega) h.2⟩

set_option maxHeartbeats 4000000 in
set_option maxRecDepth 100000 in
theorem l03Make_c (q : Nat) (w : World) (h2 : 2 ≤ q) (h64 : q ≤ 64) (hmk : MK q) : Calls Tryz.prog 62 #[.int .i64 q] w (MakesF w ((spl q).1 : Nat) ((spl q).2 : Nat) (mkF q)) := by
  have hS0 := (St.refl w).newboxF 81 #[.int .i64 0, .int .i64 0, .slice none 0 0]
  have HP := fun W => Lib.hid (l03Split_c q W h2 h64)
  have hf := hmk.fv h64
  have hirr := hmk.irr
  have HN := Lib.hid (show irn ((spl q).1 : Nat) (spl q).2 64 0 = mkN q from rfl)
  have Hirr := Lib.hid (show irrB ((spl q).1 : Nat) (dgt ((spl q).1 : Nat) (spl q).2 (mkN q) ++ [1]) = true from hirr)
  have HF := Lib.hid (show mkF q = dgt ((spl q).1 : Nat) (spl q).2 (mkN q) ++ [1] from rfl)
  have hq := hf.q
  rw [Int.toNat_natCast] at hq
  have p2 := hf.p2
  have p64 := hf.p64
  have d6 := hf.d6
  have d1 := hf.d1
  clear hf hirr hmk
  generalize (spl q).1 = P at *
  generalize (spl q).2 = D at *
  generalize mkN q = N0 at *
  have Hin := Lib.hid (fun k => (show In (P : Int) (dgt (P : Int) D k ++ [1]) from fun x hx => by
    rcases List.mem_append.1 hx with hx | hx
    · exact dgt_in (by omega) _ _ x hx
    · simp at hx; subst hx; omega))
  have Hq := Lib.hid hq
  clear hq
  have Hdg := fun (k : Nat) (hk : k ≤ 64) W => Lib.hid (l03Digits_c k P D W (by omega) (by omega) (by omega) (by omega) (by omega))
  simp only [lows_dgt] at Hdg
  have Hir := fun v (k : Nat) W (h : RdI W v (dgt (P : Int) D k ++ [1])) => Lib.hid (l03Irreducible_c v (dgt (P : Int) D k ++ [1]) P W h p2 p64 (Hin.out k) (by simp) (by simpa [dgt_len] using Hq.out))
  have Hlen := Lib.hid (fun k : Nat => show (dgt (P : Int) D k).length < 4294967296 by rw [dgt_len]; omega)
  go_enter Tryz.func62, Tryz.ntmps62
  go_wp2_with fail
  refine (HP _).out.mono ?_
  rintro e w1 ⟨rfl, rfl⟩
  go_wp2_with fail
  go_loopw [5, 6] (fun ii _ wr => ∃ k f : Nat, k + f = 64 ∧ ii = .int .i64 k ∧ Hid (irn P D f k = N0) ∧ St w.heap.size w wr [box 81 w.heap.size [.int .i64 0, .int .i64 0, .slice none 0 0]]) (fun ii _ _ => 64 - (intOf ii).toNat)
  case atStart => exact ⟨0, 64, rfl, rfl, HN.out, hS0⟩
  case round =>
    obtain ⟨k, f, hkf, rfl, hN, hS⟩ := hrel
    have hk64 : k ≤ 64 := by omega
    have Hkf := Lib.hid hkf
    clear hkf
    cases hi : irrB P (dgt P D k ++ [1])
    · have Hi := Lib.hid hi
      have Hnx := Lib.hid (irn_next (f := f) hi (by rw [hN.out]; exact Hirr.out))
      clear hi
      go_wp2_with fail
      refine (Hdg k hk64 _).out.mono ?_
      rintro e w2 ⟨v2, rfl, h2'⟩
      have hS2 := (hS.call h2').perm List.perm_append_comm
      clear h2'
      go_wp2_with (at_builtin; refine appI hS2 0 rfl (Hlen.out k) rfl _ _ rfl rfl 1 rfl ?_; intro v3 w3 hS3)
      refine (Hir v3 k w3 (hS3.rdI 0 rfl)).out.mono ?_
      rw [Hi.out]
      rintro e w4 ⟨rfl, h4⟩
      have hS4 := hS3.call0 h4
      go_wp2_with fail
      obtain ⟨f', hf', hN'⟩ := Hnx.out
      have Hf' := Lib.hid hf'
      have HN' := Lib.hid hN'
      clear hf' hN'
      go_roundw
      case rel => exact ⟨k + 1, f', by have := Hkf.out; have := Hf'.out; omega, by go_num, HN'.out.symm.trans hN.out, hS4.sub (List.sublist_cons_self _ _)⟩
      case measure => simp [intOf]; have := Hkf.out; have := Hf'.out; omega
    · have Hi := Lib.hid hi
      have hke : k = N0 := by rw [← hN.out, irn_hit hi]
      have HE := Lib.hid hke
      clear hi hke
      go_wp2_with fail
      refine (Hdg k hk64 _).out.mono ?_
      rintro e w2 ⟨v2, rfl, h2'⟩
      have hS2 := (hS.call h2').perm List.perm_append_comm
      clear h2'
      go_wp2_with (at_builtin; refine appI hS2 0 rfl (Hlen.out k) rfl _ _ rfl rfl 1 rfl ?_; intro v3 w3 hS3; generalize hLk : dgt (P : Int) D k ++ [1] = Lk at hS3; have HLk := Lib.hid hLk; clear hLk; obtain ⟨a6, c6, he6⟩ := (hS3.rdI 0 rfl).shp'; subst he6)
      refine (Hir _ k w3 (by rw [HLk.out]; exact hS3.rdI 0 rfl)).out.mono ?_
      rw [Hi.out]
      rintro e w4 ⟨rfl, h4⟩
      have hS6 := hS3.call0 h4
      have b0 := hS6.bcell 1 rfl 0 rfl
      have b1 := hS6.bcell 1 rfl 1 rfl
      have b2 := hS6.bcell 1 rfl 2 rfl
      have f2 := hS6.bfree 1 rfl
      clear hS hS2 hS3 h4
      go_wp2_with fail
      have hS9 := ((hS6.bstore 1 rfl 0 (.int .i64 P)).bstore 1 rfl 1 (.int .i64 D)).bstore 1 rfl 2 (.slice a6 Lk.length c6)
      refine bodyPost_ret (v := .agg #[.int .i64 P, .int .i64 D, .slice a6 Lk.length c6]) (by simp [results, Tryz.results62, go_sem, b0, b1, b2]) rfl ?_
      refine ⟨_, rfl, ?_⟩
      rw [HF.out, ← HE.out, HLk.out]
      exact hS9.sub (by simp only [List.set_cons_zero, List.set_cons_succ, List.cons_append, List.nil_append]; exact (List.nil_sublist _).cons_cons _)
end Go.Proofs.YtnodcfhdfpeokaaGreat
end

section
/- Walks: whether a list holds a number. -/
namespace Go.Proofs.YtnodcfhdfpeokaaGreat
set_option linter.unusedSimpArgs false
set_option linter.unusedVariables false
open Go.RowKit

theorem anyP_eq (n : Int) (xs : List Int) : anyP (fun x => n == x) xs = decide (n ∈ xs) := by
  unfold anyP
  rw [Bool.eq_iff_iff, List.any_eq_true, decide_eq_true_iff]
  constructor
  · rintro ⟨x, hx, e⟩; rw [beq_iff_eq] at e; subst e; exact hx
  · intro h; exact ⟨n, h, by simp⟩

set_option maxHeartbeats 1000000 in
set_option maxRecDepth 100000 in
theorem Index_c (v : Value) (xs : List Int) (n : Int) (w : World) (hv : RdI w v xs) :
    Calls Tryz.prog 59 #[v, .int .i64 n] w fun e w' => e = .returned (.int .i64 (idxP (fun x => n == x) xs 0)) ∧ w = w' := by
  have hln := hv.len
  have hix := hv.ix
  have hm := hv.le
  go_enter Tryz.func59, Tryz.ntmps59
  go_wp2_with fail
  go_loopw [5, 8] (fun _ i wr => ∃ k : Nat, k ≤ xs.length ∧ i = .int .i64 k ∧ Hid (idxP (fun x => n == x) xs 0 = idxP (fun x => n == x) xs k) ∧ wr = w) (fun _ i _ => xs.length - (intOf i).toNat)
  case atStart => exact ⟨0, by omega, rfl, rfl, rfl⟩
  case round =>
    obtain ⟨k, hk, rfl, hI, rfl⟩ := hrel
    by_cases hlt : k < xs.length
    · have hc := hv.cell k hlt
      by_cases hp : n = nth xs k
      · have f1 := eq_t hp
        have Hp := Lib.hid (show (fun x => n == x) (nth xs k) = true by simpa using hp)
        clear hp
        go_wp2_with fail
        go_ret
        exact ⟨ret_i64 (by rw [hI.out, idxP_hit hlt Hp.out]), rfl⟩
      · have f1 := eq_f hp
        have Hp := Lib.hid (show (fun x => n == x) (nth xs k) = false by simpa using hp)
        clear hp
        go_wp2_with fail
        go_roundw
        case rel => exact ⟨k + 1, by omega, by go_num, by rw [Hid, hI.out, idxP_step hlt Hp.out], by first | rfl | trivial⟩
        case measure => simp [intOf]; omega
    · go_wp2_with fail
      go_ret
      exact ⟨ret_i64 (by rw [hI.out, idxP_end (by omega)]), rfl⟩
theorem Contains_c (v : Value) (xs : List Int) (n : Int) (w : World) (hv : RdI w v xs) :
    Calls Tryz.prog 36 #[v, .int .i64 n] w fun e w' => e = .returned (.bool (decide (n ∈ xs))) ∧ w = w' := by
  have H := Lib.hid (show decide (0 ≤ idxP (fun x => n == x) xs 0) = decide (n ∈ xs) by rw [idxP_any, anyP_eq])
  go_enter Tryz.func36, Tryz.ntmps36
  go_wp2_with fail
  refine (Index_c v xs n w hv).mono ?_
  rintro e w1 ⟨rfl, rfl⟩
  go_wp2_with fail
  go_ret
  exact ⟨ret_bool H.out, rfl⟩
set_option maxHeartbeats 1000000 in
set_option maxRecDepth 100000 in
theorem l00Has_c (v : Value) (xs : List Int) (n : Int) (w : World) (hv : RdI w v xs) :
    Calls Tryz.prog 64 #[v, .int .i64 n] w fun e w' => e = .returned (.bool (decide (n ∈ xs))) ∧ w = w' := by
  have hln := hv.len
  have hix := hv.ix
  have hm := hv.le
  go_enter Tryz.func64, Tryz.ntmps64
  go_wp2_with fail
  go_loopw [5] (fun i wr => ∃ k : Nat, k ≤ xs.length ∧ i = .int .i64 k ∧ Hid (n ∉ xs.take k) ∧ wr = w) (fun i _ => xs.length - (intOf i).toNat)
  case atStart => exact ⟨0, by omega, rfl, by simp [Hid], rfl⟩
  case round =>
    obtain ⟨k, hk, rfl, hI, rfl⟩ := hrel
    by_cases hlt : k < xs.length
    · have hc := hv.cell k hlt
      by_cases hp : nth xs k = n
      · have f1 := eq_t hp
        have Hp := Lib.hid (show decide (n ∈ xs) = true by rw [decide_eq_true_iff, ← hp]; exact nth_mem hlt)
        clear hp
        go_wp2_with fail
        go_ret
        exact ⟨ret_bool Hp.out.symm, rfl⟩
      · have f1 := eq_f hp
        have Hp := Lib.hid (show n ∉ xs.take (k + 1) by rw [take_nth hlt, List.mem_append, not_or]; exact ⟨hI.out, by simp; exact fun e => hp e.symm⟩)
        clear hp
        go_wp2_with fail
        go_roundw
        case rel => exact ⟨k + 1, by omega, by go_num, Hp, by first | rfl | trivial⟩
        case measure => simp [intOf]; omega
    · have Hn := Lib.hid (show decide (n ∈ xs) = false by rw [decide_eq_false_iff_not]; have := hI.out; rwa [List.take_of_length_le (by omega)] at this)
      go_wp2_with fail
      go_ret
      exact ⟨ret_bool Hn.out.symm, rfl⟩
end Go.Proofs.YtnodcfhdfpeokaaGreat
end

section
/- Walks: a multiple of a row is added to another one. Walks: reslices of slices of slices, changes of a row, the closure of reduce. Walks: row reduction by tables. -/
namespace Go.Proofs.YtnodcfhdfpeokaaGreat
set_option linter.unusedSimpArgs false
set_option linter.unusedVariables false
open Go.RowKit
attribute [local go_sem ↓] Go.wp_at_zero Go.wp_at_succ
section
variable {w : World} {v : Value} {us : List Value} {xss : List (List Int)}
theorem RII.rs2 (h : RII w v us xss) {lo hi : Nat} (h1 : lo ≤ hi) (h2 : hi ≤ xss.length) : RII w (rsl v lo hi) ((us.take hi).drop lo) ((xss.take hi).drop lo) := by
  refine ⟨rsl_Rd h.1 h1 (by rw [h.2.1]; exact h2), by simp [h.2.1], fun j hj => ?_⟩
  have hj' : j < hi - lo := by simp at hj; omega
  have hl := h.2.1
  have := h.2.2 (lo + j) (by omega)
  rw [vat_eq (by omega), xat_eq (by omega)] at this
  rw [vat_eq (by simp; omega), xat_eq (by simp; omega)]
  simpa using this
end
end Go.Proofs.YtnodcfhdfpeokaaGreat
end

section
/- Walks: the reference's operations on rows. Walks: the reference's row reduction. -/
namespace Go.Proofs.YtnodcfhdfpeokaaGreat
set_option linter.unusedSimpArgs false
set_option linter.unusedVariables false
open Go.RowKit
attribute [local go_sem ↓] Go.wp_at_zero Go.wp_at_succ


set_option maxHeartbeats 4000000 in
set_option maxRecDepth 100000 in
theorem l17Own_c (vM : Value) (uM : List Value) (m : List (List Int)) (w : World) (hM : RII w vM uM m) (hm : m.length ≤ 4096) (hr : ∀ r ∈ m, r.length ≤ 4096) :
    Calls Tryz.prog 66 #[vM] w (MakesII w m) := by
  have hlm := hM.len
  have Hr := Lib.hid hr
  clear hr
  have hS0 := (St.refl w).new 31 #[] (by simp)
  go_enter Tryz.func66, Tryz.ntmps66
  go_wp2_with fail
  go_loopw [3, 4] (fun o i wr => ∃ (k : Nat) (a : Option Addr) (c : Nat) (ws : List Value), k ≤ m.length ∧ i = .int .i64 k ∧ o = .slice a k c ∧ Hid (ws.length = k) ∧ St w.heap.size w wr (own2 (.slice a k c) ws (m.take k))) (fun _ i _ => m.length - (intOf i).toNat)
  case atStart => exact ⟨0, _, 0, [], by omega, rfl, rfl, rfl, hS0⟩
  case round =>
    obtain ⟨k, a, c, ws, hk, rfl, rfl, hw, hS⟩ := hrel
    by_cases hlt : k < m.length
    · have hck := (hS.oldII hM).cell k hlt
      have hxk := (hS.oldII hM).ixe (k : Int) k rfl hlt
      have hown := Lib.hid (l00Own_c (vat uM k) (xat m k) wr ((hS.oldII hM).row k hlt) (by have := Hr.out _ (xat_mem hlt); omega))
      have hlw := Lib.hid (show ws.length = (m.take k).length by rw [hw.out, List.length_take]; omega)
      have Hsn := Lib.hid (take_xat hlt)
      go_wp2_with fail
      refine hown.out.mono ?_
      rintro e w2 ⟨v2, rfl, h2⟩
      obtain ⟨la, lc, hle⟩ := (h2.rdI 0 rfl).shp'
      subst hle
      have hS2 := hS.call h2
      go_wp2_with (at_builtin; refine appII hS2 0 rfl (by rw [hw.out]; omega) rfl _ _ rfl rfl _ rfl rfl ?_; intro v5 w5 hS5; obtain ⟨oa, oc, hoe⟩ := (hS5.rd 0 rfl).sl.sh; rw [List.length_append, hw.out, List.length_singleton] at hoe; subst hoe)
      go_roundw
      case rel =>
        refine ⟨k + 1, oa, oc, ws ++ [.slice la (xat m k).length lc], by omega, by go_num, rfl, by simp [Hid, hw.out], ?_⟩
        rw [Hsn.out, own2, rowsI_app hlw.out]
        exact hS5
      case measure => simp [intOf]; omega
    · obtain rfl : k = m.length := by omega
      rw [List.take_length] at hS
      go_wp2_with fail
      go_ret
      exact ⟨_, ws, rfl, hw.out, hS⟩

end Go.Proofs.YtnodcfhdfpeokaaGreat
end

section
/- slices.Sort at []int64: a row that a call owns, sorted. -/
namespace Go.Proofs.YtnodcfhdfpeokaaGreat
set_option linter.unusedSimpArgs false
set_option linter.unusedVariables false
open Go.RowKit
/-- in rising order -/
def srt (xs : List Int) : List Int := xs.mergeSort fun x y => decide (x ≤ y)
end Go.Proofs.YtnodcfhdfpeokaaGreat
end

section
/- Walks: what the laws on numbers draw. -/
namespace Go.Proofs.YtnodcfhdfpeokaaGreat
set_option linter.unusedSimpArgs false
set_option linter.unusedVariables false
open Go.RowKit

theorem Src.lit {w0 w : World} {cv : Value} {g K : Nat} {L : List Ent} (h : Src w0 w cv g K L) (xs : List Int) (hm : xs.length ≤ 1000) :
    Src w0 (w.alloc (.cells (iv xs).toArray 2)) cv g K (row 2 (.slice (some ⟨w.heap.size, 0, none⟩) xs.length xs.length) (iv xs) :: L) := by
  obtain ⟨p, s, h0, h1, hS⟩ := h
  refine ⟨p, s, h0, h1, ?_⟩
  have h2 := hS.new 2 (iv xs).toArray (by simp [iv_len]; unfold maxLen; omega)
  simp only [List.size_toArray, iv_len] at h2
  refine h2.perm ?_
  refine List.Perm.trans (List.perm_append_comm) ?_
  simp only [List.cons_append, List.nil_append]
  exact List.Perm.swap _ _ _

/-- one of some numbers that are written out -/
theorem among_lit (xs : List Int) (w0 w : World) (cv : Value) (bs : List UInt8) (g K : Nat) (L : List Ent) (hb : RdB w0 cv bs) (h : Src w0 w cv g K L) (hne : 0 < xs.length ∧ xs.length ≤ 1000)
    (hK : K < 1000000000000) :
    Calls Tryz.prog 41 #[.pointer (some ⟨g, 0, none⟩), .slice (some ⟨w.heap.size, 0, none⟩) xs.length xs.length] (w.alloc (.cells (iv xs).toArray 2)) (AmongPost xs fun w' => Src w0 w' cv g (K + 2) L) :=
  among_c w0 _ cv bs g K L _ xs hb (h.lit xs hne.2) hne.1 hK

end Go.Proofs.YtnodcfhdfpeokaaGreat
end

section
/- Walks: permutations that are made and drawn; composition, inverses. Walks: composition and inverses of permutations. -/
namespace Go.Proofs.YtnodcfhdfpeokaaGreat
set_option linter.unusedSimpArgs false
set_option linter.unusedVariables false
open Go.RowKit
attribute [local go_sem ↓] Go.wp_at_zero Go.wp_at_succ


set_option maxHeartbeats 1000000 in
set_option maxRecDepth 100000 in
theorem l04One_c (n : Nat) (w : World) (hn : n ≤ 1000) : Calls Tryz.prog 67 #[.int .i64 n] w (MakesI w (iot n)) := by
  have hS0 : St w.heap.size w (w.alloc (.cells #[] 2)) [row 2 (.slice (some ⟨w.heap.size, 0, none⟩) 0 0) (iv [])] := (St.refl w).new 2 #[] (by simp)
  go_enter Tryz.func67, Tryz.ntmps67
  go_wp2_with fail
  go_loopw [3, 4] (fun o x wr => ∃ k : Nat, k ≤ n ∧ x = .int .i64 k ∧ St w.heap.size w wr [row 2 o (iv (iot k))]) (fun _ x _ => n - (intOf x).toNat)
  case atStart => exact ⟨0, by omega, rfl, hS0⟩
  case round =>
    obtain ⟨k, hk, rfl, hS⟩ := hrel
    have hkl := iot_len k
    by_cases hlt : k < n
    · go_wp2_with (at_builtin; refine appI hS 0 rfl (by omega) rfl _ _ rfl rfl _ rfl ?_; intro v2 w2 hS2)
      go_roundw
      case rel => exact ⟨k + 1, by omega, by go_num, by rw [iot_succ]; exact hS2⟩
      case measure => simp [intOf]; omega
    · obtain rfl : k = n := by omega
      go_wp2_with fail
      go_ret
      exact ⟨_, rfl, hS⟩
/-- a permutation of n numbers, and the source goes on -/
def PermS (w0 : World) (cv : Value) (g K n : Nat) (L : List Ent) (e : Ending) (w' : World) : Prop := ∃ v xs, e = .returned v ∧ xs.length = n ∧ IsP xs ∧ Src w0 w' cv g K (row 2 v (iv xs) :: L)
set_option maxHeartbeats 2000000 in
set_option maxRecDepth 100000 in
theorem l04DrawPerm_c (w0 w : World) (cv : Value) (bs : List UInt8) (g K : Nat) (L : List Ent) (n : Nat) (hb : RdB w0 cv bs) (h : Src w0 w cv g K L) (hK : K < 100000000000) (hn : n ≤ 1000) :
    Calls Tryz.prog 43 #[.pointer (some ⟨g, 0, none⟩), .int .i64 n] w (PermS w0 cv g (K + 2 * n) n L) := by
  go_enter Tryz.func43, Tryz.ntmps43
  go_wp2_with fail
  refine (l04One_c n w hn).mono ?_
  rintro e w1 ⟨u, rfl, h1⟩
  have h2 := (h.call h1).perm List.perm_append_comm
  simp only [List.cons_append, List.nil_append] at h2
  clear h h1
  go_wp2_with fail
  go_loopw [6, 7, 8] (fun x _ _ wr => ∃ (j : Nat) (xs : List Int), j ≤ n ∧ x = .int .i64 ((j : Int) - 1) ∧ Hid (xs.length = n) ∧ Hid (IsP xs) ∧ Src w0 wr cv g (K + 2 * (n - j)) (row 2 u (iv xs) :: L)) (fun x _ _ _ => (intOf x).toNat)
  case atStart => exact ⟨n, iot n, by omega, by go_num, iot_len n, iot_isP n, h2.mono (by omega)⟩
  case round =>
    clear h2
    obtain ⟨j, xs, hj, rfl, hl, hp, hs⟩ := hrel
    by_cases h2 : 2 ≤ j
    · go_wp2_with fail
      refine (pick_c w0 wr cv bs g _ _ _ hb hs (by omega)).mono ?_
      rintro e w2 ⟨x, x0, x1, rfl, h3⟩
      obtain ⟨y, rfl⟩ := Int.eq_ofNat_of_zero_le x0
      have hyj : y < j := by omega
      have hyk : y < n := by omega
      have hr := h3.rdI 0 rfl
      have hi1 := hr.ixe ((j : Int) - 1) (j - 1) (by omega) (by rw [hl.out]; omega)
      have hi2 := hr.ixe (y : Int) y rfl (by rw [hl.out]; omega)
      have hc1 := hr.cell (j - 1) (by rw [hl.out]; omega)
      have hc2 := hr.cell y (by rw [hl.out]; omega)
      have Hsw := Lib.hid (hp.out.swp (i := j - 1) (k := y) (by rw [hl.out]; omega) (by rw [hl.out]; omega))
      obtain ⟨pp, ss, s0, s1, hS⟩ := h3
      clear hr x1 x0 hs
      go_wp2_with (first
        | (refine stoI hS2 1 rfl y (by rw [List.length_set, hl.out]; exact hyk) rfl _ _ rfl rfl _ rfl ?_; intro w3 hS3)
        | (refine stoI hS 1 rfl (j - 1) (by rw [hl.out]; omega) rfl _ _ rfl rfl _ rfl ?_; intro w2 hS2))
      go_roundw
      case rel => exact ⟨j - 1, swp2 xs (j - 1) y, by omega, by go_num, by unfold Hid; rw [swp2_len]; exact hl.out, Hsw.out, pp, ss, s0, by omega, hS3⟩
      case measure => simp [intOf]; omega
    · go_wp2_with fail
      go_ret
      exact ⟨_, xs, rfl, hl.out, hp.out, hs.mono (by omega)⟩
end Go.Proofs.YtnodcfhdfpeokaaGreat
end
