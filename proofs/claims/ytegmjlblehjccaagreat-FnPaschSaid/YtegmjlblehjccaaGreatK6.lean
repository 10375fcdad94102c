/- The texts of this claim, run 6: PLat Mk Has Ds7 Ds8 Ds0 Ds1 Ds3 DsF DsH. -/
import Derived.Test.YtegmjlblehjccaaGreatK1
import Derived.Test.YtegmjlblehjccaaGreatK2
import Derived.Test.YtegmjlblehjccaaGreatK4
import Derived.Test.YtegmjlblehjccaaGreatK5
import Derived.Deep.RegionHeld3
import Derived.Deep.DrawnRows
import Derived.Shelf.SlSortCmp.NoneTotal
section
/- Latin squares as lists of lists, their isotopes. In plain terms. -/
namespace Go.Proofs.YtegmjlblehjccaaGreat
set_option linter.unusedSimpArgs false
set_option linter.unusedVariables false
/-- the entry of a place -/
def at2 (A : List (List Int)) (x y : Nat) : Int := nth (xat A x) y
/-- a square of n rows and columns -/
structure Sqr (n : Nat) (A : List (List Int)) : Prop where
  len : A.length = n
  row : ∀ x, x < n → (xat A x).length = n
def colL (A : List (List Int)) (y : Nat) : List Int := A.map fun r => nth r y
/-- a Latin square of at most 10 rows -/
structure Lat (A : List (List Int)) : Prop where
  pos : 1 ≤ A.length
  le : A.length ≤ 10
  len : ∀ x, x < A.length → (xat A x).length = A.length
  row : ∀ x, x < A.length → IsP (xat A x)
  col : ∀ y, y < A.length → IsP (colL A y)
theorem sq_ext {n : Nat} {A B : List (List Int)} (hA : Sqr n A) (hB : Sqr n B) (h : ∀ x y, x < n → y < n → at2 A x y = at2 B x y) : A = B := by
  apply List.ext_getElem (hA.len.trans hB.len.symm)
  intro x h1 h2
  have hx : x < n := by rw [← hA.len]; exact h1
  have e1 : A[x] = xat A x := by simp [xat, h1]
  have e2 : B[x] = xat B x := by simp [xat, h2]
  rw [e1, e2]
  refine nth_ext (by rw [hA.row x hx, hB.row x hx]) fun y hy => h x y hx (by rw [← hA.row x hx]; exact hy)
theorem sq_ext2 {n : Nat} {A B : List (List Int)} {r c : List Int} (hr : IsP r) (hc : IsP c) (hrl : r.length = n) (hcl : c.length = n) (hA : Sqr n A) (hB : Sqr n B)
    (h : ∀ x y, x < n → y < n → at2 A (pf r x) (pf c y) = at2 B (pf r x) (pf c y)) : A = B := by
  refine sq_ext hA hB fun x y hx hy => ?_
  obtain ⟨x', hx', rfl⟩ := hr.bij.onto (y := x) (by omega)
  obtain ⟨y', hy', rfl⟩ := hc.bij.onto (y := y) (by omega)
  exact h x' y' (by omega) (by omega)
theorem at2_sqF {n : Nat} {f : Nat → Nat → Int} {x y : Nat} (hx : x < n) (hy : y < n) : at2 (sqF n f) x y = f x y := by
  unfold at2; rw [xat_sqF hx]; simp [tab, nth, hy]
theorem sqF_sqr (n : Nat) (f : Nat → Nat → Int) : Sqr n (sqF n f) := ⟨sqF_len n f, fun x hx => by rw [xat_sqF hx, tab_len]⟩
/-- one entry anew -/
def putS (S : List (List Int)) (x y : Nat) (v : Int) : List (List Int) := S.set x ((xat S x).set y v)
theorem xat_putS {n : Nat} {S : List (List Int)} (h : Sqr n S) {x : Nat} (hx : x < n) (y : Nat) (v : Int) (t : Nat) : xat (putS S x y v) t = if x = t then (xat S x).set y v else xat S t := by
  unfold putS xat
  rw [List.getD_eq_getElem?_getD, List.getElem?_set]
  split
  · rename_i e; subst e; rw [if_pos (by rw [h.len]; exact hx)]; rfl
  · simp
theorem putS_sqr {n : Nat} {S : List (List Int)} (h : Sqr n S) {x : Nat} (hx : x < n) (y : Nat) (v : Int) : Sqr n (putS S x y v) := by
  refine ⟨by unfold putS; rw [List.length_set]; exact h.len, fun t ht => ?_⟩
  rw [xat_putS h hx]
  split
  · rw [List.length_set]; exact h.row x hx
  · exact h.row t ht
theorem at2_putS {n : Nat} {S : List (List Int)} (h : Sqr n S) {x y : Nat} (hx : x < n) (hy : y < n) (v : Int) (t u : Nat) : at2 (putS S x y v) t u = if x = t ∧ y = u then v else at2 S t u := by
  unfold at2
  rw [xat_putS h hx]
  by_cases e : x = t
  · subst e
    rw [if_pos rfl, nth_set (by rw [h.row x hx]; exact hy)]
    by_cases e2 : y = u
    · rw [if_pos e2, if_pos ⟨rfl, e2⟩]
    · rw [if_neg e2, if_neg fun h => e2 h.2]
  · rw [if_neg e, if_neg fun h => e h.1]
/-! ### isotopes -/
def isoL (A : List (List Int)) (r c s : List Int) : List (List Int) := sqF A.length fun x y => nth s (at2 A (pf (invL r) x) (pf (invL c) y)).toNat
theorem pf_invL {xs : List Int} (h : IsP xs) {j : Nat} (hj : j < xs.length) : pf (invL xs) (pf xs j) = j := by unfold pf; rw [show nth (invL xs) (nth xs j).toNat = j from nth_invL h hj]; rfl
theorem isoL_sqr (A : List (List Int)) (r c s : List Int) : Sqr A.length (isoL A r c s) := sqF_sqr _ _
theorem isoL_at {A : List (List Int)} {r c s : List Int} (hr : IsP r) (hc : IsP c) (hrl : r.length = A.length) (hcl : c.length = A.length) {x y : Nat} (hx : x < A.length) (hy : y < A.length) :
    at2 (isoL A r c s) (pf r x) (pf c y) = nth s (at2 A x y).toNat := by
  have h1 : pf r x < A.length := by rw [← hrl]; exact hr.pf_lt (by omega)
  have h2 : pf c y < A.length := by rw [← hcl]; exact hc.pf_lt (by omega)
  unfold isoL
  rw [at2_sqF h1 h2, pf_invL hr (by omega), pf_invL hc (by omega)]
/-- the isotope, made as far as place y of row x -/
structure IsoP (A : List (List Int)) (r c s : List Int) (x y : Nat) (S : List (List Int)) : Prop where
  sqr : Sqr A.length S
  at' : ∀ x' y', x' < A.length → y' < A.length → (x' < x ∨ x' = x ∧ y' < y) → at2 S (pf r x') (pf c y') = nth s (at2 A x' y').toNat
section
variable {A : List (List Int)} {r c s : List Int}
theorem IsoP.start : IsoP A r c s 0 0 (sqF A.length fun _ _ => 0) := ⟨sqF_sqr _ _, fun _ _ _ _ h => by omega⟩
theorem IsoP.step (hr : IsP r) (hc : IsP c) (hrl : r.length = A.length) (hcl : c.length = A.length) {x y : Nat} {S : List (List Int)} (h : IsoP A r c s x y S) (hx : x < A.length) (hy : y < A.length) :
    IsoP A r c s x (y + 1) (putS S (pf r x) (pf c y) (nth s (at2 A x y).toNat)) := by
  have h1 : pf r x < A.length := by rw [← hrl]; exact hr.pf_lt (by omega)
  have h2 : pf c y < A.length := by rw [← hcl]; exact hc.pf_lt (by omega)
  refine ⟨putS_sqr h.sqr h1 _ _, fun x' y' hx' hy' hl => ?_⟩
  rw [at2_putS h.sqr h1 h2]
  split
  · rename_i e
    rw [hr.bij.inj x x' (by omega) (by omega) e.1, hc.bij.inj y y' (by omega) (by omega) e.2]
  · rename_i e
    refine h.at' x' y' hx' hy' ?_
    rcases hl with hl | ⟨rfl, hl⟩
    · exact .inl hl
    · refine .inr ⟨rfl, ?_⟩
      by_cases e2 : y' = y
      · subst e2; exact absurd ⟨rfl, rfl⟩ e
      · omega
theorem IsoP.next {x : Nat} {S : List (List Int)} (h : IsoP A r c s x A.length S) : IsoP A r c s (x + 1) 0 S :=
  ⟨h.sqr, fun x' y' hx' hy' hl => h.at' x' y' hx' hy' (by omega)⟩
theorem IsoP.done (hr : IsP r) (hc : IsP c) (hrl : r.length = A.length) (hcl : c.length = A.length) {S : List (List Int)} (h : IsoP A r c s A.length 0 S) : S = isoL A r c s :=
  sq_ext2 hr hc hrl hcl h.sqr (isoL_sqr A r c s) fun x y hx hy => by
    rw [h.at' x y hx hy (.inl hx), isoL_at hr hc hrl hcl hx hy]
end
end Go.Proofs.YtegmjlblehjccaaGreat
end

section
/- make inside a region that draws its order. A region that loads cells and writes them by its last stores: what is held of the world is asked until the first of these stores alone. A region that loads cells and writes them at its end: an operation taken first, by a chain of operations that wait for each other. -/
namespace Go.Proofs.YtegmjlblehjccaaGreat
set_option linter.unusedSimpArgs false
set_option linter.unusedVariables false
open Go.RowKit
theorem cell_al {w : World} {o : Obj} {a : Addr} {v : Value} (h : w.cell? a = some v) : (w.alloc o).cell? a = some v := by
  rw [World.cell?_alloc_some _ _ _ (by rw [h]; rfl)]; exact h
theorem cell_dr {w : World} {a : Addr} {v : Value} (h : w.cell? a = some v) : w.drew.cell? a = some v := h
theorem cell_sc {w : World} {p a : Addr} {u v : Value} (hp : p.block ≠ a.block) (h : w.cell? a = some v) : (w.setCell p u).cell? a = some v := by
  rw [World.cell?_setCell_far _ _ _ _ hp]; exact h
section
variable {P : Program} {ops : Array Oper} {o : Oper} {a : Act} {K : Act → World → Prop} {Q : Exit → Act → World → Prop} {E : Prop}
end
section
variable {ops : Array Oper} {o : Oper} {a : Act} {K : Act → World → Prop} {Q : Exit → Act → World → Prop} {E : Prop} {B : Nat} {w0 w : World} {L : List Ent}
end

section
variable {P : Program} {ops : Array Oper} {Q : Exit → Act → World → Prop} {md : Region.Mode} {S : World → Prop} {st : Nat}

/-- whichever order is picked; S is shown behind every operation till operation st has come up -/
def anyG (P : Program) (md : Region.Mode) (ops : Array Oper) (Q : Exit → Act → World → Prop) (S : World → Prop) (st : Nat) : Nat → Array Bool → Act → World → Prop
  | 0, listed, a, w => Region.ready md ops listed = [] ∧ Q .normal a w
  | n + 1, listed, a, w => (Region.ready md ops listed = [] → Q .normal a w) ∧
    ∀ i ∈ Region.ready md ops listed, wpOp P ops Q i (fun a' w' => ((listed.setIfInBounds i true).getD st true = false → S w') ∧ anyG P md ops Q S st n (listed.setIfInBounds i true) a' w') a w

theorem wpAny_of_G : ∀ (n : Nat) (listed : Array Bool) (a : Act) (w : World), anyG P md ops Q S st n listed a w → wpAny P md ops Q n listed a w
  | 0, _, _, _, h => h
  | n + 1, _, _, _, h => ⟨h.1, fun i hi => wpOp_mono (fun a' w' h' => wpAny_of_G n _ a' w' h'.2) (h.2 i hi)⟩

theorem set_un {listed : Array Bool} {j k : Nat} (hne : j ≠ k) (h : listed.getD k true = false) : (listed.setIfInBounds j true).getD k true = false := by rw [getD_set_ne true hne]; exact h
/-- what waits for an operation that has not come up cannot come up -/
theorem not_ready {listed : Array Bool} {j k : Nat} (hk : listed.getD k true = false) (hw : ∃ o, ops[j]? = some o ∧ ∃ e ∈ o.after, Region.binds md e = true ∧ e.on = k) : j ∉ Region.ready md ops listed := by
  intro h
  obtain ⟨_, o, ho, hall⟩ := mem_ready.1 h
  obtain ⟨o', ho', e, he, hb, rfl⟩ := hw
  rw [ho] at ho'; cases ho'
  have h1 := hall e he hb
  rcases Nat.lt_or_ge e.on listed.size with h' | h'
  · simp [h'] at hk h1; rw [hk] at h1; cases h1
  · simp [Array.getElem?_eq_none h'] at h1

/-- an operation that yields in whatever world may be taken first -/
theorem anyG_pure {i : Nat} {oi : Oper} {v : Value} (hi : ops[i]? = some oi) (hsel : ∀ (j : Nat) (o : Oper) cs b, ops[j]? = some o → o.op ≠ .select cs b)
    (hQ : ∀ c a w, Q (.panic c) (a.put oi.dst v) w → Q (.panic c) a w) (hne : i ≠ st) :
    ∀ (n : Nat) (listed : Array Bool) (a : Act) (w : World),
      (∀ j oj, ops[j]? = some oj → j ≠ i → listed.getD j true = false → (∀ e ∈ oj.after, Region.binds md e = true → e.on ≠ i) → oi.apart ops oj = true) →
      i ∈ Region.ready md ops listed → YieldsIf P ops (fun _ => True) oi v a → (listed.getD st true = false → S w) →
      anyG P md ops Q S st n (listed.setIfInBounds i true) (a.put oi.dst v) w → anyG P md ops Q S st (n + 1) listed a w := by
  intro n
  induction n with
  | zero =>
    intro listed a w _ hr hy hS H
    refine ⟨fun h => (by rw [h] at hr; cases hr), fun j hj => ?_⟩
    by_cases hji : j = i
    · subst hji; exact hy.wpOp hi trivial ⟨fun e => hS (by rwa [getD_set_ne true hne] at e), H⟩
    · have := ready_mono hj hji
      rw [H.1] at this
      cases this
  | succ n ih =>
    intro listed a w hfree hr hy hS H
    have hiu : listed.getD i true = false := (mem_ready.1 hr).1
    refine ⟨fun h => (by rw [h] at hr; cases hr), fun j hj => ?_⟩
    by_cases hji : j = i
    · subst hji; exact hy.wpOp hi trivial ⟨fun e => hS (by rwa [getD_set_ne true hne] at e), H⟩
    · have h1 := H.2 j (ready_mono hj hji)
      obtain ⟨hjun, oj, hoj, hall⟩ := mem_ready.1 hj
      have hnot : ∀ e ∈ oj.after, Region.binds md e = true → e.on ≠ i := fun e he hb heq => not_ready hiu ⟨oj, hoj, e, he, hb, heq⟩ hj
      have h2 := wpOp_putIf hoj (hfree j oj hoj hji hjun hnot) (fun cs b => hsel i oi cs b hi) (fun cs b => hsel j oj cs b hoj) hQ hy h1
      refine wpOp_mono (fun a' w' h3 => ?_) h2
      have hSw : (listed.setIfInBounds j true).getD st true = false → S w' := fun e => h3.2.1 (by rw [Array.setIfInBounds_comm _ _ (Ne.symm hji), getD_set_ne true hne]; exact e)
      refine ⟨hSw, ih (listed.setIfInBounds j true) a' w' ?_ (ready_mono hr (Ne.symm hji)) h3.1 hSw ?_⟩
      · intro m om hm hmi hun hno
        refine hfree m om hm hmi ?_ hno
        by_cases hjm : j = m
        · subst hjm; exact hjun
        · rwa [getD_set_ne true hjm] at hun
      · rw [Array.setIfInBounds_comm _ _ hji]
        exact h3.2.2
/-- number i is taken first, whatever the world -/
theorem takeP {i : Nat} {oi : Oper} {v : Value} {n : Nat} {listed : Array Bool} {a : Act} {w : World} (hi : ops[i]? = some oi)
    (hs : (Region.noSelect ops && Region.free md ops listed i && (Region.ready md ops listed).contains i && (!(i == st))) = true)
    (hQ : ∀ c a w, Q (.panic c) (a.put oi.dst v) w → Q (.panic c) a w) (hw : Region.wanted oi (yielded ops a.tmps) = true) (hy : ∀ w, (execOp a.eval oi).run P w = .ok (.value v) w) (hS : S w)
    (h : anyG P md ops Q S st n (listed.setIfInBounds i true) (a.put oi.dst v) w) : anyG P md ops Q S st (n + 1) listed a w := by
  simp only [Bool.and_eq_true, Bool.not_eq_true', beq_eq_false_iff_ne] at hs
  obtain ⟨⟨⟨h1, h2⟩, h3⟩, h4⟩ := hs
  exact anyG_pure hi (Region.noSelect_spec h1) hQ h4 n listed a w (Region.free_spec hi h2) (by simpa using h3) (.inl ⟨hw, fun w _ => hy w⟩) (fun _ => hS) h

def waits (md : Region.Mode) (ops : Array Oper) (j k : Nat) : Bool := match ops[j]? with
  | some o => o.after.any fun e => Region.binds md e && e.on == k
  | none => false
theorem waits_spec {j k : Nat} (h : waits md ops j k = true) : ∃ o, ops[j]? = some o ∧ ∃ e ∈ o.after, Region.binds md e = true ∧ e.on = k := by
  unfold waits at h
  cases ho : ops[j]? with
  | none => rw [ho] at h; cases h
  | some o =>
    rw [ho] at h
    simp only [Array.any_eq_true', Bool.and_eq_true, beq_iff_eq] at h
    obtain ⟨e, he, hb, hk⟩ := h
    exact ⟨o, rfl, e, he, hb, hk⟩
def AllG (P : Program) (md : Region.Mode) (ops : Array Oper) (Q : Exit → Act → World → Prop) (S : World → Prop) (st n : Nat) (listed : Array Bool) (a : Act) (w : World) (rs : List Nat) : Prop :=
  ∀ i ∈ rs, wpOp P ops Q i (fun a' w' => ((listed.setIfInBounds i true).getD st true = false → S w') ∧ anyG P md ops Q S st n (listed.setIfInBounds i true) a' w') a w
theorem AllG.nil {n : Nat} {listed : Array Bool} {a : Act} {w : World} : AllG P md ops Q S st n listed a w [] := fun _ h => by cases h
/-- an operation ahead of st -/
theorem AllG.cons {n : Nat} {listed : Array Bool} {a : Act} {w : World} {i : Nat} {o : Oper} {rs : List Nat} (ho : ops[i]? = some o)
    (h : ∀ K' : Act → World → Prop, Shut (∀ a w, S w → (S w → anyG P md ops Q S st n (listed.setIfInBounds i true) a w) → K' a w) → if Region.wanted o (yielded ops a.tmps) = true then Oper.wp P o a w K' Q else K' (a.put o.dst undef) w)
    (hs : AllG P md ops Q S st n listed a w rs) : AllG P md ops Q S st n listed a w (i :: rs) := fun j hj => by
  rcases List.mem_cons.1 hj with rfl | hj
  · exact wpOp_step ho (fun K' hK => h K' (fun a w hS hW => hK a w ⟨fun _ => hS, hW hS⟩))
  · exact hs j hj
/-- st itself, or one behind it -/
theorem AllG.last {n : Nat} {listed : Array Bool} {a : Act} {w : World} {i : Nat} {o : Oper} {rs : List Nat} (ho : ops[i]? = some o) (hl : (listed.setIfInBounds i true).getD st true = true)
    (h : ∀ K' : Act → World → Prop, Shut (∀ a w, anyG P md ops Q S st n (listed.setIfInBounds i true) a w → K' a w) → if Region.wanted o (yielded ops a.tmps) = true then Oper.wp P o a w K' Q else K' (a.put o.dst undef) w)
    (hs : AllG P md ops Q S st n listed a w rs) : AllG P md ops Q S st n listed a w (i :: rs) := fun j hj => by
  rcases List.mem_cons.1 hj with rfl | hj
  · exact wpOp_step ho (fun K' hK => h K' (fun a w hW => hK a w ⟨fun e => (by rw [hl] at e; cases e), hW⟩))
  · exact hs j hj
theorem readyG {rs : List Nat} {n : Nat} {listed : Array Bool} {a : Act} {w : World} (hr : Region.ready md ops listed = rs) (hne : rs ≠ [])
    (h : AllG P md ops Q S st n listed a w rs) : anyG P md ops Q S st (n + 1) listed a w := ⟨fun h0 => absurd (hr ▸ h0) hne, hr ▸ h⟩
theorem doneG {listed : Array Bool} {a : Act} {w : World} (hr : Region.ready md ops listed = []) (h : Q .normal a w) : ∀ n, anyG P md ops Q S st n listed a w
  | 0 => ⟨hr, h⟩
  | _ + 1 => ⟨fun _ => h, by rw [hr]; simp⟩
/-- the beginning -/
theorem regionG {id : Nat} {a : Act} {w : World} (S : World → Prop) (st : Nat) (hm : P.follows .mixedOrders = true) (hS : S w.drew)
    (h : S w.drew → anyG P .any ops (NoPanic Q) S st ops.size (Array.replicate ops.size false) a w.drew) : (Code.region id ops true).wp P Q a w :=
  wp_region_noPanic (wp_region_any hm (wpAny_of_G _ _ _ _ (h hS)))
end

section
variable {P : Program} {ops : Array Oper} {Q : Exit → Act → World → Prop} {md : Region.Mode} {S : World → Prop} {st : Nat}
theorem anyG_firstL {i : Nat} {oi : Oper} {v : Value} (ks : List Nat) (hi : ops[i]? = some oi) (hsel : ∀ (j : Nat) (o : Oper) cs b, ops[j]? = some o → o.op ≠ .select cs b)
    (hQ : ∀ c a w, Q (.panic c) (a.put oi.dst v) w → Q (.panic c) a w)
    (hks : ∀ k ∈ ks, k = i ∨ ∃ m ∈ i :: ks, ∃ o, ops[k]? = some o ∧ ∃ e ∈ o.after, Region.binds md e = true ∧ e.on = m) (hst : ∃ m ∈ i :: ks, ∃ o, ops[st]? = some o ∧ ∃ e ∈ o.after, Region.binds md e = true ∧ e.on = m) :
    ∀ (n : Nat) (listed : Array Bool) (a : Act) (w : World), (∀ k ∈ ks, listed.getD k true = false) → listed.getD st true = false →
      (∀ j oj, ops[j]? = some oj → j ≠ i → listed.getD j true = false → (∀ e ∈ oj.after, Region.binds md e = true → e.on ≠ i) → oi.apart ops oj = true) →
      i ∈ Region.ready md ops listed → YieldsIf P ops S oi v a → S w →
      anyG P md ops Q S st n (listed.setIfInBounds i true) (a.put oi.dst v) w → anyG P md ops Q S st (n + 1) listed a w := by
  intro n
  induction n with
  | zero =>
    intro listed a w hk hs _ hr hy hS H
    refine ⟨fun h => (by rw [h] at hr; cases hr), fun j hj => ?_⟩
    by_cases hji : j = i
    · subst hji; exact hy.wpOp hi hS ⟨fun _ => hS, H⟩
    · have := ready_mono hj hji
      rw [H.1] at this
      cases this
  | succ n ih =>
    intro listed a w hk hs hfree hr hy hS H
    have hiu : listed.getD i true = false := (mem_ready.1 hr).1
    have hun : ∀ m ∈ i :: ks, listed.getD m true = false := fun m hm => by
      rcases List.mem_cons.1 hm with rfl | hm
      · exact hiu
      · exact hk m hm
    refine ⟨fun h => (by rw [h] at hr; cases hr), fun j hj => ?_⟩
    by_cases hji : j = i
    · subst hji; exact hy.wpOp hi hS ⟨fun _ => hS, H⟩
    · have hjk : j ∉ ks := by
        intro hjm
        rcases hks j hjm with e | ⟨m, hm, hw⟩
        · exact hji e
        · exact not_ready (hun m hm) hw hj
      obtain ⟨ms, hms, hws⟩ := hst
      have hjs : j ≠ st := by
        rintro rfl
        exact not_ready (hun ms hms) hws hj
      have h1 := H.2 j (ready_mono hj hji)
      obtain ⟨hjun, oj, hoj, hall⟩ := mem_ready.1 hj
      have hnot : ∀ e ∈ oj.after, Region.binds md e = true → e.on ≠ i := fun e he hb heq => not_ready hiu ⟨oj, hoj, e, he, hb, heq⟩ hj
      have h2 := wpOp_putIf hoj (hfree j oj hoj hji hjun hnot) (fun cs b => hsel i oi cs b hi) (fun cs b => hsel j oj cs b hoj) hQ hy h1
      have hsj : (listed.setIfInBounds j true).getD st true = false := set_un hjs hs
      refine wpOp_mono (fun a' w' h3 => ?_) h2
      have hSw : S w' := h3.2.1 (set_un hjs (set_un (fun e => by subst e; exact not_ready (hun ms hms) hws hr) hs))
      refine ⟨fun _ => hSw, ih (listed.setIfInBounds j true) a' w' (fun k hkm => set_un (fun e => hjk (e ▸ hkm)) (hk k hkm)) hsj ?_ (ready_mono hr (Ne.symm hji)) h3.1 hSw ?_⟩
      · intro m om hm hmi hun hno
        refine hfree m om hm hmi ?_ hno
        by_cases hjm : j = m
        · subst hjm; exact hjun
        · rwa [getD_set_ne true hjm] at hun
      · rw [Array.setIfInBounds_comm _ _ hji]
        exact h3.2.2
/-- number i is taken first; ks: operations that wait for it, for each other, and st for one of them -/
theorem takeH {i : Nat} (ks : List Nat) {oi : Oper} {v : Value} {n : Nat} {listed : Array Bool} {a : Act} {w : World} (hi : ops[i]? = some oi)
    (hs : (Region.noSelect ops && Region.free md ops listed i && (Region.ready md ops listed).contains i && (ks.all fun k => k == i || (i :: ks).any fun m => waits md ops k m) && ((i :: ks).any fun m => waits md ops st m) && (ks.all fun k => !listed.getD k true) && (!listed.getD st true)) = true)
    (hQ : ∀ c a w, Q (.panic c) (a.put oi.dst v) w → Q (.panic c) a w) (hw : Region.wanted oi (yielded ops a.tmps) = true) (hy : ∀ w, S w → (execOp a.eval oi).run P w = .ok (.value v) w) (hS : S w)
    (h : anyG P md ops Q S st n (listed.setIfInBounds i true) (a.put oi.dst v) w) : anyG P md ops Q S st (n + 1) listed a w := by
  simp only [Bool.and_eq_true, Bool.not_eq_true', Bool.or_eq_true, beq_iff_eq, List.all_eq_true] at hs
  obtain ⟨⟨⟨⟨⟨⟨h1, h2⟩, h3⟩, h4⟩, h5⟩, h6⟩, h7⟩ := hs
  refine anyG_firstL ks hi (Region.noSelect_spec h1) hQ (fun k hk => ?_) ?_ n listed a w h6 h7 (Region.free_spec hi h2) (by simpa using h3) (.inl ⟨hw, hy⟩) hS h
  · rcases h4 k hk with e | e
    · exact .inl e
    · obtain ⟨m, hm, hmw⟩ := List.any_eq_true.1 e
      exact .inr ⟨m, hm, waits_spec hmw⟩
  · obtain ⟨m, hm, hmw⟩ := List.any_eq_true.1 h5
    exact ⟨m, hm, waits_spec hmw⟩
end

end Go.Proofs.YtegmjlblehjccaaGreat
end

section
/- Walks: whether a list holds a number. -/
namespace Go.Proofs.YtegmjlblehjccaaGreat
set_option linter.unusedSimpArgs false
set_option linter.unusedVariables false
open Go.RowKit
set_option maxHeartbeats 1000000 in
set_option maxRecDepth 100000 in
theorem l00Has_c (v : Value) (xs : List Int) (n : Int) (w : World) (hv : RdI w v xs) :
    Calls Tryz.prog 156 #[v, .int .i64 n] w fun e w' => e = .returned (.bool (decide (n ∈ xs))) ∧ w = w' := by
  have hln := hv.len
  have hix := hv.ix
  have hm := hv.le
  go_enter Tryz.func156, Tryz.ntmps156
  go_wp2_with fail
  go_loopw [5] (fun i wr => ∃ k : Nat, k ≤ xs.length ∧ i = .int .i64 k ∧ Hid (n ∉ xs.take k) ∧ wr = w) (fun i _ => xs.length - (intOf i).toNat)
  case atStart => exact ⟨0, by omega, rfl, by simp [Hid], rfl⟩
  case round =>
    obtain ⟨k, hk, rfl, hI, rfl⟩ := hrel
    by_cases hlt : k < xs.length
    · have hc := hv.cell k hlt
      by_cases hp : nth xs k = n
      · have f1 := eq_t hp
        have Hp := Lib.hid (show decide (n ∈ xs) = true by rw [decide_eq_true_iff, ← hp]; exact nth_mem hlt)
        clear hp
        go_wp2_with fail
        go_ret
        exact ⟨ret_bool Hp.out.symm, rfl⟩
      · have f1 := eq_f hp
        have Hp := Lib.hid (show n ∉ xs.take (k + 1) by rw [take_nth hlt, List.mem_append, not_or]; exact ⟨hI.out, by simp; exact fun e => hp e.symm⟩)
        clear hp
        go_wp2_with fail
        go_roundw
        case rel => exact ⟨k + 1, by omega, by go_num, Hp, by first | rfl | trivial⟩
        case measure => simp [intOf]; omega
    · have Hn := Lib.hid (show decide (n ∈ xs) = false by rw [decide_eq_false_iff_not]; have := hI.out; rwa [List.take_of_length_le (by omega)] at this)
      go_wp2_with fail
      go_ret
      exact ⟨ret_bool Hn.out.symm, rfl⟩
end Go.Proofs.YtegmjlblehjccaaGreat
end

section
/- Walks: how often points and pairs of points occur in a design. -/
namespace Go.Proofs.YtegmjlblehjccaaGreat
set_option linter.unusedSimpArgs false
set_option linter.unusedVariables false
open Go.RowKit
attribute [local go_sem ↓] Go.wp_at_zero Go.wp_at_succ

/-- a block of points 0 .. P - 1 that increases -/
structure Inc (P : Nat) (b : List Int) : Prop where
  bd : ∀ i, i < b.length → 0 ≤ nth b i ∧ nth b i < P
  lt : ∀ i j, i < j → j < b.length → nth b i < nth b j
  len : b.length ≤ P
theorem inc_of {P : Nat} {b : List Int} (h : incB (-1) P b = true) : Inc P b where
  len := by have := inc_len h (by omega); omega
  bd i hi := by have := incB_gt h _ (nth_mem hi); omega
  lt i j hij hj := by
    have := List.pairwise_iff_getElem.1 (incB_pw h) i j (by omega) hj hij
    rwa [← nth_eq (show i < b.length by omega), ← nth_eq hj] at this
theorem DOk.inc' {P : Nat} {A : List (List Int)} (h : DOk P A) {k : Nat} (hk : k < A.length) : Inc P (xat A k) := inc_of (h.inc _ (xat_mem hk))
theorem Inc.nat {P : Nat} {b : List Int} (h : Inc P b) {i : Nat} (hi : i < b.length) : ∃ x : Nat, nth b i = x ∧ x < P :=
  ⟨(nth b i).toNat, by have := h.bd i hi; omega, by have := h.bd i hi; omega⟩
theorem Inc.fresh {P : Nat} {b : List Int} (h : Inc P b) {j : Nat} (hj : j < b.length) : nth b j ∉ b.take j := by
  intro hm
  obtain ⟨i, hi, he⟩ := List.getElem_of_mem hm
  have hi' : i < j := by simp at hi; omega
  rw [List.getElem_take, ← nth_eq (show i < b.length by omega)] at he
  have := h.lt i j hi' hj
  omega
theorem mem_take1 {b : List Int} {j : Nat} (hj : j < b.length) (x : Int) : x ∈ b.take (j + 1) ↔ x ∈ b.take j ∨ x = nth b j := by
  rw [List.take_add_one, List.getElem?_eq_getElem hj, nth_eq hj, List.mem_append]
  simp only [Option.toList, List.mem_singleton]
/-- how often the points have come up, behind k blocks and j points -/
def repS (P : Nat) (A : List (List Int)) (k j : Nat) : List Int := (List.range P).map fun x => repF (A.take k) x + if (x : Int) ∈ (xat A k).take j then 1 else 0
theorem repS_len (P : Nat) (A : List (List Int)) (k j : Nat) : (repS P A k j).length = P := by simp [repS]
theorem repS_at {P : Nat} {A : List (List Int)} {k j x : Nat} (hx : x < P) : nth (repS P A k j) x = repF (A.take k) x + if (x : Int) ∈ (xat A k).take j then 1 else 0 := by
  rw [nth_eq (by rw [repS_len]; exact hx)]; simp [repS]
theorem repS_0 (P : Nat) (A : List (List Int)) : repS P A 0 0 = List.replicate P 0 := by
  apply List.ext_getElem
  · simp [repS]
  · intro i h1 h2
    simp [repS, repF, cntD]
theorem repS_bd {P : Nat} {A : List (List Int)} {k j x : Nat} (hk : k < A.length) (hA : A.length ≤ 128) (hx : x < P) : 0 ≤ nth (repS P A k j) x ∧ nth (repS P A k j) x ≤ 129 := by
  rw [repS_at hx]
  have := cntD_bd (fun b => decide ((x : Int) ∈ b)) (A.take k)
  have hl : (A.take k).length ≤ 128 := by simp; omega
  unfold repF
  split <;> omega
theorem repS_step {P : Nat} {A : List (List Int)} {k j x : Nat} (hi : Inc P (xat A k)) (hj : j < (xat A k).length) (hx : nth (xat A k) j = x) (hxP : x < P) :
    (repS P A k j).set x (nth (repS P A k j) x + 1) = repS P A k (j + 1) := by
  apply List.ext_getElem
  · simp [repS]
  · intro i h1 h2
    have hiP : i < P := by simpa [repS] using h2
    rw [← nth_eq h2, repS_at hiP, List.getElem_set]
    have hf := hi.fresh hj
    rw [hx] at hf
    have hm := mem_take1 hj (i : Int)
    rw [hx] at hm
    by_cases e : x = i
    · subst e
      rw [if_pos rfl, repS_at hxP, if_neg hf, if_pos (hm.2 (.inr rfl))]; omega
    · rw [if_neg e, ← nth_eq (by rw [repS_len]; exact hiP), repS_at hiP]
      congr 1
      have : ((i : Int) ∈ (xat A k).take (j + 1)) ↔ (i : Int) ∈ (xat A k).take j := by rw [hm]; constructor
                                                                                       · rintro (h | h)
                                                                                         · exact h
                                                                                         · omega
                                                                                       · exact .inl
      simp only [this]
theorem repS_next {P : Nat} {A : List (List Int)} {k : Nat} (hk : k < A.length) : repS P A k (xat A k).length = repS P A (k + 1) 0 := by
  refine List.map_congr_left fun x _ => ?_
  rw [List.take_length, take_xat hk]
  unfold repF
  rw [cntD_snoc]
  simp
theorem repS_end {P : Nat} {A : List (List Int)} : repS P A A.length 0 = repL P A := by
  refine List.map_congr_left fun x _ => ?_
  rw [List.take_length]; simp

set_option maxHeartbeats 2000000 in
set_option maxRecDepth 100000 in
theorem replicationsOf_c (P : Nat) (v : Value) (us : List Value) (A : List (List Int)) (w : World) (hv : RII w v us A) (hD : DOk P A) :
    Calls Tryz.prog 160 #[dv P v] w (MakesI w (repL P A)) := by
  obtain ⟨a, c, hsh⟩ := hv.1.sl.sh
  rw [hv.2.1] at hsh
  subst hsh
  have hP := hD.le
  have hDl := hD.len
  have HD := Lib.hid hD
  clear hD
  have hS1 := (St.refl w).newboxF 26 #[.int .i64 P, .slice a A.length c]
  have b0 := hS1.bcell 0 rfl 0 rfl
  have b1 := hS1.bcell 0 rfl 1 rfl
  have hix := hv.ix
  unfold dv
  go_enter Tryz.func160, Tryz.ntmps160
  go_wp2_with (at_make; refine mkI hS1 rfl _ _ rfl _ _ P (by go_num) (by go_num) (by omega) ?_; intro vc w3 hS3; have b1 := hS3.bcell 0 rfl 1 rfl)
  have hxc := (hS3.rdI 1 rfl).ixe
  rw [← repS_0 P A] at hS3 hxc
  rw [repS_len] at hxc
  go_loopw [5, 7, 14] (fun _ _ i wr => ∃ k : Nat, k ≤ A.length ∧ i = .int .i64 k ∧ St w.heap.size w wr [box 26 w.heap.size [.int .i64 P, .slice a A.length c], row 2 vc (iv (repS P A k 0))]) (fun _ _ i _ => A.length - (intOf i).toNat)
  case atStart => exact ⟨0, by omega, rfl, hS3⟩
  case round =>
    clear hS3 b0 b1
    obtain ⟨k, hk, rfl, hS⟩ := hrel
    by_cases hlt : k < A.length
    · have hc := (hS.oldII hv).cell k hlt
      have hrk := (hS.oldII hv).row k hlt
      have hlk := hrk.len
      have hik := hrk.ix
      have HI := Lib.hid (HD.out.inc' hlt)
      have hl32 := HI.out.len
      have Hnx := Lib.hid (repS_next (P := P) hlt)
      go_wp2_with fail
      obtain ⟨wo, rfl⟩ : ∃ wo : World, wo = wr := ⟨_, rfl⟩
      go_loopw [7, 20] (fun _ i wr => ∃ j : Nat, j ≤ (xat A k).length ∧ i = .int .i64 j ∧ St w.heap.size w wr [box 26 w.heap.size [.int .i64 P, .slice a A.length c], row 2 vc (iv (repS P A k j))]) (fun _ i _ => (xat A k).length - (intOf i).toNat)
      case atStart => exact ⟨0, by omega, rfl, hS⟩
      case round =>
        clear hS hc hrk
        obtain ⟨j, hj, rfl, hS⟩ := hrel
        by_cases hjt : j < (xat A k).length
        · have cb := ((hS.oldII hv).row k hlt).cell j hjt
          obtain ⟨x, hx, hxP⟩ := HI.out.nat hjt
          rw [hx] at cb
          have Hst := Lib.hid (repS_step HI.out hjt hx hxP)
          have cx := (hS.rdI 1 rfl).cell x (by rw [repS_len]; exact hxP)
          have ux := hS.unfrozen 1 rfl (j := x) (by rw [iv_len, repS_len]; exact hxP)
          have xx := hxc (x : Int) x rfl hxP
          have hbd := repS_bd (P := P) (j := j) hlt hDl hxP
          have HS9 := Lib.hid (hS.store 1 rfl (j := x) (by rw [iv_len, repS_len]; exact hxP) (.int .i64 (nth (repS P A k j) x + 1)))
          generalize hq : nth (repS P A k j) x = q at *
          clear hq hx
          go_wp2_with fail
          have hS9 := HS9.out
          simp only [List.set_cons_zero, List.set_cons_succ] at hS9
          rw [iv_set, Hst.out] at hS9
          go_roundw
          case rel => exact ⟨j + 1, by omega, by go_num, hS9⟩
          case measure => simp [intOf]; omega
        · obtain rfl : j = (xat A k).length := by omega
          rw [Hnx.out] at hS
          go_wp2_with fail
          go_roundw
          case rel => exact ⟨k + 1, by omega, by go_num, hS⟩
          case measure => simp [intOf]; omega
    · obtain rfl : k = A.length := by omega
      rw [repS_end] at hS
      go_wp2_with fail
      go_ret
      exact ⟨vc, rfl, hS.sub (List.sublist_cons_self _ _)⟩
end Go.Proofs.YtegmjlblehjccaaGreat
end

section
/- Walks: how often pairs of points occur in a design. -/
namespace Go.Proofs.YtegmjlblehjccaaGreat
set_option linter.unusedSimpArgs false
set_option linter.unusedVariables false
open Go.RowKit
attribute [local go_sem ↓] Go.wp_at_zero Go.wp_at_succ

def parC (b : List Int) (i j x y : Nat) : Prop := ((x : Int) ∈ b.take i ∧ (y : Int) ∈ b) ∨ ((x : Int) = nth b i ∧ (y : Int) ∈ (b.drop (i + 1)).take j)
open Classical in
noncomputable def parT (A : List (List Int)) (k i j x y : Nat) : Int := parF (A.take k) x y + if parC (xat A k) i j x y then 1 else 0
/-- the table behind k blocks, i points and j further points -/
structure PrM (P : Nat) (A : List (List Int)) (k i j : Nat) (M : List (List Int)) : Prop where
  sq : Sqr P M
  at' : ∀ x y, x < y → y < P → at2 M x y = parT A k i j x y
theorem parT_bd {A : List (List Int)} {k i j x y : Nat} (hA : A.length ≤ 128) : 0 ≤ parT A k i j x y ∧ parT A k i j x y ≤ 129 := by
  unfold parT parF
  have := cntD_bd (fun b => decide ((x : Int) ∈ b) && decide ((y : Int) ∈ b)) (A.take k)
  have hl : (A.take k).length ≤ 128 := by simp; omega
  split <;> omega
theorem nth_drop (b : List Int) (i j : Nat) : nth (b.drop i) j = nth b (i + j) := by simp [nth]
theorem Inc.fresh2 {P : Nat} {b : List Int} (h : Inc P b) {i j : Nat} (hj : i + j < b.length) : nth b (i + j) ∉ (b.drop i).take j := by
  intro hm
  obtain ⟨m, hm', he⟩ := List.getElem_of_mem hm
  have hmj : m < j := by simp at hm'; omega
  rw [List.getElem_take, List.getElem_drop, ← nth_eq (show i + m < b.length by omega)] at he
  have := h.lt (i + m) (i + j) (by omega) hj
  omega
theorem PrM.step {P : Nat} {A : List (List Int)} {k i j x y : Nat} {M : List (List Int)} (h : PrM P A k i j M) (hi : Inc P (xat A k)) (hj : i + 1 + j < (xat A k).length) (hx : nth (xat A k) i = x) (hy : nth (xat A k) (i + 1 + j) = y) :
    PrM P A k i (j + 1) (putS M x y (at2 M x y + 1)) := by
  have hxP : x < P := by have := (hi.bd i (by omega)).2; omega
  have hyP : y < P := by have := (hi.bd (i + 1 + j) hj).2; omega
  have hxy : x < y := by have := hi.lt i (i + 1 + j) (by omega) hj; omega
  have hd : nth ((xat A k).drop (i + 1)) j = y := by rw [nth_drop, hy]
  have hdl : j < ((xat A k).drop (i + 1)).length := by simp; omega
  refine ⟨putS_sqr h.sq hxP _ _, fun t u htu huP => ?_⟩
  rw [at2_putS h.sq hxP hyP]
  have hm := mem_take1 hdl (u : Int)
  rw [hd] at hm
  by_cases e : x = t ∧ y = u
  · obtain ⟨rfl, rfl⟩ := e
    rw [if_pos ⟨rfl, rfl⟩, h.at' x y hxy hyP]
    have c0 : ¬ parC (xat A k) i j x y := by
      rintro (⟨h1, _⟩ | ⟨_, h2⟩)
      · have := hi.fresh (show i < (xat A k).length by omega); rw [hx] at this; exact this h1
      · have := hi.fresh2 (i := i + 1) (j := j) hj; rw [hy] at this; exact this h2
    have c1 : parC (xat A k) i (j + 1) x y := .inr ⟨hx.symm, hm.2 (.inr rfl)⟩
    unfold parT
    rw [if_neg c0, if_pos c1]; omega
  · rw [if_neg e, h.at' t u htu huP]
    unfold parT
    have : parC (xat A k) i j t u ↔ parC (xat A k) i (j + 1) t u := by
      unfold parC
      rw [hm, hx]
      constructor
      · rintro (h1 | ⟨h1, h2⟩)
        · exact .inl h1
        · exact .inr ⟨h1, .inl h2⟩
      · rintro (h1 | ⟨h1, h2 | h2⟩)
        · exact .inl h1
        · exact .inr ⟨h1, h2⟩
        · exact absurd ⟨by omega, by omega⟩ e
    by_cases hc : parC (xat A k) i j t u
    · rw [if_pos hc, if_pos (this.1 hc)]
    · rw [if_neg hc, if_neg (fun h => hc (this.2 h))]
theorem PrM.next {P : Nat} {A : List (List Int)} {k i : Nat} {M : List (List Int)} (h : PrM P A k i ((xat A k).length - (i + 1)) M) (hi : Inc P (xat A k)) (hl : i < (xat A k).length) : PrM P A k (i + 1) 0 M := by
  refine ⟨h.sq, fun x y hxy hy => ?_⟩
  rw [h.at' x y hxy hy]
  unfold parT
  have : parC (xat A k) i ((xat A k).length - (i + 1)) x y ↔ parC (xat A k) (i + 1) 0 x y := by
    unfold parC
    rw [mem_take1 hl, List.take_zero, show ((xat A k).drop (i + 1)).take ((xat A k).length - (i + 1)) = (xat A k).drop (i + 1) from List.take_of_length_le (by simp)]
    constructor
    · rintro (⟨h1, h2⟩ | ⟨h1, h2⟩)
      · exact .inl ⟨.inl h1, h2⟩
      · exact .inl ⟨.inr h1, List.mem_of_mem_drop h2⟩
    · rintro (⟨h1 | h1, h2⟩ | ⟨_, h2⟩)
      · exact .inl ⟨h1, h2⟩
      · refine .inr ⟨h1, ?_⟩
        obtain ⟨m, hm, he⟩ := List.getElem_of_mem h2
        rw [← nth_eq hm] at he
        have him : i < m := by
          rcases Nat.lt_trichotomy i m with h3 | h3 | h3
          · exact h3
          · subst h3; omega
          · have := hi.lt m i h3 hl; omega
        rw [List.mem_iff_getElem]
        exact ⟨m - (i + 1), by simp; omega, by rw [List.getElem_drop, ← he, nth_eq hm]; congr 1; omega⟩
      · cases h2
  by_cases hc : parC (xat A k) i ((xat A k).length - (i + 1)) x y
  · rw [if_pos hc, if_pos (this.1 hc)]
  · rw [if_neg hc, if_neg (fun h => hc (this.2 h))]
theorem PrM.block {P : Nat} {A : List (List Int)} {k : Nat} {M : List (List Int)} (h : PrM P A k (xat A k).length 0 M) (hk : k < A.length) : PrM P A (k + 1) 0 0 M := by
  refine ⟨h.sq, fun x y hxy hy => ?_⟩
  rw [h.at' x y hxy hy]
  unfold parT
  have c1 : ¬ parC (xat A (k + 1)) 0 0 x y := by rintro (⟨h1, _⟩ | ⟨_, h1⟩) <;> cases h1
  have c0 : parC (xat A k) (xat A k).length 0 x y ↔ ((x : Int) ∈ xat A k ∧ (y : Int) ∈ xat A k) := by
    unfold parC
    rw [List.take_length, List.take_zero]
    constructor
    · rintro (h1 | ⟨_, h1⟩)
      · exact h1
      · cases h1
    · exact .inl
  rw [if_neg c1, take_xat hk]
  unfold parF
  rw [cntD_snoc]
  by_cases hc : (x : Int) ∈ xat A k ∧ (y : Int) ∈ xat A k
  · rw [if_pos (c0.2 hc), if_pos (by rw [decide_eq_true hc.1, decide_eq_true hc.2]; rfl)]; omega
  · rw [if_neg (fun h => hc (c0.1 h)), if_neg (by rw [Bool.and_eq_true, decide_eq_true_eq, decide_eq_true_eq]; exact hc)]; omega
theorem PrM.start (P : Nat) (A : List (List Int)) : PrM P A 0 0 0 (sqF P fun _ _ => 0) := by
  refine ⟨sqF_sqr _ _, fun x y hxy hy => ?_⟩
  rw [at2_sqF (by omega) hy]
  unfold parT
  have c1 : ¬ parC (xat A 0) 0 0 x y := by rintro (⟨h1, _⟩ | ⟨_, h1⟩) <;> cases h1
  rw [if_neg c1]; simp [parF, cntD]
theorem PrM.row {P : Nat} {A : List (List Int)} {M : List (List Int)} (h : PrM P A A.length 0 0 M) {x : Nat} (hx : x < P) : ((xat M x).take P).drop (x + 1) = parR P A x := by
  have hl := h.sq.row x hx
  apply List.ext_getElem
  · simp [parR, hl]
  · intro t h1 h2
    have ht : t < P - (x + 1) := by simpa [parR] using h2
    rw [List.getElem_drop, List.getElem_take, ← nth_eq (by rw [hl]; omega)]
    have := h.at' x (x + 1 + t) (by omega) (by omega)
    have c1 : ¬ parC (xat A A.length) 0 0 x (x + 1 + t) := by rintro (⟨h1, _⟩ | ⟨_, h1⟩) <;> cases h1
    unfold parT at this
    rw [if_neg c1, List.take_length] at this
    rw [show nth (xat M x) (x + 1 + t) = at2 M x (x + 1 + t) from rfl, this]
    simp [parR]
theorem St.nilrow4 {B : Nat} {w0 w : World} {L : List Ent} (h : St B w0 w L) (e : TypeId) : St B w0 w (L ++ [row e (.slice none 0 0) []]) :=
  h.add ⟨rfl, rfl, rfl, Nat.le_refl _, fun _ _ _ => rfl⟩ _ (.inr (.inl ⟨rfl, rfl, rfl⟩)) (fun k hk => by simp [bk, row] at hk)
/-- the numbers of the pairs of the first k points -/
def parK (P : Nat) (A : List (List Int)) (k : Nat) : List Int := ((List.range k).map (parR P A)).flatten
theorem parK_succ (P : Nat) (A : List (List Int)) (k : Nat) : parK P A (k + 1) = parK P A k ++ parR P A k := by
  rw [parK, List.range_succ, List.map_append, List.flatten_append]; simp [parK]
theorem parK_len (P : Nat) (A : List (List Int)) : ∀ k, (parK P A k).length ≤ k * P
  | 0 => Nat.zero_le _
  | k + 1 => by
    rw [parK_succ, List.length_append, Nat.succ_mul]
    have := parK_len P A k
    have : (parR P A k).length ≤ P := by simp [parR]
    omega
theorem parK_end (P : Nat) (A : List (List Int)) : parK P A P = parL P A := rfl

set_option maxHeartbeats 4000000 in
set_option maxRecDepth 100000 in
theorem pairCounts_c (P : Nat) (v : Value) (us : List Value) (A : List (List Int)) (w : World) (hv : RII w v us A) (hD : DOk P A) :
    Calls Tryz.prog 159 #[dv P v] w (MakesI w (parL P A)) := by
  obtain ⟨a, c, hsh⟩ := hv.1.sl.sh
  rw [hv.2.1] at hsh
  subst hsh
  have hP := hD.le
  have hDl := hD.len
  have HD := Lib.hid hD
  clear hD
  have hS1 := (St.refl w).newboxF 26 #[.int .i64 P, .slice a A.length c]
  have b0 := hS1.bcell 0 rfl 0 rfl
  have b1 := hS1.bcell 0 rfl 1 rfl
  have hix := hv.ix
  unfold dv
  go_enter Tryz.func159, Tryz.ntmps159
  go_wp2_with fail
  refine (emptySquare_c P _ (by omega)).mono ?_
  rintro e w2 ⟨vo, uo, rfl, hlo, h2⟩
  have hS2 := hS1.call h2
  have b1 := hS2.bcell 0 rfl 1 rfl
  have hS3 := hS2.perm (L' := own2 vo uo (sqF P fun _ _ => 0) ++ [box 26 w.heap.size [.int .i64 P, .slice a A.length c]]) List.perm_append_comm
  have hM := PrM.start P A
  have hlo' : uo.length = P := by rw [hlo, hM.sq.len]
  have Hlo := Lib.hid hlo'
  have hro := h2.rii hlo
  have hxo := hro.ixe
  have hlno := hro.len
  rw [hM.sq.len] at hxo hlno
  generalize (sqF P fun _ _ => (0 : Int)) = M0 at *
  have HM := Lib.hid hM
  clear hS1 hS2 h2 hlo hlo' hM b0 hro
  go_wp2_with fail
  go_loopw [5, 6, 7, 9, 19] (fun _ _ _ _ i wr => ∃ (k : Nat) (M : List (List Int)), k ≤ A.length ∧ i = .int .i64 k ∧ Hid (PrM P A k 0 0 M) ∧ St w.heap.size w wr (own2 vo uo M ++ [box 26 w.heap.size [.int .i64 P, .slice a A.length c]])) (fun _ _ _ _ i _ => A.length - (intOf i).toNat)
  case atStart => exact ⟨0, M0, by omega, rfl, HM, hS3⟩
  case round =>
    clear hS3 b1 HM
    obtain ⟨k, M, hk, rfl, hM, hS⟩ := hrel
    by_cases hlt : k < A.length
    · have hc := (hS.oldII hv).cell k hlt
      have hrk := (hS.oldII hv).row k hlt
      have hlk := hrk.len
      have hik := hrk.ix
      have HI := Lib.hid (HD.out.inc' hlt)
      have hl32 := HI.out.len
      go_wp2_with fail
      obtain ⟨wo, rfl⟩ : ∃ wo : World, wo = wr := ⟨_, rfl⟩
      go_loopw [6, 7, 9, 25] (fun _ _ _ m wr => ∃ (i : Nat) (M : List (List Int)), i ≤ (xat A k).length ∧ m = .int .i64 i ∧ Hid (PrM P A k i 0 M) ∧ St w.heap.size w wr (own2 vo uo M ++ [box 26 w.heap.size [.int .i64 P, .slice a A.length c]])) (fun _ _ _ m _ => (xat A k).length - (intOf m).toNat)
      case atStart => exact ⟨0, M, by omega, rfl, hM, hS⟩
      case round =>
        clear hS hc hrk hM
        obtain ⟨i, M, hi, rfl, hM, hS⟩ := hrel
        by_cases hil : i < (xat A k).length
        · have hrk := (hS.oldII hv).row k hlt
          have ci := hrk.cell i hil
          obtain ⟨x, hx, hxP⟩ := HI.out.nat hil
          rw [hx] at ci
          have hsl : ∀ W, (Instr.slice 30 (vat us k) (some (.int .i64 ((i : Int) + 1))) none none).run Tryz.prog W = .ok (rsl (vat us k) (i + 1) (xat A k).length) W := fun W => by
            have := rsl_lo hrk (i + 1) (by omega) W; rwa [show ((i + 1 : Nat) : Int) = (i : Int) + 1 by omega] at this
          have hsr := rsl_rd hrk (lo := i + 1) (hi := (xat A k).length) (by omega) (Nat.le_refl _)
          rw [List.take_length] at hsr
          have hsn := hsr.len
          have hsx := hsr.ix
          have hdl : ((xat A k).drop (i + 1)).length = (xat A k).length - (i + 1) := by simp
          rw [hdl] at hsn hsx
          have Hx := Lib.hid hx
          have Hsr := Lib.hid (fun W (hW : St w.heap.size w W (own2 vo uo M ++ [box 26 w.heap.size [.int .i64 P, .slice a A.length c]])) => hW)
          clear Hsr hsr hdl hx
          go_wp2_with fail
          obtain ⟨wq, rfl⟩ : ∃ wq : World, wq = wr := ⟨_, rfl⟩
          go_loopw [9, 35] (fun _ m wr => ∃ (j : Nat) (M : List (List Int)), j ≤ (xat A k).length - (i + 1) ∧ m = .int .i64 j ∧ Hid (PrM P A k i j M) ∧ St w.heap.size w wr (own2 vo uo M ++ [box 26 w.heap.size [.int .i64 P, .slice a A.length c]])) (fun _ m _ => (xat A k).length - (intOf m).toNat)
          case atStart => exact ⟨0, M, by omega, rfl, hM, hS⟩
          case round =>
            clear hS hM hrk ci
            obtain ⟨j, M, hj, rfl, hM, hS⟩ := hrel
            by_cases hjl : j < (xat A k).length - (i + 1)
            · have hrk := (hS.oldII hv).row k hlt
              have hsr := rsl_rd hrk (lo := i + 1) (hi := (xat A k).length) (by omega) (Nat.le_refl _)
              rw [List.take_length] at hsr
              have cj := hsr.cell j (by simp; omega)
              rw [nth_drop] at cj
              obtain ⟨y, hy, hyP⟩ := HI.out.nat (show i + 1 + j < (xat A k).length by omega)
              rw [hy] at cj
              have hst := Lib.hid (hM.out.step HI.out (by omega) Hx.out hy)
              have hMl := hM.out.sq.len
              have hMr := hM.out.sq.row x hxP
              have hlS : uo.length = M.length := by rw [Hlo.out, hMl]
              have hat := hS.at_row hlS (j := x) (by rw [hMl]; exact hxP)
              have hrx := hS.rdI (x + 1) hat
              have cx := (rii2 hS hlS).cell x (by rw [hMl]; exact hxP)
              have cxy : wr.cell? (el (vat uo x) y) = some (.int .i64 (at2 M x y)) := hrx.cell y (by rw [hMr]; exact hyP)
              have uxy := hS.unfrozen (x + 1) hat (j := y) (by rw [iv_len, hMr]; exact hyP)
              have xx := hxo (x : Int) x rfl hxP
              have xy := hrx.ixe (y : Int) y rfl (by rw [hMr]; exact hyP)
              have hbd : 0 ≤ at2 M x y ∧ at2 M x y ≤ 129 := by
                rw [hM.out.at' x y (by have := HI.out.lt i (i + 1 + j) (by omega) (by omega); have := Hx.out; omega) hyP]; exact parT_bd hDl
              have HS9 := Lib.hid (hS.store (x + 1) hat (j := y) (by rw [iv_len, hMr]; exact hyP) (.int .i64 (at2 M x y + 1)))
              have Hset := Lib.hid (own2_set (v := vo) (L2 := [box 26 w.heap.size [.int .i64 P, .slice a A.length c]]) hlS (j := x) (by rw [hMl]; exact hxP) ((xat M x).set y (at2 M x y + 1)))
              unfold putS at hst
              generalize at2 M x y = q at *
              clear hat hrx hlS hMl hMr hy hrk hsr hM hS
              go_wp2_with fail
              have hS9 := HS9.out
              rw [iv_set, Hset.out] at hS9
              go_roundw
              case rel => exact ⟨j + 1, _, by omega, by go_num, hst, hS9⟩
              case measure => simp [intOf]; omega
            · obtain rfl : j = (xat A k).length - (i + 1) := by omega
              have HN := Lib.hid (hM.out.next HI.out hil)
              go_wp2_with fail
              go_roundw
              case rel => exact ⟨i + 1, M, by omega, by go_num, HN, hS⟩
              case measure => simp [intOf]; omega
        · obtain rfl : i = (xat A k).length := by omega
          have HN := Lib.hid (hM.out.block hlt)
          go_wp2_with fail
          go_roundw
          case rel => exact ⟨k + 1, M, by omega, by go_num, HN, hS⟩
          case measure => simp [intOf]; omega
    · obtain rfl : k = A.length := by omega
      have hN0 := (hS.nilrow4 2).perm (L' := row 2 (.slice none 0 0) [] :: (own2 vo uo M ++ [box 26 w.heap.size [.int .i64 P, .slice a A.length c]])) (by (try simp only [own2, List.cons_append, List.nil_append, List.append_nil]); classical exact List.perm_iff_count.2 (fun a => by simp only [List.cons_append, List.nil_append, List.append_nil, List.count_append, List.count_cons, List.count_nil] <;> omega))
      have hMl := hM.out.sq.len
      have hMr := Lib.hid hM.out.sq.row
      have hlS := Lib.hid (show uo.length = M.length by rw [Hlo.out, hMl])
      clear hS
      go_wp2_with fail
      go_loopw [10, 11, 12, 53] (fun ct _ _ i wr => ∃ x : Nat, x ≤ P ∧ i = .int .i64 x ∧ St w.heap.size w wr (row 2 ct (iv (parK P A x)) :: (own2 vo uo M ++ [box 26 w.heap.size [.int .i64 P, .slice a A.length c]]))) (fun _ _ _ i _ => P - (intOf i).toNat)
      case atStart => exact ⟨0, by omega, rfl, hN0⟩
      case round =>
        clear hN0
        obtain ⟨x, hx, rfl, hS⟩ := hrel
        by_cases hxP : x < P
        · have hR := rii2 (hS.sub (List.sublist_cons_self _ _)) hlS.out
          have cx := hR.cell x (by rw [hMl]; exact hxP)
          have hrx := hR.row x (by rw [hMl]; exact hxP)
          have hxl := hMr.out x hxP
          have hsl : ∀ W, (Instr.slice 30 (vat uo x) (some (.int .i64 ((x : Int) + 1))) none none).run Tryz.prog W = .ok (rsl (vat uo x) (x + 1) (xat M x).length) W := fun W => by
            have := rsl_lo hrx (x + 1) (by rw [hxl]; omega) W; rwa [show ((x + 1 : Nat) : Int) = (x : Int) + 1 by omega] at this
          have hsr := rsl_rd hrx (lo := x + 1) (hi := (xat M x).length) (by rw [hxl]; omega) (Nat.le_refl _)
          rw [hxl] at hsl hsr
          rw [hM.out.row hxP] at hsr
          have Hsr := Lib.hid hsr
          have hpl := Lib.hid (show (parK P A x).length + (parR P A x).length < 100000 by
            have := parK_len P A x
            have h2 : x * P ≤ 32 * 32 := Nat.mul_le_mul (by omega) (by omega)
            have : (parR P A x).length ≤ P := by simp [parR]
            omega)
          clear hrx hR hsr hxl
          have xx := hxo (x : Int) x rfl hxP
          go_wp2_with (at_builtin; refine appsI hS 0 rfl _ _ Hsr.out (by have := hpl.out; omega) rfl _ _ rfl rfl rfl ?_; intro v2 w2 hS2)
          simp only [List.set_cons_zero] at hS2
          rw [← parK_succ] at hS2
          go_roundw
          case rel => exact ⟨x + 1, by omega, by go_num, hS2⟩
          case measure => simp [intOf]; omega
        · obtain rfl : x = P := by omega
          rw [parK_end] at hS
          go_wp2_with fail
          go_ret
          exact ⟨_, rfl, hS.sub (by simp)⟩
end Go.Proofs.YtegmjlblehjccaaGreat
end

section
/- slices.SortFunc at [][]int64 with slices.Compare: rows that a call owns, put in order; slices.IsSortedFunc. -/
namespace Go.Proofs.YtegmjlblehjccaaGreat
set_option linter.unusedSimpArgs false
set_option linter.unusedVariables false
open Go.RowKit
attribute [local go_sem ↓] Go.wp_at_zero Go.wp_at_succ

def Tryz.mSortR_ren : Go.Shelf.Ren := ⟨fun | 6 => 102 | 15 => 116 | 14 => 162 | 28 => 178 | 29 => 179 | 20 => 202 | 21 => 203 | 22 => 204 | 23 => 205 | 24 => 206 | 25 => 207 | 26 => 208 | 27 => 209 | 46 => 226 | 47 => 211 | 48 => 212 | 49 => 227 | 50 => 228 | 57 => 231 | n => n, fun | 22 => 24 | 24 => 30 | 25 => 106 | 3 => 3 | 39 => 129 | 0 => 0 | 53 => 165 | 55 => 107 | 4 => 4 | 46 => 158 | 45 => 157 | 50 => 149 | 5 => 5 | 9 => 9 | 66 => 185 | 70 => 189 | 76 => 194 | 77 => 195 | n => n, fun | n => n⟩
theorem Tryz.mSortR : Go.Proofs.SlLaysF.n6 Tryz.prog Tryz.mSortR_ren := {
  mixed := by kernel_rfl
  f6 := ⟨Tryz.f102.name, by decide, Tryz.func102.trans (congrArg some (by kernel_rfl))⟩
  f14 := ⟨Tryz.f162.name, by decide, Tryz.func162.trans (congrArg some (by kernel_rfl))⟩
  f15 := Tryz.func116.trans (congrArg some (by kernel_rfl))
  f20 := ⟨Tryz.f202.name, by decide, Tryz.func202.trans (congrArg some (by kernel_rfl))⟩
  f21 := ⟨Tryz.f203.name, by decide, Tryz.func203.trans (congrArg some (by kernel_rfl))⟩
  f22 := ⟨Tryz.f204.name, by decide, Tryz.func204.trans (congrArg some (by kernel_rfl))⟩
  f23 := ⟨Tryz.f205.name, by decide, Tryz.func205.trans (congrArg some (by kernel_rfl))⟩
  f24 := ⟨Tryz.f206.name, by decide, Tryz.func206.trans (congrArg some (by kernel_rfl))⟩
  f25 := ⟨Tryz.f207.name, by decide, Tryz.func207.trans (congrArg some (by kernel_rfl))⟩
  f26 := ⟨Tryz.f208.name, by decide, Tryz.func208.trans (congrArg some (by kernel_rfl))⟩
  f27 := ⟨Tryz.f209.name, by decide, Tryz.func209.trans (congrArg some (by kernel_rfl))⟩
  f28 := Tryz.func178.trans (congrArg some (by kernel_rfl))
  f29 := Tryz.func179.trans (congrArg some (by kernel_rfl))
  f46 := ⟨Tryz.f226.name, by decide, Tryz.func226.trans (congrArg some (by kernel_rfl))⟩
  f47 := Tryz.func211.trans (congrArg some (by kernel_rfl))
  f48 := Tryz.func212.trans (congrArg some (by kernel_rfl))
  f49 := ⟨Tryz.f227.name, by decide, Tryz.func227.trans (congrArg some (by kernel_rfl))⟩
  f50 := ⟨Tryz.f228.name, by decide, Tryz.func228.trans (congrArg some (by kernel_rfl))⟩
  f57 := ⟨Tryz.f231.name, by decide, Tryz.func231.trans (congrArg some (by kernel_rfl))⟩
  t0 := Tryz.underlying0
  a0 := Tryz.isAgg0
  z0 := Tryz.sizeOf0
  v0 := Tryz.zeroValue0
  t3 := Tryz.underlying3
  a3 := Tryz.isAgg3
  z3 := Tryz.sizeOf3
  v3 := Tryz.zeroValue3
  t4 := Tryz.underlying4
  a4 := Tryz.isAgg4
  z4 := Tryz.sizeOf4
  v4 := Tryz.zeroValue4
  t5 := Tryz.underlying5
  a5 := Tryz.isAgg5
  z5 := Tryz.sizeOf5
  v5 := Tryz.zeroValue5
  t9 := Tryz.underlying9
  a9 := Tryz.isAgg9
  z9 := Tryz.sizeOf9
  v9 := Tryz.zeroValue9
  t22 := Tryz.underlying24
  a22 := Tryz.isAgg24
  z22 := Tryz.sizeOf24
  v22 := Tryz.zeroValue24
  a24 := Tryz.isAgg30
  z24 := Tryz.sizeOf30
  t25 := Tryz.underlying106
  a25 := Tryz.isAgg106
  z25 := Tryz.sizeOf106
  v25 := Tryz.zeroValue106
  t39 := Tryz.underlying129
  a39 := Tryz.isAgg129
  z39 := Tryz.sizeOf129
  v39 := Tryz.zeroValue129
  t45 := Tryz.underlying157
  a45 := Tryz.isAgg157
  z45 := Tryz.sizeOf157
  v45 := Tryz.zeroValue157
  t46 := Tryz.underlying158
  a46 := Tryz.isAgg158
  z46 := Tryz.sizeOf158
  v46 := Tryz.zeroValue158
  t50 := Tryz.underlying149
  a50 := Tryz.isAgg149
  z50 := Tryz.sizeOf149
  v50 := Tryz.zeroValue149
  t53 := Tryz.underlying165
  a53 := Tryz.isAgg165
  z53 := Tryz.sizeOf165
  v53 := Tryz.zeroValue165
  t55 := Tryz.underlying107
  a55 := Tryz.isAgg107
  z55 := Tryz.sizeOf107
  v55 := Tryz.zeroValue107
  t66 := Tryz.underlying185
  a66 := Tryz.isAgg185
  z66 := Tryz.sizeOf185
  v66 := Tryz.zeroValue185
  t70 := Tryz.underlying189
  a70 := Tryz.isAgg189
  z70 := Tryz.sizeOf189
  v70 := Tryz.zeroValue189
  t76 := Tryz.underlying194
  a76 := Tryz.isAgg194
  z76 := Tryz.sizeOf194
  v76 := Tryz.zeroValue194
  t77 := Tryz.underlying195
  a77 := Tryz.isAgg195
  z77 := Tryz.sizeOf195
  v77 := Tryz.zeroValue195
}

/-! ### a row of any kind -/
theorem holds_of_blockE {α : Type} [Inhabited α] (enc : α → Value) {w : World} {g : Nat} {cur : Array Value} {e : TypeId} {ss : List α} (hb : w.heap[g]? = some (.cells cur e (0, 0))) (ht : cur.toList.take ss.length = ss.map enc) : Go.Sort.Holds enc w g 0 ss.toArray := by
  intro j hj
  have hj' : j < ss.length := by simpa using hj
  refine ⟨?_, by simp [World.frozen?, hb]⟩
  have h1 : (cur.toList.take ss.length)[j]? = (ss.map enc)[j]? := by rw [ht]
  rw [List.getElem?_take_of_lt hj'] at h1
  simp only [World.cell?, hb, Nat.zero_add]
  simp only [Option.isSome_none, Bool.false_eq_true, if_false]
  rw [← Array.getElem?_toList, h1]
  simp [hj']
theorem heap_sortedE {α : Type} [Inhabited α] (enc : α → Value) {w : World} {g n : Nat} {os : Array Obj} {cur : Array Value} {e : TypeId} {fr : Nat × Nat} (d : Array α) (hb : w.heap[g]? = some (.cells cur e fr)) :
    (Go.Sort.grow (Go.Sort.putRow enc (Go.Sort.ahead w n) g 0 d) os).heap[g]? = some (.cells (Go.Sort.putCells enc 0 d cur) e fr) := by
  have hg : g < w.heap.size := (Array.getElem?_eq_some_iff.1 hb).1
  rw [Go.Sort.heap_grow_old _ _ (by simpa using hg)]
  simp [Go.Sort.putRow, Go.Sort.mapBlock, Go.Sort.ahead, Array.getElem?_modify, hb, Go.Sort.onCells]
theorem grownBy_sortedE {α : Type} [Inhabited α] (enc : α → Value) {w : World} {g n : Nat} {os : Array Obj} (d : Array α) : w.grownBy (Go.Sort.grow (Go.Sort.putRow enc (Go.Sort.ahead w n) g 0 d) os) (some g) := by
  refine ⟨rfl, rfl, rfl, by simp, fun k hk hne => ?_⟩
  rw [Go.Sort.heap_grow_old _ _ (by simpa using hk)]
  have : g ≠ k := fun e => hne (by rw [e])
  simp [Go.Sort.putRow, Go.Sort.mapBlock, Go.Sort.ahead, Array.getElem?_modify, this]
theorem take_putCellsE {α : Type} [Inhabited α] (enc : α → Value) (cur : Array Value) (d : Array α) (h : d.size ≤ cur.size) : (Go.Sort.putCells enc 0 d cur).toList.take d.size = d.toList.map enc := by
  apply List.ext_getElem?
  intro j
  by_cases hj : j < d.size
  · rw [List.getElem?_take_of_lt hj, Array.getElem?_toList]
    simp [Go.Sort.putCells, hj, show j < cur.size by omega]
  · rw [List.getElem?_take_eq_none (by omega), List.getElem?_eq_none (by simp; omega)]

end Go.Proofs.YtegmjlblehjccaaGreat
end

section
/- slices.SortFunc at [][]int64 with slices.Compare: the rows of an owned list of rows are put in order. -/
namespace Go.Proofs.YtegmjlblehjccaaGreat
set_option linter.unusedSimpArgs false
set_option linter.unusedVariables false
open Go.RowKit

theorem callR_cmp : ∀ (args : Array Value) (W : World), (callFunc 92 args).run Tryz.prog W = .ok (.enter 92 args) W :=
  fun args W => callFunc_go (P := Tryz.prog) Tryz.func92 (by kernel_rfl) (by kernel_rfl) args W
def cfR (A : List (List Int)) (x y : Fin A.length) : Int := cmpI (xat A x) (xat A y)
theorem swoR (A : List (List Int)) : Go.Sort.SWO (Go.Proofs.ltOf (cfR A)) where
  irrefl x := by simp [Go.Proofs.ltOf, cfR, cmpI_self]
  trans x y z h1 h2 := by
    have a1 := of_decide_eq_true h1
    have a2 := of_decide_eq_true h2
    refine decide_eq_true ?_
    unfold cfR at *
    have h3 := cmpI_trans (a := xat A x) (b := xat A y) (c := xat A z) (by omega) (by omega)
    rcases Int.lt_or_le (cmpI (xat A x) (xat A z)) 0 with h | h
    · exact h
    · have h4 := cmpI_eq (a := xat A x) (b := xat A z) (by omega)
      rw [h4] at a1
      have := cmpI_neg (xat A y) (xat A z)
      omega
  ntrans x y z h1 h2 := by
    have a1 := of_decide_eq_false h1
    have a2 := of_decide_eq_false h2
    refine decide_eq_false ?_
    unfold cfR at *
    have n1 := cmpI_neg (xat A x) (xat A y)
    have n2 := cmpI_neg (xat A y) (xat A z)
    have n3 := cmpI_neg (xat A x) (xat A z)
    have h3 := cmpI_trans (a := xat A z) (b := xat A y) (c := xat A x) (by omega) (by omega)
    omega
theorem fin_map {α : Type} (us : List α) (d : α) {n : Nat} (h : us.length = n) : (List.finRange n).map (fun k : Fin n => us.getD k d) = us := by
  subst h
  apply List.ext_getElem
  · simp
  · intro i h1 h2
    simp at h1 ⊢
theorem rows_fin {us : List Value} {A : List (List Int)} (h : us.length = A.length) : rowsI us A = (List.finRange A.length).map fun k : Fin A.length => row 2 (vat us k) (iv (xat A k)) := by
  apply List.ext_getElem
  · simp [rowsI, h]
  · intro i h1 h2
    simp [rowsI, h] at h1
    simp [rowsI, vat, xat, h, h1]
set_option maxHeartbeats 1000000 in
theorem SortRows_c {B : Nat} {w0 w : World} {L : List Ent} {v : Value} {us : List Value} {A : List (List Int)} (hS : St B w0 w (own2 v us A ++ L)) (hl : us.length = A.length) (hlen : A.length < 100000) :
    Calls Tryz.prog 102 #[v, .func (.func 92) #[] #[]] w fun e w' => ∃ us' : List Value, e = .returned (.tuple #[]) ∧ us'.length = A.length ∧ St B w0 w' (own2 v us' (srtL A) ++ L) := by
  have hi : (own2 v us A ++ L)[0]? = some (row 30 v us) := rfl
  by_cases h0 : A = []
  · subst h0
    have hu : us = [] := by simpa using hl
    subst hu
    obtain ⟨a, c, hv⟩ := (hS.rd 0 hi).sl.sh
    subst hv
    refine Calls.mono (Go.Proofs.AnyF.slices_SortFunc_none (P := Tryz.prog) (ρ := Tryz.mSortR_ren) { Tryz.mSortR with } a c (.func (.func 92) #[] #[]) w) ?_
    rintro e w' ⟨rfl, rfl⟩
    exact ⟨[], rfl, rfl, hS⟩
  · have hpos : 0 < A.length := by cases A with
      | nil => exact absurd rfl h0
      | cons _ _ => simp
    haveI : Inhabited (Fin A.length) := ⟨⟨0, hpos⟩⟩
    have hrow : ∀ {W : World} {u : List Value}, St B w0 W (row 30 v u :: (rowsI us A ++ L)) → ∀ k : Fin A.length, RdI W (vat us k) (xat A k) := by
      intro W u h k
      refine h.rdI (k + 1) (e := 2) ?_
      rw [List.getElem?_cons_succ, List.getElem?_append_left (by rw [rowsI_len hl]; exact k.isLt)]
      exact rowsI_get hl k.isLt
    have hok := hS.ok _ (List.mem_of_getElem? hi)
    rcases hok with ⟨hp, _⟩ | ⟨_, hv, hu⟩ | ⟨_, g, cap, cur, hv, hB, hh, h1, h2, h3, h4⟩
    · simp [row] at hp
    · simp only [row] at hu
      rw [hu] at hl; simp at hl; omega
    · simp only [row] at hv h1 h4 hh
      subst hv
      have hblk : g < w.heap.size := (Array.getElem?_eq_some_iff.1 hh).1
      have hOne : Go.Proofs.OneCell (fun k : Fin A.length => vat us k) := fun k => (hrow hS k).sl.one
      have hd : (List.finRange A.length).toArray.size = us.length := by simp [hl]
      have hH : Go.Sort.Holds (fun k : Fin A.length => vat us k) w g 0 (List.finRange A.length).toArray := holds_of_blockE _ hh (by
        rw [List.length_finRange]
        exact (by rw [← hl]; exact h4 : cur.toList.take A.length = us).trans (fin_map us undef hl).symm)
      have putAll : ∀ (m : Nat) (os : Array Obj) (dk : Array (Fin A.length)), dk.size = us.length → St B w0 (Go.Proofs.sortWorld (fun k : Fin A.length => vat us k) w g 0 m dk os) (row 30 (.slice (some ⟨g, 0, none⟩) us.length cap) (dk.toList.map fun k : Fin A.length => vat us k) :: (rowsI us A ++ L)) := by
        intro m os dk hs
        have := hS.put 0 hi (w' := Go.Proofs.sortWorld (fun k : Fin A.length => vat us k) w g 0 m dk os) ?_ (row 30 (.slice (some ⟨g, 0, none⟩) us.length cap) (dk.toList.map fun k : Fin A.length => vat us k)) (.inr (.inr ⟨rfl, g, cap, _, ?_, hB, heap_sortedE (fun k : Fin A.length => vat us k) _ hh, ?_, h2, ?_, ?_⟩)) (.inl rfl)
        · exact this
        · exact grownBy_sortedE (fun k : Fin A.length => vat us k) dk
        · simp [row, hs]
        · simp [row, hs]; exact h1
        · simp [Go.Sort.putCells, h3]
        · have := take_putCellsE (fun k : Fin A.length => vat us k) cur dk (by omega)
          rw [hs] at this
          simpa [row, hs] using this
      have hcmp : Go.Proofs.CmpLays1 Tryz.prog 92 #[] (fun k : Fin A.length => vat us k) (cfR A) g 0 (List.finRange A.length).toArray.size w := by
        refine Go.Proofs.CmpReads.lays fun m os dk hs x y => ?_
        have hp := putAll m os dk (by rw [hs, hd])
        refine (Compare_c _ _ _ _ _ (hrow hp x) (hrow hp y)).mono ?_
        rintro e w' ⟨rfl, rfl⟩
        exact ⟨rfl, 0, rfl⟩
      have hc := Go.Proofs.Any.slices_SortFunc (P := Tryz.prog) (ρ := Tryz.mSortR_ren) Tryz.mSortR (fun k : Fin A.length => vat us k) hOne (cfR A) (swoR A) 92 #[] g 0 cap (List.finRange A.length).toArray w callR_cmp hcmp hH hblk (by rw [hd]; omega)
      rw [hd] at hc
      refine Calls.mono hc ?_
      rintro e w' ⟨rfl, d', n, os, hperm, hso, rfl⟩
      have hds : d'.size = us.length := by have := hperm.1; omega
      have hpm : d'.toList.Perm (List.finRange A.length) := by
        have := hperm.2.2
        rw [show d'.extract 0 us.length = d' by rw [← hds]; simp, show (List.finRange A.length).toArray.extract 0 us.length = (List.finRange A.length).toArray by rw [← hd]; simp only [Array.extract_size]] at this
        simpa using this
      have hA : (d'.toList.map fun k : Fin A.length => xat A k) = srtL A := by
        refine srtL_eq ?_ ?_
        · have := hpm.map fun k : Fin A.length => xat A k
          rwa [show (List.finRange A.length).map (fun k : Fin A.length => xat A k) = A from fin_map A [] rfl] at this
        · rw [List.pairwise_map, List.pairwise_iff_getElem]
          intro i j hi' hj' hij
          have := hso i j (by omega) hij (by rw [← hds]; simpa using hj')
          have := of_decide_eq_false this
          unfold cfR at this
          have e1 : d'[i]! = d'.toList[i] := by simp at hi'; simp [hi']
          have e2 : d'[j]! = d'.toList[j] := by simp at hj'; simp [hj']
          rw [e1, e2] at this
          have := cmpI_neg (xat A d'.toList[j]) (xat A d'.toList[i])
          exact decide_eq_true (by omega)
      have hp := putAll n os d' hds
      refine ⟨d'.toList.map fun k : Fin A.length => vat us k, rfl, by simp [hds, hl], ?_⟩
      rw [← hA]
      refine hp.perm ?_
      unfold own2
      refine List.Perm.cons _ (List.Perm.append_right _ ?_)
      rw [rows_fin hl]
      refine (hpm.map _).symm.trans (.of_eq ?_)
      unfold rowsI
      rw [List.zipWith_map, List.zipWith_self]
end Go.Proofs.YtegmjlblehjccaaGreat
end

section
/- Walks: a design of sorted copies; complements. -/
namespace Go.Proofs.YtegmjlblehjccaaGreat
set_option linter.unusedSimpArgs false
set_option linter.unusedVariables false
open Go.RowKit
attribute [local go_sem ↓] Go.wp_at_zero Go.wp_at_succ

/-- it hands over a design of its own, and a code -/
def MakesD (w : World) (P : Int) (A : List (List Int)) (c : Int) (e : Ending) (w' : World) : Prop := ∃ v us, e = .returned (.tuple #[dv P v, .int .i64 c]) ∧ us.length = A.length ∧ St w.heap.size w w' (own2 v us A)
theorem MakesD.no {w w' : World} {L : List Ent} {c : Int} (h : St w.heap.size w w' L) : MakesD w 0 [] c (.returned (.tuple #[.agg #[.int .i64 0, .slice none 0 0], .int .i64 c])) w' :=
  ⟨_, [], rfl, rfl, h.out.newnil _⟩
set_option maxHeartbeats 1000000 in
theorem sorted_c (P : Int) (v : Value) (us : List Value) (A : List (List Int)) (w : World) (hv : RII w v us A) (hl : A.length ≤ 128) (hN : ∀ xs ∈ A, xs.length ≤ 1048576) :
    Calls Tryz.prog 46 #[.int .i64 P, v] w (MakesD w P (srtL A) 0) := by
  have hS0 := (St.refl w).newboxF 26 #[.int .i64 0, .slice none 0 0]
  have hln := hv.len
  have hc := Lib.hid (copyLists_c v us A _ (hS0.oldII hv) (by omega) hN)
  go_enter Tryz.func46, Tryz.ntmps46
  go_wp2_with fail
  refine hc.out.mono ?_
  clear hc
  rintro e w1 ⟨v1, us1, rfl, hl1, h1⟩
  have h2 := hS0.call h1
  obtain ⟨a1, c1, hv1⟩ := (h1.rd 0 (e := 30) (v := v1) (us := us1) rfl).sl.sh
  rw [hl1] at hv1
  subst hv1
  have hB := h2.newboxF 26 #[.int .i64 P, .slice a1 A.length c1]
  have b0 := hB.bcell 0 rfl 0 rfl
  have b1 := hB.bcell 0 rfl 1 rfl
  have h3 := hB.perm (L' := own2 (.slice a1 A.length c1) us1 A ++ [box 26 w.heap.size [.int .i64 0, .slice none 0 0], box 26 w1.heap.size [.int .i64 P, .slice a1 A.length c1]]) (by (try simp only [own2, List.cons_append, List.nil_append, List.append_nil]); classical exact List.perm_iff_count.2 (fun a => by simp only [List.cons_append, List.nil_append, List.append_nil, List.count_append, List.count_cons, List.count_nil] <;> omega))
  clear h1 h2 hB hS0
  go_wp2_with fail
  refine (SortRows_c h3 hl1 (by omega)).mono ?_
  rintro e w2 ⟨us2, rfl, hl2, h4⟩
  have h5 := h4.perm (L' := box 26 w.heap.size [.int .i64 0, .slice none 0 0] :: box 26 w1.heap.size [.int .i64 P, .slice a1 A.length c1] :: own2 (.slice a1 A.length c1) us2 (srtL A)) (by (try simp only [own2, List.cons_append, List.nil_append, List.append_nil]); classical exact List.perm_iff_count.2 (fun a => by simp only [List.cons_append, List.nil_append, List.append_nil, List.count_append, List.count_cons, List.count_nil] <;> omega))
  clear h3 h4 b0 b1
  have b0 := h5.bcell 1 rfl 0 rfl
  have b1 := h5.bcell 1 rfl 1 rfl
  have e0 := h5.bcell 0 rfl 0 rfl
  have e1 := h5.bcell 0 rfl 1 rfl
  have f0 := h5.bfree 0 rfl
  have h6 := (h5.bstore 0 rfl 0 (.int .i64 P)).bstore 0 rfl 1 (.slice a1 A.length c1)
  have d0 := h6.bcell 0 rfl 0 rfl
  have d1 := h6.bcell 0 rfl 1 rfl
  go_wp2_with fail
  refine bodyPost_ret (v := .tuple #[.agg #[.int .i64 P, .slice a1 A.length c1], .int .i64 0]) (by simp [results, Tryz.results46, go_sem, d0, d1]) rfl ?_
  exact ⟨_, us2, rfl, by rw [hl2, srtL_len], h6.sub ((List.sublist_cons_self _ _).trans (List.sublist_cons_self _ _))⟩

end Go.Proofs.YtegmjlblehjccaaGreat
end

section
/- Walks: incidence matrices; sorted designs; numbers of pairs and replications, with codes. -/
namespace Go.Proofs.YtegmjlblehjccaaGreat
set_option linter.unusedSimpArgs false
set_option linter.unusedVariables false
open Go.RowKit
attribute [local go_sem ↓] Go.wp_at_zero Go.wp_at_succ

theorem xat_setA {M : List (List Int)} {j t : Nat} {r : List Int} (h : j < M.length) : xat (M.set j r) t = if j = t then r else xat M t := by
  unfold xat
  rw [List.getD_eq_getElem?_getD, List.getElem?_set]
  split
  · rename_i e; subst e; simp [h]
  · simp
theorem nth_setA {r : List Int} {j t : Nat} {x : Int} (h : j < r.length) : nth (r.set j x) t = if j = t then x else nth r t := by
  unfold nth
  rw [List.getD_eq_getElem?_getD, List.getElem?_set]
  split
  · rename_i e; subst e; simp [h]
  · simp
/-- the incidence matrix, row by row -/
def incR (A : List (List Int)) (x : Nat) : List Int := (List.range A.length).map fun c => if (x : Int) ∈ xat A c then 1 else 0
def incM (P : Nat) (A : List (List Int)) : List (List Int) := (List.range P).map (incR A)
def incC (A : List (List Int)) (k j x c : Nat) : Prop := (c < k ∧ (x : Int) ∈ xat A c) ∨ (c = k ∧ (x : Int) ∈ (xat A k).take j)
open Classical in
structure IncS (P : Nat) (A : List (List Int)) (k j : Nat) (M : List (List Int)) : Prop where
  len : M.length = P
  row : ∀ x, x < P → (xat M x).length = A.length
  at' : ∀ x c, x < P → c < A.length → nth (xat M x) c = if incC A k j x c then 1 else 0
theorem IncS.start (P : Nat) (A : List (List Int)) : IncS P A 0 0 (List.replicate P (List.replicate A.length 0)) := by
  have hx : ∀ x, x < P → xat (List.replicate P (List.replicate A.length (0 : Int))) x = List.replicate A.length 0 := fun x hx => by rw [xat_eq (by simpa using hx)]; simp
  refine ⟨by simp, fun x h => by rw [hx x h]; simp, fun x c h hc => ?_⟩
  rw [hx x h, if_neg, nth_eq (by simpa using hc)]
  · simp
  · rintro (⟨h1, _⟩ | ⟨_, h1⟩)
    · omega
    · simp at h1
theorem IncS.step {P : Nat} {A : List (List Int)} {k j x : Nat} {M : List (List Int)} (h : IncS P A k j M) (hk : k < A.length) (hj : j < (xat A k).length) (hx : nth (xat A k) j = x) (hxP : x < P) : IncS P A k (j + 1) (M.set x ((xat M x).set k 1)) := by
  have hm := fun y : Nat => mem_take1 hj (y : Int)
  refine ⟨by rw [List.length_set]; exact h.len, fun y hy => ?_, fun y c hy hc => ?_⟩
  · rw [xat_setA (by rw [h.len]; exact hxP)]
    split
    · rw [List.length_set]; exact h.row x hxP
    · exact h.row y hy
  · have hiff : incC A k (j + 1) y c ↔ incC A k j y c ∨ (c = k ∧ y = x) := by
      unfold incC
      rw [hm y, hx]
      constructor
      · rintro (h1 | ⟨h1, h2 | h2⟩)
        · exact .inl (.inl h1)
        · exact .inl (.inr ⟨h1, h2⟩)
        · exact .inr ⟨h1, by omega⟩
      · rintro ((h1 | ⟨h1, h2⟩) | ⟨h1, h2⟩)
        · exact .inl h1
        · exact .inr ⟨h1, .inl h2⟩
        · exact .inr ⟨h1, .inr (by rw [h2])⟩
    rw [xat_setA (by rw [h.len]; exact hxP)]
    by_cases e : x = y
    · subst e
      rw [if_pos rfl, nth_setA (by rw [h.row x hxP]; exact hk)]
      by_cases e2 : k = c
      · subst e2; rw [if_pos rfl, if_pos (hiff.2 (.inr ⟨rfl, rfl⟩))]
      · rw [if_neg e2, h.at' x c hxP hc]
        by_cases hcc : incC A k j x c
        · rw [if_pos hcc, if_pos (hiff.2 (.inl hcc))]
        · rw [if_neg hcc, if_neg (fun h' => (hiff.1 h').elim hcc (fun h2 => e2 h2.1.symm))]
    · rw [if_neg e, h.at' y c hy hc]
      by_cases hcc : incC A k j y c
      · rw [if_pos hcc, if_pos (hiff.2 (.inl hcc))]
      · rw [if_neg hcc, if_neg (fun h' => (hiff.1 h').elim hcc (fun h2 => e h2.2.symm))]
theorem IncS.next {P : Nat} {A : List (List Int)} {k : Nat} {M : List (List Int)} (h : IncS P A k (xat A k).length M) : IncS P A (k + 1) 0 M := by
  refine ⟨h.len, h.row, fun x c hx hc => ?_⟩
  have hiff : incC A k (xat A k).length x c ↔ incC A (k + 1) 0 x c := by
    unfold incC
    rw [List.take_length]
    constructor
    · rintro (⟨h1, h2⟩ | ⟨h1, h2⟩)
      · exact .inl ⟨by omega, h2⟩
      · exact .inl ⟨by omega, by rw [h1]; exact h2⟩
    · rintro (⟨h1, h2⟩ | ⟨_, h2⟩)
      · by_cases e : c = k
        · exact .inr ⟨e, by rw [← e]; exact h2⟩
        · exact .inl ⟨by omega, h2⟩
      · simp at h2
  rw [h.at' x c hx hc]
  by_cases hcc : incC A k (xat A k).length x c
  · rw [if_pos hcc, if_pos (hiff.1 hcc)]
  · rw [if_neg hcc, if_neg (fun h' => hcc (hiff.2 h'))]
theorem IncS.fin {P : Nat} {A : List (List Int)} {M : List (List Int)} (h : IncS P A A.length 0 M) : M = incM P A := by
  refine List.ext_getElem (by rw [h.len]; simp [incM]) fun x h1 h2 => ?_
  have hx : x < P := by rw [← h.len]; exact h1
  have hr := h.row x hx
  rw [← xat_eq h1]
  refine List.ext_getElem (by rw [hr]; simp [incM, incR]) fun c h3 h4 => ?_
  have hc : c < A.length := by rw [← hr]; exact h3
  rw [← nth_eq h3, h.at' x c hx hc]
  simp only [incM, incR, List.getElem_map, List.getElem_range]
  have hiff : incC A A.length 0 x c ↔ (x : Int) ∈ xat A c := by
    unfold incC
    constructor
    · rintro (⟨_, h1⟩ | ⟨h1, _⟩)
      · exact h1
      · omega
    · exact fun h1 => .inl ⟨hc, h1⟩
  by_cases hcc : (x : Int) ∈ xat A c
  · rw [if_pos hcc, if_pos (hiff.2 hcc)]
  · rw [if_neg hcc, if_neg (fun h' => hcc (hiff.1 h'))]
end Go.Proofs.YtegmjlblehjccaaGreat
end

section
/- Walks: the design of an incidence matrix. -/
namespace Go.Proofs.YtegmjlblehjccaaGreat
set_option linter.unusedSimpArgs false
set_option linter.unusedVariables false
open Go.RowKit
attribute [local go_sem ↓] Go.wp_at_zero Go.wp_at_succ

/-- the points below y -/
def blw (b : List Int) (y : Nat) : List Int := b.filter fun z => decide (z < (y : Int))
theorem blw_step {b : List Int} (hp : b.Pairwise (· < ·)) (x : Nat) : blw b (x + 1) = blw b x ++ if (x : Int) ∈ b then [(x : Int)] else [] := by
  induction b with
  | nil => rfl
  | cons a r ih =>
    obtain ⟨h1, h2⟩ := List.pairwise_cons.1 hp
    have ih := ih h2
    unfold blw at ih ⊢
    rcases Int.lt_trichotomy a (x : Int) with h | h | h
    · rw [List.filter_cons_of_pos (by simp; omega), List.filter_cons_of_pos (by simp; omega), ih]
      have : ((x : Int) ∈ a :: r) ↔ (x : Int) ∈ r := by
        rw [List.mem_cons]; constructor
        · rintro (e | e)
          · omega
          · exact e
        · exact .inr
      simp only [this, List.cons_append]
    · have hnr : (x : Int) ∉ r := fun hm => by have := h1 _ hm; omega
      have e0 : r.filter (fun z => decide (z < (x : Int))) = [] := by
        rw [List.filter_eq_nil_iff]; intro z hz; have := h1 z hz; simp; omega
      rw [if_neg hnr, e0] at ih
      rw [List.filter_cons_of_pos (by simp; omega), List.filter_cons_of_neg (by simp; omega), e0, ih, if_pos (by rw [h]; exact List.mem_cons_self), h]; rfl
    · have hnr : (x : Int) ∉ a :: r := fun hm => by
        rcases List.mem_cons.1 hm with e | hm
        · omega
        · have := h1 _ hm; omega
      have e0 : ∀ y : Int, y ≤ a → r.filter (fun z => decide (z < y)) = [] := fun y hy => by
        rw [List.filter_eq_nil_iff]; intro z hz; have := h1 z hz; simp; omega
      rw [List.filter_cons_of_neg (by simp; omega), List.filter_cons_of_neg (by simp; omega), e0 _ (by omega), e0 _ (by omega), if_neg hnr]; rfl
theorem blw_all {P : Nat} {b : List Int} (h : Inc P b) : blw b P = b := by
  unfold blw
  rw [List.filter_eq_self]
  intro z hz
  obtain ⟨j, hj, rfl⟩ := List.getElem_of_mem hz
  have := (h.bd j hj).2
  rw [nth_eq hj] at this
  simpa using this
theorem blw_0 {P : Nat} {b : List Int} (h : Inc P b) : blw b 0 = [] := by
  unfold blw
  rw [List.filter_eq_nil_iff]
  intro z hz
  obtain ⟨j, hj, rfl⟩ := List.getElem_of_mem hz
  have := (h.bd j hj).1
  rw [nth_eq hj] at this
  simp; omega
/-- the blocks behind x rows and k places -/
structure BlS (A : List (List Int)) (x k : Nat) (M : List (List Int)) : Prop where
  len : M.length = A.length
  at' : ∀ c, c < A.length → xat M c = blw (xat A c) (x + if c < k then 1 else 0)
theorem incB_pw2 {P : Nat} {b : List Int} (h : Inc P b) : b.Pairwise (· < ·) := by
  rw [List.pairwise_iff_getElem]
  intro i j hi hj hij
  have := h.lt i j hij hj
  rwa [nth_eq hi, nth_eq hj] at this
theorem BlS.start {P : Nat} {A : List (List Int)} (hD : DOk P A) : BlS A 0 0 (List.replicate A.length []) :=
  ⟨by simp, fun c hc => by rw [xat_eq (by simpa using hc)]; simp [blw_0 (hD.inc' hc)]⟩
theorem BlS.no {P : Nat} {A : List (List Int)} {x k : Nat} {M : List (List Int)} (h : BlS A x k M) (hD : DOk P A) (hk : k < A.length) (hx : (x : Int) ∉ xat A k) : BlS A x (k + 1) M :=
  ⟨h.len, fun c hc => by
    rw [h.at' c hc]
    by_cases e : k = c
    · subst e
      rw [if_neg (by omega), if_pos (by omega), Nat.add_zero, blw_step (incB_pw2 (hD.inc' hk)), if_neg hx, List.append_nil]
    · congr 1
      by_cases h2 : c < k
      · rw [if_pos h2, if_pos (by omega)]
      · rw [if_neg h2, if_neg (by omega)]⟩
theorem BlS.next {A : List (List Int)} {x : Nat} {M : List (List Int)} (h : BlS A x A.length M) : BlS A (x + 1) 0 M :=
  ⟨h.len, fun c hc => by rw [h.at' c hc, if_pos hc, if_neg (by omega)]⟩
theorem BlS.fin {P : Nat} {A : List (List Int)} {M : List (List Int)} (h : BlS A P 0 M) (hD : DOk P A) : M = A := by
  refine List.ext_getElem h.len fun c h1 h2 => ?_
  have := h.at' c h2
  rw [if_neg (by omega), Nat.add_zero, blw_all (hD.inc' h2), xat_eq h1, xat_eq h2] at this
  exact this
end Go.Proofs.YtegmjlblehjccaaGreat
end
