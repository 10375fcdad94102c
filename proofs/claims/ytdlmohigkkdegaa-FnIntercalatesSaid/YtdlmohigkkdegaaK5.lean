/- The texts of this claim, run 5: PLat Mk Srt Has Num In Src Drw Src2 Pm1 Pm3 SqE PSw. -/
import Derived.Test.YtdlmohigkkdegaaK1
import Derived.Test.YtdlmohigkkdegaaK4
import Derived.Deep.RegionHeld3
import Derived.Deep.DrawnRows
import Derived.Shelf.SortM.Plain
import Derived.Shelf.SortM.SortNone
import Derived.Sort.OwnSortedInts
section
/- Latin squares as lists of lists, their isotopes. In plain terms. -/
namespace Go.Proofs.Ytdlmohigkkdegaa
set_option linter.unusedSimpArgs false
set_option linter.unusedVariables false
/-- the entry of a place -/
def at2 (A : List (List Int)) (x y : Nat) : Int := nth (xat A x) y
/-- a square of n rows and columns -/
structure Sqr (n : Nat) (A : List (List Int)) : Prop where
  len : A.length = n
  row : ∀ x, x < n → (xat A x).length = n
/-- its entries are below n -/
structure Sq0 (n : Nat) (A : List (List Int)) : Prop extends Sqr n A where
  el : ∀ x y, x < n → y < n → 0 ≤ at2 A x y ∧ at2 A x y < n
def colL (A : List (List Int)) (y : Nat) : List Int := A.map fun r => nth r y
theorem colL_len (A : List (List Int)) (y : Nat) : (colL A y).length = A.length := by simp [colL]
theorem nth_colL {A : List (List Int)} {y x : Nat} (h : x < A.length) : nth (colL A y) x = at2 A x y := by simp [colL, nth, at2, xat, h]
/-- a Latin square of at most 10 rows -/
structure Lat (A : List (List Int)) : Prop where
  pos : 1 ≤ A.length
  le : A.length ≤ 10
  len : ∀ x, x < A.length → (xat A x).length = A.length
  row : ∀ x, x < A.length → IsP (xat A x)
  col : ∀ y, y < A.length → IsP (colL A y)
open Classical in
noncomputable def latB (A : List (List Int)) : Bool := decide (Lat A)
theorem latB_yes {A : List (List Int)} (h : Lat A) : latB A = true := by simp [latB, h]
theorem latB_no {A : List (List Int)} (h : ¬ Lat A) : latB A = false := by simp [latB, h]
theorem Lat.sq0 {A : List (List Int)} (h : Lat A) : Sq0 A.length A where
  len := rfl
  row := h.len
  el x y hx hy := by have := (h.row x hx).lt y (by rw [h.len x hx]; exact hy); rw [h.len x hx] at this; exact this
theorem sq_ext {n : Nat} {A B : List (List Int)} (hA : Sqr n A) (hB : Sqr n B) (h : ∀ x y, x < n → y < n → at2 A x y = at2 B x y) : A = B := by
  apply List.ext_getElem (hA.len.trans hB.len.symm)
  intro x h1 h2
  have hx : x < n := by rw [← hA.len]; exact h1
  have e1 : A[x] = xat A x := by simp [xat, h1]
  have e2 : B[x] = xat B x := by simp [xat, h2]
  rw [e1, e2]
  refine nth_ext (by rw [hA.row x hx, hB.row x hx]) fun y hy => h x y hx (by rw [← hA.row x hx]; exact hy)
theorem sq_ext2 {n : Nat} {A B : List (List Int)} {r c : List Int} (hr : IsP r) (hc : IsP c) (hrl : r.length = n) (hcl : c.length = n) (hA : Sqr n A) (hB : Sqr n B)
    (h : ∀ x y, x < n → y < n → at2 A (pf r x) (pf c y) = at2 B (pf r x) (pf c y)) : A = B := by
  refine sq_ext hA hB fun x y hx hy => ?_
  obtain ⟨x', hx', rfl⟩ := hr.bij.onto (y := x) (by omega)
  obtain ⟨y', hy', rfl⟩ := hc.bij.onto (y := y) (by omega)
  exact h x' y' (by omega) (by omega)
theorem at2_sqF {n : Nat} {f : Nat → Nat → Int} {x y : Nat} (hx : x < n) (hy : y < n) : at2 (sqF n f) x y = f x y := by
  unfold at2; rw [xat_sqF hx]; simp [tab, nth, hy]
theorem sqF_sqr (n : Nat) (f : Nat → Nat → Int) : Sqr n (sqF n f) := ⟨sqF_len n f, fun x hx => by rw [xat_sqF hx, tab_len]⟩
/-- one entry anew -/
def putS (S : List (List Int)) (x y : Nat) (v : Int) : List (List Int) := S.set x ((xat S x).set y v)
theorem xat_putS {n : Nat} {S : List (List Int)} (h : Sqr n S) {x : Nat} (hx : x < n) (y : Nat) (v : Int) (t : Nat) : xat (putS S x y v) t = if x = t then (xat S x).set y v else xat S t := by
  unfold putS xat
  rw [List.getD_eq_getElem?_getD, List.getElem?_set]
  split
  · rename_i e; subst e; rw [if_pos (by rw [h.len]; exact hx)]; rfl
  · simp
theorem putS_sqr {n : Nat} {S : List (List Int)} (h : Sqr n S) {x : Nat} (hx : x < n) (y : Nat) (v : Int) : Sqr n (putS S x y v) := by
  refine ⟨by unfold putS; rw [List.length_set]; exact h.len, fun t ht => ?_⟩
  rw [xat_putS h hx]
  split
  · rw [List.length_set]; exact h.row x hx
  · exact h.row t ht
theorem at2_putS {n : Nat} {S : List (List Int)} (h : Sqr n S) {x y : Nat} (hx : x < n) (hy : y < n) (v : Int) (t u : Nat) : at2 (putS S x y v) t u = if x = t ∧ y = u then v else at2 S t u := by
  unfold at2
  rw [xat_putS h hx]
  by_cases e : x = t
  · subst e
    rw [if_pos rfl, nth_set (by rw [h.row x hx]; exact hy)]
    by_cases e2 : y = u
    · rw [if_pos e2, if_pos ⟨rfl, e2⟩]
    · rw [if_neg e2, if_neg fun h => e2 h.2]
  · rw [if_neg e, if_neg fun h => e h.1]
theorem putS_sq0 {n : Nat} {S : List (List Int)} (h : Sq0 n S) {x y : Nat} (hx : x < n) (hy : y < n) {v : Int} (h0 : 0 ≤ v) (h1 : v < n) : Sq0 n (putS S x y v) := by
  refine ⟨putS_sqr h.toSqr hx y v, fun t u ht hu => ?_⟩
  rw [at2_putS h.toSqr hx hy]
  split
  · exact ⟨h0, h1⟩
  · exact h.el t u ht hu
/-! ### isotopes -/
def isoL (A : List (List Int)) (r c s : List Int) : List (List Int) := sqF A.length fun x y => nth s (at2 A (pf (invL r) x) (pf (invL c) y)).toNat
theorem pf_invL {xs : List Int} (h : IsP xs) {j : Nat} (hj : j < xs.length) : pf (invL xs) (pf xs j) = j := by unfold pf; rw [show nth (invL xs) (nth xs j).toNat = j from nth_invL h hj]; rfl
theorem isoL_sqr (A : List (List Int)) (r c s : List Int) : Sqr A.length (isoL A r c s) := sqF_sqr _ _
theorem isoL_at {A : List (List Int)} {r c s : List Int} (hr : IsP r) (hc : IsP c) (hrl : r.length = A.length) (hcl : c.length = A.length) {x y : Nat} (hx : x < A.length) (hy : y < A.length) :
    at2 (isoL A r c s) (pf r x) (pf c y) = nth s (at2 A x y).toNat := by
  have h1 : pf r x < A.length := by rw [← hrl]; exact hr.pf_lt (by omega)
  have h2 : pf c y < A.length := by rw [← hcl]; exact hc.pf_lt (by omega)
  unfold isoL
  rw [at2_sqF h1 h2, pf_invL hr (by omega), pf_invL hc (by omega)]
/-- the isotope, made as far as place y of row x -/
structure IsoP (A : List (List Int)) (r c s : List Int) (x y : Nat) (S : List (List Int)) : Prop where
  sqr : Sqr A.length S
  at' : ∀ x' y', x' < A.length → y' < A.length → (x' < x ∨ x' = x ∧ y' < y) → at2 S (pf r x') (pf c y') = nth s (at2 A x' y').toNat
section
variable {A : List (List Int)} {r c s : List Int}
theorem IsoP.start : IsoP A r c s 0 0 (sqF A.length fun _ _ => 0) := ⟨sqF_sqr _ _, fun _ _ _ _ h => by omega⟩
theorem IsoP.step (hr : IsP r) (hc : IsP c) (hrl : r.length = A.length) (hcl : c.length = A.length) {x y : Nat} {S : List (List Int)} (h : IsoP A r c s x y S) (hx : x < A.length) (hy : y < A.length) :
    IsoP A r c s x (y + 1) (putS S (pf r x) (pf c y) (nth s (at2 A x y).toNat)) := by
  have h1 : pf r x < A.length := by rw [← hrl]; exact hr.pf_lt (by omega)
  have h2 : pf c y < A.length := by rw [← hcl]; exact hc.pf_lt (by omega)
  refine ⟨putS_sqr h.sqr h1 _ _, fun x' y' hx' hy' hl => ?_⟩
  rw [at2_putS h.sqr h1 h2]
  split
  · rename_i e
    rw [hr.bij.inj x x' (by omega) (by omega) e.1, hc.bij.inj y y' (by omega) (by omega) e.2]
  · rename_i e
    refine h.at' x' y' hx' hy' ?_
    rcases hl with hl | ⟨rfl, hl⟩
    · exact .inl hl
    · refine .inr ⟨rfl, ?_⟩
      by_cases e2 : y' = y
      · subst e2; exact absurd ⟨rfl, rfl⟩ e
      · omega
theorem IsoP.next {x : Nat} {S : List (List Int)} (h : IsoP A r c s x A.length S) : IsoP A r c s (x + 1) 0 S :=
  ⟨h.sqr, fun x' y' hx' hy' hl => h.at' x' y' hx' hy' (by omega)⟩
theorem IsoP.done (hr : IsP r) (hc : IsP c) (hrl : r.length = A.length) (hcl : c.length = A.length) {S : List (List Int)} (h : IsoP A r c s A.length 0 S) : S = isoL A r c s :=
  sq_ext2 hr hc hrl hcl h.sqr (isoL_sqr A r c s) fun x y hx hy => by
    rw [h.at' x y hx hy (.inl hx), isoL_at hr hc hrl hcl hx hy]
theorem isoL_len (A : List (List Int)) (r c s : List Int) : (isoL A r c s).length = A.length := (isoL_sqr A r c s).len
theorem isoL_sq0 (hs : IsP s) (hr : IsP r) (hc : IsP c) (hrl : r.length = A.length) (hcl : c.length = A.length) (hsl : s.length = A.length) (h : Sq0 A.length A) : Sq0 A.length (isoL A r c s) := by
  refine ⟨isoL_sqr A r c s, fun x y hx hy => ?_⟩
  obtain ⟨x', hx', rfl⟩ := hr.bij.onto (y := x) (by omega)
  obtain ⟨y', hy', rfl⟩ := hc.bij.onto (y := y) (by omega)
  rw [isoL_at hr hc hrl hcl (by omega) (by omega)]
  have := h.el x' y' (by omega) (by omega)
  have := hs.lt (at2 A x' y').toNat (by omega)
  omega
/-- isotopes of isotopes -/
theorem isoL_comp {r' c' s' : List Int} (h : Sq0 A.length A) (hr : IsP r) (hc : IsP c) (hrl : r.length = A.length) (hcl : c.length = A.length) (hsl : s.length = A.length)
    (hr' : IsP r') (hc' : IsP c') (hrl' : r'.length = A.length) (hcl' : c'.length = A.length) :
    isoL (isoL A r c s) r' c' s' = isoL A (cmpL r r') (cmpL c c') (cmpL s s') := by
  have hb := isoL_len A r c s
  have h1 := hr.cmp hr' (by omega)
  have h2 := hc.cmp hc' (by omega)
  refine sq_ext2 h1 h2 (by rw [cmpL_len]; exact hrl) (by rw [cmpL_len]; exact hcl) (by rw [← hb]; exact isoL_sqr _ _ _ _) (isoL_sqr _ _ _ _) fun x y hx hy => ?_
  rw [isoL_at h1 h2 (by rw [cmpL_len]; exact hrl) (by rw [cmpL_len]; exact hcl) hx hy, pf_cmpL (by omega), pf_cmpL (by omega)]
  have e1 := hr.pf_lt (j := x) (by omega)
  have e2 := hc.pf_lt (j := y) (by omega)
  rw [isoL_at hr' hc' (by omega) (by omega) (by omega) (by omega), isoL_at hr hc hrl hcl hx hy]
  have := h.el x y hx hy
  rw [nth_cmpL (by omega)]
  rfl
/-- the inverse permutations lead back -/
theorem isoL_inv (h : Sq0 A.length A) (hr : IsP r) (hc : IsP c) (hs : IsP s) (hrl : r.length = A.length) (hcl : c.length = A.length) (hsl : s.length = A.length) :
    isoL (isoL A r c s) (invL r) (invL c) (invL s) = A := by
  rw [isoL_comp h hr hc hrl hcl hsl hr.inv hc.inv (by rw [invL_len]; exact hrl) (by rw [invL_len]; exact hcl), cmp_inv hr, cmp_inv hc, cmp_inv hs]
  refine sq_ext2 (iot_isP r.length) (iot_isP c.length) (by rw [iot_len]; exact hrl) (by rw [iot_len]; exact hcl) (isoL_sqr _ _ _ _) h.toSqr fun x y hx hy => ?_
  rw [isoL_at (iot_isP _) (iot_isP _) (by rw [iot_len]; exact hrl) (by rw [iot_len]; exact hcl) hx hy]
  have h3 := h.el x y hx hy
  have e1 : pf (iot r.length) x = x := by unfold pf; rw [nth_iot (by omega)]; rfl
  have e2 : pf (iot c.length) y = y := by unfold pf; rw [nth_iot (by omega)]; rfl
  rw [e1, e2, nth_iot (by omega)]
  omega
/-- isotopes of Latin squares are Latin squares -/
theorem Lat.iso (h : Lat A) (hr : IsP r) (hc : IsP c) (hs : IsP s) (hrl : r.length = A.length) (hcl : c.length = A.length) (hsl : s.length = A.length) : Lat (isoL A r c s) := by
  have h0 := h.sq0
  have hq := isoL_sqr A r c s
  have hz := isoL_sq0 hs hr hc hrl hcl hsl h0
  have hb := isoL_len A r c s
  have key : ∀ x y, x < A.length → y < A.length → at2 (isoL A r c s) (pf r x) (pf c y) = nth s (at2 A x y).toNat := fun x y hx hy => isoL_at hr hc hrl hcl hx hy
  have hsi : ∀ a b : Int, 0 ≤ a → a < A.length → 0 ≤ b → b < A.length → nth s a.toNat = nth s b.toNat → a = b := fun a b ha ha' hb hb' e => by
    have := hs.inj a.toNat b.toNat (by omega) (by omega) e; omega
  refine ⟨by rw [hb]; exact h.pos, by rw [hb]; exact h.le, fun x hx => by rw [hb] at hx ⊢; exact hq.row x hx, fun x hx => ?_, fun y hy => ?_⟩
  · rw [hb] at hx
    refine ⟨fun y hy => ?_, fun y z hy hz' e => ?_⟩
    · rw [hq.row x hx] at hy ⊢; exact hz.el x y hx hy
    · rw [hq.row x hx] at hy hz'
      obtain ⟨x', hx', rfl⟩ := hr.bij.onto (y := x) (by omega)
      obtain ⟨y', hy', rfl⟩ := hc.bij.onto (y := y) (by omega)
      obtain ⟨z', hz', rfl⟩ := hc.bij.onto (y := z) (by omega)
      have e' : at2 (isoL A r c s) (pf r x') (pf c y') = at2 (isoL A r c s) (pf r x') (pf c z') := e
      rw [key _ _ (by omega) (by omega), key _ _ (by omega) (by omega)] at e'
      have a1 := h0.el x' y' (by omega) (by omega)
      have a2 := h0.el x' z' (by omega) (by omega)
      rw [(h.row x' (by omega)).inj y' z' (by rw [h.len x' (by omega)]; omega) (by rw [h.len x' (by omega)]; omega) (hsi _ _ a1.1 a1.2 a2.1 a2.2 e')]
  · rw [hb] at hy
    refine ⟨fun x hx => ?_, fun x z hx hz' e => ?_⟩
    · rw [colL_len, hb] at hx ⊢; rw [nth_colL (by rw [hb]; exact hx)]; exact hz.el x y hx hy
    · rw [colL_len, hb] at hx hz'
      rw [nth_colL (by rw [hb]; exact hx), nth_colL (by rw [hb]; exact hz')] at e
      obtain ⟨x', hx', rfl⟩ := hr.bij.onto (y := x) (by omega)
      obtain ⟨y', hy', rfl⟩ := hc.bij.onto (y := y) (by omega)
      obtain ⟨z', hz', rfl⟩ := hr.bij.onto (y := z) (by omega)
      rw [key _ _ (by omega) (by omega), key _ _ (by omega) (by omega)] at e
      have a1 := h0.el x' y' (by omega) (by omega)
      have a2 := h0.el z' y' (by omega) (by omega)
      have e' := hsi _ _ a1.1 a1.2 a2.1 a2.2 e
      rw [← nth_colL (by omega), ← nth_colL (by omega)] at e'
      rw [(h.col y' (by omega)).inj x' z' (by rw [colL_len]; omega) (by rw [colL_len]; omega) e']
end
end Go.Proofs.Ytdlmohigkkdegaa
end

section
/- make inside a region that draws its order. A region that loads cells and writes them by its last stores: what is held of the world is asked until the first of these stores alone. A region that loads cells and writes them at its end: an operation taken first, by a chain of operations that wait for each other. -/
namespace Go.Proofs.Ytdlmohigkkdegaa
set_option linter.unusedSimpArgs false
set_option linter.unusedVariables false
open Go.RowKit
theorem cell_al {w : World} {o : Obj} {a : Addr} {v : Value} (h : w.cell? a = some v) : (w.alloc o).cell? a = some v := by
  rw [World.cell?_alloc_some _ _ _ (by rw [h]; rfl)]; exact h
theorem cell_dr {w : World} {a : Addr} {v : Value} (h : w.cell? a = some v) : w.drew.cell? a = some v := h
theorem cell_sc {w : World} {p a : Addr} {u v : Value} (hp : p.block ≠ a.block) (h : w.cell? a = some v) : (w.setCell p u).cell? a = some v := by
  rw [World.cell?_setCell_far _ _ _ _ hp]; exact h
section
variable {P : Program} {ops : Array Oper} {o : Oper} {a : Act} {K : Act → World → Prop} {Q : Exit → Act → World → Prop} {E : Prop}
end
section
variable {ops : Array Oper} {o : Oper} {a : Act} {K : Act → World → Prop} {Q : Exit → Act → World → Prop} {E : Prop} {B : Nat} {w0 w : World} {L : List Ent}
end

section
variable {P : Program} {ops : Array Oper} {Q : Exit → Act → World → Prop} {md : Region.Mode} {S : World → Prop} {st : Nat}

/-- whichever order is picked; S is shown behind every operation till operation st has come up -/
def anyG (P : Program) (md : Region.Mode) (ops : Array Oper) (Q : Exit → Act → World → Prop) (S : World → Prop) (st : Nat) : Nat → Array Bool → Act → World → Prop
  | 0, listed, a, w => Region.ready md ops listed = [] ∧ Q .normal a w
  | n + 1, listed, a, w => (Region.ready md ops listed = [] → Q .normal a w) ∧
    ∀ i ∈ Region.ready md ops listed, wpOp P ops Q i (fun a' w' => ((listed.setIfInBounds i true).getD st true = false → S w') ∧ anyG P md ops Q S st n (listed.setIfInBounds i true) a' w') a w

theorem wpAny_of_G : ∀ (n : Nat) (listed : Array Bool) (a : Act) (w : World), anyG P md ops Q S st n listed a w → wpAny P md ops Q n listed a w
  | 0, _, _, _, h => h
  | n + 1, _, _, _, h => ⟨h.1, fun i hi => wpOp_mono (fun a' w' h' => wpAny_of_G n _ a' w' h'.2) (h.2 i hi)⟩

theorem set_un {listed : Array Bool} {j k : Nat} (hne : j ≠ k) (h : listed.getD k true = false) : (listed.setIfInBounds j true).getD k true = false := by rw [getD_set_ne true hne]; exact h
/-- what waits for an operation that has not come up cannot come up -/
theorem not_ready {listed : Array Bool} {j k : Nat} (hk : listed.getD k true = false) (hw : ∃ o, ops[j]? = some o ∧ ∃ e ∈ o.after, Region.binds md e = true ∧ e.on = k) : j ∉ Region.ready md ops listed := by
  intro h
  obtain ⟨_, o, ho, hall⟩ := mem_ready.1 h
  obtain ⟨o', ho', e, he, hb, rfl⟩ := hw
  rw [ho] at ho'; cases ho'
  have h1 := hall e he hb
  rcases Nat.lt_or_ge e.on listed.size with h' | h'
  · simp [h'] at hk h1; rw [hk] at h1; cases h1
  · simp [Array.getElem?_eq_none h'] at h1

/-- an operation that yields in whatever world may be taken first -/
theorem anyG_pure {i : Nat} {oi : Oper} {v : Value} (hi : ops[i]? = some oi) (hsel : ∀ (j : Nat) (o : Oper) cs b, ops[j]? = some o → o.op ≠ .select cs b)
    (hQ : ∀ c a w, Q (.panic c) (a.put oi.dst v) w → Q (.panic c) a w) (hne : i ≠ st) :
    ∀ (n : Nat) (listed : Array Bool) (a : Act) (w : World),
      (∀ j oj, ops[j]? = some oj → j ≠ i → listed.getD j true = false → (∀ e ∈ oj.after, Region.binds md e = true → e.on ≠ i) → oi.apart ops oj = true) →
      i ∈ Region.ready md ops listed → YieldsIf P ops (fun _ => True) oi v a → (listed.getD st true = false → S w) →
      anyG P md ops Q S st n (listed.setIfInBounds i true) (a.put oi.dst v) w → anyG P md ops Q S st (n + 1) listed a w := by
  intro n
  induction n with
  | zero =>
    intro listed a w _ hr hy hS H
    refine ⟨fun h => (by rw [h] at hr; cases hr), fun j hj => ?_⟩
    by_cases hji : j = i
    · subst hji; exact hy.wpOp hi trivial ⟨fun e => hS (by rwa [getD_set_ne true hne] at e), H⟩
    · have := ready_mono hj hji
      rw [H.1] at this
      cases this
  | succ n ih =>
    intro listed a w hfree hr hy hS H
    have hiu : listed.getD i true = false := (mem_ready.1 hr).1
    refine ⟨fun h => (by rw [h] at hr; cases hr), fun j hj => ?_⟩
    by_cases hji : j = i
    · subst hji; exact hy.wpOp hi trivial ⟨fun e => hS (by rwa [getD_set_ne true hne] at e), H⟩
    · have h1 := H.2 j (ready_mono hj hji)
      obtain ⟨hjun, oj, hoj, hall⟩ := mem_ready.1 hj
      have hnot : ∀ e ∈ oj.after, Region.binds md e = true → e.on ≠ i := fun e he hb heq => not_ready hiu ⟨oj, hoj, e, he, hb, heq⟩ hj
      have h2 := wpOp_putIf hoj (hfree j oj hoj hji hjun hnot) (fun cs b => hsel i oi cs b hi) (fun cs b => hsel j oj cs b hoj) hQ hy h1
      refine wpOp_mono (fun a' w' h3 => ?_) h2
      have hSw : (listed.setIfInBounds j true).getD st true = false → S w' := fun e => h3.2.1 (by rw [Array.setIfInBounds_comm _ _ (Ne.symm hji), getD_set_ne true hne]; exact e)
      refine ⟨hSw, ih (listed.setIfInBounds j true) a' w' ?_ (ready_mono hr (Ne.symm hji)) h3.1 hSw ?_⟩
      · intro m om hm hmi hun hno
        refine hfree m om hm hmi ?_ hno
        by_cases hjm : j = m
        · subst hjm; exact hjun
        · rwa [getD_set_ne true hjm] at hun
      · rw [Array.setIfInBounds_comm _ _ hji]
        exact h3.2.2
/-- number i is taken first, whatever the world -/
theorem takeP {i : Nat} {oi : Oper} {v : Value} {n : Nat} {listed : Array Bool} {a : Act} {w : World} (hi : ops[i]? = some oi)
    (hs : (Region.noSelect ops && Region.free md ops listed i && (Region.ready md ops listed).contains i && (!(i == st))) = true)
    (hQ : ∀ c a w, Q (.panic c) (a.put oi.dst v) w → Q (.panic c) a w) (hw : Region.wanted oi (yielded ops a.tmps) = true) (hy : ∀ w, (execOp a.eval oi).run P w = .ok (.value v) w) (hS : S w)
    (h : anyG P md ops Q S st n (listed.setIfInBounds i true) (a.put oi.dst v) w) : anyG P md ops Q S st (n + 1) listed a w := by
  simp only [Bool.and_eq_true, Bool.not_eq_true', beq_eq_false_iff_ne] at hs
  obtain ⟨⟨⟨h1, h2⟩, h3⟩, h4⟩ := hs
  exact anyG_pure hi (Region.noSelect_spec h1) hQ h4 n listed a w (Region.free_spec hi h2) (by simpa using h3) (.inl ⟨hw, fun w _ => hy w⟩) (fun _ => hS) h

def waits (md : Region.Mode) (ops : Array Oper) (j k : Nat) : Bool := match ops[j]? with
  | some o => o.after.any fun e => Region.binds md e && e.on == k
  | none => false
theorem waits_spec {j k : Nat} (h : waits md ops j k = true) : ∃ o, ops[j]? = some o ∧ ∃ e ∈ o.after, Region.binds md e = true ∧ e.on = k := by
  unfold waits at h
  cases ho : ops[j]? with
  | none => rw [ho] at h; cases h
  | some o =>
    rw [ho] at h
    simp only [Array.any_eq_true', Bool.and_eq_true, beq_iff_eq] at h
    obtain ⟨e, he, hb, hk⟩ := h
    exact ⟨o, rfl, e, he, hb, hk⟩
def AllG (P : Program) (md : Region.Mode) (ops : Array Oper) (Q : Exit → Act → World → Prop) (S : World → Prop) (st n : Nat) (listed : Array Bool) (a : Act) (w : World) (rs : List Nat) : Prop :=
  ∀ i ∈ rs, wpOp P ops Q i (fun a' w' => ((listed.setIfInBounds i true).getD st true = false → S w') ∧ anyG P md ops Q S st n (listed.setIfInBounds i true) a' w') a w
theorem AllG.nil {n : Nat} {listed : Array Bool} {a : Act} {w : World} : AllG P md ops Q S st n listed a w [] := fun _ h => by cases h
/-- an operation ahead of st -/
theorem AllG.cons {n : Nat} {listed : Array Bool} {a : Act} {w : World} {i : Nat} {o : Oper} {rs : List Nat} (ho : ops[i]? = some o)
    (h : ∀ K' : Act → World → Prop, Shut (∀ a w, S w → (S w → anyG P md ops Q S st n (listed.setIfInBounds i true) a w) → K' a w) → if Region.wanted o (yielded ops a.tmps) = true then Oper.wp P o a w K' Q else K' (a.put o.dst undef) w)
    (hs : AllG P md ops Q S st n listed a w rs) : AllG P md ops Q S st n listed a w (i :: rs) := fun j hj => by
  rcases List.mem_cons.1 hj with rfl | hj
  · exact wpOp_step ho (fun K' hK => h K' (fun a w hS hW => hK a w ⟨fun _ => hS, hW hS⟩))
  · exact hs j hj
/-- st itself, or one behind it -/
theorem AllG.last {n : Nat} {listed : Array Bool} {a : Act} {w : World} {i : Nat} {o : Oper} {rs : List Nat} (ho : ops[i]? = some o) (hl : (listed.setIfInBounds i true).getD st true = true)
    (h : ∀ K' : Act → World → Prop, Shut (∀ a w, anyG P md ops Q S st n (listed.setIfInBounds i true) a w → K' a w) → if Region.wanted o (yielded ops a.tmps) = true then Oper.wp P o a w K' Q else K' (a.put o.dst undef) w)
    (hs : AllG P md ops Q S st n listed a w rs) : AllG P md ops Q S st n listed a w (i :: rs) := fun j hj => by
  rcases List.mem_cons.1 hj with rfl | hj
  · exact wpOp_step ho (fun K' hK => h K' (fun a w hW => hK a w ⟨fun e => (by rw [hl] at e; cases e), hW⟩))
  · exact hs j hj
theorem readyG {rs : List Nat} {n : Nat} {listed : Array Bool} {a : Act} {w : World} (hr : Region.ready md ops listed = rs) (hne : rs ≠ [])
    (h : AllG P md ops Q S st n listed a w rs) : anyG P md ops Q S st (n + 1) listed a w := ⟨fun h0 => absurd (hr ▸ h0) hne, hr ▸ h⟩
theorem doneG {listed : Array Bool} {a : Act} {w : World} (hr : Region.ready md ops listed = []) (h : Q .normal a w) : ∀ n, anyG P md ops Q S st n listed a w
  | 0 => ⟨hr, h⟩
  | _ + 1 => ⟨fun _ => h, by rw [hr]; simp⟩
/-- the beginning -/
theorem regionG {id : Nat} {a : Act} {w : World} (S : World → Prop) (st : Nat) (hm : P.follows .mixedOrders = true) (hS : S w.drew)
    (h : S w.drew → anyG P .any ops (NoPanic Q) S st ops.size (Array.replicate ops.size false) a w.drew) : (Code.region id ops true).wp P Q a w :=
  wp_region_noPanic (wp_region_any hm (wpAny_of_G _ _ _ _ (h hS)))
end

section
variable {P : Program} {ops : Array Oper} {Q : Exit → Act → World → Prop} {md : Region.Mode} {S : World → Prop} {st : Nat}
theorem anyG_firstL {i : Nat} {oi : Oper} {v : Value} (ks : List Nat) (hi : ops[i]? = some oi) (hsel : ∀ (j : Nat) (o : Oper) cs b, ops[j]? = some o → o.op ≠ .select cs b)
    (hQ : ∀ c a w, Q (.panic c) (a.put oi.dst v) w → Q (.panic c) a w)
    (hks : ∀ k ∈ ks, k = i ∨ ∃ m ∈ i :: ks, ∃ o, ops[k]? = some o ∧ ∃ e ∈ o.after, Region.binds md e = true ∧ e.on = m) (hst : ∃ m ∈ i :: ks, ∃ o, ops[st]? = some o ∧ ∃ e ∈ o.after, Region.binds md e = true ∧ e.on = m) :
    ∀ (n : Nat) (listed : Array Bool) (a : Act) (w : World), (∀ k ∈ ks, listed.getD k true = false) → listed.getD st true = false →
      (∀ j oj, ops[j]? = some oj → j ≠ i → listed.getD j true = false → (∀ e ∈ oj.after, Region.binds md e = true → e.on ≠ i) → oi.apart ops oj = true) →
      i ∈ Region.ready md ops listed → YieldsIf P ops S oi v a → S w →
      anyG P md ops Q S st n (listed.setIfInBounds i true) (a.put oi.dst v) w → anyG P md ops Q S st (n + 1) listed a w := by
  intro n
  induction n with
  | zero =>
    intro listed a w hk hs _ hr hy hS H
    refine ⟨fun h => (by rw [h] at hr; cases hr), fun j hj => ?_⟩
    by_cases hji : j = i
    · subst hji; exact hy.wpOp hi hS ⟨fun _ => hS, H⟩
    · have := ready_mono hj hji
      rw [H.1] at this
      cases this
  | succ n ih =>
    intro listed a w hk hs hfree hr hy hS H
    have hiu : listed.getD i true = false := (mem_ready.1 hr).1
    have hun : ∀ m ∈ i :: ks, listed.getD m true = false := fun m hm => by
      rcases List.mem_cons.1 hm with rfl | hm
      · exact hiu
      · exact hk m hm
    refine ⟨fun h => (by rw [h] at hr; cases hr), fun j hj => ?_⟩
    by_cases hji : j = i
    · subst hji; exact hy.wpOp hi hS ⟨fun _ => hS, H⟩
    · have hjk : j ∉ ks := by
        intro hjm
        rcases hks j hjm with e | ⟨m, hm, hw⟩
        · exact hji e
        · exact not_ready (hun m hm) hw hj
      obtain ⟨ms, hms, hws⟩ := hst
      have hjs : j ≠ st := by
        rintro rfl
        exact not_ready (hun ms hms) hws hj
      have h1 := H.2 j (ready_mono hj hji)
      obtain ⟨hjun, oj, hoj, hall⟩ := mem_ready.1 hj
      have hnot : ∀ e ∈ oj.after, Region.binds md e = true → e.on ≠ i := fun e he hb heq => not_ready hiu ⟨oj, hoj, e, he, hb, heq⟩ hj
      have h2 := wpOp_putIf hoj (hfree j oj hoj hji hjun hnot) (fun cs b => hsel i oi cs b hi) (fun cs b => hsel j oj cs b hoj) hQ hy h1
      have hsj : (listed.setIfInBounds j true).getD st true = false := set_un hjs hs
      refine wpOp_mono (fun a' w' h3 => ?_) h2
      have hSw : S w' := h3.2.1 (set_un hjs (set_un (fun e => by subst e; exact not_ready (hun ms hms) hws hr) hs))
      refine ⟨fun _ => hSw, ih (listed.setIfInBounds j true) a' w' (fun k hkm => set_un (fun e => hjk (e ▸ hkm)) (hk k hkm)) hsj ?_ (ready_mono hr (Ne.symm hji)) h3.1 hSw ?_⟩
      · intro m om hm hmi hun hno
        refine hfree m om hm hmi ?_ hno
        by_cases hjm : j = m
        · subst hjm; exact hjun
        · rwa [getD_set_ne true hjm] at hun
      · rw [Array.setIfInBounds_comm _ _ hji]
        exact h3.2.2
/-- number i is taken first; ks: operations that wait for it, for each other, and st for one of them -/
theorem takeH {i : Nat} (ks : List Nat) {oi : Oper} {v : Value} {n : Nat} {listed : Array Bool} {a : Act} {w : World} (hi : ops[i]? = some oi)
    (hs : (Region.noSelect ops && Region.free md ops listed i && (Region.ready md ops listed).contains i && (ks.all fun k => k == i || (i :: ks).any fun m => waits md ops k m) && ((i :: ks).any fun m => waits md ops st m) && (ks.all fun k => !listed.getD k true) && (!listed.getD st true)) = true)
    (hQ : ∀ c a w, Q (.panic c) (a.put oi.dst v) w → Q (.panic c) a w) (hw : Region.wanted oi (yielded ops a.tmps) = true) (hy : ∀ w, S w → (execOp a.eval oi).run P w = .ok (.value v) w) (hS : S w)
    (h : anyG P md ops Q S st n (listed.setIfInBounds i true) (a.put oi.dst v) w) : anyG P md ops Q S st (n + 1) listed a w := by
  simp only [Bool.and_eq_true, Bool.not_eq_true', Bool.or_eq_true, beq_iff_eq, List.all_eq_true] at hs
  obtain ⟨⟨⟨⟨⟨⟨h1, h2⟩, h3⟩, h4⟩, h5⟩, h6⟩, h7⟩ := hs
  refine anyG_firstL ks hi (Region.noSelect_spec h1) hQ (fun k hk => ?_) ?_ n listed a w h6 h7 (Region.free_spec hi h2) (by simpa using h3) (.inl ⟨hw, hy⟩) hS h
  · rcases h4 k hk with e | e
    · exact .inl e
    · obtain ⟨m, hm, hmw⟩ := List.any_eq_true.1 e
      exact .inr ⟨m, hm, waits_spec hmw⟩
  · obtain ⟨m, hm, hmw⟩ := List.any_eq_true.1 h5
    exact ⟨m, hm, waits_spec hmw⟩
end

end Go.Proofs.Ytdlmohigkkdegaa
end

section
/- slices.Sort at []int64: a row that a call owns, sorted. -/
namespace Go.Proofs.Ytdlmohigkkdegaa
set_option linter.unusedSimpArgs false
set_option linter.unusedVariables false
open Go.RowKit

def Try.mSort_ren : Go.Shelf.Ren := ⟨fun | 5 => 43 | 8 => 81 | 7 => 80 | 19 => 107 | 20 => 108 | 10 => 98 | 11 => 99 | 12 => 100 | 13 => 101 | 14 => 102 | 15 => 103 | 16 => 104 | 17 => 105 | 18 => 106 | 30 => 111 | 31 => 112 | 32 => 113 | 33 => 114 | 34 => 115 | 35 => 116 | 40 => 117 | n => n, fun | 23 => 28 | 25 => 2 | 3 => 3 | 32 => 83 | 22 => 28 | 0 => 0 | 44 => 96 | 46 => 71 | 4 => 4 | 36 => 89 | 35 => 88 | 41 => 93 | 5 => 5 | 9 => 9 | 53 => 99 | 57 => 103 | 63 => 106 | 64 => 107 | n => n, fun | n => n⟩
theorem Try.mSort : Go.Proofs.SlLaysM.n5 Try.prog Try.mSort_ren := {
  mixed := by kernel_rfl
  f5 := ⟨Try.f43.name, by decide, Try.func43.trans (congrArg some (by kernel_rfl))⟩
  f7 := ⟨Try.f80.name, by decide, Try.func80.trans (congrArg some (by kernel_rfl))⟩
  f8 := Try.func81.trans (congrArg some (by kernel_rfl))
  f10 := ⟨Try.f98.name, by decide, Try.func98.trans (congrArg some (by kernel_rfl))⟩
  f11 := ⟨Try.f99.name, by decide, Try.func99.trans (congrArg some (by kernel_rfl))⟩
  f12 := ⟨Try.f100.name, by decide, Try.func100.trans (congrArg some (by kernel_rfl))⟩
  f13 := ⟨Try.f101.name, by decide, Try.func101.trans (congrArg some (by kernel_rfl))⟩
  f14 := ⟨Try.f102.name, by decide, Try.func102.trans (congrArg some (by kernel_rfl))⟩
  f15 := ⟨Try.f103.name, by decide, Try.func103.trans (congrArg some (by kernel_rfl))⟩
  f16 := ⟨Try.f104.name, by decide, Try.func104.trans (congrArg some (by kernel_rfl))⟩
  f17 := ⟨Try.f105.name, by decide, Try.func105.trans (congrArg some (by kernel_rfl))⟩
  f18 := ⟨Try.f106.name, by decide, Try.func106.trans (congrArg some (by kernel_rfl))⟩
  f19 := Try.func107.trans (congrArg some (by kernel_rfl))
  f20 := Try.func108.trans (congrArg some (by kernel_rfl))
  f30 := ⟨Try.f111.name, by decide, Try.func111.trans (congrArg some (by kernel_rfl))⟩
  f31 := Try.func112.trans (congrArg some (by kernel_rfl))
  f32 := Try.func113.trans (congrArg some (by kernel_rfl))
  f33 := ⟨Try.f114.name, by decide, Try.func114.trans (congrArg some (by kernel_rfl))⟩
  f34 := ⟨Try.f115.name, by decide, Try.func115.trans (congrArg some (by kernel_rfl))⟩
  f35 := ⟨Try.f116.name, by decide, Try.func116.trans (congrArg some (by kernel_rfl))⟩
  f40 := ⟨Try.f117.name, by decide, Try.func117.trans (congrArg some (by kernel_rfl))⟩
  t0 := Try.underlying0
  a0 := Try.isAgg0
  z0 := Try.sizeOf0
  v0 := Try.zeroValue0
  t3 := Try.underlying3
  a3 := Try.isAgg3
  z3 := Try.sizeOf3
  v3 := Try.zeroValue3
  t4 := Try.underlying4
  a4 := Try.isAgg4
  z4 := Try.sizeOf4
  v4 := Try.zeroValue4
  t5 := Try.underlying5
  a5 := Try.isAgg5
  z5 := Try.sizeOf5
  v5 := Try.zeroValue5
  t9 := Try.underlying9
  a9 := Try.isAgg9
  z9 := Try.sizeOf9
  v9 := Try.zeroValue9
  t22 := Try.underlying28
  a22 := Try.isAgg28
  z22 := Try.sizeOf28
  v22 := Try.zeroValue28
  t23 := Try.underlying28
  a23 := Try.isAgg28
  z23 := Try.sizeOf28
  v23 := Try.zeroValue28
  t25 := Try.underlying2
  a25 := Try.isAgg2
  z25 := Try.sizeOf2
  v25 := Try.zeroValue2
  t32 := Try.underlying83
  a32 := Try.isAgg83
  z32 := Try.sizeOf83
  v32 := Try.zeroValue83
  t35 := Try.underlying88
  a35 := Try.isAgg88
  z35 := Try.sizeOf88
  v35 := Try.zeroValue88
  t36 := Try.underlying89
  a36 := Try.isAgg89
  z36 := Try.sizeOf89
  v36 := Try.zeroValue89
  t41 := Try.underlying93
  a41 := Try.isAgg93
  z41 := Try.sizeOf93
  v41 := Try.zeroValue93
  t44 := Try.underlying96
  a44 := Try.isAgg96
  z44 := Try.sizeOf96
  v44 := Try.zeroValue96
  t46 := Try.underlying71
  a46 := Try.isAgg71
  z46 := Try.sizeOf71
  v46 := Try.zeroValue71
  t53 := Try.underlying99
  a53 := Try.isAgg99
  z53 := Try.sizeOf99
  v53 := Try.zeroValue99
  t57 := Try.underlying103
  a57 := Try.isAgg103
  z57 := Try.sizeOf103
  v57 := Try.zeroValue103
  t63 := Try.underlying106
  a63 := Try.isAgg106
  z63 := Try.sizeOf106
  v63 := Try.zeroValue106
  t64 := Try.underlying107
  a64 := Try.isAgg107
  z64 := Try.sizeOf107
  v64 := Try.zeroValue107
  }

/-- in rising order -/
def srt (xs : List Int) : List Int := xs.mergeSort fun x y => decide (x ≤ y)
theorem srt_len (xs : List Int) : (srt xs).length = xs.length := List.length_mergeSort _
theorem Sort_c {B : Nat} {w0 w : World} {L : List Ent} (hS : St B w0 w L) (i : Nat) {v : Value} {xs : List Int} (hi : L[i]? = some (row 2 v (iv xs))) (hl : xs.length < 4611686018427387904) :
    Calls Try.prog 43 #[v] w fun e w' => e = .returned (.tuple #[]) ∧ St B w0 w' (L.set i (row 2 v (iv (srt xs)))) := by
  have hx := hS.ok _ (List.mem_of_getElem? hi)
  rcases hx with ⟨hp, _⟩ | ⟨_, hv, hu⟩ | ⟨_, g, cap, cur, hv, hB, hh, h1, h2, h3, h4⟩
  · simp [row] at hp
  · simp only [row] at hv hu
    have hx : xs = [] := by cases xs with
      | nil => rfl
      | cons a r => simp [iv] at hu
    subst hx
    subst hv
    have hc := AnyM.slices_Sort_int_none Try.mSort none 0 w
    refine Calls.mono hc ?_
    rintro e w' ⟨rfl, rfl⟩
    refine ⟨rfl, ?_⟩
    have : L.set i (row 2 (.slice none 0 0) (iv (srt []))) = L := by
      obtain ⟨hlt, heq⟩ := List.getElem?_eq_some_iff.1 hi
      have e : srt [] = [] := by simp [srt]
      rw [e, ← heq, List.set_getElem_self]
    rw [this]; exact hS
  · simp only [row] at hv h1 h4 hh
    rw [iv_len] at hv h1 h4
    have hblk : g < w.heap.size := (Array.getElem?_eq_some_iff.1 hh).1
    have hH : Go.Sort.Holds (Value.int .i64) w g 0 xs.toArray := holds_of_blockI hh h4
    have hc := AnyM.slices_Sort_int Try.mSort g 0 cap xs w hH hblk hl
    subst hv
    refine Calls.mono hc ?_
    rintro e w' ⟨rfl, n, os, rfl⟩
    refine ⟨rfl, ?_⟩
    have hlen : (srt xs).length = xs.length := srt_len xs
    refine hS.put i hi ?_ (row 2 (.slice (some ⟨g, 0, none⟩) xs.length cap) (iv (srt xs))) (.inr (.inr ⟨rfl, g, cap, _, ?_, hB, heap_sortedI _ hh, ?_, h2, ?_, ?_⟩)) (.inl rfl)
    · exact grownBy_sortedI _
    · simp [row, iv_len, hlen]
    · simp [row, iv_len, hlen]; omega
    · simp [Go.Sort.putCells, h3]
    · have := take_putCellsI cur (srt xs) (by omega)
      rw [hlen] at this
      have hlen' : (xs.mergeSort fun x y => decide (x ≤ y)).length = xs.length := hlen
      simpa [row, iv, srt, hlen'] using this
end Go.Proofs.Ytdlmohigkkdegaa
end

section
/- Walks: whether a list holds a number. -/
namespace Go.Proofs.Ytdlmohigkkdegaa
set_option linter.unusedSimpArgs false
set_option linter.unusedVariables false
open Go.RowKit
set_option maxHeartbeats 1000000 in
set_option maxRecDepth 100000 in
theorem Index_c (v : Value) (xs : List Int) (n : Int) (w : World) (hv : RdI w v xs) :
    Calls Try.prog 79 #[v, .int .i64 n] w fun e w' => e = .returned (.int .i64 (idxP (fun x => n == x) xs 0)) ∧ w = w' := by
  have hln := hv.len
  have hix := hv.ix
  have hm := hv.le
  go_enter Try.func79, Try.ntmps79
  go_wp2_with fail
  go_loopw [5, 8] (fun _ i wr => ∃ k : Nat, k ≤ xs.length ∧ i = .int .i64 k ∧ Hid (idxP (fun x => n == x) xs 0 = idxP (fun x => n == x) xs k) ∧ wr = w) (fun _ i _ => xs.length - (intOf i).toNat)
  case atStart => exact ⟨0, by omega, rfl, rfl, rfl⟩
  case round =>
    obtain ⟨k, hk, rfl, hI, rfl⟩ := hrel
    by_cases hlt : k < xs.length
    · have hc := hv.cell k hlt
      by_cases hp : n = nth xs k
      · have f1 := eq_t hp
        have Hp := Lib.hid (show (fun x => n == x) (nth xs k) = true by simpa using hp)
        clear hp
        go_wp2_with fail
        go_ret
        exact ⟨ret_i64 (by rw [hI.out, idxP_hit hlt Hp.out]), rfl⟩
      · have f1 := eq_f hp
        have Hp := Lib.hid (show (fun x => n == x) (nth xs k) = false by simpa using hp)
        clear hp
        go_wp2_with fail
        go_roundw
        case rel => exact ⟨k + 1, by omega, by go_num, by rw [Hid, hI.out, idxP_step hlt Hp.out], by first | rfl | trivial⟩
        case measure => simp [intOf]; omega
    · go_wp2_with fail
      go_ret
      exact ⟨ret_i64 (by rw [hI.out, idxP_end (by omega)]), rfl⟩
set_option maxHeartbeats 1000000 in
set_option maxRecDepth 100000 in
theorem l00Has_c (v : Value) (xs : List Int) (n : Int) (w : World) (hv : RdI w v xs) :
    Calls Try.prog 93 #[v, .int .i64 n] w fun e w' => e = .returned (.bool (decide (n ∈ xs))) ∧ w = w' := by
  have hln := hv.len
  have hix := hv.ix
  have hm := hv.le
  go_enter Try.func93, Try.ntmps93
  go_wp2_with fail
  go_loopw [5] (fun i wr => ∃ k : Nat, k ≤ xs.length ∧ i = .int .i64 k ∧ Hid (n ∉ xs.take k) ∧ wr = w) (fun i _ => xs.length - (intOf i).toNat)
  case atStart => exact ⟨0, by omega, rfl, by simp [Hid], rfl⟩
  case round =>
    obtain ⟨k, hk, rfl, hI, rfl⟩ := hrel
    by_cases hlt : k < xs.length
    · have hc := hv.cell k hlt
      by_cases hp : nth xs k = n
      · have f1 := eq_t hp
        have Hp := Lib.hid (show decide (n ∈ xs) = true by rw [decide_eq_true_iff, ← hp]; exact nth_mem hlt)
        clear hp
        go_wp2_with fail
        go_ret
        exact ⟨ret_bool Hp.out.symm, rfl⟩
      · have f1 := eq_f hp
        have Hp := Lib.hid (show n ∉ xs.take (k + 1) by rw [take_nth hlt, List.mem_append, not_or]; exact ⟨hI.out, by simp; exact fun e => hp e.symm⟩)
        clear hp
        go_wp2_with fail
        go_roundw
        case rel => exact ⟨k + 1, by omega, by go_num, Hp, by first | rfl | trivial⟩
        case measure => simp [intOf]; omega
    · have Hn := Lib.hid (show decide (n ∈ xs) = false by rw [decide_eq_false_iff_not]; have := hI.out; rwa [List.take_of_length_le (by omega)] at this)
      go_wp2_with fail
      go_ret
      exact ⟨ret_bool Hn.out.symm, rfl⟩
end Go.Proofs.Ytdlmohigkkdegaa
end

section
/- Walks: numbers. -/
namespace Go.Proofs.Ytdlmohigkkdegaa
set_option linter.unusedSimpArgs false
set_option linter.unusedVariables false
open Go.RowKit

def inB (n a b : Int) : Bool := decide (a ≤ n) && decide (n ≤ b)
theorem inB_true {n a b : Int} (h : a ≤ n ∧ n ≤ b) : inB n a b = true := by simp [inB, h.1, h.2]
theorem inB_false {n a b : Int} (h : ¬ (a ≤ n ∧ n ≤ b)) : inB n a b = false := by simp only [inB, Bool.and_eq_false_iff, decide_eq_false_iff_not]; omega

theorem within_c (n a b : Int) (w : World) :
    Calls Try.prog 49 #[.int .i64 n, .int .i64 a, .int .i64 b] w fun e w' => e = .returned (.bool (inB n a b)) ∧ w = w' := by
  go_enter Try.func49, Try.ntmps49
  by_cases h : a ≤ n
  · go_wp2
    go_ret
    exact ⟨ret_bool (by simp [inB, h]), rfl⟩
  · go_wp2
    go_ret
    exact ⟨ret_bool (by simp [inB, show ¬ a ≤ n by omega]), rfl⟩
def pp (xs : List Int) : Int × Int := match xs with
  | [] => (0, 0)
  | x :: xs => if xs.all (· == x) then (x, xs.length + 1) else (0, 0)
end Go.Proofs.Ytdlmohigkkdegaa
end

section
/- Walks: bounds of numbers, of the reference. -/
namespace Go.Proofs.Ytdlmohigkkdegaa
set_option linter.unusedSimpArgs false
set_option linter.unusedVariables false
open Go.RowKit

theorem l00In_c (n a b : Int) (w : World) :
    Calls Try.prog 44 #[.int .i64 n, .int .i64 a, .int .i64 b] w fun e w' => e = .returned (.bool (inB n a b)) ∧ w = w' := by
  go_enter Try.func44, Try.ntmps44
  by_cases h : a ≤ n
  · go_wp2
    go_ret
    exact ⟨ret_bool (by simp [inB, h]), rfl⟩
  · go_wp2
    go_ret
    exact ⟨ret_bool (by simp [inB, show ¬ a ≤ n by omega]), rfl⟩

end Go.Proofs.Ytdlmohigkkdegaa
end

section
/- The source of choices that the laws draw from. -/
namespace Go.Proofs.Ytdlmohigkkdegaa
set_option linter.unusedSimpArgs false
set_option linter.unusedVariables false
open Go.RowKit

/-- the cells of some bytes -/
def bv (bs : List UInt8) : List Value := bs.map fun b => Value.int .u8 b.toNat
def RdB (w : World) (v : Value) (bs : List UInt8) : Prop := Rd w v (bv bs)
theorem bv_len (bs : List UInt8) : (bv bs).length = bs.length := by simp [bv]
def bnth (bs : List UInt8) (j : Nat) : Int := ((bs.getD j 0).toNat : Int)
theorem bnth_bd (bs : List UInt8) (j : Nat) : 0 ≤ bnth bs j ∧ bnth bs j ≤ 255 := by
  unfold bnth; have := (bs.getD j 0).toNat_lt; omega
theorem bv_get {bs : List UInt8} {j : Nat} (h : j < bs.length) : (bv bs).getD j undef = .int .u8 (bnth bs j) := by
  simp [bv, bnth, List.getD, List.getElem?_eq_getElem h]

theorem Try.und_bs : Try.prog.underlying 22 = some (.slice 5) := by kernel_rfl
theorem Try.size_b : (Try.prog.info? 5).map (·.size) = some 1 := by kernel_rfl

section
variable {w w' : World} {v : Value} {bs : List UInt8}
theorem RdB.le (h : RdB w v bs) : bs.length ≤ 9223372036854775807 := by have := h.sl.le; rwa [bv_len] at this
theorem RdB.len (h : RdB w v bs) (ty : TypeId) (W : World) : (Builtin.len_ #[22] ty #[v]).run Try.prog W = .ok (.int .i64 bs.length) W := by
  have := run_len_sl (P := Try.prog) h.sl 22 ty Try.und_bs W; rwa [bv_len] at this
theorem RdB.ix (h : RdB w v bs) (k : IntKind) (i : Int) (h0 : 0 ≤ i) (hi : i < bs.length) (W : World) :
    (Instr.indexAt 22 v (.int k i)).run Try.prog W = .ok (.pointer (some (el v i.toNat))) W :=
  run_ix_sl (P := Try.prog) h.sl 22 Try.und_bs Try.size_b k i h0 (by rw [bv_len]; exact hi) W
theorem RdB.cell (h : RdB w v bs) (j : Nat) (hj : j < bs.length) : w.cell? (el v j) = some (.int .u8 (bnth bs j)) := by
  rw [Rd.cell h (by rw [bv_len]; exact hj), bv_get hj]
theorem RdB.keep (h : RdB w v bs) (hb : Below w.heap.size w w') : RdB w' v bs := Rd.keep h hb
theorem RdB.sh (h : RdB w v bs) : ∃ a n c, v = .slice a n c := by obtain ⟨a, c, hv, _⟩ := h.sl; exact ⟨a, _, c, hv⟩
end
theorem St.oldB {w0 w : World} {L : List Ent} {v : Value} {bs : List UInt8} (h : St w0.heap.size w0 w L) (hr : RdB w0 v bs) : RdB w v bs := Rd.keep hr h.below

/-- the source lies at the head of what is owned, at most K bytes were drawn -/
def Src (w0 w : World) (cv : Value) (g : Nat) (K : Nat) (L : List Ent) : Prop :=
  ∃ p seed : Int, 0 ≤ p ∧ p ≤ K ∧ St w0.heap.size w0 w (box 73 g [cv, .int .i64 p, .int .u64 seed] :: L)

def AnInt (lo hi : Int) (R : World → Prop) (e : Ending) (w' : World) : Prop := ∃ x : Int, lo ≤ x ∧ x ≤ hi ∧ e = .returned (.int .i64 x) ∧ R w'

theorem Src.mono {w0 w : World} {cv : Value} {g K K' : Nat} {L : List Ent} (h : Src w0 w cv g K L) (hk : K ≤ K') : Src w0 w cv g K' L := by
  obtain ⟨p, s, h0, h1, h2⟩ := h; exact ⟨p, s, h0, by omega, h2⟩
theorem Src.st {w0 w : World} {cv : Value} {g K : Nat} {L : List Ent} (h : Src w0 w cv g K L) : St w0.heap.size w0 w L := by
  obtain ⟨p, s, h0, h1, h2⟩ := h; exact h2.sub (List.sublist_cons_self _ _)

theorem and255 (x : Int) : 0 ≤ wrap64 (bits BinOp.and IntKind.u64 (IntKind.u64.wrap x / 1099511627776) 255) ∧ wrap64 (bits BinOp.and IntKind.u64 (IntKind.u64.wrap x / 1099511627776) 255) ≤ 255 := by
  have h1 : 0 ≤ IntKind.u64.wrap x / 1099511627776 ∧ IntKind.u64.wrap x / 1099511627776 < 18446744073709551616 := by
    simp [IntKind.wrap, IntKind.bits, IntKind.signed]; omega
  rw [u64_and _ _ h1.1 h1.2 (by omega) (by omega)]
  have e255 : (255 : Int).toNat = 255 := rfl
  have h2 := Nat.and_le_right (n := (IntKind.u64.wrap x / 1099511627776).toNat) (m := (255 : Int).toNat)
  rw [e255] at h2 ⊢
  unfold wrap64
  omega

set_option maxHeartbeats 1000000 in
theorem next_c (w0 w : World) (cv : Value) (bs : List UInt8) (g K : Nat) (L : List Ent) (hb : RdB w0 cv bs) (h : Src w0 w cv g K L) (hK : K < 1099511627776) :
    Calls Try.prog 67 #[.pointer (some ⟨g, 0, none⟩)] w (AnInt 0 255 fun w' => Src w0 w' cv g (K + 1) L) := by
  obtain ⟨p, seed, h0, h1, hS⟩ := h
  obtain ⟨q, rfl⟩ := Int.eq_ofNat_of_zero_le h0
  have hc0 := hS.bcell 0 rfl 0 rfl
  have hc1 := hS.bcell 0 rfl 1 rfl
  have hc2 := hS.bcell 0 rfl 2 rfl
  have hf := hS.bfree 0 rfl
  have hbw := hS.oldB hb
  have hln := hb.len
  have hix := hb.ix
  have hcell := hbw.cell
  have hle := hb.le
  have hbd := bnth_bd bs q
  obtain ⟨hb0, hb1⟩ := hbd
  by_cases hlt : q < bs.length
  · have hlt' : q + 1 ≤ bs.length := hlt
    go_enter Try.func67, Try.ntmps67
    go_wp2_with fail
    go_quiet (fail)
    go_wp2_with fail
    go_quiet (fail)
    go_wp2_with fail
    refine abs_wp (((hS.drewN _).bstore 0 rfl 1 _).bstore 0 rfl 2 _) ?_
    intro w2 hS2
    clear hc0 hc1 hc2 hf
    have hc0 := hS2.bcell 0 rfl 0 rfl
    have hc1 := hS2.bcell 0 rfl 1 rfl
    go_quiet (fail)
    go_wp2_with fail
    go_ret
    exact ⟨_, hb0, hb1, rfl, _, _, by omega, by omega, hS2.drewN _⟩
  · have hlt' : ¬ q + 1 ≤ bs.length := by omega
    go_enter Try.func67, Try.ntmps67
    go_wp2_with fail
    go_quiet (fail)
    go_wp2_with fail
    refine abs_wp (((hS.drewN _).bstore 0 rfl 1 _).bstore 0 rfl 2 _) ?_
    intro w2 hS2
    clear hc0 hc1 hc2 hf
    have hc0 := hS2.bcell 0 rfl 0 rfl
    have hc1 := hS2.bcell 0 rfl 1 rfl
    have hc2 := hS2.bcell 0 rfl 2 rfl
    go_quiet (fail)
    go_wp2_with fail
    go_ret
    exact ⟨_, (and255 _).1, (and255 _).2, rfl, _, _, by omega, by omega, hS2.drewN _⟩

set_option maxHeartbeats 1000000 in
theorem pick_c (w0 w : World) (cv : Value) (bs : List UInt8) (g K : Nat) (L : List Ent) (n : Int) (hb : RdB w0 cv bs) (h : Src w0 w cv g K L) (hK : K < 1000000000000) :
    Calls Try.prog 27 #[.pointer (some ⟨g, 0, none⟩), .int .i64 n] w (AnInt 0 (max (n - 1) 0) fun w' => Src w0 w' cv g (K + 2) L) := by
  by_cases h1 : n ≤ 1
  · go_enter Try.func27, Try.ntmps27
    go_wp2_with fail
    go_ret
    exact ⟨0, by omega, by omega, rfl, h.mono (by omega)⟩
  · by_cases h2 : n ≤ 200
    · go_enter Try.func27, Try.ntmps27
      go_wp2_with fail
      refine (next_c w0 w cv bs g K L hb h (by omega)).mono ?_
      rintro e w1 ⟨x, hx0, hx1, rfl, h3⟩
      go_wp2_with fail
      go_ret
      have := Int.emod_nonneg x (show n ≠ 0 by omega)
      have := Int.emod_lt_of_pos x (show 0 < n by omega)
      exact ⟨_, by omega, by omega, rfl, h3.mono (by omega)⟩
    · go_enter Try.func27, Try.ntmps27
      go_wp2_with fail
      refine (next_c w0 w cv bs g K L hb h (by omega)).mono ?_
      rintro e w1 ⟨x, hx0, hx1, rfl, h3⟩
      go_wp2_with fail
      refine (next_c w0 w1 cv bs g (K + 1) L hb h3 (by omega)).mono ?_
      rintro e w2 ⟨y, hy0, hy1, rfl, h4⟩
      go_wp2_with fail
      go_ret
      have := Int.emod_nonneg (x * 256 + y) (show n ≠ 0 by omega)
      have := Int.emod_lt_of_pos (x * 256 + y) (show 0 < n by omega)
      exact ⟨_, by omega, by omega, rfl, h4.mono (by omega)⟩

def ABool (R : World → Prop) (e : Ending) (w' : World) : Prop := ∃ x : Bool, e = .returned (.bool x) ∧ R w'

theorem one_c (w0 w : World) (cv : Value) (bs : List UInt8) (g K : Nat) (L : List Ent) (n : Int) (hb : RdB w0 cv bs) (h : Src w0 w cv g K L) (hK : K < 1000000000000) :
    Calls Try.prog 64 #[.pointer (some ⟨g, 0, none⟩), .int .i64 n] w (ABool fun w' => Src w0 w' cv g (K + 2) L) := by
  go_enter Try.func64, Try.ntmps64
  go_wp2_with fail
  refine (pick_c w0 w cv bs g K L n hb h hK).mono ?_
  rintro e w1 ⟨x, hx0, hx1, rfl, h3⟩
  go_wp2_with fail
  go_ret
  exact ⟨_, rfl, h3⟩

theorem l00From_c (w : World) (cv : Value) (bs : List UInt8) (hb : RdB w cv bs) :
    Calls Try.prog 25 #[cv] w fun e w' => e = .returned (.pointer (some ⟨w.heap.size, 0, none⟩)) ∧ Src w w' cv w.heap.size 0 [] := by
  obtain ⟨av, n, c, rfl⟩ := hb.sh
  go_enter Try.func25, Try.ntmps25
  go_wp2_with fail
  go_ret
  exact ⟨rfl, 0, 0, by omega, by omega, (St.refl w).newbox _ _⟩
end Go.Proofs.Ytdlmohigkkdegaa
end

section
/- Walks: what the laws on numbers draw. -/
namespace Go.Proofs.Ytdlmohigkkdegaa
set_option linter.unusedSimpArgs false
set_option linter.unusedVariables false
open Go.RowKit

theorem Src.lit {w0 w : World} {cv : Value} {g K : Nat} {L : List Ent} (h : Src w0 w cv g K L) (xs : List Int) (hm : xs.length ≤ 1000) :
    Src w0 (w.alloc (.cells (iv xs).toArray 2)) cv g K (row 2 (.slice (some ⟨w.heap.size, 0, none⟩) xs.length xs.length) (iv xs) :: L) := by
  obtain ⟨p, s, h0, h1, hS⟩ := h
  refine ⟨p, s, h0, h1, ?_⟩
  have h2 := hS.new 2 (iv xs).toArray (by simp [iv_len]; unfold maxLen; omega)
  simp only [List.size_toArray, iv_len] at h2
  refine h2.perm ?_
  refine List.Perm.trans (List.perm_append_comm) ?_
  simp only [List.cons_append, List.nil_append]
  exact List.Perm.swap _ _ _

end Go.Proofs.Ytdlmohigkkdegaa
end

section
/- The source of choices: what lies beside it. -/
namespace Go.Proofs.Ytdlmohigkkdegaa
set_option linter.unusedSimpArgs false
set_option linter.unusedVariables false
open Go.RowKit

theorem Src.call {w0 w w' : World} {cv : Value} {g K : Nat} {L L' : List Ent} (h : Src w0 w cv g K L) (h' : St w.heap.size w w' L') : Src w0 w' cv g K (L ++ L') := by
  obtain ⟨p, s, h0, h1, hS⟩ := h
  exact ⟨p, s, h0, h1, hS.call h'⟩
theorem Src.sub {w0 w : World} {cv : Value} {g K : Nat} {L L' : List Ent} (h : Src w0 w cv g K L) (h' : L'.Sublist L) : Src w0 w cv g K L' := by
  obtain ⟨p, s, h0, h1, hS⟩ := h
  exact ⟨p, s, h0, h1, hS.sub (h'.cons_cons _)⟩
theorem Src.rdI {w0 w : World} {cv : Value} {g K : Nat} {L : List Ent} (h : Src w0 w cv g K L) (i : Nat) {e : TypeId} {v : Value} {xs : List Int} (hi : L[i]? = some (row e v (iv xs))) : RdI w v xs := by
  obtain ⟨p, s, h0, h1, hS⟩ := h
  exact hS.rdI (i + 1) hi

theorem St.emp0 {w : World} : St w.heap.size w (w.alloc (.cells #[] 2)) [row 2 (.slice (some ⟨w.heap.size, 0, none⟩) 0 0) (iv [])] :=
  (St.refl w).new 2 #[] (by simp)

theorem Src.perm {w0 w : World} {cv : Value} {g K : Nat} {L L' : List Ent} (h : Src w0 w cv g K L) (h' : L.Perm L') : Src w0 w cv g K L' := by
  obtain ⟨p, s, h0, h1, hS⟩ := h
  exact ⟨p, s, h0, h1, hS.perm (h'.cons _)⟩
theorem Src.call0 {w0 w w' : World} {cv : Value} {g K : Nat} {L : List Ent} (h : Src w0 w cv g K L) (h' : St w.heap.size w w' []) : Src w0 w' cv g K L := by
  have := h.call h'; rwa [List.append_nil] at this
theorem Src.rd {w0 w : World} {cv : Value} {g K : Nat} {L : List Ent} (h : Src w0 w cv g K L) (i : Nat) {e : TypeId} {v : Value} {us : List Value} (hi : L[i]? = some (row e v us)) : Rd w v us := by
  obtain ⟨p, s, h0, h1, hS⟩ := h
  exact hS.rd (i + 1) hi
theorem Src.box {w0 w : World} {cv : Value} {g K : Nat} {L : List Ent} (h : Src w0 w cv g K L) (i : Nat) {e : TypeId} {gf : Nat} {us : List Value} (hi : L[i]? = some (Go.Proofs.Ytdlmohigkkdegaa.box e gf us)) (j : Nat) {u : Value} (hj : us[j]? = some u) : w.cell? ⟨gf, j, none⟩ = some u := by
  obtain ⟨p, s, h0, h1, hS⟩ := h
  exact hS.bcell (i + 1) hi j hj
theorem Src.bfree {w0 w : World} {cv : Value} {g K : Nat} {L : List Ent} (h : Src w0 w cv g K L) (i : Nat) {e : TypeId} {gf : Nat} {us : List Value} (hi : L[i]? = some (Go.Proofs.Ytdlmohigkkdegaa.box e gf us)) (j : Nat) : w.frozen? ⟨gf, j, none⟩ = false := by
  obtain ⟨p, s, h0, h1, hS⟩ := h
  exact hS.bfree (i + 1) hi j
theorem Src.bstore {w0 w : World} {cv : Value} {g K : Nat} {L : List Ent} (h : Src w0 w cv g K L) (i : Nat) {e : TypeId} {gf : Nat} {us : List Value} (hi : L[i]? = some (Go.Proofs.Ytdlmohigkkdegaa.box e gf us)) (j : Nat) (u : Value) :
    Src w0 (w.setCell ⟨gf, j, none⟩ u) cv g K (L.set i (Go.Proofs.Ytdlmohigkkdegaa.box e gf (us.set j u))) := by
  obtain ⟨p, s, h0, h1, hS⟩ := h
  exact ⟨p, s, h0, h1, hS.bstore (i + 1) hi j u⟩
/-- a new block behind a pointer, ahead of the others -/
theorem Src.newboxF {w0 w : World} {cv : Value} {g K : Nat} {L : List Ent} (h : Src w0 w cv g K L) (e : TypeId) (cs : Array Value) : Src w0 (w.alloc (.cells cs e)) cv g K (Go.Proofs.Ytdlmohigkkdegaa.box e w.heap.size cs.toList :: L) := by
  obtain ⟨p, s, h0, h1, hS⟩ := h
  exact ⟨p, s, h0, h1, (hS.newboxF e cs).perm (List.Perm.swap _ _ _)⟩
theorem Src.drew {w0 w : World} {cv : Value} {g K : Nat} {L : List Ent} (h : Src w0 w cv g K L) : Src w0 w.drew cv g K L := by
  obtain ⟨p, s, h0, h1, hS⟩ := h
  exact ⟨p, s, h0, h1, hS.drew⟩
theorem at_app {M L : List Ent} {i : Nat} {x : Ent} (h : L[i]? = some x) : (M ++ L)[M.length + i]? = some x := by
  rw [List.getElem?_append_right (by omega), Nat.add_sub_cancel_left]; exact h
theorem at_cons {L : List Ent} {i : Nat} {x y : Ent} (h : L[i]? = some x) : (y :: L)[i + 1]? = some x := by
  rw [List.getElem?_cons_succ]; exact h
theorem Src.riiS {w0 w : World} {cv : Value} {g K : Nat} {L : List Ent} (h : Src w0 w cv g K L) {v : Value} {us : List Value} {A : List (List Int)} (hs : (own2 v us A).Sublist L) (hl : us.length = A.length) : RII w v us A := (h.st.sub hs).rii hl
end Go.Proofs.Ytdlmohigkkdegaa
end

section
/- Walks: valid permutations of both sides; permutations that the laws make. -/
namespace Go.Proofs.Ytdlmohigkkdegaa
set_option linter.unusedSimpArgs false
set_option linter.unusedVariables false
open Go.RowKit
attribute [local go_sem ↓] Go.wp_at_zero Go.wp_at_succ

set_option maxHeartbeats 2000000 in
set_option maxRecDepth 100000 in
theorem ValidPermutation_c (v : Value) (xs : List Int) (w : World) (hv : RdI w v xs) (hN : xs.length ≤ 1048576) : Calls Try.prog 75 #[v] w (GivesB w (pvB xs)) := by
  have hlx := hv.len
  have HP := Lib.hid (show IsP xs ↔ ∀ j, j < xs.length → nth (srt xs) j = j from isP_iff)
  have Hl := Lib.hid (srt_len xs)
  have HS := fun {B : Nat} {w0 w : World} {L : List Ent} (hS : St B w0 w L) (i : Nat) {v : Value} (hi : L[i]? = some (row 2 v (iv xs))) => Lib.hid (Sort_c hS i hi (by omega))
  generalize srt xs = ys at *
  go_enter Try.func75, Try.ntmps75
  go_wp2_with fail
  refine (Clone_c v xs w hv hN).mono ?_
  rintro e w1 ⟨u, rfl, h1⟩
  go_wp2_with fail
  refine (HS h1 0 rfl).out.mono ?_
  rintro e w2 ⟨rfl, hS⟩
  simp only [List.set_cons_zero] at hS
  have hln := (hS.rdI 0 rfl).len
  have hix := (hS.rdI 0 rfl).ix
  rw [Hl.out] at hln hix
  clear HS h1
  go_wp2_with fail
  go_loopw [4, 5, 12] (fun _ _ x wr => ∃ k : Nat, k ≤ xs.length ∧ x = .int .i64 k ∧ Hid (∀ j, j < k → nth ys j = j) ∧ St w.heap.size w wr [row 2 u (iv ys)]) (fun _ _ x _ => xs.length - (intOf x).toNat)
  case atStart => exact ⟨0, by omega, rfl, fun j hj => by omega, hS⟩
  case round =>
    clear hS
    obtain ⟨k, hk, rfl, hI, hS⟩ := hrel
    by_cases hlt : k < xs.length
    · have hc := (hS.rdI 0 rfl).cell k (by rw [Hl.out]; exact hlt)
      by_cases h1 : nth ys k = k
      · have e1 := ne_f h1
        have H1 := Lib.hid h1
        clear h1
        go_wp2_with fail
        go_roundw
        case rel => exact ⟨k + 1, by omega, by go_num, fun j hj => by
          by_cases e : j = k
          · subst e; exact H1.out
          · exact hI.out j (by omega), hS⟩
        case measure => simp [intOf]; omega
      · have e1 := ne_t h1
        have H1 := Lib.hid h1
        clear h1
        go_wp2_with fail
        go_ret
        exact ⟨ret_bool (pvB_no fun h => H1.out (HP.out.1 h.2 k hlt)).symm, hS.out⟩
    · go_wp2_with fail
      go_ret
      have hp : IsP xs := HP.out.2 fun j hj => hI.out j (by omega)
      refine ⟨ret_bool ?_, hS.out⟩
      by_cases h32 : xs.length ≤ 32
      · rw [pvB_yes h32 hp]; simp; omega
      · rw [pvB_no fun h => h32 h.1]; simp; omega

set_option maxHeartbeats 2000000 in
set_option maxRecDepth 100000 in
theorem l04Ok_c (v : Value) (xs : List Int) (w : World) (hv : RdI w v xs) : Calls Try.prog 57 #[v] w (GivesB w (pvB xs)) := by
  have hln := hv.len
  have hix := hv.ix
  have hle := hv.le
  have HP := Lib.hid (isP_iff2 (xs := xs))
  by_cases h32 : 32 < xs.length
  · have H := Lib.hid (pvB_no (xs := xs) fun h => by omega)
    go_enter Try.func57, Try.ntmps57
    go_wp2_with fail
    go_ret
    exact ⟨ret_bool H.out.symm, St.refl w⟩
  · go_enter Try.func57, Try.ntmps57
    go_wp2_with fail
    go_loopw [3] (fun x wr => ∃ k : Nat, k ≤ xs.length ∧ x = .int .i64 k ∧ Hid (∀ j, j < k → (0 ≤ nth xs j ∧ nth xs j ≤ xs.length - 1) ∧ nth xs j ∉ xs.take j) ∧ St w.heap.size w wr []) (fun x _ => xs.length - (intOf x).toNat)
    case atStart => exact ⟨0, by omega, rfl, fun j hj => by omega, St.refl w⟩
    case round =>
      obtain ⟨k, hk, rfl, hI, hS⟩ := hrel
      by_cases hlt : k < xs.length
      · have hq := fun s : SS w.heap.size w [] => (s.st.oldI hv).cell k hlt
        have hsl := rsl_hi hv k (by omega)
        by_cases h1 : 0 ≤ nth xs k ∧ nth xs k ≤ (xs.length : Int) - 1
        · have i1 := inB_true h1
          have H1 := Lib.hid h1
          clear h1
          by_cases h2 : nth xs k ∈ xs.take k
          · have i2 : decide (nth xs k ∈ List.drop 0 (xs.take k)) = true := decide_eq_true h2
            have H2 := Lib.hid h2
            clear h2
            have hHas := fun W (h : St w.heap.size w W []) => Lib.hid (l00Has_c (rsl v 0 k) _ (nth xs k) W (rsl_rd (h.oldI hv) (Nat.zero_le k) hk))
            rw [i2] at hHas
            go_wp2_with fail
            have hne : Nonempty (SS _ _ _) := ⟨⟨_, hS⟩⟩
            refine wp_region_st (by kernel_rfl) (by kernel_rfl) hS ?_
            repeat (go_big_quiet_step ((first | (go_at_call 44; exact st_quiet0 (l00In_c _ _ _ _)) | (go_at_call 93; exact st_quiet0 (hHas _ (SS.st _)).out))))
            refine wpQuiet_nil ?_
            rintro _ ⟨s2, rfl⟩
            have hS2 := s2.st
            generalize s2.w = w2 at hS2 ⊢
            go_wp2_with fail
            go_ret
            exact ⟨ret_bool (pvB_no fun h => (HP.out.1 h.2 k hlt).2 H2.out).symm, hS2⟩
          · have i2 : decide (nth xs k ∈ List.drop 0 (xs.take k)) = false := decide_eq_false h2
            have H2 := Lib.hid h2
            clear h2
            have hHas := fun W (h : St w.heap.size w W []) => Lib.hid (l00Has_c (rsl v 0 k) _ (nth xs k) W (rsl_rd (h.oldI hv) (Nat.zero_le k) hk))
            rw [i2] at hHas
            go_wp2_with fail
            have hne : Nonempty (SS _ _ _) := ⟨⟨_, hS⟩⟩
            refine wp_region_st (by kernel_rfl) (by kernel_rfl) hS ?_
            repeat (go_big_quiet_step ((first | (go_at_call 44; exact st_quiet0 (l00In_c _ _ _ _)) | (go_at_call 93; exact st_quiet0 (hHas _ (SS.st _)).out))))
            refine wpQuiet_nil ?_
            rintro _ ⟨s2, rfl⟩
            have hS2 := s2.st
            generalize s2.w = w2 at hS2 ⊢
            go_wp2_with fail
            go_roundw
            case rel => exact ⟨k + 1, by omega, by go_num, fun j hj => by
              by_cases e : j = k
              · subst e; exact ⟨H1.out, H2.out⟩
              · exact hI.out j (by omega), hS2⟩
            case measure => simp [intOf]; omega
        · have i1 := inB_false h1
          have H1 := Lib.hid h1
          clear h1
          go_wp2_with fail
          have hne : Nonempty (SS _ _ _) := ⟨⟨_, hS⟩⟩
          refine wp_region_st (by kernel_rfl) (by kernel_rfl) hS ?_
          repeat (go_big_quiet_step ((go_at_call 44; exact st_quiet0 (l00In_c _ _ _ _))))
          refine wpQuiet_nil ?_
          rintro _ ⟨s2, rfl⟩
          have hS2 := s2.st
          generalize s2.w = w2 at hS2 ⊢
          go_wp2_with fail
          go_ret
          exact ⟨ret_bool (pvB_no fun h => H1.out (HP.out.1 h.2 k hlt).1).symm, hS2⟩
      · go_wp2_with fail
        go_ret
        exact ⟨ret_bool (pvB_yes (by omega) (HP.out.2 fun j hj => hI.out j (by omega))).symm, hS⟩
end Go.Proofs.Ytdlmohigkkdegaa
end

section
/- Walks: permutations that are made and drawn; composition, inverses. Walks: composition and inverses of permutations. -/
namespace Go.Proofs.Ytdlmohigkkdegaa
set_option linter.unusedSimpArgs false
set_option linter.unusedVariables false
open Go.RowKit
attribute [local go_sem ↓] Go.wp_at_zero Go.wp_at_succ


set_option maxHeartbeats 1000000 in
set_option maxRecDepth 100000 in
theorem l04One_c (n : Nat) (w : World) (hn : n ≤ 1000) : Calls Try.prog 68 #[.int .i64 n] w (MakesI w (iot n)) := by
  have hS0 : St w.heap.size w (w.alloc (.cells #[] 2)) [row 2 (.slice (some ⟨w.heap.size, 0, none⟩) 0 0) (iv [])] := (St.refl w).new 2 #[] (by simp)
  go_enter Try.func68, Try.ntmps68
  go_wp2_with fail
  go_loopw [3, 4] (fun o x wr => ∃ k : Nat, k ≤ n ∧ x = .int .i64 k ∧ St w.heap.size w wr [row 2 o (iv (iot k))]) (fun _ x _ => n - (intOf x).toNat)
  case atStart => exact ⟨0, by omega, rfl, hS0⟩
  case round =>
    obtain ⟨k, hk, rfl, hS⟩ := hrel
    have hkl := iot_len k
    by_cases hlt : k < n
    · go_wp2_with (at_builtin; refine appI hS 0 rfl (by omega) rfl _ _ rfl rfl _ rfl ?_; intro v2 w2 hS2)
      go_roundw
      case rel => exact ⟨k + 1, by omega, by go_num, by rw [iot_succ]; exact hS2⟩
      case measure => simp [intOf]; omega
    · obtain rfl : k = n := by omega
      go_wp2_with fail
      go_ret
      exact ⟨_, rfl, hS⟩
/-- a permutation of n numbers, and the source goes on -/
def PermS (w0 : World) (cv : Value) (g K n : Nat) (L : List Ent) (e : Ending) (w' : World) : Prop := ∃ v xs, e = .returned v ∧ xs.length = n ∧ IsP xs ∧ Src w0 w' cv g K (row 2 v (iv xs) :: L)
set_option maxHeartbeats 2000000 in
set_option maxRecDepth 100000 in
theorem l04DrawPerm_c (w0 w : World) (cv : Value) (bs : List UInt8) (g K : Nat) (L : List Ent) (n : Nat) (hb : RdB w0 cv bs) (h : Src w0 w cv g K L) (hK : K < 100000000000) (hn : n ≤ 1000) :
    Calls Try.prog 28 #[.pointer (some ⟨g, 0, none⟩), .int .i64 n] w (PermS w0 cv g (K + 2 * n) n L) := by
  go_enter Try.func28, Try.ntmps28
  go_wp2_with fail
  refine (l04One_c n w hn).mono ?_
  rintro e w1 ⟨u, rfl, h1⟩
  have h2 := (h.call h1).perm List.perm_append_comm
  simp only [List.cons_append, List.nil_append] at h2
  clear h h1
  go_wp2_with fail
  go_loopw [6, 7, 8] (fun x _ _ wr => ∃ (j : Nat) (xs : List Int), j ≤ n ∧ x = .int .i64 ((j : Int) - 1) ∧ Hid (xs.length = n) ∧ Hid (IsP xs) ∧ Src w0 wr cv g (K + 2 * (n - j)) (row 2 u (iv xs) :: L)) (fun x _ _ _ => (intOf x).toNat)
  case atStart => exact ⟨n, iot n, by omega, by go_num, iot_len n, iot_isP n, h2.mono (by omega)⟩
  case round =>
    clear h2
    obtain ⟨j, xs, hj, rfl, hl, hp, hs⟩ := hrel
    by_cases h2 : 2 ≤ j
    · go_wp2_with fail
      refine (pick_c w0 wr cv bs g _ _ _ hb hs (by omega)).mono ?_
      rintro e w2 ⟨x, x0, x1, rfl, h3⟩
      obtain ⟨y, rfl⟩ := Int.eq_ofNat_of_zero_le x0
      have hyj : y < j := by omega
      have hyk : y < n := by omega
      have hr := h3.rdI 0 rfl
      have hi1 := hr.ixe ((j : Int) - 1) (j - 1) (by omega) (by rw [hl.out]; omega)
      have hi2 := hr.ixe (y : Int) y rfl (by rw [hl.out]; omega)
      have hc1 := hr.cell (j - 1) (by rw [hl.out]; omega)
      have hc2 := hr.cell y (by rw [hl.out]; omega)
      have Hsw := Lib.hid (hp.out.swp (i := j - 1) (k := y) (by rw [hl.out]; omega) (by rw [hl.out]; omega))
      obtain ⟨pp, ss, s0, s1, hS⟩ := h3
      clear hr x1 x0 hs
      go_wp2_with (first
        | (refine stoI hS2 1 rfl y (by rw [List.length_set, hl.out]; exact hyk) rfl _ _ rfl rfl _ rfl ?_; intro w3 hS3)
        | (refine stoI hS 1 rfl (j - 1) (by rw [hl.out]; omega) rfl _ _ rfl rfl _ rfl ?_; intro w2 hS2))
      go_roundw
      case rel => exact ⟨j - 1, swp2 xs (j - 1) y, by omega, by go_num, by unfold Hid; rw [swp2_len]; exact hl.out, Hsw.out, pp, ss, s0, by omega, hS3⟩
      case measure => simp [intOf]; omega
    · go_wp2_with fail
      go_ret
      exact ⟨_, xs, rfl, hl.out, hp.out, hs.mono (by omega)⟩
set_option maxHeartbeats 2000000 in
set_option maxRecDepth 100000 in
theorem compose_c (v u : Value) (xs ys : List Int) (w : World) (hv : RdI w v xs) (hu : RdI w u ys) (hp : IsP xs) (hl : xs.length = ys.length) (hN : xs.length ≤ 1000) :
    Calls Try.prog 55 #[v, u] w (MakesI w (cmpL xs ys)) := by
  have hlx := hv.len
  have hix := hv.ix
  have hiu := hu.ix
  have HP := Lib.hid hp
  have Hl := Lib.hid hl
  rw [← hl] at hiu
  clear hp hl
  go_enter Try.func55, Try.ntmps55
  go_wp2_with (at_make; refine mkI (St.refl w) rfl _ _ rfl _ _ xs.length rfl rfl (by omega) ?_; intro r w1 hS1; have hr := hS1.rdI 0 rfl; have hln := hr.len; have hir := hr.ix; simp only [List.length_replicate] at hln hir; clear hr)
  go_loopw [6, 12] (fun _ x wr => ∃ (k : Nat) (zs : List Int), k ≤ xs.length ∧ x = .int .i64 k ∧ Hid (zs.length = xs.length) ∧ Hid (∀ j, j < k → nth zs j = nth ys (pf xs j)) ∧ St w.heap.size w wr [row 2 r (iv zs)]) (fun _ x _ => xs.length - (intOf x).toNat)
  case atStart => exact ⟨0, _, by omega, rfl, by unfold Hid; simp, fun j hj => by omega, hS1⟩
  case round =>
    clear hS1
    obtain ⟨k, zs, hk, rfl, hz, hI, hS⟩ := hrel
    by_cases hlt : k < xs.length
    · have hck := (hS.oldI hv).cell k hlt
      have hpk := nth_pf HP.out hlt
      have hpl := HP.out.pf_lt hlt
      have hcu := (hS.oldI hu).cell (pf xs k) (by rw [← Hl.out]; exact hpl)
      rw [hpk] at hck
      clear hpk
      go_wp2_with (refine stoI hS 0 rfl k (by rw [hz.out]; exact hlt) rfl _ _ rfl rfl _ rfl ?_; intro w2 hS2)
      go_roundw
      case rel => exact ⟨k + 1, zs.set k (nth ys (pf xs k)), by omega, by go_num, by unfold Hid; rw [List.length_set]; exact hz.out, fun j hj => by
        rw [nth_set (by rw [hz.out]; exact hlt)]
        by_cases e : k = j
        · subst e; rw [if_pos rfl]
        · rw [if_neg e]; exact hI.out j (by omega), hS2⟩
      case measure => simp [intOf]; omega
    · obtain rfl : k = xs.length := by omega
      have he : zs = cmpL xs ys := nth_ext (by rw [cmpL_len]; exact hz.out) fun j hj => by rw [hz.out] at hj; rw [hI.out j hj, nth_cmpL hj]
      have He := Lib.hid he
      clear he
      go_wp2_with fail
      go_ret
      exact ⟨_, rfl, by rw [← He.out]; exact hS⟩
set_option maxHeartbeats 2000000 in
set_option maxRecDepth 100000 in
theorem inverse_c (v : Value) (xs : List Int) (w : World) (hv : RdI w v xs) (hp : IsP xs) (hN : xs.length ≤ 1000) :
    Calls Try.prog 56 #[v] w (MakesI w (invL xs)) := by
  have hlx := hv.len
  have hix := hv.ix
  have HP := Lib.hid hp
  have HI := Lib.hid (show invL xs = invQ xs xs.length from rfl)
  clear hp
  go_enter Try.func56, Try.ntmps56
  go_wp2_with (at_make; refine mkI (St.refl w) rfl _ _ rfl _ _ xs.length rfl rfl (by omega) ?_; intro r w1 hS1; have hr := hS1.rdI 0 rfl; have hir := hr.ix; simp only [List.length_replicate] at hir; clear hr)
  go_loopw [4, 5, 11] (fun _ _ x wr => ∃ k : Nat, k ≤ xs.length ∧ x = .int .i64 k ∧ St w.heap.size w wr [row 2 r (iv (invQ xs k))]) (fun _ _ x _ => xs.length - (intOf x).toNat)
  case atStart => exact ⟨0, by omega, rfl, hS1⟩
  case round =>
    clear hS1
    obtain ⟨k, hk, rfl, hS⟩ := hrel
    by_cases hlt : k < xs.length
    · have hck := (hS.oldI hv).cell k hlt
      have hpk := nth_pf HP.out hlt
      have hpl := HP.out.pf_lt hlt
      have hlk := invQ_len xs k
      rw [hpk] at hck
      clear hpk
      have HlK := Lib.hid hlk
      clear hlk
      go_wp2_with (refine stoI hS 0 rfl (pf xs k) (by rw [HlK.out]; exact hpl) rfl _ _ rfl rfl _ rfl ?_; intro w2 hS2)
      go_roundw
      case rel => exact ⟨k + 1, by omega, by go_num, hS2⟩
      case measure => simp [intOf]; omega
    · obtain rfl : k = xs.length := by omega
      go_wp2_with fail
      go_ret
      exact ⟨_, rfl, by rw [HI.out]; exact hS⟩
end Go.Proofs.Ytdlmohigkkdegaa
end

section
/- Walks: squares that the reference makes (their entries are below n). Walks: squares that the reference draws. -/
namespace Go.Proofs.Ytdlmohigkkdegaa
set_option linter.unusedSimpArgs false
set_option linter.unusedVariables false
open Go.RowKit
attribute [local go_sem ↓] Go.wp_at_zero Go.wp_at_succ


/-- the entry of a product -/
theorem prod_lt {n m x y a b : Nat} (ha : a < n) (hb : b < m) : m * a + b < n * m := by
  have h1 : m * a + m ≤ m * n := by rw [← Nat.mul_succ]; exact Nat.mul_le_mul_left _ (by omega)
  rw [Nat.mul_comm n m]; omega
end Go.Proofs.Ytdlmohigkkdegaa
end

section
/- Latin squares: where two rows are exchanged along a closed cycle of columns, the square stays Latin; cyclic squares and products of squares are Latin. In plain terms. -/
namespace Go.Proofs.Ytdlmohigkkdegaa
set_option linter.unusedSimpArgs false
set_option linter.unusedVariables false
/-- a square is Latin if no row and no column holds a symbol twice -/
theorem Lat.of {n : Nat} {S : List (List Int)} (h : Sq0 n S) (n1 : 1 ≤ n) (n2 : n ≤ 10) (hr : ∀ x i j, x < n → i < n → j < n → at2 S x i = at2 S x j → i = j) (hc : ∀ y i j, y < n → i < n → j < n → at2 S i y = at2 S j y → i = j) : Lat S where
  pos := by rw [h.len]; exact n1
  le := by rw [h.len]; exact n2
  len x hx := by rw [h.len] at hx ⊢; exact h.row x hx
  row x hx := by
    rw [h.len] at hx
    have hl := h.row x hx
    exact ⟨fun j hj => by rw [hl] at hj ⊢; exact h.el x j hx hj, fun i j hi hj e => by rw [hl] at hi hj; exact hr x i j hx hi hj e⟩
  col y hy := by
    rw [h.len] at hy
    exact ⟨fun j hj => by rw [colL_len] at hj ⊢; rw [nth_colL hj]; rw [h.len] at hj ⊢; exact h.el j y hj hy, fun i j hi hj e => by
      rw [colL_len] at hi hj; rw [nth_colL hi, nth_colL hj] at e; rw [h.len] at hi hj; exact hc y i j hy hi hj e⟩
theorem Lat.rinj {A : List (List Int)} (h : Lat A) {x i j : Nat} (hx : x < A.length) (hi : i < A.length) (hj : j < A.length) (e : at2 A x i = at2 A x j) : i = j :=
  (h.row x hx).inj i j (by rw [h.len x hx]; exact hi) (by rw [h.len x hx]; exact hj) e
theorem Lat.cinj {A : List (List Int)} (h : Lat A) {y i j : Nat} (hy : y < A.length) (hi : i < A.length) (hj : j < A.length) (e : at2 A i y = at2 A j y) : i = j :=
  (h.col y hy).inj i j (by rw [colL_len]; exact hi) (by rw [colL_len]; exact hj) (by rw [nth_colL hi, nth_colL hj]; exact e)
theorem Lat.ronto {A : List (List Int)} (h : Lat A) {x : Nat} (hx : x < A.length) {s : Int} (h0 : 0 ≤ s) (h1 : s < A.length) : ∃ y, y < A.length ∧ at2 A x y = s := by
  have hp := h.row x hx
  have hl := h.len x hx
  obtain ⟨y, hy, e⟩ := hp.bij.onto (y := s.toNat) (by omega)
  refine ⟨y, by omega, ?_⟩
  have := nth_pf hp hy
  unfold at2; omega
/-! ### exchanging two rows along columns -/
/-- the rows x and z of A are exchanged at the columns T; y comes next -/
structure SwI (n : Nat) (A S : List (List Int)) (x z y : Nat) (f : Int) (T : List Nat) : Prop where
  sq : Sqr n S
  el : ∀ a b, a < n → b < n → at2 S a b = if b ∈ T then at2 A (if a = x then z else if a = z then x else a) b else at2 A a b
  nd : T.Nodup
  lt : ∀ t ∈ T, t < n
  yn : y ∉ T
  ylt : y < n
  c1 : ∀ t ∈ y :: T, at2 A x t = f ∨ ∃ u ∈ T, at2 A x t = at2 A z u
  c2 : ∀ u ∈ T, ∃ t ∈ y :: T, at2 A z u = at2 A x t
  c3 : ∃ t ∈ y :: T, at2 A x t = f
section
variable {n : Nat} {A S : List (List Int)} {x z y : Nat} {f : Int} {T : List Nat}
theorem SwI.start (hA : Sqr n A) (hy : y < n) : SwI n A A x z y (at2 A x y) [] where
  sq := hA
  el a b _ _ := by simp
  nd := List.nodup_nil
  lt t ht := by cases ht
  yn := by simp
  ylt := hy
  c1 t ht := by simp at ht; subst ht; exact .inl rfl
  c2 u hu := by cases hu
  c3 := ⟨y, by simp, rfl⟩
theorem length_le_of_nodup_lt {T : List Nat} {n : Nat} (h : T.Nodup) (hl : ∀ t ∈ T, t < n) : T.length ≤ n := by
  have := h.length_le_of_subset (l₂ := List.range n) (fun t ht => List.mem_range.2 (hl t ht))
  simpa using this
theorem SwI.len (h : SwI n A S x z y f T) : T.length < n := by
  have := length_le_of_nodup_lt (T := y :: T) (n := n) (List.nodup_cons.2 ⟨h.yn, h.nd⟩) (fun t ht => by
    rcases List.mem_cons.1 ht with rfl | ht
    · exact h.ylt
    · exact h.lt t ht)
  have h2 : T.length + 1 ≤ n := by simpa using this
  omega
theorem SwI.atx (h : SwI n A S x z y f T) (hx : x < n) : at2 S x y = at2 A x y := by rw [h.el x y hx h.ylt, if_neg h.yn]
theorem SwI.atz (h : SwI n A S x z y f T) (hz : z < n) : at2 S z y = at2 A z y := by rw [h.el z y hz h.ylt, if_neg h.yn]
/-- the entries behind the exchange at y -/
theorem SwI.put (h : SwI n A S x z y f T) (hx : x < n) (hz : z < n) (hxz : x ≠ z) :
    Sqr n (putS (putS S x y (at2 S z y)) z y (at2 S x y)) ∧ ∀ a b, a < n → b < n → at2 (putS (putS S x y (at2 S z y)) z y (at2 S x y)) a b = if b ∈ y :: T then at2 A (if a = x then z else if a = z then x else a) b else at2 A a b := by
  have q1 := putS_sqr h.sq hx y (at2 S z y)
  refine ⟨putS_sqr q1 hz y _, fun a b ha hb => ?_⟩
  rw [at2_putS q1 hz h.ylt, at2_putS h.sq hx h.ylt, h.atx hx, h.atz hz]
  by_cases e1 : z = a ∧ y = b
  · obtain ⟨rfl, rfl⟩ := e1
    rw [if_pos ⟨rfl, rfl⟩, if_pos (show y ∈ y :: T by simp), if_neg (fun e => hxz e.symm), if_pos rfl]
  · rw [if_neg e1]
    by_cases e2 : x = a ∧ y = b
    · obtain ⟨rfl, rfl⟩ := e2
      rw [if_pos ⟨rfl, rfl⟩, if_pos (show y ∈ y :: T by simp), if_pos rfl]
    · rw [if_neg e2, h.el a b ha hb]
      by_cases e3 : y = b
      · subst e3
        rw [if_neg h.yn, if_pos (show y ∈ y :: T by simp), if_neg (fun e => e2 ⟨e.symm, rfl⟩), if_neg (fun e => e1 ⟨e.symm, rfl⟩)]
      · by_cases e4 : b ∈ T
        · rw [if_pos e4, if_pos (show b ∈ y :: T from List.mem_cons_of_mem _ e4)]
        · rw [if_neg e4, if_neg (show b ∉ y :: T from fun hm => by rcases List.mem_cons.1 hm with e | e; exact e3 e.symm; exact e4 e)]
/-- the cycle is closed: the square is Latin -/
theorem SwI.close (h : SwI n A S x z y f T) (hA : Lat A) (hn : A.length = n) (hx : x < n) (hz : z < n) (hxz : x ≠ z) (hf : at2 A z y = f) : Lat (putS (putS S x y (at2 S z y)) z y (at2 S x y)) := by
  obtain ⟨q, el⟩ := h.put hx hz hxz
  generalize putS (putS S x y (at2 S z y)) z y (at2 S x y) = S3 at q el
  subst hn
  have k1 : ∀ t ∈ y :: T, ∃ u ∈ y :: T, at2 A x t = at2 A z u := fun t ht => by
    rcases h.c1 t ht with e | ⟨u, hu, e⟩
    · exact ⟨y, by simp, by rw [e, hf]⟩
    · exact ⟨u, by simp [hu], e⟩
  have k2 : ∀ u ∈ y :: T, ∃ t ∈ y :: T, at2 A z u = at2 A x t := fun u hu => by
    rcases List.mem_cons.1 hu with rfl | hu
    · obtain ⟨t, ht, e⟩ := h.c3
      exact ⟨t, ht, by rw [e, hf]⟩
    · exact h.c2 u hu
  have hs : ∀ a, a < A.length → (if a = x then z else if a = z then x else a) < A.length := fun a ha => by
    split
    · exact hz
    · split
      · exact hx
      · exact ha
  have h0 := hA.sq0
  have q0 : Sq0 A.length S3 := ⟨q, fun a b ha hb => by
    rw [el a b ha hb]
    split
    · exact h0.el _ b (hs a ha) hb
    · exact h0.el a b ha hb⟩
  have hlt : ∀ t ∈ y :: T, t < A.length := fun t ht => by
    rcases List.mem_cons.1 ht with rfl | ht
    · exact h.ylt
    · exact h.lt t ht
  -- a row holds no symbol twice: the one place is exchanged, the other is not
  have mix : ∀ a i j, a < A.length → i < A.length → j < A.length → i ∈ y :: T → j ∉ y :: T → at2 A (if a = x then z else if a = z then x else a) i = at2 A a j → i = j := fun a i j ha hi hj hiT hjT e => by
    by_cases e1 : a = x
    · subst e1
      rw [if_pos rfl] at e
      obtain ⟨t, ht, e2⟩ := k2 i hiT
      have := hA.rinj ha (hlt t ht) hj (e2.symm.trans e)
      subst this; exact absurd ht hjT
    · rw [if_neg e1] at e
      by_cases e2 : a = z
      · subst e2
        rw [if_pos rfl] at e
        obtain ⟨u, hu, e3⟩ := k1 i hiT
        have := hA.rinj ha (hlt u hu) hj (e3.symm.trans e)
        subst this; exact absurd hu hjT
      · rw [if_neg e2] at e
        exact hA.rinj ha hi hj e
  refine Lat.of q0 hA.pos hA.le (fun a i j ha hi hj e => ?_) (fun b i j hb hi hj e => ?_)
  · rw [el a i ha hi, el a j ha hj] at e
    by_cases m1 : i ∈ y :: T
    · rw [if_pos m1] at e
      by_cases m2 : j ∈ y :: T
      · rw [if_pos m2] at e; exact hA.rinj (hs a ha) hi hj e
      · rw [if_neg m2] at e; exact mix a i j ha hi hj m1 m2 e
    · rw [if_neg m1] at e
      by_cases m2 : j ∈ y :: T
      · rw [if_pos m2] at e; exact (mix a j i ha hj hi m2 m1 e.symm).symm
      · rw [if_neg m2] at e; exact hA.rinj ha hi hj e
  · rw [el i b hi hb, el j b hj hb] at e
    by_cases m1 : b ∈ y :: T
    · rw [if_pos m1, if_pos m1] at e
      have := hA.cinj hb (hs i hi) (hs j hj) e
      split at this <;> split at this <;> (try split at this) <;> (try split at this) <;> omega
    · rw [if_neg m1, if_neg m1] at e; exact hA.cinj hb hi hj e
/-- the cycle goes on: the next column is the only one -/
theorem SwI.next (h : SwI n A S x z y f T) (hA : Lat A) (hn : A.length = n) (hx : x < n) (hz : z < n) (hxz : x ≠ z) (hf : at2 A z y ≠ f) :
    ∃ y', y' < n ∧ y' ≠ y ∧ at2 (putS (putS S x y (at2 S z y)) z y (at2 S x y)) x y' = at2 A z y ∧ (∀ i, i < n → i ≠ y → at2 (putS (putS S x y (at2 S z y)) z y (at2 S x y)) x i = at2 A z y → i = y') ∧
      SwI n A (putS (putS S x y (at2 S z y)) z y (at2 S x y)) x z y' f (y :: T) := by
  obtain ⟨q, el⟩ := h.put hx hz hxz
  generalize putS (putS S x y (at2 S z y)) z y (at2 S x y) = S3 at q el ⊢
  subst hn
  have h0 := hA.sq0
  obtain ⟨y', hy', e⟩ := hA.ronto hx (h0.el z y hz h.ylt).1 (h0.el z y hz h.ylt).2
  have hny : y' ≠ y := fun e2 => by subst e2; exact hxz (hA.cinj hy' hx hz e)
  have hnT : y' ∉ y :: T := fun hm => by
    rcases h.c1 y' hm with e2 | ⟨u, hu, e2⟩
    · exact hf (e.symm.trans e2)
    · have := hA.rinj hz (h.lt u hu) h.ylt (e2.symm.trans e)
      subst this; exact h.yn hu
  refine ⟨y', hy', hny, by rw [el x y' hx hy', if_neg hnT, e], fun i hi hiy e2 => ?_, ?_⟩
  · rw [el x i hx hi] at e2
    by_cases m : i ∈ y :: T
    · rw [if_pos m, if_pos rfl] at e2
      exact absurd (hA.rinj hz hi h.ylt e2) hiy
    · rw [if_neg m] at e2
      exact hA.rinj hx hi hy' (e2.trans e.symm)
  · refine ⟨q, el, List.nodup_cons.2 ⟨h.yn, h.nd⟩, fun t ht => ?_, hnT, hy', fun t ht => ?_, fun u hu => ?_, ?_⟩
    · rcases List.mem_cons.1 ht with rfl | ht
      · exact h.ylt
      · exact h.lt t ht
    · rcases List.mem_cons.1 ht with rfl | ht
      · exact .inr ⟨y, by simp, e⟩
      · rcases h.c1 t ht with e2 | ⟨u, hu, e2⟩
        · exact .inl e2
        · exact .inr ⟨u, by simp [hu], e2⟩
    · rcases List.mem_cons.1 hu with rfl | hu
      · exact ⟨y', by simp, e.symm⟩
      · obtain ⟨t, ht, e2⟩ := h.c2 u hu
        exact ⟨t, by simp only [List.mem_cons] at ht ⊢; exact .inr ht, e2⟩
    · obtain ⟨t, ht, e2⟩ := h.c3
      exact ⟨t, by simp only [List.mem_cons] at ht ⊢; exact .inr ht, e2⟩
end
/-! ### cyclic squares, products -/
theorem mod_inj {n x i j : Nat} (hi : i < n) (hj : j < n) (e : (x + i) % n = (x + j) % n) : i = j := by
  have h1 := Nat.div_add_mod (x + i) n
  have h2 := Nat.div_add_mod (x + j) n
  rw [e] at h1
  have h3 : n * ((x + i) / n) + j = n * ((x + j) / n) + i := by omega
  generalize (x + i) / n = a at *
  generalize (x + j) / n = b at *
  rcases Nat.lt_trichotomy a b with h | h | h
  · have : n * (a + 1) ≤ n * b := Nat.mul_le_mul_left n h
    rw [Nat.mul_add] at this; omega
  · subst h; omega
  · have : n * (b + 1) ≤ n * a := Nat.mul_le_mul_left n h
    rw [Nat.mul_add] at this; omega
/-- the cyclic square -/
def cycS (n : Nat) : List (List Int) := sqF n fun x y => (((x + y) % n : Nat) : Int)
theorem cycS_lat {n : Nat} (n1 : 1 ≤ n) (n2 : n ≤ 10) : Lat (cycS n) :=
  Lat.of ⟨sqF_sqr n _, fun x y hx hy => by unfold cycS; rw [at2_sqF hx hy]; have := Nat.mod_lt (x + y) (show 0 < n by omega); omega⟩ n1 n2
    (fun x i j hx hi hj e => by unfold cycS at e; rw [at2_sqF hx hi, at2_sqF hx hj] at e; exact mod_inj (x := x) hi hj (by omega))
    (fun y i j hy hi hj e => by unfold cycS at e; rw [at2_sqF hi hy, at2_sqF hj hy] at e; exact mod_inj (x := y) hi hj (by rw [Nat.add_comm y i, Nat.add_comm y j]; omega))
/-- the product of two squares -/
def prdS (n m : Nat) (A B : List (List Int)) : List (List Int) := sqF (n * m) fun x y => (m : Int) * at2 A (x / m) (y / m) + at2 B (x % m) (y % m)
theorem pair_inj {m : Nat} {a b c d : Int} (hb : 0 ≤ b ∧ b < m) (hd : 0 ≤ d ∧ d < m) (e : (m : Int) * a + b = m * c + d) : a = c ∧ b = d := by
  have : a = c := by
    rcases Int.lt_trichotomy a c with h | h | h
    · have : (m : Int) * (a + 1) ≤ m * c := Int.mul_le_mul_of_nonneg_left h (by omega)
      rw [Int.mul_add] at this; omega
    · exact h
    · have : (m : Int) * (c + 1) ≤ m * a := Int.mul_le_mul_of_nonneg_left h (by omega)
      rw [Int.mul_add] at this; omega
  subst this; exact ⟨rfl, by omega⟩
theorem prdS_lat {n m : Nat} {A B : List (List Int)} (hA : Lat A) (hB : Lat B) (ha : A.length = n) (hb : B.length = m) (hnm : n * m ≤ 10) : Lat (prdS n m A B) := by
  subst ha; subst hb
  generalize hn : A.length = n at *
  generalize hm : B.length = m at *
  have p1 : 1 ≤ n := by rw [← hn]; exact hA.pos
  have p2 : 1 ≤ m := by rw [← hm]; exact hB.pos
  have dv : ∀ x, x < n * m → x / m < n := fun x hx => Nat.div_lt_of_lt_mul (by rw [Nat.mul_comm]; exact hx)
  have md : ∀ x, x % m < m := fun x => Nat.mod_lt _ p2
  have a0 := hA.sq0
  have b0 := hB.sq0
  rw [hn] at a0
  rw [hm] at b0
  have back : ∀ i j : Nat, i / m = j / m → i % m = j % m → i = j := fun i j h1 h2 => by
    rw [← Nat.div_add_mod i m, ← Nat.div_add_mod j m, h1, h2]
  refine Lat.of (n := n * m) ⟨sqF_sqr _ _, fun x y hx hy => ?_⟩ (Nat.mul_pos p1 p2) hnm (fun x i j hx hi hj e => ?_) (fun y i j hy hi hj e => ?_)
  · unfold prdS; rw [at2_sqF hx hy]
    have h1 := a0.el _ _ (dv x hx) (dv y hy)
    have h2 := b0.el _ _ (md x) (md y)
    refine ⟨Int.add_nonneg (Int.mul_nonneg (by omega) h1.1) h2.1, ?_⟩
    have : (m : Int) * (at2 A (x / m) (y / m) + 1) ≤ m * n := Int.mul_le_mul_of_nonneg_left (by omega) (by omega)
    rw [Int.mul_add] at this
    rw [Int.natCast_mul, Int.mul_comm (n : Int)]
    omega
  · unfold prdS at e; rw [at2_sqF hx hi, at2_sqF hx hj] at e
    obtain ⟨e1, e2⟩ := pair_inj (b0.el _ _ (md x) (md i)) (b0.el _ _ (md x) (md j)) e
    exact back i j (hA.rinj (by rw [hn]; exact dv x hx) (by rw [hn]; exact dv i hi) (by rw [hn]; exact dv j hj) e1) (hB.rinj (by rw [hm]; exact md x) (by rw [hm]; exact md i) (by rw [hm]; exact md j) e2)
  · unfold prdS at e; rw [at2_sqF hi hy, at2_sqF hj hy] at e
    obtain ⟨e1, e2⟩ := pair_inj (b0.el _ _ (md i) (md y)) (b0.el _ _ (md j) (md y)) e
    exact back i j (hA.cinj (by rw [hn]; exact dv y hy) (by rw [hn]; exact dv i hi) (by rw [hn]; exact dv j hj) e1) (hB.cinj (by rw [hm]; exact md y) (by rw [hm]; exact md i) (by rw [hm]; exact md j) e2)
end Go.Proofs.Ytdlmohigkkdegaa
end
