/- Latin squares as lists of lists, their isotopes. In plain terms. -/
import Derived.Test.YtpfgbbbjldpnnaaPPm
import Derived.Test.YtpfgbbbjldpnnaaSq
namespace Go.Proofs.Ytpfgbbbjldpnnaa
set_option linter.unusedSimpArgs false
set_option linter.unusedVariables false
/-- the entry of a place -/
def at2 (A : List (List Int)) (x y : Nat) : Int := nth (xat A x) y
/-- a square of n rows and columns -/
structure Sqr (n : Nat) (A : List (List Int)) : Prop where
  len : A.length = n
  row : ∀ x, x < n → (xat A x).length = n
/-- its entries are below n -/
structure Sq0 (n : Nat) (A : List (List Int)) : Prop extends Sqr n A where
  el : ∀ x y, x < n → y < n → 0 ≤ at2 A x y ∧ at2 A x y < n
def colL (A : List (List Int)) (y : Nat) : List Int := A.map fun r => nth r y
theorem colL_len (A : List (List Int)) (y : Nat) : (colL A y).length = A.length := by simp [colL]
theorem nth_colL {A : List (List Int)} {y x : Nat} (h : x < A.length) : nth (colL A y) x = at2 A x y := by simp [colL, nth, at2, xat, h]
/-- a Latin square of at most 10 rows -/
structure Lat (A : List (List Int)) : Prop where
  pos : 1 ≤ A.length
  le : A.length ≤ 10
  len : ∀ x, x < A.length → (xat A x).length = A.length
  row : ∀ x, x < A.length → IsP (xat A x)
  col : ∀ y, y < A.length → IsP (colL A y)
open Classical in
noncomputable def latB (A : List (List Int)) : Bool := decide (Lat A)
theorem latB_t {A : List (List Int)} (h : latB A = true) : Lat A := by simpa [latB] using h
theorem latB_yes {A : List (List Int)} (h : Lat A) : latB A = true := by simp [latB, h]
theorem latB_no {A : List (List Int)} (h : ¬ Lat A) : latB A = false := by simp [latB, h]
theorem Lat.sq0 {A : List (List Int)} (h : Lat A) : Sq0 A.length A where
  len := rfl
  row := h.len
  el x y hx hy := by have := (h.row x hx).lt y (by rw [h.len x hx]; exact hy); rw [h.len x hx] at this; exact this
theorem sq_ext {n : Nat} {A B : List (List Int)} (hA : Sqr n A) (hB : Sqr n B) (h : ∀ x y, x < n → y < n → at2 A x y = at2 B x y) : A = B := by
  apply List.ext_getElem (hA.len.trans hB.len.symm)
  intro x h1 h2
  have hx : x < n := by rw [← hA.len]; exact h1
  have e1 : A[x] = xat A x := by simp [xat, h1]
  have e2 : B[x] = xat B x := by simp [xat, h2]
  rw [e1, e2]
  refine nth_ext (by rw [hA.row x hx, hB.row x hx]) fun y hy => h x y hx (by rw [← hA.row x hx]; exact hy)
theorem sq_ext2 {n : Nat} {A B : List (List Int)} {r c : List Int} (hr : IsP r) (hc : IsP c) (hrl : r.length = n) (hcl : c.length = n) (hA : Sqr n A) (hB : Sqr n B)
    (h : ∀ x y, x < n → y < n → at2 A (pf r x) (pf c y) = at2 B (pf r x) (pf c y)) : A = B := by
  refine sq_ext hA hB fun x y hx hy => ?_
  obtain ⟨x', hx', rfl⟩ := hr.bij.onto (y := x) (by omega)
  obtain ⟨y', hy', rfl⟩ := hc.bij.onto (y := y) (by omega)
  exact h x' y' (by omega) (by omega)
theorem at2_sqF {n : Nat} {f : Nat → Nat → Int} {x y : Nat} (hx : x < n) (hy : y < n) : at2 (sqF n f) x y = f x y := by
  unfold at2; rw [xat_sqF hx]; simp [tab, nth, hy]
theorem sqF_sqr (n : Nat) (f : Nat → Nat → Int) : Sqr n (sqF n f) := ⟨sqF_len n f, fun x hx => by rw [xat_sqF hx, tab_len]⟩
/-- one entry anew -/
def putS (S : List (List Int)) (x y : Nat) (v : Int) : List (List Int) := S.set x ((xat S x).set y v)
theorem xat_putS {n : Nat} {S : List (List Int)} (h : Sqr n S) {x : Nat} (hx : x < n) (y : Nat) (v : Int) (t : Nat) : xat (putS S x y v) t = if x = t then (xat S x).set y v else xat S t := by
  unfold putS xat
  rw [List.getD_eq_getElem?_getD, List.getElem?_set]
  split
  · rename_i e; subst e; rw [if_pos (by rw [h.len]; exact hx)]; rfl
  · simp
theorem putS_sqr {n : Nat} {S : List (List Int)} (h : Sqr n S) {x : Nat} (hx : x < n) (y : Nat) (v : Int) : Sqr n (putS S x y v) := by
  refine ⟨by unfold putS; rw [List.length_set]; exact h.len, fun t ht => ?_⟩
  rw [xat_putS h hx]
  split
  · rw [List.length_set]; exact h.row x hx
  · exact h.row t ht
theorem at2_putS {n : Nat} {S : List (List Int)} (h : Sqr n S) {x y : Nat} (hx : x < n) (hy : y < n) (v : Int) (t u : Nat) : at2 (putS S x y v) t u = if x = t ∧ y = u then v else at2 S t u := by
  unfold at2
  rw [xat_putS h hx]
  by_cases e : x = t
  · subst e
    rw [if_pos rfl, nth_set (by rw [h.row x hx]; exact hy)]
    by_cases e2 : y = u
    · rw [if_pos e2, if_pos ⟨rfl, e2⟩]
    · rw [if_neg e2, if_neg fun h => e2 h.2]
  · rw [if_neg e, if_neg fun h => e h.1]
theorem putS_sq0 {n : Nat} {S : List (List Int)} (h : Sq0 n S) {x y : Nat} (hx : x < n) (hy : y < n) {v : Int} (h0 : 0 ≤ v) (h1 : v < n) : Sq0 n (putS S x y v) := by
  refine ⟨putS_sqr h.toSqr hx y v, fun t u ht hu => ?_⟩
  rw [at2_putS h.toSqr hx hy]
  split
  · exact ⟨h0, h1⟩
  · exact h.el t u ht hu
/-! ### isotopes -/
def isoL (A : List (List Int)) (r c s : List Int) : List (List Int) := sqF A.length fun x y => nth s (at2 A (pf (invL r) x) (pf (invL c) y)).toNat
theorem pf_invL {xs : List Int} (h : IsP xs) {j : Nat} (hj : j < xs.length) : pf (invL xs) (pf xs j) = j := by unfold pf; rw [show nth (invL xs) (nth xs j).toNat = j from nth_invL h hj]; rfl
theorem isoL_sqr (A : List (List Int)) (r c s : List Int) : Sqr A.length (isoL A r c s) := sqF_sqr _ _
theorem isoL_at {A : List (List Int)} {r c s : List Int} (hr : IsP r) (hc : IsP c) (hrl : r.length = A.length) (hcl : c.length = A.length) {x y : Nat} (hx : x < A.length) (hy : y < A.length) :
    at2 (isoL A r c s) (pf r x) (pf c y) = nth s (at2 A x y).toNat := by
  have h1 : pf r x < A.length := by rw [← hrl]; exact hr.pf_lt (by omega)
  have h2 : pf c y < A.length := by rw [← hcl]; exact hc.pf_lt (by omega)
  unfold isoL
  rw [at2_sqF h1 h2, pf_invL hr (by omega), pf_invL hc (by omega)]
/-- the isotope, made as far as place y of row x -/
structure IsoP (A : List (List Int)) (r c s : List Int) (x y : Nat) (S : List (List Int)) : Prop where
  sqr : Sqr A.length S
  at' : ∀ x' y', x' < A.length → y' < A.length → (x' < x ∨ x' = x ∧ y' < y) → at2 S (pf r x') (pf c y') = nth s (at2 A x' y').toNat
section
variable {A : List (List Int)} {r c s : List Int}
theorem IsoP.start : IsoP A r c s 0 0 (sqF A.length fun _ _ => 0) := ⟨sqF_sqr _ _, fun _ _ _ _ h => by omega⟩
theorem IsoP.step (hr : IsP r) (hc : IsP c) (hrl : r.length = A.length) (hcl : c.length = A.length) {x y : Nat} {S : List (List Int)} (h : IsoP A r c s x y S) (hx : x < A.length) (hy : y < A.length) :
    IsoP A r c s x (y + 1) (putS S (pf r x) (pf c y) (nth s (at2 A x y).toNat)) := by
  have h1 : pf r x < A.length := by rw [← hrl]; exact hr.pf_lt (by omega)
  have h2 : pf c y < A.length := by rw [← hcl]; exact hc.pf_lt (by omega)
  refine ⟨putS_sqr h.sqr h1 _ _, fun x' y' hx' hy' hl => ?_⟩
  rw [at2_putS h.sqr h1 h2]
  split
  · rename_i e
    rw [hr.bij.inj x x' (by omega) (by omega) e.1, hc.bij.inj y y' (by omega) (by omega) e.2]
  · rename_i e
    refine h.at' x' y' hx' hy' ?_
    rcases hl with hl | ⟨rfl, hl⟩
    · exact .inl hl
    · refine .inr ⟨rfl, ?_⟩
      by_cases e2 : y' = y
      · subst e2; exact absurd ⟨rfl, rfl⟩ e
      · omega
theorem IsoP.next {x : Nat} {S : List (List Int)} (h : IsoP A r c s x A.length S) : IsoP A r c s (x + 1) 0 S :=
  ⟨h.sqr, fun x' y' hx' hy' hl => h.at' x' y' hx' hy' (by omega)⟩
theorem IsoP.done (hr : IsP r) (hc : IsP c) (hrl : r.length = A.length) (hcl : c.length = A.length) {S : List (List Int)} (h : IsoP A r c s A.length 0 S) : S = isoL A r c s :=
  sq_ext2 hr hc hrl hcl h.sqr (isoL_sqr A r c s) fun x y hx hy => by
    rw [h.at' x y hx hy (.inl hx), isoL_at hr hc hrl hcl hx hy]
theorem isoL_len (A : List (List Int)) (r c s : List Int) : (isoL A r c s).length = A.length := (isoL_sqr A r c s).len
theorem isoL_sq0 (hs : IsP s) (hr : IsP r) (hc : IsP c) (hrl : r.length = A.length) (hcl : c.length = A.length) (hsl : s.length = A.length) (h : Sq0 A.length A) : Sq0 A.length (isoL A r c s) := by
  refine ⟨isoL_sqr A r c s, fun x y hx hy => ?_⟩
  obtain ⟨x', hx', rfl⟩ := hr.bij.onto (y := x) (by omega)
  obtain ⟨y', hy', rfl⟩ := hc.bij.onto (y := y) (by omega)
  rw [isoL_at hr hc hrl hcl (by omega) (by omega)]
  have := h.el x' y' (by omega) (by omega)
  have := hs.lt (at2 A x' y').toNat (by omega)
  omega
/-- isotopes of isotopes -/
theorem isoL_comp {r' c' s' : List Int} (h : Sq0 A.length A) (hr : IsP r) (hc : IsP c) (hrl : r.length = A.length) (hcl : c.length = A.length) (hsl : s.length = A.length)
    (hr' : IsP r') (hc' : IsP c') (hrl' : r'.length = A.length) (hcl' : c'.length = A.length) :
    isoL (isoL A r c s) r' c' s' = isoL A (cmpL r r') (cmpL c c') (cmpL s s') := by
  have hb := isoL_len A r c s
  have h1 := hr.cmp hr' (by omega)
  have h2 := hc.cmp hc' (by omega)
  refine sq_ext2 h1 h2 (by rw [cmpL_len]; exact hrl) (by rw [cmpL_len]; exact hcl) (by rw [← hb]; exact isoL_sqr _ _ _ _) (isoL_sqr _ _ _ _) fun x y hx hy => ?_
  rw [isoL_at h1 h2 (by rw [cmpL_len]; exact hrl) (by rw [cmpL_len]; exact hcl) hx hy, pf_cmpL (by omega), pf_cmpL (by omega)]
  have e1 := hr.pf_lt (j := x) (by omega)
  have e2 := hc.pf_lt (j := y) (by omega)
  rw [isoL_at hr' hc' (by omega) (by omega) (by omega) (by omega), isoL_at hr hc hrl hcl hx hy]
  have := h.el x y hx hy
  rw [nth_cmpL (by omega)]
  rfl
/-- the inverse permutations lead back -/
theorem isoL_inv (h : Sq0 A.length A) (hr : IsP r) (hc : IsP c) (hs : IsP s) (hrl : r.length = A.length) (hcl : c.length = A.length) (hsl : s.length = A.length) :
    isoL (isoL A r c s) (invL r) (invL c) (invL s) = A := by
  rw [isoL_comp h hr hc hrl hcl hsl hr.inv hc.inv (by rw [invL_len]; exact hrl) (by rw [invL_len]; exact hcl), cmp_inv hr, cmp_inv hc, cmp_inv hs]
  refine sq_ext2 (iot_isP r.length) (iot_isP c.length) (by rw [iot_len]; exact hrl) (by rw [iot_len]; exact hcl) (isoL_sqr _ _ _ _) h.toSqr fun x y hx hy => ?_
  rw [isoL_at (iot_isP _) (iot_isP _) (by rw [iot_len]; exact hrl) (by rw [iot_len]; exact hcl) hx hy]
  have h3 := h.el x y hx hy
  have e1 : pf (iot r.length) x = x := by unfold pf; rw [nth_iot (by omega)]; rfl
  have e2 : pf (iot c.length) y = y := by unfold pf; rw [nth_iot (by omega)]; rfl
  rw [e1, e2, nth_iot (by omega)]
  omega
/-- isotopes of Latin squares are Latin squares -/
theorem Lat.iso (h : Lat A) (hr : IsP r) (hc : IsP c) (hs : IsP s) (hrl : r.length = A.length) (hcl : c.length = A.length) (hsl : s.length = A.length) : Lat (isoL A r c s) := by
  have h0 := h.sq0
  have hq := isoL_sqr A r c s
  have hz := isoL_sq0 hs hr hc hrl hcl hsl h0
  have hb := isoL_len A r c s
  have key : ∀ x y, x < A.length → y < A.length → at2 (isoL A r c s) (pf r x) (pf c y) = nth s (at2 A x y).toNat := fun x y hx hy => isoL_at hr hc hrl hcl hx hy
  have hsi : ∀ a b : Int, 0 ≤ a → a < A.length → 0 ≤ b → b < A.length → nth s a.toNat = nth s b.toNat → a = b := fun a b ha ha' hb hb' e => by
    have := hs.inj a.toNat b.toNat (by omega) (by omega) e; omega
  refine ⟨by rw [hb]; exact h.pos, by rw [hb]; exact h.le, fun x hx => by rw [hb] at hx ⊢; exact hq.row x hx, fun x hx => ?_, fun y hy => ?_⟩
  · rw [hb] at hx
    refine ⟨fun y hy => ?_, fun y z hy hz' e => ?_⟩
    · rw [hq.row x hx] at hy ⊢; exact hz.el x y hx hy
    · rw [hq.row x hx] at hy hz'
      obtain ⟨x', hx', rfl⟩ := hr.bij.onto (y := x) (by omega)
      obtain ⟨y', hy', rfl⟩ := hc.bij.onto (y := y) (by omega)
      obtain ⟨z', hz', rfl⟩ := hc.bij.onto (y := z) (by omega)
      have e' : at2 (isoL A r c s) (pf r x') (pf c y') = at2 (isoL A r c s) (pf r x') (pf c z') := e
      rw [key _ _ (by omega) (by omega), key _ _ (by omega) (by omega)] at e'
      have a1 := h0.el x' y' (by omega) (by omega)
      have a2 := h0.el x' z' (by omega) (by omega)
      rw [(h.row x' (by omega)).inj y' z' (by rw [h.len x' (by omega)]; omega) (by rw [h.len x' (by omega)]; omega) (hsi _ _ a1.1 a1.2 a2.1 a2.2 e')]
  · rw [hb] at hy
    refine ⟨fun x hx => ?_, fun x z hx hz' e => ?_⟩
    · rw [colL_len, hb] at hx ⊢; rw [nth_colL (by rw [hb]; exact hx)]; exact hz.el x y hx hy
    · rw [colL_len, hb] at hx hz'
      rw [nth_colL (by rw [hb]; exact hx), nth_colL (by rw [hb]; exact hz')] at e
      obtain ⟨x', hx', rfl⟩ := hr.bij.onto (y := x) (by omega)
      obtain ⟨y', hy', rfl⟩ := hc.bij.onto (y := y) (by omega)
      obtain ⟨z', hz', rfl⟩ := hr.bij.onto (y := z) (by omega)
      rw [key _ _ (by omega) (by omega), key _ _ (by omega) (by omega)] at e
      have a1 := h0.el x' y' (by omega) (by omega)
      have a2 := h0.el z' y' (by omega) (by omega)
      have e' := hsi _ _ a1.1 a1.2 a2.1 a2.2 e
      rw [← nth_colL (by omega), ← nth_colL (by omega)] at e'
      rw [(h.col y' (by omega)).inj x' z' (by rw [colL_len]; omega) (by rw [colL_len]; omega) e']
end
end Go.Proofs.Ytpfgbbbjldpnnaa
