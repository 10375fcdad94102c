/- Walks: the reference's operations on rows. Walks: the reference's row reduction. -/
import Derived.Test.YtpfgbbbjldpnnaaDot
import Derived.Test.YtpfgbbbjldpnnaaTimes
import Derived.Test.YtpfgbbbjldpnnaaPSpan
import Derived.Test.YtpfgbbbjldpnnaaRed
namespace Go.Proofs.Ytpfgbbbjldpnnaa
set_option linter.unusedSimpArgs false
set_option linter.unusedVariables false
open Go.RowKit
attribute [local go_sem ↓] Go.wp_at_zero Go.wp_at_succ


set_option maxHeartbeats 4000000 in
set_option maxRecDepth 100000 in
theorem l17Own_c (vM : Value) (uM : List Value) (m : List (List Int)) (w : World) (hM : RII w vM uM m) (hm : m.length ≤ 4096) (hr : ∀ r ∈ m, r.length ≤ 4096) :
    Calls Try.prog 130 #[vM] w (MakesII w m) := by
  have hlm := hM.len
  have Hr := Lib.hid hr
  clear hr
  have hS0 := (St.refl w).new 24 #[] (by simp)
  go_enter Try.func130, Try.ntmps130
  go_wp2_with fail
  go_loopw [3, 4] (fun o i wr => ∃ (k : Nat) (a : Option Addr) (c : Nat) (ws : List Value), k ≤ m.length ∧ i = .int .i64 k ∧ o = .slice a k c ∧ Hid (ws.length = k) ∧ St w.heap.size w wr (own2 (.slice a k c) ws (m.take k))) (fun _ i _ => m.length - (intOf i).toNat)
  case atStart => exact ⟨0, _, 0, [], by omega, rfl, rfl, rfl, hS0⟩
  case round =>
    obtain ⟨k, a, c, ws, hk, rfl, rfl, hw, hS⟩ := hrel
    by_cases hlt : k < m.length
    · have hck := (hS.oldII hM).cell k hlt
      have hxk := (hS.oldII hM).ixe (k : Int) k rfl hlt
      have hown := Lib.hid (l00Own_c (vat uM k) (xat m k) wr ((hS.oldII hM).row k hlt) (by have := Hr.out _ (xat_mem hlt); omega))
      have hlw := Lib.hid (show ws.length = (m.take k).length by rw [hw.out, List.length_take]; omega)
      have Hsn := Lib.hid (take_xat hlt)
      go_wp2_with fail
      refine hown.out.mono ?_
      rintro e w2 ⟨v2, rfl, h2⟩
      obtain ⟨la, lc, hle⟩ := (h2.rdI 0 rfl).shp'
      subst hle
      have hS2 := hS.call h2
      go_wp2_with (at_builtin; refine appII hS2 0 rfl (by rw [hw.out]; omega) rfl _ _ rfl rfl _ rfl rfl ?_; intro v5 w5 hS5; obtain ⟨oa, oc, hoe⟩ := (hS5.rd 0 rfl).sl.sh; rw [List.length_append, hw.out, List.length_singleton] at hoe; subst hoe)
      go_roundw
      case rel =>
        refine ⟨k + 1, oa, oc, ws ++ [.slice la (xat m k).length lc], by omega, by go_num, rfl, by simp [Hid, hw.out], ?_⟩
        rw [Hsn.out, own2, rowsI_app hlw.out]
        exact hS5
      case measure => simp [intOf]; omega
    · obtain rfl : k = m.length := by omega
      rw [List.take_length] at hS
      go_wp2_with fail
      go_ret
      exact ⟨_, ws, rfl, hw.out, hS⟩

/-- a list whose first k places are made -/
theorem tab_snoc (k : Nat) (f : Nat → Int) : tab (k + 1) f = tab k f ++ [f k] := by simp [tab, List.range_succ]

/-- it hands over all rows, and pivots -/
def MakesRR (w : World) (x : List (List Int) × List Int × Int) (e : Ending) (w' : World) : Prop :=
  ∃ v us vp, e = .returned (.tuple #[v, vp]) ∧ us.length = x.1.length ∧ x.2.1.length ≤ x.1.length ∧ St w.heap.size w w' (row 2 vp (iv x.2.1) :: own2 v us x.1)
theorem fnz_is {R : List (List Int)} {t c i : Nat} (h1 : t ≤ i) (h2 : i < R.length) (h3 : cf (ra R i) c ≠ 0) (h4 : ∀ j, t ≤ j → j < i → cf (ra R j) c = 0) : fnz R t c = some i := by
  cases h : fnz R t c with
  | none => exact absurd (fnz_none h h1 h2) h3
  | some k =>
    obtain ⟨k1, k2, k3, k4⟩ := fnz_some h
    rcases Nat.lt_trichotomy i k with hlt | rfl | hgt
    · exact absurd (k4 i h1 hlt) h3
    · rfl
    · exact absurd (h4 k k1 hgt) k3
theorem fnz_no {R : List (List Int)} {t c : Nat} (h4 : ∀ j, t ≤ j → j < R.length → cf (ra R j) c = 0) : fnz R t c = none := by
  cases h : fnz R t c with
  | none => rfl
  | some k =>
    obtain ⟨k1, k2, k3, k4⟩ := fnz_some h
    exact absurd (h4 k k1 k2) k3
theorem set_perm {α : Type} (l : List α) (i : Nat) (x : α) (h : i < l.length) : (l ++ [x]).Perm (l.set i x ++ [l[i]]) := by
  have e1 : l ++ [x] = (l.take i ++ l[i] :: l.drop (i + 1)) ++ [x] := by rw [← List.drop_eq_getElem_cons h, List.take_append_drop]
  have e2 : l.set i x = l.take i ++ x :: l.drop (i + 1) := by rw [List.set_eq_take_append_cons_drop, if_pos h]
  rw [e1, e2]
  classical exact List.perm_iff_count.2 (fun a => by simp only [List.count_append, List.count_cons, List.count_nil]; omega)
/-- a row is replaced by a new one -/
theorem rowsI_new {us : List Value} {R : List (List Int)} (hl : us.length = R.length) {j : Nat} (hj : j < R.length) (u : Value) (r : List Int) :
    ∃ x, (rowsI us R ++ [row 2 u (iv r)]).Perm (rowsI (us.set j u) (R.set j r) ++ [x]) := by
  refine ⟨(rowsI us R)[j]'(by rw [rowsI_len hl]; exact hj), ?_⟩
  have h := set_perm (rowsI us R) j (row 2 u (iv r)) (by rw [rowsI_len hl]; exact hj)
  have e : (rowsI us R).set j (row 2 u (iv r)) = rowsI (us.set j u) (R.set j r) := by
    have hl' : (us.set j u).length = (R.set j r).length := by simpa using hl
    apply List.ext_getElem?
    intro k
    rw [List.getElem?_set]
    by_cases hk : k < R.length
    · rw [rowsI_get hl' (by simpa using hk), vat_set (by omega), show xat (R.set j r) k = if j = k then r else xat R k from ra_set hj]
      by_cases e : j = k
      · subst e; rw [if_pos rfl, if_pos rfl, if_pos rfl, if_pos (by rw [rowsI_len hl]; exact hj)]
      · rw [if_neg e, if_neg e, if_neg e, rowsI_get hl hk]
    · rw [rowsI_no hl' (by simp; omega), if_neg (by omega), rowsI_no hl (by omega)]
  rw [e] at h; exact h

end Go.Proofs.Ytpfgbbbjldpnnaa
