/- Walks: a multiple of a row is added to another one. Walks: reslices of slices of slices, changes of a row, the closure of reduce. Walks: row reduction by tables. -/
import Derived.Test.YtpfgbbbjldpnnaaDot
import Derived.Test.YtpfgbbbjldpnnaaPSpan
import Derived.Test.YtpfgbbbjldpnnaaMk
import Derived.Test.YtpfgbbbjldpnnaaTimes
import Derived.Test.YtpfgbbbjldpnnaaVMat
import Derived.Deep.CutRange
namespace Go.Proofs.Ytpfgbbbjldpnnaa
set_option linter.unusedSimpArgs false
set_option linter.unusedVariables false
open Go.RowKit
attribute [local go_sem ↓] Go.wp_at_zero Go.wp_at_succ



theorem und_elem_iss : Try.prog.underlying 37 = some (.slice (Try.prog.elem 37)) := by kernel_rfl
theorem elem_iss_size : (Try.prog.info? (Try.prog.elem 37)).map (·.size) = some 1 := by kernel_rfl
theorem run_size_elem2 (W : World) : (sizeOf (Try.prog.elem 37)).run Try.prog W = .ok 1 W := by
  obtain ⟨inf, hinf, hs⟩ := Option.map_eq_some_iff.1 elem_iss_size
  simp [sizeOf, typeInfo, hinf, hs]
section
variable {w : World} {v : Value} {us : List Value} {xss : List (List Int)}
theorem rs2_hi (h : RII w v us xss) (hi : Nat) (h2 : hi ≤ xss.length) (W : World) :
    (Instr.slice 37 v none (some (.int .i64 (hi : Int))) none).run Try.prog W = .ok (rsl v 0 hi) W := by
  obtain ⟨⟨⟨a, cap, rfl, hc1, hc2, ha⟩, _⟩, hl, _⟩ := h
  rw [hl] at hc1
  rw [run_slice_h W 37 a _ cap und_elem_iss .i64 hi (by omega) (by omega), run_size_elem2]
  rfl
theorem rs2_lo (h : RII w v us xss) (lo : Nat) (h2 : lo ≤ xss.length) (W : World) :
    (Instr.slice 37 v (some (.int .i64 (lo : Int))) none none).run Try.prog W = .ok (rsl v lo xss.length) W := by
  obtain ⟨⟨⟨a, cap, rfl, hc1, hc2, ha⟩, _⟩, hl, _⟩ := h
  rw [hl] at hc1
  rw [run_slice_l W 37 a _ cap und_elem_iss .i64 lo (by omega) (by rw [hl]; omega), run_size_elem2]
  rw [hl]
  rfl
theorem RII.rs2 (h : RII w v us xss) {lo hi : Nat} (h1 : lo ≤ hi) (h2 : hi ≤ xss.length) : RII w (rsl v lo hi) ((us.take hi).drop lo) ((xss.take hi).drop lo) := by
  refine ⟨rsl_Rd h.1 h1 (by rw [h.2.1]; exact h2), by simp [h.2.1], fun j hj => ?_⟩
  have hj' : j < hi - lo := by simp at hj; omega
  have hl := h.2.1
  have := h.2.2 (lo + j) (by omega)
  rw [vat_eq (by omega), xat_eq (by omega)] at this
  rw [vat_eq (by simp; omega), xat_eq (by simp; omega)]
  simpa using this
end
theorem vat_set {us : List Value} {i k : Nat} {u : Value} (h : i < us.length) : vat (us.set i u) k = if i = k then u else vat us k := by
  unfold vat
  rw [List.getD_eq_getElem?_getD, List.getElem?_set]
  split
  · rename_i e; subst e; simp [h]
  · simp [List.getD_eq_getElem?_getD]
theorem rowsI_no {us : List Value} {R : List (List Int)} (hl : us.length = R.length) {k : Nat} (h : R.length ≤ k) : (rowsI us R)[k]? = none := List.getElem?_eq_none (by rw [rowsI_len hl]; exact h)
theorem rowsI_set {us : List Value} {R : List (List Int)} (hl : us.length = R.length) {j : Nat} (hj : j < R.length) (r : List Int) : (rowsI us R).set j (row 2 (vat us j) (iv r)) = rowsI us (R.set j r) := by
  apply List.ext_getElem?
  intro k
  have hl' : us.length = (R.set j r).length := by simpa using hl
  rw [List.getElem?_set]
  by_cases hk : k < R.length
  · rw [rowsI_get hl' (by simpa using hk)]
    by_cases e : j = k
    · subst e; rw [if_pos rfl, if_pos (by rw [rowsI_len hl]; exact hj), show xat (R.set j r) j = r from (ra_set hj).trans (if_pos rfl)]
    · rw [if_neg e, rowsI_get hl hk, show xat (R.set j r) k = xat R k from (ra_set hj).trans (if_neg e)]
  · rw [rowsI_no hl' (by simp; omega), if_neg (by omega), rowsI_no hl (by omega)]
/-- two rows change places -/
theorem rowsI_swap {us : List Value} {R : List (List Int)} (hl : us.length = R.length) {i j : Nat} (hi : i < R.length) (hj : j < R.length) : (rowsI us R).Perm (rowsI ((us.set i (vat us j)).set j (vat us i)) ((R.set i (xat R j)).set j (xat R i))) := by
  have e : rowsI ((us.set i (vat us j)).set j (vat us i)) ((R.set i (xat R j)).set j (xat R i)) = ((rowsI us R).set i ((rowsI us R)[j]'(by rw [rowsI_len hl]; exact hj))).set j ((rowsI us R)[i]'(by rw [rowsI_len hl]; exact hi)) := by
    have g1 : (rowsI us R)[j]'(by rw [rowsI_len hl]; exact hj) = row 2 (vat us j) (iv (xat R j)) := (List.getElem?_eq_some_iff.1 (rowsI_get hl hj)).2
    have g2 : (rowsI us R)[i]'(by rw [rowsI_len hl]; exact hi) = row 2 (vat us i) (iv (xat R i)) := (List.getElem?_eq_some_iff.1 (rowsI_get hl hi)).2
    rw [g1, g2]
    apply List.ext_getElem?
    intro k
    have hl' : ((us.set i (vat us j)).set j (vat us i)).length = ((R.set i (xat R j)).set j (xat R i)).length := by simpa using hl
    by_cases hk : k < R.length
    · rw [rowsI_get hl' (by simpa using hk), List.getElem?_set, List.getElem?_set, rowsI_get hl hk]
      rw [vat_set (by simp; omega), vat_set (by omega), show xat ((R.set i (xat R j)).set j (xat R i)) k = if j = k then xat R i else xat (R.set i (xat R j)) k from ra_set (by simpa using hj), show xat (R.set i (xat R j)) k = if i = k then xat R j else xat R k from ra_set hi]
      by_cases e : j = k
      · subst e; rw [if_pos rfl, if_pos rfl, if_pos rfl, if_pos (by rw [List.length_set, rowsI_len hl]; exact hj)]
      · rw [if_neg e, if_neg e, if_neg e]
        by_cases e2 : i = k
        · subst e2; rw [if_pos rfl, if_pos rfl, if_pos rfl, if_pos (by rw [rowsI_len hl]; exact hi)]
        · rw [if_neg e2, if_neg e2, if_neg e2]
    · rw [rowsI_no hl' (by simp; omega), List.getElem?_eq_none (by simp [rowsI_len hl]; omega)]
  rw [e]
  exact (List.set_set_perm (by rw [rowsI_len hl]; exact hi) (by rw [rowsI_len hl]; exact hj)).symm

/-- it hands over rows, pivots and a determinant -/
def MakesRed (w : World) (x : List (List Int) × List Int × Int) (e : Ending) (w' : World) : Prop :=
  ∃ v us vp, e = .returned (.tuple #[v, vp, .int .i64 x.2.2]) ∧ us.length = x.2.1.length ∧ x.2.1.length ≤ x.1.length ∧ St w.heap.size w w' (row 2 vp (iv x.2.1) :: own2 v us (x.1.take x.2.1.length))
theorem fnz_idx {R : List (List Int)} {t c : Nat} : fnz R t c = (match (R.drop t).findIdx? (fun r => cf r c != 0) with | some j => some (t + j) | none => none) := by
  unfold fnz; cases (R.drop t).findIdx? (fun r => cf r c != 0) <;> rfl
theorem idx_some {R : List (List Int)} {t c i : Nat} (h : fnz R t c = some i) : idxR (fun r => cf r c != 0) (R.drop t) 0 = ((i - t : Nat) : Int) := by
  rw [fnz_idx] at h
  unfold idxR
  rw [List.drop_zero]
  cases hx : (R.drop t).findIdx? (fun r => cf r c != 0) with
  | none => rw [hx] at h; cases h
  | some j => rw [hx] at h; simp only [Option.some.injEq] at h; subst h; simp
theorem idx_none {R : List (List Int)} {t c : Nat} (h : fnz R t c = none) : idxR (fun r => cf r c != 0) (R.drop t) 0 = -1 := by
  rw [fnz_idx] at h
  unfold idxR
  rw [List.drop_zero]
  cases hx : (R.drop t).findIdx? (fun r => cf r c != 0) with
  | none => rfl
  | some j => rw [hx] at h; cases h
theorem red_stop {p : Int} {D : Nat} {fs : List Int} {R : List (List Int)} {piv : List Int} {det : Int} (h : R.length ≤ piv.length) : ∀ (n c : Nat), red p D fs n c R piv det = (R, piv, det)
  | 0, _ => rfl
  | n + 1, c => by rw [red, if_pos h]
theorem red_none {p : Int} {D : Nat} {fs : List Int} {R : List (List Int)} {piv : List Int} {det : Int} {n c : Nat} (hc : c < n) (h : piv.length < R.length) (hz : fnz R piv.length c = none) : red p D fs (n - c) c R piv det = red p D fs (n - (c + 1)) (c + 1) R piv 0 := by
  obtain ⟨m, hm⟩ : ∃ m, n - c = m + 1 := ⟨n - c - 1, by omega⟩
  rw [hm, red, if_neg (by omega), hz, show n - (c + 1) = m by omega]
theorem red_some {p : Int} {D : Nat} {fs : List Int} {R : List (List Int)} {piv : List Int} {det : Int} {n c i : Nat} (hc : c < n) (h : piv.length < R.length) (hz : fnz R piv.length c = some i) : red p D fs (n - c) c R piv det = red p D fs (n - (c + 1)) (c + 1) (stepR p D fs R piv.length c i) (piv ++ [(c : Int)]) (fmul p D fs (if i = piv.length then det else fsum p D 0 det (-1)) (cf (ra R i) c)) := by
  obtain ⟨m, hm⟩ : ∃ m, n - c = m + 1 := ⟨n - c - 1, by omega⟩
  rw [hm, red, if_neg (by omega), hz, show n - (c + 1) = m by omega]

theorem red_done {B : Nat} {w0 w : World} {a b c : Ent} {vv : Value} {ul : List Value} {R : List (List Int)} {k : Nat} (hS : St B w0 w (a :: b :: c :: row 24 vv ul :: rowsI ul R)) (hl : ul.length = R.length) (hk : k ≤ R.length) :
    St B w0 w (c :: own2 (rsl vv 0 k) (ul.take k) (R.take k)) := by
  have h := hS.cut 3 rfl k (by omega)
  simp only [List.set_cons_succ, List.set_cons_zero] at h
  refine h.sub ((((List.Sublist.cons_cons _ (List.Sublist.cons_cons _ ?_)).cons _).cons _))
  have e : rowsI (ul.take k) (R.take k) = (rowsI ul R).take k := by unfold rowsI; rw [List.take_zipWith]
  rw [e]; exact List.take_sublist _ _

theorem swap_same {R : List (List Int)} {t : Nat} (ht : t < R.length) : (R.set t (ra R (t + 0))).set t (ra R t) = R := by
  refine ra_ext (by simp) fun j hj => ?_
  simp only [List.length_set] at hj
  rw [ra_set (by simpa using ht), ra_set ht]
  by_cases e : t = j
  · subst e; rw [if_pos rfl]
  · rw [if_neg e, if_neg e]

theorem swap_top {R : List (List Int)} {t d : Nat} (h : t + d < R.length) : ra ((R.set t (ra R (t + d))).set (t + d) (ra R t)) t = ra R (t + d) := by
  rw [ra_set (by simpa using h), ra_set (by omega)]
  by_cases e : t + d = t
  · rw [if_pos e, e]
  · rw [if_neg e, if_pos rfl]

end Go.Proofs.Ytpfgbbbjldpnnaa
