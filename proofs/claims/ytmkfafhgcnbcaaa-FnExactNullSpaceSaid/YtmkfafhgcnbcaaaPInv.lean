/- Inverses by row reduction of a matrix beside the unit matrix, in plain terms. -/
import Derived.Test.YtmkfafhgcnbcaaaPSpan
import Derived.Test.YtmkfafhgcnbcaaaPSol
import Derived.Test.YtmkfafhgcnbcaaaPDet
namespace Go.Proofs.Ytmkfafhgcnbcaaa
set_option linter.unusedSimpArgs false
set_option linter.unusedVariables false
section
variable {p : Int} {D : Nat} {fs : List Int}
/-- the first row that is not 0 depends on the column alone -/
theorem fnz_col {R S : List (List Int)} {t c : Nat} (hl : R.length = S.length) (h : ∀ j, t ≤ j → j < R.length → cf (ra R j) c = cf (ra S j) c) : fnz R t c = fnz S t c := by
  cases h1 : fnz R t c with
  | none =>
    cases h2 : fnz S t c with
    | none => rfl
    | some k =>
      obtain ⟨a1, a2, a3, _⟩ := fnz_some h2
      exact absurd ((h k a1 (by omega)).symm.trans (fnz_none h1 a1 (by omega))) a3
  | some i =>
    obtain ⟨b1, b2, b3, b4⟩ := fnz_some h1
    cases h2 : fnz S t c with
    | none => exact absurd ((h i b1 b2).trans (fnz_none h2 b1 (by omega))) b3
    | some k =>
      obtain ⟨a1, a2, a3, a4⟩ := fnz_some h2
      rcases Nat.lt_trichotomy i k with hlt | rfl | hgt
      · exact absurd ((h i b1 b2).trans (a4 i b1 hlt)) b3
      · rfl
      · exact absurd ((h k a1 (by omega)).symm.trans (b4 k a1 hgt)) a3
/-- further columns do not matter for pivots and determinant -/
theorem red_cols (h : FA p D fs) {N M : Nat} (hNM : N ≤ M) : ∀ (n c : Nat) {R S : List (List Int)} {piv : List Int} {det : Int}, c + n ≤ N → R.length = S.length → Rect p D N R → Rect p D M S → (∀ j l, j < R.length → l < N → cf (ra S j) l = cf (ra R j) l) →
    (red p D fs n c S piv det).2 = (red p D fs n c R piv det).2
  | 0, _, _, _, _, _, _, _, _, _, _ => rfl
  | n + 1, c, R, S, piv, det, hc, hl, rR, rS, hcol => by
    rw [red, red, ← hl]
    by_cases h0 : R.length ≤ piv.length
    · rw [if_pos h0, if_pos h0]
    · rw [if_neg h0, if_neg h0, fnz_col (R := S) (S := R) hl.symm (fun j _ hj => hcol j c (by omega) (by omega))]
      cases hz : fnz R piv.length c with
      | none => exact red_cols h hNM n (c + 1) (by omega) hl rR rS hcol
      | some i =>
        obtain ⟨_, hi, _, _⟩ := fnz_some hz
        have ht : piv.length < R.length := by omega
        have e1 : cf (ra S i) c = cf (ra R i) c := hcol i c hi (by omega)
        simp only [e1]
        refine red_cols h hNM n (c + 1) (by omega) (by rw [stepR_len, stepR_len]; exact hl) (rR.stepR h ht hi) (rS.stepR h (by omega) (by omega)) fun j l hj hlN => ?_
        rw [stepR_len] at hj
        have hP : ∀ k, k < N → cf (scaleI p D fs (ra S i) c) k = cf (scaleI p D fs (ra R i) c) k := fun k hk => by
          unfold scaleI
          rw [cf_tab (by rw [(rS.ra (by omega)).1]; omega), cf_tab (by rw [(rR.ra hi).1]; exact hk), e1, hcol i k hi hk]
        rw [ra_stepR (by omega) (by omega) (by omega), ra_stepR ht hi hj]
        by_cases ej : j = piv.length
        · rw [if_pos ej, if_pos ej]; exact hP l hlN
        · rw [if_neg ej, if_neg ej]
          have hS : Rw p D M (if j = i then ra S piv.length else ra S j) := by split; exact rS.ra (by omega); exact rS.ra (by omega)
          have hR : Rw p D N (if j = i then ra R piv.length else ra R j) := by split; exact rR.ra ht; exact rR.ra hj
          have hx : ∀ k, k < N → cf (if j = i then ra S piv.length else ra S j) k = cf (if j = i then ra R piv.length else ra R j) k := fun k hk => by
            split; exact hcol _ k ht hk; exact hcol _ k hj hk
          rw [subI_add h hS, subI_add h hR, cf_addT (by rw [hS.1]; omega), cf_addT (by rw [hR.1]; exact hlN), hx l hlN, hx c (by omega), hP l hlN]
theorem red_piv_le : ∀ (n c : Nat) {R : List (List Int)} {piv : List Int} {det : Int}, (red p D fs n c R piv det).2.1.length ≤ piv.length + n
  | 0, _, _, _, _ => Nat.le_refl _
  | n + 1, c, R, piv, det => by
    rw [red]
    split
    · show piv.length ≤ _; omega
    · split
      · have := red_piv_le n (c + 1) (R := R) (piv := piv) (det := 0); omega
      · rename_i i _
        have := red_piv_le n (c + 1) (R := stepR p D fs R piv.length c i) (piv := piv ++ [(c : Int)]) (det := fmul p D fs (if i = piv.length then det else fsum p D 0 det (-1)) (cf (ra R i) c))
        simp at this
        omega
/-- the determinant is 0 exactly if a pivot is lacking -/
theorem red_det_piv (h : FV p D fs) {N : Nat} : ∀ (n c : Nat) {R : List (List Int)} {piv : List Int} {det : Int}, piv.length = c → R.length = c + n → Rect p D N R → El p D det → det ≠ 0 →
    ((red p D fs n c R piv det).2.2 = 0 ↔ (red p D fs n c R piv det).2.1.length < c + n)
  | 0, c, R, piv, det, hp, _, _, _, h0 => by show det = 0 ↔ piv.length < c + 0; exact ⟨fun e => absurd e h0, fun e => by omega⟩
  | n + 1, c, R, piv, det, hp, hR, rR, he, h0 => by
    rw [red, if_neg (by omega)]
    cases hz : fnz R piv.length c with
    | none =>
      have := red_piv_le (p := p) (D := D) (fs := fs) n (c + 1) (R := R) (piv := piv) (det := 0)
      exact ⟨fun _ => by show (red p D fs n (c + 1) R piv 0).2.1.length < _; omega, fun _ => red_det0 h.fa n _ _ _⟩
    | some i =>
      obtain ⟨h1, h2, h3, _⟩ := fnz_some hz
      have hx : El p D (if i = piv.length then det else fsum p D 0 det (-1)) ∧ (if i = piv.length then det else fsum p D 0 det (-1)) ≠ 0 := by
        split
        · exact ⟨he, h0⟩
        · exact ⟨fneg_el h.fa _, fneg_one_ne h.fa he h0⟩
      have := red_det_piv h n (c + 1) (R := stepR p D fs R piv.length c i) (piv := piv ++ [(c : Int)]) (det := fmul p D fs (if i = piv.length then det else fsum p D 0 det (-1)) (cf (ra R i) c)) (by simp; omega) (by rw [stepR_len]; omega) (rR.stepR h.fa (by omega) h2) (fmul_el h.fa _ _) (fun e => by
        rcases h.nzd hx.1 (inEl h.fa.pos (rR.ra h2).2 c) e with e | e
        · exact hx.2 e
        · exact h3 e)
      rwa [show c + 1 + n = c + (n + 1) by omega] at this
theorem inv_full (h : FV p D fs) {m W : List (List Int)} {n : Nat} (hm : Rect p D n m) (hl : m.length = n) (hW : Rect p D (n + n) W) (hWl : W.length = n) (hcol : ∀ j l, j < n → l < n → cf (ra W j) l = cf (ra m j) l) :
    ((red p D fs n 0 m [] 1).2.2 = 0 ↔ (red p D fs n 0 W [] 1).2.1.length < n) ∧ ((red p D fs n 0 m [] 1).2.2 ≠ 0 → red p D fs (n + n) 0 W [] 1 = red p D fs n 0 W [] 1 ∧ (red p D fs n 0 W [] 1).2.1.length = n) := by
  have e := red_cols h.fa (N := n) (M := n + n) (by omega) n 0 (R := m) (S := W) (piv := []) (det := 1) (by omega) (by omega) hm hW (fun j l hj hl' => hcol j l (by omega) hl')
  have d := red_det_piv h (N := n) n 0 (R := m) (piv := []) (det := 1) rfl (by omega) hm (el_one h.fa) (by decide)
  rw [Nat.zero_add] at d
  rw [← e] at d ⊢
  refine ⟨d, fun h0 => ?_⟩
  have hle := red_piv_le (p := p) (D := D) (fs := fs) n 0 (R := W) (piv := []) (det := 1)
  have hn : (red p D fs n 0 W [] 1).2.1.length = n := by
    have : ¬ (red p D fs n 0 W [] 1).2.1.length < n := fun hh => h0 (d.2 hh)
    simp at hle; omega
  refine ⟨?_, hn⟩
  rw [red_split, red_full (by rw [hn, red_len, hWl]; exact Nat.le_refl _)]
/-- rows beside others -/
def unitL (n j : Nat) : List Int := (List.replicate n 0).set j 1
theorem unitL_len (n j : Nat) : (unitL n j).length = n := by simp [unitL]
def wideI (m : List (List Int)) (n k : Nat) : List (List Int) := mi m fun j r => if j < k then r ++ unitL n j else r
theorem wideI_len (m : List (List Int)) (n k : Nat) : (wideI m n k).length = m.length := mi_len _ _
theorem wideI_0 (m : List (List Int)) (n : Nat) : wideI m n 0 = m := ra_ext (mi_len _ _) fun j hj => by rw [wideI_len] at hj; unfold wideI; rw [ra_mi hj, if_neg (by omega)]
theorem ra_wideI {m : List (List Int)} {n k : Nat} (h : k < m.length) : ra (wideI m n k) k = ra m k := by unfold wideI; rw [ra_mi h, if_neg (by omega)]
theorem ra_wideI_all {m : List (List Int)} {n j : Nat} (h : j < m.length) : ra (wideI m n m.length) j = ra m j ++ unitL n j := by unfold wideI; rw [ra_mi h, if_pos h]
theorem wideI_set {m : List (List Int)} {n k : Nat} (h : k < m.length) : (wideI m n k).set k (ra m k ++ unitL n k) = wideI m n (k + 1) := by
  refine ra_ext (by rw [List.length_set, wideI_len, wideI_len]) fun j hj => ?_
  rw [List.length_set, wideI_len] at hj
  rw [ra_set (by rw [wideI_len]; exact h)]
  unfold wideI
  rw [ra_mi hj, ra_mi hj]
  by_cases e : k = j
  · subst e; rw [if_pos rfl, if_pos (by omega)]
  · rw [if_neg e]
    by_cases h1 : j < k
    · rw [if_pos h1, if_pos (by omega)]
    · rw [if_neg h1, if_neg (by omega)]
theorem wideI_rect (h : FA p D fs) {n : Nat} {m : List (List Int)} (hm : Rect p D n m) : Rect p D (n + n) (wideI m n m.length) := Rect.mi fun j hj => by
  rw [if_pos hj]
  refine ⟨by rw [List.length_append, (hm.ra hj).1, unitL_len], fun x hx => ?_⟩
  rcases List.mem_append.1 hx with hx | hx
  · exact (hm.ra hj).2 x hx
  · rcases List.mem_or_eq_of_mem_set hx with hx | rfl
    · have := List.eq_of_mem_replicate hx; subst this; exact el_zero h
    · exact el_one h
theorem wideI_col {n : Nat} {m : List (List Int)} (hm : Rect p D n m) (hl : m.length = n) : ∀ j l, j < n → l < n → cf (ra (wideI m n m.length) j) l = cf (ra m j) l := fun j l hj hl' => by
  rw [ra_wideI_all (by omega), cf_appL (by rw [(hm.ra (by omega)).1]; exact hl')]
/-- the k first rows, as they are appended -/
theorem wideI_take {n k : Nat} {m : List (List Int)} (h : k < m.length) : (wideI m n m.length).take (k + 1) = (wideI m n m.length).take k ++ [ra m k ++ unitL n k] := by
  rw [List.take_succ_eq_append_getElem (by rw [wideI_len]; exact h), ← ra_eq (by rw [wideI_len]; exact h), ra_wideI_all h]
end
end Go.Proofs.Ytmkfafhgcnbcaaa
