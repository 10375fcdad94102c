/- The determinant by elimination below the pivots, in plain terms. -/
import Derived.Test.YtmkfafhgcnbcaaaPRed
namespace Go.Proofs.Ytmkfafhgcnbcaaa
set_option linter.unusedSimpArgs false
set_option linter.unusedVariables false

/-- column c of a row is made 0 by a row that is not scaled; e: the inverse of its element -/
def lessD (p : Int) (D : Nat) (fs r P : List Int) (c : Nat) (e : Int) : List Int := tab r.length fun q => fsum p D (cf r q) (fmul p D fs (cf P q) (fmul p D fs (cf r c) e)) (p - 1)
def elimD (p : Int) (D : Nat) (fs : List Int) (S : List (List Int)) (P : List Int) (c : Nat) (e : Int) (k : Nat) : List (List Int) := mi S fun j r => if j < k ∧ c < j then lessD p D fs r P c e else r
def swp (S : List (List Int)) (t i : Nat) : List (List Int) := (S.set t (ra S i)).set i (ra S t)
/-- the determinant, n columns from c on being left -/
def detS (p : Int) (D : Nat) (fs : List Int) : Nat → Nat → List (List Int) → Int → Int
  | 0, _, _, det => det
  | n + 1, c, S, det =>
    match fnz S c c with
    | none => 0
    | some i => detS p D fs n (c + 1) (elimD p D fs (swp S c i) (ra S i) c (finv p D fs (cf (ra S i) c)) S.length) (fmul p D fs (if i = c then det else fsum p D 0 det (-1)) (cf (ra S i) c))
section
variable {p : Int} {D : Nat} {fs : List Int} {R S : List (List Int)} {P : List Int} {t c k i n : Nat} {e : Int}
theorem lessD_len (r : List Int) : (lessD p D fs r P c e).length = r.length := tab_len _ _
theorem lessD_in (hp : 0 < p) (r : List Int) : In (p ^ D) (lessD p D fs r P c e) := El.in fun _ _ => fsum_el hp _ _ _
theorem elimD_len : (elimD p D fs S P c e k).length = S.length := mi_len _ _
theorem swp_len : (swp S t i).length = S.length := by simp [swp]
theorem Rect.swp (h : Rect p D n S) (ht : t < S.length) (hi : i < S.length) : Rect p D n (swp S t i) := (h.set (h.ra hi)).set (h.ra ht)
theorem Rect.elimD (h : Rect p D n S) (hp : 0 < p) : Rect p D n (elimD p D fs S P c e k) := Rect.mi fun j hj => by
  split
  · rw [lessD_len]; exact ⟨(h.ra hj).1, lessD_in hp _⟩
  · exact h.ra hj
theorem elimD_start : elimD p D fs S P c e (c + 1) = S := ra_ext (mi_len _ _) fun j hj => by rw [elimD_len] at hj; unfold elimD; rw [ra_mi hj, if_neg (by omega)]
theorem ra_elimD (h : k < S.length) : ra (elimD p D fs S P c e k) k = ra S k := by unfold elimD; rw [ra_mi h, if_neg (by omega)]
theorem ra_elimD_c (h : c < S.length) : ra (elimD p D fs S P c e k) c = ra S c := by unfold elimD; rw [ra_mi h, if_neg (by omega)]
theorem elimD_set (hk : k < S.length) (hc : c < k) : (elimD p D fs S P c e k).set k (lessD p D fs (ra S k) P c e) = elimD p D fs S P c e (k + 1) := by
  refine ra_ext (by rw [List.length_set, elimD_len, elimD_len]) fun j hj => ?_
  rw [List.length_set, elimD_len] at hj
  rw [ra_set (by rw [elimD_len]; exact hk)]
  unfold elimD
  rw [ra_mi hj, ra_mi hj]
  by_cases e : k = j
  · subst e; rw [if_pos rfl, if_pos ⟨by omega, hc⟩]
  · rw [if_neg e]
    by_cases h : j < k ∧ c < j
    · rw [if_pos h, if_pos ⟨by omega, h.2⟩]
    · rw [if_neg h, if_neg (by omega)]
theorem swp_c (hi : i < S.length) (ht : t < S.length) : ra (swp S t i) t = ra S i := by
  unfold swp
  rw [ra_set (by simpa using hi), ra_set ht]
  by_cases e : i = t
  · rw [if_pos e, e]
  · rw [if_neg e, if_pos rfl]
/-- both eliminations make the same row -/
theorem lessD_eq (h : FA p D fs) {r q : List Int} (hr : In (p ^ D) r) (hl : q.length = r.length) : lessD p D fs r q c (finv p D fs (cf q c)) = subI p D fs r (scaleI p D fs q c) c := by
  rw [← lessS_eq h hr]
  unfold lessD
  refine tab_congr fun j hj => ?_
  have e1 : cf (scaleI p D fs q c) j = fmul p D fs (finv p D fs (cf q c)) (cf q j) := by unfold scaleI; rw [cf_tab (by omega)]
  rw [e1, fmul_comm h (cf r c), ← fmul_assoc h, fmul_comm h (cf q j)]
theorem red_det0 (h : FA p D fs) : ∀ (n c : Nat) (R : List (List Int)) (piv : List Int), (red p D fs n c R piv 0).2.2 = 0
  | 0, _, _, _ => rfl
  | n + 1, c, R, piv => by
    rw [red]
    split
    · rfl
    · split
      · exact red_det0 h n _ _ _
      · rename_i i _
        have e1 : fsum p D 0 0 (-1) = 0 := fsum_zero h.p2 (el_zero h) _
        have e2 : fmul p D fs (if i = piv.length then 0 else fsum p D 0 0 (-1)) (cf (ra R i) c) = 0 := by
          rw [e1]
          have : (if i = piv.length then (0 : Int) else 0) = 0 := by split <;> rfl
          rw [this, fmul_comm h, fmul_zero h]
        rw [e2]
        exact red_det0 h n _ _ _
theorem fnz_congr (hl : R.length = S.length) (h : ∀ j, t ≤ j → j < R.length → ra R j = ra S j) : fnz R t c = fnz S t c := by
  unfold fnz
  have e : R.drop t = S.drop t := by
    apply List.ext_getElem
    · simp [hl]
    · intro j h1 h2
      simp only [List.length_drop] at h1 h2
      have := h (t + j) (by omega) (by omega)
      rw [ra_eq (by omega), ra_eq (by omega)] at this
      simpa using this
  rw [e]
/-- the determinants agree -/
theorem red_det (h : FA p D fs) {N : Nat} : ∀ (n c : Nat) {R S : List (List Int)} {piv : List Int} {det : Int}, piv.length = c → R.length = c + n → S.length = c + n → Rect p D N R → Rect p D N S → (∀ j, c ≤ j → j < R.length → ra R j = ra S j) →
    (red p D fs n c R piv det).2.2 = detS p D fs n c S det
  | 0, _, _, _, _, _, _, _, _, _, _, _ => rfl
  | n + 1, c, R, S, piv, det, hp, hR, hS, rR, rS, hj => by
    have hp0 : 0 < p := by have := h.p2; omega
    rw [red, if_neg (by omega), hp, detS, fnz_congr (by omega) hj]
    cases hz : fnz S c c with
    | none => exact red_det0 h n _ _ _
    | some i =>
      obtain ⟨h1, h2, h3, _⟩ := fnz_some hz
      have e1 : ra R i = ra S i := hj i h1 (by omega)
      simp only [e1]
      refine red_det h n (c + 1) (by simp; omega) (by rw [stepR_len]; omega) (by rw [elimD_len, swp_len]; omega) (rR.stepR h (by omega) (by omega)) ((rS.swp (by omega) h2).elimD hp0) fun j hj1 hj2 => ?_
      rw [stepR_len] at hj2
      have hjs : j < S.length := by omega
      -- the rows behind the exchange
      have e2 : ra (swapR p D fs R c c i) j = ra (swp S c i) j := by
        have f1 : ra (swapR p D fs R c c i) j = if i = j then ra R c else ra R j := by
          unfold swapR
          rw [ra_set (by rw [List.length_set, List.length_set]; omega), if_neg (by omega), ra_set (by rw [List.length_set]; omega)]
          by_cases e : i = j
          · rw [if_pos e, if_pos e]
          · rw [if_neg e, if_neg e, ra_set (by omega), if_neg (by omega)]
        have f2 : ra (swp S c i) j = if i = j then ra S c else ra S j := by
          unfold swp
          rw [ra_set (by rw [List.length_set]; omega)]
          by_cases e : i = j
          · rw [if_pos e, if_pos e]
          · rw [if_neg e, if_neg e, ra_set (by omega), if_neg (by omega)]
        rw [f1, f2, hj c (Nat.le_refl _) (by omega), hj j (by omega) (by omega)]
      unfold stepR elimP elimD
      rw [ra_mi (by rw [swapR_len]; omega), ra_mi (by rw [swp_len]; omega), if_pos ⟨by omega, by omega⟩, if_pos ⟨hjs, by omega⟩, e2, e1]
      have r1 := (rS.swp (t := c) (i := i) (by omega) h2).ra (j := j) (by rw [swp_len]; exact hjs)
      exact (lessD_eq h r1.2 (by rw [r1.1, (rS.ra h2).1])).symm
end
end Go.Proofs.Ytmkfafhgcnbcaaa
