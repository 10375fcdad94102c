/- Linear equations and inverses by row reduction, in plain terms. The determinant by elimination below the pivots, in plain terms. Inverses by row reduction of a matrix beside the unit matrix, in plain terms. -/
import Derived.Test.YtpfgbbbjldpnnaaPSpan
namespace Go.Proofs.Ytpfgbbbjldpnnaa
set_option linter.unusedSimpArgs false
set_option linter.unusedVariables false

section
variable {p : Int} {D : Nat} {fs : List Int}
theorem red_full {R : List (List Int)} {piv : List Int} {det : Int} (h : R.length ≤ piv.length) : ∀ (n c : Nat), red p D fs n c R piv det = (R, piv, det)
  | 0, _ => rfl
  | n + 1, c => by rw [red, if_pos h]
/-- the columns may be taken in two parts -/
theorem red_split : ∀ (a b c : Nat) (R : List (List Int)) (piv : List Int) (det : Int), red p D fs (a + b) c R piv det = red p D fs b (c + a) (red p D fs a c R piv det).1 (red p D fs a c R piv det).2.1 (red p D fs a c R piv det).2.2
  | 0, b, c, R, piv, det => by rw [Nat.zero_add]; rfl
  | a + 1, b, c, R, piv, det => by
    by_cases h : R.length ≤ piv.length
    · rw [red_full h, red_full h, red_full h]
    · rw [show a + 1 + b = a + b + 1 by omega, red, red, if_neg h, if_neg h]
      cases fnz R piv.length c with
      | none => show red p D fs (a + b) (c + 1) R piv 0 = _; rw [red_split a b]; congr 1; omega
      | some i => show red p D fs (a + b) (c + 1) _ _ _ = _; rw [red_split a b]; congr 1; omega
/-- the pivots are columns -/
theorem red_piv : ∀ (n c : Nat) {R : List (List Int)} {piv : List Int} {det : Int}, (∀ x ∈ piv, 0 ≤ x ∧ x < c) → ∀ x ∈ (red p D fs n c R piv det).2.1, 0 ≤ x ∧ x < (c + n : Nat)
  | 0, c, _, _, _, h => fun x hx => by have := h x hx; push_cast; omega
  | n + 1, c, R, piv, det, h => by
    rw [red]
    have up : ∀ x ∈ piv, 0 ≤ x ∧ x < ((c + 1 : Nat) : Int) := fun x hx => by have := h x hx; push_cast; omega
    by_cases h0 : R.length ≤ piv.length
    · rw [if_pos h0]; intro x hx; have := h x hx; push_cast; omega
    · rw [if_neg h0]
      cases fnz R piv.length c with
      | none => have := red_piv n (c + 1) (R := R) (det := 0) up; rwa [show c + 1 + n = c + (n + 1) by omega] at this
      | some i =>
        have := red_piv n (c + 1) (R := stepR p D fs R piv.length c i) (piv := piv ++ [(c : Int)]) (det := fmul p D fs (if i = piv.length then det else fsum p D 0 det (-1)) (cf (ra R i) c)) (fun x hx => by
          rcases List.mem_append.1 hx with hx | hx
          · exact up x hx
          · simp at hx; subst hx; push_cast; omega)
        rwa [show c + 1 + n = c + (n + 1) by omega] at this
theorem red_len : ∀ (n c : Nat) {R : List (List Int)} {piv : List Int} {det : Int}, (red p D fs n c R piv det).1.length = R.length
  | 0, _, _, _, _ => rfl
  | n + 1, c, R, piv, det => by
    rw [red]
    by_cases h0 : R.length ≤ piv.length
    · rw [if_pos h0]
    · rw [if_neg h0]
      cases fnz R piv.length c with
      | none => exact red_len n (c + 1)
      | some i => exact (red_len n (c + 1)).trans stepR_len
/-- k entries of the solution -/
def solP (R : List (List Int)) (piv : List Int) (n : Nat) : Nat → List Int
  | 0 => List.replicate n 0
  | k + 1 => (solP R piv n k).set (cf piv k).toNat (cf (ra R k) n)
theorem solP_len (R : List (List Int)) (piv : List Int) (n : Nat) : ∀ k, (solP R piv n k).length = n
  | 0 => by simp [solP]
  | k + 1 => by rw [solP, List.length_set, solP_len]
/-- whether there is a solution: no row behind the pivots is left -/
def solvable (R : List (List Int)) (t n : Nat) : Bool := (fnz R t n).isNone
theorem red_last {R : List (List Int)} {piv : List Int} {det : Int} {n : Nat} : red p D fs 1 n R piv det = if R.length ≤ piv.length then (R, piv, det) else match fnz R piv.length n with
    | none => (R, piv, 0)
    | some i => (stepR p D fs R piv.length n i, piv ++ [(n : Int)], fmul p D fs (if i = piv.length then det else fsum p D 0 det (-1)) (cf (ra R i) n)) := by
  rw [red]; split
  · rfl
  · cases fnz R piv.length n <;> rfl
/-- rows with one more element each -/
def wide (m : List (List Int)) (b : List Int) (k : Nat) : List (List Int) := mi m fun j r => if j < k then r ++ [cf b j] else r
theorem wide_len (m : List (List Int)) (b : List Int) (k : Nat) : (wide m b k).length = m.length := mi_len _ _
theorem wide_0 (m : List (List Int)) (b : List Int) : wide m b 0 = m := ra_ext (mi_len _ _) fun j hj => by rw [wide_len] at hj; unfold wide; rw [ra_mi hj, if_neg (by omega)]
theorem ra_wide {m : List (List Int)} {b : List Int} {k : Nat} (h : k < m.length) : ra (wide m b k) k = ra m k := by unfold wide; rw [ra_mi h, if_neg (by omega)]
theorem wide_set {m : List (List Int)} {b : List Int} {k : Nat} (h : k < m.length) : (wide m b k).set k (ra m k ++ [cf b k]) = wide m b (k + 1) := by
  refine ra_ext (by rw [List.length_set, wide_len, wide_len]) fun j hj => ?_
  rw [List.length_set, wide_len] at hj
  rw [ra_set (by rw [wide_len]; exact h)]
  unfold wide
  rw [ra_mi hj, ra_mi hj]
  by_cases e : k = j
  · subst e; rw [if_pos rfl, if_pos (by omega)]
  · rw [if_neg e]
    by_cases h1 : j < k
    · rw [if_pos h1, if_pos (by omega)]
    · rw [if_neg h1, if_neg (by omega)]
theorem wide_rect {n : Nat} {m : List (List Int)} {b : List Int} (h : Rect p D n m) (hb : In (p ^ D) b) (hl : b.length = m.length) : Rect p D (n + 1) (wide m b m.length) := Rect.mi fun j hj => by
  rw [if_pos hj]
  refine ⟨by rw [List.length_append, (h.ra hj).1]; rfl, fun x hx => ?_⟩
  rcases List.mem_append.1 hx with hx | hx
  · exact (h.ra hj).2 x hx
  · simp at hx; subst hx; exact hb _ (cf_mem (by omega))
end

/-- column c of a row is made 0 by a row that is not scaled; e: the inverse of its element -/
def lessD (p : Int) (D : Nat) (fs r P : List Int) (c : Nat) (e : Int) : List Int := tab r.length fun q => fsum p D (cf r q) (fmul p D fs (cf P q) (fmul p D fs (cf r c) e)) (p - 1)
def elimD (p : Int) (D : Nat) (fs : List Int) (S : List (List Int)) (P : List Int) (c : Nat) (e : Int) (k : Nat) : List (List Int) := mi S fun j r => if j < k ∧ c < j then lessD p D fs r P c e else r
def swp (S : List (List Int)) (t i : Nat) : List (List Int) := (S.set t (ra S i)).set i (ra S t)
/-- the determinant, n columns from c on being left -/
def detS (p : Int) (D : Nat) (fs : List Int) : Nat → Nat → List (List Int) → Int → Int
  | 0, _, _, det => det
  | n + 1, c, S, det =>
    match fnz S c c with
    | none => 0
    | some i => detS p D fs n (c + 1) (elimD p D fs (swp S c i) (ra S i) c (finv p D fs (cf (ra S i) c)) S.length) (fmul p D fs (if i = c then det else fsum p D 0 det (-1)) (cf (ra S i) c))
section
variable {p : Int} {D : Nat} {fs : List Int} {R S : List (List Int)} {P : List Int} {t c k i n : Nat} {e : Int}
theorem lessD_len (r : List Int) : (lessD p D fs r P c e).length = r.length := tab_len _ _
theorem lessD_in (hp : 0 < p) (r : List Int) : In (p ^ D) (lessD p D fs r P c e) := El.in fun _ _ => fsum_el hp _ _ _
theorem elimD_len : (elimD p D fs S P c e k).length = S.length := mi_len _ _
theorem swp_len : (swp S t i).length = S.length := by simp [swp]
theorem Rect.swp (h : Rect p D n S) (ht : t < S.length) (hi : i < S.length) : Rect p D n (swp S t i) := (h.set (h.ra hi)).set (h.ra ht)
theorem Rect.elimD (h : Rect p D n S) (hp : 0 < p) : Rect p D n (elimD p D fs S P c e k) := Rect.mi fun j hj => by
  split
  · rw [lessD_len]; exact ⟨(h.ra hj).1, lessD_in hp _⟩
  · exact h.ra hj
theorem elimD_start : elimD p D fs S P c e (c + 1) = S := ra_ext (mi_len _ _) fun j hj => by rw [elimD_len] at hj; unfold elimD; rw [ra_mi hj, if_neg (by omega)]
theorem ra_elimD (h : k < S.length) : ra (elimD p D fs S P c e k) k = ra S k := by unfold elimD; rw [ra_mi h, if_neg (by omega)]
theorem ra_elimD_c (h : c < S.length) : ra (elimD p D fs S P c e k) c = ra S c := by unfold elimD; rw [ra_mi h, if_neg (by omega)]
theorem elimD_set (hk : k < S.length) (hc : c < k) : (elimD p D fs S P c e k).set k (lessD p D fs (ra S k) P c e) = elimD p D fs S P c e (k + 1) := by
  refine ra_ext (by rw [List.length_set, elimD_len, elimD_len]) fun j hj => ?_
  rw [List.length_set, elimD_len] at hj
  rw [ra_set (by rw [elimD_len]; exact hk)]
  unfold elimD
  rw [ra_mi hj, ra_mi hj]
  by_cases e : k = j
  · subst e; rw [if_pos rfl, if_pos ⟨by omega, hc⟩]
  · rw [if_neg e]
    by_cases h : j < k ∧ c < j
    · rw [if_pos h, if_pos ⟨by omega, h.2⟩]
    · rw [if_neg h, if_neg (by omega)]
theorem swp_c (hi : i < S.length) (ht : t < S.length) : ra (swp S t i) t = ra S i := by
  unfold swp
  rw [ra_set (by simpa using hi), ra_set ht]
  by_cases e : i = t
  · rw [if_pos e, e]
  · rw [if_neg e, if_pos rfl]
/-- both eliminations make the same row -/
theorem lessD_eq (h : FA p D fs) {r q : List Int} (hr : In (p ^ D) r) (hl : q.length = r.length) : lessD p D fs r q c (finv p D fs (cf q c)) = subI p D fs r (scaleI p D fs q c) c := by
  rw [← lessS_eq h hr]
  unfold lessD
  refine tab_congr fun j hj => ?_
  have e1 : cf (scaleI p D fs q c) j = fmul p D fs (finv p D fs (cf q c)) (cf q j) := by unfold scaleI; rw [cf_tab (by omega)]
  rw [e1, fmul_comm h (cf r c), ← fmul_assoc h, fmul_comm h (cf q j)]
theorem red_det0 (h : FA p D fs) : ∀ (n c : Nat) (R : List (List Int)) (piv : List Int), (red p D fs n c R piv 0).2.2 = 0
  | 0, _, _, _ => rfl
  | n + 1, c, R, piv => by
    rw [red]
    split
    · rfl
    · split
      · exact red_det0 h n _ _ _
      · rename_i i _
        have e1 : fsum p D 0 0 (-1) = 0 := fsum_zero h.p2 (el_zero h) _
        have e2 : fmul p D fs (if i = piv.length then 0 else fsum p D 0 0 (-1)) (cf (ra R i) c) = 0 := by
          rw [e1]
          have : (if i = piv.length then (0 : Int) else 0) = 0 := by split <;> rfl
          rw [this, fmul_comm h, fmul_zero h]
        rw [e2]
        exact red_det0 h n _ _ _
theorem fnz_congr (hl : R.length = S.length) (h : ∀ j, t ≤ j → j < R.length → ra R j = ra S j) : fnz R t c = fnz S t c := by
  unfold fnz
  have e : R.drop t = S.drop t := by
    apply List.ext_getElem
    · simp [hl]
    · intro j h1 h2
      simp only [List.length_drop] at h1 h2
      have := h (t + j) (by omega) (by omega)
      rw [ra_eq (by omega), ra_eq (by omega)] at this
      simpa using this
  rw [e]
/-- the determinants agree -/
theorem red_det (h : FA p D fs) {N : Nat} : ∀ (n c : Nat) {R S : List (List Int)} {piv : List Int} {det : Int}, piv.length = c → R.length = c + n → S.length = c + n → Rect p D N R → Rect p D N S → (∀ j, c ≤ j → j < R.length → ra R j = ra S j) →
    (red p D fs n c R piv det).2.2 = detS p D fs n c S det
  | 0, _, _, _, _, _, _, _, _, _, _, _ => rfl
  | n + 1, c, R, S, piv, det, hp, hR, hS, rR, rS, hj => by
    have hp0 : 0 < p := by have := h.p2; omega
    rw [red, if_neg (by omega), hp, detS, fnz_congr (by omega) hj]
    cases hz : fnz S c c with
    | none => exact red_det0 h n _ _ _
    | some i =>
      obtain ⟨h1, h2, h3, _⟩ := fnz_some hz
      have e1 : ra R i = ra S i := hj i h1 (by omega)
      simp only [e1]
      refine red_det h n (c + 1) (by simp; omega) (by rw [stepR_len]; omega) (by rw [elimD_len, swp_len]; omega) (rR.stepR h (by omega) (by omega)) ((rS.swp (by omega) h2).elimD hp0) fun j hj1 hj2 => ?_
      rw [stepR_len] at hj2
      have hjs : j < S.length := by omega
      -- the rows behind the exchange
      have e2 : ra (swapR p D fs R c c i) j = ra (swp S c i) j := by
        have f1 : ra (swapR p D fs R c c i) j = if i = j then ra R c else ra R j := by
          unfold swapR
          rw [ra_set (by rw [List.length_set, List.length_set]; omega), if_neg (by omega), ra_set (by rw [List.length_set]; omega)]
          by_cases e : i = j
          · rw [if_pos e, if_pos e]
          · rw [if_neg e, if_neg e, ra_set (by omega), if_neg (by omega)]
        have f2 : ra (swp S c i) j = if i = j then ra S c else ra S j := by
          unfold swp
          rw [ra_set (by rw [List.length_set]; omega)]
          by_cases e : i = j
          · rw [if_pos e, if_pos e]
          · rw [if_neg e, if_neg e, ra_set (by omega), if_neg (by omega)]
        rw [f1, f2, hj c (Nat.le_refl _) (by omega), hj j (by omega) (by omega)]
      unfold stepR elimP elimD
      rw [ra_mi (by rw [swapR_len]; omega), ra_mi (by rw [swp_len]; omega), if_pos ⟨by omega, by omega⟩, if_pos ⟨hjs, by omega⟩, e2, e1]
      have r1 := (rS.swp (t := c) (i := i) (by omega) h2).ra (j := j) (by rw [swp_len]; exact hjs)
      exact (lessD_eq h r1.2 (by rw [r1.1, (rS.ra h2).1])).symm
end

section
variable {p : Int} {D : Nat} {fs : List Int}
/-- the first row that is not 0 depends on the column alone -/
theorem fnz_col {R S : List (List Int)} {t c : Nat} (hl : R.length = S.length) (h : ∀ j, t ≤ j → j < R.length → cf (ra R j) c = cf (ra S j) c) : fnz R t c = fnz S t c := by
  cases h1 : fnz R t c with
  | none =>
    cases h2 : fnz S t c with
    | none => rfl
    | some k =>
      obtain ⟨a1, a2, a3, _⟩ := fnz_some h2
      exact absurd ((h k a1 (by omega)).symm.trans (fnz_none h1 a1 (by omega))) a3
  | some i =>
    obtain ⟨b1, b2, b3, b4⟩ := fnz_some h1
    cases h2 : fnz S t c with
    | none => exact absurd ((h i b1 b2).trans (fnz_none h2 b1 (by omega))) b3
    | some k =>
      obtain ⟨a1, a2, a3, a4⟩ := fnz_some h2
      rcases Nat.lt_trichotomy i k with hlt | rfl | hgt
      · exact absurd ((h i b1 b2).trans (a4 i b1 hlt)) b3
      · rfl
      · exact absurd ((h k a1 (by omega)).symm.trans (b4 k a1 hgt)) a3
/-- further columns do not matter for pivots and determinant -/
theorem red_cols (h : FA p D fs) {N M : Nat} (hNM : N ≤ M) : ∀ (n c : Nat) {R S : List (List Int)} {piv : List Int} {det : Int}, c + n ≤ N → R.length = S.length → Rect p D N R → Rect p D M S → (∀ j l, j < R.length → l < N → cf (ra S j) l = cf (ra R j) l) →
    (red p D fs n c S piv det).2 = (red p D fs n c R piv det).2
  | 0, _, _, _, _, _, _, _, _, _, _ => rfl
  | n + 1, c, R, S, piv, det, hc, hl, rR, rS, hcol => by
    rw [red, red, ← hl]
    by_cases h0 : R.length ≤ piv.length
    · rw [if_pos h0, if_pos h0]
    · rw [if_neg h0, if_neg h0, fnz_col (R := S) (S := R) hl.symm (fun j _ hj => hcol j c (by omega) (by omega))]
      cases hz : fnz R piv.length c with
      | none => exact red_cols h hNM n (c + 1) (by omega) hl rR rS hcol
      | some i =>
        obtain ⟨_, hi, _, _⟩ := fnz_some hz
        have ht : piv.length < R.length := by omega
        have e1 : cf (ra S i) c = cf (ra R i) c := hcol i c hi (by omega)
        simp only [e1]
        refine red_cols h hNM n (c + 1) (by omega) (by rw [stepR_len, stepR_len]; exact hl) (rR.stepR h ht hi) (rS.stepR h (by omega) (by omega)) fun j l hj hlN => ?_
        rw [stepR_len] at hj
        have hP : ∀ k, k < N → cf (scaleI p D fs (ra S i) c) k = cf (scaleI p D fs (ra R i) c) k := fun k hk => by
          unfold scaleI
          rw [cf_tab (by rw [(rS.ra (by omega)).1]; omega), cf_tab (by rw [(rR.ra hi).1]; exact hk), e1, hcol i k hi hk]
        rw [ra_stepR (by omega) (by omega) (by omega), ra_stepR ht hi hj]
        by_cases ej : j = piv.length
        · rw [if_pos ej, if_pos ej]; exact hP l hlN
        · rw [if_neg ej, if_neg ej]
          have hS : Rw p D M (if j = i then ra S piv.length else ra S j) := by split; exact rS.ra (by omega); exact rS.ra (by omega)
          have hR : Rw p D N (if j = i then ra R piv.length else ra R j) := by split; exact rR.ra ht; exact rR.ra hj
          have hx : ∀ k, k < N → cf (if j = i then ra S piv.length else ra S j) k = cf (if j = i then ra R piv.length else ra R j) k := fun k hk => by
            split; exact hcol _ k ht hk; exact hcol _ k hj hk
          rw [subI_add h hS, subI_add h hR, cf_addT (by rw [hS.1]; omega), cf_addT (by rw [hR.1]; exact hlN), hx l hlN, hx c (by omega), hP l hlN]
theorem red_piv_le : ∀ (n c : Nat) {R : List (List Int)} {piv : List Int} {det : Int}, (red p D fs n c R piv det).2.1.length ≤ piv.length + n
  | 0, _, _, _, _ => Nat.le_refl _
  | n + 1, c, R, piv, det => by
    rw [red]
    split
    · show piv.length ≤ _; omega
    · split
      · have := red_piv_le n (c + 1) (R := R) (piv := piv) (det := 0); omega
      · rename_i i _
        have := red_piv_le n (c + 1) (R := stepR p D fs R piv.length c i) (piv := piv ++ [(c : Int)]) (det := fmul p D fs (if i = piv.length then det else fsum p D 0 det (-1)) (cf (ra R i) c))
        simp at this
        omega
/-- the determinant is 0 exactly if a pivot is lacking -/
theorem red_det_piv (h : FV p D fs) {N : Nat} : ∀ (n c : Nat) {R : List (List Int)} {piv : List Int} {det : Int}, piv.length = c → R.length = c + n → Rect p D N R → El p D det → det ≠ 0 →
    ((red p D fs n c R piv det).2.2 = 0 ↔ (red p D fs n c R piv det).2.1.length < c + n)
  | 0, c, R, piv, det, hp, _, _, _, h0 => by show det = 0 ↔ piv.length < c + 0; exact ⟨fun e => absurd e h0, fun e => by omega⟩
  | n + 1, c, R, piv, det, hp, hR, rR, he, h0 => by
    rw [red, if_neg (by omega)]
    cases hz : fnz R piv.length c with
    | none =>
      have := red_piv_le (p := p) (D := D) (fs := fs) n (c + 1) (R := R) (piv := piv) (det := 0)
      exact ⟨fun _ => by show (red p D fs n (c + 1) R piv 0).2.1.length < _; omega, fun _ => red_det0 h.fa n _ _ _⟩
    | some i =>
      obtain ⟨h1, h2, h3, _⟩ := fnz_some hz
      have hx : El p D (if i = piv.length then det else fsum p D 0 det (-1)) ∧ (if i = piv.length then det else fsum p D 0 det (-1)) ≠ 0 := by
        split
        · exact ⟨he, h0⟩
        · exact ⟨fneg_el h.fa _, fneg_one_ne h.fa he h0⟩
      have := red_det_piv h n (c + 1) (R := stepR p D fs R piv.length c i) (piv := piv ++ [(c : Int)]) (det := fmul p D fs (if i = piv.length then det else fsum p D 0 det (-1)) (cf (ra R i) c)) (by simp; omega) (by rw [stepR_len]; omega) (rR.stepR h.fa (by omega) h2) (fmul_el h.fa _ _) (fun e => by
        rcases h.nzd hx.1 (inEl h.fa.pos (rR.ra h2).2 c) e with e | e
        · exact hx.2 e
        · exact h3 e)
      rwa [show c + 1 + n = c + (n + 1) by omega] at this
theorem inv_full (h : FV p D fs) {m W : List (List Int)} {n : Nat} (hm : Rect p D n m) (hl : m.length = n) (hW : Rect p D (n + n) W) (hWl : W.length = n) (hcol : ∀ j l, j < n → l < n → cf (ra W j) l = cf (ra m j) l) :
    ((red p D fs n 0 m [] 1).2.2 = 0 ↔ (red p D fs n 0 W [] 1).2.1.length < n) ∧ ((red p D fs n 0 m [] 1).2.2 ≠ 0 → red p D fs (n + n) 0 W [] 1 = red p D fs n 0 W [] 1 ∧ (red p D fs n 0 W [] 1).2.1.length = n) := by
  have e := red_cols h.fa (N := n) (M := n + n) (by omega) n 0 (R := m) (S := W) (piv := []) (det := 1) (by omega) (by omega) hm hW (fun j l hj hl' => hcol j l (by omega) hl')
  have d := red_det_piv h (N := n) n 0 (R := m) (piv := []) (det := 1) rfl (by omega) hm (el_one h.fa) (by decide)
  rw [Nat.zero_add] at d
  rw [← e] at d ⊢
  refine ⟨d, fun h0 => ?_⟩
  have hle := red_piv_le (p := p) (D := D) (fs := fs) n 0 (R := W) (piv := []) (det := 1)
  have hn : (red p D fs n 0 W [] 1).2.1.length = n := by
    have : ¬ (red p D fs n 0 W [] 1).2.1.length < n := fun hh => h0 (d.2 hh)
    simp at hle; omega
  refine ⟨?_, hn⟩
  rw [red_split, red_full (by rw [hn, red_len, hWl]; exact Nat.le_refl _)]
/-- rows beside others -/
def unitL (n j : Nat) : List Int := (List.replicate n 0).set j 1
theorem unitL_len (n j : Nat) : (unitL n j).length = n := by simp [unitL]
def wideI (m : List (List Int)) (n k : Nat) : List (List Int) := mi m fun j r => if j < k then r ++ unitL n j else r
theorem wideI_len (m : List (List Int)) (n k : Nat) : (wideI m n k).length = m.length := mi_len _ _
theorem wideI_0 (m : List (List Int)) (n : Nat) : wideI m n 0 = m := ra_ext (mi_len _ _) fun j hj => by rw [wideI_len] at hj; unfold wideI; rw [ra_mi hj, if_neg (by omega)]
theorem ra_wideI {m : List (List Int)} {n k : Nat} (h : k < m.length) : ra (wideI m n k) k = ra m k := by unfold wideI; rw [ra_mi h, if_neg (by omega)]
theorem ra_wideI_all {m : List (List Int)} {n j : Nat} (h : j < m.length) : ra (wideI m n m.length) j = ra m j ++ unitL n j := by unfold wideI; rw [ra_mi h, if_pos h]
theorem wideI_set {m : List (List Int)} {n k : Nat} (h : k < m.length) : (wideI m n k).set k (ra m k ++ unitL n k) = wideI m n (k + 1) := by
  refine ra_ext (by rw [List.length_set, wideI_len, wideI_len]) fun j hj => ?_
  rw [List.length_set, wideI_len] at hj
  rw [ra_set (by rw [wideI_len]; exact h)]
  unfold wideI
  rw [ra_mi hj, ra_mi hj]
  by_cases e : k = j
  · subst e; rw [if_pos rfl, if_pos (by omega)]
  · rw [if_neg e]
    by_cases h1 : j < k
    · rw [if_pos h1, if_pos (by omega)]
    · rw [if_neg h1, if_neg (by omega)]
theorem wideI_rect (h : FA p D fs) {n : Nat} {m : List (List Int)} (hm : Rect p D n m) : Rect p D (n + n) (wideI m n m.length) := Rect.mi fun j hj => by
  rw [if_pos hj]
  refine ⟨by rw [List.length_append, (hm.ra hj).1, unitL_len], fun x hx => ?_⟩
  rcases List.mem_append.1 hx with hx | hx
  · exact (hm.ra hj).2 x hx
  · rcases List.mem_or_eq_of_mem_set hx with hx | rfl
    · have := List.eq_of_mem_replicate hx; subst this; exact el_zero h
    · exact el_one h
theorem wideI_col {n : Nat} {m : List (List Int)} (hm : Rect p D n m) (hl : m.length = n) : ∀ j l, j < n → l < n → cf (ra (wideI m n m.length) j) l = cf (ra m j) l := fun j l hj hl' => by
  rw [ra_wideI_all (by omega), cf_appL (by rw [(hm.ra (by omega)).1]; exact hl')]
/-- the k first rows, as they are appended -/
theorem wideI_take {n k : Nat} {m : List (List Int)} (h : k < m.length) : (wideI m n m.length).take (k + 1) = (wideI m n m.length).take k ++ [ra m k ++ unitL n k] := by
  rw [List.take_succ_eq_append_getElem (by rw [wideI_len]; exact h), ← ra_eq (by rw [wideI_len]; exact h), ra_wideI_all h]
end

end Go.Proofs.Ytpfgbbbjldpnnaa
