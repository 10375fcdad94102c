/- Linear equations and inverses by row reduction, in plain terms. -/
import Derived.Test.YtmkfafhgcnbcaaaPRed
namespace Go.Proofs.Ytmkfafhgcnbcaaa
set_option linter.unusedSimpArgs false
set_option linter.unusedVariables false
section
variable {p : Int} {D : Nat} {fs : List Int}
theorem red_full {R : List (List Int)} {piv : List Int} {det : Int} (h : R.length ≤ piv.length) : ∀ (n c : Nat), red p D fs n c R piv det = (R, piv, det)
  | 0, _ => rfl
  | n + 1, c => by rw [red, if_pos h]
/-- the columns may be taken in two parts -/
theorem red_split : ∀ (a b c : Nat) (R : List (List Int)) (piv : List Int) (det : Int), red p D fs (a + b) c R piv det = red p D fs b (c + a) (red p D fs a c R piv det).1 (red p D fs a c R piv det).2.1 (red p D fs a c R piv det).2.2
  | 0, b, c, R, piv, det => by rw [Nat.zero_add]; rfl
  | a + 1, b, c, R, piv, det => by
    by_cases h : R.length ≤ piv.length
    · rw [red_full h, red_full h, red_full h]
    · rw [show a + 1 + b = a + b + 1 by omega, red, red, if_neg h, if_neg h]
      cases fnz R piv.length c with
      | none => show red p D fs (a + b) (c + 1) R piv 0 = _; rw [red_split a b]; congr 1; omega
      | some i => show red p D fs (a + b) (c + 1) _ _ _ = _; rw [red_split a b]; congr 1; omega
/-- the pivots are columns -/
theorem red_piv : ∀ (n c : Nat) {R : List (List Int)} {piv : List Int} {det : Int}, (∀ x ∈ piv, 0 ≤ x ∧ x < c) → ∀ x ∈ (red p D fs n c R piv det).2.1, 0 ≤ x ∧ x < (c + n : Nat)
  | 0, c, _, _, _, h => fun x hx => by have := h x hx; push_cast; omega
  | n + 1, c, R, piv, det, h => by
    rw [red]
    have up : ∀ x ∈ piv, 0 ≤ x ∧ x < ((c + 1 : Nat) : Int) := fun x hx => by have := h x hx; push_cast; omega
    by_cases h0 : R.length ≤ piv.length
    · rw [if_pos h0]; intro x hx; have := h x hx; push_cast; omega
    · rw [if_neg h0]
      cases fnz R piv.length c with
      | none => have := red_piv n (c + 1) (R := R) (det := 0) up; rwa [show c + 1 + n = c + (n + 1) by omega] at this
      | some i =>
        have := red_piv n (c + 1) (R := stepR p D fs R piv.length c i) (piv := piv ++ [(c : Int)]) (det := fmul p D fs (if i = piv.length then det else fsum p D 0 det (-1)) (cf (ra R i) c)) (fun x hx => by
          rcases List.mem_append.1 hx with hx | hx
          · exact up x hx
          · simp at hx; subst hx; push_cast; omega)
        rwa [show c + 1 + n = c + (n + 1) by omega] at this
theorem red_len : ∀ (n c : Nat) {R : List (List Int)} {piv : List Int} {det : Int}, (red p D fs n c R piv det).1.length = R.length
  | 0, _, _, _, _ => rfl
  | n + 1, c, R, piv, det => by
    rw [red]
    by_cases h0 : R.length ≤ piv.length
    · rw [if_pos h0]
    · rw [if_neg h0]
      cases fnz R piv.length c with
      | none => exact red_len n (c + 1)
      | some i => exact (red_len n (c + 1)).trans stepR_len
/-- k entries of the solution -/
def solP (R : List (List Int)) (piv : List Int) (n : Nat) : Nat → List Int
  | 0 => List.replicate n 0
  | k + 1 => (solP R piv n k).set (cf piv k).toNat (cf (ra R k) n)
theorem solP_len (R : List (List Int)) (piv : List Int) (n : Nat) : ∀ k, (solP R piv n k).length = n
  | 0 => by simp [solP]
  | k + 1 => by rw [solP, List.length_set, solP_len]
/-- whether there is a solution: no row behind the pivots is left -/
def solvable (R : List (List Int)) (t n : Nat) : Bool := (fnz R t n).isNone
theorem red_last {R : List (List Int)} {piv : List Int} {det : Int} {n : Nat} : red p D fs 1 n R piv det = if R.length ≤ piv.length then (R, piv, det) else match fnz R piv.length n with
    | none => (R, piv, 0)
    | some i => (stepR p D fs R piv.length n i, piv ++ [(n : Int)], fmul p D fs (if i = piv.length then det else fsum p D 0 det (-1)) (cf (ra R i) n)) := by
  rw [red]; split
  · rfl
  · cases fnz R piv.length n <;> rfl
/-- rows with one more element each -/
def wide (m : List (List Int)) (b : List Int) (k : Nat) : List (List Int) := mi m fun j r => if j < k then r ++ [cf b j] else r
theorem wide_len (m : List (List Int)) (b : List Int) (k : Nat) : (wide m b k).length = m.length := mi_len _ _
theorem wide_0 (m : List (List Int)) (b : List Int) : wide m b 0 = m := ra_ext (mi_len _ _) fun j hj => by rw [wide_len] at hj; unfold wide; rw [ra_mi hj, if_neg (by omega)]
theorem ra_wide {m : List (List Int)} {b : List Int} {k : Nat} (h : k < m.length) : ra (wide m b k) k = ra m k := by unfold wide; rw [ra_mi h, if_neg (by omega)]
theorem wide_set {m : List (List Int)} {b : List Int} {k : Nat} (h : k < m.length) : (wide m b k).set k (ra m k ++ [cf b k]) = wide m b (k + 1) := by
  refine ra_ext (by rw [List.length_set, wide_len, wide_len]) fun j hj => ?_
  rw [List.length_set, wide_len] at hj
  rw [ra_set (by rw [wide_len]; exact h)]
  unfold wide
  rw [ra_mi hj, ra_mi hj]
  by_cases e : k = j
  · subst e; rw [if_pos rfl, if_pos (by omega)]
  · rw [if_neg e]
    by_cases h1 : j < k
    · rw [if_pos h1, if_pos (by omega)]
    · rw [if_neg h1, if_neg (by omega)]
theorem wide_rect {n : Nat} {m : List (List Int)} {b : List Int} (h : Rect p D n m) (hb : In (p ^ D) b) (hl : b.length = m.length) : Rect p D (n + 1) (wide m b m.length) := Rect.mi fun j hj => by
  rw [if_pos hj]
  refine ⟨by rw [List.length_append, (h.ra hj).1]; rfl, fun x hx => ?_⟩
  rcases List.mem_append.1 hx with hx | hx
  · exact (h.ra hj).2 x hx
  · simp at hx; subst hx; exact hb _ (cf_mem (by omega))
end
end Go.Proofs.Ytmkfafhgcnbcaaa
