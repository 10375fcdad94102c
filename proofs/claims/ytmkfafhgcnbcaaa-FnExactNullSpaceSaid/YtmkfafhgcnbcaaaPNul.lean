/- Bases of null spaces, in plain terms. -/
import Derived.Test.YtmkfafhgcnbcaaaPInv
namespace Go.Proofs.Ytmkfafhgcnbcaaa
set_option linter.unusedSimpArgs false
set_option linter.unusedVariables false
/-- i entries of the vector of the free column k -/
def nulV (p : Int) (D : Nat) (R : List (List Int)) (piv : List Int) (n k : Nat) : Nat → List Int
  | 0 => unitL n k
  | i + 1 => (nulV p D R piv n k i).set (cf piv i).toNat (fneg p D (cf (ra R i) k))
/-- the vectors of the free columns below k -/
def nulB (p : Int) (D : Nat) (R : List (List Int)) (piv : List Int) (n : Nat) : Nat → List (List Int)
  | 0 => []
  | k + 1 => if (k : Int) ∈ piv then nulB p D R piv n k else nulB p D R piv n k ++ [nulV p D R piv n k piv.length]
section
variable {p : Int} {D : Nat} {fs : List Int} {R : List (List Int)} {piv : List Int} {n k : Nat}
theorem nulV_len : ∀ i, (nulV p D R piv n k i).length = n
  | 0 => unitL_len _ _
  | i + 1 => by rw [nulV, List.length_set, nulV_len i]
theorem nulV_in (h : FA p D fs) : ∀ i, In (p ^ D) (nulV p D R piv n k i)
  | 0 => fun x hx => by
    rcases List.mem_or_eq_of_mem_set hx with hx | rfl
    · have := List.eq_of_mem_replicate hx; subst this; exact el_zero h
    · exact el_one h
  | i + 1 => fun x hx => by
    rcases List.mem_or_eq_of_mem_set hx with hx | rfl
    · exact nulV_in h i x hx
    · exact fneg_el h _
theorem nulB_yes (h : (k : Int) ∈ piv) : nulB p D R piv n (k + 1) = nulB p D R piv n k := by rw [nulB, if_pos h]
theorem nulB_no (h : (k : Int) ∉ piv) : nulB p D R piv n (k + 1) = nulB p D R piv n k ++ [nulV p D R piv n k piv.length] := by rw [nulB, if_neg h]
theorem nulB_le : ∀ k, (nulB p D R piv n k).length ≤ k
  | 0 => by simp [nulB]
  | k + 1 => by
    have := nulB_le k
    rw [nulB]; split
    · omega
    · simp; omega
theorem nulB_rect (h : FA p D fs) : ∀ k, Rect p D n (nulB p D R piv n k)
  | 0 => by simp [nulB, Rect]
  | k + 1 => by
    rw [nulB]; split
    · exact nulB_rect h k
    · intro r hr
      rcases List.mem_append.1 hr with hr | hr
      · exact nulB_rect h k r hr
      · simp at hr; subst hr; exact ⟨nulV_len _, nulV_in h _⟩
theorem nulV_take {t : Nat} : ∀ i, i ≤ t → nulV p D (R.take t) piv n k i = nulV p D R piv n k i
  | 0, _ => rfl
  | i + 1, hi => by
    have : ra (R.take t) i = ra R i := by unfold ra; rw [List.getD_eq_getElem?_getD, List.getD_eq_getElem?_getD, List.getElem?_take, if_pos (by omega)]
    rw [nulV, nulV, nulV_take i (by omega), this]
theorem nulB_take : ∀ k, nulB p D (R.take piv.length) piv n k = nulB p D R piv n k
  | 0 => rfl
  | k + 1 => by rw [nulB, nulB, nulB_take k, nulV_take _ (Nat.le_refl _)]
end
/-- the reduced basis of the null space -/
def nulX (p : Int) (D : Nat) (fs : List Int) (m : List (List Int)) (n : Nat) : List (List Int) :=
  (red p D fs n 0 (nulB p D (red p D fs n 0 m [] 1).1 (red p D fs n 0 m [] 1).2.1 n n) [] 1).1.take (red p D fs n 0 (nulB p D (red p D fs n 0 m [] 1).1 (red p D fs n 0 m [] 1).2.1 n n) [] 1).2.1.length
theorem red_nil (p : Int) (D : Nat) (fs : List Int) : ∀ n c, red p D fs n c [] [] 1 = ([], [], 1)
  | 0, _ => rfl
  | n + 1, c => by rw [red, if_pos (by simp)]
end Go.Proofs.Ytmkfafhgcnbcaaa
