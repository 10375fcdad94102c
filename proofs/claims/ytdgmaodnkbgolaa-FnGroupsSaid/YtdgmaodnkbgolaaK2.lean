/- The texts of this claim, run 2: PSet PCyc2. -/
import Derived.Test.YtdgmaodnkbgolaaK1

section
/- Sets of small numbers as rising lists, in plain terms. -/
namespace Go.Proofs.Ytdgmaodnkbgolaa
set_option linter.unusedSimpArgs false
set_option linter.unusedVariables false

/-- increasing numbers from last on, below n -/
def incB (last n : Int) : List Int → Bool
  | [] => true
  | x :: xs => if x ≤ last ∨ n ≤ x then false else incB x n xs

theorem incB_gt : ∀ {xs : List Int} {last n : Int}, incB last n xs = true → ∀ x ∈ xs, last < x ∧ x < n
  | [], _, _, _, x, hx => by simp at hx
  | y :: ys, last, n, h, x, hx => by
    unfold incB at h
    split at h
    · cases h
    · rename_i hn
      rcases List.mem_cons.1 hx with rfl | hx
      · omega
      · have := incB_gt h x hx; omega

/-- a set of numbers below 32 -/
def IsSet (a : List Int) : Prop := incB (-1) 32 a = true
instance (a : List Int) : Decidable (IsSet a) := inferInstanceAs (Decidable (incB (-1) 32 a = true))
end Go.Proofs.Ytdgmaodnkbgolaa
end

section
/- Cycles of a permutation, in plain terms. The list of the cycles of a permutation: how many, how long, what is seen; powers. -/
namespace Go.Proofs.Ytdgmaodnkbgolaa
set_option linter.unusedSimpArgs false
set_option linter.unusedVariables false

theorem it_add (p : Nat → Nat) (a : Nat) : ∀ (b x : Nat), it p (b + a) x = it p b (it p a x)
  | 0, x => by rw [Nat.zero_add]; rfl
  | b + 1, x => by
    rw [show b + 1 + a = (b + a) + 1 by omega]
    show p (it p (b + a) x) = p (it p b (it p a x))
    rw [it_add p a b x]
theorem it_comm (p : Nat → Nat) (a b x : Nat) : it p a (it p b x) = it p b (it p a x) := by rw [← it_add, ← it_add, Nat.add_comm]
section
variable {n : Nat} {p : Nat → Nat}
theorem it_inj (h : Bij n p) {x y : Nat} (hx : x < n) (hy : y < n) : ∀ {k : Nat}, it p k x = it p k y → x = y
  | 0, e => e
  | k + 1, e => it_inj h hx hy (k := k) (h.inj _ _ (it_lt h hx k) (it_lt h hy k) e)
theorem period (h : Bij n p) {x : Nat} (hx : x < n) : ∃ L, 1 ≤ L ∧ L ≤ n ∧ it p L x = x := by
  refine Classical.byContradiction fun hno => ?_
  have hnd : ((List.range (n + 1)).map fun k => it p k x).Nodup := by
    rw [List.nodup_iff_pairwise_ne, List.pairwise_iff_getElem]
    intro a b ha hb hab
    simp only [List.length_map, List.length_range] at ha hb
    simp only [List.getElem_map, List.getElem_range]
    intro e
    refine hno ⟨b - a, by omega, by omega, ?_⟩
    have e2 : it p b x = it p a (it p (b - a) x) := by rw [← it_add]; congr 1; omega
    rw [e2] at e
    exact (it_inj h hx (it_lt h hx _) e).symm
  have hsub : ((List.range (n + 1)).map fun k => it p k x) ⊆ List.range n := fun z hz => by
    obtain ⟨k, _, rfl⟩ := List.mem_map.1 hz
    exact List.mem_range.2 (it_lt h hx k)
  have := List.Nodup.length_le_of_subset hnd hsub
  simp at this
  omega
/-- the first number from k on, of the next f, at which x is met again -/
def clS (p : Nat → Nat) (x : Nat) : Nat → Nat → Nat
  | 0, k => k
  | f + 1, k => if it p k x = x then k else clS p x f (k + 1)
theorem clS_spec (p : Nat → Nat) (x : Nat) : ∀ (f k L : Nat), k ≤ L → L ≤ k + f → it p L x = x → k ≤ clS p x f k ∧ clS p x f k ≤ L ∧ it p (clS p x f k) x = x ∧ ∀ m, k ≤ m → m < clS p x f k → it p m x ≠ x
  | 0, k, L, h1, h2, h3 => by
    have : L = k := by omega
    subst this
    exact ⟨Nat.le_refl _, Nat.le_refl _, h3, fun m hm hm2 => by have : m < L := hm2; omega⟩
  | f + 1, k, L, h1, h2, h3 => by
    rw [clS]
    split
    · rename_i e
      exact ⟨Nat.le_refl _, h1, e, fun m hm hm2 => by omega⟩
    · rename_i e
      have hne : k ≠ L := fun e2 => e (e2 ▸ h3)
      obtain ⟨a, b, c, d⟩ := clS_spec p x f (k + 1) L (by omega) (by omega) h3
      refine ⟨by omega, b, c, fun m hm hm2 => ?_⟩
      by_cases em : m = k
      · rw [em]; exact e
      · exact d m (by omega) hm2
/-- the length of the cycle of x -/
def clen (n : Nat) (p : Nat → Nat) (x : Nat) : Nat := clS p x n 1
structure ClOk (n : Nat) (p : Nat → Nat) (x L : Nat) : Prop where
  pos : 1 ≤ L
  le : L ≤ n
  back : it p L x = x
  min : ∀ m, 1 ≤ m → m < L → it p m x ≠ x
theorem clen_ok (h : Bij n p) {x : Nat} (hx : x < n) : ClOk n p x (clen n p x) := by
  obtain ⟨L, h1, h2, h3⟩ := period h hx
  obtain ⟨a, b, c, d⟩ := clS_spec p x n 1 L h1 (by omega) h3
  exact ⟨a, Nat.le_trans b h2, c, d⟩
namespace ClOk
variable {x L : Nat}
theorem mul (h : ClOk n p x L) : ∀ k, it p (L * k) x = x
  | 0 => rfl
  | k + 1 => by rw [Nat.mul_succ, it_add, h.back, h.mul k]
theorem mod (h : ClOk n p x L) (k : Nat) : it p (k % L) x = it p k x := by
  conv => rhs; rw [← Nat.mod_add_div k L, it_add, h.mul]
theorem inj (h : ClOk n p x L) (hb : Bij n p) (hx : x < n) {i j : Nat} (hi : i < L) (hj : j < L) (e : it p i x = it p j x) : i = j := by
  have key : ∀ {i j : Nat}, i < j → j < L → it p i x ≠ it p j x := fun {i j} hij hj e => by
    have e2 : it p j x = it p i (it p (j - i) x) := by rw [← it_add]; congr 1; omega
    rw [e2] at e
    exact h.min (j - i) (by omega) (by omega) (it_inj hb hx (it_lt hb hx _) e).symm
  rcases Nat.lt_trichotomy i j with hlt | heq | hgt
  · exact absurd e (key hlt hj)
  · exact heq
  · exact absurd e.symm (key hgt hi)
/-- all of one cycle have the same length -/
theorem it (h : ClOk n p x L) (hb : Bij n p) (hx : x < n) (k : Nat) : ClOk n p (Go.Proofs.Ytdgmaodnkbgolaa.it p k x) L where
  pos := h.pos
  le := h.le
  back := by rw [it_comm, h.back]
  min m h1 h2 e := by
    rw [it_comm] at e
    exact h.min m h1 h2 (it_inj hb (it_lt hb hx m) hx e)
theorem uniq {M : Nat} (h : ClOk n p x L) (h' : ClOk n p x M) : L = M := by
  rcases Nat.lt_trichotomy L M with e | e | e
  · exact absurd h.back (h'.min L h.pos e)
  · exact e
  · exact absurd h'.back (h.min M h'.pos e)
end ClOk
/-- the cycle of x, x first -/
def cycL (n : Nat) (p : Nat → Nat) (x : Nat) : List Nat := (List.range (clen n p x)).map fun k => it p k x
theorem mem_cycL (h : Bij n p) {x : Nat} (hx : x < n) {y : Nat} : y ∈ cycL n p x ↔ ∃ k, y = it p k x := by
  have hc := clen_ok h hx
  constructor
  · intro hy
    obtain ⟨k, _, rfl⟩ := List.mem_map.1 hy
    exact ⟨k, rfl⟩
  · rintro ⟨k, rfl⟩
    have := hc.pos
    exact List.mem_map.2 ⟨k % clen n p x, List.mem_range.2 (Nat.mod_lt _ (by omega)), hc.mod k⟩
end

open Classical in
/-- the cycles that the numbers below m lead -/
noncomputable def cycs (n : Nat) (p : Nat → Nat) : Nat → List (List Nat)
  | 0 => []
  | m + 1 => cycs n p m ++ if Lead p m then [cycL n p m] else []
section
variable {n : Nat} {p : Nat → Nat}
end

end Go.Proofs.Ytdgmaodnkbgolaa
end
