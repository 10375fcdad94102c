/- The texts of this claim, run 3: PCyc2 PRank. -/
import Derived.Test.YtljemlfocajhnaaGreatK1
import Derived.Test.YtljemlfocajhnaaGreatK2

section
/- Cycles of a permutation, in plain terms. The list of the cycles of a permutation: how many, how long, what is seen; powers. -/
namespace Go.Proofs.YtljemlfocajhnaaGreat
set_option linter.unusedSimpArgs false
set_option linter.unusedVariables false

theorem it_add (p : Nat → Nat) (a : Nat) : ∀ (b x : Nat), it p (b + a) x = it p b (it p a x)
  | 0, x => by rw [Nat.zero_add]; rfl
  | b + 1, x => by
    rw [show b + 1 + a = (b + a) + 1 by omega]
    show p (it p (b + a) x) = p (it p b (it p a x))
    rw [it_add p a b x]
theorem it_comm (p : Nat → Nat) (a b x : Nat) : it p a (it p b x) = it p b (it p a x) := by rw [← it_add, ← it_add, Nat.add_comm]
section
variable {n : Nat} {p : Nat → Nat}
theorem it_inj (h : Bij n p) {x y : Nat} (hx : x < n) (hy : y < n) : ∀ {k : Nat}, it p k x = it p k y → x = y
  | 0, e => e
  | k + 1, e => it_inj h hx hy (k := k) (h.inj _ _ (it_lt h hx k) (it_lt h hy k) e)
theorem period (h : Bij n p) {x : Nat} (hx : x < n) : ∃ L, 1 ≤ L ∧ L ≤ n ∧ it p L x = x := by
  refine Classical.byContradiction fun hno => ?_
  have hnd : ((List.range (n + 1)).map fun k => it p k x).Nodup := by
    rw [List.nodup_iff_pairwise_ne, List.pairwise_iff_getElem]
    intro a b ha hb hab
    simp only [List.length_map, List.length_range] at ha hb
    simp only [List.getElem_map, List.getElem_range]
    intro e
    refine hno ⟨b - a, by omega, by omega, ?_⟩
    have e2 : it p b x = it p a (it p (b - a) x) := by rw [← it_add]; congr 1; omega
    rw [e2] at e
    exact (it_inj h hx (it_lt h hx _) e).symm
  have hsub : ((List.range (n + 1)).map fun k => it p k x) ⊆ List.range n := fun z hz => by
    obtain ⟨k, _, rfl⟩ := List.mem_map.1 hz
    exact List.mem_range.2 (it_lt h hx k)
  have := List.Nodup.length_le_of_subset hnd hsub
  simp at this
  omega
/-- the first number from k on, of the next f, at which x is met again -/
def clS (p : Nat → Nat) (x : Nat) : Nat → Nat → Nat
  | 0, k => k
  | f + 1, k => if it p k x = x then k else clS p x f (k + 1)
theorem clS_spec (p : Nat → Nat) (x : Nat) : ∀ (f k L : Nat), k ≤ L → L ≤ k + f → it p L x = x → k ≤ clS p x f k ∧ clS p x f k ≤ L ∧ it p (clS p x f k) x = x ∧ ∀ m, k ≤ m → m < clS p x f k → it p m x ≠ x
  | 0, k, L, h1, h2, h3 => by
    have : L = k := by omega
    subst this
    exact ⟨Nat.le_refl _, Nat.le_refl _, h3, fun m hm hm2 => by have : m < L := hm2; omega⟩
  | f + 1, k, L, h1, h2, h3 => by
    rw [clS]
    split
    · rename_i e
      exact ⟨Nat.le_refl _, h1, e, fun m hm hm2 => by omega⟩
    · rename_i e
      have hne : k ≠ L := fun e2 => e (e2 ▸ h3)
      obtain ⟨a, b, c, d⟩ := clS_spec p x f (k + 1) L (by omega) (by omega) h3
      refine ⟨by omega, b, c, fun m hm hm2 => ?_⟩
      by_cases em : m = k
      · rw [em]; exact e
      · exact d m (by omega) hm2
/-- the length of the cycle of x -/
def clen (n : Nat) (p : Nat → Nat) (x : Nat) : Nat := clS p x n 1
structure ClOk (n : Nat) (p : Nat → Nat) (x L : Nat) : Prop where
  pos : 1 ≤ L
  le : L ≤ n
  back : it p L x = x
  min : ∀ m, 1 ≤ m → m < L → it p m x ≠ x
theorem clen_ok (h : Bij n p) {x : Nat} (hx : x < n) : ClOk n p x (clen n p x) := by
  obtain ⟨L, h1, h2, h3⟩ := period h hx
  obtain ⟨a, b, c, d⟩ := clS_spec p x n 1 L h1 (by omega) h3
  exact ⟨a, Nat.le_trans b h2, c, d⟩
namespace ClOk
variable {x L : Nat}
theorem mul (h : ClOk n p x L) : ∀ k, it p (L * k) x = x
  | 0 => rfl
  | k + 1 => by rw [Nat.mul_succ, it_add, h.back, h.mul k]
theorem mod (h : ClOk n p x L) (k : Nat) : it p (k % L) x = it p k x := by
  conv => rhs; rw [← Nat.mod_add_div k L, it_add, h.mul]
theorem inj (h : ClOk n p x L) (hb : Bij n p) (hx : x < n) {i j : Nat} (hi : i < L) (hj : j < L) (e : it p i x = it p j x) : i = j := by
  have key : ∀ {i j : Nat}, i < j → j < L → it p i x ≠ it p j x := fun {i j} hij hj e => by
    have e2 : it p j x = it p i (it p (j - i) x) := by rw [← it_add]; congr 1; omega
    rw [e2] at e
    exact h.min (j - i) (by omega) (by omega) (it_inj hb hx (it_lt hb hx _) e).symm
  rcases Nat.lt_trichotomy i j with hlt | heq | hgt
  · exact absurd e (key hlt hj)
  · exact heq
  · exact absurd e.symm (key hgt hi)
/-- all of one cycle have the same length -/
theorem it (h : ClOk n p x L) (hb : Bij n p) (hx : x < n) (k : Nat) : ClOk n p (Go.Proofs.YtljemlfocajhnaaGreat.it p k x) L where
  pos := h.pos
  le := h.le
  back := by rw [it_comm, h.back]
  min m h1 h2 e := by
    rw [it_comm] at e
    exact h.min m h1 h2 (it_inj hb (it_lt hb hx m) hx e)
end ClOk
/-- the cycle of x, x first -/
def cycL (n : Nat) (p : Nat → Nat) (x : Nat) : List Nat := (List.range (clen n p x)).map fun k => it p k x
theorem mem_cycL (h : Bij n p) {x : Nat} (hx : x < n) {y : Nat} : y ∈ cycL n p x ↔ ∃ k, y = it p k x := by
  have hc := clen_ok h hx
  constructor
  · intro hy
    obtain ⟨k, _, rfl⟩ := List.mem_map.1 hy
    exact ⟨k, rfl⟩
  · rintro ⟨k, rfl⟩
    have := hc.pos
    exact List.mem_map.2 ⟨k % clen n p x, List.mem_range.2 (Nat.mod_lt _ (by omega)), hc.mod k⟩
/-- cycles are the same or apart -/
theorem cycL_sym (h : Bij n p) {x y : Nat} (hx : x < n) (hy : y ∈ cycL n p x) : x ∈ cycL n p y := by
  obtain ⟨k, rfl⟩ := (mem_cycL h hx).1 hy
  have hc := clen_ok h hx
  refine (mem_cycL h (it_lt h hx k)).2 ⟨(clen n p x - 1) * k, ?_⟩
  have hp := hc.pos
  rw [← it_add]
  obtain ⟨m, hm⟩ := Nat.exists_eq_add_of_le' hp
  rw [hm, Nat.add_sub_cancel, show m * k + k = (m + 1) * k by rw [Nat.succ_mul], ← hm, hc.mul]
theorem cycL_trans (h : Bij n p) {x y z : Nat} (hx : x < n) (hy : y ∈ cycL n p x) (hz : z ∈ cycL n p y) : z ∈ cycL n p x := by
  obtain ⟨k, rfl⟩ := (mem_cycL h hx).1 hy
  obtain ⟨l, rfl⟩ := (mem_cycL h (it_lt h hx k)).1 hz
  exact (mem_cycL h hx).2 ⟨l + k, (it_add p k l x).symm⟩
/-- x leads exactly if no smaller number's cycle has it -/
theorem lead_iff (h : Bij n p) {x : Nat} (hx : x < n) : Lead p x ↔ ∀ y, y < x → x ∉ cycL n p y := by
  constructor
  · intro hl y hyx hm
    obtain ⟨k, e⟩ := (mem_cycL h hx).1 (cycL_sym h (by omega) hm)
    have := hl k
    omega
  · intro hno k
    refine Nat.le_of_not_lt fun hlt => ?_
    have hm : it p k x ∈ cycL n p x := (mem_cycL h hx).2 ⟨k, rfl⟩
    exact hno _ hlt (cycL_sym h hx hm)
end

open Classical in
/-- the cycles that the numbers below m lead -/
noncomputable def cycs (n : Nat) (p : Nat → Nat) : Nat → List (List Nat)
  | 0 => []
  | m + 1 => cycs n p m ++ if Lead p m then [cycL n p m] else []
section
variable {n : Nat} {p : Nat → Nat}
theorem mem_cycs (h : Bij n p) {y : Nat} : ∀ {m : Nat}, m ≤ n → (y ∈ (cycs n p m).flatten ↔ ∃ x, x < m ∧ y ∈ cycL n p x)
  | 0, _ => by simp [cycs]
  | m + 1, hm => by
    have ih := mem_cycs h (y := y) (m := m) (by omega)
    rw [cycs, List.flatten_append, List.mem_append, ih]
    have hmn : m < n := by omega
    constructor
    · rintro (⟨x, hx, hy⟩ | hy)
      · exact ⟨x, by omega, hy⟩
      · split at hy
        · exact ⟨m, by omega, by simpa using hy⟩
        · simp at hy
    · rintro ⟨x, hx, hy⟩
      by_cases e : x = m
      · subst e
        by_cases hl : Lead p x
        · right; rw [if_pos hl]; simpa using hy
        · left
          have hn := fun hh => hl ((lead_iff h hmn).2 hh)
          refine Classical.byContradiction fun hno => hn fun z hz hm2 => hno ⟨z, hz, cycL_trans h (by omega) hm2 hy⟩
      · exact .inl ⟨x, by omega, hy⟩
/-- a number is a lead exactly if it has not been seen -/
theorem lead_seen (h : Bij n p) {x : Nat} (hx : x < n) : Lead p x ↔ x ∉ (cycs n p x).flatten := by
  rw [mem_cycs h (by omega), lead_iff h hx]
  exact ⟨fun a ⟨y, hy, hm⟩ => a y hy hm, fun a y hy hm => a ⟨y, hy, hm⟩⟩
/-- all of a lead's cycle has not been seen -/
theorem lead_fresh (h : Bij n p) {x y : Nat} (hx : x < n) (hl : Lead p x) (hy : y ∈ cycL n p x) : y ∉ (cycs n p x).flatten := fun hm => by
  obtain ⟨z, hz, hyz⟩ := (mem_cycs h (by omega)).1 hm
  exact (lead_iff h hx).1 hl z hz (cycL_trans h (by omega) hyz (cycL_sym h hx hy))
end

end Go.Proofs.YtljemlfocajhnaaGreat
end

section
/- Ranks of subsets and next subsets, in plain terms. -/
namespace Go.Proofs.YtljemlfocajhnaaGreat
set_option linter.unusedSimpArgs false
set_option linter.unusedVariables false
/-- a set at the end -/
theorem inc_len {n : Int} : ∀ {xs : List Int} {last : Int}, incB last n xs = true → last < n → (xs.length : Int) ≤ n - 1 - last
  | [], last, h, h1 => by simp; omega
  | x :: r, last, h, h1 => by
    rw [incB] at h
    split at h
    · cases h
    · have := inc_len h (by omega)
      simp only [List.length_cons]; push_cast; omega

end Go.Proofs.YtljemlfocajhnaaGreat
end
