/- The list of the cycles of a permutation: how many, how long, what is seen; powers. -/
import Derived.Test.YtpfgbbbjldpnnaaPCyc
namespace Go.Proofs.Ytpfgbbbjldpnnaa
set_option linter.unusedSimpArgs false
set_option linter.unusedVariables false
open Classical in
/-- the cycles that the numbers below m lead -/
noncomputable def cycs (n : Nat) (p : Nat → Nat) : Nat → List (List Nat)
  | 0 => []
  | m + 1 => cycs n p m ++ if Lead p m then [cycL n p m] else []
section
variable {n : Nat} {p : Nat → Nat}
theorem cycs_len (n : Nat) (p : Nat → Nat) : ∀ m, (cycs n p m).length = cyc m p
  | 0 => rfl
  | m + 1 => by
    rw [cycs, cyc, List.length_append, cycs_len n p m]
    split <;> rfl
theorem mem_cycs (h : Bij n p) {y : Nat} : ∀ {m : Nat}, m ≤ n → (y ∈ (cycs n p m).flatten ↔ ∃ x, x < m ∧ y ∈ cycL n p x)
  | 0, _ => by simp [cycs]
  | m + 1, hm => by
    have ih := mem_cycs h (y := y) (m := m) (by omega)
    rw [cycs, List.flatten_append, List.mem_append, ih]
    have hmn : m < n := by omega
    constructor
    · rintro (⟨x, hx, hy⟩ | hy)
      · exact ⟨x, by omega, hy⟩
      · split at hy
        · exact ⟨m, by omega, by simpa using hy⟩
        · simp at hy
    · rintro ⟨x, hx, hy⟩
      by_cases e : x = m
      · subst e
        by_cases hl : Lead p x
        · right; rw [if_pos hl]; simpa using hy
        · left
          have hn := fun hh => hl ((lead_iff h hmn).2 hh)
          refine Classical.byContradiction fun hno => hn fun z hz hm2 => hno ⟨z, hz, cycL_trans h (by omega) hm2 hy⟩
      · exact .inl ⟨x, by omega, hy⟩
/-- a number is a lead exactly if it has not been seen -/
theorem lead_seen (h : Bij n p) {x : Nat} (hx : x < n) : Lead p x ↔ x ∉ (cycs n p x).flatten := by
  rw [mem_cycs h (by omega), lead_iff h hx]
  exact ⟨fun a ⟨y, hy, hm⟩ => a y hy hm, fun a y hy hm => a ⟨y, hy, hm⟩⟩
/-- all of a lead's cycle has not been seen -/
theorem lead_fresh (h : Bij n p) {x y : Nat} (hx : x < n) (hl : Lead p x) (hy : y ∈ cycL n p x) : y ∉ (cycs n p x).flatten := fun hm => by
  obtain ⟨z, hz, hyz⟩ := (mem_cycs h (by omega)).1 hm
  exact (lead_iff h hx).1 hl z hz (cycL_trans h (by omega) hyz (cycL_sym h hx hy))
theorem cycs_nodup (h : Bij n p) : ∀ {m : Nat}, m ≤ n → (cycs n p m).flatten.Nodup
  | 0, _ => List.nodup_nil
  | m + 1, hm => by
    rw [cycs, List.flatten_append]
    have ih := cycs_nodup h (m := m) (by omega)
    by_cases hl : Lead p m
    · rw [if_pos hl, List.nodup_append]
      refine ⟨ih, by simpa using cycL_nodup h (by omega), fun a ha b hb e => ?_⟩
      subst e
      exact lead_fresh h (by omega) hl (by simpa using hb) ha
    · rw [if_neg hl]; simpa using ih
/-- the lengths of the cycles make n -/
theorem cycs_sum (h : Bij n p) : (cycs n p n).flatten.length = n := by
  have h1 := List.Nodup.length_le_of_subset (cycs_nodup h (Nat.le_refl n)) (l₂ := List.range n) fun y hy => by
    obtain ⟨x, hx, hm⟩ := (mem_cycs h (Nat.le_refl n)).1 hy
    obtain ⟨k, rfl⟩ := (mem_cycL h hx).1 hm
    exact List.mem_range.2 (it_lt h hx k)
  have h2 := List.Nodup.length_le_of_subset (List.nodup_range (n := n)) (l₂ := (cycs n p n).flatten) fun y hy => by
    have hy := List.mem_range.1 hy
    exact (mem_cycs h (Nat.le_refl n)).2 ⟨y, hy, (mem_cycL h hy).2 ⟨0, rfl⟩⟩
  rw [List.length_range] at h1 h2
  omega
/-- power e, which may be negative -/
def ipw (n : Nat) (p : Nat → Nat) (e : Int) (x : Nat) : Nat := it p (e % clen n p x).toNat x
/-- place k of a cycle, moved by e -/
theorem ipw_cyc (h : Bij n p) {x : Nat} (hx : x < n) (k : Nat) (e : Int) : ipw n p e (it p k x) = it p (((k : Int) + e) % clen n p x).toNat x := by
  have hc := clen_ok h hx
  have hk := it_lt h hx k
  have e1 : clen n p (it p k x) = clen n p x := (clen_ok h hk).uniq (hc.it h hx k)
  have hp := hc.pos
  unfold ipw
  rw [e1, ← it_add, ← hc.mod, ← hc.mod (((k : Int) + e) % (clen n p x : Int)).toNat]
  congr 1
  have hL : (0 : Int) < (clen n p x : Int) := by omega
  have g1 := Int.emod_nonneg e (show (clen n p x : Int) ≠ 0 by omega)
  have g2 := Int.emod_nonneg ((k : Int) + e) (show (clen n p x : Int) ≠ 0 by omega)
  apply Int.ofNat.inj
  show ((((e % clen n p x).toNat + k) % clen n p x : Nat) : Int) = (((((k : Int) + e) % clen n p x).toNat % clen n p x : Nat) : Int)
  rw [Int.natCast_emod, Int.natCast_emod, Int.natCast_add, Int.toNat_of_nonneg g1, Int.toNat_of_nonneg g2, Int.emod_add_emod, Int.emod_emod, Int.add_comm]
/-- a common multiple of the lengths makes no difference -/
theorem ipw_add {E : Int} {x : Nat} (hE : E % clen n p x = 0) (e : Int) : ipw n p (e + E) x = ipw n p e x := by
  unfold ipw
  rw [Int.add_emod, hE, Int.add_zero, Int.emod_emod]
theorem ipw_id {E : Int} {x : Nat} (hE : E % clen n p x = 0) : ipw n p E x = x := by
  unfold ipw; rw [hE]; rfl
end
end Go.Proofs.Ytpfgbbbjldpnnaa
