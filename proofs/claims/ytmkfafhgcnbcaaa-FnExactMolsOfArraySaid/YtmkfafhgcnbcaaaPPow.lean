/- Bounded powers, in plain terms. -/
namespace Go.Proofs.Ytmkfafhgcnbcaaa
set_option linter.unusedSimpArgs false
set_option linter.unusedVariables false

/-- powerUpTo: p times base, e times, while it is at most the limit -/
def pu (base lim : Int) : Nat → Int → Int
  | 0, p => p
  | e + 1, p => if p ≤ lim then pu base lim e (p * base) else p
/-- l16Count -/
def cnt (base : Int) : Nat → Int → Int
  | 0, p => p
  | e + 1, p => if p * base > 256 then 257 else cnt base e (p * base)
theorem pu_big {base lim : Int} : ∀ {e : Nat} {p : Int}, lim < p → pu base lim e p = p
  | 0, _, _ => rfl
  | e + 1, p, h => by simp [pu]; omega
theorem pu_pos {base lim : Int} (hb : 0 < base) : ∀ (e : Nat) {p : Int}, 0 < p → 0 < pu base lim e p
  | 0, _, h => h
  | e + 1, p, h => by
    unfold pu
    split
    · exact pu_pos hb e (Int.mul_pos h hb)
    · exact h
theorem cnt_pu {base : Int} : ∀ (e : Nat) (p : Int), p ≤ 256 → cnt base e p = if pu base 256 e p > 256 then 257 else pu base 256 e p
  | 0, p, h => by
    have e0 : pu base 256 0 p = p := rfl
    have e1 : cnt base 0 p = p := rfl
    rw [e0, e1, if_neg (by omega)]
  | e + 1, p, h => by
    have e1 : pu base 256 (e + 1) p = pu base 256 e (p * base) := by simp only [pu]; exact if_pos h
    have e2 : cnt base (e + 1) p = if p * base > 256 then 257 else cnt base e (p * base) := rfl
    rw [e1, e2]
    by_cases h1 : p * base > 256
    · rw [if_pos h1, pu_big h1, if_pos h1]
    · rw [if_neg h1, cnt_pu e (p * base) (by omega)]

theorem pu_pow {base lim : Int} (hb : 1 ≤ base) : ∀ (e : Nat) (p : Int), 0 < p → pu base lim e p ≤ lim → pu base lim e p = p * base ^ e
  | 0, p, _, _ => by simp [pu]
  | e + 1, p, hp, h => by
    unfold pu at h ⊢
    split at h
    · rename_i h1
      rw [if_pos h1, pu_pow hb e _ (Int.mul_pos hp (by omega)) h, Int.pow_succ, Int.mul_assoc, Int.mul_comm base]
    · omega

theorem pu_le {base lim : Int} (hb : 1 ≤ base) : ∀ (e : Nat) (p : Int), 0 < p → p * base ^ e ≤ lim → pu base lim e p = p * base ^ e
  | 0, p, _, _ => by simp [pu]
  | e + 1, p, hp, h => by
    have h1 : 1 ≤ base ^ e := by
      clear h
      induction e with
      | zero => simp
      | succ e ih =>
        rw [Int.pow_succ]
        have := Int.mul_le_mul ih hb (by omega) (by omega)
        omega
    have h2 : p ≤ p * base ^ (e + 1) := by
      rw [Int.pow_succ]
      have h3 := Int.mul_le_mul h1 hb (by omega) (by omega)
      have := Int.mul_le_mul_of_nonneg_left h3 (show 0 ≤ p by omega)
      omega
    unfold pu
    rw [if_pos (by omega), pu_le hb e _ (Int.mul_pos hp (by omega)) (by rw [Int.mul_assoc, Int.mul_comm base, ← Int.pow_succ]; exact h), Int.pow_succ, Int.mul_assoc, Int.mul_comm base]
end Go.Proofs.Ytmkfafhgcnbcaaa
