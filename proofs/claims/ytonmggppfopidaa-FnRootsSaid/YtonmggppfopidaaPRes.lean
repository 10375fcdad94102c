/- Residues, in plain terms. -/
import Derived.Test.YtonmggppfopidaaPCrt
namespace Go.Proofs.Ytonmggppfopidaa
set_option linter.unusedSimpArgs false
set_option linter.unusedVariables false

/-- more places than values -/
theorem php : ∀ (n : Nat) (f : Nat → Nat), (∀ i, i ≤ n → f i < n) → ∃ i j, i < j ∧ j ≤ n ∧ f i = f j
  | 0, f, h => by have := h 0 (by omega); omega
  | n + 1, f, h => by
    by_cases hex : ∃ i, i ≤ n ∧ f i = f (n + 1)
    · obtain ⟨i, hi, he⟩ := hex
      exact ⟨i, n + 1, by omega, by omega, he⟩
    · have hne : ∀ i, i ≤ n → f i ≠ f (n + 1) := fun i hi e => hex ⟨i, hi, e⟩
      have hv := h (n + 1) (by omega)
      obtain ⟨i, j, h1, h2, h3⟩ := php n (fun i => if f i = n then f (n + 1) else f i) (by
        intro i hi
        have h4 := h i (by omega)
        have h5 := hne i hi
        split <;> omega)
      refine ⟨i, j, h1, by omega, ?_⟩
      have e1 := hne i (by omega)
      have e2 := hne j (by omega)
      split at h3 <;> split at h3 <;> omega

theorem pow_mod (x m : Int) : ∀ k : Nat, (x % m) ^ k % m = x ^ k % m
  | 0 => by simp
  | k + 1 => by rw [Int.pow_succ, Int.pow_succ, Int.mul_emod, pow_mod x m k, ← Int.mul_emod, Int.mul_emod, Int.emod_emod, ← Int.mul_emod]

/-- the power of a residue -/
def pw (a e m : Int) : Int := a ^ e.toNat % m

theorem pw_half {p a e m : Int} (he : 0 < e) : (if e % 2 = 1 then p * a % m else p) * (a * a % m) ^ (e / 2).toNat % m = p * a ^ e.toNat % m := by
  obtain ⟨k, hk⟩ := Int.eq_ofNat_of_zero_le (show 0 ≤ e / 2 by omega)
  rw [hk, Int.toNat_natCast]
  have h2 : (a * a) ^ k = a ^ (2 * k) := by rw [Int.mul_pow, ← Int.pow_add]; congr 1; omega
  split
  · rename_i h
    have : e.toNat = 2 * k + 1 := by omega
    rw [this, Int.mul_emod, Int.emod_emod, pow_mod, ← Int.mul_emod, h2, Int.pow_succ, Int.mul_comm (a ^ (2 * k)) a, Int.mul_assoc]
  · rename_i h
    have : e.toNat = 2 * k := by omega
    rw [this, Int.mul_emod, pow_mod, ← Int.mul_emod, h2]

theorem pw_zero (a m : Int) : pw a 0 m = 1 % m := by simp [pw]
theorem pw_add {a i k m : Int} (hi : 0 ≤ i) (hk : 0 ≤ k) : pw a i m * pw a k m % m = pw a (i + k) m := by
  unfold pw
  rw [Int.toNat_add hi hk, Int.pow_add, ← Int.mul_emod]
theorem pw_succ {a e m : Int} (he : 0 ≤ e) : pw a e m * a % m = pw a (e + 1) m := by
  unfold pw
  rw [show (e + 1).toNat = e.toNat + 1 by omega, Int.pow_succ, Int.mul_emod, Int.emod_emod, ← Int.mul_emod]
theorem pw_bd {a e m : Int} (hm : 1 ≤ m) : 0 ≤ pw a e m ∧ pw a e m < m := ⟨Int.emod_nonneg _ (by omega), Int.emod_lt_of_pos _ (by omega)⟩

theorem pw_period {a e m : Int} (he : 1 ≤ e) (h : pw a e m = 1 % m) : ∀ i : Int, 0 ≤ i → pw a (i % e) m = pw a i m := by
  intro i hi
  have h1 : ∀ q : Nat, ∀ r : Int, 0 ≤ r → pw a (r + e * q) m = pw a r m := by
    intro q r hr
    induction q with
    | zero => simp
    | succ q ih =>
      have h2 : 0 ≤ e * (q : Int) := Int.mul_nonneg (by omega) (by omega)
      have h3 : r + e * ((q + 1 : Nat) : Int) = (r + e * q) + e := by rw [Int.natCast_add, Int.mul_add]; simp; omega
      rw [h3, ← pw_add (by omega) (by omega), h, ih]
      unfold pw
      rw [← Int.mul_emod, Int.mul_one]
  obtain ⟨q, hq⟩ := Int.eq_ofNat_of_zero_le (Int.ediv_nonneg hi (show 0 ≤ e by omega))
  have h4 := Int.mul_ediv_add_emod i e
  have := h1 q (i % e) (Int.emod_nonneg _ (by omega))
  rw [← this]
  congr 1
  rw [hq] at h4
  omega

/-- a residue with a multiple that is 1 is coprime to the modulus -/
theorem cop_of_inv {a x m : Int} (hm : 1 ≤ m) (h : a * x % m = 1 % m) : gcdI a m = 1 := by
  have h1 : m ∣ a * x - 1 := by
    exact Int.dvd_of_emod_eq_zero (by rw [Int.sub_emod, h]; simp)
  have h2 : gcdI a m ∣ 1 := by
    have e : (1 : Int) = a * x - (a * x - 1) := by omega
    rw [e]
    exact Int.dvd_sub (Int.dvd_trans (gcdI_dvd_left a m) (Int.dvd_mul_right _ _)) (Int.dvd_trans (gcdI_dvd_right a m) h1)
  have h3 : 0 ≤ gcdI a m := by unfold gcdI; omega
  exact Int.eq_one_of_dvd_one h3 h2

/-- a residue that is coprime to the modulus has an inverse -/
theorem inv_of_cop {a m : Int} (hm : 1 ≤ m) (ha : 0 ≤ a) (h : gcdI a m = 1) : ∃ x, 0 ≤ x ∧ x < m ∧ a * x % m = 1 % m := by
  by_cases h0 : a = 0
  · subst h0
    have : m = 1 := by
      have h1 : gcdI 0 m = m := by
        obtain ⟨n, rfl⟩ := Int.eq_ofNat_of_zero_le (show 0 ≤ m by omega)
        simp [gcdI, Int.gcd]
      omega
    subst this
    exact ⟨0, by omega, by omega, rfl⟩
  · obtain ⟨u, v, huv⟩ := bezI (show 1 ≤ a by omega) hm
    rw [h] at huv
    refine ⟨u % m, Int.emod_nonneg _ (by omega), Int.emod_lt_of_pos _ (by omega), ?_⟩
    rw [Int.mul_emod, Int.emod_emod, ← Int.mul_emod, ← huv, Int.add_mul_emod_self_left]

/-- some power of a residue that is coprime to the modulus is 1 -/
theorem ord_ex {a m : Int} (hm : 1 ≤ m) (ha : 0 ≤ a) (h : gcdI a m = 1) : ∃ e : Int, 1 ≤ e ∧ e ≤ m ∧ pw a e m = 1 % m := by
  obtain ⟨x, hx0, hx1, hx⟩ := inv_of_cop hm ha h
  obtain ⟨M, rfl⟩ := Int.eq_ofNat_of_zero_le (show 0 ≤ m by omega)
  obtain ⟨i, j, hij, hj, he⟩ := php M (fun k => (pw a k M).toNat) (fun k _ => by
    have := pw_bd (a := a) (e := (k : Int)) hm
    omega)
  have he' : pw a i M = pw a j M := by
    have := pw_bd (a := a) (e := (i : Int)) hm
    have := pw_bd (a := a) (e := (j : Int)) hm
    omega
  have key : ∀ k : Nat, pw x k M * pw a k M % M = 1 % M := by
    intro k
    unfold pw
    rw [← Int.mul_emod, ← Int.mul_pow, Int.mul_comm x a, ← pow_mod, hx, pow_mod, Int.one_pow]
  refine ⟨(j : Int) - i, by omega, by omega, ?_⟩
  have h1 : pw a i M * pw a ((j : Int) - i) M % M = pw a j M := by
    rw [pw_add (by omega) (by omega)]; congr 1; omega
  have h2 : pw x i M * (pw a i M * pw a ((j : Int) - i) M) % M = 1 % M := by
    rw [Int.mul_emod, h1, ← he']
    have := pw_bd (a := x) (e := (i : Int)) hm
    rw [Int.emod_eq_of_lt this.1 this.2]
    exact key i
  have h3 : pw x i M * (pw a i M * pw a ((j : Int) - i) M) % M = pw a ((j : Int) - i) M := by
    rw [← Int.mul_assoc, Int.mul_emod, key i, ← Int.mul_emod, Int.one_mul]
    have := pw_bd (a := a) (e := (j : Int) - i) hm
    exact Int.emod_eq_of_lt this.1 this.2
  rw [← h3, h2]

theorem inv_of_ord {a e m : Int} (he : 1 ≤ e) (h : pw a e m = 1 % m) : a * pw a (e - 1) m % m = 1 % m := by
  rw [Int.mul_comm, pw_succ (by omega), ← h]; congr 1; omega
end Go.Proofs.Ytonmggppfopidaa
