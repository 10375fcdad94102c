/- Two congruences, in plain terms. Walks: residues. -/
import Derived.Test.YtpfgbbbjldpnnaaNum
namespace Go.Proofs.Ytpfgbbbjldpnnaa
set_option linter.unusedSimpArgs false
set_option linter.unusedVariables false
open Go.RowKit

theorem bez (m n : Nat) : ∃ u v : Int, m * u + n * v = Nat.gcd m n := by
  induction m, n using Nat.gcd.induction with
  | H0 n => exact ⟨0, 1, by simp⟩
  | H1 m n hm ih =>
    obtain ⟨u, v, h⟩ := ih
    refine ⟨v - (n / m : Nat) * u, u, ?_⟩
    rw [Nat.gcd_rec m n, ← h]
    have h1 : ((n % m : Nat) : Int) = n - m * (n / m : Nat) := by
      have := Nat.div_add_mod n m
      omega
    rw [h1, Int.mul_sub, Int.sub_mul, Int.mul_assoc]
    omega

def gcdI (a b : Int) : Int := (Int.gcd a b : Int)

theorem gcdI_zero {a : Int} (h : 0 ≤ a) : gcdI a 0 = a := by
  obtain ⟨n, rfl⟩ := Int.eq_ofNat_of_zero_le h
  simp [gcdI, Int.gcd]
theorem gcdI_step {a b : Int} (ha : 0 ≤ a) (hb : 0 ≤ b) : gcdI b (a % b) = gcdI a b := by
  obtain ⟨m, rfl⟩ := Int.eq_ofNat_of_zero_le ha
  obtain ⟨n, rfl⟩ := Int.eq_ofNat_of_zero_le hb
  unfold gcdI
  rw [← Int.natCast_emod]
  simp only [Int.gcd, Int.natAbs_natCast]
  rw [Nat.gcd_comm n, ← Nat.gcd_rec, Nat.gcd_comm]

theorem gcdI_pos {m n : Int} (hm : 1 ≤ m) : 1 ≤ gcdI m n := by
  unfold gcdI
  have : 0 < Int.gcd m n := Int.gcd_pos_of_ne_zero_left _ (by omega)
  omega
theorem gcdI_dvd_left (m n : Int) : gcdI m n ∣ m := Int.gcd_dvd_left m n
theorem gcdI_dvd_right (m n : Int) : gcdI m n ∣ n := Int.gcd_dvd_right m n

theorem bezI {m n : Int} (hm : 1 ≤ m) (hn : 1 ≤ n) : ∃ u v : Int, m * u + n * v = gcdI m n := by
  obtain ⟨a, rfl⟩ := Int.eq_ofNat_of_zero_le (show 0 ≤ m by omega)
  obtain ⟨b, rfl⟩ := Int.eq_ofNat_of_zero_le (show 0 ≤ n by omega)
  exact bez a b

theorem lcm_eq {m n : Int} (hm : 1 ≤ m) : m / gcdI m n * n * gcdI m n = m * n ∧ m / gcdI m n * n = m * (n / gcdI m n) := by
  have hg := gcdI_pos (n := n) hm
  obtain ⟨c, hc⟩ := gcdI_dvd_left m n
  obtain ⟨d, hd⟩ := gcdI_dvd_right m n
  generalize gcdI m n = g at *
  have e1 : m / g = c := by rw [hc]; exact Int.mul_ediv_cancel_left _ (by omega)
  have e2 : n / g = d := by rw [hd]; exact Int.mul_ediv_cancel_left _ (by omega)
  rw [e1, e2]
  constructor
  · rw [hc]; simp only [Int.mul_comm, Int.mul_left_comm]
  · conv => lhs; rw [hd]
    conv => rhs; rw [hc]
    simp only [Int.mul_comm, Int.mul_left_comm]

/-- a solution exists if both residues agree modulo the gcd -/
theorem crt_ex {a m b n : Int} (hm : 1 ≤ m) (hn : 1 ≤ n) (ha : 0 ≤ a) (ham : a < m) (hb : 0 ≤ b) (hbn : b < n) (h : gcdI m n ∣ (a - b)) :
    ∃ k : Int, 0 ≤ k ∧ a + k * m < m / gcdI m n * n ∧ (a + k * m) % n = b := by
  have hg := gcdI_pos (n := n) hm
  obtain ⟨u, v, huv⟩ := bezI hm hn
  obtain ⟨c, hc⟩ := gcdI_dvd_left m n
  obtain ⟨d, hd⟩ := gcdI_dvd_right m n
  obtain ⟨q, hq⟩ := h
  have hl := (lcm_eq (n := n) hm).2
  generalize gcdI m n = g at *
  have e2 : n / g = d := by rw [hd]; exact Int.mul_ediv_cancel_left _ (by omega)
  have hd1 : 1 ≤ d := by
    apply Int.le_of_not_gt; intro hlt
    have := Int.mul_nonpos_of_nonneg_of_nonpos (show 0 ≤ g by omega) (show d ≤ 0 by omega)
    omega
  rw [hl, e2]
  refine ⟨(-(u * q)) % d, Int.emod_nonneg _ (by omega), ?_, ?_⟩
  · have h1 := Int.emod_lt_of_pos (-(u * q)) (show 0 < d by omega)
    have h2 : (-(u * q)) % d * m ≤ (d - 1) * m := Int.mul_le_mul_of_nonneg_right (by omega) (by omega)
    rw [Int.sub_mul, Int.mul_comm d m] at h2
    omega
  · have h1 := Int.mul_ediv_add_emod (-(u * q)) d
    have h3 : a + (-(u * q)) % d * m = b + n * (v * q + -(c * (-(u * q) / d))) := by
      have h4 : (-(u * q)) % d = -(u * q) - d * (-(u * q) / d) := by omega
      rw [h4]
      generalize (-(u * q) / d) = t
      have h5 : a = b + g * q := by omega
      rw [h5, ← huv]
      have h6 : d * t * m = n * (c * t) := by rw [hc, hd]; simp only [Int.mul_comm, Int.mul_left_comm]
      rw [Int.sub_mul, h6]
      have h7 : (m * u + n * v) * q = m * u * q + n * v * q := Int.add_mul _ _ _
      have h8 : -(u * q) * m = -(m * u * q) := by rw [Int.neg_mul]; simp only [Int.mul_comm, Int.mul_left_comm]
      rw [h7, h8, Int.mul_add, Int.mul_neg, Int.mul_assoc n v q]
      omega
    rw [h3, Int.add_mul_emod_self_left]
    exact Int.emod_eq_of_lt hb hbn

/-- and only then -/
theorem crt_only {a m b n x k : Int} (hm : 1 ≤ m) (h1 : x = a + k * m) (h2 : x % n = b) : gcdI m n ∣ (a - b) := by
  have e : a - b = n * (x / n) - k * m := by have := Int.mul_ediv_add_emod x n; omega
  rw [e]
  exact Int.dvd_sub (Int.dvd_trans (gcdI_dvd_right m n) (Int.dvd_mul_right _ _)) (Int.dvd_trans (gcdI_dvd_left m n) (Int.dvd_mul_left _ _))

theorem tmod_zero {a g : Int} : a.tmod g = 0 ↔ g ∣ a := ⟨Int.dvd_of_tmod_eq_zero, Int.tmod_eq_zero_of_dvd⟩


def resB (a m : Int) : Bool := inB m 1 1000 && inB a 0 (m - 1)
def Res (a m : Int) : Prop := 1 ≤ m ∧ m ≤ 1000 ∧ 0 ≤ a ∧ a < m
theorem resB_true {a m : Int} (h : Res a m) : resB a m = true := by
  unfold resB; obtain ⟨h1, h2, h3, h4⟩ := h; rw [inB_true ⟨h1, h2⟩, inB_true ⟨h3, by omega⟩]; rfl
theorem resB_false {a m : Int} (h : ¬ Res a m) : resB a m = false := by
  unfold resB; unfold Res at h
  by_cases h1 : 1 ≤ m ∧ m ≤ 1000
  · rw [inB_false (n := a) (by omega)]; simp
  · rw [inB_false h1]; rfl

theorem abs_c (n : Int) (w : World) (h : -1000000 ≤ n ∧ n ≤ 1000000) : Calls Try.prog 96 #[.int .i64 n] w fun e w' => e = .returned (.int .i64 (if n < 0 then -n else n)) ∧ w = w' := by
  obtain ⟨h1, h2⟩ := h
  by_cases hn : n < 0
  · go_enter Try.func96, Try.ntmps96
    go_wp2_with fail
    go_ret
    exact ⟨ret_i64 (by simp [hn]), rfl⟩
  · go_enter Try.func96, Try.ntmps96
    go_wp2_with fail
    go_ret
    exact ⟨ret_i64 (by simp [hn]), rfl⟩

/-- what SolveChinese answers for residues -/
def ChinPost (w : World) (a m b n : Int) (e : Ending) (w' : World) : Prop :=
  St w.heap.size w w' [] ∧
  ((∃ x k : Int, e = .returned (.tuple #[.int .i64 x, .int .i64 (m / gcdI m n * n), .int .i64 0]) ∧ 0 ≤ k ∧ x = a + k * m ∧ x < m / gcdI m n * n ∧ x % n = b) ∨
   (e = .returned (.tuple #[.int .i64 0, .int .i64 0, .int .i64 3]) ∧ ∀ k : Int, 0 ≤ k → a + k * m < m / gcdI m n * n → (a + k * m) % n ≠ b))

end Go.Proofs.Ytpfgbbbjldpnnaa
