/- The p-th power is additive; traces, in plain terms. -/
import Derived.Test.YtcenabaklokhhaaPFp
import Derived.Test.YtcenabaklokhhaaPHor
namespace Go.Proofs.Ytcenabaklokhhaa
set_option linter.unusedSimpArgs false
set_option linter.unusedVariables false
def bin : Nat → Nat → Nat
  | _, 0 => 1
  | 0, _ + 1 => 0
  | n + 1, k + 1 => bin n k + bin n (k + 1)
theorem bin_0 (n : Nat) : bin n 0 = 1 := by cases n <;> rfl
theorem bin_ss (n k : Nat) : bin (n + 1) (k + 1) = bin n k + bin n (k + 1) := rfl
theorem bin_big : ∀ {n k : Nat}, n < k → bin n k = 0
  | 0, k + 1, _ => rfl
  | n + 1, k + 1, h => by rw [bin_ss, bin_big (by omega), bin_big (by omega)]
theorem bin_self : ∀ n, bin n n = 1
  | 0 => rfl
  | n + 1 => by rw [bin_ss, bin_self n, bin_big (by omega)]
theorem absorb : ∀ n k : Nat, (k + 1) * bin (n + 1) (k + 1) = (n + 1) * bin n k
  | 0, 0 => rfl
  | 0, k + 1 => by
    rw [bin_ss, bin_big (show 0 < k + 1 by omega), bin_big (show 0 < k + 1 + 1 by omega)]
    simp
  | n + 1, 0 => by
    have := absorb n 0
    rw [bin_ss, bin_0] at this
    rw [bin_ss, bin_0, bin_ss, bin_0]; omega
  | n + 1, k + 1 => by
    have h1 := absorb n k
    have h2 := absorb n (k + 1)
    rw [bin_ss (n + 1) (k + 1)]
    have h3 : bin (n + 1) (k + 1) = bin n k + bin n (k + 1) := rfl
    have h4 : (n + 1) * bin (n + 1) (k + 1) = (n + 1) * bin n k + (n + 1) * bin n (k + 1) := by rw [h3, Nat.mul_add]
    have h5 : (k + 1 + 1) * (bin (n + 1) (k + 1) + bin (n + 1) (k + 1 + 1)) = (k + 1) * bin (n + 1) (k + 1) + bin (n + 1) (k + 1) + (k + 1 + 1) * bin (n + 1) (k + 1 + 1) := by
      rw [Nat.mul_add, Nat.succ_mul (k + 1)]
    rw [h5, h1, h2, Nat.succ_mul (n + 1), h4]; omega
theorem copr_check : ((List.range 65).all fun p => !(isPr (p : Int)) || ((List.range p).all fun k => k == 0 || Nat.gcd p k == 1)) = true := by decide +kernel
theorem copr {p k : Nat} (hp : isPr (p : Int) = true) (h64 : p ≤ 64) (h0 : k ≠ 0) (hk : k < p) : Nat.gcd p k = 1 := by
  have h := copr_check
  rw [List.all_eq_true] at h
  have h := h p (List.mem_range.2 (by omega))
  rw [hp, Bool.not_true, Bool.false_or, List.all_eq_true] at h
  have h := h k (List.mem_range.2 hk)
  rw [Bool.or_eq_true] at h
  rcases h with h | h
  · exact absurd (by simpa using h) h0
  · simpa using h
theorem bin_dvd {p k : Nat} (hp : isPr (p : Int) = true) (h64 : p ≤ 64) (h0 : k ≠ 0) (hk : k < p) : p ∣ bin p k := by
  obtain ⟨k, rfl⟩ := Nat.exists_eq_succ_of_ne_zero h0
  obtain ⟨n, rfl⟩ := Nat.exists_eq_succ_of_ne_zero (show p ≠ 0 by omega)
  have h1 := absorb n k
  have h2 : n + 1 ∣ (k + 1) * bin (n + 1) (k + 1) := ⟨_, h1⟩
  exact Nat.Coprime.dvd_of_dvd_mul_left (copr hp h64 h0 hk) h2
section
variable {R : Type} [Add R] [Mul R] [Neg R] [Zero R] [One R]
def nm (n : Nat) (a : R) : R := Sm n fun _ => a
theorem nm_add (H : Rng R) (m : Nat) (a : R) : ∀ n, nm (m + n) a = nm m a + nm n a
  | 0 => (H.add_zero _).symm
  | n + 1 => by
    show nm (m + n) a + a = nm m a + (nm n a + a)
    rw [nm_add H m a n, H.add_assoc]
theorem mul_nm (H : Rng R) (a b : R) : ∀ n, a * nm n b = nm n (a * b)
  | 0 => H.mul_zero a
  | n + 1 => by
    show a * (nm n b + b) = nm n (a * b) + a * b
    rw [H.mul_add, mul_nm H a b n]
theorem nm_dvd (H : Rng R) {p : Nat} {a : R} (h : nm p a = 0) : ∀ k, nm (p * k) a = 0
  | 0 => rfl
  | k + 1 => by rw [Nat.mul_succ, nm_add H, nm_dvd H h k, h, H.add_zero]
def rp (a : R) : Nat → R
  | 0 => 1
  | n + 1 => rp a n * a
theorem rp_mul (H : Rng R) (a b : R) : ∀ n, rp (a * b) n = rp a n * rp b n
  | 0 => (H.one_mul 1).symm
  | n + 1 => by
    show rp (a * b) n * (a * b) = rp a n * a * (rp b n * b)
    rw [rp_mul H a b n, H.mul_assoc, H.mul_assoc, ← H.mul_assoc (rp b n) a b, H.mul_comm (rp b n) a, H.mul_assoc a]
theorem Sm_head (H : Rng R) (f : Nat → R) : ∀ n, Sm (n + 1) f = f 0 + Sm n fun i => f (i + 1)
  | 0 => by show 0 + f 0 = f 0 + 0; rw [H.zero_add, H.add_zero]
  | n + 1 => by
    show Sm (n + 1) f + f (n + 1) = f 0 + (Sm n (fun i => f (i + 1)) + f (n + 1))
    rw [Sm_head H f n, H.add_assoc]
theorem Sm_mulR (H : Rng R) (a : R) (f : Nat → R) : ∀ n, Sm n f * a = Sm n fun i => f i * a
  | 0 => H.zero_mul a
  | n + 1 => by
    show (Sm n f + f n) * a = Sm n (fun i => f i * a) + f n * a
    rw [H.add_mul, Sm_mulR H a f n]
theorem binom (H : Rng R) (a : R) : ∀ n, rp (1 + a) n = Sm (n + 1) fun k => nm (bin n k) (rp a k)
  | 0 => by
    show (1 : R) = 0 + (0 + 1)
    rw [H.zero_add, H.zero_add]
  | n + 1 => by
    show rp (1 + a) n * (1 + a) = _
    rw [binom H a n, H.mul_add, H.mul_one, Sm_mulR H]
    have h1 : Sm (n + 1) (fun k => nm (bin n k) (rp a k)) = nm (bin n 0) (rp a 0) + Sm (n + 1) fun k => nm (bin n (k + 1)) (rp a (k + 1)) := by
      rw [Sm_head H]
      show _ = _ + (Sm n _ + nm (bin n (n + 1)) (rp a (n + 1)))
      rw [bin_big (show n < n + 1 by omega)]
      show _ = _ + (Sm n _ + 0)
      rw [H.add_zero]
    rw [Sm_head H _ (n + 1)]
    conv => lhs; lhs; rw [h1]
    rw [H.add_assoc, bin_0, bin_0, ← Sm_add H]
    congr 1
    refine Sm_congr fun k _ => ?_
    show nm (bin n (k + 1)) (rp a (k + 1)) + nm (bin n k) (rp a k) * a = nm (bin n k + bin n (k + 1)) (rp a (k + 1))
    rw [H.mul_comm _ a, mul_nm H, H.mul_comm a, nm_add H, H.add_comm (nm (bin n k) _)]; rfl
/-- the p-th power is additive -/
theorem frob1 (H : Rng R) {p : Nat} (hp : isPr (p : Int) = true) (h64 : p ≤ 64) (h1 : 1 ≤ p) (hc : ∀ a : R, nm p a = 0) (a : R) : rp (1 + a) p = 1 + rp a p := by
  rw [binom H]
  show Sm p _ + nm (bin p p) (rp a p) = _
  rw [Sm_one H (k := 0) (by omega) (fun k hk hne => by
    obtain ⟨m, e⟩ := bin_dvd hp h64 hne hk
    rw [e]; exact nm_dvd H (hc _) m), bin_self, bin_0]
  show (0 + 1 : R) + (0 + rp a p) = 1 + rp a p
  rw [H.zero_add, H.zero_add]
theorem rp_zero (H : Rng R) {n : Nat} (h : 1 ≤ n) : rp (0 : R) n = 0 := by
  obtain ⟨m, rfl⟩ := Nat.exists_eq_add_of_le' h
  exact H.mul_zero _
theorem frob (H : Rng R) (inv : ∀ a : R, a ≠ 0 → ∃ b, a * b = 1) {p : Nat} (hp : isPr (p : Int) = true) (h64 : p ≤ 64) (h1 : 1 ≤ p) (hc : ∀ a : R, nm p a = 0) (a b : R) : rp (a + b) p = rp a p + rp b p := by
  by_cases ha : a = 0
  · rw [ha, H.zero_add, rp_zero H h1, H.zero_add]
  · obtain ⟨c, hcc⟩ := inv a ha
    have e : a + b = a * (1 + c * b) := by rw [H.mul_add, H.mul_one, ← H.mul_assoc, hcc, H.one_mul]
    have e2 : b = a * (c * b) := by rw [← H.mul_assoc, hcc, H.one_mul]
    have e3 : rp b p = rp a p * rp (c * b) p := by rw [← rp_mul H, ← e2]
    rw [e, rp_mul H, frob1 H hp h64 h1 hc, H.mul_add, H.mul_one, e3]
/-- the sum s + a + F a + .. of n powers -/
def trR (p : Nat) : Nat → R → R → R
  | 0, s, _ => s
  | n + 1, s, a => trR p n (s + a) (rp a p)
theorem trR_add (H : Rng R) {p : Nat} (hF : ∀ a b : R, rp (a + b) p = rp a p + rp b p) : ∀ (n : Nat) (s t a b : R), trR p n (s + t) (a + b) = trR p n s a + trR p n t b
  | 0, _, _, _, _ => rfl
  | n + 1, s, t, a, b => by
    show trR p n (s + t + (a + b)) (rp (a + b) p) = trR p n (s + a) (rp a p) + trR p n (t + b) (rp b p)
    rw [hF, ← trR_add H hF n, H.swap4]
def itF (p : Nat) (a : R) : Nat → R
  | 0 => a
  | n + 1 => itF p (rp a p) n
theorem trR_out (H : Rng R) {p : Nat} : ∀ (n : Nat) (s a : R), trR p n s a = s + trR p n 0 a
  | 0, s, _ => (H.add_zero s).symm
  | n + 1, s, a => by
    show trR p n (s + a) (rp a p) = s + trR p n (0 + a) (rp a p)
    rw [trR_out H n (s + a), trR_out H n (0 + a), H.zero_add, H.add_assoc]
theorem trR_next (H : Rng R) {p : Nat} : ∀ (n : Nat) (a : R), a + trR p n 0 (rp a p) = trR p n 0 a + itF p a n
  | 0, a => by show a + 0 = 0 + a; rw [H.add_zero, H.zero_add]
  | n + 1, a => by
    show a + trR p n (0 + rp a p) (rp (rp a p) p) = trR p n (0 + a) (rp a p) + itF p (rp a p) n
    rw [trR_out H n (0 + _), trR_out H n (0 + a), H.zero_add, H.zero_add, trR_next H n (rp a p), H.add_assoc]
theorem trR_F (H : Rng R) {p : Nat} (h1 : 1 ≤ p) (hF : ∀ a b : R, rp (a + b) p = rp a p + rp b p) : ∀ (n : Nat) (s a : R), rp (trR p n s a) p = trR p n (rp s p) (rp a p)
  | 0, _, _ => rfl
  | n + 1, s, a => by
    show rp (trR p n (s + a) (rp a p)) p = trR p n (rp s p + rp a p) (rp (rp a p) p)
    rw [trR_F H h1 hF n, hF]
/-- the trace stays as it is under the p-th power -/
theorem trR_fix (H : Rng R) {p n : Nat} (h1 : 1 ≤ p) (hF : ∀ a b : R, rp (a + b) p = rp a p + rp b p) {a : R} (hn : itF p a n = a) : rp (trR p n 0 a) p = trR p n 0 a := by
  rw [trR_F H h1 hF, rp_zero H h1]
  have := trR_next H (p := p) n a
  rw [hn, H.add_comm (trR p n 0 a)] at this
  exact H.add_left this
end
end Go.Proofs.Ytcenabaklokhhaa
