/- Primitive roots and squares modulo a prime, in plain terms. -/
import Derived.Test.YtonmggppfopidaaPRes
import Derived.Test.YtonmggppfopidaaPFac
namespace Go.Proofs.Ytonmggppfopidaa
set_option linter.unusedSimpArgs false
set_option linter.unusedVariables false

/-- a prime of at most 1000, by its divisors -/
def prB (p : Nat) : Bool := decide (2 ≤ p) && (List.range 32).all fun d => decide (d < 2) || decide (p < d * d) || decide (p % d ≠ 0)
theorem prB_of {p : Nat} (h : Pr p) : prB p = true := by
  simp only [prB, Bool.and_eq_true, decide_eq_true_eq, List.all_eq_true, List.mem_range, Bool.or_eq_true]
  refine ⟨by have := h.1; omega, fun d _ => ?_⟩
  by_cases h1 : d < 2
  · exact .inl (.inl h1)
  · by_cases h2 : p < d * d
    · exact .inl (.inr h2)
    · refine .inr ?_
      have := h.2 d (by omega) (by have : ((d * d : Nat) : Int) ≤ p := by omega
                                   push_cast at this; exact this)
      intro e
      exact this (by exact_mod_cast e)

def ordGo (p g : Nat) : Nat → Nat → Bool
  | 0, x => x == 1
  | n + 1, x => x != 1 && ordGo p g n (x * g % p)
def rootOk (p g : Nat) : Bool := ordGo p g (p - 2) (g % p)
theorem root_check : ((List.range 1001).all fun p => !prB p || (List.range 40).any fun g => decide (1 ≤ g) && decide (g < p) && rootOk p g) = true := by decide +kernel

/-- g is a primitive root of p -/
def Root (p g : Int) : Prop := 1 ≤ g ∧ g < p ∧ pw g (p - 1) p = 1 % p ∧ ∀ y : Int, 1 ≤ y → y < p - 1 → pw g y p ≠ 1 % p

theorem ordGo_ok {p g : Nat} (hp : 2 ≤ p) : ∀ (n e x : Nat), ordGo p g n x = true → (x : Int) = pw g e p → pw g (e + n : Nat) p = 1 ∧ ∀ y : Nat, e ≤ y → y < e + n → pw g y p ≠ 1
  | 0, e, x, h, hx => by
    simp only [ordGo, beq_iff_eq] at h
    exact ⟨by rw [Nat.add_zero, ← hx, h]; rfl, fun y h1 h2 => by omega⟩
  | n + 1, e, x, h, hx => by
    simp only [ordGo, Bool.and_eq_true, bne_iff_ne, ne_eq] at h
    have h1 : ((x * g % p : Nat) : Int) = pw g (e + 1 : Nat) p := by
      have := pw_succ (a := (g : Int)) (e := (e : Int)) (m := (p : Int)) (by omega)
      rw [← hx] at this
      push_cast
      rw [this]
    obtain ⟨i1, i2⟩ := ordGo_ok hp n (e + 1) _ h.2 h1
    refine ⟨by rw [show e + (n + 1) = e + 1 + n by omega]; exact i1, fun y h2 h3 => ?_⟩
    by_cases e1 : y = e
    · subst e1; rw [← hx]; intro h4; exact h.1 (by omega)
    · exact i2 y (by omega) (by omega)
theorem root_ex {p : Int} (h : Pr p) (hp : p ≤ 1000) : ∃ g, Root p g := by
  have h2 := h.1
  obtain ⟨p, rfl⟩ := Int.eq_ofNat_of_zero_le (show 0 ≤ p by omega)
  have hc := root_check
  rw [List.all_eq_true] at hc
  have hc := hc p (List.mem_range.2 (by omega))
  rw [prB_of h, Bool.not_true, Bool.false_or, List.any_eq_true] at hc
  obtain ⟨g, _, hg⟩ := hc
  simp only [Bool.and_eq_true, decide_eq_true_eq] at hg
  obtain ⟨⟨g1, g2⟩, g3⟩ := hg
  have h1 : (1 : Int) % p = 1 := Int.emod_eq_of_lt (by omega) (by omega)
  obtain ⟨i1, i2⟩ := ordGo_ok (g := g) (show 2 ≤ p by omega) (p - 2) 1 (g % p) g3 (by simp [pw, Int.pow_succ])
  refine ⟨g, by omega, by omega, ?_, fun y y1 y2 => ?_⟩
  · rw [h1, ← i1]; congr 1; omega
  · rw [h1]
    obtain ⟨y, rfl⟩ := Int.eq_ofNat_of_zero_le (show 0 ≤ y by omega)
    exact i2 y (by omega) (by omega)

/-- what divides a prime -/
theorem pr_dvd {p d : Int} (h : Pr p) (h1 : 1 ≤ d) (hd : d ∣ p) : d = 1 ∨ d = p := by
  obtain ⟨c, hc⟩ := hd
  have h2 := h.1
  have hc1 : 1 ≤ c := by
    apply Int.le_of_not_gt; intro h3
    have := Int.mul_nonpos_of_nonneg_of_nonpos (show 0 ≤ d by omega) (show c ≤ 0 by omega)
    omega
  by_cases e1 : d = 1
  · exact .inl e1
  · by_cases e2 : c = 1
    · subst e2; right; omega
    · exfalso
      exact not_pr_mul (a := d) (b := c) (by omega) (by omega) (by rw [← hc]; exact h)
theorem pr_cop {p a : Int} (h : Pr p) (ha : ¬ p ∣ a) : gcdI a p = 1 := by
  have h1 : 1 ≤ gcdI a p := by
    have h2 := h.1
    unfold gcdI
    have : 0 < Int.gcd a p := Int.gcd_pos_iff.2 (.inr (by omega))
    omega
  rcases pr_dvd h h1 (gcdI_dvd_right a p) with e | e
  · exact e
  · exact absurd (by rw [← e]; exact gcdI_dvd_left a p) ha
theorem pr_inv {p a : Int} (h : Pr p) (ha : ¬ p ∣ a) : ∃ u, p ∣ a * u - 1 := by
  have h2 := h.1
  have h3 : ¬ p ∣ a % p := by
    intro hd
    exact ha ((Int.dvd_iff_emod_eq_zero ..).2 (by have := Int.emod_eq_zero_of_dvd hd; rwa [Int.emod_emod] at this))
  obtain ⟨x, _, _, hx⟩ := inv_of_cop (show 1 ≤ p by omega) (Int.emod_nonneg a (by omega)) (pr_cop h h3)
  refine ⟨x, ?_⟩
  rw [Int.mul_emod, Int.emod_emod, ← Int.mul_emod] at hx
  exact Int.dvd_of_emod_eq_zero (Int.emod_eq_emod_iff_emod_sub_eq_zero.1 hx)
theorem euclid {p a b : Int} (h : Pr p) (hd : p ∣ a * b) : p ∣ a ∨ p ∣ b := by
  by_cases ha : p ∣ a
  · exact .inl ha
  · right
    obtain ⟨u, hu⟩ := pr_inv h ha
    have e : b = u * (a * b) - b * (a * u - 1) := by grind
    rw [e]
    exact Int.dvd_sub (Int.dvd_trans hd (Int.dvd_mul_left _ _)) (Int.dvd_trans hu (Int.dvd_mul_left _ _))
theorem small_dvd {p a : Int} (h : p ∣ a) (h1 : -p < a) (h2 : a < p) : a = 0 := by
  obtain ⟨c, rfl⟩ := h
  have hc : c = 0 := by
    apply Classical.byContradiction; intro hne
    by_cases hp : 0 < p
    · rcases Int.lt_or_lt_of_ne hne with h3 | h3
      · have := Int.mul_le_mul_of_nonneg_left (show c ≤ -1 by omega) (show 0 ≤ p by omega); omega
      · have := Int.mul_le_mul_of_nonneg_left (show 1 ≤ c by omega) (show 0 ≤ p by omega); omega
    · omega
  rw [hc]; simp
theorem md {a b p : Int} (h : a % p = b) : p ∣ a - b := by
  subst h
  exact ⟨a / p, by have := Int.mul_ediv_add_emod a p; omega⟩
theorem dm {a b p : Int} (h : p ∣ a - b) (h0 : 0 ≤ b) (h1 : b < p) : a % p = b := by
  have := Int.emod_eq_emod_iff_emod_sub_eq_zero.2 (Int.emod_eq_zero_of_dvd h)
  rw [this, Int.emod_eq_of_lt h0 h1]

/-- a is the square of a residue -/
def isq (a p : Int) : Bool := (List.range p.toNat).any fun x => decide ((x : Int) * x % p = a)
theorem isq_iff {a p : Int} : isq a p = true ↔ ∃ x : Int, 0 ≤ x ∧ x < p ∧ x * x % p = a := by
  simp only [isq, List.any_eq_true, List.mem_range, decide_eq_true_eq]
  constructor
  · rintro ⟨x, h1, h2⟩
    exact ⟨x, by omega, by omega, h2⟩
  · rintro ⟨x, h1, h2, h3⟩
    refine ⟨x.toNat, by omega, ?_⟩
    rw [Int.toNat_of_nonneg h1]; exact h3
theorem isq_mk {a p x : Int} (hp : 1 ≤ p) (h0 : 0 ≤ a) (h1 : a < p) (h : p ∣ x * x - a) : isq a p = true := by
  refine isq_iff.2 ⟨x % p, Int.emod_nonneg _ (by omega), Int.emod_lt_of_pos _ (by omega), ?_⟩
  rw [← Int.mul_emod]
  exact dm h h0 h1
def sqs (p : Int) : List Int := ((List.range p.toNat).map fun (x : Nat) => (x : Int)).filter fun a => decide (a ≠ 0) && isq a p
theorem mem_sqs {p a : Int} : a ∈ sqs p ↔ 0 < a ∧ a < p ∧ isq a p = true := by
  simp only [sqs, List.mem_filter, List.mem_map, List.mem_range, Bool.and_eq_true, decide_eq_true_eq]
  constructor
  · rintro ⟨⟨x, h1, rfl⟩, h2, h3⟩; exact ⟨by omega, by omega, h3⟩
  · rintro ⟨h1, h2, h3⟩; exact ⟨⟨a.toNat, by omega, by omega⟩, by omega, h3⟩
theorem nodup_ints (n : Nat) : ((List.range n).map fun (x : Nat) => (x : Int)).Nodup := by
  unfold List.Nodup
  rw [List.pairwise_map]
  exact (List.nodup_range (n := n)).imp (fun h e => h (by omega))
theorem nodup_sqs (p : Int) : (sqs p).Nodup := (nodup_ints p.toNat).filter _

/-- half of all residues other than 0 are squares -/
theorem len_sqs {p : Int} (h : Pr p) (h3 : 3 ≤ p) : ((sqs p).length : Int) = (p - 1) / 2 := by
  have h2 : ¬ p ∣ 2 := by intro hd; have := Int.le_of_dvd (by omega) hd; omega
  have hodd : p % 2 = 1 := by
    apply Classical.byContradiction; intro hn
    have h4 : (2 : Int) ∣ p := Int.dvd_of_emod_eq_zero (by omega)
    rcases pr_dvd h (by omega) h4 with e | e <;> omega
  let M : List Int := (List.range ((p - 1) / 2).toNat).map fun (i : Nat) => ((i : Int) + 1) * ((i : Int) + 1) % p
  have hM : M.Nodup := by
    show List.Pairwise _ _
    rw [List.pairwise_map]
    refine (List.nodup_range (n := ((p - 1) / 2).toNat)).imp_of_mem ?_
    intro i j hi hj hij he
    have hi := List.mem_range.1 hi
    have hj := List.mem_range.1 hj
    have hd : p ∣ ((i : Int) - j) * ((i : Int) + j + 2) := by
      have h5 := Int.dvd_of_emod_eq_zero (Int.emod_eq_emod_iff_emod_sub_eq_zero.1 he)
      have e : ((i : Int) + 1) * (i + 1) - ((j : Int) + 1) * (j + 1) = (i - j) * (i + j + 2) := by grind
      rwa [e] at h5
    rcases euclid h hd with hd | hd
    · have := small_dvd hd (by omega) (by omega); omega
    · have := small_dvd hd (by omega) (by omega); omega
  have hperm : List.Perm M (sqs p) := by
    rw [List.perm_ext_iff_of_nodup hM (nodup_sqs p)]
    intro a
    rw [mem_sqs]
    constructor
    · intro ha
      obtain ⟨i, hi, rfl⟩ := List.mem_map.1 ha
      have hi := List.mem_range.1 hi
      have b0 := Int.emod_nonneg (((i : Int) + 1) * ((i : Int) + 1)) (show p ≠ 0 by omega)
      have b1 := Int.emod_lt_of_pos (((i : Int) + 1) * ((i : Int) + 1)) (show 0 < p by omega)
      refine ⟨?_, b1, isq_iff.2 ⟨(i : Int) + 1, by omega, by omega, rfl⟩⟩
      apply Int.lt_of_not_ge; intro hz
      have hd : p ∣ ((i : Int) + 1) * ((i : Int) + 1) := Int.dvd_of_emod_eq_zero (by omega)
      rcases euclid h hd with hd | hd <;> (have := small_dvd hd (by omega) (by omega); omega)
    · rintro ⟨a0, a1, ha⟩
      obtain ⟨x, x0, x1, hx⟩ := isq_iff.1 ha
      have hxne : x ≠ 0 := by rintro rfl; simp at hx; omega
      refine List.mem_map.2 ?_
      by_cases hle : x ≤ (p - 1) / 2
      · refine ⟨(x - 1).toNat, List.mem_range.2 (by omega), ?_⟩
        rw [Int.toNat_of_nonneg (by omega), show x - 1 + 1 = x by omega]; exact hx
      · refine ⟨(p - x - 1).toNat, List.mem_range.2 (by omega), ?_⟩
        rw [Int.toNat_of_nonneg (by omega), show p - x - 1 + 1 = p - x by omega, ← hx]
        refine Int.emod_eq_emod_iff_emod_sub_eq_zero.2 (Int.emod_eq_zero_of_dvd ⟨p - 2 * x, ?_⟩)
        grind
  have := hperm.length_eq
  simp only [M, List.length_map, List.length_range] at this
  omega

theorem pw_dvd (a : Int) (e m : Int) : m ∣ a ^ e.toNat - pw a e m := md rfl
/-- a primitive root is no square -/
theorem root_nsq {p g : Int} (h : Pr p) (h3 : 3 ≤ p) (hg : Root p g) : isq g p = false := by
  obtain ⟨g1, g2, g3, g4⟩ := hg
  have h1 : (1 : Int) % p = 1 := Int.emod_eq_of_lt (by omega) (by omega)
  rw [h1] at g3
  cases hq : isq g p with
  | false => rfl
  | true =>
    exfalso
    obtain ⟨x, x0, x1, hx⟩ := isq_iff.1 hq
    have hne : ∀ i : Nat, (i : Int) ≤ p - 1 → ¬ p ∣ pw g i p := by
      intro i hi hd
      have ha := pw_add (a := g) (i := i) (k := p - 1 - i) (m := p) (by omega) (by omega)
      rw [show (i : Int) + (p - 1 - i) = p - 1 by omega, g3] at ha
      have := Int.emod_eq_zero_of_dvd (Int.dvd_trans hd (Int.dvd_mul_right _ (pw g (p - 1 - i) p)))
      omega
    let P : List Int := (List.range (p - 1).toNat).map fun (i : Nat) => pw g ((i + 1 : Nat) : Int) p
    have hP : P.Nodup := by
      show List.Pairwise _ _
      rw [List.pairwise_map]
      refine (List.pairwise_lt_range (n := (p - 1).toNat)).imp_of_mem ?_
      intro i j hi hj hij he
      have hi := List.mem_range.1 hi
      have hj := List.mem_range.1 hj
      have ha := pw_add (a := g) (i := ((i + 1 : Nat) : Int)) (k := (j : Int) - i) (m := p) (by omega) (by omega)
      rw [show (((i + 1 : Nat) : Int) + ((j : Int) - i)) = ((j + 1 : Nat) : Int) by push_cast; omega, ← he] at ha
      have hd := md ha
      have e : pw g ((i + 1 : Nat) : Int) p * pw g ((j : Int) - i) p - pw g ((i + 1 : Nat) : Int) p = pw g ((i + 1 : Nat) : Int) p * (pw g ((j : Int) - i) p - 1) := by grind
      rw [e] at hd
      rcases euclid h hd with hd | hd
      · exact hne (i + 1) (by push_cast; omega) hd
      · have hb := pw_bd (a := g) (e := (j : Int) - i) (show 1 ≤ p by omega)
        have h5 := small_dvd hd (by omega) (by omega)
        exact g4 ((j : Int) - i) (by omega) (by omega) (by rw [h1]; omega)
    have hsub : P ⊆ sqs p := by
      intro a ha
      obtain ⟨i, hi, rfl⟩ := List.mem_map.1 ha
      have hi := List.mem_range.1 hi
      have hb := pw_bd (a := g) (e := ((i + 1 : Nat) : Int)) (show 1 ≤ p by omega)
      have hn := hne (i + 1) (by push_cast; omega)
      refine mem_sqs.2 ⟨?_, hb.2, ?_⟩
      · apply Int.lt_of_not_ge; intro hz
        exact hn (by rw [show pw g ((i + 1 : Nat) : Int) p = 0 by omega]; exact Int.dvd_zero p)
      · refine isq_mk (x := x ^ (i + 1)) (by omega) hb.1 hb.2 ?_
        have e1 : x ^ (i + 1) * x ^ (i + 1) = (x * x) ^ (i + 1) := (Int.mul_pow ..).symm
        have e2 : (x * x) ^ (i + 1) % p = g ^ (i + 1) % p := by rw [← pow_mod, hx]
        have e3 : pw g ((i + 1 : Nat) : Int) p = g ^ (i + 1) % p := by unfold pw; rw [Int.toNat_natCast]
        rw [e1, e3]
        exact md e2
    have hl := hP.length_le_of_subset hsub
    have hs := len_sqs h h3
    simp only [P, List.length_map, List.length_range] at hl
    omega

theorem isq_mul {p a b : Int} (hp : 1 ≤ p) (ha : isq a p = true) (hb : isq b p = true) : isq (a * b % p) p = true := by
  obtain ⟨x, _, _, hx⟩ := isq_iff.1 ha
  obtain ⟨y, _, _, hy⟩ := isq_iff.1 hb
  refine isq_mk (x := x * y) hp (Int.emod_nonneg _ (by omega)) (Int.emod_lt_of_pos _ (by omega)) ?_
  have h1 := md hx
  have h2 := md hy
  have h3 : p ∣ a * b - a * b % p := md rfl
  have e : x * y * (x * y) - a * b % p = y * y * (x * x - a) + a * (y * y - b) + (a * b - a * b % p) := by grind
  rw [e]
  exact Int.dvd_add (Int.dvd_add (Int.dvd_trans h1 (Int.dvd_mul_left _ _)) (Int.dvd_trans h2 (Int.dvd_mul_left _ _))) h3
theorem nsq_mul {p a g : Int} (h : Pr p) (h3 : 3 ≤ p) (a0 : 0 < a) (a1 : a < p) (g0 : 0 ≤ g) (g1 : g < p) (ha : isq a p = true) (hg : isq g p = false) : isq (a * g % p) p = false := by
  cases hq : isq (a * g % p) p with
  | false => rfl
  | true =>
    exfalso
    obtain ⟨x, x0, x1, hx⟩ := isq_iff.1 ha
    obtain ⟨y, _, _, hy⟩ := isq_iff.1 hq
    have hxn : ¬ p ∣ x := by
      intro hd
      have : x = 0 := small_dvd hd (by omega) x1
      subst this; simp at hx; omega
    obtain ⟨u, hu⟩ := pr_inv h hxn
    have k1 := md hx
    have k2 := md hy
    have k3 : p ∣ a * g - a * g % p := md rfl
    have : isq g p = true := by
      refine isq_mk (x := y * u) (by omega) g0 g1 ?_
      have e : y * u * (y * u) - g = u * u * (y * y - a * g % p) - u * u * (a * g - a * g % p) - u * u * g * (x * x - a) + g * (x * u + 1) * (x * u - 1) := by grind
      rw [e]
      exact Int.dvd_add (Int.dvd_sub (Int.dvd_sub (Int.dvd_trans k2 (Int.dvd_mul_left _ _)) (Int.dvd_trans k3 (Int.dvd_mul_left _ _))) (Int.dvd_trans k1 (Int.dvd_mul_left _ _))) (Int.dvd_trans hu (Int.dvd_mul_left _ _))
    rw [hg] at this; cases this
end Go.Proofs.Ytonmggppfopidaa
