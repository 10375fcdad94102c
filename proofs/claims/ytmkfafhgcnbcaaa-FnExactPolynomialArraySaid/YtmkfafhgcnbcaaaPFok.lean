/- Valid fields, in plain terms. -/
import Derived.Test.YtmkfafhgcnbcaaaPFld
import Derived.Test.YtmkfafhgcnbcaaaPFac
import Derived.Test.YtmkfafhgcnbcaaaPPow
namespace Go.Proofs.Ytmkfafhgcnbcaaa
set_option linter.unusedSimpArgs false
set_option linter.unusedVariables false

def allIn (p : Int) (xs : List Int) : Bool := xs.all fun x => decide (0 ≤ x) && decide (x ≤ p - 1)
theorem allIn_iff {p : Int} {xs : List Int} : allIn p xs = true ↔ In p xs := by
  simp only [allIn, List.all_eq_true, Bool.and_eq_true, decide_eq_true_eq, In]
  exact ⟨fun h x hx => by have := h x hx; omega, fun h x hx => by have := h x hx; omega⟩
/-- the field is valid -/
def fOk (p d : Int) (xs : List Int) : Bool :=
  isPr p && decide (1 ≤ d) && decide (pu p 64 d.toNat 1 ≤ 64) && decide ((xs.length : Int) = d + 1) && (cf xs d.toNat == 1) && allIn p xs && irrB p xs

theorem isPr_pos {p : Int} (h : isPr p = true) : 1 ≤ p ∧ p ≤ 1000000 := by
  apply Classical.byContradiction; intro hn
  have : factors p = [] := by unfold factors; rw [if_neg (by omega)]
  unfold isPr at h; rw [this] at h; simp at h
theorem pow_ge {p : Int} (hp : 2 ≤ p) : ∀ m : Nat, (m : Int) + 1 ≤ p ^ m
  | 0 => by simp
  | m + 1 => by
    have := pow_ge hp m
    rw [Int.pow_succ]
    have h2 := Int.mul_le_mul this hp (by omega) (by omega)
    push_cast; omega
theorem pow_ge2 {p : Int} (hp : 2 ≤ p) : ∀ m : Nat, (2 : Int) ^ m ≤ p ^ m
  | 0 => by simp
  | m + 1 => by
    have := pow_ge2 hp m
    have h0 := pow_ge hp m
    rw [Int.pow_succ, Int.pow_succ]
    exact Int.mul_le_mul this hp (by omega) (by omega)
theorem le_pow {p : Int} (hp : 2 ≤ p) {m : Nat} (hm : 1 ≤ m) : p ≤ p ^ m := by
  obtain ⟨k, rfl⟩ := Nat.exists_eq_add_of_le hm
  rw [show 1 + k = k + 1 by omega, Int.pow_succ]
  have := pow_ge hp k
  have := Int.mul_le_mul_of_nonneg_right (show 1 ≤ p ^ k by omega) (show 0 ≤ p by omega)
  omega
theorem pow_small {p : Int} (hp : 2 ≤ p) {m : Nat} (h : p ^ m ≤ 64) : m ≤ 6 := by
  apply Classical.byContradiction; intro hn
  have h1 := pow_ge2 hp m
  have h2 : (2 : Int) ^ 7 ≤ 2 ^ m := by
    obtain ⟨k, rfl⟩ := Nat.exists_eq_add_of_le (show 7 ≤ m by omega)
    rw [Int.pow_add]
    have := pow_ge (p := 2) (by omega) k
    have := Int.mul_le_mul_of_nonneg_left (show 1 ≤ (2 : Int) ^ k by omega) (show (0 : Int) ≤ 2 ^ 7 by decide)
    omega
  have : (2 : Int) ^ 7 = 128 := by decide
  omega
/-- what a valid field is -/
structure FV (p d : Int) (xs : List Int) : Prop where
  pr : isPr p = true
  p2 : 2 ≤ p
  p64 : p ≤ 64
  d1 : 1 ≤ d
  d6 : d ≤ 6
  q : p ^ d.toNat ≤ 64
  len : (xs.length : Int) = d + 1
  top : cf xs d.toNat = 1
  inp : In p xs
  irr : irrB p xs = true
theorem fOk_t {p d : Int} {xs : List Int} (h : fOk p d xs = true) : FV p d xs := by
  simp only [fOk, Bool.and_eq_true, decide_eq_true_eq, beq_iff_eq] at h
  obtain ⟨⟨⟨⟨⟨⟨h1, h2⟩, h3⟩, h4⟩, h5⟩, h6⟩, h7⟩ := h
  have h8 := isPr_pos h1
  have h9 := (isPr_iff h8).1 h1
  have hp2 := h9.1
  have h10 := pu_pow (base := p) (lim := 64) (by omega) d.toNat 1 (by omega) h3
  rw [Int.one_mul] at h10
  rw [h10] at h3
  have h11 := pow_small hp2 h3
  have h12 := le_pow hp2 (m := d.toNat) (by omega)
  exact ⟨h1, hp2, by omega, h2, by omega, h3, h4, h5, allIn_iff.1 h6, h7⟩

theorem prS_iff {p : Nat} (h : p ≤ 64) : prS p = true ↔ Pr p := by
  simp only [prS, Bool.and_eq_true, decide_eq_true_eq, List.all_eq_true, List.mem_range, Bool.or_eq_true, Pr]
  constructor
  · rintro ⟨h1, h2⟩
    refine ⟨by omega, fun d d2 dd e => ?_⟩
    obtain ⟨d, rfl⟩ := Int.eq_ofNat_of_zero_le (show 0 ≤ d by omega)
    have d8 : d ≤ 8 := by
      apply Classical.byContradiction; intro hn
      have := Int.mul_le_mul (show (9 : Int) ≤ d by omega) (show (9 : Int) ≤ d by omega) (by omega) (by omega)
      omega
    have dd' : d * d ≤ p := by have : ((d * d : Nat) : Int) ≤ p := by push_cast; exact dd
                               omega
    have e' : p % d = 0 := by exact_mod_cast e
    by_cases d7 : d < 8
    · rcases h2 d d7 with (h3 | h3) | h3
      · omega
      · omega
      · exact h3 e'
    · have hd8 : d = 8 := by omega
      subst hd8
      have hp64 : p = 64 := by omega
      subst hp64
      rcases h2 2 (by omega) with (h3 | h3) | h3
      · omega
      · omega
      · exact h3 (by decide)
  · rintro ⟨h1, h2⟩
    refine ⟨by omega, fun d _ => ?_⟩
    by_cases h3 : d < 2
    · exact .inl (.inl h3)
    · by_cases h4 : p < d * d
      · exact .inl (.inr h4)
      · refine .inr fun e => ?_
        exact h2 d (by omega) (by have : ((d * d : Nat) : Int) ≤ p := by omega
                                  push_cast at this; exact this) (by exact_mod_cast e)
/-- a prime power is split by its prime -/
theorem split_ok {p d : Int} (p2 : 2 ≤ p) (p64 : p ≤ 64) (d1 : 1 ≤ d) (d6 : d ≤ 6) (hq : p ^ d.toNat ≤ 64) : ((((spl (p ^ d.toNat).toNat).1 : Nat) : Int) = p) ↔ isPr p = true := by
  obtain ⟨P, rfl⟩ := Int.eq_ofNat_of_zero_le (show 0 ≤ p by omega)
  have e : ((P : Int) ^ d.toNat).toNat = P ^ d.toNat := by rw [← Int.natCast_pow, Int.toNat_natCast]
  rw [e]
  have hq' : P ^ d.toNat ≤ 64 := by have : ((P ^ d.toNat : Nat) : Int) ≤ 64 := by rw [Int.natCast_pow]; exact hq
                                    omega
  rw [isPr_iff (by omega), ← prS_iff (by omega), ← spl_ok (by omega) (by omega) (by omega) (by omega) hq']
  omega
end Go.Proofs.Ytmkfafhgcnbcaaa
