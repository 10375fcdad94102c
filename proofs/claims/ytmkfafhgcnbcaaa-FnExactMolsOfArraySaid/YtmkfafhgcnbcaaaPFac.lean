/- Trial division, in plain terms. -/
namespace Go.Proofs.Ytmkfafhgcnbcaaa
set_option linter.unusedSimpArgs false
set_option linter.unusedVariables false

/-- the factors of n from p on -/
def fac : Nat → Int → Int → List Int
  | 0, _, _ => []
  | f + 1, p, n => if p * p ≤ n then (if n % p = 0 then p :: fac f p (n / p) else fac f (p + 1) n) else if 1 < n then [n] else []

def Pr (n : Int) : Prop := 2 ≤ n ∧ ∀ d, 2 ≤ d → d * d ≤ n → n % d ≠ 0

theorem sq_lt {d p n : Int} (h : d * d ≤ n) (h' : n < p * p) (hp : 0 ≤ p) : d < p := by
  apply Int.lt_of_not_ge
  intro hge
  have := Int.mul_le_mul hge hge hp (by omega)
  omega

theorem sq_ge {p n : Int} (hp : 1 ≤ p) (h : p * p ≤ n) : p ≤ n := by
  have := Int.mul_le_mul_of_nonneg_left hp (show 0 ≤ p by omega)
  omega

theorem div_step {p n : Int} (hp : 2 ≤ p) (hn : 1 ≤ n) (h0 : n % p = 0) : 1 ≤ n / p ∧ 2 * (n / p) ≤ n ∧ p * (n / p) = n := by
  have h1 : p * (n / p) = n := Int.mul_ediv_cancel' (Int.dvd_of_emod_eq_zero h0)
  have h2 : 1 ≤ n / p := by
    apply Int.le_of_not_gt; intro h
    have h3 : n / p ≤ 0 := by omega
    have := Int.mul_nonpos_of_nonneg_of_nonpos (show 0 ≤ p by omega) h3
    omega
  have h3 := Int.mul_le_mul_of_nonneg_right hp (show 0 ≤ n / p by omega)
  exact ⟨h2, by omega, h1⟩

/-- no number from 2 to below p divides n -/
def Low (p n : Int) : Prop := ∀ d, 2 ≤ d → d < p → n % d ≠ 0

theorem mod_of_dvd {a b c : Int} (h1 : b % a = 0) (h2 : c % b = 0) : c % a = 0 :=
  Int.emod_eq_zero_of_dvd (Int.dvd_trans (Int.dvd_of_emod_eq_zero h1) (Int.dvd_of_emod_eq_zero h2))

theorem Low.next {p n : Int} (h : Low p n) (h0 : n % p ≠ 0) : Low (p + 1) n := fun d h2 hd => by
  by_cases e : d = p
  · subst e; exact h0
  · exact h d h2 (by omega)
theorem Low.div {p n : Int} (h : Low p n) (hp : 2 ≤ p) (hn : 1 ≤ n) (h0 : n % p = 0) : Low p (n / p) := fun d h2 hd e => by
  obtain ⟨_, _, h3⟩ := div_step hp hn h0
  have : n % d = 0 := by
    rw [← h3]
    exact Int.emod_eq_zero_of_dvd (Int.dvd_trans (Int.dvd_of_emod_eq_zero e) (Int.dvd_mul_left _ _))
  exact h d h2 hd this
theorem Low.pr {p n : Int} (h : Low p n) (hp : 2 ≤ p) (h0 : n % p = 0) : Pr p := ⟨hp, fun d h2 hd e => by
  have : d < p := by have := Int.mul_le_mul_of_nonneg_left h2 (show 0 ≤ d by omega); omega
  exact h d h2 this (mod_of_dvd e h0)⟩
theorem Low.big {p n : Int} (h : Low p n) (hp : 2 ≤ p) (hn : 1 < n) (hb : n < p * p) : Pr n := ⟨by omega, fun d h2 hd e => h d h2 (sq_lt hd hb (by omega)) e⟩
theorem Low.ge {p n : Int} (h : Low p n) (hn : 1 < n) : p ≤ n := by
  apply Int.le_of_not_gt; intro hlt
  exact h n (by omega) hlt (Int.emod_self)
theorem low2 (n : Int) : Low 2 n := fun d h2 hd => by omega

def prod (xs : List Int) : Int := xs.foldr (· * ·) 1

/-- each is at least the one before it, and at least p -/
def Up (p : Int) : List Int → Prop
  | [] => True
  | x :: xs => p ≤ x ∧ Up x xs

theorem Up.mono {p q : Int} {xs : List Int} (h : Up p xs) (hq : q ≤ p) : Up q xs := by
  cases xs with
  | nil => trivial
  | cons x xs => exact ⟨by have := h.1; omega, h.2⟩

theorem fac_ok : ∀ (f : Nat) (p n : Int), 2 ≤ p → 1 ≤ n → 2 * n + 2 - p < f → Low p n → p ≤ 2 * n + 1 →
    (∀ x ∈ fac f p n, Pr x) ∧ Up p (fac f p n) ∧ prod (fac f p n) = n
  | 0, p, n, hp, hn, hf, hl, hb => by omega
  | f + 1, p, n, hp, hn, hf, hl, hb => by
    unfold fac
    split
    · rename_i h
      have hpn := sq_ge (by omega) h
      split
      · rename_i h0
        obtain ⟨d1, d2, d3⟩ := div_step hp hn h0
        have hge : p ≤ n / p := by
          apply Int.le_of_not_gt; intro hlt
          have h1 : p * (n / p) ≤ p * (p - 1) := Int.mul_le_mul_of_nonneg_left (by omega) (by omega)
          rw [d3, Int.mul_sub] at h1; omega
        obtain ⟨i1, i2, i3⟩ := fac_ok f p (n / p) hp d1 (by omega) (hl.div hp hn h0) (by omega)
        refine ⟨?_, ⟨Int.le_refl _, i2⟩, ?_⟩
        · intro x hx
          rcases List.mem_cons.1 hx with rfl | hx
          · exact hl.pr hp h0
          · exact i1 x hx
        · simp only [prod, List.foldr_cons] at i3 ⊢
          rw [i3, d3]
      · rename_i h0
        obtain ⟨i1, i2, i3⟩ := fac_ok f (p + 1) n (by omega) hn (by omega) (hl.next h0) (by omega)
        exact ⟨i1, i2.mono (by omega), i3⟩
    · rename_i h
      split
      · rename_i h1
        refine ⟨?_, ⟨hl.ge h1, trivial⟩, by simp [prod]⟩
        intro x hx
        simp at hx; subst hx
        exact hl.big hp h1 (by omega)
      · refine ⟨by simp, trivial, ?_⟩
        simp [prod]; omega

theorem fac_out {f : Nat} {p n : Int} (h : n < p * p) (hf : 1 ≤ f) : fac f p n = if 1 < n then [n] else [] := by
  cases f with
  | zero => omega
  | succ f => unfold fac; rw [if_neg (by omega)]

theorem fac_take {f : Nat} {p n : Int} (hp : 2 ≤ p) (hn : 1 ≤ n) (hl : Low p n) (h0 : n % p = 0) (hf : 2 * n + 2 - p < f) (hf1 : 1 ≤ f) :
    ∃ f' : Nat, 1 ≤ f' ∧ 2 * (n / p) + 2 - p < f' ∧ fac f p n = p :: fac f' p (n / p) := by
  obtain ⟨d1, d2, d3⟩ := div_step hp hn h0
  by_cases h : p * p ≤ n
  · have hpn := sq_ge (by omega) h
    cases f with
    | zero => omega
    | succ f =>
      refine ⟨f, by omega, by omega, ?_⟩
      conv => lhs; unfold fac
      rw [if_pos h, if_pos h0]
  · have hk : n / p = 1 := by
      apply Int.le_antisymm _ d1
      apply Int.le_of_not_gt; intro hgt
      have hlt : n / p < p := by
        apply Int.lt_of_not_ge; intro hge
        have := Int.mul_le_mul_of_nonneg_left hge (show 0 ≤ p by omega)
        omega
      refine hl (n / p) (by omega) hlt ?_
      exact Int.emod_eq_zero_of_dvd ⟨p, by rw [Int.mul_comm]; exact d3.symm⟩
    have hnp : n = p := by rw [hk] at d3; omega
    refine ⟨f, hf1, by omega, ?_⟩
    have hpp : p < p * p := by have := Int.mul_le_mul_of_nonneg_left hp (show 0 ≤ p by omega); omega
    rw [hk, fac_out (by omega) hf1, fac_out (by omega) hf1, if_pos (by omega), hnp]; simp

theorem fac_skip {f : Nat} {p n : Int} (hp : 2 ≤ p) (hn : 1 ≤ n) (h0 : n % p ≠ 0) (hf : 2 * n + 2 - p < f) (hf1 : 1 ≤ f) :
    ∃ f' : Nat, 1 ≤ f' ∧ 2 * n + 2 - (p + 1) < f' ∧ fac f p n = fac f' (p + 1) n := by
  by_cases h : p * p ≤ n
  · have hpn := sq_ge (by omega) h
    cases f with
    | zero => omega
    | succ f =>
      refine ⟨f, by omega, by omega, ?_⟩
      conv => lhs; unfold fac
      rw [if_pos h, if_neg h0]
  · refine ⟨f, hf1, by omega, ?_⟩
    have hpp : p * p ≤ (p + 1) * (p + 1) := Int.mul_le_mul (by omega) (by omega) (by omega) (by omega)
    rw [fac_out (by omega) hf1, fac_out (by omega) hf1]

/-- what FactorsOf returns -/
def factors (n : Int) : List Int := if 1 ≤ n ∧ n ≤ 1000000 then fac 2000005 2 n else []

theorem factors_ok {n : Int} (h : 1 ≤ n ∧ n ≤ 1000000) : (∀ x ∈ factors n, Pr x) ∧ Up 2 (factors n) ∧ prod (factors n) = n := by
  unfold factors; rw [if_pos h]
  exact fac_ok _ _ _ (by omega) h.1 (by omega) (low2 n) (by omega)

theorem prod_ge : ∀ (xs : List Int), (∀ x ∈ xs, Pr x) → 1 ≤ prod xs
  | [], _ => by simp [prod]
  | x :: xs, h => by
    have h1 := (h x (by simp)).1
    have h2 := prod_ge xs (fun y hy => h y (by simp [hy]))
    have := Int.mul_le_mul h1 h2 (by omega) (by omega)
    simp only [prod, List.foldr_cons] at this ⊢
    omega

theorem prod_app (xs ys : List Int) : prod (xs ++ ys) = prod xs * prod ys := by
  induction xs with
  | nil => simp [prod]
  | cons x xs ih => simp only [prod, List.cons_append, List.foldr_cons] at ih ⊢; rw [ih, Int.mul_assoc]

theorem not_pr_mul {a b : Int} (ha : 2 ≤ a) (hb : 2 ≤ b) : ¬ Pr (a * b) := by
  intro h
  rcases Int.le_total a b with hab | hab
  · exact h.2 a ha (Int.mul_le_mul_of_nonneg_left hab (by omega)) (Int.mul_emod_right a b)
  · exact h.2 b hb (Int.mul_le_mul_of_nonneg_right hab (by omega)) (Int.mul_emod_left a b)

theorem len_one {n : Int} (h : 1 ≤ n ∧ n ≤ 1000000) : (factors n).length = 1 ↔ Pr n := by
  obtain ⟨h1, _, h3⟩ := factors_ok h
  generalize factors n = xs at *
  constructor
  · intro hl
    obtain ⟨x, rfl⟩ := List.length_eq_one_iff.1 hl
    simp [prod] at h3; subst h3
    exact h1 x (by simp)
  · intro hp
    match xs, h1, h3 with
    | [], _, h3 => simp [prod] at h3; have := hp.1; omega
    | [x], _, _ => rfl
    | x :: y :: zs, h1, h3 =>
      exfalso
      have hx := (h1 x (by simp)).1
      have h4 : 2 ≤ prod (y :: zs) := by
        have hy := (h1 y (by simp)).1
        have h5 := prod_ge zs (fun z hz => h1 z (by simp [hz]))
        have := Int.mul_le_mul hy h5 (by omega) (by omega)
        simp only [prod, List.foldr_cons] at this ⊢; omega
      have : n = x * prod (y :: zs) := by rw [← h3]; rfl
      rw [this] at hp
      exact not_pr_mul hx h4 hp

theorem pr_le {x n : Int} (hx : Pr x) (hn : x ≤ n) : 1 ≤ x ∧ x ≤ n := ⟨by have := hx.1; omega, hn⟩

/-- is it prime: as the program has it -/
def isPr (n : Int) : Bool := (factors n).length == 1
theorem isPr_iff {n : Int} (h : 1 ≤ n ∧ n ≤ 1000000) : isPr n = true ↔ Pr n := by
  unfold isPr; rw [beq_iff_eq]; exact len_one h

/-- what PrimePower returns -/
def pripow (n : Int) : Int × Int :=
  match factors n with
  | [] => (0, 0)
  | x :: xs => if xs.all (· == x) then (x, xs.length + 1) else (0, 0)

theorem up_nth : ∀ (xs : List Int) (p : Int), Up p xs → ∀ j, (hj : j < xs.length) → p ≤ xs[j]
  | [], _, _, j, hj => by simp at hj
  | x :: xs, p, h, 0, _ => h.1
  | x :: xs, p, h, j + 1, hj => by
    have := up_nth xs x h.2 j (by simpa using hj)
    have := h.1
    simp only [List.getElem_cons_succ]; omega
theorem up_step : ∀ (xs : List Int) (p : Int), Up p xs → ∀ j, (hj : j + 1 < xs.length) → xs[j] ≤ xs[j + 1]
  | [], _, _, j, hj => by simp at hj
  | [x], p, h, 0, hj => by simp at hj
  | x :: y :: xs, p, h, 0, _ => h.2.1
  | x :: xs, p, h, j + 1, hj => by
    have := up_step xs x h.2 j (by simpa using hj)
    simpa using this
theorem up_le_last : ∀ (xs : List Int) (p : Int), Up p xs → ∀ j, (hj : j < xs.length) → xs[j] ≤ xs[xs.length - 1]
  | [], _, _, j, hj => by simp at hj
  | [x], p, h, j, hj => by simp at hj; subst hj; simp
  | x :: y :: xs, p, h, 0, _ => by
    have := up_nth (y :: xs) x h.2 xs.length (by simp)
    simpa using this
  | x :: y :: xs, p, h, j + 1, hj => by
    have := up_le_last (y :: xs) x h.2 j (by simpa using hj)
    simpa using this
end Go.Proofs.Ytmkfafhgcnbcaaa
