/- Finite sums, powers of X modulo a polynomial, in plain terms. -/
import Derived.Test.YtmkfafhgcnbcaaaPFok
namespace Go.Proofs.Ytmkfafhgcnbcaaa
set_option linter.unusedSimpArgs false
set_option linter.unusedVariables false

/-- f 0 + .. + f (n - 1) -/
def sm : Nat → (Nat → Int) → Int
  | 0, _ => 0
  | n + 1, f => sm n f + f n
theorem sm_congr {n : Nat} {f g : Nat → Int} (h : ∀ i, i < n → f i = g i) : sm n f = sm n g := by
  induction n with
  | zero => rfl
  | succ n ih => rw [sm, sm, ih (fun i hi => h i (by omega)), h n (by omega)]
theorem sm_add (n : Nat) (f g : Nat → Int) : sm n (fun i => f i + g i) = sm n f + sm n g := by
  induction n with
  | zero => rfl
  | succ n ih => rw [sm, sm, sm, ih]; omega
theorem sm_mul (n : Nat) (c : Int) (f : Nat → Int) : sm n (fun i => c * f i) = c * sm n f := by
  induction n with
  | zero => simp [sm]
  | succ n ih => rw [sm, sm, ih, Int.mul_add]
theorem sm_mulR (n : Nat) (c : Int) (f : Nat → Int) : sm n (fun i => f i * c) = sm n f * c := by
  rw [Int.mul_comm, ← sm_mul]; exact sm_congr fun i _ => Int.mul_comm _ _
theorem sm_zero {n : Nat} {f : Nat → Int} (h : ∀ i, i < n → f i = 0) : sm n f = 0 := by
  induction n with
  | zero => rfl
  | succ n ih => rw [sm, ih (fun i hi => h i (by omega)), h n (by omega)]; rfl
theorem sm_swap (n m : Nat) (f : Nat → Nat → Int) : sm n (fun i => sm m (f i)) = sm m (fun j => sm n fun i => f i j) := by
  induction n with
  | zero => rw [sm]; exact (sm_zero fun _ _ => rfl).symm
  | succ n ih => rw [sm, ih]; exact (sm_add m (fun j => sm n fun i => f i j) (f n)).symm
theorem sm_head (n : Nat) (f : Nat → Int) : sm (n + 1) f = f 0 + sm n (fun i => f (i + 1)) := by
  induction n with
  | zero => simp [sm]
  | succ n ih => rw [sm, ih, sm]; omega
theorem sm_single {n k : Nat} {f : Nat → Int} (hk : k < n) (h : ∀ i, i < n → i ≠ k → f i = 0) : sm n f = f k := by
  induction n with
  | zero => omega
  | succ n ih =>
    rw [sm]
    by_cases e : k = n
    · subst e; rw [sm_zero (fun i hi => h i (by omega) (by omega))]; omega
    · rw [ih (by omega) (fun i hi => h i (by omega)), h n (by omega) (by omega)]; omega
theorem sm_more {n m : Nat} {f : Nat → Int} (h : n ≤ m) (hz : ∀ i, n ≤ i → i < m → f i = 0) : sm m f = sm n f := by
  induction m with
  | zero => obtain rfl : n = 0 := by omega
            rfl
  | succ m ih =>
    by_cases e : n = m + 1
    · rw [e]
    · rw [sm, ih (by omega) (fun i h1 h2 => hz i h1 (by omega)), hz m (by omega) (by omega)]; omega
theorem sm_split (n m : Nat) (f : Nat → Int) : sm (n + m) f = sm n f + sm m (fun i => f (n + i)) := by
  induction m with
  | zero => simp [sm]
  | succ m ih => rw [← Nat.add_assoc, sm, ih, sm]; omega
/-- a sum over a window -/
theorem sm_win {n c m : Nat} {g : Nat → Int} (h : c + m ≤ n) : sm n (fun t => if c ≤ t ∧ t < c + m then g t else 0) = sm m (fun j => g (c + j)) := by
  rw [sm_more h (fun i h1 _ => if_neg (by omega)), sm_split, sm_zero (fun i hi => if_neg (by omega)), Int.zero_add]
  exact sm_congr fun i hi => if_pos (by omega)
theorem sm_mod {p : Int} {n : Nat} {f g : Nat → Int} (h : ∀ i, i < n → f i % p = g i % p) : sm n f % p = sm n g % p := by
  induction n with
  | zero => rfl
  | succ n ih => rw [sm, sm, Int.add_emod, ih (fun i hi => h i (by omega)), h n (by omega), ← Int.add_emod]
theorem sm_nonneg {n : Nat} {f : Nat → Int} (h : ∀ i, i < n → 0 ≤ f i) : 0 ≤ sm n f := by
  induction n with
  | zero => simp [sm]
  | succ n ih => rw [sm]; have := ih (fun i hi => h i (by omega)); have := h n (by omega); omega
theorem mul_mod {p a b c d : Int} (h : a % p = b % p) (h' : c % p = d % p) : (a * c) % p = (b * d) % p := by
  rw [Int.mul_emod, h, h', ← Int.mul_emod]
theorem add_mod {p a b c d : Int} (h : a % p = b % p) (h' : c % p = d % p) : (a + c) % p = (b + d) % p := by
  rw [Int.add_emod, h, h', ← Int.add_emod]
theorem mod_mod {p a : Int} : a % p % p = a % p := Int.emod_emod_of_dvd _ (Int.dvd_refl _)

/-- coefficient j of X^t modulo a polynomial of degree D with the highest coefficient 1 -/
def rx (fs : List Int) (D : Nat) : Nat → Nat → Int
  | 0, j => if j = 0 then 1 else 0
  | t + 1, j => (if j = 0 then 0 else rx fs D t (j - 1)) - rx fs D t (D - 1) * cf fs j
theorem rx_low {fs : List Int} {D : Nat} : ∀ {t j : Nat}, t < D → j < D → rx fs D t j = if t = j then 1 else 0
  | 0, j, _, _ => by rw [rx]; by_cases h : j = 0 <;> simp [h]; omega
  | t + 1, j, ht, hj => by
    rw [rx, rx_low (t := t) (j := D - 1) (by omega) (by omega), if_neg (show ¬ t = D - 1 by omega)]
    by_cases h : j = 0
    · subst h; simp
    · rw [if_neg h, rx_low (t := t) (by omega) (by omega)]
      by_cases e : t + 1 = j
      · rw [if_pos (by omega), if_pos e]; omega
      · rw [if_neg (by omega), if_neg e]; omega
/-- the polynomial itself is 0 -/
theorem rx_top {fs : List Int} {D : Nat} (hD : 1 ≤ D) : ∀ (s : Nat) {i : Nat}, i < D → sm D (fun j => cf fs j * rx fs D (s + j) i) + rx fs D (s + D) i = 0
  | 0, i, hi => by
    rw [sm_single (k := i) hi (fun j hj hne => by rw [Nat.zero_add, rx_low hj hi, if_neg hne, Int.mul_zero]), Nat.zero_add, Nat.zero_add, rx_low hi hi, if_pos rfl]
    obtain ⟨k, rfl⟩ := Nat.exists_eq_add_of_le' hD
    rw [rx, show k + 1 - 1 = k by omega, rx_low (t := k) (j := k) (by omega) (by omega), if_pos rfl]
    by_cases h : i = 0
    · subst h; simp; omega
    · rw [if_neg h, rx_low (t := k) (by omega) (by omega), if_neg (show ¬ k = i - 1 by omega)]; omega
  | s + 1, i, hi => by
    have h1 := rx_top (fs := fs) hD s (i := D - 1) (by omega)
    have e : ∀ m, s + 1 + m = s + m + 1 := fun m => by omega
    have h3 : sm D (fun j => cf fs j * rx fs D (s + 1 + j) i) = (if i = 0 then 0 else sm D (fun j => cf fs j * rx fs D (s + j) (i - 1))) - sm D (fun j => cf fs j * rx fs D (s + j) (D - 1)) * cf fs i := by
      have h4 : sm D (fun j => cf fs j * rx fs D (s + 1 + j) i) = sm D (fun j => (cf fs j * (if i = 0 then 0 else rx fs D (s + j) (i - 1))) + (-(cf fs i)) * (cf fs j * rx fs D (s + j) (D - 1))) :=
        sm_congr fun j _ => by rw [e, rx]; generalize (if i = 0 then 0 else rx fs D (s + j) (i - 1)) = A; grind
      rw [h4, sm_add, sm_mul]
      by_cases h : i = 0
      · simp only [if_pos h, Int.mul_zero]
        rw [sm_zero (fun _ _ => rfl)]; grind
      · simp only [if_neg h]; grind
    rw [h3, e, rx]
    by_cases h : i = 0
    · rw [if_pos h, if_pos h]; grind
    · have h2 := rx_top (fs := fs) hD s (i := i - 1) (by omega)
      rw [if_neg h, if_neg h]; grind
/-- coefficient i of a polynomial, modulo -/
def ev (fs : List Int) (D n : Nat) (g : Nat → Int) (i : Nat) : Int := sm n fun t => g t * rx fs D t i
theorem ev_low {fs : List Int} {D n : Nat} {g : Nat → Int} {i : Nat} (hi : i < D) (hn : D ≤ n) (hz : ∀ t, D ≤ t → t < n → g t = 0) : ev fs D n g i = g i := by
  unfold ev
  rw [sm_single (k := i) (by omega) (fun t ht hne => ?_), rx_low hi hi, if_pos rfl, Int.mul_one]
  by_cases h : t < D
  · rw [rx_low h hi, if_neg hne, Int.mul_zero]
  · rw [hz t (by omega) ht, Int.zero_mul]
/-- a step of the division leaves the value -/
theorem ev_sub {p : Int} {fs rest : List Int} {D c : Nat} {f : Int} (hD : 1 ≤ D) (h1 : cf fs D = 1) (hc : c + (D + 1) ≤ rest.length) {i : Nat} (hi : i < D) :
    ev fs D rest.length (cf (subT p rest fs c f (D + 1))) i % p = ev fs D rest.length (cf rest) i % p := by
  have h2 : ∀ t, t < rest.length → (cf (subT p rest fs c f (D + 1)) t * rx fs D t i) % p = (cf rest t * rx fs D t i + (-f) * (if c ≤ t ∧ t < c + (D + 1) then cf fs (t - c) * rx fs D t i else 0)) % p := by
    intro t ht
    rw [cf_subT ht]
    split
    · rw [Int.mul_emod, mod_mod, ← Int.mul_emod]
      congr 1; grind
    · congr 1; grind
  unfold ev
  rw [sm_mod h2, sm_add, sm_mul, sm_win (g := fun t => cf fs (t - c) * rx fs D t i) hc]
  have h3 := rx_top (fs := fs) hD c hi
  have h4 : sm (D + 1) (fun j => cf fs (c + j - c) * rx fs D (c + j) i) = 0 := by
    rw [sm, Nat.add_sub_cancel_left, h1, Int.one_mul, ← h3]
    congr 1
    exact sm_congr fun j _ => by rw [Nat.add_sub_cancel_left]
  rw [h4]
  congr 1; omega
theorem ev_rem {p : Int} {fs : List Int} {D : Nat} (hD : 1 ≤ D) (h1 : cf fs D = 1) {i : Nat} (hi : i < D) : ∀ (c : Nat) {rest : List Int}, D + c ≤ rest.length →
    ev fs D rest.length (cf (remN p fs D c rest)) i % p = ev fs D rest.length (cf rest) i % p
  | 0, _, _ => rfl
  | c + 1, rest, h => by
    rw [remN]
    have h2 := ev_rem (p := p) hD h1 hi c (rest := subT p rest fs c (cf rest (D + c)) (D + 1)) (by rw [subT_len]; omega)
    rw [subT_len] at h2
    rw [h2, ev_sub hD h1 (by omega) hi]
theorem rem_top {p : Int} {fs : List Int} {D : Nat} (h1 : cf fs D = 1) : ∀ (c : Nat) {rest : List Int}, D + c ≤ rest.length → (∀ t, D + c ≤ t → t < rest.length → cf rest t = 0) →
    ∀ t, D ≤ t → t < rest.length → cf (remN p fs D c rest) t = 0
  | 0, _, _, hz => hz
  | c + 1, rest, h, hz => by
    rw [remN]
    have h2 := rem_top (p := p) h1 c (rest := subT p rest fs c (cf rest (D + c)) (D + 1)) (by rw [subT_len]; omega) (fun t ht hl => by
      rw [subT_len] at hl
      rw [cf_subT hl]
      by_cases e : t = D + c
      · subst e
        rw [if_pos (by omega), show D + c - c = D by omega, h1]; simp
      · rw [if_neg (by omega)]; exact hz t (by omega) hl)
    rw [subT_len] at h2; exact h2
/-- the remainder's coefficients -/
theorem cf_remL {p : Int} (hp : 0 < p) {fs P : List Int} {D : Nat} (hD : 1 ≤ D) (hl : fs.length = D + 1) (h1 : cf fs D = 1) (hP : In p P) (hPl : D ≤ P.length) {i : Nat} (hi : i < D) :
    cf (remL p P fs) i = ev fs D P.length (cf P) i % p := by
  have h2 := ev_rem (p := p) hD h1 hi (P.length - D) (rest := P) (by omega)
  have h3 := rem_top (p := p) h1 (P.length - D) (rest := P) (by omega) (fun t ht hl => by omega)
  rw [ev_low hi hPl h3] at h2
  have h4 := (In.remN hp (by' := fs) (deg := D) (P.length - D) hP).cf hp i
  rw [Int.emod_eq_of_lt h4.1 h4.2] at h2
  rw [← h2]
  unfold remL
  rw [show fs.length - 1 = D by omega]
  generalize remN p fs D (P.length - D) P = Y at *
  unfold cf
  rw [List.getD_eq_getElem?_getD, List.getElem?_take, if_pos hi, List.getD_eq_getElem?_getD]
theorem remL_len2 {p : Int} {fs P : List Int} {D : Nat} (hl : fs.length = D + 1) (hPl : D ≤ P.length) : (remL p P fs).length = D := by
  unfold remL
  rw [List.length_take, remN_len, hl]; omega
end Go.Proofs.Ytmkfafhgcnbcaaa
