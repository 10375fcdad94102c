/- Finite sums, powers of X modulo a polynomial, in plain terms. The laws of a finite field, in plain terms. Every field has an element whose powers are all elements but 0. The number of elements of a field, and inverses by trial. -/
import Derived.Test.YtpfgbbbjldpnnaaPFok
namespace Go.Proofs.Ytpfgbbbjldpnnaa
set_option linter.unusedSimpArgs false
set_option linter.unusedVariables false

/-- f 0 + .. + f (n - 1) -/
def sm : Nat → (Nat → Int) → Int
  | 0, _ => 0
  | n + 1, f => sm n f + f n
theorem sm_congr {n : Nat} {f g : Nat → Int} (h : ∀ i, i < n → f i = g i) : sm n f = sm n g := by
  induction n with
  | zero => rfl
  | succ n ih => rw [sm, sm, ih (fun i hi => h i (by omega)), h n (by omega)]
theorem sm_add (n : Nat) (f g : Nat → Int) : sm n (fun i => f i + g i) = sm n f + sm n g := by
  induction n with
  | zero => rfl
  | succ n ih => rw [sm, sm, sm, ih]; omega
theorem sm_mul (n : Nat) (c : Int) (f : Nat → Int) : sm n (fun i => c * f i) = c * sm n f := by
  induction n with
  | zero => simp [sm]
  | succ n ih => rw [sm, sm, ih, Int.mul_add]
theorem sm_mulR (n : Nat) (c : Int) (f : Nat → Int) : sm n (fun i => f i * c) = sm n f * c := by
  rw [Int.mul_comm, ← sm_mul]; exact sm_congr fun i _ => Int.mul_comm _ _
theorem sm_zero {n : Nat} {f : Nat → Int} (h : ∀ i, i < n → f i = 0) : sm n f = 0 := by
  induction n with
  | zero => rfl
  | succ n ih => rw [sm, ih (fun i hi => h i (by omega)), h n (by omega)]; rfl
theorem sm_swap (n m : Nat) (f : Nat → Nat → Int) : sm n (fun i => sm m (f i)) = sm m (fun j => sm n fun i => f i j) := by
  induction n with
  | zero => rw [sm]; exact (sm_zero fun _ _ => rfl).symm
  | succ n ih => rw [sm, ih]; exact (sm_add m (fun j => sm n fun i => f i j) (f n)).symm
theorem sm_head (n : Nat) (f : Nat → Int) : sm (n + 1) f = f 0 + sm n (fun i => f (i + 1)) := by
  induction n with
  | zero => simp [sm]
  | succ n ih => rw [sm, ih, sm]; omega
theorem sm_single {n k : Nat} {f : Nat → Int} (hk : k < n) (h : ∀ i, i < n → i ≠ k → f i = 0) : sm n f = f k := by
  induction n with
  | zero => omega
  | succ n ih =>
    rw [sm]
    by_cases e : k = n
    · subst e; rw [sm_zero (fun i hi => h i (by omega) (by omega))]; omega
    · rw [ih (by omega) (fun i hi => h i (by omega)), h n (by omega) (by omega)]; omega
theorem sm_more {n m : Nat} {f : Nat → Int} (h : n ≤ m) (hz : ∀ i, n ≤ i → i < m → f i = 0) : sm m f = sm n f := by
  induction m with
  | zero => obtain rfl : n = 0 := by omega
            rfl
  | succ m ih =>
    by_cases e : n = m + 1
    · rw [e]
    · rw [sm, ih (by omega) (fun i h1 h2 => hz i h1 (by omega)), hz m (by omega) (by omega)]; omega
theorem sm_split (n m : Nat) (f : Nat → Int) : sm (n + m) f = sm n f + sm m (fun i => f (n + i)) := by
  induction m with
  | zero => simp [sm]
  | succ m ih => rw [← Nat.add_assoc, sm, ih, sm]; omega
/-- a sum over a window -/
theorem sm_win {n c m : Nat} {g : Nat → Int} (h : c + m ≤ n) : sm n (fun t => if c ≤ t ∧ t < c + m then g t else 0) = sm m (fun j => g (c + j)) := by
  rw [sm_more h (fun i h1 _ => if_neg (by omega)), sm_split, sm_zero (fun i hi => if_neg (by omega)), Int.zero_add]
  exact sm_congr fun i hi => if_pos (by omega)
theorem sm_mod {p : Int} {n : Nat} {f g : Nat → Int} (h : ∀ i, i < n → f i % p = g i % p) : sm n f % p = sm n g % p := by
  induction n with
  | zero => rfl
  | succ n ih => rw [sm, sm, Int.add_emod, ih (fun i hi => h i (by omega)), h n (by omega), ← Int.add_emod]
theorem sm_nonneg {n : Nat} {f : Nat → Int} (h : ∀ i, i < n → 0 ≤ f i) : 0 ≤ sm n f := by
  induction n with
  | zero => simp [sm]
  | succ n ih => rw [sm]; have := ih (fun i hi => h i (by omega)); have := h n (by omega); omega
theorem mul_mod {p a b c d : Int} (h : a % p = b % p) (h' : c % p = d % p) : (a * c) % p = (b * d) % p := by
  rw [Int.mul_emod, h, h', ← Int.mul_emod]
theorem add_mod {p a b c d : Int} (h : a % p = b % p) (h' : c % p = d % p) : (a + c) % p = (b + d) % p := by
  rw [Int.add_emod, h, h', ← Int.add_emod]
theorem mod_mod {p a : Int} : a % p % p = a % p := Int.emod_emod_of_dvd _ (Int.dvd_refl _)

/-- coefficient j of X^t modulo a polynomial of degree D with the highest coefficient 1 -/
def rx (fs : List Int) (D : Nat) : Nat → Nat → Int
  | 0, j => if j = 0 then 1 else 0
  | t + 1, j => (if j = 0 then 0 else rx fs D t (j - 1)) - rx fs D t (D - 1) * cf fs j
theorem rx_low {fs : List Int} {D : Nat} : ∀ {t j : Nat}, t < D → j < D → rx fs D t j = if t = j then 1 else 0
  | 0, j, _, _ => by rw [rx]; by_cases h : j = 0 <;> simp [h]; omega
  | t + 1, j, ht, hj => by
    rw [rx, rx_low (t := t) (j := D - 1) (by omega) (by omega), if_neg (show ¬ t = D - 1 by omega)]
    by_cases h : j = 0
    · subst h; simp
    · rw [if_neg h, rx_low (t := t) (by omega) (by omega)]
      by_cases e : t + 1 = j
      · rw [if_pos (by omega), if_pos e]; omega
      · rw [if_neg (by omega), if_neg e]; omega
/-- the polynomial itself is 0 -/
theorem rx_top {fs : List Int} {D : Nat} (hD : 1 ≤ D) : ∀ (s : Nat) {i : Nat}, i < D → sm D (fun j => cf fs j * rx fs D (s + j) i) + rx fs D (s + D) i = 0
  | 0, i, hi => by
    rw [sm_single (k := i) hi (fun j hj hne => by rw [Nat.zero_add, rx_low hj hi, if_neg hne, Int.mul_zero]), Nat.zero_add, Nat.zero_add, rx_low hi hi, if_pos rfl]
    obtain ⟨k, rfl⟩ := Nat.exists_eq_add_of_le' hD
    rw [rx, show k + 1 - 1 = k by omega, rx_low (t := k) (j := k) (by omega) (by omega), if_pos rfl]
    by_cases h : i = 0
    · subst h; simp; omega
    · rw [if_neg h, rx_low (t := k) (by omega) (by omega), if_neg (show ¬ k = i - 1 by omega)]; omega
  | s + 1, i, hi => by
    have h1 := rx_top (fs := fs) hD s (i := D - 1) (by omega)
    have e : ∀ m, s + 1 + m = s + m + 1 := fun m => by omega
    have h3 : sm D (fun j => cf fs j * rx fs D (s + 1 + j) i) = (if i = 0 then 0 else sm D (fun j => cf fs j * rx fs D (s + j) (i - 1))) - sm D (fun j => cf fs j * rx fs D (s + j) (D - 1)) * cf fs i := by
      have h4 : sm D (fun j => cf fs j * rx fs D (s + 1 + j) i) = sm D (fun j => (cf fs j * (if i = 0 then 0 else rx fs D (s + j) (i - 1))) + (-(cf fs i)) * (cf fs j * rx fs D (s + j) (D - 1))) :=
        sm_congr fun j _ => by rw [e, rx]; generalize (if i = 0 then 0 else rx fs D (s + j) (i - 1)) = A; grind
      rw [h4, sm_add, sm_mul]
      by_cases h : i = 0
      · simp only [if_pos h, Int.mul_zero]
        rw [sm_zero (fun _ _ => rfl)]; grind
      · simp only [if_neg h]; grind
    rw [h3, e, rx]
    by_cases h : i = 0
    · rw [if_pos h, if_pos h]; grind
    · have h2 := rx_top (fs := fs) hD s (i := i - 1) (by omega)
      rw [if_neg h, if_neg h]; grind
/-- coefficient i of a polynomial, modulo -/
def ev (fs : List Int) (D n : Nat) (g : Nat → Int) (i : Nat) : Int := sm n fun t => g t * rx fs D t i
theorem ev_low {fs : List Int} {D n : Nat} {g : Nat → Int} {i : Nat} (hi : i < D) (hn : D ≤ n) (hz : ∀ t, D ≤ t → t < n → g t = 0) : ev fs D n g i = g i := by
  unfold ev
  rw [sm_single (k := i) (by omega) (fun t ht hne => ?_), rx_low hi hi, if_pos rfl, Int.mul_one]
  by_cases h : t < D
  · rw [rx_low h hi, if_neg hne, Int.mul_zero]
  · rw [hz t (by omega) ht, Int.zero_mul]
/-- a step of the division leaves the value -/
theorem ev_sub {p : Int} {fs rest : List Int} {D c : Nat} {f : Int} (hD : 1 ≤ D) (h1 : cf fs D = 1) (hc : c + (D + 1) ≤ rest.length) {i : Nat} (hi : i < D) :
    ev fs D rest.length (cf (subT p rest fs c f (D + 1))) i % p = ev fs D rest.length (cf rest) i % p := by
  have h2 : ∀ t, t < rest.length → (cf (subT p rest fs c f (D + 1)) t * rx fs D t i) % p = (cf rest t * rx fs D t i + (-f) * (if c ≤ t ∧ t < c + (D + 1) then cf fs (t - c) * rx fs D t i else 0)) % p := by
    intro t ht
    rw [cf_subT ht]
    split
    · rw [Int.mul_emod, mod_mod, ← Int.mul_emod]
      congr 1; grind
    · congr 1; grind
  unfold ev
  rw [sm_mod h2, sm_add, sm_mul, sm_win (g := fun t => cf fs (t - c) * rx fs D t i) hc]
  have h3 := rx_top (fs := fs) hD c hi
  have h4 : sm (D + 1) (fun j => cf fs (c + j - c) * rx fs D (c + j) i) = 0 := by
    rw [sm, Nat.add_sub_cancel_left, h1, Int.one_mul, ← h3]
    congr 1
    exact sm_congr fun j _ => by rw [Nat.add_sub_cancel_left]
  rw [h4]
  congr 1; omega
theorem ev_rem {p : Int} {fs : List Int} {D : Nat} (hD : 1 ≤ D) (h1 : cf fs D = 1) {i : Nat} (hi : i < D) : ∀ (c : Nat) {rest : List Int}, D + c ≤ rest.length →
    ev fs D rest.length (cf (remN p fs D c rest)) i % p = ev fs D rest.length (cf rest) i % p
  | 0, _, _ => rfl
  | c + 1, rest, h => by
    rw [remN]
    have h2 := ev_rem (p := p) hD h1 hi c (rest := subT p rest fs c (cf rest (D + c)) (D + 1)) (by rw [subT_len]; omega)
    rw [subT_len] at h2
    rw [h2, ev_sub hD h1 (by omega) hi]
theorem rem_top {p : Int} {fs : List Int} {D : Nat} (h1 : cf fs D = 1) : ∀ (c : Nat) {rest : List Int}, D + c ≤ rest.length → (∀ t, D + c ≤ t → t < rest.length → cf rest t = 0) →
    ∀ t, D ≤ t → t < rest.length → cf (remN p fs D c rest) t = 0
  | 0, _, _, hz => hz
  | c + 1, rest, h, hz => by
    rw [remN]
    have h2 := rem_top (p := p) h1 c (rest := subT p rest fs c (cf rest (D + c)) (D + 1)) (by rw [subT_len]; omega) (fun t ht hl => by
      rw [subT_len] at hl
      rw [cf_subT hl]
      by_cases e : t = D + c
      · subst e
        rw [if_pos (by omega), show D + c - c = D by omega, h1]; simp
      · rw [if_neg (by omega)]; exact hz t (by omega) hl)
    rw [subT_len] at h2; exact h2
/-- the remainder's coefficients -/
theorem cf_remL {p : Int} (hp : 0 < p) {fs P : List Int} {D : Nat} (hD : 1 ≤ D) (hl : fs.length = D + 1) (h1 : cf fs D = 1) (hP : In p P) (hPl : D ≤ P.length) {i : Nat} (hi : i < D) :
    cf (remL p P fs) i = ev fs D P.length (cf P) i % p := by
  have h2 := ev_rem (p := p) hD h1 hi (P.length - D) (rest := P) (by omega)
  have h3 := rem_top (p := p) h1 (P.length - D) (rest := P) (by omega) (fun t ht hl => by omega)
  rw [ev_low hi hPl h3] at h2
  have h4 := (In.remN hp (by' := fs) (deg := D) (P.length - D) hP).cf hp i
  rw [Int.emod_eq_of_lt h4.1 h4.2] at h2
  rw [← h2]
  unfold remL
  rw [show fs.length - 1 = D by omega]
  generalize remN p fs D (P.length - D) P = Y at *
  unfold cf
  rw [List.getD_eq_getElem?_getD, List.getElem?_take, if_pos hi, List.getD_eq_getElem?_getD]
theorem remL_len2 {p : Int} {fs P : List Int} {D : Nat} (hl : fs.length = D + 1) (hPl : D ≤ P.length) : (remL p P fs).length = D := by
  unfold remL
  rw [List.length_take, remN_len, hl]; omega

/-- a product's coefficient, as far as i places of the first factor are taken, as a sum -/
theorem cvl_sm {p : Int} (x y : List Int) (D t : Nat) : ∀ i : Nat, cvl p x y D i t % p = sm i (fun u => if u ≤ t ∧ t < u + D then cf x u * cf y (t - u) else 0) % p
  | 0 => rfl
  | i + 1 => by
    rw [cvl, sm]
    split
    · rw [mod_mod]; exact add_mod (cvl_sm x y D t i) rfl
    · rw [Int.add_zero]; exact cvl_sm x y D t i
/-- a product of lists of coefficients -/
def bil (fs : List Int) (D : Nat) (x y : Nat → Int) (i : Nat) : Int := sm D fun u => sm D fun k => x u * y k * rx fs D (u + k) i
theorem ev_cvl {p : Int} {fs : List Int} {D : Nat} (x y : List Int) (i : Nat) :
    ev fs D (2 * D - 1) (cvl p x y D D) i % p = bil fs D (cf x) (cf y) i % p := by
  have h1 : ev fs D (2 * D - 1) (cvl p x y D D) i % p = sm (2 * D - 1) (fun t => sm D fun u => if u ≤ t ∧ t < u + D then cf x u * cf y (t - u) * rx fs D t i else 0) % p := by
    unfold ev
    refine sm_mod fun t _ => ?_
    rw [mul_mod (cvl_sm x y D t D) rfl, ← sm_mulR]
    congr 1
    refine sm_congr fun u _ => ?_
    split
    · rfl
    · rw [Int.zero_mul]
  rw [h1, sm_swap]
  unfold bil
  congr 1
  refine sm_congr fun u hu => ?_
  rw [sm_win (g := fun t => cf x u * cf y (t - u) * rx fs D t i) (by omega)]
  exact sm_congr fun k _ => by rw [Nat.add_sub_cancel_left]

theorem dgt_numL {p : Int} (hp : 0 < p) : ∀ {xs : List Int}, In p xs → dgt p xs.length (numL p xs) = xs
  | [], _ => rfl
  | x :: r, h => by
    have h2 := h x (by simp)
    have e : numL p (x :: r) = numL p r * p + x := rfl
    rw [List.length_cons, dgt, e, Int.add_comm, Int.add_mul_emod_self_right, Int.emod_eq_of_lt h2.1 h2.2, Int.add_mul_ediv_right _ _ (by omega), Int.ediv_eq_zero_of_lt h2.1 h2.2, Int.zero_add, dgt_numL hp (fun y hy => h y (by simp [hy]))]
theorem dgt_num {p : Int} (hp : 0 < p) {D : Nat} {xs : List Int} (hl : xs.length = D) (h : In p xs) : dgt p D (numL p xs) = xs := by
  subst hl; exact dgt_numL hp h

/-- what the laws of a field need of it -/
structure FA (p : Int) (D : Nat) (fs : List Int) : Prop where
  p2 : 2 ≤ p
  D1 : 1 ≤ D
  len : fs.length = D + 1
  top : cf fs D = 1
theorem FV.fa {p : Int} {D : Nat} {fs : List Int} (h : FV p D fs) : FA p D fs := ⟨h.p2, by have := h.d1; omega, by have := h.len; omega, by have := h.top; rwa [Int.toNat_natCast] at this⟩
/-- coefficient i of an element -/
def dc (p : Int) (D : Nat) (a : Int) (i : Nat) : Int := cf (dgt p D a) i
/-- the elements -/
def El (p : Int) (D : Nat) (a : Int) : Prop := 0 ≤ a ∧ a < p ^ D
section
variable {p : Int} {D : Nat} {fs : List Int}
theorem El.ext {a b : Int} (hp : 0 < p) (ha : El p D a) (hb : El p D b) (h : ∀ i, i < D → dc p D a i = dc p D b i) : a = b := by
  have := cf_ext (xs := dgt p D a) (ys := dgt p D b) (by rw [dgt_len, dgt_len]) (fun j hj => h j (by rwa [dgt_len] at hj))
  rw [← numL_dgt hp D a ha.1 ha.2, ← numL_dgt hp D b hb.1 hb.2, this]
theorem dc_lt (hp : 0 < p) (a : Int) (i : Nat) : 0 ≤ dc p D a i ∧ dc p D a i < p := (dgt_in hp D a).cf hp i
theorem dc_mod (hp : 0 < p) (a : Int) (i : Nat) : dc p D a i % p = dc p D a i := Int.emod_eq_of_lt (dc_lt hp a i).1 (dc_lt hp a i).2
theorem num_el (hp : 1 ≤ p) {xs : List Int} (hl : xs.length = D) (h : In p xs) : El p D (numL p xs) := ⟨numL_nonneg (by omega) (fun x hx => (h x hx).1), by rw [← hl]; exact numL_lt hp h⟩
theorem sumIn (hp : 0 < p) (f : Nat → Int) : In p (tab D fun i => f i % p) := In.tab fun _ _ => ⟨Int.emod_nonneg _ (by omega), Int.emod_lt_of_pos _ hp⟩
theorem fsum_el (hp : 0 < p) (a b k : Int) : El p D (fsum p D a b k) := num_el (by omega) (tab_len _ _) (sumIn hp _)
theorem dc_fsum (hp : 0 < p) {a b k : Int} {i : Nat} (hi : i < D) : dc p D (fsum p D a b k) i = (dc p D a i + k * dc p D b i) % p := by
  unfold dc fsum
  rw [dgt_num hp (tab_len _ _) (sumIn hp _), cf_tab hi]
theorem fmul_list (h : FA p D fs) (a b : Int) : remL p (tab (2 * D - 1) (cvl p (dgt p D a) (dgt p D b) D D)) fs = tab D (fun i => bil fs D (dc p D a) (dc p D b) i % p) := by
  have hp : 0 < p := by have := h.p2; omega
  have hD := h.D1
  have hl : (remL p (tab (2 * D - 1) (cvl p (dgt p D a) (dgt p D b) D D)) fs).length = D := remL_len2 h.len (by rw [tab_len]; omega)
  refine cf_ext (by rw [hl, tab_len]) fun i hi => ?_
  rw [hl] at hi
  rw [cf_tab hi, cf_remL hp hD h.len h.top (In.tab fun t _ => cvl_in hp _ _ D D t) (by rw [tab_len]; omega) hi, tab_len]
  have e : ev fs D (2 * D - 1) (cf (tab (2 * D - 1) (cvl p (dgt p D a) (dgt p D b) D D))) i = ev fs D (2 * D - 1) (cvl p (dgt p D a) (dgt p D b) D D) i := by
    unfold ev; exact sm_congr fun t ht => by rw [cf_tab ht]
  rw [e, ev_cvl]; rfl
theorem fmul_num (h : FA p D fs) (a b : Int) : fmul p D fs a b = numL p (tab D (fun i => bil fs D (dc p D a) (dc p D b) i % p)) := by
  unfold fmul; rw [fmul_list h]
theorem fmul_el (h : FA p D fs) (a b : Int) : El p D (fmul p D fs a b) := by
  have hp : 0 < p := by have := h.p2; omega
  rw [fmul_num h]; exact num_el (by omega) (tab_len _ _) (sumIn hp _)
theorem dc_fmul (h : FA p D fs) {a b : Int} {i : Nat} (hi : i < D) : dc p D (fmul p D fs a b) i = bil fs D (dc p D a) (dc p D b) i % p := by
  have hp : 0 < p := by have := h.p2; omega
  rw [fmul_num h]
  unfold dc
  rw [dgt_num hp (tab_len _ _) (sumIn hp _), cf_tab hi]
theorem bil_comm (x y : Nat → Int) (i : Nat) : bil fs D x y i = bil fs D y x i := by
  unfold bil
  rw [sm_swap]
  exact sm_congr fun u _ => sm_congr fun k _ => by rw [Int.mul_comm (x k), Nat.add_comm]
theorem fmul_comm (h : FA p D fs) (a b : Int) : fmul p D fs a b = fmul p D fs b a := by
  rw [fmul_num h, fmul_num h]; congr 1; exact tab_congr fun i _ => by rw [bil_comm]
theorem bil_add (x y z : Nat → Int) (k : Int) (i : Nat) : bil fs D x (fun j => y j + k * z j) i = bil fs D x y i + k * bil fs D x z i := by
  unfold bil
  rw [← sm_mul, ← sm_add]
  refine sm_congr fun u _ => ?_
  rw [← sm_mul, ← sm_add]
  exact sm_congr fun v _ => by grind
theorem bil_mod {x y x' y' : Nat → Int} {i : Nat} (hx : ∀ j, j < D → x j % p = x' j % p) (hy : ∀ j, j < D → y j % p = y' j % p) : bil fs D x y i % p = bil fs D x' y' i % p := by
  unfold bil
  exact sm_mod fun u hu => sm_mod fun k hk => mul_mod (mul_mod (hx u hu) (hy k hk)) rfl
theorem fmul_fsum (h : FA p D fs) (a b c k : Int) : fmul p D fs a (fsum p D b c k) = fsum p D (fmul p D fs a b) (fmul p D fs a c) k := by
  have hp : 0 < p := by have := h.p2; omega
  refine (fmul_el h _ _).ext hp (fsum_el hp _ _ _) fun i hi => ?_
  rw [dc_fmul h hi, dc_fsum hp hi, dc_fmul h hi, dc_fmul h hi, bil_mod (fun _ _ => rfl) (y' := fun j => dc p D b j + k * dc p D c j) (fun j hj => by rw [dc_fsum hp hj, mod_mod]), bil_add]
  exact add_mod mod_mod.symm (mul_mod rfl mod_mod.symm)
/-- powers of X multiply -/
theorem rx_mul (hD : 1 ≤ D) (s : Nat) : ∀ (k : Nat) {i : Nat}, i < D → sm D (fun m => rx fs D s m * rx fs D (m + k) i) = rx fs D (s + k) i := by
  induction s with
  | zero =>
    intro k i hi
    rw [sm_single (k := 0) (by omega) (fun m _ hne => by rw [rx, if_neg hne, Int.zero_mul])]
    simp [rx]
  | succ s ih =>
    intro k i hi
    rw [show s + 1 + k = s + (k + 1) by omega, ← ih (k + 1) hi]
    have h1 := rx_top (fs := fs) hD k hi
    have h2 : sm D (fun m => rx fs D (s + 1) m * rx fs D (m + k) i) = sm D (fun m => (if m = 0 then 0 else rx fs D s (m - 1)) * rx fs D (m + k) i + (-(rx fs D s (D - 1))) * (cf fs m * rx fs D (k + m) i)) :=
      sm_congr fun m _ => by rw [rx, Nat.add_comm m k]; generalize (if m = 0 then 0 else rx fs D s (m - 1)) = A; grind
    rw [h2, sm_add, sm_mul]
    obtain ⟨E, rfl⟩ := Nat.exists_eq_add_of_le' hD
    have h5 : sm (E + 1) (fun m => rx fs (E + 1) s m * rx fs (E + 1) (m + (k + 1)) i) = sm E (fun m => rx fs (E + 1) s m * rx fs (E + 1) (m + (k + 1)) i) + rx fs (E + 1) s E * rx fs (E + 1) (E + (k + 1)) i := rfl
    rw [sm_head, if_pos rfl, Int.zero_mul, show E + 1 - 1 = E by omega, h5]
    have h3 : sm E (fun m => (if m + 1 = 0 then 0 else rx fs (E + 1) s (m + 1 - 1)) * rx fs (E + 1) (m + 1 + k) i) = sm E (fun m => rx fs (E + 1) s m * rx fs (E + 1) (m + (k + 1)) i) :=
      sm_congr fun m _ => by rw [if_neg (by omega), show m + 1 - 1 = m by omega, show m + 1 + k = m + (k + 1) by omega]
    rw [h3, show E + (k + 1) = k + (E + 1) by omega]
    grind
theorem bil_assoc (hD : 1 ≤ D) (x y z : Nat → Int) {i : Nat} (hi : i < D) : bil fs D (bil fs D x y) z i = bil fs D x (bil fs D y z) i := by
  have h1 : bil fs D (bil fs D x y) z i = sm D fun u => sm D fun v => sm D fun k => x u * y v * z k * rx fs D (u + v + k) i := by
    have e1 : bil fs D (bil fs D x y) z i = sm D fun m => sm D fun k => sm D fun u => sm D fun v => x u * y v * rx fs D (u + v) m * z k * rx fs D (m + k) i := by
      show (sm D fun m => sm D fun k => bil fs D x y m * z k * rx fs D (m + k) i) = _
      refine sm_congr fun m _ => sm_congr fun k _ => ?_
      unfold bil
      rw [← sm_mulR, ← sm_mulR]
      refine sm_congr fun u _ => ?_
      rw [← sm_mulR, ← sm_mulR]
    rw [e1, sm_swap]
    have e2 : (sm D fun k => sm D fun m => sm D fun u => sm D fun v => x u * y v * rx fs D (u + v) m * z k * rx fs D (m + k) i) = sm D fun k => sm D fun u => sm D fun v => x u * y v * z k * rx fs D (u + v + k) i := by
      refine sm_congr fun k _ => ?_
      rw [sm_swap]
      refine sm_congr fun u _ => ?_
      rw [sm_swap]
      refine sm_congr fun v _ => ?_
      rw [← rx_mul hD (u + v) k hi, ← sm_mul]
      exact sm_congr fun m _ => by grind
    rw [e2, sm_swap]
    refine sm_congr fun u _ => ?_
    rw [sm_swap]
  have h2 : bil fs D x (bil fs D y z) i = sm D fun u => sm D fun v => sm D fun k => x u * y v * z k * rx fs D (u + v + k) i := by
    refine sm_congr fun u _ => ?_
    have e1 : (sm D fun m => x u * bil fs D y z m * rx fs D (u + m) i) = sm D fun m => sm D fun v => sm D fun k => x u * (y v * z k * rx fs D (v + k) m) * rx fs D (u + m) i := by
      refine sm_congr fun m _ => ?_
      unfold bil
      rw [← sm_mul, ← sm_mulR]
      refine sm_congr fun v _ => ?_
      rw [← sm_mul, ← sm_mulR]
    rw [e1, sm_swap]
    refine sm_congr fun v _ => ?_
    rw [sm_swap]
    refine sm_congr fun k _ => ?_
    rw [show u + v + k = v + k + u by omega, ← rx_mul hD (v + k) u hi, ← sm_mul]
    exact sm_congr fun m _ => by rw [Nat.add_comm u m]; grind
  rw [h1, h2]
theorem fmul_assoc (h : FA p D fs) (a b c : Int) : fmul p D fs (fmul p D fs a b) c = fmul p D fs a (fmul p D fs b c) := by
  have hp : 0 < p := by have := h.p2; omega
  refine (fmul_el h _ _).ext hp (fmul_el h _ _) fun i hi => ?_
  rw [dc_fmul h hi, dc_fmul h hi, bil_mod (x' := bil fs D (dc p D a) (dc p D b)) (y' := dc p D c) (fun j hj => by rw [dc_fmul h hj, mod_mod]) (fun _ _ => rfl), bil_assoc h.D1 _ _ _ hi]
  exact bil_mod (fun _ _ => rfl) (fun j hj => by rw [dc_fmul h hj, mod_mod])
theorem dc_zero (i : Nat) : dc p D 0 i = 0 := by
  unfold dc
  have : ∀ (D i : Nat), cf (dgt p D 0) i = 0 := by
    intro D
    induction D with
    | zero => intro i; rfl
    | succ D ih =>
      intro i
      rw [dgt, Int.zero_emod, Int.zero_ediv]
      cases i with
      | zero => rfl
      | succ i => exact ih i
  exact this D i
theorem dc_one (h : FA p D fs) {i : Nat} (hi : i < D) : dc p D 1 i = if i = 0 then 1 else 0 := by
  have hp := h.p2
  obtain ⟨E, rfl⟩ := Nat.exists_eq_add_of_le' h.D1
  unfold dc
  rw [dgt, Int.emod_eq_of_lt (by omega) (by omega), Int.ediv_eq_zero_of_lt (by omega) (by omega)]
  cases i with
  | zero => rfl
  | succ i => rw [if_neg (by omega)]; exact dc_zero (p := p) (D := E) i
theorem el_zero (h : FA p D fs) : El p D 0 := ⟨by omega, by have := pow_ge h.p2 D; omega⟩
theorem el_one (h : FA p D fs) : El p D 1 := ⟨by omega, by have := pow_ge h.p2 D; have := h.D1; omega⟩
theorem fmul_zero (h : FA p D fs) (a : Int) : fmul p D fs a 0 = 0 := by
  have hp : 0 < p := by have := h.p2; omega
  refine (fmul_el h _ _).ext hp (el_zero h) fun i hi => ?_
  rw [dc_fmul h hi, dc_zero]
  unfold bil
  rw [sm_zero (fun u _ => sm_zero fun k _ => by rw [dc_zero]; simp)]; simp
theorem fmul_one (h : FA p D fs) {a : Int} (ha : El p D a) : fmul p D fs a 1 = a := by
  have hp : 0 < p := by have := h.p2; omega
  refine (fmul_el h _ _).ext hp ha fun i hi => ?_
  rw [dc_fmul h hi]
  unfold bil
  rw [sm_single (k := i) hi (fun u hu hne => ?_)]
  · rw [sm_single (k := 0) (by omega) (fun k hk hne => by rw [dc_one h hk, if_neg hne]; simp), dc_one h (by omega), if_pos rfl, Nat.add_zero, rx_low hi hi, if_pos rfl, Int.mul_one, Int.mul_one, dc_mod hp]
  · refine sm_zero fun k hk => ?_
    rw [dc_one h hk]
    by_cases e : k = 0
    · subst e; rw [Nat.add_zero, rx_low hu hi, if_neg hne]; simp
    · rw [if_neg e]; simp
theorem fsum_zero (hp : 2 ≤ p) {a : Int} (ha : El p D a) (k : Int) : fsum p D a 0 k = a := by
  refine (fsum_el (by omega) _ _ _).ext (by omega) ha fun i hi => ?_
  rw [dc_fsum (by omega) hi, dc_zero, Int.mul_zero, Int.add_zero, dc_mod (by omega)]
theorem fsum_comm (a b : Int) : fsum p D a b 1 = fsum p D b a 1 := by
  unfold fsum; congr 1; exact tab_congr fun i _ => by rw [Int.one_mul, Int.one_mul, Int.add_comm]
/-- sums of several elements -/
theorem fsum_assoc (hp : 0 < p) (a b c k l : Int) : fsum p D (fsum p D a b k) c l = fsum p D a (fsum p D (fsum p D 0 b k) c l) 1 := by
  refine (fsum_el hp _ _ _).ext hp (fsum_el hp _ _ _) fun i hi => ?_
  rw [dc_fsum hp hi, dc_fsum hp hi, dc_fsum hp hi, dc_fsum hp hi, dc_fsum hp hi, dc_zero, Int.zero_add, Int.one_mul]
  generalize dc p D a i = A; generalize dc p D b i = B; generalize dc p D c i = C
  rw [Int.emod_add_emod, Int.add_emod_emod]
  rw [show A + ((k * B) % p + l * C) = (k * B) % p + (A + l * C) by omega, Int.emod_add_emod]
  congr 1; omega
theorem fsum_add (hp : 0 < p) (a b c k l : Int) : fsum p D (fsum p D a b k) c l = fsum p D (fsum p D a c l) b k := by
  refine (fsum_el hp _ _ _).ext hp (fsum_el hp _ _ _) fun i hi => ?_
  rw [dc_fsum hp hi, dc_fsum hp hi, dc_fsum hp hi, dc_fsum hp hi]
  rw [Int.emod_add_emod, Int.emod_add_emod]
  congr 1; omega
theorem fsum_undo (hp : 0 < p) {a : Int} (ha : El p D a) (b k l : Int) (h : k + l = 0) : fsum p D (fsum p D a b k) b l = a := by
  refine (fsum_el hp _ _ _).ext hp ha fun i hi => ?_
  rw [dc_fsum hp hi, dc_fsum hp hi, Int.emod_add_emod, Int.add_assoc, ← Int.add_mul, h, Int.zero_mul, Int.add_zero, dc_mod hp]
end

/-- n powers, from x on -/
def pws (p : Int) (D : Nat) (fs : List Int) (g : Int) : Nat → Int → List Int
  | 0, _ => []
  | n + 1, x => x :: pws p D fs g n (fmul p D fs x g)
def pw (p : Int) (D : Nat) (fs : List Int) (g : Int) : Nat → Int
  | 0 => 1
  | n + 1 => fmul p D fs (pw p D fs g n) g
theorem pws_get {p : Int} {D : Nat} {fs : List Int} {g : Int} : ∀ (n k : Nat), pws p D fs g n (pw p D fs g k) = (List.range n).map fun i => pw p D fs g (k + i)
  | 0, _ => rfl
  | n + 1, k => by
    rw [pws, List.range_succ_eq_map, List.map_cons, List.map_map]
    have := pws_get (p := p) (D := D) (fs := fs) (g := g) n (k + 1)
    rw [pw] at this
    rw [this, Nat.add_zero]
    congr 1
    exact List.map_congr_left fun i _ => by simp [Nat.add_right_comm, Nat.add_assoc, Nat.add_comm 1]
/-- the powers of g are all elements but 0, of which there are m -/
def genB (p : Int) (D : Nat) (fs : List Int) (g : Int) (m : Nat) : Bool :=
  let L := pws p D fs g (m + 1) 1
  let K := L.take m
  (List.range m).all (fun i => K.contains ((i : Int) + 1)) && cf L m == 1 && decide (0 ≤ g) && decide (g ≤ m)
def hints : List (Nat × Nat × Nat × Nat) := [(2, 4, 15, 3), (2, 6, 9, 3), (2, 6, 23, 3), (2, 6, 53, 3), (3, 2, 1, 4), (3, 3, 8, 6), (3, 3, 11, 5), (3, 3, 14, 4), (3, 3, 26, 4), (5, 2, 2, 6), (5, 2, 3, 7), (5, 2, 6, 7), (5, 2, 14, 8), (5, 2, 19, 6), (5, 2, 21, 6), (7, 2, 1, 9), (7, 2, 2, 8), (7, 2, 4, 8), (7, 2, 11, 10), (7, 2, 13, 10), (7, 2, 16, 10), (7, 2, 22, 11), (7, 2, 27, 11), (7, 2, 29, 8), (7, 2, 34, 8), (7, 2, 37, 8), (7, 2, 46, 9), (7, 2, 48, 9)]
def hint (p D n : Nat) : Nat := match hints.find? fun h => h.1 == p && h.2.1 == D && h.2.2.1 == n with
  | some h => h.2.2.2
  | none => p
def proots : List (Nat × Nat) := [(2, 1), (3, 2), (5, 2), (7, 3), (11, 2), (13, 2), (17, 3), (19, 2), (23, 5), (29, 2), (31, 3), (37, 2), (41, 6), (43, 3), (47, 5), (53, 2), (59, 2), (61, 2)]
def proot (p : Nat) : Nat := match proots.find? fun h => h.1 == p with
  | some h => h.2
  | none => 0
theorem gen1_check : ((List.range 65).all fun p => decide (p < 2) || !prS p || genB p 1 [0, 1] (proot p) (p - 1)) = true := by decide +kernel
theorem gen2_check : ((List.range 7).all fun D => decide (D < 2) || (List.range 9).all fun p => decide (p < 2) || !prS p || decide (64 < p ^ D) || (List.range (p ^ D)).all fun n => !irrB p (dgt p D n ++ [1]) || genB p D (dgt p D n ++ [1]) (hint p D n) (p ^ D - 1)) = true := by decide +kernel

theorem fmul_D1 {p : Int} {fs fs' : List Int} (h : FA p 1 fs) (h' : FA p 1 fs') (a b : Int) : fmul p 1 fs a b = fmul p 1 fs' a b := by
  rw [fmul_num h, fmul_num h']
  congr 1
theorem pws_D1 {p : Int} {fs fs' : List Int} (h : FA p 1 fs) (h' : FA p 1 fs') (g : Int) : ∀ (n : Nat) (x : Int), pws p 1 fs g n x = pws p 1 fs' g n x
  | 0, _ => rfl
  | n + 1, x => by rw [pws, pws, pws_D1 h h' g n, fmul_D1 h h']
/-- there is such an element -/
theorem FV.genB {p : Int} {D : Nat} {fs : List Int} (h : FV p D fs) : ∃ g, genB p D fs g (p ^ D - 1).toNat = true := by
  have hp := h.p2
  obtain ⟨P, rfl⟩ := Int.eq_ofNat_of_zero_le (show 0 ≤ p by omega)
  have hpr : prS P = true := (prS_iff (by have := h.p64; omega)).2 ((isPr_iff (by have := h.p64; omega)).1 h.pr)
  have hq := h.q
  rw [Int.toNat_natCast] at hq
  have hqn : P ^ D ≤ 64 := by exact_mod_cast hq
  have e : (((P : Nat) : Int) ^ D - 1).toNat = P ^ D - 1 := by
    rw [← Int.natCast_pow]; omega
  rw [e]
  by_cases hD : D = 1
  · subst hD
    have h1 := gen1_check
    rw [List.all_eq_true] at h1
    have h1 := h1 P (List.mem_range.2 (by have := h.p64; omega))
    rw [decide_eq_false (by omega), hpr, Bool.false_or, Bool.not_true, Bool.false_or] at h1
    refine ⟨proot P, ?_⟩
    have h2 : FA P 1 [0, 1] := ⟨hp, by omega, rfl, rfl⟩
    unfold Go.Proofs.Ytpfgbbbjldpnnaa.genB at h1 ⊢
    rw [pws_D1 h.fa h2, Nat.pow_one]
    exact h1
  · have hD2 : 2 ≤ D := by have := h.d1; omega
    have hP8 : P ≤ 8 := by
      apply Classical.byContradiction; intro hn
      have h1 : P ^ 2 ≤ P ^ D := Nat.pow_le_pow_right (by omega) hD2
      have h2 : 9 ^ 2 ≤ P ^ 2 := Nat.pow_le_pow_left (by omega) 2
      omega
    have h1 := gen2_check
    rw [List.all_eq_true] at h1
    have h1 := h1 D (List.mem_range.2 (by have := h.d6; omega))
    rw [decide_eq_false (by omega), Bool.false_or, List.all_eq_true] at h1
    have h1 := h1 P (List.mem_range.2 (by omega))
    rw [decide_eq_false (by omega), hpr, decide_eq_false (by omega), Bool.false_or, Bool.not_true, Bool.false_or, Bool.false_or, List.all_eq_true] at h1
    have hl := h.fa.len
    have hfs : fs = fs.take D ++ [1] := by
      have h2 : fs.drop D = [1] := by
        rw [List.drop_eq_getElem_cons (show D < fs.length by omega), List.drop_eq_nil_of_le (by omega), ← cf_eq (show D < fs.length by omega), h.fa.top]
      rw [← h2, List.take_append_drop]
    have hin : In P (fs.take D) := fun x hx => h.inp x (List.mem_of_mem_take hx)
    have htl : (fs.take D).length = D := by rw [List.length_take]; omega
    have hdg := dgt_num (p := P) (by omega) htl hin
    have h3 := num_el (D := D) (p := P) (by omega) htl hin
    obtain ⟨n, hn⟩ := Int.eq_ofNat_of_zero_le h3.1
    have h4 := h3.2
    rw [hn] at h4 hdg
    have h1 := h1 n (List.mem_range.2 (by exact_mod_cast h4))
    rw [hdg, ← hfs, h.irr, Bool.not_true, Bool.false_or] at h1
    exact ⟨_, h1⟩
/-- what that says -/
theorem FV.gen {p : Int} {D : Nat} {fs : List Int} (h : FV p D fs) : ∃ g, El p D g ∧ pw p D fs g (p ^ D - 1).toNat = 1 ∧ ∀ a, 0 < a → a < p ^ D → ∃ i, i < (p ^ D - 1).toNat ∧ pw p D fs g i = a := by
  obtain ⟨g, hg⟩ := h.genB
  have h0 := pow_ge h.p2 D
  generalize hm : (p ^ D - 1).toNat = m at *
  simp only [Go.Proofs.Ytpfgbbbjldpnnaa.genB, Bool.and_eq_true, decide_eq_true_eq, beq_iff_eq] at hg
  obtain ⟨⟨⟨h1, h2⟩, h3⟩, h4⟩ := hg
  have e : pws p D fs g (m + 1) 1 = (List.range (m + 1)).map fun i => pw p D fs g i := by
    have := pws_get (p := p) (D := D) (fs := fs) (g := g) (m + 1) 0
    rw [pw] at this; simpa using this
  rw [e] at h1 h2
  refine ⟨g, ⟨h3, by omega⟩, ?_, fun a ha hlt => ?_⟩
  · simpa [cf] using h2
  · rw [List.all_eq_true] at h1
    have := h1 (a - 1).toNat (List.mem_range.2 (by omega))
    rw [List.contains_iff_mem, ← List.map_take, List.take_range, List.mem_map] at this
    obtain ⟨i, hi, hi2⟩ := this
    rw [List.mem_range] at hi
    exact ⟨i, by omega, by rw [hi2]; omega⟩
section
variable {p : Int} {D : Nat} {fs : List Int}
theorem pw_el (h : FA p D fs) (g : Int) : ∀ n, El p D (pw p D fs g n)
  | 0 => el_one h
  | _ + 1 => fmul_el h _ _
theorem pw_add (h : FA p D fs) (g : Int) (m : Nat) : ∀ n, pw p D fs g (m + n) = fmul p D fs (pw p D fs g m) (pw p D fs g n)
  | 0 => (fmul_one h (pw_el h g m)).symm
  | n + 1 => by rw [← Nat.add_assoc, pw, pw_add h g m n, fmul_assoc h, pw]
/-- every element but 0 has an inverse -/
theorem FV.inv {a : Int} (h : FV p D fs) (h0 : 0 < a) (h1 : a < p ^ D) : ∃ b, El p D b ∧ fmul p D fs a b = 1 := by
  obtain ⟨g, _, hg, hall⟩ := h.gen
  obtain ⟨i, hi, rfl⟩ := hall a h0 h1
  refine ⟨pw p D fs g ((p ^ D - 1).toNat - i), pw_el h.fa g _, ?_⟩
  rw [← pw_add h.fa, show i + ((p ^ D - 1).toNat - i) = (p ^ D - 1).toNat by omega, hg]
theorem inv_uniq (h : FA p D fs) {a b c : Int} (hb : El p D b) (hc : El p D c) (h1 : fmul p D fs a b = 1) (h2 : fmul p D fs a c = 1) : b = c := by
  have e : fmul p D fs (fmul p D fs b a) c = fmul p D fs b (fmul p D fs a c) := fmul_assoc h _ _ _
  rw [h2, fmul_one h hb, fmul_comm h b a, h1, fmul_comm h, fmul_one h hc] at e
  exact e.symm
/-- no zero divisors -/
theorem FV.nzd {a b : Int} (h : FV p D fs) (ha : El p D a) (hb : El p D b) (h0 : fmul p D fs a b = 0) : a = 0 ∨ b = 0 := by
  by_cases e : a = 0
  · exact .inl e
  · obtain ⟨c, hc, h1⟩ := h.inv (a := a) (by have := ha.1; omega) ha.2
    right
    have h2 : fmul p D fs (fmul p D fs c a) b = fmul p D fs c (fmul p D fs a b) := fmul_assoc h.fa _ _ _
    rwa [fmul_comm h.fa c a, h1, h0, fmul_zero h.fa, fmul_comm h.fa, fmul_one h.fa hb] at h2
end

/-- the number of elements -/
def qn (p : Int) (D : Nat) : Nat := (p ^ D).toNat
/-- the last factor below k that leads to 1, or 0 -/
def invN (p : Int) (D : Nat) (fs : List Int) (a : Nat) : Nat → Int
  | 0 => 0
  | k + 1 => if fmul p D fs a k = 1 then k else invN p D fs a k

end Go.Proofs.Ytpfgbbbjldpnnaa
