/- Polynomials modulo a prime as lists, and what the program makes of them, in plain terms. Trial division, in plain terms. Bounded powers, in plain terms. Valid fields, in plain terms. Fields that are made: the first irreducible polynomial, in plain terms. -/

namespace Go.Proofs.Ytpfgbbbjldpnnaa
set_option linter.unusedSimpArgs false
set_option linter.unusedVariables false

/-- coefficient j -/
def cf (xs : List Int) (j : Nat) : Int := xs.getD j 0
theorem cf_eq {xs : List Int} {j : Nat} (h : j < xs.length) : cf xs j = xs[j] := by simp [cf, h]
theorem cf_mem {xs : List Int} {j : Nat} (h : j < xs.length) : cf xs j ∈ xs := by rw [cf_eq h]; exact List.getElem_mem h
theorem cf_ge {xs : List Int} {j : Nat} (h : xs.length ≤ j) : cf xs j = 0 := by simp [cf, List.getElem?_eq_none h]
theorem cf_appL {ys zs : List Int} {t : Nat} (h : t < ys.length) : cf (ys ++ zs) t = cf ys t := by
  unfold cf; rw [List.getD_eq_getElem?_getD, List.getD_eq_getElem?_getD, List.getElem?_append_left h]
theorem cf_appR {ys : List Int} {z : Int} {t : Nat} (h : t = ys.length) : cf (ys ++ [z]) t = z := by
  subst h; unfold cf; rw [List.getD_eq_getElem?_getD, List.getElem?_append_right (Nat.le_refl _)]; simp
theorem cf_ext {xs ys : List Int} (hl : xs.length = ys.length) (h : ∀ j, j < xs.length → cf xs j = cf ys j) : xs = ys := by
  apply List.ext_getElem hl
  intro j h1 h2
  have := h j h1
  rwa [cf_eq h1, cf_eq h2] at this
theorem cf_set {xs : List Int} {i j : Nat} {x : Int} (h : i < xs.length) : cf (xs.set i x) j = if i = j then x else cf xs j := by
  unfold cf
  rw [List.getD_eq_getElem?_getD, List.getElem?_set]
  split
  · rename_i e; subst e; simp [h]
  · simp [List.getD_eq_getElem?_getD]
/-- the list of f 0, f 1, .. -/
def tab (n : Nat) (f : Nat → Int) : List Int := (List.range n).map f
theorem tab_len (n : Nat) (f : Nat → Int) : (tab n f).length = n := by simp [tab]
theorem cf_tab {n j : Nat} {f : Nat → Int} (h : j < n) : cf (tab n f) j = f j := by simp [cf, tab, h]
theorem tab_cf (xs : List Int) : tab xs.length (cf xs) = xs := cf_ext (by rw [tab_len]) (fun j hj => by rw [tab_len] at hj; exact cf_tab hj)
theorem tab_congr {n : Nat} {f g : Nat → Int} (h : ∀ j, j < n → f j = g j) : tab n f = tab n g := cf_ext (by rw [tab_len, tab_len]) (fun j hj => by rw [tab_len] at hj; rw [cf_tab hj, cf_tab hj, h j hj])

/-- all numbers are residues of p -/
def In (p : Int) (xs : List Int) : Prop := ∀ x ∈ xs, 0 ≤ x ∧ x < p
theorem In.cf {p : Int} {xs : List Int} (h : In p xs) (hp : 0 < p) (j : Nat) : 0 ≤ cf xs j ∧ cf xs j < p := by
  by_cases hj : j < xs.length
  · exact h _ (cf_mem hj)
  · rw [cf_ge (by omega)]; omega
theorem In.tab {p : Int} {n : Nat} {f : Nat → Int} (h : ∀ j, j < n → 0 ≤ f j ∧ f j < p) : In p (tab n f) := by
  intro x hx
  obtain ⟨j, hj, rfl⟩ := List.mem_map.1 hx
  exact h j (List.mem_range.1 hj)
theorem In.set {p : Int} {xs : List Int} (h : In p xs) {i : Nat} {x : Int} (hx : 0 ≤ x ∧ x < p) : In p (xs.set i x) := by
  intro y hy
  rcases List.mem_or_eq_of_mem_set hy with hy | rfl
  · exact h y hy
  · exact hx

/-- the places s, .., s + j - 1 less f times another polynomial -/
def subT (p : Int) (rest by' : List Int) (s : Nat) (f : Int) (j : Nat) : List Int :=
  tab rest.length fun t => if s ≤ t ∧ t < s + j then (cf rest t - f * cf by' (t - s)) % p else cf rest t
theorem subT_len (p : Int) (rest by' : List Int) (s : Nat) (f : Int) (j : Nat) : (subT p rest by' s f j).length = rest.length := tab_len _ _
theorem subT_0 (p : Int) (rest by' : List Int) (s : Nat) (f : Int) : subT p rest by' s f 0 = rest := by
  unfold subT
  rw [← tab_cf rest]
  refine cf_ext (by simp [tab_len]) fun t ht => ?_
  rw [tab_len, tab_len] at ht
  rw [cf_tab (by rw [tab_len]; exact ht), if_neg (by omega)]
theorem cf_subT {p : Int} {rest by' : List Int} {s : Nat} {f : Int} {j t : Nat} (h : t < rest.length) :
    cf (subT p rest by' s f j) t = if s ≤ t ∧ t < s + j then (cf rest t - f * cf by' (t - s)) % p else cf rest t := cf_tab h
theorem subT_step {p : Int} {rest by' : List Int} {s : Nat} {f : Int} {j : Nat} (h : s + j < rest.length) :
    (subT p rest by' s f j).set (s + j) ((cf (subT p rest by' s f j) (s + j) - f * cf by' j) % p) = subT p rest by' s f (j + 1) := by
  refine cf_ext (by simp [subT_len]) fun t ht => ?_
  rw [List.length_set, subT_len] at ht
  rw [cf_set (by rw [subT_len]; exact h), cf_subT ht, cf_subT ht, cf_subT h, if_neg (show ¬ (s ≤ s + j ∧ s + j < s + j) by omega)]
  by_cases e : s + j = t
  · subst e; rw [if_pos rfl, if_pos (by omega), show s + j - s = j by omega]
  · rw [if_neg e]
    by_cases h1 : s ≤ t ∧ t < s + j
    · rw [if_pos h1, if_pos (by omega)]
    · rw [if_neg h1, if_neg (by omega)]
theorem In.subT {p : Int} (hp : 0 < p) {rest by' : List Int} (h : In p rest) (s : Nat) (f : Int) (j : Nat) : In p (subT p rest by' s f j) := by
  refine In.tab fun t ht => ?_
  split
  · exact ⟨Int.emod_nonneg _ (by omega), Int.emod_lt_of_pos _ hp⟩
  · exact h.cf hp t

/-- the places from deg + c - 1 down to deg are made 0 -/
def remN (p : Int) (by' : List Int) (deg : Nat) : Nat → List Int → List Int
  | 0, rest => rest
  | c + 1, rest => remN p by' deg c (subT p rest by' c (cf rest (deg + c)) (deg + 1))
theorem remN_len (p : Int) (by' : List Int) (deg : Nat) : ∀ (c : Nat) (rest : List Int), (remN p by' deg c rest).length = rest.length
  | 0, _ => rfl
  | c + 1, rest => by rw [remN, remN_len p by' deg c, subT_len]
theorem In.remN {p : Int} (hp : 0 < p) {by' : List Int} {deg : Nat} : ∀ (c : Nat) {rest : List Int}, In p rest → In p (remN p by' deg c rest)
  | 0, _, h => h
  | c + 1, rest, h => In.remN hp c (h.subT hp _ _ _)
/-- the remainder by a polynomial of the degree deg with the highest coefficient 1 -/
def remL (p : Int) (poly by' : List Int) : List Int := (remN p by' (by'.length - 1) (poly.length - (by'.length - 1)) poly).take (by'.length - 1)
theorem In.remL {p : Int} (hp : 0 < p) {poly by' : List Int} (h : In p poly) : In p (remL p poly by') := fun x hx => In.remN hp _ h x (List.mem_of_mem_take hx)

/-- the number with some digits, the lowest one first -/
def numL (base : Int) (xs : List Int) : Int := xs.foldr (fun d n => n * base + d) 0
theorem numL_nonneg {base : Int} (hb : 0 ≤ base) : ∀ {xs : List Int}, (∀ x ∈ xs, 0 ≤ x) → 0 ≤ numL base xs
  | [], _ => by simp [numL]
  | x :: r, h => by
    have h1 := numL_nonneg hb (xs := r) (fun y hy => h y (by simp [hy]))
    have h2 := h x (by simp)
    have h3 := Int.mul_nonneg h1 hb
    show 0 ≤ numL base r * base + x
    omega
theorem numL_lt {base : Int} (hb : 1 ≤ base) : ∀ {xs : List Int}, In base xs → numL base xs < base ^ xs.length
  | [], _ => by simp [numL]
  | x :: r, h => by
    have h1 := numL_lt hb (xs := r) (fun y hy => h y (by simp [hy]))
    have h2 := h x (by simp)
    have h3 := Int.mul_le_mul_of_nonneg_right (show numL base r + 1 ≤ base ^ r.length by omega) (show 0 ≤ base by omega)
    rw [Int.add_mul] at h3
    show numL base r * base + x < base ^ (r.length + 1)
    rw [Int.pow_succ]; omega
def zeroL (xs : List Int) : Bool := xs.all (· == 0)
theorem numL_zero {base : Int} (hb : 1 ≤ base) : ∀ {xs : List Int}, In base xs → (numL base xs = 0 ↔ zeroL xs = true)
  | [], _ => by simp [numL, zeroL]
  | x :: r, h => by
    have h1 := numL_zero hb (xs := r) (fun y hy => h y (by simp [hy]))
    have h0 := numL_nonneg (base := base) (by omega) (xs := r) (fun y hy => (h y (by simp [hy])).1)
    have h2 := h x (by simp)
    have e : numL base (x :: r) = numL base r * base + x := rfl
    have e2 : zeroL (x :: r) = (x == 0 && zeroL r) := rfl
    rw [e, e2, Bool.and_eq_true, beq_iff_eq, ← h1]
    constructor
    · intro h3
      have h4 := Int.mul_nonneg h0 (show 0 ≤ base by omega)
      have h5 : numL base r * base = 0 := by omega
      rcases Int.mul_eq_zero.1 h5 with h6 | h6
      · exact ⟨by omega, h6⟩
      · omega
    · rintro ⟨rfl, h3⟩; rw [h3]; simp

/-! ### sums and products of elements -/
def dgt (base : Int) : Nat → Int → List Int
  | 0, _ => []
  | m + 1, n => n % base :: dgt base m (n / base)
theorem dgt_len (base : Int) : ∀ (m : Nat) (n : Int), (dgt base m n).length = m
  | 0, _ => rfl
  | m + 1, n => by simp [dgt, dgt_len base m]
theorem dgt_in {base : Int} (hb : 0 < base) : ∀ (m : Nat) (n : Int), In base (dgt base m n)
  | 0, _, x, hx => by simp [dgt] at hx
  | m + 1, n, x, hx => by
    rcases List.mem_cons.1 hx with rfl | hx
    · exact ⟨Int.emod_nonneg _ (by omega), Int.emod_lt_of_pos _ hb⟩
    · exact dgt_in hb m _ x hx
theorem numL_dgt {base : Int} (hb : 0 < base) : ∀ (m : Nat) (n : Int), 0 ≤ n → n < base ^ m → numL base (dgt base m n) = n
  | 0, n, h0, h1 => by simp at h1; simp [dgt, numL]; omega
  | m + 1, n, h0, h1 => by
    have h2 : n / base < base ^ m := by
      rw [Int.pow_succ] at h1
      exact Int.ediv_lt_of_lt_mul hb h1
    have ih := numL_dgt hb m (n / base) (Int.ediv_nonneg h0 (by omega)) h2
    show numL base (dgt base m (n / base)) * base + n % base = n
    rw [ih, Int.mul_comm]
    exact Int.mul_ediv_add_emod n base
/-- a + k b -/
def fsum (p : Int) (D : Nat) (a b k : Int) : Int := numL p (tab D fun j => (cf (dgt p D a) j + k * cf (dgt p D b) j) % p)
/-- coefficient t of a product, as far as i places of the first factor are taken -/
def cvl (p : Int) (x y : List Int) (D : Nat) : Nat → Nat → Int
  | 0, _ => 0
  | i + 1, t => if i ≤ t ∧ t < i + D then (cvl p x y D i t + cf x i * cf y (t - i)) % p else cvl p x y D i t
theorem cvl_in {p : Int} (hp : 0 < p) (x y : List Int) (D : Nat) : ∀ (i t : Nat), 0 ≤ cvl p x y D i t ∧ cvl p x y D i t < p
  | 0, t => by simp [cvl]; omega
  | i + 1, t => by
    rw [cvl]
    split
    · exact ⟨Int.emod_nonneg _ (by omega), Int.emod_lt_of_pos _ hp⟩
    · exact cvl_in hp x y D i t
theorem cvl_top (p : Int) (x y : List Int) (D : Nat) : ∀ (i t : Nat), i + D ≤ t + 1 → cvl p x y D i t = 0
  | 0, _, _ => rfl
  | i + 1, t, h => by
    rw [cvl, if_neg (by omega)]
    exact cvl_top p x y D i t (by omega)
/-- the list, j places of the row i being taken -/
def cvr (p : Int) (x y : List Int) (D n i j : Nat) : List Int := tab n fun t => if t < i + j then cvl p x y D (i + 1) t else cvl p x y D i t
theorem cvr_len (p : Int) (x y : List Int) (D n i j : Nat) : (cvr p x y D n i j).length = n := tab_len _ _
theorem cvr_0 (p : Int) (x y : List Int) (D n i : Nat) : cvr p x y D n i 0 = tab n (cvl p x y D i) := by
  refine tab_congr fun t _ => ?_
  by_cases h : t < i + 0
  · rw [if_pos h, cvl, if_neg (by omega)]
  · rw [if_neg h]
theorem cvr_end (p : Int) (x y : List Int) (D n i : Nat) : cvr p x y D n i D = tab n (cvl p x y D (i + 1)) := by
  refine tab_congr fun t _ => ?_
  by_cases h : t < i + D
  · rw [if_pos h]
  · rw [if_neg h, cvl, if_neg (by omega)]
theorem cvr_step {p : Int} {x y : List Int} {D n i j : Nat} (hj : j < D) (hn : i + j < n) :
    (cvr p x y D n i j).set (i + j) ((cf (cvr p x y D n i j) (i + j) + cf x i * cf y j) % p) = cvr p x y D n i (j + 1) := by
  refine cf_ext (by simp [cvr_len]) fun t ht => ?_
  rw [List.length_set, cvr_len] at ht
  unfold cvr
  rw [cf_set (by rw [tab_len]; exact hn), cf_tab ht, cf_tab ht, cf_tab hn, if_neg (show ¬ i + j < i + j by omega)]
  by_cases e : i + j = t
  · subst e
    rw [if_pos rfl, if_pos (by omega), cvl, if_pos (by omega), show i + j - i = j by omega]
  · rw [if_neg e]
    by_cases h1 : t < i + j
    · rw [if_pos h1, if_pos (by omega)]
    · rw [if_neg h1, if_neg (by omega)]
theorem cvl_0 (p : Int) (x y : List Int) (D n : Nat) : tab n (cvl p x y D 0) = List.replicate n 0 := by
  apply List.ext_getElem
  · simp [tab]
  · intro i h1 h2; simp [tab, cvl]

/-- a highest coefficient 0 leaves the remainder as it is -/
theorem remL_top {p : Int} {xs by' : List Int} (hi : In p xs) (hl : by'.length - 1 ≤ xs.length) : remL p (xs ++ [0]) by' = remL p xs by' := by
  unfold remL
  rw [List.length_append, List.length_singleton, show xs.length + 1 - (by'.length - 1) = xs.length - (by'.length - 1) + 1 by omega, remN]
  have e0 : cf (xs ++ [0]) (by'.length - 1 + (xs.length - (by'.length - 1))) = 0 := by
    rw [show by'.length - 1 + (xs.length - (by'.length - 1)) = xs.length by omega]; simp [cf]
  rw [e0]
  have e1 : subT p (xs ++ [0]) by' (xs.length - (by'.length - 1)) 0 (by'.length - 1 + 1) = xs ++ [0] := by
    refine cf_ext (subT_len _ _ _ _ _ _) fun t ht => ?_
    rw [subT_len] at ht
    rw [cf_subT ht]
    split
    · rw [Int.zero_mul, Int.sub_zero]
      by_cases h : t < xs.length
      · have e2 : cf (xs ++ [0]) t = cf xs t := by simp [cf, List.getElem?_append_left h]
        rw [e2]
        have := hi _ (cf_mem h)
        exact Int.emod_eq_of_lt this.1 this.2
      · have e2 : cf (xs ++ [0]) t = 0 := by
          simp only [List.length_append, List.length_singleton] at ht
          have : t = xs.length := by omega
          subst this; simp [cf]
        rw [e2]; simp
    · rfl
  rw [e1]
  have key : ∀ (c : Nat) (ys : List Int) (z : Int), by'.length - 1 + c ≤ ys.length → remN p by' (by'.length - 1) c (ys ++ [z]) = remN p by' (by'.length - 1) c ys ++ [z] := by
    intro c
    induction c with
    | zero => intro ys z _; rfl
    | succ c ih =>
      intro ys z h
      rw [remN, remN]
      have e3 : cf (ys ++ [z]) (by'.length - 1 + c) = cf ys (by'.length - 1 + c) := cf_appL (by omega)
      rw [e3]
      have e4 : subT p (ys ++ [z]) by' c (cf ys (by'.length - 1 + c)) (by'.length - 1 + 1) = subT p ys by' c (cf ys (by'.length - 1 + c)) (by'.length - 1 + 1) ++ [z] := by
        refine cf_ext (by simp [subT_len]) fun t ht => ?_
        rw [subT_len, List.length_append, List.length_singleton] at ht
        rw [cf_subT (by simp; omega)]
        by_cases h5 : t < ys.length
        · have e5 : cf (ys ++ [z]) t = cf ys t := cf_appL h5
          have e6 : cf (subT p ys by' c (cf ys (by'.length - 1 + c)) (by'.length - 1 + 1) ++ [z]) t = cf (subT p ys by' c (cf ys (by'.length - 1 + c)) (by'.length - 1 + 1)) t := cf_appL (by rw [subT_len]; exact h5)
          rw [e6, cf_subT h5, e5]
        · have h6 : t = ys.length := by omega
          subst h6
          rw [if_neg (by omega)]
          rw [cf_appR rfl, cf_appR (subT_len _ _ _ _ _ _).symm]
      rw [e4, ih _ _ (by rw [subT_len]; omega)]
  rw [key _ _ _ (by omega), List.take_append_of_le_length (by rw [remN_len]; omega)]

/-- the product of two elements -/
def fmul (p : Int) (D : Nat) (poly : List Int) (a b : Int) : Int := numL p (remL p (tab (2 * D - 1) (cvl p (dgt p D a) (dgt p D b) D D)) poly)
theorem fmul_eq {p : Int} (hp : 0 < p) {D : Nat} (hD : 1 ≤ D) {poly : List Int} (hl : poly.length = D + 1) (a b : Int) :
    numL p (remL p (tab (2 * D) (cvl p (dgt p D a) (dgt p D b) D D)) poly) = fmul p D poly a b := by
  unfold fmul
  have e : tab (2 * D) (cvl p (dgt p D a) (dgt p D b) D D) = tab (2 * D - 1) (cvl p (dgt p D a) (dgt p D b) D D) ++ [0] := by
    unfold tab
    rw [show 2 * D = 2 * D - 1 + 1 by omega, List.range_succ, List.map_append, List.map_singleton, show 2 * D - 1 + 1 - 1 = 2 * D - 1 by omega]
    rw [cvl_top p _ _ D D (2 * D - 1) (by omega)]
  rw [e, remL_top (In.tab fun t _ => cvl_in hp _ _ D D t) (by rw [tab_len, hl]; omega)]

/-- no polynomial of a lesser degree divides it -/
def irrB (p : Int) (poly : List Int) : Bool := (List.range ((poly.length - 1) / 2)).all fun i => (List.range (p ^ (i + 1)).toNat).all fun n => !zeroL (remL p poly (dgt p (i + 1) n ++ [1]))

/-! ### which fields there are -/
/-- a prime of at most 64 -/
def prS (p : Nat) : Bool := decide (2 ≤ p) && (List.range 8).all fun d => decide (d < 2) || decide (p < d * d) || decide (p % d ≠ 0)
/-- the least divisor from d on -/
def lfac (q : Nat) : Nat → Nat → Nat
  | 0, d => d
  | f + 1, d => if q % d = 0 then d else lfac q f (d + 1)
/-- how often p divides, or 0 -/
def plog (p : Nat) : Nat → Nat → Nat → Option Nat
  | 0, _, _ => none
  | f + 1, n, k => if 1 < n then (if n % p = 0 then plog p f (n / p) (k + 1) else none) else some k
/-- the prime and the exponent of a prime power -/
def spl (q : Nat) : Nat × Nat := match plog (lfac q 64 2) 64 q 0 with | some k => (lfac q 64 2, k) | none => (0, 0)
theorem spl_check : ((List.range 65).all fun q => decide (q < 2) || (List.range 65).all fun p => decide (p < 2) || (List.range 7).all fun d => decide (d < 1) || decide (p ^ d ≠ q) || ((spl q).1 == p) == prS p) = true := by decide +kernel
theorem spl_ok {p d : Nat} (hp : 2 ≤ p) (hp2 : p ≤ 64) (hd : 1 ≤ d) (hd2 : d ≤ 6) (hq : p ^ d ≤ 64) : ((spl (p ^ d)).1 = p ↔ prS p = true) := by
  have h := spl_check
  have h2 : 2 ≤ p ^ d := Nat.le_trans hp (Nat.le_self_pow (by omega) p)
  rw [List.all_eq_true] at h
  have h := h (p ^ d) (List.mem_range.2 (by omega))
  have e1 : decide (p ^ d < 2) = false := decide_eq_false (by omega)
  rw [e1, Bool.false_or, List.all_eq_true] at h
  have h := h p (List.mem_range.2 (by omega))
  have e2 : decide (p < 2) = false := decide_eq_false (by omega)
  rw [e2, Bool.false_or, List.all_eq_true] at h
  have h := h d (List.mem_range.2 (by omega))
  have e3 : decide (d < 1) = false := decide_eq_false (by omega)
  have e4 : decide (p ^ d ≠ p ^ d) = false := decide_eq_false (by simp)
  rw [e3, e4, Bool.false_or, Bool.false_or, beq_iff_eq] at h
  rw [← h]; simp

/-- the factors of n from p on -/
def fac : Nat → Int → Int → List Int
  | 0, _, _ => []
  | f + 1, p, n => if p * p ≤ n then (if n % p = 0 then p :: fac f p (n / p) else fac f (p + 1) n) else if 1 < n then [n] else []

def Pr (n : Int) : Prop := 2 ≤ n ∧ ∀ d, 2 ≤ d → d * d ≤ n → n % d ≠ 0

theorem sq_lt {d p n : Int} (h : d * d ≤ n) (h' : n < p * p) (hp : 0 ≤ p) : d < p := by
  apply Int.lt_of_not_ge
  intro hge
  have := Int.mul_le_mul hge hge hp (by omega)
  omega

theorem sq_ge {p n : Int} (hp : 1 ≤ p) (h : p * p ≤ n) : p ≤ n := by
  have := Int.mul_le_mul_of_nonneg_left hp (show 0 ≤ p by omega)
  omega

theorem div_step {p n : Int} (hp : 2 ≤ p) (hn : 1 ≤ n) (h0 : n % p = 0) : 1 ≤ n / p ∧ 2 * (n / p) ≤ n ∧ p * (n / p) = n := by
  have h1 : p * (n / p) = n := Int.mul_ediv_cancel' (Int.dvd_of_emod_eq_zero h0)
  have h2 : 1 ≤ n / p := by
    apply Int.le_of_not_gt; intro h
    have h3 : n / p ≤ 0 := by omega
    have := Int.mul_nonpos_of_nonneg_of_nonpos (show 0 ≤ p by omega) h3
    omega
  have h3 := Int.mul_le_mul_of_nonneg_right hp (show 0 ≤ n / p by omega)
  exact ⟨h2, by omega, h1⟩

/-- no number from 2 to below p divides n -/
def Low (p n : Int) : Prop := ∀ d, 2 ≤ d → d < p → n % d ≠ 0

theorem mod_of_dvd {a b c : Int} (h1 : b % a = 0) (h2 : c % b = 0) : c % a = 0 :=
  Int.emod_eq_zero_of_dvd (Int.dvd_trans (Int.dvd_of_emod_eq_zero h1) (Int.dvd_of_emod_eq_zero h2))

theorem Low.next {p n : Int} (h : Low p n) (h0 : n % p ≠ 0) : Low (p + 1) n := fun d h2 hd => by
  by_cases e : d = p
  · subst e; exact h0
  · exact h d h2 (by omega)
theorem Low.div {p n : Int} (h : Low p n) (hp : 2 ≤ p) (hn : 1 ≤ n) (h0 : n % p = 0) : Low p (n / p) := fun d h2 hd e => by
  obtain ⟨_, _, h3⟩ := div_step hp hn h0
  have : n % d = 0 := by
    rw [← h3]
    exact Int.emod_eq_zero_of_dvd (Int.dvd_trans (Int.dvd_of_emod_eq_zero e) (Int.dvd_mul_left _ _))
  exact h d h2 hd this
theorem Low.pr {p n : Int} (h : Low p n) (hp : 2 ≤ p) (h0 : n % p = 0) : Pr p := ⟨hp, fun d h2 hd e => by
  have : d < p := by have := Int.mul_le_mul_of_nonneg_left h2 (show 0 ≤ d by omega); omega
  exact h d h2 this (mod_of_dvd e h0)⟩
theorem Low.big {p n : Int} (h : Low p n) (hp : 2 ≤ p) (hn : 1 < n) (hb : n < p * p) : Pr n := ⟨by omega, fun d h2 hd e => h d h2 (sq_lt hd hb (by omega)) e⟩
theorem Low.ge {p n : Int} (h : Low p n) (hn : 1 < n) : p ≤ n := by
  apply Int.le_of_not_gt; intro hlt
  exact h n (by omega) hlt (Int.emod_self)
theorem low2 (n : Int) : Low 2 n := fun d h2 hd => by omega

def prod (xs : List Int) : Int := xs.foldr (· * ·) 1

/-- each is at least the one before it, and at least p -/
def Up (p : Int) : List Int → Prop
  | [] => True
  | x :: xs => p ≤ x ∧ Up x xs

theorem Up.mono {p q : Int} {xs : List Int} (h : Up p xs) (hq : q ≤ p) : Up q xs := by
  cases xs with
  | nil => trivial
  | cons x xs => exact ⟨by have := h.1; omega, h.2⟩

theorem fac_ok : ∀ (f : Nat) (p n : Int), 2 ≤ p → 1 ≤ n → 2 * n + 2 - p < f → Low p n → p ≤ 2 * n + 1 →
    (∀ x ∈ fac f p n, Pr x) ∧ Up p (fac f p n) ∧ prod (fac f p n) = n
  | 0, p, n, hp, hn, hf, hl, hb => by omega
  | f + 1, p, n, hp, hn, hf, hl, hb => by
    unfold fac
    split
    · rename_i h
      have hpn := sq_ge (by omega) h
      split
      · rename_i h0
        obtain ⟨d1, d2, d3⟩ := div_step hp hn h0
        have hge : p ≤ n / p := by
          apply Int.le_of_not_gt; intro hlt
          have h1 : p * (n / p) ≤ p * (p - 1) := Int.mul_le_mul_of_nonneg_left (by omega) (by omega)
          rw [d3, Int.mul_sub] at h1; omega
        obtain ⟨i1, i2, i3⟩ := fac_ok f p (n / p) hp d1 (by omega) (hl.div hp hn h0) (by omega)
        refine ⟨?_, ⟨Int.le_refl _, i2⟩, ?_⟩
        · intro x hx
          rcases List.mem_cons.1 hx with rfl | hx
          · exact hl.pr hp h0
          · exact i1 x hx
        · simp only [prod, List.foldr_cons] at i3 ⊢
          rw [i3, d3]
      · rename_i h0
        obtain ⟨i1, i2, i3⟩ := fac_ok f (p + 1) n (by omega) hn (by omega) (hl.next h0) (by omega)
        exact ⟨i1, i2.mono (by omega), i3⟩
    · rename_i h
      split
      · rename_i h1
        refine ⟨?_, ⟨hl.ge h1, trivial⟩, by simp [prod]⟩
        intro x hx
        simp at hx; subst hx
        exact hl.big hp h1 (by omega)
      · refine ⟨by simp, trivial, ?_⟩
        simp [prod]; omega

theorem fac_out {f : Nat} {p n : Int} (h : n < p * p) (hf : 1 ≤ f) : fac f p n = if 1 < n then [n] else [] := by
  cases f with
  | zero => omega
  | succ f => unfold fac; rw [if_neg (by omega)]

theorem fac_take {f : Nat} {p n : Int} (hp : 2 ≤ p) (hn : 1 ≤ n) (hl : Low p n) (h0 : n % p = 0) (hf : 2 * n + 2 - p < f) (hf1 : 1 ≤ f) :
    ∃ f' : Nat, 1 ≤ f' ∧ 2 * (n / p) + 2 - p < f' ∧ fac f p n = p :: fac f' p (n / p) := by
  obtain ⟨d1, d2, d3⟩ := div_step hp hn h0
  by_cases h : p * p ≤ n
  · have hpn := sq_ge (by omega) h
    cases f with
    | zero => omega
    | succ f =>
      refine ⟨f, by omega, by omega, ?_⟩
      conv => lhs; unfold fac
      rw [if_pos h, if_pos h0]
  · have hk : n / p = 1 := by
      apply Int.le_antisymm _ d1
      apply Int.le_of_not_gt; intro hgt
      have hlt : n / p < p := by
        apply Int.lt_of_not_ge; intro hge
        have := Int.mul_le_mul_of_nonneg_left hge (show 0 ≤ p by omega)
        omega
      refine hl (n / p) (by omega) hlt ?_
      exact Int.emod_eq_zero_of_dvd ⟨p, by rw [Int.mul_comm]; exact d3.symm⟩
    have hnp : n = p := by rw [hk] at d3; omega
    refine ⟨f, hf1, by omega, ?_⟩
    have hpp : p < p * p := by have := Int.mul_le_mul_of_nonneg_left hp (show 0 ≤ p by omega); omega
    rw [hk, fac_out (by omega) hf1, fac_out (by omega) hf1, if_pos (by omega), hnp]; simp

theorem fac_skip {f : Nat} {p n : Int} (hp : 2 ≤ p) (hn : 1 ≤ n) (h0 : n % p ≠ 0) (hf : 2 * n + 2 - p < f) (hf1 : 1 ≤ f) :
    ∃ f' : Nat, 1 ≤ f' ∧ 2 * n + 2 - (p + 1) < f' ∧ fac f p n = fac f' (p + 1) n := by
  by_cases h : p * p ≤ n
  · have hpn := sq_ge (by omega) h
    cases f with
    | zero => omega
    | succ f =>
      refine ⟨f, by omega, by omega, ?_⟩
      conv => lhs; unfold fac
      rw [if_pos h, if_neg h0]
  · refine ⟨f, hf1, by omega, ?_⟩
    have hpp : p * p ≤ (p + 1) * (p + 1) := Int.mul_le_mul (by omega) (by omega) (by omega) (by omega)
    rw [fac_out (by omega) hf1, fac_out (by omega) hf1]

/-- what FactorsOf returns -/
def factors (n : Int) : List Int := if 1 ≤ n ∧ n ≤ 1000000 then fac 2000005 2 n else []

theorem factors_ok {n : Int} (h : 1 ≤ n ∧ n ≤ 1000000) : (∀ x ∈ factors n, Pr x) ∧ Up 2 (factors n) ∧ prod (factors n) = n := by
  unfold factors; rw [if_pos h]
  exact fac_ok _ _ _ (by omega) h.1 (by omega) (low2 n) (by omega)

theorem prod_ge : ∀ (xs : List Int), (∀ x ∈ xs, Pr x) → 1 ≤ prod xs
  | [], _ => by simp [prod]
  | x :: xs, h => by
    have h1 := (h x (by simp)).1
    have h2 := prod_ge xs (fun y hy => h y (by simp [hy]))
    have := Int.mul_le_mul h1 h2 (by omega) (by omega)
    simp only [prod, List.foldr_cons] at this ⊢
    omega

theorem prod_app (xs ys : List Int) : prod (xs ++ ys) = prod xs * prod ys := by
  induction xs with
  | nil => simp [prod]
  | cons x xs ih => simp only [prod, List.cons_append, List.foldr_cons] at ih ⊢; rw [ih, Int.mul_assoc]

theorem not_pr_mul {a b : Int} (ha : 2 ≤ a) (hb : 2 ≤ b) : ¬ Pr (a * b) := by
  intro h
  rcases Int.le_total a b with hab | hab
  · exact h.2 a ha (Int.mul_le_mul_of_nonneg_left hab (by omega)) (Int.mul_emod_right a b)
  · exact h.2 b hb (Int.mul_le_mul_of_nonneg_right hab (by omega)) (Int.mul_emod_left a b)

theorem len_one {n : Int} (h : 1 ≤ n ∧ n ≤ 1000000) : (factors n).length = 1 ↔ Pr n := by
  obtain ⟨h1, _, h3⟩ := factors_ok h
  generalize factors n = xs at *
  constructor
  · intro hl
    obtain ⟨x, rfl⟩ := List.length_eq_one_iff.1 hl
    simp [prod] at h3; subst h3
    exact h1 x (by simp)
  · intro hp
    match xs, h1, h3 with
    | [], _, h3 => simp [prod] at h3; have := hp.1; omega
    | [x], _, _ => rfl
    | x :: y :: zs, h1, h3 =>
      exfalso
      have hx := (h1 x (by simp)).1
      have h4 : 2 ≤ prod (y :: zs) := by
        have hy := (h1 y (by simp)).1
        have h5 := prod_ge zs (fun z hz => h1 z (by simp [hz]))
        have := Int.mul_le_mul hy h5 (by omega) (by omega)
        simp only [prod, List.foldr_cons] at this ⊢; omega
      have : n = x * prod (y :: zs) := by rw [← h3]; rfl
      rw [this] at hp
      exact not_pr_mul hx h4 hp

theorem pr_le {x n : Int} (hx : Pr x) (hn : x ≤ n) : 1 ≤ x ∧ x ≤ n := ⟨by have := hx.1; omega, hn⟩

/-- is it prime: as the program has it -/
def isPr (n : Int) : Bool := (factors n).length == 1
theorem isPr_iff {n : Int} (h : 1 ≤ n ∧ n ≤ 1000000) : isPr n = true ↔ Pr n := by
  unfold isPr; rw [beq_iff_eq]; exact len_one h

/-- what PrimePower returns -/
def pripow (n : Int) : Int × Int :=
  match factors n with
  | [] => (0, 0)
  | x :: xs => if xs.all (· == x) then (x, xs.length + 1) else (0, 0)

theorem up_nth : ∀ (xs : List Int) (p : Int), Up p xs → ∀ j, (hj : j < xs.length) → p ≤ xs[j]
  | [], _, _, j, hj => by simp at hj
  | x :: xs, p, h, 0, _ => h.1
  | x :: xs, p, h, j + 1, hj => by
    have := up_nth xs x h.2 j (by simpa using hj)
    have := h.1
    simp only [List.getElem_cons_succ]; omega
theorem up_step : ∀ (xs : List Int) (p : Int), Up p xs → ∀ j, (hj : j + 1 < xs.length) → xs[j] ≤ xs[j + 1]
  | [], _, _, j, hj => by simp at hj
  | [x], p, h, 0, hj => by simp at hj
  | x :: y :: xs, p, h, 0, _ => h.2.1
  | x :: xs, p, h, j + 1, hj => by
    have := up_step xs x h.2 j (by simpa using hj)
    simpa using this
theorem up_le_last : ∀ (xs : List Int) (p : Int), Up p xs → ∀ j, (hj : j < xs.length) → xs[j] ≤ xs[xs.length - 1]
  | [], _, _, j, hj => by simp at hj
  | [x], p, h, j, hj => by simp at hj; subst hj; simp
  | x :: y :: xs, p, h, 0, _ => by
    have := up_nth (y :: xs) x h.2 xs.length (by simp)
    simpa using this
  | x :: y :: xs, p, h, j + 1, hj => by
    have := up_le_last (y :: xs) x h.2 j (by simpa using hj)
    simpa using this

/-- powerUpTo: p times base, e times, while it is at most the limit -/
def pu (base lim : Int) : Nat → Int → Int
  | 0, p => p
  | e + 1, p => if p ≤ lim then pu base lim e (p * base) else p
/-- l16Count -/
def cnt (base : Int) : Nat → Int → Int
  | 0, p => p
  | e + 1, p => if p * base > 256 then 257 else cnt base e (p * base)
theorem pu_big {base lim : Int} : ∀ {e : Nat} {p : Int}, lim < p → pu base lim e p = p
  | 0, _, _ => rfl
  | e + 1, p, h => by simp [pu]; omega
theorem pu_pos {base lim : Int} (hb : 0 < base) : ∀ (e : Nat) {p : Int}, 0 < p → 0 < pu base lim e p
  | 0, _, h => h
  | e + 1, p, h => by
    unfold pu
    split
    · exact pu_pos hb e (Int.mul_pos h hb)
    · exact h
theorem cnt_pu {base : Int} : ∀ (e : Nat) (p : Int), p ≤ 256 → cnt base e p = if pu base 256 e p > 256 then 257 else pu base 256 e p
  | 0, p, h => by
    have e0 : pu base 256 0 p = p := rfl
    have e1 : cnt base 0 p = p := rfl
    rw [e0, e1, if_neg (by omega)]
  | e + 1, p, h => by
    have e1 : pu base 256 (e + 1) p = pu base 256 e (p * base) := by simp only [pu]; exact if_pos h
    have e2 : cnt base (e + 1) p = if p * base > 256 then 257 else cnt base e (p * base) := rfl
    rw [e1, e2]
    by_cases h1 : p * base > 256
    · rw [if_pos h1, pu_big h1, if_pos h1]
    · rw [if_neg h1, cnt_pu e (p * base) (by omega)]

theorem pu_pow {base lim : Int} (hb : 1 ≤ base) : ∀ (e : Nat) (p : Int), 0 < p → pu base lim e p ≤ lim → pu base lim e p = p * base ^ e
  | 0, p, _, _ => by simp [pu]
  | e + 1, p, hp, h => by
    unfold pu at h ⊢
    split at h
    · rename_i h1
      rw [if_pos h1, pu_pow hb e _ (Int.mul_pos hp (by omega)) h, Int.pow_succ, Int.mul_assoc, Int.mul_comm base]
    · omega

theorem pu_le {base lim : Int} (hb : 1 ≤ base) : ∀ (e : Nat) (p : Int), 0 < p → p * base ^ e ≤ lim → pu base lim e p = p * base ^ e
  | 0, p, _, _ => by simp [pu]
  | e + 1, p, hp, h => by
    have h1 : 1 ≤ base ^ e := by
      clear h
      induction e with
      | zero => simp
      | succ e ih =>
        rw [Int.pow_succ]
        have := Int.mul_le_mul ih hb (by omega) (by omega)
        omega
    have h2 : p ≤ p * base ^ (e + 1) := by
      rw [Int.pow_succ]
      have h3 := Int.mul_le_mul h1 hb (by omega) (by omega)
      have := Int.mul_le_mul_of_nonneg_left h3 (show 0 ≤ p by omega)
      omega
    unfold pu
    rw [if_pos (by omega), pu_le hb e _ (Int.mul_pos hp (by omega)) (by rw [Int.mul_assoc, Int.mul_comm base, ← Int.pow_succ]; exact h), Int.pow_succ, Int.mul_assoc, Int.mul_comm base]

def allIn (p : Int) (xs : List Int) : Bool := xs.all fun x => decide (0 ≤ x) && decide (x ≤ p - 1)
theorem allIn_iff {p : Int} {xs : List Int} : allIn p xs = true ↔ In p xs := by
  simp only [allIn, List.all_eq_true, Bool.and_eq_true, decide_eq_true_eq, In]
  exact ⟨fun h x hx => by have := h x hx; omega, fun h x hx => by have := h x hx; omega⟩
/-- the field is valid -/
def fOk (p d : Int) (xs : List Int) : Bool :=
  isPr p && decide (1 ≤ d) && decide (pu p 64 d.toNat 1 ≤ 64) && decide ((xs.length : Int) = d + 1) && (cf xs d.toNat == 1) && allIn p xs && irrB p xs

theorem isPr_pos {p : Int} (h : isPr p = true) : 1 ≤ p ∧ p ≤ 1000000 := by
  apply Classical.byContradiction; intro hn
  have : factors p = [] := by unfold factors; rw [if_neg (by omega)]
  unfold isPr at h; rw [this] at h; simp at h
theorem pow_ge {p : Int} (hp : 2 ≤ p) : ∀ m : Nat, (m : Int) + 1 ≤ p ^ m
  | 0 => by simp
  | m + 1 => by
    have := pow_ge hp m
    rw [Int.pow_succ]
    have h2 := Int.mul_le_mul this hp (by omega) (by omega)
    push_cast; omega
theorem pow_ge2 {p : Int} (hp : 2 ≤ p) : ∀ m : Nat, (2 : Int) ^ m ≤ p ^ m
  | 0 => by simp
  | m + 1 => by
    have := pow_ge2 hp m
    have h0 := pow_ge hp m
    rw [Int.pow_succ, Int.pow_succ]
    exact Int.mul_le_mul this hp (by omega) (by omega)
theorem le_pow {p : Int} (hp : 2 ≤ p) {m : Nat} (hm : 1 ≤ m) : p ≤ p ^ m := by
  obtain ⟨k, rfl⟩ := Nat.exists_eq_add_of_le hm
  rw [show 1 + k = k + 1 by omega, Int.pow_succ]
  have := pow_ge hp k
  have := Int.mul_le_mul_of_nonneg_right (show 1 ≤ p ^ k by omega) (show 0 ≤ p by omega)
  omega
theorem pow_small {p : Int} (hp : 2 ≤ p) {m : Nat} (h : p ^ m ≤ 64) : m ≤ 6 := by
  apply Classical.byContradiction; intro hn
  have h1 := pow_ge2 hp m
  have h2 : (2 : Int) ^ 7 ≤ 2 ^ m := by
    obtain ⟨k, rfl⟩ := Nat.exists_eq_add_of_le (show 7 ≤ m by omega)
    rw [Int.pow_add]
    have := pow_ge (p := 2) (by omega) k
    have := Int.mul_le_mul_of_nonneg_left (show 1 ≤ (2 : Int) ^ k by omega) (show (0 : Int) ≤ 2 ^ 7 by decide)
    omega
  have : (2 : Int) ^ 7 = 128 := by decide
  omega
/-- what a valid field is -/
structure FV (p d : Int) (xs : List Int) : Prop where
  pr : isPr p = true
  p2 : 2 ≤ p
  p64 : p ≤ 64
  d1 : 1 ≤ d
  d6 : d ≤ 6
  q : p ^ d.toNat ≤ 64
  len : (xs.length : Int) = d + 1
  top : cf xs d.toNat = 1
  inp : In p xs
  irr : irrB p xs = true
theorem fOk_t {p d : Int} {xs : List Int} (h : fOk p d xs = true) : FV p d xs := by
  simp only [fOk, Bool.and_eq_true, decide_eq_true_eq, beq_iff_eq] at h
  obtain ⟨⟨⟨⟨⟨⟨h1, h2⟩, h3⟩, h4⟩, h5⟩, h6⟩, h7⟩ := h
  have h8 := isPr_pos h1
  have h9 := (isPr_iff h8).1 h1
  have hp2 := h9.1
  have h10 := pu_pow (base := p) (lim := 64) (by omega) d.toNat 1 (by omega) h3
  rw [Int.one_mul] at h10
  rw [h10] at h3
  have h11 := pow_small hp2 h3
  have h12 := le_pow hp2 (m := d.toNat) (by omega)
  exact ⟨h1, hp2, by omega, h2, by omega, h3, h4, h5, allIn_iff.1 h6, h7⟩

theorem prS_iff {p : Nat} (h : p ≤ 64) : prS p = true ↔ Pr p := by
  simp only [prS, Bool.and_eq_true, decide_eq_true_eq, List.all_eq_true, List.mem_range, Bool.or_eq_true, Pr]
  constructor
  · rintro ⟨h1, h2⟩
    refine ⟨by omega, fun d d2 dd e => ?_⟩
    obtain ⟨d, rfl⟩ := Int.eq_ofNat_of_zero_le (show 0 ≤ d by omega)
    have d8 : d ≤ 8 := by
      apply Classical.byContradiction; intro hn
      have := Int.mul_le_mul (show (9 : Int) ≤ d by omega) (show (9 : Int) ≤ d by omega) (by omega) (by omega)
      omega
    have dd' : d * d ≤ p := by have : ((d * d : Nat) : Int) ≤ p := by push_cast; exact dd
                               omega
    have e' : p % d = 0 := by exact_mod_cast e
    by_cases d7 : d < 8
    · rcases h2 d d7 with (h3 | h3) | h3
      · omega
      · omega
      · exact h3 e'
    · have hd8 : d = 8 := by omega
      subst hd8
      have hp64 : p = 64 := by omega
      subst hp64
      rcases h2 2 (by omega) with (h3 | h3) | h3
      · omega
      · omega
      · exact h3 (by decide)
  · rintro ⟨h1, h2⟩
    refine ⟨by omega, fun d _ => ?_⟩
    by_cases h3 : d < 2
    · exact .inl (.inl h3)
    · by_cases h4 : p < d * d
      · exact .inl (.inr h4)
      · refine .inr fun e => ?_
        exact h2 d (by omega) (by have : ((d * d : Nat) : Int) ≤ p := by omega
                                  push_cast at this; exact this) (by exact_mod_cast e)
/-- a prime power is split by its prime -/
theorem split_ok {p d : Int} (p2 : 2 ≤ p) (p64 : p ≤ 64) (d1 : 1 ≤ d) (d6 : d ≤ 6) (hq : p ^ d.toNat ≤ 64) : ((((spl (p ^ d.toNat).toNat).1 : Nat) : Int) = p) ↔ isPr p = true := by
  obtain ⟨P, rfl⟩ := Int.eq_ofNat_of_zero_le (show 0 ≤ p by omega)
  have e : ((P : Int) ^ d.toNat).toNat = P ^ d.toNat := by rw [← Int.natCast_pow, Int.toNat_natCast]
  rw [e]
  have hq' : P ^ d.toNat ≤ 64 := by have : ((P ^ d.toNat : Nat) : Int) ≤ 64 := by rw [Int.natCast_pow]; exact hq
                                    omega
  rw [isPr_iff (by omega), ← prS_iff (by omega), ← spl_ok (by omega) (by omega) (by omega) (by omega) hq']
  omega

/-- the first number from n on whose digits are an irreducible polynomial -/
def irn (p : Int) (D : Nat) : Nat → Nat → Nat
  | 0, n => n
  | f + 1, n => if irrB p (dgt p D n ++ [1]) = true then n else irn p D f (n + 1)
def mkN (q : Nat) : Nat := irn ((spl q).1 : Nat) (spl q).2 64 0
def mkF (q : Nat) : List Int := dgt ((spl q).1 : Nat) (spl q).2 (mkN q) ++ [1]
def mkOk (q : Int) : Bool := decide (2 ≤ q) && decide (q ≤ 64) && ((spl q.toNat).1 != 0)
theorem mk_check : ((List.range 65).all fun q => (spl q).1 == 0 || decide (q < 2) || (decide (2 ≤ (spl q).1) && decide (1 ≤ (spl q).2) && ((spl q).1 ^ (spl q).2 == q) && decide (mkN q ≤ 63) && irrB ((spl q).1 : Nat) (mkF q))) = true := by decide +kernel
theorem fac_check : ((List.range 65).all fun q => decide (q < 2) || (match factors (q : Int) with | [] => (0, 0) | x :: xs => if xs.all (· == x) then (x, (xs.length : Int) + 1) else (0, 0)) == ((((spl q).1 : Nat) : Int), (((spl q).2 : Nat) : Int))) = true := by decide +kernel
structure MK (q : Nat) : Prop where
  p2 : 2 ≤ (spl q).1
  d1 : 1 ≤ (spl q).2
  pw : (spl q).1 ^ (spl q).2 = q
  n63 : mkN q ≤ 63
  irr : irrB ((spl q).1 : Nat) (mkF q) = true
theorem mk_of {q : Nat} (h2 : 2 ≤ q) (h64 : q ≤ 64) (h0 : (spl q).1 ≠ 0) : MK q := by
  have := List.all_eq_true.1 mk_check q (List.mem_range.2 (by omega))
  simp only [Bool.or_eq_true, Bool.and_eq_true, beq_iff_eq, decide_eq_true_eq] at this
  rcases this with (h | h) | ⟨⟨⟨⟨a, b⟩, c⟩, d⟩, e⟩
  · exact absurd h h0
  · omega
  · exact ⟨a, b, c, d, e⟩
theorem MK.fv {q : Nat} (h : MK q) (h64 : q ≤ 64) : FV ((spl q).1 : Nat) ((spl q).2 : Nat) (mkF q) := by
  have hp64 : (spl q).1 ≤ 64 := by
    have := Nat.pow_le_pow_right (n := (spl q).1) (by have := h.p2; omega) h.d1
    rw [h.pw] at this; simp at this; omega
  have hq : (((spl q).1 : Nat) : Int) ^ (((spl q).2 : Nat) : Int).toNat ≤ 64 := by
    rw [Int.toNat_natCast, ← Int.natCast_pow, h.pw]; omega
  have hd6 := pow_small (p := ((spl q).1 : Nat)) (by have := h.p2; omega) hq
  rw [Int.toNat_natCast] at hd6
  have hin : In (((spl q).1 : Nat) : Int) (mkF q) := fun x hx => by
    have hp2 := h.p2
    rcases List.mem_append.1 hx with hx | hx
    · exact dgt_in (by omega) _ _ x hx
    · simp at hx; subst hx; omega
  refine ⟨?_, by have := h.p2; omega, by omega, by have := h.d1; omega, by omega, hq, by simp [mkF, dgt_len], ?_, hin, h.irr⟩
  · rw [← split_ok (p := ((spl q).1 : Nat)) (d := ((spl q).2 : Nat)) (by have := h.p2; omega) (by omega) (by have := h.d1; omega) (by omega) hq, Int.toNat_natCast, ← Int.natCast_pow, Int.toNat_natCast, h.pw]
  · rw [Int.toNat_natCast, mkF, cf_appR (by rw [dgt_len])]
/-- the search -/
theorem irn_hit {p : Int} {D f n : Nat} (h : irrB p (dgt p D n ++ [1]) = true) : irn p D f n = n := by
  cases f with
  | zero => rfl
  | succ f => rw [irn, if_pos h]
theorem irn_next {p : Int} {D f n : Nat} (h : irrB p (dgt p D n ++ [1]) = false) (hN : irrB p (dgt p D (irn p D f n) ++ [1]) = true) : ∃ f', f = f' + 1 ∧ irn p D f n = irn p D f' (n + 1) := by
  cases f with
  | zero => rw [irn, h] at hN; cases hN
  | succ f => exact ⟨f, rfl, by rw [irn, if_neg (by rw [h]; simp)]⟩
/-- the value of a polynomial, the leading coefficient first -/
def hor (p : Int) (D : Nat) (fs : List Int) (x : Int) (cs : List Int) : Int := cs.foldl (fun v c => fsum p D (fmul p D fs v x) c 1) 0
theorem hor_snoc (p : Int) (D : Nat) (fs : List Int) (x : Int) (cs : List Int) (c : Int) : hor p D fs x (cs ++ [c]) = fsum p D (fmul p D fs (hor p D fs x cs) x) c 1 := by
  unfold hor; rw [List.foldl_append]; rfl

end Go.Proofs.Ytpfgbbbjldpnnaa
