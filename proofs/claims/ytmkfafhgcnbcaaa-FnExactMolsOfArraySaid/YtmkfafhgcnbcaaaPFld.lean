/- Polynomials modulo a prime as lists, and what the program makes of them, in plain terms. -/
namespace Go.Proofs.Ytmkfafhgcnbcaaa
set_option linter.unusedSimpArgs false
set_option linter.unusedVariables false

/-- coefficient j -/
def cf (xs : List Int) (j : Nat) : Int := xs.getD j 0
theorem cf_eq {xs : List Int} {j : Nat} (h : j < xs.length) : cf xs j = xs[j] := by simp [cf, h]
theorem cf_mem {xs : List Int} {j : Nat} (h : j < xs.length) : cf xs j ∈ xs := by rw [cf_eq h]; exact List.getElem_mem h
theorem cf_ge {xs : List Int} {j : Nat} (h : xs.length ≤ j) : cf xs j = 0 := by simp [cf, List.getElem?_eq_none h]
theorem cf_appL {ys zs : List Int} {t : Nat} (h : t < ys.length) : cf (ys ++ zs) t = cf ys t := by
  unfold cf; rw [List.getD_eq_getElem?_getD, List.getD_eq_getElem?_getD, List.getElem?_append_left h]
theorem cf_appR {ys : List Int} {z : Int} {t : Nat} (h : t = ys.length) : cf (ys ++ [z]) t = z := by
  subst h; unfold cf; rw [List.getD_eq_getElem?_getD, List.getElem?_append_right (Nat.le_refl _)]; simp
theorem cf_ext {xs ys : List Int} (hl : xs.length = ys.length) (h : ∀ j, j < xs.length → cf xs j = cf ys j) : xs = ys := by
  apply List.ext_getElem hl
  intro j h1 h2
  have := h j h1
  rwa [cf_eq h1, cf_eq h2] at this
theorem cf_set {xs : List Int} {i j : Nat} {x : Int} (h : i < xs.length) : cf (xs.set i x) j = if i = j then x else cf xs j := by
  unfold cf
  rw [List.getD_eq_getElem?_getD, List.getElem?_set]
  split
  · rename_i e; subst e; simp [h]
  · simp [List.getD_eq_getElem?_getD]
/-- the list of f 0, f 1, .. -/
def tab (n : Nat) (f : Nat → Int) : List Int := (List.range n).map f
theorem tab_len (n : Nat) (f : Nat → Int) : (tab n f).length = n := by simp [tab]
theorem cf_tab {n j : Nat} {f : Nat → Int} (h : j < n) : cf (tab n f) j = f j := by simp [cf, tab, h]
theorem tab_cf (xs : List Int) : tab xs.length (cf xs) = xs := cf_ext (by rw [tab_len]) (fun j hj => by rw [tab_len] at hj; exact cf_tab hj)
theorem tab_congr {n : Nat} {f g : Nat → Int} (h : ∀ j, j < n → f j = g j) : tab n f = tab n g := cf_ext (by rw [tab_len, tab_len]) (fun j hj => by rw [tab_len] at hj; rw [cf_tab hj, cf_tab hj, h j hj])

/-- all numbers are residues of p -/
def In (p : Int) (xs : List Int) : Prop := ∀ x ∈ xs, 0 ≤ x ∧ x < p
theorem In.cf {p : Int} {xs : List Int} (h : In p xs) (hp : 0 < p) (j : Nat) : 0 ≤ cf xs j ∧ cf xs j < p := by
  by_cases hj : j < xs.length
  · exact h _ (cf_mem hj)
  · rw [cf_ge (by omega)]; omega
theorem In.tab {p : Int} {n : Nat} {f : Nat → Int} (h : ∀ j, j < n → 0 ≤ f j ∧ f j < p) : In p (tab n f) := by
  intro x hx
  obtain ⟨j, hj, rfl⟩ := List.mem_map.1 hx
  exact h j (List.mem_range.1 hj)
theorem In.set {p : Int} {xs : List Int} (h : In p xs) {i : Nat} {x : Int} (hx : 0 ≤ x ∧ x < p) : In p (xs.set i x) := by
  intro y hy
  rcases List.mem_or_eq_of_mem_set hy with hy | rfl
  · exact h y hy
  · exact hx

/-- the places s, .., s + j - 1 less f times another polynomial -/
def subT (p : Int) (rest by' : List Int) (s : Nat) (f : Int) (j : Nat) : List Int :=
  tab rest.length fun t => if s ≤ t ∧ t < s + j then (cf rest t - f * cf by' (t - s)) % p else cf rest t
theorem subT_len (p : Int) (rest by' : List Int) (s : Nat) (f : Int) (j : Nat) : (subT p rest by' s f j).length = rest.length := tab_len _ _
theorem subT_0 (p : Int) (rest by' : List Int) (s : Nat) (f : Int) : subT p rest by' s f 0 = rest := by
  unfold subT
  rw [← tab_cf rest]
  refine cf_ext (by simp [tab_len]) fun t ht => ?_
  rw [tab_len, tab_len] at ht
  rw [cf_tab (by rw [tab_len]; exact ht), if_neg (by omega)]
theorem cf_subT {p : Int} {rest by' : List Int} {s : Nat} {f : Int} {j t : Nat} (h : t < rest.length) :
    cf (subT p rest by' s f j) t = if s ≤ t ∧ t < s + j then (cf rest t - f * cf by' (t - s)) % p else cf rest t := cf_tab h
theorem subT_step {p : Int} {rest by' : List Int} {s : Nat} {f : Int} {j : Nat} (h : s + j < rest.length) :
    (subT p rest by' s f j).set (s + j) ((cf (subT p rest by' s f j) (s + j) - f * cf by' j) % p) = subT p rest by' s f (j + 1) := by
  refine cf_ext (by simp [subT_len]) fun t ht => ?_
  rw [List.length_set, subT_len] at ht
  rw [cf_set (by rw [subT_len]; exact h), cf_subT ht, cf_subT ht, cf_subT h, if_neg (show ¬ (s ≤ s + j ∧ s + j < s + j) by omega)]
  by_cases e : s + j = t
  · subst e; rw [if_pos rfl, if_pos (by omega), show s + j - s = j by omega]
  · rw [if_neg e]
    by_cases h1 : s ≤ t ∧ t < s + j
    · rw [if_pos h1, if_pos (by omega)]
    · rw [if_neg h1, if_neg (by omega)]
theorem In.subT {p : Int} (hp : 0 < p) {rest by' : List Int} (h : In p rest) (s : Nat) (f : Int) (j : Nat) : In p (subT p rest by' s f j) := by
  refine In.tab fun t ht => ?_
  split
  · exact ⟨Int.emod_nonneg _ (by omega), Int.emod_lt_of_pos _ hp⟩
  · exact h.cf hp t

/-- the places from deg + c - 1 down to deg are made 0 -/
def remN (p : Int) (by' : List Int) (deg : Nat) : Nat → List Int → List Int
  | 0, rest => rest
  | c + 1, rest => remN p by' deg c (subT p rest by' c (cf rest (deg + c)) (deg + 1))
theorem remN_len (p : Int) (by' : List Int) (deg : Nat) : ∀ (c : Nat) (rest : List Int), (remN p by' deg c rest).length = rest.length
  | 0, _ => rfl
  | c + 1, rest => by rw [remN, remN_len p by' deg c, subT_len]
theorem In.remN {p : Int} (hp : 0 < p) {by' : List Int} {deg : Nat} : ∀ (c : Nat) {rest : List Int}, In p rest → In p (remN p by' deg c rest)
  | 0, _, h => h
  | c + 1, rest, h => In.remN hp c (h.subT hp _ _ _)
/-- the remainder by a polynomial of the degree deg with the highest coefficient 1 -/
def remL (p : Int) (poly by' : List Int) : List Int := (remN p by' (by'.length - 1) (poly.length - (by'.length - 1)) poly).take (by'.length - 1)
theorem In.remL {p : Int} (hp : 0 < p) {poly by' : List Int} (h : In p poly) : In p (remL p poly by') := fun x hx => In.remN hp _ h x (List.mem_of_mem_take hx)

/-- the number with some digits, the lowest one first -/
def numL (base : Int) (xs : List Int) : Int := xs.foldr (fun d n => n * base + d) 0
theorem numL_nonneg {base : Int} (hb : 0 ≤ base) : ∀ {xs : List Int}, (∀ x ∈ xs, 0 ≤ x) → 0 ≤ numL base xs
  | [], _ => by simp [numL]
  | x :: r, h => by
    have h1 := numL_nonneg hb (xs := r) (fun y hy => h y (by simp [hy]))
    have h2 := h x (by simp)
    have h3 := Int.mul_nonneg h1 hb
    show 0 ≤ numL base r * base + x
    omega
theorem numL_lt {base : Int} (hb : 1 ≤ base) : ∀ {xs : List Int}, In base xs → numL base xs < base ^ xs.length
  | [], _ => by simp [numL]
  | x :: r, h => by
    have h1 := numL_lt hb (xs := r) (fun y hy => h y (by simp [hy]))
    have h2 := h x (by simp)
    have h3 := Int.mul_le_mul_of_nonneg_right (show numL base r + 1 ≤ base ^ r.length by omega) (show 0 ≤ base by omega)
    rw [Int.add_mul] at h3
    show numL base r * base + x < base ^ (r.length + 1)
    rw [Int.pow_succ]; omega
def zeroL (xs : List Int) : Bool := xs.all (· == 0)
theorem numL_zero {base : Int} (hb : 1 ≤ base) : ∀ {xs : List Int}, In base xs → (numL base xs = 0 ↔ zeroL xs = true)
  | [], _ => by simp [numL, zeroL]
  | x :: r, h => by
    have h1 := numL_zero hb (xs := r) (fun y hy => h y (by simp [hy]))
    have h0 := numL_nonneg (base := base) (by omega) (xs := r) (fun y hy => (h y (by simp [hy])).1)
    have h2 := h x (by simp)
    have e : numL base (x :: r) = numL base r * base + x := rfl
    have e2 : zeroL (x :: r) = (x == 0 && zeroL r) := rfl
    rw [e, e2, Bool.and_eq_true, beq_iff_eq, ← h1]
    constructor
    · intro h3
      have h4 := Int.mul_nonneg h0 (show 0 ≤ base by omega)
      have h5 : numL base r * base = 0 := by omega
      rcases Int.mul_eq_zero.1 h5 with h6 | h6
      · exact ⟨by omega, h6⟩
      · omega
    · rintro ⟨rfl, h3⟩; rw [h3]; simp

/-! ### sums and products of elements -/
def dgt (base : Int) : Nat → Int → List Int
  | 0, _ => []
  | m + 1, n => n % base :: dgt base m (n / base)
theorem dgt_len (base : Int) : ∀ (m : Nat) (n : Int), (dgt base m n).length = m
  | 0, _ => rfl
  | m + 1, n => by simp [dgt, dgt_len base m]
theorem dgt_in {base : Int} (hb : 0 < base) : ∀ (m : Nat) (n : Int), In base (dgt base m n)
  | 0, _, x, hx => by simp [dgt] at hx
  | m + 1, n, x, hx => by
    rcases List.mem_cons.1 hx with rfl | hx
    · exact ⟨Int.emod_nonneg _ (by omega), Int.emod_lt_of_pos _ hb⟩
    · exact dgt_in hb m _ x hx
theorem numL_dgt {base : Int} (hb : 0 < base) : ∀ (m : Nat) (n : Int), 0 ≤ n → n < base ^ m → numL base (dgt base m n) = n
  | 0, n, h0, h1 => by simp at h1; simp [dgt, numL]; omega
  | m + 1, n, h0, h1 => by
    have h2 : n / base < base ^ m := by
      rw [Int.pow_succ] at h1
      exact Int.ediv_lt_of_lt_mul hb h1
    have ih := numL_dgt hb m (n / base) (Int.ediv_nonneg h0 (by omega)) h2
    show numL base (dgt base m (n / base)) * base + n % base = n
    rw [ih, Int.mul_comm]
    exact Int.mul_ediv_add_emod n base
/-- a + k b -/
def fsum (p : Int) (D : Nat) (a b k : Int) : Int := numL p (tab D fun j => (cf (dgt p D a) j + k * cf (dgt p D b) j) % p)
/-- coefficient t of a product, as far as i places of the first factor are taken -/
def cvl (p : Int) (x y : List Int) (D : Nat) : Nat → Nat → Int
  | 0, _ => 0
  | i + 1, t => if i ≤ t ∧ t < i + D then (cvl p x y D i t + cf x i * cf y (t - i)) % p else cvl p x y D i t
theorem cvl_in {p : Int} (hp : 0 < p) (x y : List Int) (D : Nat) : ∀ (i t : Nat), 0 ≤ cvl p x y D i t ∧ cvl p x y D i t < p
  | 0, t => by simp [cvl]; omega
  | i + 1, t => by
    rw [cvl]
    split
    · exact ⟨Int.emod_nonneg _ (by omega), Int.emod_lt_of_pos _ hp⟩
    · exact cvl_in hp x y D i t
theorem cvl_top (p : Int) (x y : List Int) (D : Nat) : ∀ (i t : Nat), i + D ≤ t + 1 → cvl p x y D i t = 0
  | 0, _, _ => rfl
  | i + 1, t, h => by
    rw [cvl, if_neg (by omega)]
    exact cvl_top p x y D i t (by omega)
/-- the list, j places of the row i being taken -/
def cvr (p : Int) (x y : List Int) (D n i j : Nat) : List Int := tab n fun t => if t < i + j then cvl p x y D (i + 1) t else cvl p x y D i t
theorem cvr_len (p : Int) (x y : List Int) (D n i j : Nat) : (cvr p x y D n i j).length = n := tab_len _ _
theorem cvr_0 (p : Int) (x y : List Int) (D n i : Nat) : cvr p x y D n i 0 = tab n (cvl p x y D i) := by
  refine tab_congr fun t _ => ?_
  by_cases h : t < i + 0
  · rw [if_pos h, cvl, if_neg (by omega)]
  · rw [if_neg h]
theorem cvr_end (p : Int) (x y : List Int) (D n i : Nat) : cvr p x y D n i D = tab n (cvl p x y D (i + 1)) := by
  refine tab_congr fun t _ => ?_
  by_cases h : t < i + D
  · rw [if_pos h]
  · rw [if_neg h, cvl, if_neg (by omega)]
theorem cvr_step {p : Int} {x y : List Int} {D n i j : Nat} (hj : j < D) (hn : i + j < n) :
    (cvr p x y D n i j).set (i + j) ((cf (cvr p x y D n i j) (i + j) + cf x i * cf y j) % p) = cvr p x y D n i (j + 1) := by
  refine cf_ext (by simp [cvr_len]) fun t ht => ?_
  rw [List.length_set, cvr_len] at ht
  unfold cvr
  rw [cf_set (by rw [tab_len]; exact hn), cf_tab ht, cf_tab ht, cf_tab hn, if_neg (show ¬ i + j < i + j by omega)]
  by_cases e : i + j = t
  · subst e
    rw [if_pos rfl, if_pos (by omega), cvl, if_pos (by omega), show i + j - i = j by omega]
  · rw [if_neg e]
    by_cases h1 : t < i + j
    · rw [if_pos h1, if_pos (by omega)]
    · rw [if_neg h1, if_neg (by omega)]
theorem cvl_0 (p : Int) (x y : List Int) (D n : Nat) : tab n (cvl p x y D 0) = List.replicate n 0 := by
  apply List.ext_getElem
  · simp [tab]
  · intro i h1 h2; simp [tab, cvl]

/-- a highest coefficient 0 leaves the remainder as it is -/
theorem remL_top {p : Int} {xs by' : List Int} (hi : In p xs) (hl : by'.length - 1 ≤ xs.length) : remL p (xs ++ [0]) by' = remL p xs by' := by
  unfold remL
  rw [List.length_append, List.length_singleton, show xs.length + 1 - (by'.length - 1) = xs.length - (by'.length - 1) + 1 by omega, remN]
  have e0 : cf (xs ++ [0]) (by'.length - 1 + (xs.length - (by'.length - 1))) = 0 := by
    rw [show by'.length - 1 + (xs.length - (by'.length - 1)) = xs.length by omega]; simp [cf]
  rw [e0]
  have e1 : subT p (xs ++ [0]) by' (xs.length - (by'.length - 1)) 0 (by'.length - 1 + 1) = xs ++ [0] := by
    refine cf_ext (subT_len _ _ _ _ _ _) fun t ht => ?_
    rw [subT_len] at ht
    rw [cf_subT ht]
    split
    · rw [Int.zero_mul, Int.sub_zero]
      by_cases h : t < xs.length
      · have e2 : cf (xs ++ [0]) t = cf xs t := by simp [cf, List.getElem?_append_left h]
        rw [e2]
        have := hi _ (cf_mem h)
        exact Int.emod_eq_of_lt this.1 this.2
      · have e2 : cf (xs ++ [0]) t = 0 := by
          simp only [List.length_append, List.length_singleton] at ht
          have : t = xs.length := by omega
          subst this; simp [cf]
        rw [e2]; simp
    · rfl
  rw [e1]
  have key : ∀ (c : Nat) (ys : List Int) (z : Int), by'.length - 1 + c ≤ ys.length → remN p by' (by'.length - 1) c (ys ++ [z]) = remN p by' (by'.length - 1) c ys ++ [z] := by
    intro c
    induction c with
    | zero => intro ys z _; rfl
    | succ c ih =>
      intro ys z h
      rw [remN, remN]
      have e3 : cf (ys ++ [z]) (by'.length - 1 + c) = cf ys (by'.length - 1 + c) := cf_appL (by omega)
      rw [e3]
      have e4 : subT p (ys ++ [z]) by' c (cf ys (by'.length - 1 + c)) (by'.length - 1 + 1) = subT p ys by' c (cf ys (by'.length - 1 + c)) (by'.length - 1 + 1) ++ [z] := by
        refine cf_ext (by simp [subT_len]) fun t ht => ?_
        rw [subT_len, List.length_append, List.length_singleton] at ht
        rw [cf_subT (by simp; omega)]
        by_cases h5 : t < ys.length
        · have e5 : cf (ys ++ [z]) t = cf ys t := cf_appL h5
          have e6 : cf (subT p ys by' c (cf ys (by'.length - 1 + c)) (by'.length - 1 + 1) ++ [z]) t = cf (subT p ys by' c (cf ys (by'.length - 1 + c)) (by'.length - 1 + 1)) t := cf_appL (by rw [subT_len]; exact h5)
          rw [e6, cf_subT h5, e5]
        · have h6 : t = ys.length := by omega
          subst h6
          rw [if_neg (by omega)]
          rw [cf_appR rfl, cf_appR (subT_len _ _ _ _ _ _).symm]
      rw [e4, ih _ _ (by rw [subT_len]; omega)]
  rw [key _ _ _ (by omega), List.take_append_of_le_length (by rw [remN_len]; omega)]

/-- the product of two elements -/
def fmul (p : Int) (D : Nat) (poly : List Int) (a b : Int) : Int := numL p (remL p (tab (2 * D - 1) (cvl p (dgt p D a) (dgt p D b) D D)) poly)
theorem fmul_eq {p : Int} (hp : 0 < p) {D : Nat} (hD : 1 ≤ D) {poly : List Int} (hl : poly.length = D + 1) (a b : Int) :
    numL p (remL p (tab (2 * D) (cvl p (dgt p D a) (dgt p D b) D D)) poly) = fmul p D poly a b := by
  unfold fmul
  have e : tab (2 * D) (cvl p (dgt p D a) (dgt p D b) D D) = tab (2 * D - 1) (cvl p (dgt p D a) (dgt p D b) D D) ++ [0] := by
    unfold tab
    rw [show 2 * D = 2 * D - 1 + 1 by omega, List.range_succ, List.map_append, List.map_singleton, show 2 * D - 1 + 1 - 1 = 2 * D - 1 by omega]
    rw [cvl_top p _ _ D D (2 * D - 1) (by omega)]
  rw [e, remL_top (In.tab fun t _ => cvl_in hp _ _ D D t) (by rw [tab_len, hl]; omega)]

/-- no polynomial of a lesser degree divides it -/
def irrB (p : Int) (poly : List Int) : Bool := (List.range ((poly.length - 1) / 2)).all fun i => (List.range (p ^ (i + 1)).toNat).all fun n => !zeroL (remL p poly (dgt p (i + 1) n ++ [1]))

/-! ### which fields there are -/
/-- a prime of at most 64 -/
def prS (p : Nat) : Bool := decide (2 ≤ p) && (List.range 8).all fun d => decide (d < 2) || decide (p < d * d) || decide (p % d ≠ 0)
/-- the least divisor from d on -/
def lfac (q : Nat) : Nat → Nat → Nat
  | 0, d => d
  | f + 1, d => if q % d = 0 then d else lfac q f (d + 1)
/-- how often p divides, or 0 -/
def plog (p : Nat) : Nat → Nat → Nat → Option Nat
  | 0, _, _ => none
  | f + 1, n, k => if 1 < n then (if n % p = 0 then plog p f (n / p) (k + 1) else none) else some k
/-- the prime and the exponent of a prime power -/
def spl (q : Nat) : Nat × Nat := match plog (lfac q 64 2) 64 q 0 with | some k => (lfac q 64 2, k) | none => (0, 0)
theorem spl_check : ((List.range 65).all fun q => decide (q < 2) || (List.range 65).all fun p => decide (p < 2) || (List.range 7).all fun d => decide (d < 1) || decide (p ^ d ≠ q) || ((spl q).1 == p) == prS p) = true := by decide +kernel
theorem spl_ok {p d : Nat} (hp : 2 ≤ p) (hp2 : p ≤ 64) (hd : 1 ≤ d) (hd2 : d ≤ 6) (hq : p ^ d ≤ 64) : ((spl (p ^ d)).1 = p ↔ prS p = true) := by
  have h := spl_check
  have h2 : 2 ≤ p ^ d := Nat.le_trans hp (Nat.le_self_pow (by omega) p)
  rw [List.all_eq_true] at h
  have h := h (p ^ d) (List.mem_range.2 (by omega))
  have e1 : decide (p ^ d < 2) = false := decide_eq_false (by omega)
  rw [e1, Bool.false_or, List.all_eq_true] at h
  have h := h p (List.mem_range.2 (by omega))
  have e2 : decide (p < 2) = false := decide_eq_false (by omega)
  rw [e2, Bool.false_or, List.all_eq_true] at h
  have h := h d (List.mem_range.2 (by omega))
  have e3 : decide (d < 1) = false := decide_eq_false (by omega)
  have e4 : decide (p ^ d ≠ p ^ d) = false := decide_eq_false (by simp)
  rw [e3, e4, Bool.false_or, Bool.false_or, beq_iff_eq] at h
  rw [← h]; simp
end Go.Proofs.Ytmkfafhgcnbcaaa
