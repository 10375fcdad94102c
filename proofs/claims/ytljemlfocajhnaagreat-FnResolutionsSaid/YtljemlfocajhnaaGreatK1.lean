/- The texts of this claim, run 1: PSet PFok PGen PSpan PStr PInv. -/

section
/- Sets of small numbers as rising lists, in plain terms. -/
namespace Go.Proofs.YtljemlfocajhnaaGreat
set_option linter.unusedSimpArgs false
set_option linter.unusedVariables false

/-- increasing numbers from last on, below n -/
def incB (last n : Int) : List Int → Bool
  | [] => true
  | x :: xs => if x ≤ last ∨ n ≤ x then false else incB x n xs

theorem incB_gt : ∀ {xs : List Int} {last n : Int}, incB last n xs = true → ∀ x ∈ xs, last < x ∧ x < n
  | [], _, _, _, x, hx => by simp at hx
  | y :: ys, last, n, h, x, hx => by
    unfold incB at h
    split at h
    · cases h
    · rename_i hn
      rcases List.mem_cons.1 hx with rfl | hx
      · omega
      · have := incB_gt h x hx; omega

theorem incB_mono {xs : List Int} {l l' n : Int} (h : incB l n xs = true) (hl : ∀ x ∈ xs, l' < x) : incB l' n xs = true := by
  cases xs with
  | nil => rfl
  | cons x xs =>
    have := hl x (by simp)
    unfold incB at h ⊢
    split at h
    · cases h
    · rw [if_neg (by omega)]; exact h

/-- the numbers from lo on, k of them, for which f holds -/
def upF (f : Int → Bool) : Nat → Nat → List Int
  | _, 0 => []
  | lo, k + 1 => if f lo then (lo : Int) :: upF f (lo + 1) k else upF f (lo + 1) k

theorem inc_eq {f : Int → Bool} : ∀ (k lo : Nat) (xs : List Int), incB ((lo : Int) - 1) (lo + k) xs = true → (∀ j : Nat, lo ≤ j → j < lo + k → f j = xs.contains (j : Int)) → upF f lo k = xs
  | 0, lo, xs, h, _ => by
    cases xs with
    | nil => rfl
    | cons x xs => have := incB_gt h x (by simp); omega
  | k + 1, lo, xs, h, hf => by
    unfold upF
    have h0 := hf lo (by omega) (by omega)
    cases xs with
    | nil =>
      simp at h0
      rw [h0, if_neg (by simp)]
      exact inc_eq k (lo + 1) [] rfl (fun j h1 h2 => hf j (by omega) (by omega))
    | cons x t =>
      have hx := incB_gt h x (by simp)
      have ht : incB x (lo + (k + 1 : Nat)) t = true := by
        unfold incB at h; split at h
        · cases h
        · exact h
      by_cases e : x = lo
      · subst e
        simp at h0
        rw [h0, if_pos rfl]
        congr 1
        refine inc_eq k (lo + 1) t ?_ ?_
        · have e1 : ((lo + 1 : Nat) : Int) - 1 = lo := by omega
          have e2 : ((lo + 1 : Nat) : Int) + k = lo + (k + 1 : Nat) := by omega
          rw [e1, e2]; exact ht
        · intro j h1 h2
          rw [hf j (by omega) (by omega)]
          rw [List.contains_cons]
          have : ((j : Int) == (lo : Int)) = false := by simp; omega
          rw [this]; simp
      · have hnot : (x :: t).contains (lo : Int) = false := by
          rw [Bool.eq_false_iff]
          intro hc
          rw [List.contains_iff_mem] at hc
          rcases List.mem_cons.1 hc with h1 | h1
          · exact e h1.symm
          · have := incB_gt ht _ h1; omega
        rw [h0, hnot, if_neg (by simp)]
        refine inc_eq k (lo + 1) (x :: t) ?_ (fun j h1 h2 => hf j (by omega) (by omega))
        have e2 : ((lo + 1 : Nat) : Int) + k = lo + (k + 1 : Nat) := by omega
        rw [e2]
        refine incB_mono h (fun y hy => ?_)
        rcases List.mem_cons.1 hy with rfl | hy
        · omega
        · have := incB_gt ht _ hy; omega

/-- a set of numbers below 32 -/
def IsSet (a : List Int) : Prop := incB (-1) 32 a = true
instance (a : List Int) : Decidable (IsSet a) := inferInstanceAs (Decidable (incB (-1) 32 a = true))
theorem IsSet.eq {a : List Int} (h : IsSet a) : upF (fun x => a.contains x) 0 32 = a := inc_eq 32 0 a (by unfold IsSet at h; simpa using h) (fun _ _ _ => rfl)
theorem ce (xs : List Int) (x : Int) : xs.contains x = decide (x ∈ xs) := by simp

def mee (a b : List Int) : List Int := upF (fun x => a.contains x && b.contains x) 0 32
def min' (a b : List Int) : List Int := upF (fun x => a.contains x && !b.contains x) 0 32

end Go.Proofs.YtljemlfocajhnaaGreat
end

section
/- Polynomials modulo a prime as lists, and what the program makes of them, in plain terms. Trial division, in plain terms. Bounded powers, in plain terms. Valid fields, in plain terms. Fields that are made: the first irreducible polynomial, in plain terms. -/

namespace Go.Proofs.YtljemlfocajhnaaGreat
set_option linter.unusedSimpArgs false
set_option linter.unusedVariables false

/-- coefficient j -/
def cf (xs : List Int) (j : Nat) : Int := xs.getD j 0
theorem cf_eq {xs : List Int} {j : Nat} (h : j < xs.length) : cf xs j = xs[j] := by simp [cf, h]
theorem cf_mem {xs : List Int} {j : Nat} (h : j < xs.length) : cf xs j ∈ xs := by rw [cf_eq h]; exact List.getElem_mem h
theorem cf_ge {xs : List Int} {j : Nat} (h : xs.length ≤ j) : cf xs j = 0 := by simp [cf, List.getElem?_eq_none h]
theorem cf_appL {ys zs : List Int} {t : Nat} (h : t < ys.length) : cf (ys ++ zs) t = cf ys t := by
  unfold cf; rw [List.getD_eq_getElem?_getD, List.getD_eq_getElem?_getD, List.getElem?_append_left h]
theorem cf_appR {ys : List Int} {z : Int} {t : Nat} (h : t = ys.length) : cf (ys ++ [z]) t = z := by
  subst h; unfold cf; rw [List.getD_eq_getElem?_getD, List.getElem?_append_right (Nat.le_refl _)]; simp
theorem cf_ext {xs ys : List Int} (hl : xs.length = ys.length) (h : ∀ j, j < xs.length → cf xs j = cf ys j) : xs = ys := by
  apply List.ext_getElem hl
  intro j h1 h2
  have := h j h1
  rwa [cf_eq h1, cf_eq h2] at this
theorem cf_set {xs : List Int} {i j : Nat} {x : Int} (h : i < xs.length) : cf (xs.set i x) j = if i = j then x else cf xs j := by
  unfold cf
  rw [List.getD_eq_getElem?_getD, List.getElem?_set]
  split
  · rename_i e; subst e; simp [h]
  · simp [List.getD_eq_getElem?_getD]
/-- the list of f 0, f 1, .. -/
def tab (n : Nat) (f : Nat → Int) : List Int := (List.range n).map f
theorem tab_len (n : Nat) (f : Nat → Int) : (tab n f).length = n := by simp [tab]
theorem cf_tab {n j : Nat} {f : Nat → Int} (h : j < n) : cf (tab n f) j = f j := by simp [cf, tab, h]
theorem tab_cf (xs : List Int) : tab xs.length (cf xs) = xs := cf_ext (by rw [tab_len]) (fun j hj => by rw [tab_len] at hj; exact cf_tab hj)
theorem tab_congr {n : Nat} {f g : Nat → Int} (h : ∀ j, j < n → f j = g j) : tab n f = tab n g := cf_ext (by rw [tab_len, tab_len]) (fun j hj => by rw [tab_len] at hj; rw [cf_tab hj, cf_tab hj, h j hj])

/-- all numbers are residues of p -/
def In (p : Int) (xs : List Int) : Prop := ∀ x ∈ xs, 0 ≤ x ∧ x < p
theorem In.cf {p : Int} {xs : List Int} (h : In p xs) (hp : 0 < p) (j : Nat) : 0 ≤ cf xs j ∧ cf xs j < p := by
  by_cases hj : j < xs.length
  · exact h _ (cf_mem hj)
  · rw [cf_ge (by omega)]; omega
theorem In.tab {p : Int} {n : Nat} {f : Nat → Int} (h : ∀ j, j < n → 0 ≤ f j ∧ f j < p) : In p (tab n f) := by
  intro x hx
  obtain ⟨j, hj, rfl⟩ := List.mem_map.1 hx
  exact h j (List.mem_range.1 hj)
theorem In.set {p : Int} {xs : List Int} (h : In p xs) {i : Nat} {x : Int} (hx : 0 ≤ x ∧ x < p) : In p (xs.set i x) := by
  intro y hy
  rcases List.mem_or_eq_of_mem_set hy with hy | rfl
  · exact h y hy
  · exact hx

/-- the places s, .., s + j - 1 less f times another polynomial -/
def subT (p : Int) (rest by' : List Int) (s : Nat) (f : Int) (j : Nat) : List Int :=
  tab rest.length fun t => if s ≤ t ∧ t < s + j then (cf rest t - f * cf by' (t - s)) % p else cf rest t
theorem subT_len (p : Int) (rest by' : List Int) (s : Nat) (f : Int) (j : Nat) : (subT p rest by' s f j).length = rest.length := tab_len _ _
theorem subT_0 (p : Int) (rest by' : List Int) (s : Nat) (f : Int) : subT p rest by' s f 0 = rest := by
  unfold subT
  rw [← tab_cf rest]
  refine cf_ext (by simp [tab_len]) fun t ht => ?_
  rw [tab_len, tab_len] at ht
  rw [cf_tab (by rw [tab_len]; exact ht), if_neg (by omega)]
theorem cf_subT {p : Int} {rest by' : List Int} {s : Nat} {f : Int} {j t : Nat} (h : t < rest.length) :
    cf (subT p rest by' s f j) t = if s ≤ t ∧ t < s + j then (cf rest t - f * cf by' (t - s)) % p else cf rest t := cf_tab h
theorem subT_step {p : Int} {rest by' : List Int} {s : Nat} {f : Int} {j : Nat} (h : s + j < rest.length) :
    (subT p rest by' s f j).set (s + j) ((cf (subT p rest by' s f j) (s + j) - f * cf by' j) % p) = subT p rest by' s f (j + 1) := by
  refine cf_ext (by simp [subT_len]) fun t ht => ?_
  rw [List.length_set, subT_len] at ht
  rw [cf_set (by rw [subT_len]; exact h), cf_subT ht, cf_subT ht, cf_subT h, if_neg (show ¬ (s ≤ s + j ∧ s + j < s + j) by omega)]
  by_cases e : s + j = t
  · subst e; rw [if_pos rfl, if_pos (by omega), show s + j - s = j by omega]
  · rw [if_neg e]
    by_cases h1 : s ≤ t ∧ t < s + j
    · rw [if_pos h1, if_pos (by omega)]
    · rw [if_neg h1, if_neg (by omega)]
theorem In.subT {p : Int} (hp : 0 < p) {rest by' : List Int} (h : In p rest) (s : Nat) (f : Int) (j : Nat) : In p (subT p rest by' s f j) := by
  refine In.tab fun t ht => ?_
  split
  · exact ⟨Int.emod_nonneg _ (by omega), Int.emod_lt_of_pos _ hp⟩
  · exact h.cf hp t

/-- the places from deg + c - 1 down to deg are made 0 -/
def remN (p : Int) (by' : List Int) (deg : Nat) : Nat → List Int → List Int
  | 0, rest => rest
  | c + 1, rest => remN p by' deg c (subT p rest by' c (cf rest (deg + c)) (deg + 1))
theorem remN_len (p : Int) (by' : List Int) (deg : Nat) : ∀ (c : Nat) (rest : List Int), (remN p by' deg c rest).length = rest.length
  | 0, _ => rfl
  | c + 1, rest => by rw [remN, remN_len p by' deg c, subT_len]
theorem In.remN {p : Int} (hp : 0 < p) {by' : List Int} {deg : Nat} : ∀ (c : Nat) {rest : List Int}, In p rest → In p (remN p by' deg c rest)
  | 0, _, h => h
  | c + 1, rest, h => In.remN hp c (h.subT hp _ _ _)
/-- the remainder by a polynomial of the degree deg with the highest coefficient 1 -/
def remL (p : Int) (poly by' : List Int) : List Int := (remN p by' (by'.length - 1) (poly.length - (by'.length - 1)) poly).take (by'.length - 1)
theorem In.remL {p : Int} (hp : 0 < p) {poly by' : List Int} (h : In p poly) : In p (remL p poly by') := fun x hx => In.remN hp _ h x (List.mem_of_mem_take hx)

/-- the number with some digits, the lowest one first -/
def numL (base : Int) (xs : List Int) : Int := xs.foldr (fun d n => n * base + d) 0
theorem numL_nonneg {base : Int} (hb : 0 ≤ base) : ∀ {xs : List Int}, (∀ x ∈ xs, 0 ≤ x) → 0 ≤ numL base xs
  | [], _ => by simp [numL]
  | x :: r, h => by
    have h1 := numL_nonneg hb (xs := r) (fun y hy => h y (by simp [hy]))
    have h2 := h x (by simp)
    have h3 := Int.mul_nonneg h1 hb
    show 0 ≤ numL base r * base + x
    omega
theorem numL_lt {base : Int} (hb : 1 ≤ base) : ∀ {xs : List Int}, In base xs → numL base xs < base ^ xs.length
  | [], _ => by simp [numL]
  | x :: r, h => by
    have h1 := numL_lt hb (xs := r) (fun y hy => h y (by simp [hy]))
    have h2 := h x (by simp)
    have h3 := Int.mul_le_mul_of_nonneg_right (show numL base r + 1 ≤ base ^ r.length by omega) (show 0 ≤ base by omega)
    rw [Int.add_mul] at h3
    show numL base r * base + x < base ^ (r.length + 1)
    rw [Int.pow_succ]; omega
def zeroL (xs : List Int) : Bool := xs.all (· == 0)
theorem numL_zero {base : Int} (hb : 1 ≤ base) : ∀ {xs : List Int}, In base xs → (numL base xs = 0 ↔ zeroL xs = true)
  | [], _ => by simp [numL, zeroL]
  | x :: r, h => by
    have h1 := numL_zero hb (xs := r) (fun y hy => h y (by simp [hy]))
    have h0 := numL_nonneg (base := base) (by omega) (xs := r) (fun y hy => (h y (by simp [hy])).1)
    have h2 := h x (by simp)
    have e : numL base (x :: r) = numL base r * base + x := rfl
    have e2 : zeroL (x :: r) = (x == 0 && zeroL r) := rfl
    rw [e, e2, Bool.and_eq_true, beq_iff_eq, ← h1]
    constructor
    · intro h3
      have h4 := Int.mul_nonneg h0 (show 0 ≤ base by omega)
      have h5 : numL base r * base = 0 := by omega
      rcases Int.mul_eq_zero.1 h5 with h6 | h6
      · exact ⟨by omega, h6⟩
      · omega
    · rintro ⟨rfl, h3⟩; rw [h3]; simp

/-! ### sums and products of elements -/
def dgt (base : Int) : Nat → Int → List Int
  | 0, _ => []
  | m + 1, n => n % base :: dgt base m (n / base)
theorem dgt_len (base : Int) : ∀ (m : Nat) (n : Int), (dgt base m n).length = m
  | 0, _ => rfl
  | m + 1, n => by simp [dgt, dgt_len base m]
theorem dgt_in {base : Int} (hb : 0 < base) : ∀ (m : Nat) (n : Int), In base (dgt base m n)
  | 0, _, x, hx => by simp [dgt] at hx
  | m + 1, n, x, hx => by
    rcases List.mem_cons.1 hx with rfl | hx
    · exact ⟨Int.emod_nonneg _ (by omega), Int.emod_lt_of_pos _ hb⟩
    · exact dgt_in hb m _ x hx
theorem numL_dgt {base : Int} (hb : 0 < base) : ∀ (m : Nat) (n : Int), 0 ≤ n → n < base ^ m → numL base (dgt base m n) = n
  | 0, n, h0, h1 => by simp at h1; simp [dgt, numL]; omega
  | m + 1, n, h0, h1 => by
    have h2 : n / base < base ^ m := by
      rw [Int.pow_succ] at h1
      exact Int.ediv_lt_of_lt_mul hb h1
    have ih := numL_dgt hb m (n / base) (Int.ediv_nonneg h0 (by omega)) h2
    show numL base (dgt base m (n / base)) * base + n % base = n
    rw [ih, Int.mul_comm]
    exact Int.mul_ediv_add_emod n base
/-- a + k b -/
def fsum (p : Int) (D : Nat) (a b k : Int) : Int := numL p (tab D fun j => (cf (dgt p D a) j + k * cf (dgt p D b) j) % p)
/-- coefficient t of a product, as far as i places of the first factor are taken -/
def cvl (p : Int) (x y : List Int) (D : Nat) : Nat → Nat → Int
  | 0, _ => 0
  | i + 1, t => if i ≤ t ∧ t < i + D then (cvl p x y D i t + cf x i * cf y (t - i)) % p else cvl p x y D i t
theorem cvl_in {p : Int} (hp : 0 < p) (x y : List Int) (D : Nat) : ∀ (i t : Nat), 0 ≤ cvl p x y D i t ∧ cvl p x y D i t < p
  | 0, t => by simp [cvl]; omega
  | i + 1, t => by
    rw [cvl]
    split
    · exact ⟨Int.emod_nonneg _ (by omega), Int.emod_lt_of_pos _ hp⟩
    · exact cvl_in hp x y D i t
/-- the list, j places of the row i being taken -/
def cvr (p : Int) (x y : List Int) (D n i j : Nat) : List Int := tab n fun t => if t < i + j then cvl p x y D (i + 1) t else cvl p x y D i t
theorem cvr_len (p : Int) (x y : List Int) (D n i j : Nat) : (cvr p x y D n i j).length = n := tab_len _ _
theorem cvr_0 (p : Int) (x y : List Int) (D n i : Nat) : cvr p x y D n i 0 = tab n (cvl p x y D i) := by
  refine tab_congr fun t _ => ?_
  by_cases h : t < i + 0
  · rw [if_pos h, cvl, if_neg (by omega)]
  · rw [if_neg h]
theorem cvr_end (p : Int) (x y : List Int) (D n i : Nat) : cvr p x y D n i D = tab n (cvl p x y D (i + 1)) := by
  refine tab_congr fun t _ => ?_
  by_cases h : t < i + D
  · rw [if_pos h]
  · rw [if_neg h, cvl, if_neg (by omega)]
theorem cvr_step {p : Int} {x y : List Int} {D n i j : Nat} (hj : j < D) (hn : i + j < n) :
    (cvr p x y D n i j).set (i + j) ((cf (cvr p x y D n i j) (i + j) + cf x i * cf y j) % p) = cvr p x y D n i (j + 1) := by
  refine cf_ext (by simp [cvr_len]) fun t ht => ?_
  rw [List.length_set, cvr_len] at ht
  unfold cvr
  rw [cf_set (by rw [tab_len]; exact hn), cf_tab ht, cf_tab ht, cf_tab hn, if_neg (show ¬ i + j < i + j by omega)]
  by_cases e : i + j = t
  · subst e
    rw [if_pos rfl, if_pos (by omega), cvl, if_pos (by omega), show i + j - i = j by omega]
  · rw [if_neg e]
    by_cases h1 : t < i + j
    · rw [if_pos h1, if_pos (by omega)]
    · rw [if_neg h1, if_neg (by omega)]
theorem cvl_0 (p : Int) (x y : List Int) (D n : Nat) : tab n (cvl p x y D 0) = List.replicate n 0 := by
  apply List.ext_getElem
  · simp [tab]
  · intro i h1 h2; simp [tab, cvl]

/-- the product of two elements -/
def fmul (p : Int) (D : Nat) (poly : List Int) (a b : Int) : Int := numL p (remL p (tab (2 * D - 1) (cvl p (dgt p D a) (dgt p D b) D D)) poly)
/-- no polynomial of a lesser degree divides it -/
def irrB (p : Int) (poly : List Int) : Bool := (List.range ((poly.length - 1) / 2)).all fun i => (List.range (p ^ (i + 1)).toNat).all fun n => !zeroL (remL p poly (dgt p (i + 1) n ++ [1]))

/-! ### which fields there are -/
/-- a prime of at most 64 -/
def prS (p : Nat) : Bool := decide (2 ≤ p) && (List.range 8).all fun d => decide (d < 2) || decide (p < d * d) || decide (p % d ≠ 0)
/-- the least divisor from d on -/
def lfac (q : Nat) : Nat → Nat → Nat
  | 0, d => d
  | f + 1, d => if q % d = 0 then d else lfac q f (d + 1)
/-- how often p divides, or 0 -/
def plog (p : Nat) : Nat → Nat → Nat → Option Nat
  | 0, _, _ => none
  | f + 1, n, k => if 1 < n then (if n % p = 0 then plog p f (n / p) (k + 1) else none) else some k
/-- the prime and the exponent of a prime power -/
def spl (q : Nat) : Nat × Nat := match plog (lfac q 64 2) 64 q 0 with | some k => (lfac q 64 2, k) | none => (0, 0)
theorem spl_check : ((List.range 65).all fun q => decide (q < 2) || (List.range 65).all fun p => decide (p < 2) || (List.range 7).all fun d => decide (d < 1) || decide (p ^ d ≠ q) || ((spl q).1 == p) == prS p) = true := by decide +kernel
theorem spl_ok {p d : Nat} (hp : 2 ≤ p) (hp2 : p ≤ 64) (hd : 1 ≤ d) (hd2 : d ≤ 6) (hq : p ^ d ≤ 64) : ((spl (p ^ d)).1 = p ↔ prS p = true) := by
  have h := spl_check
  have h2 : 2 ≤ p ^ d := Nat.le_trans hp (Nat.le_self_pow (by omega) p)
  rw [List.all_eq_true] at h
  have h := h (p ^ d) (List.mem_range.2 (by omega))
  have e1 : decide (p ^ d < 2) = false := decide_eq_false (by omega)
  rw [e1, Bool.false_or, List.all_eq_true] at h
  have h := h p (List.mem_range.2 (by omega))
  have e2 : decide (p < 2) = false := decide_eq_false (by omega)
  rw [e2, Bool.false_or, List.all_eq_true] at h
  have h := h d (List.mem_range.2 (by omega))
  have e3 : decide (d < 1) = false := decide_eq_false (by omega)
  have e4 : decide (p ^ d ≠ p ^ d) = false := decide_eq_false (by simp)
  rw [e3, e4, Bool.false_or, Bool.false_or, beq_iff_eq] at h
  rw [← h]; simp

/-- the factors of n from p on -/
def fac : Nat → Int → Int → List Int
  | 0, _, _ => []
  | f + 1, p, n => if p * p ≤ n then (if n % p = 0 then p :: fac f p (n / p) else fac f (p + 1) n) else if 1 < n then [n] else []

def Pr (n : Int) : Prop := 2 ≤ n ∧ ∀ d, 2 ≤ d → d * d ≤ n → n % d ≠ 0

theorem sq_lt {d p n : Int} (h : d * d ≤ n) (h' : n < p * p) (hp : 0 ≤ p) : d < p := by
  apply Int.lt_of_not_ge
  intro hge
  have := Int.mul_le_mul hge hge hp (by omega)
  omega

theorem sq_ge {p n : Int} (hp : 1 ≤ p) (h : p * p ≤ n) : p ≤ n := by
  have := Int.mul_le_mul_of_nonneg_left hp (show 0 ≤ p by omega)
  omega

theorem div_step {p n : Int} (hp : 2 ≤ p) (hn : 1 ≤ n) (h0 : n % p = 0) : 1 ≤ n / p ∧ 2 * (n / p) ≤ n ∧ p * (n / p) = n := by
  have h1 : p * (n / p) = n := Int.mul_ediv_cancel' (Int.dvd_of_emod_eq_zero h0)
  have h2 : 1 ≤ n / p := by
    apply Int.le_of_not_gt; intro h
    have h3 : n / p ≤ 0 := by omega
    have := Int.mul_nonpos_of_nonneg_of_nonpos (show 0 ≤ p by omega) h3
    omega
  have h3 := Int.mul_le_mul_of_nonneg_right hp (show 0 ≤ n / p by omega)
  exact ⟨h2, by omega, h1⟩

/-- no number from 2 to below p divides n -/
def Low (p n : Int) : Prop := ∀ d, 2 ≤ d → d < p → n % d ≠ 0

theorem mod_of_dvd {a b c : Int} (h1 : b % a = 0) (h2 : c % b = 0) : c % a = 0 :=
  Int.emod_eq_zero_of_dvd (Int.dvd_trans (Int.dvd_of_emod_eq_zero h1) (Int.dvd_of_emod_eq_zero h2))

theorem Low.next {p n : Int} (h : Low p n) (h0 : n % p ≠ 0) : Low (p + 1) n := fun d h2 hd => by
  by_cases e : d = p
  · subst e; exact h0
  · exact h d h2 (by omega)
theorem Low.div {p n : Int} (h : Low p n) (hp : 2 ≤ p) (hn : 1 ≤ n) (h0 : n % p = 0) : Low p (n / p) := fun d h2 hd e => by
  obtain ⟨_, _, h3⟩ := div_step hp hn h0
  have : n % d = 0 := by
    rw [← h3]
    exact Int.emod_eq_zero_of_dvd (Int.dvd_trans (Int.dvd_of_emod_eq_zero e) (Int.dvd_mul_left _ _))
  exact h d h2 hd this
theorem Low.pr {p n : Int} (h : Low p n) (hp : 2 ≤ p) (h0 : n % p = 0) : Pr p := ⟨hp, fun d h2 hd e => by
  have : d < p := by have := Int.mul_le_mul_of_nonneg_left h2 (show 0 ≤ d by omega); omega
  exact h d h2 this (mod_of_dvd e h0)⟩
theorem Low.big {p n : Int} (h : Low p n) (hp : 2 ≤ p) (hn : 1 < n) (hb : n < p * p) : Pr n := ⟨by omega, fun d h2 hd e => h d h2 (sq_lt hd hb (by omega)) e⟩
theorem Low.ge {p n : Int} (h : Low p n) (hn : 1 < n) : p ≤ n := by
  apply Int.le_of_not_gt; intro hlt
  exact h n (by omega) hlt (Int.emod_self)
theorem low2 (n : Int) : Low 2 n := fun d h2 hd => by omega

def prod (xs : List Int) : Int := xs.foldr (· * ·) 1

/-- each is at least the one before it, and at least p -/
def Up (p : Int) : List Int → Prop
  | [] => True
  | x :: xs => p ≤ x ∧ Up x xs

theorem Up.mono {p q : Int} {xs : List Int} (h : Up p xs) (hq : q ≤ p) : Up q xs := by
  cases xs with
  | nil => trivial
  | cons x xs => exact ⟨by have := h.1; omega, h.2⟩

theorem fac_ok : ∀ (f : Nat) (p n : Int), 2 ≤ p → 1 ≤ n → 2 * n + 2 - p < f → Low p n → p ≤ 2 * n + 1 →
    (∀ x ∈ fac f p n, Pr x) ∧ Up p (fac f p n) ∧ prod (fac f p n) = n
  | 0, p, n, hp, hn, hf, hl, hb => by omega
  | f + 1, p, n, hp, hn, hf, hl, hb => by
    unfold fac
    split
    · rename_i h
      have hpn := sq_ge (by omega) h
      split
      · rename_i h0
        obtain ⟨d1, d2, d3⟩ := div_step hp hn h0
        have hge : p ≤ n / p := by
          apply Int.le_of_not_gt; intro hlt
          have h1 : p * (n / p) ≤ p * (p - 1) := Int.mul_le_mul_of_nonneg_left (by omega) (by omega)
          rw [d3, Int.mul_sub] at h1; omega
        obtain ⟨i1, i2, i3⟩ := fac_ok f p (n / p) hp d1 (by omega) (hl.div hp hn h0) (by omega)
        refine ⟨?_, ⟨Int.le_refl _, i2⟩, ?_⟩
        · intro x hx
          rcases List.mem_cons.1 hx with rfl | hx
          · exact hl.pr hp h0
          · exact i1 x hx
        · simp only [prod, List.foldr_cons] at i3 ⊢
          rw [i3, d3]
      · rename_i h0
        obtain ⟨i1, i2, i3⟩ := fac_ok f (p + 1) n (by omega) hn (by omega) (hl.next h0) (by omega)
        exact ⟨i1, i2.mono (by omega), i3⟩
    · rename_i h
      split
      · rename_i h1
        refine ⟨?_, ⟨hl.ge h1, trivial⟩, by simp [prod]⟩
        intro x hx
        simp at hx; subst hx
        exact hl.big hp h1 (by omega)
      · refine ⟨by simp, trivial, ?_⟩
        simp [prod]; omega

/-- what FactorsOf returns -/
def factors (n : Int) : List Int := if 1 ≤ n ∧ n ≤ 1000000 then fac 2000005 2 n else []

theorem factors_ok {n : Int} (h : 1 ≤ n ∧ n ≤ 1000000) : (∀ x ∈ factors n, Pr x) ∧ Up 2 (factors n) ∧ prod (factors n) = n := by
  unfold factors; rw [if_pos h]
  exact fac_ok _ _ _ (by omega) h.1 (by omega) (low2 n) (by omega)

theorem prod_ge : ∀ (xs : List Int), (∀ x ∈ xs, Pr x) → 1 ≤ prod xs
  | [], _ => by simp [prod]
  | x :: xs, h => by
    have h1 := (h x (by simp)).1
    have h2 := prod_ge xs (fun y hy => h y (by simp [hy]))
    have := Int.mul_le_mul h1 h2 (by omega) (by omega)
    simp only [prod, List.foldr_cons] at this ⊢
    omega

theorem not_pr_mul {a b : Int} (ha : 2 ≤ a) (hb : 2 ≤ b) : ¬ Pr (a * b) := by
  intro h
  rcases Int.le_total a b with hab | hab
  · exact h.2 a ha (Int.mul_le_mul_of_nonneg_left hab (by omega)) (Int.mul_emod_right a b)
  · exact h.2 b hb (Int.mul_le_mul_of_nonneg_right hab (by omega)) (Int.mul_emod_left a b)

theorem len_one {n : Int} (h : 1 ≤ n ∧ n ≤ 1000000) : (factors n).length = 1 ↔ Pr n := by
  obtain ⟨h1, _, h3⟩ := factors_ok h
  generalize factors n = xs at *
  constructor
  · intro hl
    obtain ⟨x, rfl⟩ := List.length_eq_one_iff.1 hl
    simp [prod] at h3; subst h3
    exact h1 x (by simp)
  · intro hp
    match xs, h1, h3 with
    | [], _, h3 => simp [prod] at h3; have := hp.1; omega
    | [x], _, _ => rfl
    | x :: y :: zs, h1, h3 =>
      exfalso
      have hx := (h1 x (by simp)).1
      have h4 : 2 ≤ prod (y :: zs) := by
        have hy := (h1 y (by simp)).1
        have h5 := prod_ge zs (fun z hz => h1 z (by simp [hz]))
        have := Int.mul_le_mul hy h5 (by omega) (by omega)
        simp only [prod, List.foldr_cons] at this ⊢; omega
      have : n = x * prod (y :: zs) := by rw [← h3]; rfl
      rw [this] at hp
      exact not_pr_mul hx h4 hp

/-- is it prime: as the program has it -/
def isPr (n : Int) : Bool := (factors n).length == 1
theorem isPr_iff {n : Int} (h : 1 ≤ n ∧ n ≤ 1000000) : isPr n = true ↔ Pr n := by
  unfold isPr; rw [beq_iff_eq]; exact len_one h

theorem pow_ge {p : Int} (hp : 2 ≤ p) : ∀ m : Nat, (m : Int) + 1 ≤ p ^ m
  | 0 => by simp
  | m + 1 => by
    have := pow_ge hp m
    rw [Int.pow_succ]
    have h2 := Int.mul_le_mul this hp (by omega) (by omega)
    push_cast; omega
theorem pow_ge2 {p : Int} (hp : 2 ≤ p) : ∀ m : Nat, (2 : Int) ^ m ≤ p ^ m
  | 0 => by simp
  | m + 1 => by
    have := pow_ge2 hp m
    have h0 := pow_ge hp m
    rw [Int.pow_succ, Int.pow_succ]
    exact Int.mul_le_mul this hp (by omega) (by omega)
theorem pow_small {p : Int} (hp : 2 ≤ p) {m : Nat} (h : p ^ m ≤ 64) : m ≤ 6 := by
  apply Classical.byContradiction; intro hn
  have h1 := pow_ge2 hp m
  have h2 : (2 : Int) ^ 7 ≤ 2 ^ m := by
    obtain ⟨k, rfl⟩ := Nat.exists_eq_add_of_le (show 7 ≤ m by omega)
    rw [Int.pow_add]
    have := pow_ge (p := 2) (by omega) k
    have := Int.mul_le_mul_of_nonneg_left (show 1 ≤ (2 : Int) ^ k by omega) (show (0 : Int) ≤ 2 ^ 7 by decide)
    omega
  have : (2 : Int) ^ 7 = 128 := by decide
  omega
/-- what a valid field is -/
structure FV (p d : Int) (xs : List Int) : Prop where
  pr : isPr p = true
  p2 : 2 ≤ p
  p64 : p ≤ 64
  d1 : 1 ≤ d
  d6 : d ≤ 6
  q : p ^ d.toNat ≤ 64
  len : (xs.length : Int) = d + 1
  top : cf xs d.toNat = 1
  inp : In p xs
  irr : irrB p xs = true
theorem prS_iff {p : Nat} (h : p ≤ 64) : prS p = true ↔ Pr p := by
  simp only [prS, Bool.and_eq_true, decide_eq_true_eq, List.all_eq_true, List.mem_range, Bool.or_eq_true, Pr]
  constructor
  · rintro ⟨h1, h2⟩
    refine ⟨by omega, fun d d2 dd e => ?_⟩
    obtain ⟨d, rfl⟩ := Int.eq_ofNat_of_zero_le (show 0 ≤ d by omega)
    have d8 : d ≤ 8 := by
      apply Classical.byContradiction; intro hn
      have := Int.mul_le_mul (show (9 : Int) ≤ d by omega) (show (9 : Int) ≤ d by omega) (by omega) (by omega)
      omega
    have dd' : d * d ≤ p := by have : ((d * d : Nat) : Int) ≤ p := by push_cast; exact dd
                               omega
    have e' : p % d = 0 := by exact_mod_cast e
    by_cases d7 : d < 8
    · rcases h2 d d7 with (h3 | h3) | h3
      · omega
      · omega
      · exact h3 e'
    · have hd8 : d = 8 := by omega
      subst hd8
      have hp64 : p = 64 := by omega
      subst hp64
      rcases h2 2 (by omega) with (h3 | h3) | h3
      · omega
      · omega
      · exact h3 (by decide)
  · rintro ⟨h1, h2⟩
    refine ⟨by omega, fun d _ => ?_⟩
    by_cases h3 : d < 2
    · exact .inl (.inl h3)
    · by_cases h4 : p < d * d
      · exact .inl (.inr h4)
      · refine .inr fun e => ?_
        exact h2 d (by omega) (by have : ((d * d : Nat) : Int) ≤ p := by omega
                                  push_cast at this; exact this) (by exact_mod_cast e)
/-- a prime power is split by its prime -/
theorem split_ok {p d : Int} (p2 : 2 ≤ p) (p64 : p ≤ 64) (d1 : 1 ≤ d) (d6 : d ≤ 6) (hq : p ^ d.toNat ≤ 64) : ((((spl (p ^ d.toNat).toNat).1 : Nat) : Int) = p) ↔ isPr p = true := by
  obtain ⟨P, rfl⟩ := Int.eq_ofNat_of_zero_le (show 0 ≤ p by omega)
  have e : ((P : Int) ^ d.toNat).toNat = P ^ d.toNat := by rw [← Int.natCast_pow, Int.toNat_natCast]
  rw [e]
  have hq' : P ^ d.toNat ≤ 64 := by have : ((P ^ d.toNat : Nat) : Int) ≤ 64 := by rw [Int.natCast_pow]; exact hq
                                    omega
  rw [isPr_iff (by omega), ← prS_iff (by omega), ← spl_ok (by omega) (by omega) (by omega) (by omega) hq']
  omega

/-- the first number from n on whose digits are an irreducible polynomial -/
def irn (p : Int) (D : Nat) : Nat → Nat → Nat
  | 0, n => n
  | f + 1, n => if irrB p (dgt p D n ++ [1]) = true then n else irn p D f (n + 1)
def mkN (q : Nat) : Nat := irn ((spl q).1 : Nat) (spl q).2 64 0
def mkF (q : Nat) : List Int := dgt ((spl q).1 : Nat) (spl q).2 (mkN q) ++ [1]
def mkOk (q : Int) : Bool := decide (2 ≤ q) && decide (q ≤ 64) && ((spl q.toNat).1 != 0)
theorem mk_check : ((List.range 65).all fun q => (spl q).1 == 0 || decide (q < 2) || (decide (2 ≤ (spl q).1) && decide (1 ≤ (spl q).2) && ((spl q).1 ^ (spl q).2 == q) && decide (mkN q ≤ 63) && irrB ((spl q).1 : Nat) (mkF q))) = true := by decide +kernel
structure MK (q : Nat) : Prop where
  p2 : 2 ≤ (spl q).1
  d1 : 1 ≤ (spl q).2
  pw : (spl q).1 ^ (spl q).2 = q
  n63 : mkN q ≤ 63
  irr : irrB ((spl q).1 : Nat) (mkF q) = true
theorem mk_of {q : Nat} (h2 : 2 ≤ q) (h64 : q ≤ 64) (h0 : (spl q).1 ≠ 0) : MK q := by
  have := List.all_eq_true.1 mk_check q (List.mem_range.2 (by omega))
  simp only [Bool.or_eq_true, Bool.and_eq_true, beq_iff_eq, decide_eq_true_eq] at this
  rcases this with (h | h) | ⟨⟨⟨⟨a, b⟩, c⟩, d⟩, e⟩
  · exact absurd h h0
  · omega
  · exact ⟨a, b, c, d, e⟩
theorem MK.fv {q : Nat} (h : MK q) (h64 : q ≤ 64) : FV ((spl q).1 : Nat) ((spl q).2 : Nat) (mkF q) := by
  have hp64 : (spl q).1 ≤ 64 := by
    have := Nat.pow_le_pow_right (n := (spl q).1) (by have := h.p2; omega) h.d1
    rw [h.pw] at this; simp at this; omega
  have hq : (((spl q).1 : Nat) : Int) ^ (((spl q).2 : Nat) : Int).toNat ≤ 64 := by
    rw [Int.toNat_natCast, ← Int.natCast_pow, h.pw]; omega
  have hd6 := pow_small (p := ((spl q).1 : Nat)) (by have := h.p2; omega) hq
  rw [Int.toNat_natCast] at hd6
  have hin : In (((spl q).1 : Nat) : Int) (mkF q) := fun x hx => by
    have hp2 := h.p2
    rcases List.mem_append.1 hx with hx | hx
    · exact dgt_in (by omega) _ _ x hx
    · simp at hx; subst hx; omega
  refine ⟨?_, by have := h.p2; omega, by omega, by have := h.d1; omega, by omega, hq, by simp [mkF, dgt_len], ?_, hin, h.irr⟩
  · rw [← split_ok (p := ((spl q).1 : Nat)) (d := ((spl q).2 : Nat)) (by have := h.p2; omega) (by omega) (by have := h.d1; omega) (by omega) hq, Int.toNat_natCast, ← Int.natCast_pow, Int.toNat_natCast, h.pw]
  · rw [Int.toNat_natCast, mkF, cf_appR (by rw [dgt_len])]
/-- the search -/
theorem irn_hit {p : Int} {D f n : Nat} (h : irrB p (dgt p D n ++ [1]) = true) : irn p D f n = n := by
  cases f with
  | zero => rfl
  | succ f => rw [irn, if_pos h]
theorem irn_next {p : Int} {D f n : Nat} (h : irrB p (dgt p D n ++ [1]) = false) (hN : irrB p (dgt p D (irn p D f n) ++ [1]) = true) : ∃ f', f = f' + 1 ∧ irn p D f n = irn p D f' (n + 1) := by
  cases f with
  | zero => rw [irn, h] at hN; cases hN
  | succ f => exact ⟨f, rfl, by rw [irn, if_neg (by rw [h]; simp)]⟩
end Go.Proofs.YtljemlfocajhnaaGreat
end

section
/- Finite sums, powers of X modulo a polynomial, in plain terms. The laws of a finite field, in plain terms. Every field has an element whose powers are all elements but 0. The number of elements of a field, and inverses by trial. -/
namespace Go.Proofs.YtljemlfocajhnaaGreat
set_option linter.unusedSimpArgs false
set_option linter.unusedVariables false

/-- f 0 + .. + f (n - 1) -/
def sm : Nat → (Nat → Int) → Int
  | 0, _ => 0
  | n + 1, f => sm n f + f n
theorem sm_congr {n : Nat} {f g : Nat → Int} (h : ∀ i, i < n → f i = g i) : sm n f = sm n g := by
  induction n with
  | zero => rfl
  | succ n ih => rw [sm, sm, ih (fun i hi => h i (by omega)), h n (by omega)]
theorem sm_add (n : Nat) (f g : Nat → Int) : sm n (fun i => f i + g i) = sm n f + sm n g := by
  induction n with
  | zero => rfl
  | succ n ih => rw [sm, sm, sm, ih]; omega
theorem sm_mul (n : Nat) (c : Int) (f : Nat → Int) : sm n (fun i => c * f i) = c * sm n f := by
  induction n with
  | zero => simp [sm]
  | succ n ih => rw [sm, sm, ih, Int.mul_add]
theorem sm_mulR (n : Nat) (c : Int) (f : Nat → Int) : sm n (fun i => f i * c) = sm n f * c := by
  rw [Int.mul_comm, ← sm_mul]; exact sm_congr fun i _ => Int.mul_comm _ _
theorem sm_zero {n : Nat} {f : Nat → Int} (h : ∀ i, i < n → f i = 0) : sm n f = 0 := by
  induction n with
  | zero => rfl
  | succ n ih => rw [sm, ih (fun i hi => h i (by omega)), h n (by omega)]; rfl
theorem sm_swap (n m : Nat) (f : Nat → Nat → Int) : sm n (fun i => sm m (f i)) = sm m (fun j => sm n fun i => f i j) := by
  induction n with
  | zero => rw [sm]; exact (sm_zero fun _ _ => rfl).symm
  | succ n ih => rw [sm, ih]; exact (sm_add m (fun j => sm n fun i => f i j) (f n)).symm
theorem sm_head (n : Nat) (f : Nat → Int) : sm (n + 1) f = f 0 + sm n (fun i => f (i + 1)) := by
  induction n with
  | zero => simp [sm]
  | succ n ih => rw [sm, ih, sm]; omega
theorem sm_single {n k : Nat} {f : Nat → Int} (hk : k < n) (h : ∀ i, i < n → i ≠ k → f i = 0) : sm n f = f k := by
  induction n with
  | zero => omega
  | succ n ih =>
    rw [sm]
    by_cases e : k = n
    · subst e; rw [sm_zero (fun i hi => h i (by omega) (by omega))]; omega
    · rw [ih (by omega) (fun i hi => h i (by omega)), h n (by omega) (by omega)]; omega
theorem sm_more {n m : Nat} {f : Nat → Int} (h : n ≤ m) (hz : ∀ i, n ≤ i → i < m → f i = 0) : sm m f = sm n f := by
  induction m with
  | zero => obtain rfl : n = 0 := by omega
            rfl
  | succ m ih =>
    by_cases e : n = m + 1
    · rw [e]
    · rw [sm, ih (by omega) (fun i h1 h2 => hz i h1 (by omega)), hz m (by omega) (by omega)]; omega
theorem sm_split (n m : Nat) (f : Nat → Int) : sm (n + m) f = sm n f + sm m (fun i => f (n + i)) := by
  induction m with
  | zero => simp [sm]
  | succ m ih => rw [← Nat.add_assoc, sm, ih, sm]; omega
/-- a sum over a window -/
theorem sm_win {n c m : Nat} {g : Nat → Int} (h : c + m ≤ n) : sm n (fun t => if c ≤ t ∧ t < c + m then g t else 0) = sm m (fun j => g (c + j)) := by
  rw [sm_more h (fun i h1 _ => if_neg (by omega)), sm_split, sm_zero (fun i hi => if_neg (by omega)), Int.zero_add]
  exact sm_congr fun i hi => if_pos (by omega)
theorem sm_mod {p : Int} {n : Nat} {f g : Nat → Int} (h : ∀ i, i < n → f i % p = g i % p) : sm n f % p = sm n g % p := by
  induction n with
  | zero => rfl
  | succ n ih => rw [sm, sm, Int.add_emod, ih (fun i hi => h i (by omega)), h n (by omega), ← Int.add_emod]
theorem mul_mod {p a b c d : Int} (h : a % p = b % p) (h' : c % p = d % p) : (a * c) % p = (b * d) % p := by
  rw [Int.mul_emod, h, h', ← Int.mul_emod]
theorem add_mod {p a b c d : Int} (h : a % p = b % p) (h' : c % p = d % p) : (a + c) % p = (b + d) % p := by
  rw [Int.add_emod, h, h', ← Int.add_emod]
theorem mod_mod {p a : Int} : a % p % p = a % p := Int.emod_emod_of_dvd _ (Int.dvd_refl _)

/-- coefficient j of X^t modulo a polynomial of degree D with the highest coefficient 1 -/
def rx (fs : List Int) (D : Nat) : Nat → Nat → Int
  | 0, j => if j = 0 then 1 else 0
  | t + 1, j => (if j = 0 then 0 else rx fs D t (j - 1)) - rx fs D t (D - 1) * cf fs j
theorem rx_low {fs : List Int} {D : Nat} : ∀ {t j : Nat}, t < D → j < D → rx fs D t j = if t = j then 1 else 0
  | 0, j, _, _ => by rw [rx]; by_cases h : j = 0 <;> simp [h]; omega
  | t + 1, j, ht, hj => by
    rw [rx, rx_low (t := t) (j := D - 1) (by omega) (by omega), if_neg (show ¬ t = D - 1 by omega)]
    by_cases h : j = 0
    · subst h; simp
    · rw [if_neg h, rx_low (t := t) (by omega) (by omega)]
      by_cases e : t + 1 = j
      · rw [if_pos (by omega), if_pos e]; omega
      · rw [if_neg (by omega), if_neg e]; omega
/-- the polynomial itself is 0 -/
theorem rx_top {fs : List Int} {D : Nat} (hD : 1 ≤ D) : ∀ (s : Nat) {i : Nat}, i < D → sm D (fun j => cf fs j * rx fs D (s + j) i) + rx fs D (s + D) i = 0
  | 0, i, hi => by
    rw [sm_single (k := i) hi (fun j hj hne => by rw [Nat.zero_add, rx_low hj hi, if_neg hne, Int.mul_zero]), Nat.zero_add, Nat.zero_add, rx_low hi hi, if_pos rfl]
    obtain ⟨k, rfl⟩ := Nat.exists_eq_add_of_le' hD
    rw [rx, show k + 1 - 1 = k by omega, rx_low (t := k) (j := k) (by omega) (by omega), if_pos rfl]
    by_cases h : i = 0
    · subst h; simp; omega
    · rw [if_neg h, rx_low (t := k) (by omega) (by omega), if_neg (show ¬ k = i - 1 by omega)]; omega
  | s + 1, i, hi => by
    have h1 := rx_top (fs := fs) hD s (i := D - 1) (by omega)
    have e : ∀ m, s + 1 + m = s + m + 1 := fun m => by omega
    have h3 : sm D (fun j => cf fs j * rx fs D (s + 1 + j) i) = (if i = 0 then 0 else sm D (fun j => cf fs j * rx fs D (s + j) (i - 1))) - sm D (fun j => cf fs j * rx fs D (s + j) (D - 1)) * cf fs i := by
      have h4 : sm D (fun j => cf fs j * rx fs D (s + 1 + j) i) = sm D (fun j => (cf fs j * (if i = 0 then 0 else rx fs D (s + j) (i - 1))) + (-(cf fs i)) * (cf fs j * rx fs D (s + j) (D - 1))) :=
        sm_congr fun j _ => by rw [e, rx]; generalize (if i = 0 then 0 else rx fs D (s + j) (i - 1)) = A; grind
      rw [h4, sm_add, sm_mul]
      by_cases h : i = 0
      · simp only [if_pos h, Int.mul_zero]
        rw [sm_zero (fun _ _ => rfl)]; grind
      · simp only [if_neg h]; grind
    rw [h3, e, rx]
    by_cases h : i = 0
    · rw [if_pos h, if_pos h]; grind
    · have h2 := rx_top (fs := fs) hD s (i := i - 1) (by omega)
      rw [if_neg h, if_neg h]; grind
/-- coefficient i of a polynomial, modulo -/
def ev (fs : List Int) (D n : Nat) (g : Nat → Int) (i : Nat) : Int := sm n fun t => g t * rx fs D t i
theorem ev_low {fs : List Int} {D n : Nat} {g : Nat → Int} {i : Nat} (hi : i < D) (hn : D ≤ n) (hz : ∀ t, D ≤ t → t < n → g t = 0) : ev fs D n g i = g i := by
  unfold ev
  rw [sm_single (k := i) (by omega) (fun t ht hne => ?_), rx_low hi hi, if_pos rfl, Int.mul_one]
  by_cases h : t < D
  · rw [rx_low h hi, if_neg hne, Int.mul_zero]
  · rw [hz t (by omega) ht, Int.zero_mul]
/-- a step of the division leaves the value -/
theorem ev_sub {p : Int} {fs rest : List Int} {D c : Nat} {f : Int} (hD : 1 ≤ D) (h1 : cf fs D = 1) (hc : c + (D + 1) ≤ rest.length) {i : Nat} (hi : i < D) :
    ev fs D rest.length (cf (subT p rest fs c f (D + 1))) i % p = ev fs D rest.length (cf rest) i % p := by
  have h2 : ∀ t, t < rest.length → (cf (subT p rest fs c f (D + 1)) t * rx fs D t i) % p = (cf rest t * rx fs D t i + (-f) * (if c ≤ t ∧ t < c + (D + 1) then cf fs (t - c) * rx fs D t i else 0)) % p := by
    intro t ht
    rw [cf_subT ht]
    split
    · rw [Int.mul_emod, mod_mod, ← Int.mul_emod]
      congr 1; grind
    · congr 1; grind
  unfold ev
  rw [sm_mod h2, sm_add, sm_mul, sm_win (g := fun t => cf fs (t - c) * rx fs D t i) hc]
  have h3 := rx_top (fs := fs) hD c hi
  have h4 : sm (D + 1) (fun j => cf fs (c + j - c) * rx fs D (c + j) i) = 0 := by
    rw [sm, Nat.add_sub_cancel_left, h1, Int.one_mul, ← h3]
    congr 1
    exact sm_congr fun j _ => by rw [Nat.add_sub_cancel_left]
  rw [h4]
  congr 1; omega
theorem ev_rem {p : Int} {fs : List Int} {D : Nat} (hD : 1 ≤ D) (h1 : cf fs D = 1) {i : Nat} (hi : i < D) : ∀ (c : Nat) {rest : List Int}, D + c ≤ rest.length →
    ev fs D rest.length (cf (remN p fs D c rest)) i % p = ev fs D rest.length (cf rest) i % p
  | 0, _, _ => rfl
  | c + 1, rest, h => by
    rw [remN]
    have h2 := ev_rem (p := p) hD h1 hi c (rest := subT p rest fs c (cf rest (D + c)) (D + 1)) (by rw [subT_len]; omega)
    rw [subT_len] at h2
    rw [h2, ev_sub hD h1 (by omega) hi]
theorem rem_top {p : Int} {fs : List Int} {D : Nat} (h1 : cf fs D = 1) : ∀ (c : Nat) {rest : List Int}, D + c ≤ rest.length → (∀ t, D + c ≤ t → t < rest.length → cf rest t = 0) →
    ∀ t, D ≤ t → t < rest.length → cf (remN p fs D c rest) t = 0
  | 0, _, _, hz => hz
  | c + 1, rest, h, hz => by
    rw [remN]
    have h2 := rem_top (p := p) h1 c (rest := subT p rest fs c (cf rest (D + c)) (D + 1)) (by rw [subT_len]; omega) (fun t ht hl => by
      rw [subT_len] at hl
      rw [cf_subT hl]
      by_cases e : t = D + c
      · subst e
        rw [if_pos (by omega), show D + c - c = D by omega, h1]; simp
      · rw [if_neg (by omega)]; exact hz t (by omega) hl)
    rw [subT_len] at h2; exact h2
/-- the remainder's coefficients -/
theorem cf_remL {p : Int} (hp : 0 < p) {fs P : List Int} {D : Nat} (hD : 1 ≤ D) (hl : fs.length = D + 1) (h1 : cf fs D = 1) (hP : In p P) (hPl : D ≤ P.length) {i : Nat} (hi : i < D) :
    cf (remL p P fs) i = ev fs D P.length (cf P) i % p := by
  have h2 := ev_rem (p := p) hD h1 hi (P.length - D) (rest := P) (by omega)
  have h3 := rem_top (p := p) h1 (P.length - D) (rest := P) (by omega) (fun t ht hl => by omega)
  rw [ev_low hi hPl h3] at h2
  have h4 := (In.remN hp (by' := fs) (deg := D) (P.length - D) hP).cf hp i
  rw [Int.emod_eq_of_lt h4.1 h4.2] at h2
  rw [← h2]
  unfold remL
  rw [show fs.length - 1 = D by omega]
  generalize remN p fs D (P.length - D) P = Y at *
  unfold cf
  rw [List.getD_eq_getElem?_getD, List.getElem?_take, if_pos hi, List.getD_eq_getElem?_getD]
theorem remL_len2 {p : Int} {fs P : List Int} {D : Nat} (hl : fs.length = D + 1) (hPl : D ≤ P.length) : (remL p P fs).length = D := by
  unfold remL
  rw [List.length_take, remN_len, hl]; omega

/-- a product's coefficient, as far as i places of the first factor are taken, as a sum -/
theorem cvl_sm {p : Int} (x y : List Int) (D t : Nat) : ∀ i : Nat, cvl p x y D i t % p = sm i (fun u => if u ≤ t ∧ t < u + D then cf x u * cf y (t - u) else 0) % p
  | 0 => rfl
  | i + 1 => by
    rw [cvl, sm]
    split
    · rw [mod_mod]; exact add_mod (cvl_sm x y D t i) rfl
    · rw [Int.add_zero]; exact cvl_sm x y D t i
/-- a product of lists of coefficients -/
def bil (fs : List Int) (D : Nat) (x y : Nat → Int) (i : Nat) : Int := sm D fun u => sm D fun k => x u * y k * rx fs D (u + k) i
theorem ev_cvl {p : Int} {fs : List Int} {D : Nat} (x y : List Int) (i : Nat) :
    ev fs D (2 * D - 1) (cvl p x y D D) i % p = bil fs D (cf x) (cf y) i % p := by
  have h1 : ev fs D (2 * D - 1) (cvl p x y D D) i % p = sm (2 * D - 1) (fun t => sm D fun u => if u ≤ t ∧ t < u + D then cf x u * cf y (t - u) * rx fs D t i else 0) % p := by
    unfold ev
    refine sm_mod fun t _ => ?_
    rw [mul_mod (cvl_sm x y D t D) rfl, ← sm_mulR]
    congr 1
    refine sm_congr fun u _ => ?_
    split
    · rfl
    · rw [Int.zero_mul]
  rw [h1, sm_swap]
  unfold bil
  congr 1
  refine sm_congr fun u hu => ?_
  rw [sm_win (g := fun t => cf x u * cf y (t - u) * rx fs D t i) (by omega)]
  exact sm_congr fun k _ => by rw [Nat.add_sub_cancel_left]

theorem dgt_numL {p : Int} (hp : 0 < p) : ∀ {xs : List Int}, In p xs → dgt p xs.length (numL p xs) = xs
  | [], _ => rfl
  | x :: r, h => by
    have h2 := h x (by simp)
    have e : numL p (x :: r) = numL p r * p + x := rfl
    rw [List.length_cons, dgt, e, Int.add_comm, Int.add_mul_emod_self_right, Int.emod_eq_of_lt h2.1 h2.2, Int.add_mul_ediv_right _ _ (by omega), Int.ediv_eq_zero_of_lt h2.1 h2.2, Int.zero_add, dgt_numL hp (fun y hy => h y (by simp [hy]))]
theorem dgt_num {p : Int} (hp : 0 < p) {D : Nat} {xs : List Int} (hl : xs.length = D) (h : In p xs) : dgt p D (numL p xs) = xs := by
  subst hl; exact dgt_numL hp h

/-- what the laws of a field need of it -/
structure FA (p : Int) (D : Nat) (fs : List Int) : Prop where
  p2 : 2 ≤ p
  D1 : 1 ≤ D
  len : fs.length = D + 1
  top : cf fs D = 1
theorem FV.fa {p : Int} {D : Nat} {fs : List Int} (h : FV p D fs) : FA p D fs := ⟨h.p2, by have := h.d1; omega, by have := h.len; omega, by have := h.top; rwa [Int.toNat_natCast] at this⟩
/-- coefficient i of an element -/
def dc (p : Int) (D : Nat) (a : Int) (i : Nat) : Int := cf (dgt p D a) i
/-- the elements -/
def El (p : Int) (D : Nat) (a : Int) : Prop := 0 ≤ a ∧ a < p ^ D
section
variable {p : Int} {D : Nat} {fs : List Int}
theorem El.ext {a b : Int} (hp : 0 < p) (ha : El p D a) (hb : El p D b) (h : ∀ i, i < D → dc p D a i = dc p D b i) : a = b := by
  have := cf_ext (xs := dgt p D a) (ys := dgt p D b) (by rw [dgt_len, dgt_len]) (fun j hj => h j (by rwa [dgt_len] at hj))
  rw [← numL_dgt hp D a ha.1 ha.2, ← numL_dgt hp D b hb.1 hb.2, this]
theorem dc_lt (hp : 0 < p) (a : Int) (i : Nat) : 0 ≤ dc p D a i ∧ dc p D a i < p := (dgt_in hp D a).cf hp i
theorem dc_mod (hp : 0 < p) (a : Int) (i : Nat) : dc p D a i % p = dc p D a i := Int.emod_eq_of_lt (dc_lt hp a i).1 (dc_lt hp a i).2
theorem num_el (hp : 1 ≤ p) {xs : List Int} (hl : xs.length = D) (h : In p xs) : El p D (numL p xs) := ⟨numL_nonneg (by omega) (fun x hx => (h x hx).1), by rw [← hl]; exact numL_lt hp h⟩
theorem sumIn (hp : 0 < p) (f : Nat → Int) : In p (tab D fun i => f i % p) := In.tab fun _ _ => ⟨Int.emod_nonneg _ (by omega), Int.emod_lt_of_pos _ hp⟩
theorem fsum_el (hp : 0 < p) (a b k : Int) : El p D (fsum p D a b k) := num_el (by omega) (tab_len _ _) (sumIn hp _)
theorem dc_fsum (hp : 0 < p) {a b k : Int} {i : Nat} (hi : i < D) : dc p D (fsum p D a b k) i = (dc p D a i + k * dc p D b i) % p := by
  unfold dc fsum
  rw [dgt_num hp (tab_len _ _) (sumIn hp _), cf_tab hi]
theorem fmul_list (h : FA p D fs) (a b : Int) : remL p (tab (2 * D - 1) (cvl p (dgt p D a) (dgt p D b) D D)) fs = tab D (fun i => bil fs D (dc p D a) (dc p D b) i % p) := by
  have hp : 0 < p := by have := h.p2; omega
  have hD := h.D1
  have hl : (remL p (tab (2 * D - 1) (cvl p (dgt p D a) (dgt p D b) D D)) fs).length = D := remL_len2 h.len (by rw [tab_len]; omega)
  refine cf_ext (by rw [hl, tab_len]) fun i hi => ?_
  rw [hl] at hi
  rw [cf_tab hi, cf_remL hp hD h.len h.top (In.tab fun t _ => cvl_in hp _ _ D D t) (by rw [tab_len]; omega) hi, tab_len]
  have e : ev fs D (2 * D - 1) (cf (tab (2 * D - 1) (cvl p (dgt p D a) (dgt p D b) D D))) i = ev fs D (2 * D - 1) (cvl p (dgt p D a) (dgt p D b) D D) i := by
    unfold ev; exact sm_congr fun t ht => by rw [cf_tab ht]
  rw [e, ev_cvl]; rfl
theorem fmul_num (h : FA p D fs) (a b : Int) : fmul p D fs a b = numL p (tab D (fun i => bil fs D (dc p D a) (dc p D b) i % p)) := by
  unfold fmul; rw [fmul_list h]
theorem fmul_el (h : FA p D fs) (a b : Int) : El p D (fmul p D fs a b) := by
  have hp : 0 < p := by have := h.p2; omega
  rw [fmul_num h]; exact num_el (by omega) (tab_len _ _) (sumIn hp _)
theorem dc_fmul (h : FA p D fs) {a b : Int} {i : Nat} (hi : i < D) : dc p D (fmul p D fs a b) i = bil fs D (dc p D a) (dc p D b) i % p := by
  have hp : 0 < p := by have := h.p2; omega
  rw [fmul_num h]
  unfold dc
  rw [dgt_num hp (tab_len _ _) (sumIn hp _), cf_tab hi]
theorem bil_comm (x y : Nat → Int) (i : Nat) : bil fs D x y i = bil fs D y x i := by
  unfold bil
  rw [sm_swap]
  exact sm_congr fun u _ => sm_congr fun k _ => by rw [Int.mul_comm (x k), Nat.add_comm]
theorem fmul_comm (h : FA p D fs) (a b : Int) : fmul p D fs a b = fmul p D fs b a := by
  rw [fmul_num h, fmul_num h]; congr 1; exact tab_congr fun i _ => by rw [bil_comm]
theorem bil_add (x y z : Nat → Int) (k : Int) (i : Nat) : bil fs D x (fun j => y j + k * z j) i = bil fs D x y i + k * bil fs D x z i := by
  unfold bil
  rw [← sm_mul, ← sm_add]
  refine sm_congr fun u _ => ?_
  rw [← sm_mul, ← sm_add]
  exact sm_congr fun v _ => by grind
theorem bil_mod {x y x' y' : Nat → Int} {i : Nat} (hx : ∀ j, j < D → x j % p = x' j % p) (hy : ∀ j, j < D → y j % p = y' j % p) : bil fs D x y i % p = bil fs D x' y' i % p := by
  unfold bil
  exact sm_mod fun u hu => sm_mod fun k hk => mul_mod (mul_mod (hx u hu) (hy k hk)) rfl
theorem fmul_fsum (h : FA p D fs) (a b c k : Int) : fmul p D fs a (fsum p D b c k) = fsum p D (fmul p D fs a b) (fmul p D fs a c) k := by
  have hp : 0 < p := by have := h.p2; omega
  refine (fmul_el h _ _).ext hp (fsum_el hp _ _ _) fun i hi => ?_
  rw [dc_fmul h hi, dc_fsum hp hi, dc_fmul h hi, dc_fmul h hi, bil_mod (fun _ _ => rfl) (y' := fun j => dc p D b j + k * dc p D c j) (fun j hj => by rw [dc_fsum hp hj, mod_mod]), bil_add]
  exact add_mod mod_mod.symm (mul_mod rfl mod_mod.symm)
/-- powers of X multiply -/
theorem rx_mul (hD : 1 ≤ D) (s : Nat) : ∀ (k : Nat) {i : Nat}, i < D → sm D (fun m => rx fs D s m * rx fs D (m + k) i) = rx fs D (s + k) i := by
  induction s with
  | zero =>
    intro k i hi
    rw [sm_single (k := 0) (by omega) (fun m _ hne => by rw [rx, if_neg hne, Int.zero_mul])]
    simp [rx]
  | succ s ih =>
    intro k i hi
    rw [show s + 1 + k = s + (k + 1) by omega, ← ih (k + 1) hi]
    have h1 := rx_top (fs := fs) hD k hi
    have h2 : sm D (fun m => rx fs D (s + 1) m * rx fs D (m + k) i) = sm D (fun m => (if m = 0 then 0 else rx fs D s (m - 1)) * rx fs D (m + k) i + (-(rx fs D s (D - 1))) * (cf fs m * rx fs D (k + m) i)) :=
      sm_congr fun m _ => by rw [rx, Nat.add_comm m k]; generalize (if m = 0 then 0 else rx fs D s (m - 1)) = A; grind
    rw [h2, sm_add, sm_mul]
    obtain ⟨E, rfl⟩ := Nat.exists_eq_add_of_le' hD
    have h5 : sm (E + 1) (fun m => rx fs (E + 1) s m * rx fs (E + 1) (m + (k + 1)) i) = sm E (fun m => rx fs (E + 1) s m * rx fs (E + 1) (m + (k + 1)) i) + rx fs (E + 1) s E * rx fs (E + 1) (E + (k + 1)) i := rfl
    rw [sm_head, if_pos rfl, Int.zero_mul, show E + 1 - 1 = E by omega, h5]
    have h3 : sm E (fun m => (if m + 1 = 0 then 0 else rx fs (E + 1) s (m + 1 - 1)) * rx fs (E + 1) (m + 1 + k) i) = sm E (fun m => rx fs (E + 1) s m * rx fs (E + 1) (m + (k + 1)) i) :=
      sm_congr fun m _ => by rw [if_neg (by omega), show m + 1 - 1 = m by omega, show m + 1 + k = m + (k + 1) by omega]
    rw [h3, show E + (k + 1) = k + (E + 1) by omega]
    grind
theorem bil_assoc (hD : 1 ≤ D) (x y z : Nat → Int) {i : Nat} (hi : i < D) : bil fs D (bil fs D x y) z i = bil fs D x (bil fs D y z) i := by
  have h1 : bil fs D (bil fs D x y) z i = sm D fun u => sm D fun v => sm D fun k => x u * y v * z k * rx fs D (u + v + k) i := by
    have e1 : bil fs D (bil fs D x y) z i = sm D fun m => sm D fun k => sm D fun u => sm D fun v => x u * y v * rx fs D (u + v) m * z k * rx fs D (m + k) i := by
      show (sm D fun m => sm D fun k => bil fs D x y m * z k * rx fs D (m + k) i) = _
      refine sm_congr fun m _ => sm_congr fun k _ => ?_
      unfold bil
      rw [← sm_mulR, ← sm_mulR]
      refine sm_congr fun u _ => ?_
      rw [← sm_mulR, ← sm_mulR]
    rw [e1, sm_swap]
    have e2 : (sm D fun k => sm D fun m => sm D fun u => sm D fun v => x u * y v * rx fs D (u + v) m * z k * rx fs D (m + k) i) = sm D fun k => sm D fun u => sm D fun v => x u * y v * z k * rx fs D (u + v + k) i := by
      refine sm_congr fun k _ => ?_
      rw [sm_swap]
      refine sm_congr fun u _ => ?_
      rw [sm_swap]
      refine sm_congr fun v _ => ?_
      rw [← rx_mul hD (u + v) k hi, ← sm_mul]
      exact sm_congr fun m _ => by grind
    rw [e2, sm_swap]
    refine sm_congr fun u _ => ?_
    rw [sm_swap]
  have h2 : bil fs D x (bil fs D y z) i = sm D fun u => sm D fun v => sm D fun k => x u * y v * z k * rx fs D (u + v + k) i := by
    refine sm_congr fun u _ => ?_
    have e1 : (sm D fun m => x u * bil fs D y z m * rx fs D (u + m) i) = sm D fun m => sm D fun v => sm D fun k => x u * (y v * z k * rx fs D (v + k) m) * rx fs D (u + m) i := by
      refine sm_congr fun m _ => ?_
      unfold bil
      rw [← sm_mul, ← sm_mulR]
      refine sm_congr fun v _ => ?_
      rw [← sm_mul, ← sm_mulR]
    rw [e1, sm_swap]
    refine sm_congr fun v _ => ?_
    rw [sm_swap]
    refine sm_congr fun k _ => ?_
    rw [show u + v + k = v + k + u by omega, ← rx_mul hD (v + k) u hi, ← sm_mul]
    exact sm_congr fun m _ => by rw [Nat.add_comm u m]; grind
  rw [h1, h2]
theorem fmul_assoc (h : FA p D fs) (a b c : Int) : fmul p D fs (fmul p D fs a b) c = fmul p D fs a (fmul p D fs b c) := by
  have hp : 0 < p := by have := h.p2; omega
  refine (fmul_el h _ _).ext hp (fmul_el h _ _) fun i hi => ?_
  rw [dc_fmul h hi, dc_fmul h hi, bil_mod (x' := bil fs D (dc p D a) (dc p D b)) (y' := dc p D c) (fun j hj => by rw [dc_fmul h hj, mod_mod]) (fun _ _ => rfl), bil_assoc h.D1 _ _ _ hi]
  exact bil_mod (fun _ _ => rfl) (fun j hj => by rw [dc_fmul h hj, mod_mod])
theorem dc_zero (i : Nat) : dc p D 0 i = 0 := by
  unfold dc
  have : ∀ (D i : Nat), cf (dgt p D 0) i = 0 := by
    intro D
    induction D with
    | zero => intro i; rfl
    | succ D ih =>
      intro i
      rw [dgt, Int.zero_emod, Int.zero_ediv]
      cases i with
      | zero => rfl
      | succ i => exact ih i
  exact this D i
theorem dc_one (h : FA p D fs) {i : Nat} (hi : i < D) : dc p D 1 i = if i = 0 then 1 else 0 := by
  have hp := h.p2
  obtain ⟨E, rfl⟩ := Nat.exists_eq_add_of_le' h.D1
  unfold dc
  rw [dgt, Int.emod_eq_of_lt (by omega) (by omega), Int.ediv_eq_zero_of_lt (by omega) (by omega)]
  cases i with
  | zero => rfl
  | succ i => rw [if_neg (by omega)]; exact dc_zero (p := p) (D := E) i
theorem el_zero (h : FA p D fs) : El p D 0 := ⟨by omega, by have := pow_ge h.p2 D; omega⟩
theorem el_one (h : FA p D fs) : El p D 1 := ⟨by omega, by have := pow_ge h.p2 D; have := h.D1; omega⟩
theorem fmul_zero (h : FA p D fs) (a : Int) : fmul p D fs a 0 = 0 := by
  have hp : 0 < p := by have := h.p2; omega
  refine (fmul_el h _ _).ext hp (el_zero h) fun i hi => ?_
  rw [dc_fmul h hi, dc_zero]
  unfold bil
  rw [sm_zero (fun u _ => sm_zero fun k _ => by rw [dc_zero]; simp)]; simp
theorem fmul_one (h : FA p D fs) {a : Int} (ha : El p D a) : fmul p D fs a 1 = a := by
  have hp : 0 < p := by have := h.p2; omega
  refine (fmul_el h _ _).ext hp ha fun i hi => ?_
  rw [dc_fmul h hi]
  unfold bil
  rw [sm_single (k := i) hi (fun u hu hne => ?_)]
  · rw [sm_single (k := 0) (by omega) (fun k hk hne => by rw [dc_one h hk, if_neg hne]; simp), dc_one h (by omega), if_pos rfl, Nat.add_zero, rx_low hi hi, if_pos rfl, Int.mul_one, Int.mul_one, dc_mod hp]
  · refine sm_zero fun k hk => ?_
    rw [dc_one h hk]
    by_cases e : k = 0
    · subst e; rw [Nat.add_zero, rx_low hu hi, if_neg hne]; simp
    · rw [if_neg e]; simp
theorem fsum_zero (hp : 2 ≤ p) {a : Int} (ha : El p D a) (k : Int) : fsum p D a 0 k = a := by
  refine (fsum_el (by omega) _ _ _).ext (by omega) ha fun i hi => ?_
  rw [dc_fsum (by omega) hi, dc_zero, Int.mul_zero, Int.add_zero, dc_mod (by omega)]
theorem fsum_comm (a b : Int) : fsum p D a b 1 = fsum p D b a 1 := by
  unfold fsum; congr 1; exact tab_congr fun i _ => by rw [Int.one_mul, Int.one_mul, Int.add_comm]
/-- sums of several elements -/
theorem fsum_assoc (hp : 0 < p) (a b c k l : Int) : fsum p D (fsum p D a b k) c l = fsum p D a (fsum p D (fsum p D 0 b k) c l) 1 := by
  refine (fsum_el hp _ _ _).ext hp (fsum_el hp _ _ _) fun i hi => ?_
  rw [dc_fsum hp hi, dc_fsum hp hi, dc_fsum hp hi, dc_fsum hp hi, dc_fsum hp hi, dc_zero, Int.zero_add, Int.one_mul]
  generalize dc p D a i = A; generalize dc p D b i = B; generalize dc p D c i = C
  rw [Int.emod_add_emod, Int.add_emod_emod]
  rw [show A + ((k * B) % p + l * C) = (k * B) % p + (A + l * C) by omega, Int.emod_add_emod]
  congr 1; omega
theorem fsum_undo (hp : 0 < p) {a : Int} (ha : El p D a) (b k l : Int) (h : k + l = 0) : fsum p D (fsum p D a b k) b l = a := by
  refine (fsum_el hp _ _ _).ext hp ha fun i hi => ?_
  rw [dc_fsum hp hi, dc_fsum hp hi, Int.emod_add_emod, Int.add_assoc, ← Int.add_mul, h, Int.zero_mul, Int.add_zero, dc_mod hp]
end

/-- n powers, from x on -/
def pws (p : Int) (D : Nat) (fs : List Int) (g : Int) : Nat → Int → List Int
  | 0, _ => []
  | n + 1, x => x :: pws p D fs g n (fmul p D fs x g)
def pw (p : Int) (D : Nat) (fs : List Int) (g : Int) : Nat → Int
  | 0 => 1
  | n + 1 => fmul p D fs (pw p D fs g n) g
theorem pws_get {p : Int} {D : Nat} {fs : List Int} {g : Int} : ∀ (n k : Nat), pws p D fs g n (pw p D fs g k) = (List.range n).map fun i => pw p D fs g (k + i)
  | 0, _ => rfl
  | n + 1, k => by
    rw [pws, List.range_succ_eq_map, List.map_cons, List.map_map]
    have := pws_get (p := p) (D := D) (fs := fs) (g := g) n (k + 1)
    rw [pw] at this
    rw [this, Nat.add_zero]
    congr 1
    exact List.map_congr_left fun i _ => by simp [Nat.add_right_comm, Nat.add_assoc, Nat.add_comm 1]
/-- the powers of g are all elements but 0, of which there are m -/
def genB (p : Int) (D : Nat) (fs : List Int) (g : Int) (m : Nat) : Bool :=
  let L := pws p D fs g (m + 1) 1
  let K := L.take m
  (List.range m).all (fun i => K.contains ((i : Int) + 1)) && cf L m == 1 && decide (0 ≤ g) && decide (g ≤ m)
def hints : List (Nat × Nat × Nat × Nat) := [(2, 4, 15, 3), (2, 6, 9, 3), (2, 6, 23, 3), (2, 6, 53, 3), (3, 2, 1, 4), (3, 3, 8, 6), (3, 3, 11, 5), (3, 3, 14, 4), (3, 3, 26, 4), (5, 2, 2, 6), (5, 2, 3, 7), (5, 2, 6, 7), (5, 2, 14, 8), (5, 2, 19, 6), (5, 2, 21, 6), (7, 2, 1, 9), (7, 2, 2, 8), (7, 2, 4, 8), (7, 2, 11, 10), (7, 2, 13, 10), (7, 2, 16, 10), (7, 2, 22, 11), (7, 2, 27, 11), (7, 2, 29, 8), (7, 2, 34, 8), (7, 2, 37, 8), (7, 2, 46, 9), (7, 2, 48, 9)]
def hint (p D n : Nat) : Nat := match hints.find? fun h => h.1 == p && h.2.1 == D && h.2.2.1 == n with
  | some h => h.2.2.2
  | none => p
def proots : List (Nat × Nat) := [(2, 1), (3, 2), (5, 2), (7, 3), (11, 2), (13, 2), (17, 3), (19, 2), (23, 5), (29, 2), (31, 3), (37, 2), (41, 6), (43, 3), (47, 5), (53, 2), (59, 2), (61, 2)]
def proot (p : Nat) : Nat := match proots.find? fun h => h.1 == p with
  | some h => h.2
  | none => 0
theorem gen1_check : ((List.range 65).all fun p => decide (p < 2) || !prS p || genB p 1 [0, 1] (proot p) (p - 1)) = true := by decide +kernel
theorem gen2_check : ((List.range 7).all fun D => decide (D < 2) || (List.range 9).all fun p => decide (p < 2) || !prS p || decide (64 < p ^ D) || (List.range (p ^ D)).all fun n => !irrB p (dgt p D n ++ [1]) || genB p D (dgt p D n ++ [1]) (hint p D n) (p ^ D - 1)) = true := by decide +kernel

theorem fmul_D1 {p : Int} {fs fs' : List Int} (h : FA p 1 fs) (h' : FA p 1 fs') (a b : Int) : fmul p 1 fs a b = fmul p 1 fs' a b := by
  rw [fmul_num h, fmul_num h']
  congr 1
theorem pws_D1 {p : Int} {fs fs' : List Int} (h : FA p 1 fs) (h' : FA p 1 fs') (g : Int) : ∀ (n : Nat) (x : Int), pws p 1 fs g n x = pws p 1 fs' g n x
  | 0, _ => rfl
  | n + 1, x => by rw [pws, pws, pws_D1 h h' g n, fmul_D1 h h']
/-- there is such an element -/
theorem FV.genB {p : Int} {D : Nat} {fs : List Int} (h : FV p D fs) : ∃ g, genB p D fs g (p ^ D - 1).toNat = true := by
  have hp := h.p2
  obtain ⟨P, rfl⟩ := Int.eq_ofNat_of_zero_le (show 0 ≤ p by omega)
  have hpr : prS P = true := (prS_iff (by have := h.p64; omega)).2 ((isPr_iff (by have := h.p64; omega)).1 h.pr)
  have hq := h.q
  rw [Int.toNat_natCast] at hq
  have hqn : P ^ D ≤ 64 := by exact_mod_cast hq
  have e : (((P : Nat) : Int) ^ D - 1).toNat = P ^ D - 1 := by
    rw [← Int.natCast_pow]; omega
  rw [e]
  by_cases hD : D = 1
  · subst hD
    have h1 := gen1_check
    rw [List.all_eq_true] at h1
    have h1 := h1 P (List.mem_range.2 (by have := h.p64; omega))
    rw [decide_eq_false (by omega), hpr, Bool.false_or, Bool.not_true, Bool.false_or] at h1
    refine ⟨proot P, ?_⟩
    have h2 : FA P 1 [0, 1] := ⟨hp, by omega, rfl, rfl⟩
    unfold Go.Proofs.YtljemlfocajhnaaGreat.genB at h1 ⊢
    rw [pws_D1 h.fa h2, Nat.pow_one]
    exact h1
  · have hD2 : 2 ≤ D := by have := h.d1; omega
    have hP8 : P ≤ 8 := by
      apply Classical.byContradiction; intro hn
      have h1 : P ^ 2 ≤ P ^ D := Nat.pow_le_pow_right (by omega) hD2
      have h2 : 9 ^ 2 ≤ P ^ 2 := Nat.pow_le_pow_left (by omega) 2
      omega
    have h1 := gen2_check
    rw [List.all_eq_true] at h1
    have h1 := h1 D (List.mem_range.2 (by have := h.d6; omega))
    rw [decide_eq_false (by omega), Bool.false_or, List.all_eq_true] at h1
    have h1 := h1 P (List.mem_range.2 (by omega))
    rw [decide_eq_false (by omega), hpr, decide_eq_false (by omega), Bool.false_or, Bool.not_true, Bool.false_or, Bool.false_or, List.all_eq_true] at h1
    have hl := h.fa.len
    have hfs : fs = fs.take D ++ [1] := by
      have h2 : fs.drop D = [1] := by
        rw [List.drop_eq_getElem_cons (show D < fs.length by omega), List.drop_eq_nil_of_le (by omega), ← cf_eq (show D < fs.length by omega), h.fa.top]
      rw [← h2, List.take_append_drop]
    have hin : In P (fs.take D) := fun x hx => h.inp x (List.mem_of_mem_take hx)
    have htl : (fs.take D).length = D := by rw [List.length_take]; omega
    have hdg := dgt_num (p := P) (by omega) htl hin
    have h3 := num_el (D := D) (p := P) (by omega) htl hin
    obtain ⟨n, hn⟩ := Int.eq_ofNat_of_zero_le h3.1
    have h4 := h3.2
    rw [hn] at h4 hdg
    have h1 := h1 n (List.mem_range.2 (by exact_mod_cast h4))
    rw [hdg, ← hfs, h.irr, Bool.not_true, Bool.false_or] at h1
    exact ⟨_, h1⟩
/-- what that says -/
theorem FV.gen {p : Int} {D : Nat} {fs : List Int} (h : FV p D fs) : ∃ g, El p D g ∧ pw p D fs g (p ^ D - 1).toNat = 1 ∧ ∀ a, 0 < a → a < p ^ D → ∃ i, i < (p ^ D - 1).toNat ∧ pw p D fs g i = a := by
  obtain ⟨g, hg⟩ := h.genB
  have h0 := pow_ge h.p2 D
  generalize hm : (p ^ D - 1).toNat = m at *
  simp only [Go.Proofs.YtljemlfocajhnaaGreat.genB, Bool.and_eq_true, decide_eq_true_eq, beq_iff_eq] at hg
  obtain ⟨⟨⟨h1, h2⟩, h3⟩, h4⟩ := hg
  have e : pws p D fs g (m + 1) 1 = (List.range (m + 1)).map fun i => pw p D fs g i := by
    have := pws_get (p := p) (D := D) (fs := fs) (g := g) (m + 1) 0
    rw [pw] at this; simpa using this
  rw [e] at h1 h2
  refine ⟨g, ⟨h3, by omega⟩, ?_, fun a ha hlt => ?_⟩
  · simpa [cf] using h2
  · rw [List.all_eq_true] at h1
    have := h1 (a - 1).toNat (List.mem_range.2 (by omega))
    rw [List.contains_iff_mem, ← List.map_take, List.take_range, List.mem_map] at this
    obtain ⟨i, hi, hi2⟩ := this
    rw [List.mem_range] at hi
    exact ⟨i, by omega, by rw [hi2]; omega⟩
section
variable {p : Int} {D : Nat} {fs : List Int}
theorem pw_el (h : FA p D fs) (g : Int) : ∀ n, El p D (pw p D fs g n)
  | 0 => el_one h
  | _ + 1 => fmul_el h _ _
theorem pw_add (h : FA p D fs) (g : Int) (m : Nat) : ∀ n, pw p D fs g (m + n) = fmul p D fs (pw p D fs g m) (pw p D fs g n)
  | 0 => (fmul_one h (pw_el h g m)).symm
  | n + 1 => by rw [← Nat.add_assoc, pw, pw_add h g m n, fmul_assoc h, pw]
/-- every element but 0 has an inverse -/
theorem FV.inv {a : Int} (h : FV p D fs) (h0 : 0 < a) (h1 : a < p ^ D) : ∃ b, El p D b ∧ fmul p D fs a b = 1 := by
  obtain ⟨g, _, hg, hall⟩ := h.gen
  obtain ⟨i, hi, rfl⟩ := hall a h0 h1
  refine ⟨pw p D fs g ((p ^ D - 1).toNat - i), pw_el h.fa g _, ?_⟩
  rw [← pw_add h.fa, show i + ((p ^ D - 1).toNat - i) = (p ^ D - 1).toNat by omega, hg]
end

/-- the number of elements -/
def qn (p : Int) (D : Nat) : Nat := (p ^ D).toNat
/-- the last factor below k that leads to 1, or 0 -/
def invN (p : Int) (D : Nat) (fs : List Int) (a : Nat) : Nat → Int
  | 0 => 0
  | k + 1 => if fmul p D fs a k = 1 then k else invN p D fs a k

end Go.Proofs.YtljemlfocajhnaaGreat
end

section
/- Row reduction over a finite field, in plain terms. Spans of rows over a finite field, echelon forms and ranks, in plain terms. -/
namespace Go.Proofs.YtljemlfocajhnaaGreat
set_option linter.unusedSimpArgs false
set_option linter.unusedVariables false

def finv (p : Int) (D : Nat) (fs : List Int) (a : Int) : Int := invN p D fs a.toNat (qn p D)
theorem invN_or {p : Int} {D : Nat} {fs : List Int} {a : Nat} : ∀ k : Nat, (∃ b : Nat, b < k ∧ invN p D fs a k = b ∧ fmul p D fs a b = 1) ∨ (invN p D fs a k = 0 ∧ ∀ b : Nat, b < k → fmul p D fs a b ≠ 1)
  | 0 => .inr ⟨rfl, fun b h => by omega⟩
  | k + 1 => by
    rw [invN]
    by_cases h : fmul p D fs a k = 1
    · rw [if_pos h]; exact .inl ⟨k, by omega, rfl, h⟩
    · rw [if_neg h]
      rcases invN_or (p := p) (D := D) (fs := fs) (a := a) k with ⟨b, h1, h2, h3⟩ | ⟨h1, h2⟩
      · exact .inl ⟨b, by omega, h2, h3⟩
      · refine .inr ⟨h1, fun b hb => ?_⟩
        by_cases e : b = k
        · rw [e]; exact h
        · exact h2 b (by omega)
section
variable {p : Int} {D : Nat} {fs : List Int}
theorem qn_cast (hp : 0 ≤ p) : ((qn p D : Nat) : Int) = p ^ D := by
  unfold qn
  have : 0 ≤ p ^ D := Int.pow_nonneg hp
  omega
theorem finv_ok (h : FV p D fs) {a : Int} (ha : El p D a) (h0 : a ≠ 0) : El p D (finv p D fs a) ∧ fmul p D fs a (finv p D fs a) = 1 := by
  have hq := qn_cast (p := p) (D := D) (by have := h.p2; omega)
  obtain ⟨n, rfl⟩ := Int.eq_ofNat_of_zero_le ha.1
  obtain ⟨b, hb, hb1⟩ := h.inv (a := n) (by omega) ha.2
  obtain ⟨m, rfl⟩ := Int.eq_ofNat_of_zero_le hb.1
  unfold finv
  rw [Int.toNat_natCast]
  rcases invN_or (p := p) (D := D) (fs := fs) (a := n) (qn p D) with ⟨c, h1, h2, h3⟩ | ⟨_, h2⟩
  · rw [h2]; exact ⟨⟨by omega, by omega⟩, h3⟩
  · exact absurd hb1 (h2 m (by have := hb.2; omega))
theorem finv_el (h : FV p D fs) (a : Int) : El p D (finv p D fs a) := by
  have hq := qn_cast (p := p) (D := D) (by have := h.p2; omega)
  unfold finv
  rcases invN_or (p := p) (D := D) (fs := fs) (a := a.toNat) (qn p D) with ⟨c, h1, h2, _⟩ | ⟨h1, _⟩
  · rw [h2]; exact ⟨by omega, by omega⟩
  · rw [h1]; exact el_zero h.fa
end

/-! ### rows -/
def ra (R : List (List Int)) (j : Nat) : List Int := R.getD j []
theorem ra_eq {R : List (List Int)} {j : Nat} (h : j < R.length) : ra R j = R[j] := by simp [ra, h]
theorem ra_mem {R : List (List Int)} {j : Nat} (h : j < R.length) : ra R j ∈ R := by rw [ra_eq h]; exact List.getElem_mem h
theorem ra_set {R : List (List Int)} {i j : Nat} {r : List Int} (h : i < R.length) : ra (R.set i r) j = if i = j then r else ra R j := by
  unfold ra
  rw [List.getD_eq_getElem?_getD, List.getElem?_set]
  split
  · rename_i e; subst e; simp [h]
  · simp [List.getD_eq_getElem?_getD]
/-- each row, by its place -/
def mi (R : List (List Int)) (f : Nat → List Int → List Int) : List (List Int) := (List.range R.length).map fun j => f j (ra R j)
theorem mi_len (R : List (List Int)) (f : Nat → List Int → List Int) : (mi R f).length = R.length := by simp [mi]
theorem ra_mi {R : List (List Int)} {f : Nat → List Int → List Int} {j : Nat} (h : j < R.length) : ra (mi R f) j = f j (ra R j) := by simp [ra, mi, h]
/-- all rows have n elements -/
def Rect (p : Int) (D n : Nat) (R : List (List Int)) : Prop := ∀ r ∈ R, r.length = n ∧ In (p ^ D) r
theorem Rect.ra {p : Int} {D n : Nat} {R : List (List Int)} (h : Rect p D n R) {j : Nat} (hj : j < R.length) : (ra R j).length = n ∧ In (p ^ D) (ra R j) := h _ (ra_mem hj)
theorem Rect.set {p : Int} {D n : Nat} {R : List (List Int)} (h : Rect p D n R) {j : Nat} {r : List Int} (hr : r.length = n ∧ In (p ^ D) r) : Rect p D n (R.set j r) := by
  intro x hx
  rcases List.mem_or_eq_of_mem_set hx with hx | rfl
  · exact h x hx
  · exact hr
theorem Rect.mi {p : Int} {D n : Nat} {R : List (List Int)} {f : Nat → List Int → List Int} (h : ∀ j, j < R.length → (f j (Go.Proofs.YtljemlfocajhnaaGreat.ra R j)).length = n ∧ In (p ^ D) (f j (Go.Proofs.YtljemlfocajhnaaGreat.ra R j))) : Rect p D n (mi R f) := by
  intro x hx
  obtain ⟨j, hj, rfl⟩ := List.mem_map.1 hx
  exact h j (List.mem_range.1 hj)
theorem inEl {p : Int} {D : Nat} (hp : 0 < p) {r : List Int} (h : In (p ^ D) r) (j : Nat) : El p D (cf r j) := h.cf (Int.pow_pos hp) j
/-- the first k places by f -/
def up (r : List Int) (k : Nat) (f : Nat → Int) : List Int := tab r.length fun i => if i < k then f i else cf r i
/-- a multiple of a row is added to another one -/
def addT (p : Int) (D : Nat) (fs : List Int) (to row : List Int) (f : Int) : List Int := tab to.length fun k => fsum p D (cf to k) (fmul p D fs f (cf row k)) 1
/-- a row times the inverse of its element at c -/
def scaleI (p : Int) (D : Nat) (fs r : List Int) (c : Nat) : List Int := tab r.length fun k => fmul p D fs (finv p D fs (cf r c)) (cf r k)
/-- column c of a row is made 0 -/
def subI (p : Int) (D : Nat) (fs r P : List Int) (c : Nat) : List Int := if cf r c = 0 then r else addT p D fs r P (fsum p D 0 (cf r c) (-1))
/-- the first row from t on that is not 0 at c -/
def fnz (R : List (List Int)) (t c : Nat) : Option Nat := ((R.drop t).findIdx? fun r => cf r c != 0).map (t + ·)
theorem fnz_some {R : List (List Int)} {t c i : Nat} (h : fnz R t c = some i) : t ≤ i ∧ i < R.length ∧ cf (ra R i) c ≠ 0 ∧ ∀ j, t ≤ j → j < i → cf (ra R j) c = 0 := by
  unfold fnz at h
  cases hx : (R.drop t).findIdx? (fun r => cf r c != 0) with
  | none => rw [hx] at h; cases h
  | some k =>
    rw [hx] at h
    simp only [Option.map_some, Option.some.injEq] at h
    subst h
    obtain ⟨hk, h1, h2⟩ := List.findIdx?_eq_some_iff_getElem.1 hx
    have hk' : k < R.length - t := by simpa using hk
    refine ⟨by omega, by omega, ?_, fun j hj hlt => ?_⟩
    · rw [ra_eq (by omega)]
      simpa using h1
    · have h3 := h2 (j - t) (by omega)
      have e : t + (j - t) = j := by omega
      rw [ra_eq (by omega)]
      simpa [e] using h3
theorem fnz_none {R : List (List Int)} {t c : Nat} (h : fnz R t c = none) {j : Nat} (hj : t ≤ j) (hl : j < R.length) : cf (ra R j) c = 0 := by
  unfold fnz at h
  rw [Option.map_eq_none_iff, List.findIdx?_eq_none_iff] at h
  have h1 := h (ra R j) (by
    rw [ra_eq hl]
    have : R[j] = (R.drop t)[j - t]'(by simp; omega) := by simp [show t + (j - t) = j by omega]
    rw [this]; exact List.getElem_mem _)
  simpa using h1
/-- the rows with the pivot's row at t, scaled -/
def swapR (p : Int) (D : Nat) (fs : List Int) (R : List (List Int)) (t c i : Nat) : List (List Int) := ((R.set t (ra R i)).set i (ra R t)).set t (scaleI p D fs (ra R i) c)
def elimP (p : Int) (D : Nat) (fs : List Int) (R : List (List Int)) (P : List Int) (t c k : Nat) : List (List Int) := mi R fun j r => if j < k ∧ j ≠ t then subI p D fs r P c else r
def stepR (p : Int) (D : Nat) (fs : List Int) (R : List (List Int)) (t c i : Nat) : List (List Int) := elimP p D fs (swapR p D fs R t c i) (scaleI p D fs (ra R i) c) t c R.length
section
variable {p : Int} {D : Nat} {fs : List Int} {R : List (List Int)} {P : List Int} {t c k i n : Nat}
theorem swapR_len : (swapR p D fs R t c i).length = R.length := by simp [swapR]
theorem elimP_len : (elimP p D fs R P t c k).length = R.length := mi_len _ _
theorem stepR_len : (stepR p D fs R t c i).length = R.length := by rw [stepR, elimP_len, swapR_len]
theorem addT_len (to row : List Int) (f : Int) : (addT p D fs to row f).length = to.length := tab_len _ _
theorem scaleI_len (r : List Int) : (scaleI p D fs r c).length = r.length := tab_len _ _
theorem subI_len (r : List Int) : (subI p D fs r P c).length = r.length := by unfold subI; split; rfl; exact addT_len _ _ _
theorem El.in {f : Nat → Int} (h : ∀ j, j < n → El p D (f j)) : In (p ^ D) (tab n f) := In.tab fun j hj => h j hj
theorem addT_in (hp : 0 < p) (to row : List Int) (f : Int) : In (p ^ D) (addT p D fs to row f) := El.in fun _ _ => fsum_el hp _ _ _
theorem scaleI_in (h : FA p D fs) (r : List Int) : In (p ^ D) (scaleI p D fs r c) := El.in fun _ _ => fmul_el h _ _
theorem subI_in (hp : 0 < p) {r : List Int} (h : In (p ^ D) r) : In (p ^ D) (subI p D fs r P c) := by unfold subI; split; exact h; exact addT_in hp _ _ _
theorem Rect.swapR (h : Rect p D n R) (hf : FA p D fs) (ht : t < R.length) (hi : i < R.length) : Rect p D n (swapR p D fs R t c i) :=
  ((h.set (h.ra hi)).set (h.ra ht)).set ⟨by rw [scaleI_len]; exact (h.ra hi).1, scaleI_in hf _⟩
theorem Rect.elimP (h : Rect p D n R) (hp : 0 < p) : Rect p D n (elimP p D fs R P t c k) := Rect.mi fun j hj => by
  split
  · rw [subI_len]; exact ⟨(h.ra hj).1, subI_in hp (h.ra hj).2⟩
  · exact h.ra hj
theorem Rect.stepR (h : Rect p D n R) (hf : FA p D fs) (ht : t < R.length) (hi : i < R.length) : Rect p D n (stepR p D fs R t c i) := (h.swapR hf ht hi).elimP (by have := hf.p2; omega)
/-! ### the reference's forms -/
/-- a - b is a + (0 - b) -/
theorem fsum_sub (hp : 0 < p) (a b : Int) : fsum p D a (fsum p D 0 b (-1)) 1 = fsum p D a b (-1) := by
  refine (fsum_el hp _ _ _).ext hp (fsum_el hp _ _ _) fun j hj => ?_
  rw [dc_fsum hp hj, dc_fsum hp hj, dc_fsum hp hj, dc_zero, Int.zero_add, Int.one_mul, Int.add_emod_emod]
end

def zr (n : Nat) : List Int := List.replicate n 0
theorem zr_len (n : Nat) : (zr n).length = n := by simp [zr]
theorem cf_zr (n k : Nat) : cf (zr n) k = 0 := by
  unfold cf zr
  rw [List.getD_eq_getElem?_getD, List.getElem?_replicate]
  split <;> rfl
section
variable {p : Int} {D : Nat} {fs : List Int}
theorem FA.pos (h : FA p D fs) : 0 < p := by have := h.p2; omega
theorem zr_in (h : FA p D fs) (n : Nat) : In (p ^ D) (zr n) := fun x hx => by
  have := List.eq_of_mem_replicate hx
  subst this; exact el_zero h
theorem fadd0 (h : FA p D fs) {a : Int} (ha : El p D a) : fsum p D 0 a 1 = a := by rw [fsum_comm]; exact fsum_zero h.p2 ha 1
theorem fadd_assoc (h : FA p D fs) (a : Int) {b : Int} (hb : El p D b) (c : Int) : fsum p D (fsum p D a b 1) c 1 = fsum p D a (fsum p D b c 1) 1 := by
  rw [fsum_assoc h.pos, fadd0 h hb]
def fneg (p : Int) (D : Nat) (a : Int) : Int := fsum p D 0 a (-1)
theorem fneg_el (h : FA p D fs) (a : Int) : El p D (fneg p D a) := fsum_el h.pos _ _ _
theorem fadd_neg (h : FA p D fs) {a : Int} (ha : El p D a) (b : Int) : fsum p D (fsum p D a b 1) (fneg p D b) 1 = a := by
  unfold fneg; rw [fsum_sub h.pos, fsum_undo h.pos ha b 1 (-1) rfl]
theorem fneg_self (h : FA p D fs) {a : Int} (ha : El p D a) : fsum p D a (fneg p D a) 1 = 0 := by
  have := fadd_neg h (el_zero h) a
  rwa [fadd0 h ha] at this
theorem fneg_0 (h : FA p D fs) : fneg p D 0 = 0 := by unfold fneg; exact fsum_zero h.p2 (el_zero h) _
theorem zero_fmul (h : FA p D fs) (a : Int) : fmul p D fs 0 a = 0 := by rw [fmul_comm h, fmul_zero h]
theorem one_fmul (h : FA p D fs) {a : Int} (ha : El p D a) : fmul p D fs 1 a = a := by rw [fmul_comm h, fmul_one h ha]
/-! ### rows -/
theorem cf_addT {to row : List Int} {f : Int} {k : Nat} (hk : k < to.length) : cf (addT p D fs to row f) k = fsum p D (cf to k) (fmul p D fs f (cf row k)) 1 := cf_tab hk
/-- a row of N elements -/
def Rw (p : Int) (D N : Nat) (x : List Int) : Prop := x.length = N ∧ In (p ^ D) x
theorem Rw.el {N : Nat} (h : FA p D fs) {x : List Int} (hx : Rw p D N x) (k : Nat) : El p D (cf x k) := inEl h.pos hx.2 k
theorem Rw.zr (h : FA p D fs) (N : Nat) : Rw p D N (zr N) := ⟨zr_len N, zr_in h N⟩
theorem Rw.add {N : Nat} (h : FA p D fs) {x : List Int} (hx : Rw p D N x) (r : List Int) (f : Int) : Rw p D N (addT p D fs x r f) := ⟨(addT_len _ _ _).trans hx.1, addT_in h.pos _ _ _⟩
theorem Rw.ext {N : Nat} {x y : List Int} (hx : x.length = N) (hy : y.length = N) (h : ∀ k, k < N → cf x k = cf y k) : x = y := cf_ext (by rw [hx, hy]) fun k hk => h k (by omega)
theorem addT_zr {N : Nat} (h : FA p D fs) {x : List Int} (hx : Rw p D N x) (n : Nat) (f : Int) : addT p D fs x (zr n) f = x :=
  Rw.ext (hx.add h _ _).1 hx.1 fun k hk => by rw [cf_addT (by rw [hx.1]; exact hk), cf_zr, fmul_zero h, fsum_zero h.p2 (hx.el h k)]
theorem addT_f0 {N : Nat} (h : FA p D fs) {x : List Int} (hx : Rw p D N x) (y : List Int) : addT p D fs x y 0 = x :=
  Rw.ext (hx.add h _ _).1 hx.1 fun k hk => by rw [cf_addT (by rw [hx.1]; exact hk), zero_fmul h, fsum_zero h.p2 (hx.el h k)]
theorem addT_one {N : Nat} (h : FA p D fs) {x : List Int} (hx : Rw p D N x) : addT p D fs (zr N) x 1 = x :=
  Rw.ext ((Rw.zr h N).add h _ _).1 hx.1 fun k hk => by rw [cf_addT (by rw [zr_len]; exact hk), cf_zr, one_fmul h (hx.el h k), fadd0 h (hx.el h k)]
theorem addT_addT {N : Nat} (h : FA p D fs) {x y : List Int} (hx : Rw p D N x) (hy : Rw p D N y) (r : List Int) (f g : Int) : addT p D fs x (addT p D fs y r g) f = addT p D fs (addT p D fs x y f) r (fmul p D fs f g) :=
  Rw.ext (hx.add h _ _).1 ((hx.add h _ _).add h _ _).1 fun k hk => by
    rw [cf_addT (by rw [hx.1]; exact hk), cf_addT (by rw [hy.1]; exact hk), cf_addT (by rw [(hx.add h _ _).1]; exact hk), cf_addT (by rw [hx.1]; exact hk), fmul_fsum h, fmul_assoc h, fadd_assoc h _ (fmul_el h _ _)]
theorem subI_add {N : Nat} (h : FA p D fs) {x : List Int} (hx : Rw p D N x) (P : List Int) (c : Nat) : subI p D fs x P c = addT p D fs x P (fneg p D (cf x c)) := by
  unfold subI
  split
  · rename_i e; rw [e, fneg_0 h, addT_f0 h hx]
  · rfl

/-! ### spans -/
inductive Sp (p : Int) (D : Nat) (fs : List Int) (N : Nat) (R : List (List Int)) : List Int → Prop
  | zero : Sp p D fs N R (zr N)
  | add {x r : List Int} {f : Int} : Sp p D fs N R x → r ∈ R → El p D f → Sp p D fs N R (addT p D fs x r f)
variable {N : Nat} {R R' : List (List Int)}
theorem Sp.rw (h : FA p D fs) {x : List Int} (hx : Sp p D fs N R x) : Rw p D N x := by
  induction hx with
  | zero => exact Rw.zr h N
  | add _ _ _ ih => exact ih.add h _ _
theorem Sp.lin (h : FA p D fs) {x y : List Int} {f : Int} (hx : Sp p D fs N R x) (hy : Sp p D fs N R y) (hf : El p D f) : Sp p D fs N R (addT p D fs x y f) := by
  induction hy with
  | zero => rw [addT_zr h (hx.rw h)]; exact hx
  | add hy hr hg ih => rw [addT_addT h (hx.rw h) (hy.rw h)]; exact ih.add hr (fmul_el h _ _)
theorem Sp.mem (h : FA p D fs) (hR : Rect p D N R) {r : List Int} (hr : r ∈ R) : Sp p D fs N R r := by
  rw [← addT_one h (hR r hr)]; exact Sp.zero.add hr (el_one h)
theorem Sp.trans (h : FA p D fs) (hs : ∀ r ∈ R, Sp p D fs N R' r) {x : List Int} (hx : Sp p D fs N R x) : Sp p D fs N R' x := by
  induction hx with
  | zero => exact .zero
  | add _ hr hf ih => exact ih.lin h (hs _ hr) hf
theorem Sp.scaleI (h : FV p D fs) {r : List Int} {c : Nat} (hr : Sp p D fs N R r) : Sp p D fs N R (scaleI p D fs r c) := by
  have hw := hr.rw h.fa
  have : Go.Proofs.YtljemlfocajhnaaGreat.scaleI p D fs r c = addT p D fs (zr N) r (finv p D fs (cf r c)) :=
    Rw.ext ((scaleI_len _).trans hw.1) ((Rw.zr h.fa N).add h.fa _ _).1 fun k hk => by
      rw [cf_addT (by rw [zr_len]; exact hk), cf_zr, fadd0 h.fa (fmul_el h.fa _ _)]
      unfold Go.Proofs.YtljemlfocajhnaaGreat.scaleI; rw [cf_tab (by rw [hw.1]; exact hk)]
  rw [this]; exact Sp.zero.lin h.fa hr (finv_el h _)
variable {t c i : Nat}
theorem scaleI_rw (h : FA p D fs) {r : List Int} (hr : Rw p D N r) : Rw p D N (scaleI p D fs r c) := ⟨(scaleI_len _).trans hr.1, scaleI_in h _⟩
/-- the rows behind one step -/
theorem ra_stepR {j : Nat} (ht : t < R.length) (hi : i < R.length) (hj : j < R.length) : ra (stepR p D fs R t c i) j = if j = t then scaleI p D fs (ra R i) c else subI p D fs (if j = i then ra R t else ra R j) (scaleI p D fs (ra R i) c) c := by
  unfold stepR elimP
  rw [ra_mi (by rw [swapR_len]; exact hj)]
  have e : ra (swapR p D fs R t c i) j = if j = t then scaleI p D fs (ra R i) c else if j = i then ra R t else ra R j := by
    unfold swapR
    rw [ra_set (by simpa using ht), ra_set (by simpa using hi), ra_set ht]
    by_cases e1 : t = j
    · rw [if_pos e1, if_pos e1.symm]
    · have e1' : ¬ j = t := fun e => e1 e.symm
      by_cases e2 : i = j
      · rw [if_neg e1, if_pos e2, if_neg e1', if_pos e2.symm]
      · rw [if_neg e1, if_neg e2, if_neg e1, if_neg e1', if_neg (fun e => e2 e.symm)]
  rw [e]
  by_cases e1 : j = t
  · rw [if_neg (by omega), if_pos e1, if_pos e1]
  · rw [if_pos ⟨hj, e1⟩, if_neg e1, if_neg e1]
/-! ### echelon forms -/
structure Ech (p : Int) (D N c : Nat) (R : List (List Int)) (piv : List Int) : Prop where
  le : piv.length ≤ R.length
  rc : Rect p D N R
  pv : ∀ i, i < piv.length → 0 ≤ cf piv i ∧ cf piv i < c
  inc : ∀ i j, i < j → j < piv.length → cf piv i < cf piv j
  one : ∀ i, i < piv.length → cf (ra R i) (cf piv i).toNat = 1
  zero : ∀ i j, i < piv.length → j < R.length → j ≠ i → cf (ra R j) (cf piv i).toNat = 0
  lead : ∀ i k, i < piv.length → k < (cf piv i).toNat → cf (ra R i) k = 0
  low : ∀ j k, piv.length ≤ j → j < R.length → k < c → cf (ra R j) k = 0
theorem Ech.start (hR : Rect p D N R) : Ech p D N 0 R [] := ⟨by simp, hR, by simp, by simp, by simp, by simp, by simp, fun _ _ _ _ h => by omega⟩
theorem Ech.up {piv : List Int} (h : Ech p D N c R piv) (hl : R.length ≤ piv.length) {c' : Nat} (hc : c ≤ c') : Ech p D N c' R piv :=
  ⟨h.le, h.rc, fun i hi => by have := h.pv i hi; omega, h.inc, h.one, h.zero, h.lead, fun j k h1 h2 _ => by omega⟩
theorem Ech.none {piv : List Int} (h : Ech p D N c R piv) (hz : fnz R piv.length c = none) : Ech p D N (c + 1) R piv :=
  ⟨h.le, h.rc, fun i hi => by have := h.pv i hi; omega, h.inc, h.one, h.zero, h.lead, fun j k h1 h2 h3 => by
    by_cases e : k = c
    · subst e; exact fnz_none hz h1 h2
    · exact h.low j k h1 h2 (by omega)⟩
theorem Ech.some {piv : List Int} (hf : FV p D fs) (h : Ech p D N c R piv) (hc : c < N) (hz : fnz R piv.length c = some i) : Ech p D N (c + 1) (stepR p D fs R piv.length c i) (piv ++ [(c : Int)]) := by
  obtain ⟨h1, h2, h3, _⟩ := fnz_some hz
  have ht : piv.length < R.length := by omega
  have hri := h.rc.ra h2
  have hP1 : cf (scaleI p D fs (ra R i) c) c = 1 := by
    unfold scaleI; rw [cf_tab (by rw [hri.1]; exact hc), fmul_comm hf.fa]; exact (finv_ok hf (inEl hf.fa.pos hri.2 c) h3).2
  have hP0 : ∀ k, k < c → cf (scaleI p D fs (ra R i) c) k = 0 := fun k hk => by
    unfold scaleI; rw [cf_tab (by rw [hri.1]; omega), h.low i k h1 h2 hk, fmul_zero hf.fa]
  -- the other rows
  have hrw : ∀ j, j < R.length → Rw p D N (if j = i then ra R piv.length else ra R j) := fun j hj => by split; exact h.rc.ra ht; exact h.rc.ra hj
  have hk0 : ∀ j k, j < R.length → j ≠ piv.length → k < c → cf (ra (stepR p D fs R piv.length c i) j) k = cf (if j = i then ra R piv.length else ra R j) k := fun j k hj hne hk => by
    rw [ra_stepR ht h2 hj, if_neg hne, subI_add hf.fa (hrw j hj), cf_addT (by rw [(hrw j hj).1]; omega), hP0 k hk, fmul_zero hf.fa, fsum_zero hf.p2 ((hrw j hj).el hf.fa k)]
  have hkc : ∀ j, j < R.length → j ≠ piv.length → cf (ra (stepR p D fs R piv.length c i) j) c = 0 := fun j hj hne => by
    rw [ra_stepR ht h2 hj, if_neg hne, subI_add hf.fa (hrw j hj), cf_addT (by rw [(hrw j hj).1]; omega), hP1, fmul_one hf.fa (fneg_el hf.fa _), fneg_self hf.fa ((hrw j hj).el hf.fa c)]
  have hT : ra (stepR p D fs R piv.length c i) piv.length = scaleI p D fs (ra R i) c := by rw [ra_stepR ht h2 ht, if_pos rfl]
  have hpl : (piv ++ [(c : Int)]).length = piv.length + 1 := by simp
  refine ⟨by rw [stepR_len, hpl]; omega, h.rc.stepR hf.fa ht h2, ?_, ?_, ?_, ?_, ?_, ?_⟩
  · intro k hk
    rw [hpl] at hk
    by_cases e : k = piv.length
    · rw [cf_appR e]; omega
    · rw [cf_appL (by omega)]; have := h.pv k (by omega); omega
  · intro k l hkl hl
    rw [hpl] at hl
    by_cases e : l = piv.length
    · rw [cf_appR e, cf_appL (by omega)]; exact (h.pv k (by omega)).2
    · rw [cf_appL (by omega), cf_appL (by omega)]; exact h.inc k l hkl (by omega)
  · intro k hk
    rw [hpl] at hk
    by_cases e : k = piv.length
    · rw [cf_appR e, e, hT, Int.toNat_natCast]; exact hP1
    · have hp := h.pv k (by omega)
      rw [cf_appL (by omega), hk0 k _ (by omega) e (by omega), if_neg (by omega)]; exact h.one k (by omega)
  · intro k j hk hj hne
    rw [hpl] at hk; rw [stepR_len] at hj
    by_cases e : k = piv.length
    · rw [cf_appR e, Int.toNat_natCast]; exact hkc j hj (by omega)
    · have hp := h.pv k (by omega)
      rw [cf_appL (by omega)]
      by_cases ej : j = piv.length
      · rw [ej, hT]; exact hP0 _ (by omega)
      · rw [hk0 j _ hj ej (by omega)]
        split
        · exact h.zero k _ (by omega) ht (by omega)
        · exact h.zero k j (by omega) hj hne
  · intro k l hk hl
    rw [hpl] at hk
    by_cases e : k = piv.length
    · rw [cf_appR e, Int.toNat_natCast] at hl
      rw [e, hT]; exact hP0 l hl
    · have hp := h.pv k (by omega)
      rw [cf_appL (by omega)] at hl
      rw [hk0 k l (by omega) e (by omega), if_neg (by omega)]; exact h.lead k l (by omega) hl
  · intro j k hj1 hj2 hk
    rw [hpl] at hj1; rw [stepR_len] at hj2
    by_cases e : k = c
    · rw [e]; exact hkc j hj2 (by omega)
    · rw [hk0 j k hj2 (by omega) (by omega)]
      split
      · exact h.low _ k (by omega) ht (by omega)
      · exact h.low j k (by omega) hj2 (by omega)
/-! ### what is left of a row behind the rows of an echelon form -/
variable {piv : List Int} {x y : List Int}
theorem Ech.pvN (hE : Ech p D N N R piv) : ∀ i, i < piv.length → (cf piv i).toNat < N := fun i hi => by have := hE.pv i hi; omega
/-! ### the columns in which rows of a span begin -/
theorem Ech.nodup {c : Nat} (hE : Ech p D N c R piv) : piv.Nodup := by
  rw [List.nodup_iff_pairwise_ne, List.pairwise_iff_getElem]
  intro i j hi hj hij
  have := hE.inc i j hij hj
  rw [cf_eq hi, cf_eq hj] at this
  omega
theorem Ech.nat {c : Nat} (hE : Ech p D N c R piv) {a : Int} (ha : a ∈ piv) : ((a.toNat : Nat) : Int) = a := by
  obtain ⟨i, hi, he⟩ := List.getElem_of_mem ha
  have := hE.pv i hi
  rw [cf_eq hi, he] at this
  omega
end

end Go.Proofs.YtljemlfocajhnaaGreat
end

section
/- Subsets by rank and next subsets, counts of values, in plain terms. -/
namespace Go.Proofs.YtljemlfocajhnaaGreat
set_option linter.unusedSimpArgs false
set_option linter.unusedVariables false

/-! ### counts of values -/
def sumL : List Int → Int
  | [] => 0
  | x :: r => x + sumL r
/-! ### the index of a strength -/
end Go.Proofs.YtljemlfocajhnaaGreat
end

section
/- Linear equations and inverses by row reduction, in plain terms. The determinant by elimination below the pivots, in plain terms. Inverses by row reduction of a matrix beside the unit matrix, in plain terms. -/
namespace Go.Proofs.YtljemlfocajhnaaGreat
set_option linter.unusedSimpArgs false
set_option linter.unusedVariables false

section
variable {p : Int} {D : Nat} {fs : List Int}
end

def swp (S : List (List Int)) (t i : Nat) : List (List Int) := (S.set t (ra S i)).set i (ra S t)
section
variable {p : Int} {D : Nat} {fs : List Int} {R S : List (List Int)} {P : List Int} {t c k i n : Nat} {e : Int}
theorem Rect.swp (h : Rect p D n S) (ht : t < S.length) (hi : i < S.length) : Rect p D n (swp S t i) := (h.set (h.ra hi)).set (h.ra ht)
end

section
variable {p : Int} {D : Nat} {fs : List Int}
end

end Go.Proofs.YtljemlfocajhnaaGreat
end
