/- The texts of this claim, run 3: PSet PCyc2 PStr PDr. -/
import Derived.Test.YtejncephbafcdaaK1
import Derived.Test.YtejncephbafcdaaK2

section
/- Sets of small numbers as rising lists, in plain terms. -/
namespace Go.Proofs.Ytejncephbafcdaa
set_option linter.unusedSimpArgs false
set_option linter.unusedVariables false

/-- increasing numbers from last on, below n -/
def incB (last n : Int) : List Int → Bool
  | [] => true
  | x :: xs => if x ≤ last ∨ n ≤ x then false else incB x n xs

theorem incB_gt : ∀ {xs : List Int} {last n : Int}, incB last n xs = true → ∀ x ∈ xs, last < x ∧ x < n
  | [], _, _, _, x, hx => by simp at hx
  | y :: ys, last, n, h, x, hx => by
    unfold incB at h
    split at h
    · cases h
    · rename_i hn
      rcases List.mem_cons.1 hx with rfl | hx
      · omega
      · have := incB_gt h x hx; omega

/-- a set of numbers below 32 -/
def IsSet (a : List Int) : Prop := incB (-1) 32 a = true
instance (a : List Int) : Decidable (IsSet a) := inferInstanceAs (Decidable (incB (-1) 32 a = true))
end Go.Proofs.Ytejncephbafcdaa
end

section
/- Cycles of a permutation, in plain terms. The list of the cycles of a permutation: how many, how long, what is seen; powers. -/
namespace Go.Proofs.Ytejncephbafcdaa
set_option linter.unusedSimpArgs false
set_option linter.unusedVariables false

theorem it_add (p : Nat → Nat) (a : Nat) : ∀ (b x : Nat), it p (b + a) x = it p b (it p a x)
  | 0, x => by rw [Nat.zero_add]; rfl
  | b + 1, x => by
    rw [show b + 1 + a = (b + a) + 1 by omega]
    show p (it p (b + a) x) = p (it p b (it p a x))
    rw [it_add p a b x]
theorem it_comm (p : Nat → Nat) (a b x : Nat) : it p a (it p b x) = it p b (it p a x) := by rw [← it_add, ← it_add, Nat.add_comm]
section
variable {n : Nat} {p : Nat → Nat}
theorem it_inj (h : Bij n p) {x y : Nat} (hx : x < n) (hy : y < n) : ∀ {k : Nat}, it p k x = it p k y → x = y
  | 0, e => e
  | k + 1, e => it_inj h hx hy (k := k) (h.inj _ _ (it_lt h hx k) (it_lt h hy k) e)
theorem period (h : Bij n p) {x : Nat} (hx : x < n) : ∃ L, 1 ≤ L ∧ L ≤ n ∧ it p L x = x := by
  refine Classical.byContradiction fun hno => ?_
  have hnd : ((List.range (n + 1)).map fun k => it p k x).Nodup := by
    rw [List.nodup_iff_pairwise_ne, List.pairwise_iff_getElem]
    intro a b ha hb hab
    simp only [List.length_map, List.length_range] at ha hb
    simp only [List.getElem_map, List.getElem_range]
    intro e
    refine hno ⟨b - a, by omega, by omega, ?_⟩
    have e2 : it p b x = it p a (it p (b - a) x) := by rw [← it_add]; congr 1; omega
    rw [e2] at e
    exact (it_inj h hx (it_lt h hx _) e).symm
  have hsub : ((List.range (n + 1)).map fun k => it p k x) ⊆ List.range n := fun z hz => by
    obtain ⟨k, _, rfl⟩ := List.mem_map.1 hz
    exact List.mem_range.2 (it_lt h hx k)
  have := List.Nodup.length_le_of_subset hnd hsub
  simp at this
  omega
/-- the first number from k on, of the next f, at which x is met again -/
def clS (p : Nat → Nat) (x : Nat) : Nat → Nat → Nat
  | 0, k => k
  | f + 1, k => if it p k x = x then k else clS p x f (k + 1)
theorem clS_spec (p : Nat → Nat) (x : Nat) : ∀ (f k L : Nat), k ≤ L → L ≤ k + f → it p L x = x → k ≤ clS p x f k ∧ clS p x f k ≤ L ∧ it p (clS p x f k) x = x ∧ ∀ m, k ≤ m → m < clS p x f k → it p m x ≠ x
  | 0, k, L, h1, h2, h3 => by
    have : L = k := by omega
    subst this
    exact ⟨Nat.le_refl _, Nat.le_refl _, h3, fun m hm hm2 => by have : m < L := hm2; omega⟩
  | f + 1, k, L, h1, h2, h3 => by
    rw [clS]
    split
    · rename_i e
      exact ⟨Nat.le_refl _, h1, e, fun m hm hm2 => by omega⟩
    · rename_i e
      have hne : k ≠ L := fun e2 => e (e2 ▸ h3)
      obtain ⟨a, b, c, d⟩ := clS_spec p x f (k + 1) L (by omega) (by omega) h3
      refine ⟨by omega, b, c, fun m hm hm2 => ?_⟩
      by_cases em : m = k
      · rw [em]; exact e
      · exact d m (by omega) hm2
/-- the length of the cycle of x -/
def clen (n : Nat) (p : Nat → Nat) (x : Nat) : Nat := clS p x n 1
structure ClOk (n : Nat) (p : Nat → Nat) (x L : Nat) : Prop where
  pos : 1 ≤ L
  le : L ≤ n
  back : it p L x = x
  min : ∀ m, 1 ≤ m → m < L → it p m x ≠ x
theorem clen_ok (h : Bij n p) {x : Nat} (hx : x < n) : ClOk n p x (clen n p x) := by
  obtain ⟨L, h1, h2, h3⟩ := period h hx
  obtain ⟨a, b, c, d⟩ := clS_spec p x n 1 L h1 (by omega) h3
  exact ⟨a, Nat.le_trans b h2, c, d⟩
namespace ClOk
variable {x L : Nat}
theorem mul (h : ClOk n p x L) : ∀ k, it p (L * k) x = x
  | 0 => rfl
  | k + 1 => by rw [Nat.mul_succ, it_add, h.back, h.mul k]
theorem mod (h : ClOk n p x L) (k : Nat) : it p (k % L) x = it p k x := by
  conv => rhs; rw [← Nat.mod_add_div k L, it_add, h.mul]
theorem inj (h : ClOk n p x L) (hb : Bij n p) (hx : x < n) {i j : Nat} (hi : i < L) (hj : j < L) (e : it p i x = it p j x) : i = j := by
  have key : ∀ {i j : Nat}, i < j → j < L → it p i x ≠ it p j x := fun {i j} hij hj e => by
    have e2 : it p j x = it p i (it p (j - i) x) := by rw [← it_add]; congr 1; omega
    rw [e2] at e
    exact h.min (j - i) (by omega) (by omega) (it_inj hb hx (it_lt hb hx _) e).symm
  rcases Nat.lt_trichotomy i j with hlt | heq | hgt
  · exact absurd e (key hlt hj)
  · exact heq
  · exact absurd e.symm (key hgt hi)
/-- all of one cycle have the same length -/
theorem it (h : ClOk n p x L) (hb : Bij n p) (hx : x < n) (k : Nat) : ClOk n p (Go.Proofs.Ytejncephbafcdaa.it p k x) L where
  pos := h.pos
  le := h.le
  back := by rw [it_comm, h.back]
  min m h1 h2 e := by
    rw [it_comm] at e
    exact h.min m h1 h2 (it_inj hb (it_lt hb hx m) hx e)
end ClOk
/-- the cycle of x, x first -/
def cycL (n : Nat) (p : Nat → Nat) (x : Nat) : List Nat := (List.range (clen n p x)).map fun k => it p k x
theorem mem_cycL (h : Bij n p) {x : Nat} (hx : x < n) {y : Nat} : y ∈ cycL n p x ↔ ∃ k, y = it p k x := by
  have hc := clen_ok h hx
  constructor
  · intro hy
    obtain ⟨k, _, rfl⟩ := List.mem_map.1 hy
    exact ⟨k, rfl⟩
  · rintro ⟨k, rfl⟩
    have := hc.pos
    exact List.mem_map.2 ⟨k % clen n p x, List.mem_range.2 (Nat.mod_lt _ (by omega)), hc.mod k⟩
/-- cycles are the same or apart -/
theorem cycL_sym (h : Bij n p) {x y : Nat} (hx : x < n) (hy : y ∈ cycL n p x) : x ∈ cycL n p y := by
  obtain ⟨k, rfl⟩ := (mem_cycL h hx).1 hy
  have hc := clen_ok h hx
  refine (mem_cycL h (it_lt h hx k)).2 ⟨(clen n p x - 1) * k, ?_⟩
  have hp := hc.pos
  rw [← it_add]
  obtain ⟨m, hm⟩ := Nat.exists_eq_add_of_le' hp
  rw [hm, Nat.add_sub_cancel, show m * k + k = (m + 1) * k by rw [Nat.succ_mul], ← hm, hc.mul]
theorem cycL_trans (h : Bij n p) {x y z : Nat} (hx : x < n) (hy : y ∈ cycL n p x) (hz : z ∈ cycL n p y) : z ∈ cycL n p x := by
  obtain ⟨k, rfl⟩ := (mem_cycL h hx).1 hy
  obtain ⟨l, rfl⟩ := (mem_cycL h (it_lt h hx k)).1 hz
  exact (mem_cycL h hx).2 ⟨l + k, (it_add p k l x).symm⟩
/-- x leads exactly if no smaller number's cycle has it -/
theorem lead_iff (h : Bij n p) {x : Nat} (hx : x < n) : Lead p x ↔ ∀ y, y < x → x ∉ cycL n p y := by
  constructor
  · intro hl y hyx hm
    obtain ⟨k, e⟩ := (mem_cycL h hx).1 (cycL_sym h (by omega) hm)
    have := hl k
    omega
  · intro hno k
    refine Nat.le_of_not_lt fun hlt => ?_
    have hm : it p k x ∈ cycL n p x := (mem_cycL h hx).2 ⟨k, rfl⟩
    exact hno _ hlt (cycL_sym h hx hm)
end

open Classical in
/-- the cycles that the numbers below m lead -/
noncomputable def cycs (n : Nat) (p : Nat → Nat) : Nat → List (List Nat)
  | 0 => []
  | m + 1 => cycs n p m ++ if Lead p m then [cycL n p m] else []
section
variable {n : Nat} {p : Nat → Nat}
theorem mem_cycs (h : Bij n p) {y : Nat} : ∀ {m : Nat}, m ≤ n → (y ∈ (cycs n p m).flatten ↔ ∃ x, x < m ∧ y ∈ cycL n p x)
  | 0, _ => by simp [cycs]
  | m + 1, hm => by
    have ih := mem_cycs h (y := y) (m := m) (by omega)
    rw [cycs, List.flatten_append, List.mem_append, ih]
    have hmn : m < n := by omega
    constructor
    · rintro (⟨x, hx, hy⟩ | hy)
      · exact ⟨x, by omega, hy⟩
      · split at hy
        · exact ⟨m, by omega, by simpa using hy⟩
        · simp at hy
    · rintro ⟨x, hx, hy⟩
      by_cases e : x = m
      · subst e
        by_cases hl : Lead p x
        · right; rw [if_pos hl]; simpa using hy
        · left
          have hn := fun hh => hl ((lead_iff h hmn).2 hh)
          refine Classical.byContradiction fun hno => hn fun z hz hm2 => hno ⟨z, hz, cycL_trans h (by omega) hm2 hy⟩
      · exact .inl ⟨x, by omega, hy⟩
/-- a number is a lead exactly if it has not been seen -/
theorem lead_seen (h : Bij n p) {x : Nat} (hx : x < n) : Lead p x ↔ x ∉ (cycs n p x).flatten := by
  rw [mem_cycs h (by omega), lead_iff h hx]
  exact ⟨fun a ⟨y, hy, hm⟩ => a y hy hm, fun a y hy hm => a ⟨y, hy, hm⟩⟩
end

end Go.Proofs.Ytejncephbafcdaa
end

section
/- Subsets by rank and next subsets, counts of values, in plain terms. -/
namespace Go.Proofs.Ytejncephbafcdaa
set_option linter.unusedSimpArgs false
set_option linter.unusedVariables false

/-- element j -/
def pn (xs : List Int) (j : Nat) : Int := xs.getD j 0

/-- n over k, after i steps -/
def chs (n k : Int) : Nat → Int
  | 0 => 1
  | i + 1 => chs n k i * (n - k + (i + 1)) / (i + 1)
def choose (n k : Int) : Int := if 0 ≤ n ∧ n ≤ 32 ∧ 0 ≤ k ∧ k ≤ n then chs n k k.toNat else 0

/-- the rest of the set with a rank, from x on, l points being chosen -/
def unrF (n k : Int) : Nat → Int → Int → Int → List Int
  | 0, _, _, _ => []
  | f + 1, x, l, r => if l < k ∧ x < n then (if r < choose (n - 1 - x) (k - 1 - l) then x :: unrF n k f (x + 1) (l + 1) r else unrF n k f (x + 1) l (r - choose (n - 1 - x) (k - 1 - l))) else []
def subsAt (n k r : Int) : List Int := unrF n k n.toNat 0 0 r

/-- the next set, the places below i being looked at -/
def nxtI (n : Int) (xs : List Int) : Nat → Option (List Int)
  | 0 => none
  | i + 1 => if pn xs i = n - xs.length + i then nxtI n xs i else some (xs.take i ++ (List.range (xs.length - i)).map fun (d : Nat) => pn xs i + 1 + (d : Int))
def nxt (n : Int) (xs : List Int) : Option (List Int) := nxtI n xs xs.length

def chsOk (n k i : Nat) : Bool := decide (1 ≤ chs n k i ∧ chs n k i ≤ 1000000000)
theorem chs_check : ((List.range 33).all fun n => (List.range (n + 1)).all fun k => (List.range (k + 1)).all fun i => chsOk n k i) = true := by decide +kernel
theorem chs_bd {n k : Int} {i : Nat} (h0 : 0 ≤ n) (h1 : n ≤ 32) (h2 : 0 ≤ k) (h3 : k ≤ n) (h4 : (i : Int) ≤ k) : 1 ≤ chs n k i ∧ chs n k i ≤ 1000000000 := by
  obtain ⟨n, rfl⟩ := Int.eq_ofNat_of_zero_le h0
  obtain ⟨k, rfl⟩ := Int.eq_ofNat_of_zero_le h2
  have h := chs_check
  rw [List.all_eq_true] at h
  have h := h n (List.mem_range.2 (by omega))
  rw [List.all_eq_true] at h
  have h := h k (List.mem_range.2 (by omega))
  rw [List.all_eq_true] at h
  have h := h i (List.mem_range.2 (by omega))
  simpa [chsOk] using h
theorem choose_bd (n k : Int) : 0 ≤ choose n k ∧ choose n k ≤ 1000000000 := by
  unfold choose
  split
  · rename_i h
    have := chs_bd (i := k.toNat) h.1 h.2.1 h.2.2.1 h.2.2.2 (by omega)
    omega
  · omega
theorem choose_pos {n k : Int} (h0 : 0 ≤ n) (h1 : n ≤ 32) (h2 : 0 ≤ k) (h3 : k ≤ n) : 1 ≤ choose n k := by
  unfold choose
  rw [if_pos ⟨h0, h1, h2, h3⟩]
  exact (chs_bd (i := k.toNat) h0 h1 h2 h3 (by omega)).1

def subsOk (n k r : Nat) : Bool :=
  let s := subsAt n k r
  incB (-1) n s && (s.length == k) && (nxt n s == if (r : Int) + 1 < choose n k then some (subsAt n k (r + 1)) else none)
theorem subs_check : ((List.range 9).all fun n => (List.range (n + 1)).all fun k => k == 0 || ((List.range (choose n k).toNat).all fun r => subsOk n k r) && (subsAt n k 0 == (List.range k).map fun (j : Nat) => (j : Int))) = true := by decide +kernel

theorem subs_small {n k : Nat} (hn : n ≤ 8) (hk1 : 1 ≤ k) (hk : k ≤ n) : subsAt n k 0 = (List.range k).map (fun (j : Nat) => (j : Int)) ∧
    ∀ r : Nat, (r : Int) < choose n k → incB (-1) n (subsAt n k r) = true ∧ (subsAt n k r).length = k ∧ nxt n (subsAt n k r) = if (r : Int) + 1 < choose n k then some (subsAt n k (r + 1)) else none := by
  have h := subs_check
  rw [List.all_eq_true] at h
  have h := h n (List.mem_range.2 (by omega))
  rw [List.all_eq_true] at h
  have h := h k (List.mem_range.2 (by omega))
  have hk0 : (k == 0) = false := by simp; omega
  rw [hk0, Bool.false_or, Bool.and_eq_true, List.all_eq_true] at h
  refine ⟨by simpa using h.2, fun r hr => ?_⟩
  have h := h.1 r (List.mem_range.2 (by omega))
  simp only [subsOk, Bool.and_eq_true, beq_iff_eq] at h
  exact ⟨h.1.1, h.1.2, h.2⟩

/-! ### counts of values -/
/-- the number that a row has in some columns -/
def numC (lv : Int) (cols : List Int) (row : List Int) : Int := cols.foldl (fun n c => n * lv + pn row c.toNat) 0
/-- how many rows have the number j -/
def cntR (lv : Int) (cols : List Int) (rows : List (List Int)) (j : Nat) : Int := ((rows.countP fun row => numC lv cols row == (j : Int) : Nat) : Int)
def cts (lv : Int) (cols : List Int) (rows : List (List Int)) (K : Nat) : List Int := (List.range K).map (cntR lv cols rows)
theorem cts_len (lv : Int) (cols : List Int) (rows : List (List Int)) (K : Nat) : (cts lv cols rows K).length = K := by simp [cts]
theorem pn_cts {lv : Int} {cols : List Int} {rows : List (List Int)} {K j : Nat} (h : j < K) : pn (cts lv cols rows K) j = cntR lv cols rows j := by simp [pn, cts, h]
theorem cts_nil (lv : Int) (cols : List Int) (K : Nat) : cts lv cols [] K = List.replicate K 0 := by
  apply List.ext_getElem
  · simp [cts]
  · intro i h1 h2; simp [cts, cntR]
theorem cntR_snoc (lv : Int) (cols : List Int) (rows : List (List Int)) (row : List Int) (j : Nat) : cntR lv cols (rows ++ [row]) j = cntR lv cols rows j + if numC lv cols row = (j : Int) then 1 else 0 := by
  unfold cntR
  rw [List.countP_append]
  by_cases h : numC lv cols row = (j : Int) <;> simp [h]
theorem cts_snoc {lv : Int} {cols : List Int} {rows : List (List Int)} {row : List Int} {K p : Nat} (hp : numC lv cols row = p) (hK : p < K) :
    cts lv cols (rows ++ [row]) K = (cts lv cols rows K).set p (pn (cts lv cols rows K) p + 1) := by
  rw [pn_cts hK]
  apply List.ext_getElem
  · simp [cts]
  · intro i h1 h2
    rw [List.getElem_set]
    simp only [cts, List.getElem_map, List.getElem_range]
    rw [cntR_snoc, hp]
    by_cases e : p = i
    · subst e; simp
    · rw [if_neg e, if_neg (by omega)]; omega
theorem cntR_bd (lv : Int) (cols : List Int) (rows : List (List Int)) (j : Nat) : 0 ≤ cntR lv cols rows j ∧ cntR lv cols rows j ≤ rows.length := by
  unfold cntR
  have := List.countP_le_length (p := fun row => numC lv cols row == (j : Int)) (l := rows)
  omega

def sumL : List Int → Int
  | [] => 0
  | x :: r => x + sumL r
theorem sumL_set {xs : List Int} {p : Nat} (h : p < xs.length) : sumL (xs.set p (pn xs p + 1)) = sumL xs + 1 := by
  induction xs generalizing p with
  | nil => simp at h
  | cons x r ih =>
    cases p with
    | zero => simp [sumL, pn]; omega
    | succ p =>
      have := ih (p := p) (by simpa using h)
      simp only [List.set_cons_succ, sumL]
      have e : pn (x :: r) (p + 1) = pn r p := by simp [pn]
      rw [e, this]; omega
theorem sumL_rep (n : Nat) (c : Int) : sumL (List.replicate n c) = n * c := by
  induction n with
  | zero => simp [sumL]
  | succ n ih => simp only [List.replicate_succ, sumL, ih]; push_cast; rw [Int.add_mul]; omega
theorem sumL_cts {lv : Int} {cols : List Int} {rows : List (List Int)} {K : Nat} (h : ∀ row ∈ rows, 0 ≤ numC lv cols row ∧ numC lv cols row < K) : sumL (cts lv cols rows K) = rows.length := by
  have key : ∀ k, k ≤ rows.length → sumL (cts lv cols (rows.take k) K) = k := by
    intro k
    induction k with
    | zero => intro _; rw [List.take_zero, cts_nil, sumL_rep]; simp
    | succ k ih =>
      intro hk
      have hk' : k < rows.length := by omega
      have h1 := h rows[k] (List.getElem_mem hk')
      obtain ⟨p, hp⟩ := Int.eq_ofNat_of_zero_le h1.1
      rw [List.take_succ_eq_append_getElem hk', cts_snoc hp (by omega), sumL_set (by rw [cts_len]; omega), ih (by omega)]
      push_cast; rfl
  have := key rows.length (Nat.le_refl _)
  rwa [List.take_length] at this

/-- the number that all counts are, or 0 -/
def evB (lv : Int) (cols : List Int) (rows : List (List Int)) (K : Nat) : Int := if (∀ j, j < K → cntR lv cols rows j = cntR lv cols rows 0) then cntR lv cols rows 0 else 0
theorem rep_of_all {xs : List Int} {c : Int} (h : ∀ j, j < xs.length → pn xs j = c) : xs = List.replicate xs.length c := by
  apply List.ext_getElem
  · simp
  · intro i h1 h2
    have := h i h1
    simp [pn, h1] at this
    simpa using this
theorem cts_all {lv : Int} {cols : List Int} {rows : List (List Int)} {K : Nat} (hr : ∀ row ∈ rows, 0 ≤ numC lv cols row ∧ numC lv cols row < K) {c : Int} (h : ∀ j, j < K → cntR lv cols rows j = c) : (K : Int) * c = rows.length := by
  have h1 := rep_of_all (xs := cts lv cols rows K) (c := c) (fun j hj => by rw [cts_len] at hj; rw [pn_cts hj, h j hj])
  have h2 := sumL_cts hr
  rw [h1, sumL_rep, cts_len] at h2
  exact h2
/-- rows of which there are some: all counts are equal exactly if each is the number of rows by the number of values -/
theorem evB_ne {lv : Int} {cols : List Int} {rows : List (List Int)} {K : Nat} (hK : 0 < K) (hr : ∀ row ∈ rows, 0 ≤ numC lv cols row ∧ numC lv cols row < K) (h : evB lv cols rows K ≠ 0) :
    (rows.length : Int) % K = 0 ∧ evB lv cols rows K = rows.length / K ∧ ∀ j, j < K → cntR lv cols rows j = rows.length / K := by
  unfold evB at h ⊢
  split at h
  · rename_i ha
    rw [if_pos ha]
    have h1 := cts_all hr ha
    have h2 : (rows.length : Int) / K = cntR lv cols rows 0 := by rw [← h1]; exact Int.mul_ediv_cancel_left _ (by omega)
    refine ⟨by rw [← h1]; exact Int.mul_emod_right _ _, h2.symm, fun j hj => by rw [ha j hj, h2]⟩
  · exact absurd rfl h
theorem evB_eq {lv : Int} {cols : List Int} {rows : List (List Int)} {K : Nat} (hK : 0 < K) (hm : (K : Int) ≤ rows.length) (h : ∀ j, j < K → cntR lv cols rows j = (rows.length : Int) / K) : evB lv cols rows K ≠ 0 := by
  unfold evB
  rw [if_pos (fun j hj => by rw [h j hj, h 0 hK]), h 0 hK]
  have := Int.ediv_le_ediv (show (0 : Int) < K by omega) hm
  rw [Int.ediv_self (by omega)] at this
  omega

/-- the number is below the power -/
theorem numF_bd {lv : Int} (hl : 2 ≤ lv) {row : List Int} : ∀ (cols : List Int) (n : Int) (m : Nat), 0 ≤ n → n < lv ^ m → (∀ c ∈ cols, 0 ≤ pn row c.toNat ∧ pn row c.toNat ≤ lv - 1) →
    0 ≤ cols.foldl (fun n c => n * lv + pn row c.toNat) n ∧ cols.foldl (fun n c => n * lv + pn row c.toNat) n < lv ^ (m + cols.length)
  | [], n, m, h0, h1, _ => ⟨h0, h1⟩
  | c :: r, n, m, h0, h1, h => by
    have hc := h c (by simp)
    have h2 : n * lv + pn row c.toNat < lv ^ (m + 1) := by
      rw [Int.pow_succ]
      have := Int.mul_le_mul_of_nonneg_right (show n + 1 ≤ lv ^ m by omega) (show 0 ≤ lv by omega)
      rw [Int.add_mul] at this
      omega
    have h3 : 0 ≤ n * lv + pn row c.toNat := by have := Int.mul_nonneg h0 (show 0 ≤ lv by omega); omega
    have := numF_bd hl r _ (m + 1) h3 h2 (fun d hd => h d (by simp [hd]))
    simp only [List.foldl_cons, List.length_cons]
    rw [show m + (r.length + 1) = m + 1 + r.length by omega]
    exact this
theorem numC_bd {lv : Int} (hl : 2 ≤ lv) {row cols : List Int} (h : ∀ c ∈ cols, 0 ≤ pn row c.toNat ∧ pn row c.toNat ≤ lv - 1) : 0 ≤ numC lv cols row ∧ numC lv cols row < lv ^ cols.length := by
  have := numF_bd hl (row := row) cols 0 0 (by omega) (by simp) h
  simpa [numC] using this

/-! ### the index of a strength -/
/-- every set of t columns of co is such -/
def allS (co t : Int) (P : List Int → Prop) : Prop := ∀ r : Nat, (r : Int) < choose co t → P (subsAt co t r)
open Classical in
/-- the index, K being the power of the levels, as far as it is reckoned -/
noncomputable def strG (lv co : Int) (rows : List (List Int)) (t K : Int) : Int :=
  if (rows.length : Int) < K then 0 else if allS co t (fun cols => evB lv cols rows K.toNat ≠ 0) then rows.length / K else 0
end Go.Proofs.Ytejncephbafcdaa
end

section
/- Derived and doubled arrays of strength T and index 1, in plain terms. -/
namespace Go.Proofs.Ytejncephbafcdaa
set_option linter.unusedSimpArgs false
set_option linter.unusedVariables false
/-- strength T and index 1, columns by count -/
structure OA1 (lv m T : Nat) (rows : List (List Int)) : Prop where
  len : ∀ r ∈ rows, r.length = m
  bd : ∀ r ∈ rows, ∀ i, i < m → 0 ≤ pn r i ∧ pn r i ≤ (lv : Int) - 1
  cnt : ∀ cols : List Int, incB (-1) m cols = true → cols.length = T → ∀ j, j < lv ^ T → cntR lv cols rows j = 1
theorem strG_of {lv m T : Nat} {rows : List (List Int)} {i : Nat} (hlv : 2 ≤ lv) (hT : 1 ≤ T) (hTm : T ≤ m) (hm8 : m ≤ 8) (hi : 1 ≤ i) (hlen : rows.length = lv ^ T * i)
    (hc : ∀ cols : List Int, incB (-1) m cols = true → cols.length = T → ∀ j, j < lv ^ T → cntR lv cols rows j = i) : strG lv m rows T ((lv ^ T : Nat) : Int) = i := by
  have hK : 0 < lv ^ T := Nat.pow_pos (by omega)
  have hle : lv ^ T ≤ rows.length := by rw [hlen]; exact Nat.le_mul_of_pos_right _ (by omega)
  have hd : (rows.length : Int) / ((lv ^ T : Nat) : Int) = i := by
    rw [hlen, Int.natCast_mul]; exact Int.mul_ediv_cancel_left _ (by omega)
  unfold strG
  rw [if_neg (by omega), if_pos, hd]
  intro r hr
  obtain ⟨hc1, hl, _⟩ := (subs_small (n := m) (k := T) hm8 hT hTm).2 r hr
  rw [Int.toNat_natCast]
  refine evB_eq hK (by omega) fun j hj => ?_
  rw [hc _ hc1 hl j hj, hd]
theorem incB_range {m T : Nat} (hT : T ≤ m) : ∃ cols : List Int, incB (-1) m cols = true ∧ cols.length = T := by
  have key : ∀ k a : Nat, a + k ≤ m → incB ((a : Int) - 1) m ((List.range' a k).map fun x : Nat => (x : Int)) = true := by
    intro k
    induction k with
    | zero => intro a _; rfl
    | succ k ih =>
      intro a ha
      rw [List.range'_succ, List.map_cons, incB, if_neg (by omega)]
      have := ih (a + 1) (by omega)
      rwa [show ((a + 1 : Nat) : Int) - 1 = a by omega] at this
  exact ⟨_, key T 0 (by omega), by simp⟩
namespace OA1
variable {lv m T : Nat} {rows : List (List Int)}
theorem length (h : OA1 lv m T rows) (hlv : 2 ≤ lv) (hTm : T ≤ m) : rows.length = lv ^ T := by
  obtain ⟨cols, hc, hl⟩ := incB_range hTm
  have hb := incB_gt hc
  have := cts_all (lv := lv) (cols := cols) (rows := rows) (K := lv ^ T) (fun r hr => by
    have := numC_bd (lv := lv) (by omega) (row := r) (cols := cols) (fun c hcm => by have := hb c hcm; exact h.bd r hr _ (by omega))
    rw [hl, ← Int.natCast_pow] at this; exact this) (c := 1) (fun j hj => h.cnt cols hc hl j hj)
  omega
theorem str (h : OA1 lv m T rows) (hlv : 2 ≤ lv) (hT : 1 ≤ T) (hTm : T ≤ m) (hm8 : m ≤ 8) : strG lv m rows T ((lv ^ T : Nat) : Int) = 1 :=
  strG_of (i := 1) hlv hT hTm hm8 (by omega) (by rw [h.length hlv hTm]; omega) h.cnt
end OA1

/-! ### a column taken out -/
end Go.Proofs.Ytejncephbafcdaa
end
