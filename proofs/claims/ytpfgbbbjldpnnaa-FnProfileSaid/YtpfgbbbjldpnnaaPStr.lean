/- Subsets by rank and next subsets, counts of values, in plain terms. -/
import Derived.Test.YtpfgbbbjldpnnaaPSet
namespace Go.Proofs.Ytpfgbbbjldpnnaa
set_option linter.unusedSimpArgs false
set_option linter.unusedVariables false

/-- element j -/
def pn (xs : List Int) (j : Nat) : Int := xs.getD j 0

/-- n over k, after i steps -/
def chs (n k : Int) : Nat → Int
  | 0 => 1
  | i + 1 => chs n k i * (n - k + (i + 1)) / (i + 1)
def choose (n k : Int) : Int := if 0 ≤ n ∧ n ≤ 32 ∧ 0 ≤ k ∧ k ≤ n then chs n k k.toNat else 0

/-- the rest of the set with a rank, from x on, l points being chosen -/
def unrF (n k : Int) : Nat → Int → Int → Int → List Int
  | 0, _, _, _ => []
  | f + 1, x, l, r => if l < k ∧ x < n then (if r < choose (n - 1 - x) (k - 1 - l) then x :: unrF n k f (x + 1) (l + 1) r else unrF n k f (x + 1) l (r - choose (n - 1 - x) (k - 1 - l))) else []
def subsAt (n k r : Int) : List Int := unrF n k n.toNat 0 0 r

/-- the next set, the places below i being looked at -/
def nxtI (n : Int) (xs : List Int) : Nat → Option (List Int)
  | 0 => none
  | i + 1 => if pn xs i = n - xs.length + i then nxtI n xs i else some (xs.take i ++ (List.range (xs.length - i)).map fun (d : Nat) => pn xs i + 1 + (d : Int))
def nxt (n : Int) (xs : List Int) : Option (List Int) := nxtI n xs xs.length

def chsOk (n k i : Nat) : Bool := decide (1 ≤ chs n k i ∧ chs n k i ≤ 1000000000)
theorem chs_check : ((List.range 33).all fun n => (List.range (n + 1)).all fun k => (List.range (k + 1)).all fun i => chsOk n k i) = true := by decide +kernel
theorem chs_bd {n k : Int} {i : Nat} (h0 : 0 ≤ n) (h1 : n ≤ 32) (h2 : 0 ≤ k) (h3 : k ≤ n) (h4 : (i : Int) ≤ k) : 1 ≤ chs n k i ∧ chs n k i ≤ 1000000000 := by
  obtain ⟨n, rfl⟩ := Int.eq_ofNat_of_zero_le h0
  obtain ⟨k, rfl⟩ := Int.eq_ofNat_of_zero_le h2
  have h := chs_check
  rw [List.all_eq_true] at h
  have h := h n (List.mem_range.2 (by omega))
  rw [List.all_eq_true] at h
  have h := h k (List.mem_range.2 (by omega))
  rw [List.all_eq_true] at h
  have h := h i (List.mem_range.2 (by omega))
  simpa [chsOk] using h
theorem choose_bd (n k : Int) : 0 ≤ choose n k ∧ choose n k ≤ 1000000000 := by
  unfold choose
  split
  · rename_i h
    have := chs_bd (i := k.toNat) h.1 h.2.1 h.2.2.1 h.2.2.2 (by omega)
    omega
  · omega
theorem choose_pos {n k : Int} (h0 : 0 ≤ n) (h1 : n ≤ 32) (h2 : 0 ≤ k) (h3 : k ≤ n) : 1 ≤ choose n k := by
  unfold choose
  rw [if_pos ⟨h0, h1, h2, h3⟩]
  exact (chs_bd (i := k.toNat) h0 h1 h2 h3 (by omega)).1

def subsOk (n k r : Nat) : Bool :=
  let s := subsAt n k r
  incB (-1) n s && (s.length == k) && (nxt n s == if (r : Int) + 1 < choose n k then some (subsAt n k (r + 1)) else none)
theorem subs_check : ((List.range 9).all fun n => (List.range (n + 1)).all fun k => k == 0 || ((List.range (choose n k).toNat).all fun r => subsOk n k r) && (subsAt n k 0 == (List.range k).map fun (j : Nat) => (j : Int))) = true := by decide +kernel

theorem subs_small {n k : Nat} (hn : n ≤ 8) (hk1 : 1 ≤ k) (hk : k ≤ n) : subsAt n k 0 = (List.range k).map (fun (j : Nat) => (j : Int)) ∧
    ∀ r : Nat, (r : Int) < choose n k → incB (-1) n (subsAt n k r) = true ∧ (subsAt n k r).length = k ∧ nxt n (subsAt n k r) = if (r : Int) + 1 < choose n k then some (subsAt n k (r + 1)) else none := by
  have h := subs_check
  rw [List.all_eq_true] at h
  have h := h n (List.mem_range.2 (by omega))
  rw [List.all_eq_true] at h
  have h := h k (List.mem_range.2 (by omega))
  have hk0 : (k == 0) = false := by simp; omega
  rw [hk0, Bool.false_or, Bool.and_eq_true, List.all_eq_true] at h
  refine ⟨by simpa using h.2, fun r hr => ?_⟩
  have h := h.1 r (List.mem_range.2 (by omega))
  simp only [subsOk, Bool.and_eq_true, beq_iff_eq] at h
  exact ⟨h.1.1, h.1.2, h.2⟩

/-! ### counts of values -/
/-- the number that a row has in some columns -/
def numC (lv : Int) (cols : List Int) (row : List Int) : Int := cols.foldl (fun n c => n * lv + pn row c.toNat) 0
/-- how many rows have the number j -/
def cntR (lv : Int) (cols : List Int) (rows : List (List Int)) (j : Nat) : Int := ((rows.countP fun row => numC lv cols row == (j : Int) : Nat) : Int)
def cts (lv : Int) (cols : List Int) (rows : List (List Int)) (K : Nat) : List Int := (List.range K).map (cntR lv cols rows)
theorem cts_len (lv : Int) (cols : List Int) (rows : List (List Int)) (K : Nat) : (cts lv cols rows K).length = K := by simp [cts]
theorem pn_cts {lv : Int} {cols : List Int} {rows : List (List Int)} {K j : Nat} (h : j < K) : pn (cts lv cols rows K) j = cntR lv cols rows j := by simp [pn, cts, h]
theorem cts_nil (lv : Int) (cols : List Int) (K : Nat) : cts lv cols [] K = List.replicate K 0 := by
  apply List.ext_getElem
  · simp [cts]
  · intro i h1 h2; simp [cts, cntR]
theorem cntR_snoc (lv : Int) (cols : List Int) (rows : List (List Int)) (row : List Int) (j : Nat) : cntR lv cols (rows ++ [row]) j = cntR lv cols rows j + if numC lv cols row = (j : Int) then 1 else 0 := by
  unfold cntR
  rw [List.countP_append]
  by_cases h : numC lv cols row = (j : Int) <;> simp [h]
theorem cts_snoc {lv : Int} {cols : List Int} {rows : List (List Int)} {row : List Int} {K p : Nat} (hp : numC lv cols row = p) (hK : p < K) :
    cts lv cols (rows ++ [row]) K = (cts lv cols rows K).set p (pn (cts lv cols rows K) p + 1) := by
  rw [pn_cts hK]
  apply List.ext_getElem
  · simp [cts]
  · intro i h1 h2
    rw [List.getElem_set]
    simp only [cts, List.getElem_map, List.getElem_range]
    rw [cntR_snoc, hp]
    by_cases e : p = i
    · subst e; simp
    · rw [if_neg e, if_neg (by omega)]; omega
theorem cntR_bd (lv : Int) (cols : List Int) (rows : List (List Int)) (j : Nat) : 0 ≤ cntR lv cols rows j ∧ cntR lv cols rows j ≤ rows.length := by
  unfold cntR
  have := List.countP_le_length (p := fun row => numC lv cols row == (j : Int)) (l := rows)
  omega

def sumL : List Int → Int
  | [] => 0
  | x :: r => x + sumL r
theorem sumL_app (a b : List Int) : sumL (a ++ b) = sumL a + sumL b := by
  induction a with
  | nil => simp [sumL]
  | cons x r ih => simp only [List.cons_append, sumL, ih]; omega
theorem sumL_set {xs : List Int} {p : Nat} (h : p < xs.length) : sumL (xs.set p (pn xs p + 1)) = sumL xs + 1 := by
  induction xs generalizing p with
  | nil => simp at h
  | cons x r ih =>
    cases p with
    | zero => simp [sumL, pn]; omega
    | succ p =>
      have := ih (p := p) (by simpa using h)
      simp only [List.set_cons_succ, sumL]
      have e : pn (x :: r) (p + 1) = pn r p := by simp [pn]
      rw [e, this]; omega
theorem sumL_rep (n : Nat) (c : Int) : sumL (List.replicate n c) = n * c := by
  induction n with
  | zero => simp [sumL]
  | succ n ih => simp only [List.replicate_succ, sumL, ih]; push_cast; rw [Int.add_mul]; omega
theorem sumL_cts {lv : Int} {cols : List Int} {rows : List (List Int)} {K : Nat} (h : ∀ row ∈ rows, 0 ≤ numC lv cols row ∧ numC lv cols row < K) : sumL (cts lv cols rows K) = rows.length := by
  have key : ∀ k, k ≤ rows.length → sumL (cts lv cols (rows.take k) K) = k := by
    intro k
    induction k with
    | zero => intro _; rw [List.take_zero, cts_nil, sumL_rep]; simp
    | succ k ih =>
      intro hk
      have hk' : k < rows.length := by omega
      have h1 := h rows[k] (List.getElem_mem hk')
      obtain ⟨p, hp⟩ := Int.eq_ofNat_of_zero_le h1.1
      rw [List.take_succ_eq_append_getElem hk', cts_snoc hp (by omega), sumL_set (by rw [cts_len]; omega), ih (by omega)]
      push_cast; rfl
  have := key rows.length (Nat.le_refl _)
  rwa [List.take_length] at this

/-- the number that all counts are, or 0 -/
def evB (lv : Int) (cols : List Int) (rows : List (List Int)) (K : Nat) : Int := if (∀ j, j < K → cntR lv cols rows j = cntR lv cols rows 0) then cntR lv cols rows 0 else 0
theorem rep_of_all {xs : List Int} {c : Int} (h : ∀ j, j < xs.length → pn xs j = c) : xs = List.replicate xs.length c := by
  apply List.ext_getElem
  · simp
  · intro i h1 h2
    have := h i h1
    simp [pn, h1] at this
    simpa using this
theorem cts_all {lv : Int} {cols : List Int} {rows : List (List Int)} {K : Nat} (hr : ∀ row ∈ rows, 0 ≤ numC lv cols row ∧ numC lv cols row < K) {c : Int} (h : ∀ j, j < K → cntR lv cols rows j = c) : (K : Int) * c = rows.length := by
  have h1 := rep_of_all (xs := cts lv cols rows K) (c := c) (fun j hj => by rw [cts_len] at hj; rw [pn_cts hj, h j hj])
  have h2 := sumL_cts hr
  rw [h1, sumL_rep, cts_len] at h2
  exact h2
/-- rows of which there are some: all counts are equal exactly if each is the number of rows by the number of values -/
theorem evB_ne {lv : Int} {cols : List Int} {rows : List (List Int)} {K : Nat} (hK : 0 < K) (hr : ∀ row ∈ rows, 0 ≤ numC lv cols row ∧ numC lv cols row < K) (h : evB lv cols rows K ≠ 0) :
    (rows.length : Int) % K = 0 ∧ evB lv cols rows K = rows.length / K ∧ ∀ j, j < K → cntR lv cols rows j = rows.length / K := by
  unfold evB at h ⊢
  split at h
  · rename_i ha
    rw [if_pos ha]
    have h1 := cts_all hr ha
    have h2 : (rows.length : Int) / K = cntR lv cols rows 0 := by rw [← h1]; exact Int.mul_ediv_cancel_left _ (by omega)
    refine ⟨by rw [← h1]; exact Int.mul_emod_right _ _, h2.symm, fun j hj => by rw [ha j hj, h2]⟩
  · exact absurd rfl h
theorem evB_eq {lv : Int} {cols : List Int} {rows : List (List Int)} {K : Nat} (hK : 0 < K) (hm : (K : Int) ≤ rows.length) (h : ∀ j, j < K → cntR lv cols rows j = (rows.length : Int) / K) : evB lv cols rows K ≠ 0 := by
  unfold evB
  rw [if_pos (fun j hj => by rw [h j hj, h 0 hK]), h 0 hK]
  have := Int.ediv_le_ediv (show (0 : Int) < K by omega) hm
  rw [Int.ediv_self (by omega)] at this
  omega

/-- the number is below the power -/
theorem numF_bd {lv : Int} (hl : 2 ≤ lv) {row : List Int} : ∀ (cols : List Int) (n : Int) (m : Nat), 0 ≤ n → n < lv ^ m → (∀ c ∈ cols, 0 ≤ pn row c.toNat ∧ pn row c.toNat ≤ lv - 1) →
    0 ≤ cols.foldl (fun n c => n * lv + pn row c.toNat) n ∧ cols.foldl (fun n c => n * lv + pn row c.toNat) n < lv ^ (m + cols.length)
  | [], n, m, h0, h1, _ => ⟨h0, h1⟩
  | c :: r, n, m, h0, h1, h => by
    have hc := h c (by simp)
    have h2 : n * lv + pn row c.toNat < lv ^ (m + 1) := by
      rw [Int.pow_succ]
      have := Int.mul_le_mul_of_nonneg_right (show n + 1 ≤ lv ^ m by omega) (show 0 ≤ lv by omega)
      rw [Int.add_mul] at this
      omega
    have h3 : 0 ≤ n * lv + pn row c.toNat := by have := Int.mul_nonneg h0 (show 0 ≤ lv by omega); omega
    have := numF_bd hl r _ (m + 1) h3 h2 (fun d hd => h d (by simp [hd]))
    simp only [List.foldl_cons, List.length_cons]
    rw [show m + (r.length + 1) = m + 1 + r.length by omega]
    exact this
theorem numC_bd {lv : Int} (hl : 2 ≤ lv) {row cols : List Int} (h : ∀ c ∈ cols, 0 ≤ pn row c.toNat ∧ pn row c.toNat ≤ lv - 1) : 0 ≤ numC lv cols row ∧ numC lv cols row < lv ^ cols.length := by
  have := numF_bd hl (row := row) cols 0 0 (by omega) (by simp) h
  simpa [numC] using this

/-! ### the index of a strength -/
/-- every set of t columns of co is such -/
def allS (co t : Int) (P : List Int → Prop) : Prop := ∀ r : Nat, (r : Int) < choose co t → P (subsAt co t r)
open Classical in
/-- the index, K being the power of the levels, as far as it is reckoned -/
noncomputable def strG (lv co : Int) (rows : List (List Int)) (t K : Int) : Int :=
  if (rows.length : Int) < K then 0 else if allS co t (fun cols => evB lv cols rows K.toNat ≠ 0) then rows.length / K else 0
end Go.Proofs.Ytpfgbbbjldpnnaa
