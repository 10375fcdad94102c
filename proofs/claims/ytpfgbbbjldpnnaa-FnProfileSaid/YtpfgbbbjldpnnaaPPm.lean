/- Permutations as lists, in plain terms. -/
import Derived.Test.YtpfgbbbjldpnnaaPSgm
import Derived.Test.YtpfgbbbjldpnnaaInt
namespace Go.Proofs.Ytpfgbbbjldpnnaa
set_option linter.unusedSimpArgs false
set_option linter.unusedVariables false
/-- a list that holds each number below its length once -/
structure IsP (xs : List Int) : Prop where
  lt : ∀ j, j < xs.length → 0 ≤ nth xs j ∧ nth xs j < xs.length
  inj : ∀ i j, i < xs.length → j < xs.length → nth xs i = nth xs j → i = j
open Classical in
/-- a valid permutation -/
noncomputable def pvB (xs : List Int) : Bool := decide (xs.length ≤ 32 ∧ IsP xs)
theorem pvB_t {xs : List Int} (h : pvB xs = true) : xs.length ≤ 32 ∧ IsP xs := by simpa [pvB] using h
theorem pvB_yes {xs : List Int} (h : xs.length ≤ 32) (hp : IsP xs) : pvB xs = true := by simp [pvB, h, hp]
theorem pvB_no {xs : List Int} (h : ¬ (xs.length ≤ 32 ∧ IsP xs)) : pvB xs = false := by simp only [pvB, decide_eq_false_iff_not]; exact h
/-- a permutation as a function -/
def pf (xs : List Int) (j : Nat) : Nat := (nth xs j).toNat
theorem nth_pf {xs : List Int} (h : IsP xs) {j : Nat} (hj : j < xs.length) : nth xs j = (pf xs j : Int) := by
  have := (h.lt j hj).1; unfold pf; omega
theorem IsP.bij {xs : List Int} (h : IsP xs) : Bij xs.length (pf xs) where
  lt j hj := by have := h.lt j hj; unfold pf; omega
  inj i j hi hj e := h.inj i j hi hj (by rw [nth_pf h hi, nth_pf h hj, e])
theorem IsP.pf_lt {xs : List Int} (h : IsP xs) {j : Nat} (hj : j < xs.length) : pf xs j < xs.length := h.bij.lt j hj
theorem IsP.nodup {xs : List Int} (h : IsP xs) : xs.Nodup := by
  rw [List.nodup_iff_pairwise_ne, List.pairwise_iff_getElem]
  intro a b ha hb hab e
  have := h.inj a b ha hb (by rw [nth_eq ha, nth_eq hb, e])
  omega
theorem nth_ext {xs ys : List Int} (hl : xs.length = ys.length) (h : ∀ j, j < xs.length → nth xs j = nth ys j) : xs = ys := by
  apply List.ext_getElem hl
  intro j h1 h2
  have := h j h1
  rwa [nth_eq h1, nth_eq h2] at this
/-- the identity -/
def iot (n : Nat) : List Int := (List.range n).map fun k : Nat => (k : Int)
theorem iot_len (n : Nat) : (iot n).length = n := by simp [iot]
theorem nth_iot {n j : Nat} (h : j < n) : nth (iot n) j = j := by simp [iot, nth, h]
theorem iot_isP (n : Nat) : IsP (iot n) where
  lt j hj := by rw [iot_len] at hj ⊢; rw [nth_iot hj]; omega
  inj i j hi hj e := by rw [iot_len] at hi hj; rw [nth_iot hi, nth_iot hj] at e; omega
theorem iot_succ (n : Nat) : iot (n + 1) = iot n ++ [(n : Int)] := by simp [iot, List.range_succ]
theorem mem_iot {n : Nat} {x : Int} : x ∈ iot n ↔ 0 ≤ x ∧ x < n := by
  unfold iot; rw [List.mem_map]
  constructor
  · rintro ⟨k, hk, rfl⟩; have := List.mem_range.1 hk; omega
  · intro h; exact ⟨x.toNat, List.mem_range.2 (by omega), by omega⟩
theorem IsP.perm {xs : List Int} (h : IsP xs) : xs.Perm (iot xs.length) := by
  refine (List.perm_ext_iff_of_nodup h.nodup (iot_isP _).nodup).2 fun x => ?_
  rw [mem_iot]
  constructor
  · intro hx
    obtain ⟨j, hj, rfl⟩ := List.getElem_of_mem hx
    have := h.lt j hj; rwa [nth_eq hj] at this
  · intro hx
    obtain ⟨j, hj, e⟩ := h.bij.onto (y := x.toNat) (by omega)
    have := nth_pf h hj
    rw [e] at this
    have hm := nth_mem hj
    rw [this] at hm
    rwa [Int.toNat_of_nonneg hx.1] at hm
theorem isP_of_perm {xs : List Int} (h : xs.Perm (iot xs.length)) : IsP xs where
  lt j hj := mem_iot.1 (h.mem_iff.1 (nth_mem hj))
  inj i j hi hj e := by
    have hn := h.nodup_iff.2 (iot_isP _).nodup
    rw [nth_eq hi, nth_eq hj] at e
    exact (List.getElem_inj hn).1 e
theorem iot_sorted (n : Nat) : (iot n).Pairwise (· ≤ ·) := by
  rw [List.pairwise_iff_getElem]
  intro a b ha hb hab
  rw [iot_len] at ha hb
  have e1 := nth_iot ha
  have e2 := nth_iot hb
  rw [nth_eq (by rw [iot_len]; exact ha)] at e1
  rw [nth_eq (by rw [iot_len]; exact hb)] at e2
  omega
/-- lists in rising order with the same numbers are the same -/
theorem sorted_eq {a b : List Int} (h : a.Perm b) (ha : a.Pairwise (· ≤ ·)) (hb : b.Pairwise (· ≤ ·)) : a = b :=
  h.eq_of_pairwise (fun x y _ _ h1 h2 => by omega) ha hb
theorem msort_sorted (xs : List Int) : (xs.mergeSort fun x y => decide (x ≤ y)).Pairwise (· ≤ ·) := by
  have := List.pairwise_mergeSort (le := fun x y : Int => decide (x ≤ y)) (fun a b c h1 h2 => by simp at *; omega) (fun a b => by simp; omega) xs
  exact this.imp fun h => by simpa using h
/-- it is a permutation exactly if it is the identity in rising order -/
theorem isP_iff {xs : List Int} : IsP xs ↔ ∀ j, j < xs.length → nth (xs.mergeSort fun x y => decide (x ≤ y)) j = j := by
  have hp := List.mergeSort_perm xs fun x y => decide (x ≤ y)
  have hl : (xs.mergeSort fun x y => decide (x ≤ y)).length = xs.length := hp.length_eq
  constructor
  · intro h j hj
    have : (xs.mergeSort fun x y => decide (x ≤ y)) = iot xs.length := sorted_eq (hp.trans h.perm) (msort_sorted xs) (iot_sorted _)
    rw [this, nth_iot hj]
  · intro h
    have : (xs.mergeSort fun x y => decide (x ≤ y)) = iot xs.length := nth_ext (by rw [hl, iot_len]) fun j hj => by rw [hl] at hj; rw [h j hj, nth_iot hj]
    exact isP_of_perm (by rw [← this]; exact hp.symm)
/-- the reference's test, number by number -/
theorem isP_iff2 {xs : List Int} : IsP xs ↔ ∀ j, j < xs.length → (0 ≤ nth xs j ∧ nth xs j ≤ xs.length - 1) ∧ nth xs j ∉ xs.take j := by
  constructor
  · intro h j hj
    refine ⟨by have := h.lt j hj; omega, fun hm => ?_⟩
    obtain ⟨i, hi, e⟩ := List.getElem_of_mem hm
    simp only [List.length_take] at hi
    rw [List.getElem_take] at e
    have := h.inj i j (by omega) hj (by rw [nth_eq (by omega), e])
    omega
  · intro h
    have key : ∀ i j, i < j → j < xs.length → nth xs i ≠ nth xs j := fun i j hij hj e => by
      refine (h j hj).2 ?_
      rw [← e, nth_eq (by omega)]
      have : xs[i] = (xs.take j)[i]'(by simp; omega) := by rw [List.getElem_take]
      rw [this]; exact List.getElem_mem _
    refine ⟨fun j hj => by have := (h j hj).1; omega, fun i j hi hj e => ?_⟩
    rcases Nat.lt_trichotomy i j with hlt | heq | hgt
    · exact absurd e (key i j hlt hj)
    · exact heq
    · exact absurd e.symm (key j i hgt hi)
/-! ### exchanges -/
theorem nth_set {xs : List Int} {i j : Nat} {x : Int} (h : i < xs.length) : nth (xs.set i x) j = if i = j then x else nth xs j := by
  unfold nth
  rw [List.getD_eq_getElem?_getD, List.getElem?_set]
  split
  · rename_i e; subst e; simp [h]
  · simp
def swp2 (xs : List Int) (i k : Nat) : List Int := (xs.set i (nth xs k)).set k (nth xs i)
theorem swp2_len (xs : List Int) (i k : Nat) : (swp2 xs i k).length = xs.length := by simp [swp2]
/-- the place from which an exchange takes place j -/
def pl2 (i k j : Nat) : Nat := if j = k then i else if j = i then k else j
theorem pl2_lt {n i k j : Nat} (hi : i < n) (hk : k < n) (hj : j < n) : pl2 i k j < n := by
  unfold pl2
  by_cases e : j = k
  · rw [if_pos e]; exact hi
  · rw [if_neg e]
    by_cases e2 : j = i
    · rw [if_pos e2]; exact hk
    · rw [if_neg e2]; exact hj
theorem pl2_pl2 (i k j : Nat) : pl2 i k (pl2 i k j) = j := by
  unfold pl2
  by_cases e : j = k
  · rw [if_pos e]
    by_cases e2 : i = k
    · rw [if_pos e2]; omega
    · rw [if_neg e2, if_pos rfl]; omega
  · rw [if_neg e]
    by_cases e2 : j = i
    · rw [if_pos e2, if_pos rfl]; omega
    · rw [if_neg e2, if_neg e, if_neg e2]
theorem nth_swp2 {xs : List Int} {i k : Nat} (hi : i < xs.length) (hk : k < xs.length) (j : Nat) : nth (swp2 xs i k) j = nth xs (pl2 i k j) := by
  unfold swp2 pl2
  rw [nth_set (by simpa using hk)]
  by_cases e : k = j
  · rw [if_pos e, if_pos e.symm]
  · rw [if_neg e, nth_set hi, if_neg (fun h : j = k => e h.symm)]
    by_cases e2 : i = j
    · rw [if_pos e2, if_pos e2.symm]
    · rw [if_neg e2, if_neg (fun h : j = i => e2 h.symm)]
theorem IsP.swp {xs : List Int} (h : IsP xs) {i k : Nat} (hi : i < xs.length) (hk : k < xs.length) : IsP (swp2 xs i k) where
  lt j hj := by
    rw [swp2_len] at hj ⊢
    rw [nth_swp2 hi hk]
    exact h.lt _ (pl2_lt hi hk hj)
  inj a b ha hb e := by
    rw [swp2_len] at ha hb
    rw [nth_swp2 hi hk, nth_swp2 hi hk] at e
    have := h.inj _ _ (pl2_lt hi hk ha) (pl2_lt hi hk hb) e
    rw [← pl2_pl2 i k a, this, pl2_pl2]
/-! ### composition, inverse -/
/-- first xs, then ys -/
def cmpL (xs ys : List Int) : List Int := (List.range xs.length).map fun j => nth ys (pf xs j)
theorem cmpL_len (xs ys : List Int) : (cmpL xs ys).length = xs.length := by simp [cmpL]
theorem nth_cmpL {xs ys : List Int} {j : Nat} (hj : j < xs.length) : nth (cmpL xs ys) j = nth ys (pf xs j) := by simp [cmpL, nth, hj]
theorem pf_cmpL {xs ys : List Int} {j : Nat} (hj : j < xs.length) : pf (cmpL xs ys) j = pf ys (pf xs j) := by unfold pf; rw [nth_cmpL hj]; rfl
theorem IsP.cmp {xs ys : List Int} (h : IsP xs) (h2 : IsP ys) (hl : xs.length = ys.length) : IsP (cmpL xs ys) where
  lt j hj := by
    rw [cmpL_len] at hj ⊢
    rw [nth_cmpL hj, hl]
    exact h2.lt _ (by rw [← hl]; exact h.pf_lt hj)
  inj i j hi hj e := by
    rw [cmpL_len] at hi hj
    rw [nth_cmpL hi, nth_cmpL hj] at e
    exact h.bij.inj i j hi hj (h2.inj _ _ (by rw [← hl]; exact h.pf_lt hi) (by rw [← hl]; exact h.pf_lt hj) e)
theorem cmpL_assoc {xs ys zs : List Int} (h : IsP xs) (hl : xs.length = ys.length) : cmpL (cmpL xs ys) zs = cmpL xs (cmpL ys zs) :=
  nth_ext (by rw [cmpL_len, cmpL_len, cmpL_len]) fun j hj => by
    rw [cmpL_len, cmpL_len] at hj
    rw [nth_cmpL (by rw [cmpL_len]; exact hj), nth_cmpL hj, pf_cmpL hj, nth_cmpL (by rw [← hl]; exact h.pf_lt hj)]
/-- place j of the first k is written at the number that stands there -/
def invQ (xs : List Int) : Nat → List Int
  | 0 => List.replicate xs.length 0
  | k + 1 => (invQ xs k).set (pf xs k) k
def invL (xs : List Int) : List Int := invQ xs xs.length
theorem invQ_len (xs : List Int) : ∀ k, (invQ xs k).length = xs.length
  | 0 => by simp [invQ]
  | k + 1 => by rw [invQ, List.length_set, invQ_len xs k]
theorem nth_invQ {xs : List Int} (h : IsP xs) : ∀ k, k ≤ xs.length → ∀ j, j < k → nth (invQ xs k) (pf xs j) = j
  | 0, _, j, hj => by omega
  | k + 1, hk, j, hj => by
    rw [invQ, nth_set (by rw [invQ_len]; exact h.pf_lt (by omega))]
    by_cases e : k = j
    · subst e; rw [if_pos rfl]
    · rw [if_neg (fun e2 => e (h.bij.inj k j (by omega) (by omega) e2)), nth_invQ h k (by omega) j (by omega)]
theorem invL_len (xs : List Int) : (invL xs).length = xs.length := invQ_len xs _
theorem nth_invL {xs : List Int} (h : IsP xs) {j : Nat} (hj : j < xs.length) : nth (invL xs) (pf xs j) = j := nth_invQ h _ (Nat.le_refl _) j hj
theorem cmp_inv {xs : List Int} (h : IsP xs) : cmpL xs (invL xs) = iot xs.length :=
  nth_ext (by rw [cmpL_len, iot_len]) fun j hj => by
    rw [cmpL_len] at hj
    rw [nth_cmpL hj, nth_invL h hj, nth_iot hj]
theorem IsP.inv {xs : List Int} (h : IsP xs) : IsP (invL xs) := by
  have key : ∀ y, y < xs.length → ∃ j, j < xs.length ∧ pf xs j = y := fun y hy => h.bij.onto hy
  refine ⟨fun y hy => ?_, fun a b ha hb e => ?_⟩
  · rw [invL_len] at hy ⊢
    obtain ⟨j, hj, rfl⟩ := key y hy
    rw [nth_invL h hj]; omega
  · rw [invL_len] at ha hb
    obtain ⟨i, hi, rfl⟩ := key a ha
    obtain ⟨j, hj, rfl⟩ := key b hb
    rw [nth_invL h hi, nth_invL h hj] at e
    have : i = j := by omega
    rw [this]
/-! ### signs -/
theorem it_congr {n : Nat} {p q : Nat → Nat} (h : Bij n p) (hpq : ∀ x, x < n → p x = q x) {x : Nat} (hx : x < n) : ∀ k, it p k x = it q k x
  | 0 => rfl
  | k + 1 => by show p (it p k x) = q (it q k x); rw [← it_congr h hpq hx k, hpq _ (it_lt h hx k)]
theorem cyc_eq {n : Nat} {p q : Nat → Nat} (h : Bij n p) (hpq : ∀ x, x < n → p x = q x) : ∀ m, m ≤ n → cyc m p = cyc m q
  | 0, _ => rfl
  | m + 1, hm => by
    rw [cyc, cyc, cyc_eq h hpq m (by omega)]
    have : Lead p m ↔ Lead q m := by
      unfold Lead
      exact ⟨fun hl k => by rw [← it_congr h hpq (by omega) k]; exact hl k, fun hl k => by rw [it_congr h hpq (by omega) k]; exact hl k⟩
    by_cases e : Lead p m
    · rw [if_pos e, if_pos (this.1 e)]
    · rw [if_neg e, if_neg (fun e2 => e (this.2 e2))]
/-- the sign of a permutation -/
noncomputable def sgL (xs : List Int) : Int := sgn xs.length (pf xs)
theorem sgL_cmp {xs ys : List Int} (h : IsP xs) (h2 : IsP ys) (hl : xs.length = ys.length) : sgL (cmpL xs ys) = sgL xs * sgL ys := by
  have hb : Bij xs.length (pf ys) := by rw [hl]; exact h2.bij
  have e := sgn_comp h.bij hb
  unfold sgL
  rw [cmpL_len, ← hl, ← e]
  have hc : Bij (cmpL xs ys).length (pf (cmpL xs ys)) := (h.cmp h2 hl).bij
  rw [cmpL_len] at hc
  unfold sgn
  rw [cyc_eq hc (fun x hx => pf_cmpL hx) _ (Nat.le_refl _)]
end Go.Proofs.Ytpfgbbbjldpnnaa
