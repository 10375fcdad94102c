/- The texts of this claim, run 1: PTx PFok. -/
import Derived.Lib.ItoaNum
import Derived.Lib.Join
import Derived.Lib.Split
import Derived.Lib.IndexBytes
import Derived.Lib.ParseIntB
section
/- Plain: decimal numerals, joined by commas and parted again. -/
namespace Go.Proofs.YtdlmohigkkdegaaDoor
set_option linter.unusedSimpArgs false
set_option linter.unusedVariables false
open Go

theorem indexByte_no : ∀ (x : List UInt8) (c : UInt8), c ∉ x → Lib.indexByte x c = -1
  | [], _, _ => rfl
  | b :: l, c, h => by
    have h1 : b ≠ c := fun e => h (by rw [e]; exact List.mem_cons_self ..)
    have h2 := indexByte_no l c (fun e => h (List.mem_cons_of_mem _ e))
    unfold Lib.indexByte
    rw [if_neg (by simpa using h1), h2]; rfl
theorem indexByte_at : ∀ (x : List UInt8) (c : UInt8) (r : List UInt8), c ∉ x → Lib.indexByte (x ++ c :: r) c = x.length
  | [], c, r, _ => by simp [Lib.indexByte]
  | b :: l, c, r, h => by
    have h1 : b ≠ c := fun e => h (by rw [e]; exact List.mem_cons_self ..)
    have h2 := indexByte_at l c r (fun e => h (List.mem_cons_of_mem _ e))
    rw [List.cons_append]
    unfold Lib.indexByte
    rw [if_neg (by simpa using h1), h2, if_neg (by intro e; have := beq_iff_eq.1 e; omega)]; simp
theorem comma_miss {x : List UInt8} (h : (44 : UInt8) ∉ x) : Lib.index x [44] = -1 := by rw [Lib.index_one, indexByte_no x 44 h]
theorem comma_hit {x : List UInt8} (r : List UInt8) (h : (44 : UInt8) ∉ x) : Lib.index (x ++ 44 :: r) [44] = x.length := by rw [Lib.index_one, indexByte_at x 44 r h]
/-- words without a comma, joined by commas: how many commas, and the words again -/
theorem join_two (x y : List UInt8) (r : List (List UInt8)) : Lib.join (x :: y :: r) [44] = x ++ 44 :: Lib.join (y :: r) [44] := by
  rw [Lib.join_cons, Lib.join_cons]; simp [Lib.joinTail]
theorem join_count : ∀ (r : List (List UInt8)) (x : List UInt8), (∀ y ∈ x :: r, (44 : UInt8) ∉ y) → Lib.count (Lib.join (x :: r) [44]) [44] = r.length
  | [], x, h => by rw [Lib.join_one, Lib.count_miss (comma_miss (h x (by simp)))]; rfl
  | y :: r, x, h => by
    rw [join_two, Lib.count_hit (by simp) (comma_hit _ (h x (by simp)))]
    have e : (x ++ 44 :: Lib.join (y :: r) [44]).drop (x.length + [(44 : UInt8)].length) = Lib.join (y :: r) [44] := by simp
    rw [e, join_count r y (fun z hz => h z (List.mem_cons_of_mem _ hz)), List.length_cons]; omega
theorem join_split : ∀ (r : List (List UInt8)) (x : List UInt8), (∀ y ∈ x :: r, (44 : UInt8) ∉ y) → Lib.splitK [44] 0 r.length (Lib.join (x :: r) [44]) = x :: r
  | [], x, h => by rw [Lib.join_one]; rfl
  | y :: r, x, h => by
    rw [join_two, List.length_cons, Lib.splitK, comma_hit _ (h x (by simp)), if_neg (by intro e; have := beq_iff_eq.1 e; omega)]
    have e : (x ++ 44 :: Lib.join (y :: r) [44]).drop ((x.length : Int).toNat + [(44 : UInt8)].length) = Lib.join (y :: r) [44] := by simp
    have e2 : (x ++ 44 :: Lib.join (y :: r) [44]).take ((x.length : Int).toNat + 0) = x := by simp
    rw [e, e2, join_split r y (fun z hz => h z (List.mem_cons_of_mem _ hz))]

/-- numerals are digits -/
theorem dec_dig : ∀ u, ∀ c ∈ Lib.decDigits u, 48 ≤ c.toNat ∧ c.toNat ≤ 57 := fun u => by
  induction u using Nat.strongRecOn with
  | _ u ih =>
    intro c hc
    rw [Lib.decDigits] at hc
    split at hc
    · rename_i h
      obtain rfl := List.mem_singleton.1 hc
      have : (UInt8.ofNat (48 + u)).toNat = 48 + u := by simp; omega
      omega
    · rename_i h
      rcases List.mem_append.1 hc with h1 | h1
      · exact ih (u / 10) (by omega) c h1
      · obtain rfl := List.mem_singleton.1 h1
        have : (UInt8.ofNat (48 + u % 10)).toNat = 48 + u % 10 := by simp; omega
        omega
theorem dec_ne (u : Nat) : Lib.decDigits u ≠ [] := fun e => by
  have h1 := Lib.nDigits_pos u
  have h2 := Lib.decDigits_length u
  rw [e] at h2; simp at h2; omega
theorem itoa_no {n : Int} {c : UInt8} (h : c ∈ Lib.itoa n) : c = 45 ∨ (48 ≤ c.toNat ∧ c.toNat ≤ 57) := by
  unfold Lib.itoa at h
  split at h
  · rcases List.mem_cons.1 h with h | h
    · exact .inl h
    · exact .inr (dec_dig _ c h)
  · exact .inr (dec_dig _ c h)
theorem itoa_comma (n : Int) : (44 : UInt8) ∉ Lib.itoa n := fun h => by
  rcases itoa_no h with h | h
  · exact absurd h (by decide)
  · exact absurd h (by decide)
theorem itoa_ne (n : Int) : Lib.itoa n ≠ [] := by
  unfold Lib.itoa
  split
  · simp
  · exact dec_ne _
/-- the digits behind the sign -/
theorem itoa_trim (n : Int) : Lib.trimPrefix (Lib.itoa n) [45] = Lib.decDigits n.natAbs := by
  unfold Lib.itoa
  split
  · simp [Lib.trimPrefix, Lib.hasPrefix]
  · rename_i h
    have e : n.toNat = n.natAbs := by omega
    rw [e]
    unfold Lib.trimPrefix
    rw [if_neg]
    intro hp
    cases hd : Lib.decDigits n.natAbs with
    | nil => exact dec_ne _ hd
    | cons c l =>
      rw [hd] at hp
      simp [Lib.hasPrefix] at hp
      have := dec_dig n.natAbs c (by rw [hd]; exact List.mem_cons_self ..)
      rw [← hp] at this
      exact absurd this (by decide)
theorem nDigits_le {u k : Nat} (h : u < 10 ^ (k + 1)) : Lib.nDigits u ≤ k + 1 := by
  induction k generalizing u with
  | zero => rw [Lib.nDigits_small (by simpa using h)]; exact Nat.le_refl _
  | succ k ih =>
    by_cases h2 : u < 10
    · rw [Lib.nDigits_small h2]; omega
    · rw [Lib.nDigits_big h2]
      have := ih (u := u / 10) (by rw [Nat.pow_succ] at h; omega)
      omega
theorem parse_snoc (M : Nat) (c : UInt8) : ∀ (l : List UInt8) (acc u : Nat), Lib.parseUintM M acc l = .ok u → Lib.parseUintM M acc (l ++ [c]) = Lib.parseUintM M u [c]
  | [], acc, u, h => by
    simp only [Lib.parseUintM, Lib.NumEnd.ok.injEq] at h; rw [h]; rfl
  | d :: l, acc, u, h => by
    rw [List.cons_append]
    unfold Lib.parseUintM at h ⊢
    split at h
    · rename_i h1
      rw [if_pos h1]
      split at h
      · cases h
      · rename_i h2
        rw [if_neg h2]
        split at h
        · cases h
        · rename_i h3
          rw [if_neg h3]
          have := parse_snoc M c l _ u h
          rw [this]
          rfl
    · cases h
theorem parse_dec {M : Nat} (hM : 1000000000 ≤ M) : ∀ u : Nat, u ≤ 999999999 → Lib.parseUintM M 0 (Lib.decDigits u) = .ok u := fun u => by
  have one : ∀ (a d : Nat), d < 10 → a * 10 + d ≤ 999999999 → Lib.parseUintM M a [UInt8.ofNat (48 + d)] = .ok (a * 10 + d) := fun a d hd ha => by
    have e : (UInt8.ofNat (48 + d)).toNat = 48 + d := by simp; omega
    unfold Lib.parseUintM
    rw [e, if_pos (by omega), if_neg (by omega), if_neg (by omega)]
    unfold Lib.parseUintM
    congr 1; omega
  induction u using Nat.strongRecOn with
  | _ u ih =>
    intro hu
    rw [Lib.decDigits]
    split
    · rename_i h
      have := one 0 u h (by omega)
      simpa using this
    · rename_i h
      rw [parse_snoc M _ _ 0 (u / 10) (ih (u / 10) (by omega) (by omega)), one (u / 10) (u % 10) (by omega) (by omega)]
      congr 1; omega
/-- a numeral of nine digits reads as its number -/
theorem itoa_parse {n : Int} (h0 : -999999999 ≤ n) (h1 : n ≤ 999999999) : Lib.parseIntB 64 (Lib.itoa n) = .ok n := by
  have hp : ∀ u : Nat, u ≤ 999999999 → Lib.parseUintB 64 (Lib.decDigits u) = .ok u := fun u hu => by
    unfold Lib.parseUintB
    rw [if_neg (dec_ne u)]
    exact parse_dec (by decide) u hu
  unfold Lib.itoa
  split
  · rename_i h
    have e := hp n.natAbs (by omega)
    have h45 : (45 : UInt8).toNat = 45 := by decide
    simp only [Lib.parseIntB, h45, or_true, if_true, e, not_true, false_and, if_false, true_and]
    rw [if_neg (by omega)]
    congr 1; omega
  · rename_i h
    have e := hp n.toNat (by omega)
    cases hd : Lib.decDigits n.toNat with
    | nil => exact absurd hd (dec_ne _)
    | cons c l =>
      have hc := dec_dig n.toNat c (by rw [hd]; exact List.mem_cons_self ..)
      rw [hd] at e
      have n1 : ¬ (c.toNat = 43 ∨ c.toNat = 45) := by omega
      have n2 : ¬ c.toNat = 45 := by omega
      have n3 : ¬ c.toNat = 43 := by omega
      simp only [Lib.parseIntB, n3, n2, or_self, not_false_iff, true_and, false_and, if_false]
      rw [e]
      show (if 2 ^ (64 - 1) ≤ n.toNat then Lib.NumEnd.range else Lib.NumEnd.ok (n.toNat : Int)) = _
      rw [if_neg (by omega)]
      congr 1; omega
theorem itoa_size {n : Int} (h0 : -999999999 ≤ n) (h1 : n ≤ 999999999) : 1 ≤ (Lib.decDigits n.natAbs).length ∧ (Lib.decDigits n.natAbs).length ≤ 9 ∧ (Lib.itoa n).length ≤ 10 := by
  have hd : ∀ u, u ≤ 999999999 → (Lib.decDigits u).length ≤ 9 := fun u hu => by
    rw [Lib.decDigits_length]; exact nDigits_le (k := 8) (by omega)
  have h2 := hd n.natAbs (by omega)
  refine ⟨by rw [Lib.decDigits_length]; exact Lib.nDigits_pos _, h2, ?_⟩
  unfold Lib.itoa
  split
  · simp; omega
  · have := hd n.toNat (by omega); omega

/-- the numbers that a text may hold -/
def InT (x : Int) : Prop := -999999999 ≤ x ∧ x ≤ 999999999
instance (x : Int) : Decidable (InT x) := by unfold InT; infer_instance
def TxOk (xs : List Int) : Prop := xs.length ≤ 100 ∧ ∀ x ∈ xs, InT x
instance (xs : List Int) : Decidable (TxOk xs) := by unfold TxOk; infer_instance
/-- the text of a list -/
def txt (xs : List Int) : List UInt8 := if TxOk xs then if xs = [] then [45] else Lib.join (xs.map Lib.itoa) [44] else []
theorem txt_nil : txt [] = [45] := by unfold txt; rw [if_pos ⟨by simp, by simp⟩, if_pos rfl]
theorem txt_no {xs : List Int} (h : ¬ TxOk xs) : txt xs = [] := by unfold txt; rw [if_neg h]
theorem txt_cons {x : Int} {xs : List Int} (h : TxOk (x :: xs)) : txt (x :: xs) = Lib.join (Lib.itoa x :: xs.map Lib.itoa) [44] := by unfold txt; rw [if_pos h, if_neg (by simp)]; rfl
theorem txt_words {x : Int} {xs : List Int} (y : List UInt8) (hy : y ∈ Lib.itoa x :: xs.map Lib.itoa) : (44 : UInt8) ∉ y := by
  rw [← List.map_cons] at hy
  obtain ⟨n, _, rfl⟩ := List.mem_map.1 hy
  exact itoa_comma n
theorem txt_count {x : Int} {xs : List Int} (h : TxOk (x :: xs)) : Lib.count (txt (x :: xs)) [44] = xs.length := by
  rw [txt_cons h, join_count _ _ txt_words, List.length_map]
theorem txt_split {x : Int} {xs : List Int} (h : TxOk (x :: xs)) : Lib.splitK [44] 0 xs.length (txt (x :: xs)) = (x :: xs).map Lib.itoa := by
  have := join_split (xs.map Lib.itoa) (Lib.itoa x) txt_words
  rw [List.length_map] at this
  rw [txt_cons h, this]; rfl
/-- no text of numbers is the sign alone, none is empty -/
theorem txt_sign {x : Int} {xs : List Int} (h : TxOk (x :: xs)) : txt (x :: xs) ≠ [45] ∧ txt (x :: xs) ≠ [] := by
  rw [txt_cons h, Lib.join_cons]
  have hd := dec_dig
  have key : ∀ (t : List UInt8), Lib.itoa x ++ t ≠ [45] ∧ Lib.itoa x ++ t ≠ [] := fun t => by
    refine ⟨fun e => ?_, fun e => itoa_ne x (List.append_eq_nil_iff.1 e).1⟩
    unfold Lib.itoa at e
    split at e
    · rw [List.cons_append] at e
      have e2 := (List.cons.inj e).2
      exact dec_ne _ (List.append_eq_nil_iff.1 e2).1
    · cases hd2 : Lib.decDigits x.toNat with
      | nil => exact dec_ne _ hd2
      | cons c l =>
        rw [hd2, List.cons_append] at e
        have := hd x.toNat c (by rw [hd2]; exact List.mem_cons_self ..)
        rw [(List.cons.inj e).1] at this
        exact absurd this (by decide)
  exact key _
theorem lens_words : ∀ (xs : List Int), (∀ x ∈ xs, InT x) → Lib.lens (xs.map Lib.itoa) ≤ 10 * xs.length
  | [], _ => by simp [Lib.lens]
  | x :: xs, h => by
    have h1 := lens_words xs (fun y hy => h y (List.mem_cons_of_mem _ hy))
    have h2 := (itoa_size (h x (List.mem_cons_self ..)).1 (h x (List.mem_cons_self ..)).2).2.2
    simp only [Lib.lens, List.map_cons, List.sum_cons, List.length_cons] at h1 ⊢
    omega
theorem txt_len (xs : List Int) : (txt xs).length ≤ 1200 := by
  unfold txt
  split
  · rename_i h
    split
    · simp
    · cases xs with
      | nil => simp [Lib.join_nil]
      | cons x xs =>
        have h1 := lens_words (x :: xs) h.2
        rw [List.map_cons] at h1 ⊢
        rw [Lib.join_length]
        have := h.1
        simp only [List.length_cons, List.length_map, List.length_nil] at *
        omega
  · simp
end Go.Proofs.YtdlmohigkkdegaaDoor
end

section
/- Polynomials modulo a prime as lists, and what the program makes of them, in plain terms. Trial division, in plain terms. Bounded powers, in plain terms. Valid fields, in plain terms. Fields that are made: the first irreducible polynomial, in plain terms. -/

namespace Go.Proofs.YtdlmohigkkdegaaDoor
set_option linter.unusedSimpArgs false
set_option linter.unusedVariables false

/-- all numbers are residues of p -/
def In (p : Int) (xs : List Int) : Prop := ∀ x ∈ xs, 0 ≤ x ∧ x < p
theorem In.set {p : Int} {xs : List Int} (h : In p xs) {i : Nat} {x : Int} (hx : 0 ≤ x ∧ x < p) : In p (xs.set i x) := by
  intro y hy
  rcases List.mem_or_eq_of_mem_set hy with hy | rfl
  · exact h y hy
  · exact hx

/-! ### sums and products of elements -/
/-! ### which fields there are -/
/-- each is at least the one before it, and at least p -/
def Up (p : Int) : List Int → Prop
  | [] => True
  | x :: xs => p ≤ x ∧ Up x xs

theorem Up.mono {p q : Int} {xs : List Int} (h : Up p xs) (hq : q ≤ p) : Up q xs := by
  cases xs with
  | nil => trivial
  | cons x xs => exact ⟨by have := h.1; omega, h.2⟩

end Go.Proofs.YtdlmohigkkdegaaDoor
end
