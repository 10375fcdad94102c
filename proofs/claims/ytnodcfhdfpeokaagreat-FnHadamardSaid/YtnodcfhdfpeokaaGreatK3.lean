/- The texts of this claim, run 3: PSet PRank. -/

section
/- Sets of small numbers as rising lists, in plain terms. -/
namespace Go.Proofs.YtnodcfhdfpeokaaGreat
set_option linter.unusedSimpArgs false
set_option linter.unusedVariables false

/-- increasing numbers from last on, below n -/
def incB (last n : Int) : List Int → Bool
  | [] => true
  | x :: xs => if x ≤ last ∨ n ≤ x then false else incB x n xs

theorem incB_gt : ∀ {xs : List Int} {last n : Int}, incB last n xs = true → ∀ x ∈ xs, last < x ∧ x < n
  | [], _, _, _, x, hx => by simp at hx
  | y :: ys, last, n, h, x, hx => by
    unfold incB at h
    split at h
    · cases h
    · rename_i hn
      rcases List.mem_cons.1 hx with rfl | hx
      · omega
      · have := incB_gt h x hx; omega

theorem incB_mono {xs : List Int} {l l' n : Int} (h : incB l n xs = true) (hl : ∀ x ∈ xs, l' < x) : incB l' n xs = true := by
  cases xs with
  | nil => rfl
  | cons x xs =>
    have := hl x (by simp)
    unfold incB at h ⊢
    split at h
    · cases h
    · rw [if_neg (by omega)]; exact h

/-- the numbers from lo on, k of them, for which f holds -/
def upF (f : Int → Bool) : Nat → Nat → List Int
  | _, 0 => []
  | lo, k + 1 => if f lo then (lo : Int) :: upF f (lo + 1) k else upF f (lo + 1) k

theorem mem_upF {f : Int → Bool} {x : Int} : ∀ (k lo : Nat), x ∈ upF f lo k ↔ (lo : Int) ≤ x ∧ x < lo + k ∧ f x = true
  | 0, lo => by simp [upF]; intro h; omega
  | k + 1, lo => by
    unfold upF
    have ih := mem_upF (f := f) (x := x) k (lo + 1)
    by_cases h : f lo = true
    · rw [if_pos h, List.mem_cons, ih]
      constructor
      · rintro (rfl | h1)
        · exact ⟨by omega, by omega, h⟩
        · exact ⟨by omega, by omega, h1.2.2⟩
      · rintro ⟨h1, h2, h3⟩
        by_cases e : x = lo
        · exact .inl e
        · exact .inr ⟨by omega, by omega, h3⟩
    · rw [if_neg h, ih]
      constructor
      · rintro ⟨h1, h2, h3⟩; exact ⟨by omega, by omega, h3⟩
      · rintro ⟨h1, h2, h3⟩
        by_cases e : x = lo
        · subst e; exact absurd h3 h
        · exact ⟨by omega, by omega, h3⟩

theorem contains_upF {f : Int → Bool} {k lo j : Nat} (h1 : lo ≤ j) (h2 : j < lo + k) : (upF f lo k).contains (j : Int) = f j := by
  rw [Bool.eq_iff_iff, List.contains_iff_mem, mem_upF]
  constructor
  · exact fun h => h.2.2
  · exact fun h => ⟨by omega, by omega, h⟩

theorem incB_upF {f : Int → Bool} {n : Int} : ∀ (k lo : Nat) (last : Int), last < lo → (lo : Int) + k ≤ n → incB last n (upF f lo k) = true
  | 0, _, _, _, _ => rfl
  | k + 1, lo, last, h1, h2 => by
    unfold upF
    split
    · unfold incB
      rw [if_neg (by omega)]
      exact incB_upF k (lo + 1) _ (by omega) (by omega)
    · exact incB_upF k (lo + 1) _ (by omega) (by omega)

theorem inc_eq {f : Int → Bool} : ∀ (k lo : Nat) (xs : List Int), incB ((lo : Int) - 1) (lo + k) xs = true → (∀ j : Nat, lo ≤ j → j < lo + k → f j = xs.contains (j : Int)) → upF f lo k = xs
  | 0, lo, xs, h, _ => by
    cases xs with
    | nil => rfl
    | cons x xs => have := incB_gt h x (by simp); omega
  | k + 1, lo, xs, h, hf => by
    unfold upF
    have h0 := hf lo (by omega) (by omega)
    cases xs with
    | nil =>
      simp at h0
      rw [h0, if_neg (by simp)]
      exact inc_eq k (lo + 1) [] rfl (fun j h1 h2 => hf j (by omega) (by omega))
    | cons x t =>
      have hx := incB_gt h x (by simp)
      have ht : incB x (lo + (k + 1 : Nat)) t = true := by
        unfold incB at h; split at h
        · cases h
        · exact h
      by_cases e : x = lo
      · subst e
        simp at h0
        rw [h0, if_pos rfl]
        congr 1
        refine inc_eq k (lo + 1) t ?_ ?_
        · have e1 : ((lo + 1 : Nat) : Int) - 1 = lo := by omega
          have e2 : ((lo + 1 : Nat) : Int) + k = lo + (k + 1 : Nat) := by omega
          rw [e1, e2]; exact ht
        · intro j h1 h2
          rw [hf j (by omega) (by omega)]
          rw [List.contains_cons]
          have : ((j : Int) == (lo : Int)) = false := by simp; omega
          rw [this]; simp
      · have hnot : (x :: t).contains (lo : Int) = false := by
          rw [Bool.eq_false_iff]
          intro hc
          rw [List.contains_iff_mem] at hc
          rcases List.mem_cons.1 hc with h1 | h1
          · exact e h1.symm
          · have := incB_gt ht _ h1; omega
        rw [h0, hnot, if_neg (by simp)]
        refine inc_eq k (lo + 1) (x :: t) ?_ (fun j h1 h2 => hf j (by omega) (by omega))
        have e2 : ((lo + 1 : Nat) : Int) + k = lo + (k + 1 : Nat) := by omega
        rw [e2]
        refine incB_mono h (fun y hy => ?_)
        rcases List.mem_cons.1 hy with rfl | hy
        · omega
        · have := incB_gt ht _ hy; omega

/-- a set of numbers below 32 -/
def IsSet (a : List Int) : Prop := incB (-1) 32 a = true
instance (a : List Int) : Decidable (IsSet a) := inferInstanceAs (Decidable (incB (-1) 32 a = true))
theorem IsSet.eq {a : List Int} (h : IsSet a) : upF (fun x => a.contains x) 0 32 = a := inc_eq 32 0 a (by unfold IsSet at h; simpa using h) (fun _ _ _ => rfl)
end Go.Proofs.YtnodcfhdfpeokaaGreat
end

section
/- Ranks of subsets and next subsets, in plain terms. -/
namespace Go.Proofs.YtnodcfhdfpeokaaGreat
set_option linter.unusedSimpArgs false
set_option linter.unusedVariables false
/-- a set at the end -/
theorem inc_len {n : Int} : ∀ {xs : List Int} {last : Int}, incB last n xs = true → last < n → (xs.length : Int) ≤ n - 1 - last
  | [], last, h, h1 => by simp; omega
  | x :: r, last, h, h1 => by
    rw [incB] at h
    split at h
    · cases h
    · have := inc_len h (by omega)
      simp only [List.length_cons]; push_cast; omega

end Go.Proofs.YtnodcfhdfpeokaaGreat
end
