/- Orthogonal squares as lists of lists, in plain terms. -/
import Derived.Test.YtpfgbbbjldpnnaaPCon
import Derived.Test.YtpfgbbbjldpnnaaSss
import Derived.Test.YtpfgbbbjldpnnaaBo
namespace Go.Proofs.Ytpfgbbbjldpnnaa
set_option linter.unusedSimpArgs false
set_option linter.unusedVariables false
/-- every pair of symbols once -/
def Ort (n : Nat) (A B : List (List Int)) : Prop := ∀ x y x' y', x < n → y < n → x' < n → y' < n → at2 A x y = at2 A x' y' → at2 B x y = at2 B x' y' → x = x' ∧ y = y'
theorem Ort.symm {n : Nat} {A B : List (List Int)} (h : Ort n A B) : Ort n B A := fun x y x' y' hx hy hx' hy' e1 e2 => h x y x' y' hx hy hx' hy' e2 e1
open Classical in
noncomputable def orB (A B : List (List Int)) : Bool := decide (A.length = B.length ∧ Ort A.length A B)
theorem orB_t {A B : List (List Int)} (h : orB A B = true) : A.length = B.length ∧ Ort A.length A B := by simpa [orB] using h
theorem orB_yes {A B : List (List Int)} (h1 : A.length = B.length) (h2 : Ort A.length A B) : orB A B = true := by simp [orB, h1, h1 ▸ h2]
theorem orB_no {A B : List (List Int)} (h : ¬ (A.length = B.length ∧ Ort A.length A B)) : orB A B = false := by simp only [orB, decide_eq_false_iff_not]; exact h
theorem orB_symm (A B : List (List Int)) : orB A B = orB B A := by
  by_cases h : A.length = B.length ∧ Ort A.length A B
  · rw [orB_yes h.1 h.2, orB_yes h.1.symm (by rw [← h.1]; exact h.2.symm)]
  · rw [orB_no h, orB_no fun h2 => h ⟨h2.1.symm, by rw [← h2.1]; exact h2.2.symm⟩]
/-- places ahead of place y of row x -/
def Bef (n x y x' y' : Nat) : Prop := x' < n ∧ y' < n ∧ (x' < x ∨ x' = x ∧ y' < y)
/-- the numbers that are marked are those of the places ahead, each once -/
structure SnI (n N : Nat) (f : Nat → Nat → Nat) (x y : Nat) (s : List Bool) : Prop where
  len : s.length = N
  mem : ∀ v, v < N → (bat s v = true ↔ ∃ x' y', Bef n x y x' y' ∧ f x' y' = v)
  inj : ∀ x1 y1 x2 y2, Bef n x y x1 y1 → Bef n x y x2 y2 → f x1 y1 = f x2 y2 → x1 = x2 ∧ y1 = y2
section
variable {n N : Nat} {f : Nat → Nat → Nat} {x y : Nat} {s : List Bool}
theorem SnI.start : SnI n N f 0 0 (List.replicate N false) :=
  ⟨by simp, fun v hv => by
    rw [bat_rep]
    exact ⟨fun h => (by cases h), fun ⟨x', y', h, _⟩ => by unfold Bef at h; omega⟩, fun _ _ _ _ h => by unfold Bef at h; omega⟩
theorem SnI.dup (h : SnI n N f x y s) (hf : f x y < N) (hb : bat s (f x y) = true) : ∃ x' y', Bef n x y x' y' ∧ f x' y' = f x y := (h.mem _ hf).1 hb
theorem SnI.step (h : SnI n N f x y s) (hx : x < n) (hy : y < n) (hf : f x y < N) (hb : bat s (f x y) = false) : SnI n N f x (y + 1) (s.set (f x y) true) := by
  have bef : ∀ {x' y'}, Bef n x (y + 1) x' y' → Bef n x y x' y' ∨ (x' = x ∧ y' = y) := fun {x' y'} hh => by unfold Bef at hh ⊢; omega
  have feb : ∀ {x' y'}, Bef n x y x' y' → Bef n x (y + 1) x' y' := fun {x' y'} hh => by unfold Bef at hh ⊢; omega
  have nw : ∀ {x' y'}, Bef n x y x' y' → f x' y' ≠ f x y := fun {x' y'} hh e => by
    have := (h.mem _ hf).2 ⟨x', y', hh, e⟩
    rw [hb] at this; cases this
  refine ⟨by rw [List.length_set]; exact h.len, fun v hv => ?_, fun x1 y1 x2 y2 h1 h2 e => ?_⟩
  · rw [bat_set (by rw [h.len]; exact hf)]
    by_cases e : f x y = v
    · rw [if_pos e]; exact ⟨fun _ => ⟨x, y, by unfold Bef; omega, e⟩, fun _ => rfl⟩
    · rw [if_neg e, h.mem v hv]
      constructor
      · rintro ⟨x', y', h1, h2⟩; exact ⟨x', y', feb h1, h2⟩
      · rintro ⟨x', y', h1, h2⟩
        rcases bef h1 with h3 | ⟨rfl, rfl⟩
        · exact ⟨x', y', h3, h2⟩
        · exact absurd h2 e
  · rcases bef h1 with h1 | ⟨rfl, rfl⟩
    · rcases bef h2 with h2 | ⟨rfl, rfl⟩
      · exact h.inj x1 y1 x2 y2 h1 h2 e
      · exact absurd e (nw h1)
    · rcases bef h2 with h2 | ⟨rfl, rfl⟩
      · exact absurd e.symm (nw h2)
      · exact ⟨rfl, rfl⟩
theorem SnI.next (h : SnI n N f x n s) : SnI n N f (x + 1) 0 s := by
  have e : ∀ x' y', Bef n (x + 1) 0 x' y' ↔ Bef n x n x' y' := fun x' y' => by unfold Bef; omega
  refine ⟨h.len, fun v hv => ?_, fun x1 y1 x2 y2 h1 h2 => h.inj x1 y1 x2 y2 ((e _ _).1 h1) ((e _ _).1 h2)⟩
  rw [h.mem v hv]
  constructor
  · rintro ⟨x', y', h1, h2⟩; exact ⟨x', y', (e _ _).2 h1, h2⟩
  · rintro ⟨x', y', h1, h2⟩; exact ⟨x', y', (e _ _).1 h1, h2⟩
theorem SnI.done (h : SnI n N f n 0 s) : ∀ x y x' y', x < n → y < n → x' < n → y' < n → f x y = f x' y' → x = x' ∧ y = y' := fun x y x' y' hx hy hx' hy' e =>
  h.inj x y x' y' ⟨hx, hy, .inl hx⟩ ⟨hx', hy', .inl hx'⟩ e
end
/-- both symbols of a place in one number -/
def ovF (n : Nat) (A B : List (List Int)) (x y : Nat) : Nat := n * af A x y + af B x y
def ovL (n : Nat) (A B : List (List Int)) : List (List Int) := sqF n fun x y => (ovF n A B x y : Nat)
section
variable {n : Nat} {A B : List (List Int)}
theorem af_eq (h : Sq0 n A) {x y : Nat} (hx : x < n) (hy : y < n) : at2 A x y = (af A x y : Nat) ∧ af A x y < n := by
  have := h.el x y hx hy; unfold af; omega
theorem ovF_lt (hA : Sq0 n A) (hB : Sq0 n B) {x y : Nat} (hx : x < n) (hy : y < n) : ovF n A B x y < n * n := by
  have a := (af_eq hA hx hy).2
  have b := (af_eq hB hx hy).2
  unfold ovF
  have h1 : n * af A x y + n ≤ n * n := by rw [← Nat.mul_succ]; exact Nat.mul_le_mul_left _ (by omega)
  omega
theorem ovF_inj (hA : Sq0 n A) (hB : Sq0 n B) {x y x' y' : Nat} (hx : x < n) (hy : y < n) (hx' : x' < n) (hy' : y' < n) : ovF n A B x y = ovF n A B x' y' ↔ at2 A x y = at2 A x' y' ∧ at2 B x y = at2 B x' y' := by
  have a := af_eq hA hx hy
  have a' := af_eq hA hx' hy'
  have b := af_eq hB hx hy
  have b' := af_eq hB hx' hy'
  rw [a.1, a'.1, b.1, b'.1]
  unfold ovF
  generalize af A x y = p at *
  generalize af A x' y' = p' at *
  generalize af B x y = q at *
  generalize af B x' y' = q' at *
  constructor
  · intro e
    have e1 : p = p' := by
      have h1 : (n * p + q) / n = p := by rw [Nat.mul_add_div (by omega), Nat.div_eq_of_lt b.2]; omega
      have h2 : (n * p' + q') / n = p' := by rw [Nat.mul_add_div (by omega), Nat.div_eq_of_lt b'.2]; omega
      rw [← h1, ← h2, e]
    subst e1
    exact ⟨rfl, by omega⟩
  · rintro ⟨e1, e2⟩
    rw [show p = p' by omega, show q = q' by omega]
theorem SnI.ort (hA : Sq0 n A) (hB : Sq0 n B) {N : Nat} {s : List Bool} (h : SnI n N (ovF n A B) n 0 s) : Ort n A B := fun x y x' y' hx hy hx' hy' e1 e2 =>
  h.done x y x' y' hx hy hx' hy' ((ovF_inj hA hB hx hy hx' hy').2 ⟨e1, e2⟩)
theorem SnI.nort (hA : Sq0 n A) (hB : Sq0 n B) {N x y : Nat} {s : List Bool} (h : SnI n N (ovF n A B) x y s) (hx : x < n) (hy : y < n) (hf : ovF n A B x y < N) (hb : bat s (ovF n A B x y) = true) : ¬ Ort n A B := fun ho => by
  obtain ⟨x', y', hbf, e⟩ := h.dup hf hb
  obtain ⟨h1, h2, h3⟩ := hbf
  have e' := (ovF_inj hA hB h1 h2 hx hy).1 e
  have := ho x' y' x y h1 h2 hx hy e'.1 e'.2
  omega
theorem ovL_len : (ovL n A B).length = n := sqF_len _ _
theorem ovL_row {x : Nat} (hx : x < n) : (xat (ovL n A B) x).length = n := (sqF_sqr _ _).row x hx
theorem ovL_at {x y : Nat} (hx : x < n) (hy : y < n) : nth (xat (ovL n A B) x) y = (ovF n A B x y : Nat) := at2_sqF hx hy
end
/-! ### lists of squares -/
structure Mols (X : List (List (List Int))) : Prop where
  pos : 1 ≤ X.length
  le : X.length ≤ 10
  lat : ∀ k, k < X.length → Lat (x3at X k)
  ort : ∀ k i, i < k → k < X.length → orB (x3at X k) (x3at X i) = true
open Classical in
noncomputable def molB (X : List (List (List Int))) : Bool := decide (Mols X)
theorem molB_t {X : List (List (List Int))} (h : molB X = true) : Mols X := by simpa [molB] using h
theorem molB_yes {X : List (List (List Int))} (h : Mols X) : molB X = true := by simp [molB, h]
theorem molB_no {X : List (List (List Int))} (h : ¬ Mols X) : molB X = false := by simp [molB, h]
/-- all squares have as many rows -/
theorem Mols.len {X : List (List (List Int))} (h : Mols X) {k : Nat} (hk : k < X.length) : (x3at X k).length = (x3at X 0).length := by
  rcases Nat.eq_zero_or_pos k with rfl | h0
  · rfl
  · exact (orB_t (h.ort k 0 h0 hk)).1
end Go.Proofs.Ytpfgbbbjldpnnaa
