/- Walks: all rows. Walks: FullArray of both sides. -/
import Derived.Test.YtpfgbbbjldpnnaaDig
import Derived.Test.YtpfgbbbjldpnnaaMark
import Derived.Deep.Cut
namespace Go.Proofs.Ytpfgbbbjldpnnaa
set_option linter.unusedSimpArgs false
set_option linter.unusedVariables false
open Go.RowKit


/-- the swaps of Reverse -/
def rvk (k : Nat) (xs : List Int) : List Int := (List.range xs.length).map fun p => if p < k ∨ xs.length - 1 - k < p then nth xs (xs.length - 1 - p) else nth xs p
theorem rvk_len (k : Nat) (xs : List Int) : (rvk k xs).length = xs.length := by simp [rvk]
theorem nth_rvk {k : Nat} {xs : List Int} {p : Nat} (h : p < xs.length) : nth (rvk k xs) p = if p < k ∨ xs.length - 1 - k < p then nth xs (xs.length - 1 - p) else nth xs p := by
  simp [nth, rvk, h]
theorem list_nth {xs ys : List Int} (hl : xs.length = ys.length) (h : ∀ p, p < xs.length → nth xs p = nth ys p) : xs = ys := by
  apply List.ext_getElem hl
  intro j h1 h2
  have := h j h1
  rwa [nth_eq h1, nth_eq h2] at this
theorem nth_set {xs : List Int} {i p : Nat} {x : Int} (h : i < xs.length) : nth (xs.set i x) p = if i = p then x else nth xs p := by
  unfold nth
  rw [List.getD_eq_getElem?_getD, List.getElem?_set]
  split
  · rename_i e; subst e; simp [h]
  · simp [List.getD_eq_getElem?_getD]
theorem rvk_0 (xs : List Int) : rvk 0 xs = xs := by
  refine list_nth (rvk_len _ _) fun p hp => ?_
  rw [rvk_len] at hp
  rw [nth_rvk hp, if_neg (by omega)]
theorem rvk_end {k : Nat} {xs : List Int} (h : xs.length ≤ 2 * k + 1) : rvk k xs = xs.reverse := by
  refine list_nth (by rw [rvk_len]; simp) fun p hp => ?_
  rw [rvk_len] at hp
  have e : nth xs.reverse p = nth xs (xs.length - 1 - p) := by
    unfold nth; rw [List.getD_eq_getElem?_getD, List.getElem?_reverse hp, List.getD_eq_getElem?_getD]
  rw [nth_rvk hp, e]
  split
  · rfl
  · congr 1; omega
theorem rvk_step {k : Nat} {xs : List Int} (h : 2 * k + 1 < xs.length) :
    ((rvk k xs).set k (nth (rvk k xs) (xs.length - 1 - k))).set (xs.length - 1 - k) (nth (rvk k xs) k) = rvk (k + 1) xs := by
  refine list_nth (by simp [rvk_len]) fun p hp => ?_
  simp only [List.length_set, rvk_len] at hp
  rw [nth_set (by simp [rvk_len]; omega), nth_set (by rw [rvk_len]; omega), nth_rvk hp, nth_rvk hp, nth_rvk (show k < xs.length by omega), nth_rvk (show xs.length - 1 - k < xs.length by omega)]
  by_cases h1 : xs.length - 1 - k = p
  · subst h1
    rw [if_pos rfl, if_neg (by omega), if_pos (by omega)]; congr 1; omega
  · rw [if_neg h1]
    by_cases h2 : k = p
    · subst h2
      rw [if_pos rfl, if_neg (by omega), if_pos (by omega)]
    · rw [if_neg h2]
      by_cases h3 : p < k ∨ xs.length - 1 - k < p
      · rw [if_pos h3, if_pos (by omega)]
      · rw [if_neg h3, if_neg (by omega)]

theorem St.el_ne {B : Nat} {w0 w : World} {L : List Ent} (h : St B w0 w L) (i : Nat) {e : TypeId} {v : Value} {us : List Value} (hi : L[i]? = some (row e v us)) {a b : Nat} (ha : a < us.length) (hab : a ≠ b) : el v a ≠ el v b := by
  have hx := h.ok _ (List.mem_of_getElem? hi)
  rcases hx with ⟨hp, _⟩ | ⟨_, hv, hu⟩ | ⟨_, g, cap, cur, hv, hB, hh, h1, h2, h3, h4⟩
  · simp [row] at hp
  · simp only [row] at hu; rw [hu] at ha; simp at ha
  · simp only [row] at hv
    rw [hv]; simp [el, add_mk, hab]

/-- what FullArray gives -/
structure AV where
  lv : Int
  co : Int
  rows : List (List Int)
def noA : AV := ⟨0, 0, []⟩
/-- it hands over an array of its own, and a code -/
def MakesA (w : World) (A : AV) (c : Int) (e : Ending) (w' : World) : Prop := ∃ v us, e = .returned (.tuple #[av A.lv A.co v, .int .i64 c]) ∧ us.length = A.rows.length ∧ St w.heap.size w w' (own2 v us A.rows)
def fullRows (lv : Int) (m : Nat) (n : Nat) : List (List Int) := (List.range n).map fun (k : Nat) => digs lv m k
def fullA (lv co : Int) : AV := if shapeB lv co = true then (if pu lv 256 co.toNat 1 > 256 then noA else ⟨lv, co, fullRows lv co.toNat (pu lv 256 co.toNat 1).toNat⟩) else noA
def fullC (lv co : Int) : Int := if shapeB lv co = true then (if pu lv 256 co.toNat 1 > 256 then 5 else 0) else 2
theorem shapeB_t {lv co : Int} (h : shapeB lv co = true) : 2 ≤ lv ∧ lv ≤ 16 ∧ 1 ≤ co ∧ co ≤ 8 := by
  simp [shapeB, inB] at h; omega
theorem own2_nil : own2 (.slice none 0 0) [] [] = [row 24 (.slice none 0 0) []] := rfl
theorem St.nilrow {B : Nat} {w0 w : World} {L : List Ent} (h : St B w0 w L) (e : TypeId) : St B w0 w (L ++ [row e (.slice none 0 0) []]) :=
  h.add ⟨rfl, rfl, rfl, Nat.le_refl _, fun _ _ _ => rfl⟩ _ (.inr (.inl ⟨rfl, rfl, rfl⟩)) (fun k hk => by simp [bk, row] at hk)
theorem fullRows_succ (lv : Int) (m n : Nat) : fullRows lv m (n + 1) = fullRows lv m n ++ [digs lv m n] := by simp [fullRows, List.range_succ]
theorem fullRows_len (lv : Int) (m n : Nat) : (fullRows lv m n).length = n := by simp [fullRows]


theorem MakesA.no {w w' : World} {A : AV} {c c' : Int} {L : List Ent} (hA : A = noA) (hc : c = c') (h : St w.heap.size w w' L) :
    MakesA w A c (.returned (.tuple #[.agg #[.int .i64 0, .int .i64 0, .slice none 0 0], .int .i64 c'])) w' := by
  subst hA; subst hc
  exact ⟨.slice none 0 0, [], rfl, rfl, (h.out).nilrow _⟩
theorem MakesA.yes {w w' : World} {A : AV} {c c' : Int} {lv co : Int} {v : Value} {us : List Value} {xss : List (List Int)} {L : List Ent} (hA : A = ⟨lv, co, xss⟩) (hc : c = c') (hl : us.length = xss.length) (hs : (own2 v us xss).Sublist L) (h : St w.heap.size w w' L) :
    MakesA w A c (.returned (.tuple #[.agg #[.int .i64 lv, .int .i64 co, v], .int .i64 c'])) w' := by
  subst hA; subst hc
  exact ⟨v, us, rfl, hl, h.sub hs⟩


end Go.Proofs.Ytpfgbbbjldpnnaa
