/- Walks: all rows. -/
import Derived.Test.YtcenabaklokhhaaDig
import Derived.Test.YtcenabaklokhhaaMark
import Derived.Test.YtcenabaklokhhaaPow
import Derived.Deep.Cut
namespace Go.Proofs.Ytcenabaklokhhaa
set_option linter.unusedSimpArgs false
set_option linter.unusedVariables false
open Go.RowKit

/-- the swaps of Reverse -/
def rvk (k : Nat) (xs : List Int) : List Int := (List.range xs.length).map fun p => if p < k ∨ xs.length - 1 - k < p then nth xs (xs.length - 1 - p) else nth xs p
theorem rvk_len (k : Nat) (xs : List Int) : (rvk k xs).length = xs.length := by simp [rvk]
theorem nth_rvk {k : Nat} {xs : List Int} {p : Nat} (h : p < xs.length) : nth (rvk k xs) p = if p < k ∨ xs.length - 1 - k < p then nth xs (xs.length - 1 - p) else nth xs p := by
  simp [nth, rvk, h]
theorem list_nth {xs ys : List Int} (hl : xs.length = ys.length) (h : ∀ p, p < xs.length → nth xs p = nth ys p) : xs = ys := by
  apply List.ext_getElem hl
  intro j h1 h2
  have := h j h1
  rwa [nth_eq h1, nth_eq h2] at this
theorem nth_set {xs : List Int} {i p : Nat} {x : Int} (h : i < xs.length) : nth (xs.set i x) p = if i = p then x else nth xs p := by
  unfold nth
  rw [List.getD_eq_getElem?_getD, List.getElem?_set]
  split
  · rename_i e; subst e; simp [h]
  · simp [List.getD_eq_getElem?_getD]
theorem rvk_0 (xs : List Int) : rvk 0 xs = xs := by
  refine list_nth (rvk_len _ _) fun p hp => ?_
  rw [rvk_len] at hp
  rw [nth_rvk hp, if_neg (by omega)]
theorem rvk_end {k : Nat} {xs : List Int} (h : xs.length ≤ 2 * k + 1) : rvk k xs = xs.reverse := by
  refine list_nth (by rw [rvk_len]; simp) fun p hp => ?_
  rw [rvk_len] at hp
  have e : nth xs.reverse p = nth xs (xs.length - 1 - p) := by
    unfold nth; rw [List.getD_eq_getElem?_getD, List.getElem?_reverse hp, List.getD_eq_getElem?_getD]
  rw [nth_rvk hp, e]
  split
  · rfl
  · congr 1; omega
theorem rvk_step {k : Nat} {xs : List Int} (h : 2 * k + 1 < xs.length) :
    ((rvk k xs).set k (nth (rvk k xs) (xs.length - 1 - k))).set (xs.length - 1 - k) (nth (rvk k xs) k) = rvk (k + 1) xs := by
  refine list_nth (by simp [rvk_len]) fun p hp => ?_
  simp only [List.length_set, rvk_len] at hp
  rw [nth_set (by simp [rvk_len]; omega), nth_set (by rw [rvk_len]; omega), nth_rvk hp, nth_rvk hp, nth_rvk (show k < xs.length by omega), nth_rvk (show xs.length - 1 - k < xs.length by omega)]
  by_cases h1 : xs.length - 1 - k = p
  · subst h1
    rw [if_pos rfl, if_neg (by omega), if_pos (by omega)]; congr 1; omega
  · rw [if_neg h1]
    by_cases h2 : k = p
    · subst h2
      rw [if_pos rfl, if_neg (by omega), if_pos (by omega)]
    · rw [if_neg h2]
      by_cases h3 : p < k ∨ xs.length - 1 - k < p
      · rw [if_pos h3, if_pos (by omega)]
      · rw [if_neg h3, if_neg (by omega)]

theorem St.el_ne {B : Nat} {w0 w : World} {L : List Ent} (h : St B w0 w L) (i : Nat) {e : TypeId} {v : Value} {us : List Value} (hi : L[i]? = some (row e v us)) {a b : Nat} (ha : a < us.length) (hab : a ≠ b) : el v a ≠ el v b := by
  have hx := h.ok _ (List.mem_of_getElem? hi)
  rcases hx with ⟨hp, _⟩ | ⟨_, hv, hu⟩ | ⟨_, g, cap, cur, hv, hB, hh, h1, h2, h3, h4⟩
  · simp [row] at hp
  · simp only [row] at hu; rw [hu] at ha; simp at ha
  · simp only [row] at hv
    rw [hv]; simp [el, add_mk, hab]

set_option maxHeartbeats 1000000 in
set_option maxRecDepth 100000 in
theorem Reverse_c {B : Nat} {w0 w : World} {L : List Ent} (v : Value) (xs : List Int) (hS : St B w0 w L) (i : Nat) (hi : L[i]? = some (row 2 v (iv xs))) :
    Calls Try.prog 213 #[v] w fun e w' => e = .returned (.tuple #[]) ∧ St B w0 w' (L.set i (row 2 v (iv xs.reverse))) := by
  have hv := hS.rdI i hi
  have hln := hv.len
  have hix := hv.ix
  have hixe := hv.ixe
  have hm := hv.le
  have hil : i < L.length := (List.getElem?_eq_some_iff.1 hi).1
  go_enter Try.func213, Try.ntmps213
  go_wp2_with fail
  go_loopw [2, 3] (fun ii jj wr => ∃ k : Nat, 2 * k ≤ xs.length ∧ ii = .int .i64 k ∧ jj = .int .i64 ((xs.length : Int) - 1 - k) ∧ St B w0 wr (L.set i (row 2 v (iv (rvk k xs))))) (fun ii _ _ => xs.length - (intOf ii).toNat)
  case atStart =>
    refine ⟨0, by omega, rfl, by congr 1; omega, ?_⟩
    have e : L.set i (row 2 v (iv (rvk 0 xs))) = L := by
      apply List.ext_getElem? ; intro m
      rw [List.getElem?_set]
      by_cases e : i = m
      · subst e; rw [if_pos rfl, hi]; simp [rvk_0, hil]
      · rw [if_neg e]
    rw [e]; exact hS
  case round =>
    obtain ⟨k, hk, rfl, rfl, hS1⟩ := hrel
    have hi1 : Hid ((L.set i (row 2 v (iv (rvk k xs))))[i]? = some (row 2 v (iv (rvk k xs)))) := by unfold Hid; simp [hil]
    by_cases hlt : (k : Int) < (xs.length : Int) - 1 - k
    · have hlr := rvk_len k xs
      have hk1 : k < (rvk k xs).length := by omega
      have hk2 : xs.length - 1 - k < (rvk k xs).length := by omega
      have hx2 := hixe ((xs.length : Int) - 1 - k) (xs.length - 1 - k) (by omega) (by omega)
      have hx1 := hixe (k : Int) k rfl (by omega)
      have c1 := (hS1.rdI i hi1.out).cell k hk1
      have c2 := (hS1.rdI i hi1.out).cell (xs.length - 1 - k) hk2
      have u1 := hS1.unfrozen i hi1.out (j := k) (by rw [iv_len]; exact hk1)
      have u2 := hS1.unfrozen i hi1.out (j := xs.length - 1 - k) (by rw [iv_len]; exact hk2)
      have s1 := hS1.store i hi1.out (j := k) (by rw [iv_len]; exact hk1) (.int .i64 (nth (rvk k xs) (xs.length - 1 - k)))
      have hi2 : Hid (((L.set i (row 2 v (iv (rvk k xs)))).set i (row 2 v ((iv (rvk k xs)).set k (.int .i64 (nth (rvk k xs) (xs.length - 1 - k))))))[i]? = some (row 2 v (iv ((rvk k xs).set k (nth (rvk k xs) (xs.length - 1 - k)))))) := by unfold Hid; rw [iv_set]; simp [hil]
      have s2 := s1.store i hi2.out (j := xs.length - 1 - k) (by rw [iv_len, List.length_set]; exact hk2) (.int .i64 (nth (rvk k xs) k))
      have hs2 := Lib.hid s2.drew
      have hstep := Lib.hid (rvk_step (k := k) (xs := xs) (by omega))
      have n1 := hS1.el_ne i hi1.out (a := k) (b := xs.length - 1 - k) (by rw [iv_len]; exact hk1) (by omega)
      have n2 := hS1.el_ne i hi1.out (a := xs.length - 1 - k) (b := k) (by rw [iv_len]; exact hk2) (by omega)
      clear s1 s2 hlr
      go_wp2_with fail
      go_region
      all_goals
        go_wp2_with fail
        go_roundw
        case rel =>
          refine ⟨k + 1, by omega, by go_num, by congr 1; push_cast; omega, ?_⟩
          have h := hs2.out
          rw [List.set_set, List.set_set, iv_set, hstep.out] at h
          exact h
        case measure => simp [intOf]; omega
    · go_wp2_with fail
      refine bodyPost_end (results_none rfl _ _ _) rfl ?_
      refine ⟨rfl, ?_⟩
      rw [rvk_end (by omega)] at hS1
      exact hS1

set_option maxRecDepth 100000 in
theorem highFirst_c (n base : Int) (m : Nat) (w : World) (hn : 0 ≤ n) (hn2 : n ≤ 4611686018427387904) (hb : 2 ≤ base) (hb2 : base ≤ 1073741824) (hm : m ≤ 4096) :
    Calls Try.prog 136 #[.int .i64 n, .int .i64 base, .int .i64 m] w (MakesI w (digs base m n)) := by
  have H := Lib.hid (digitsOf_c n base m w hn hn2 hb hb2 hm)
  go_enter Try.func136, Try.ntmps136
  go_wp2_with fail
  refine H.out.mono ?_
  rintro e w1 ⟨v, rfl, hS⟩
  go_wp2_with fail
  refine (Reverse_c v _ hS 0 rfl).mono ?_
  rintro e w2 ⟨rfl, hS2⟩
  go_wp2_with fail
  go_ret
  exact ⟨v, rfl, hS2⟩

/-- what FullArray gives -/
structure AV where
  lv : Int
  co : Int
  rows : List (List Int)
def noA : AV := ⟨0, 0, []⟩
/-- it hands over an array of its own, and a code -/
def MakesA (w : World) (A : AV) (c : Int) (e : Ending) (w' : World) : Prop := ∃ v us, e = .returned (.tuple #[av A.lv A.co v, .int .i64 c]) ∧ us.length = A.rows.length ∧ St w.heap.size w w' (own2 v us A.rows)
def fullRows (lv : Int) (m : Nat) (n : Nat) : List (List Int) := (List.range n).map fun (k : Nat) => digs lv m k
def fullA (lv co : Int) : AV := if shapeB lv co = true then (if pu lv 256 co.toNat 1 > 256 then noA else ⟨lv, co, fullRows lv co.toNat (pu lv 256 co.toNat 1).toNat⟩) else noA
def fullC (lv co : Int) : Int := if shapeB lv co = true then (if pu lv 256 co.toNat 1 > 256 then 5 else 0) else 2
theorem shapeB_t {lv co : Int} (h : shapeB lv co = true) : 2 ≤ lv ∧ lv ≤ 16 ∧ 1 ≤ co ∧ co ≤ 8 := by
  simp [shapeB, inB] at h; omega
theorem own2_nil : own2 (.slice none 0 0) [] [] = [row 23 (.slice none 0 0) []] := rfl
theorem St.nilrow {B : Nat} {w0 w : World} {L : List Ent} (h : St B w0 w L) (e : TypeId) : St B w0 w (L ++ [row e (.slice none 0 0) []]) :=
  h.add ⟨rfl, rfl, rfl, Nat.le_refl _, fun _ _ _ => rfl⟩ _ (.inr (.inl ⟨rfl, rfl, rfl⟩)) (fun k hk => by simp [bk, row] at hk)
theorem fullRows_succ (lv : Int) (m n : Nat) : fullRows lv m (n + 1) = fullRows lv m n ++ [digs lv m n] := by simp [fullRows, List.range_succ]
theorem fullRows_len (lv : Int) (m n : Nat) : (fullRows lv m n).length = n := by simp [fullRows]
end Go.Proofs.Ytcenabaklokhhaa
