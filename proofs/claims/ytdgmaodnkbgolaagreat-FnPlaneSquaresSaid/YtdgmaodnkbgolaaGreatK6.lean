/- The texts of this claim, run 6: PHd2 Fx Dig Fld5 AnyR Sum. -/
import Derived.Test.YtdgmaodnkbgolaaGreatK1
import Derived.Test.YtdgmaodnkbgolaaGreatK3
import Derived.Test.YtdgmaodnkbgolaaGreatK4
import Derived.Test.YtdgmaodnkbgolaaGreatK5
import Derived.Deep.RegionHeld3
import Derived.Deep.DrawnRows
section
/- Plain: transposes, excess and designs of Hadamard matrices. -/
namespace Go.Proofs.YtdgmaodnkbgolaaGreat
set_option linter.unusedSimpArgs false
set_option linter.unusedVariables false

theorem sN_add2 (f g : Nat → Int) : ∀ n : Nat, sN n (fun k => f k + g k) = sN n f + sN n g
  | 0 => rfl
  | n + 1 => by rw [sN, sN, sN, sN_add2 f g n]; omega
theorem sN_zero : ∀ n : Nat, sN n (fun _ => 0) = 0
  | 0 => rfl
  | n + 1 => by rw [sN, sN_zero n]; rfl
theorem sN_const (c : Int) : ∀ n : Nat, sN n (fun _ => c) = n * c
  | 0 => by simp [sN]
  | n + 1 => by rw [sN, sN_const c n]; push_cast; grind
theorem sN_swap (f : Nat → Nat → Int) (m : Nat) : ∀ n : Nat, sN n (fun x => sN m (f x)) = sN m fun y => sN n fun x => f x y
  | 0 => by simp only [sN, sN_zero]
  | n + 1 => by simp only [sN]; rw [sN_swap f m n, ← sN_add2]
theorem sN_mulR (c : Int) (f : Nat → Int) (n : Nat) : sN n (fun k => f k * c) = sN n f * c := by
  rw [Int.mul_comm, ← sN_mul]; exact sN_congr fun k _ => Int.mul_comm _ _
theorem sN_nn {f : Nat → Int} : ∀ {n : Nat}, (∀ k, k < n → 0 ≤ f k) → 0 ≤ sN n f
  | 0, _ => by simp [sN]
  | n + 1, h => by have := sN_nn (n := n) (fun k hk => h k (by omega)); have := h n (by omega); rw [sN]; omega
theorem sN_z {f : Nat → Int} : ∀ {n : Nat}, (∀ k, k < n → 0 ≤ f k) → sN n f = 0 → ∀ k, k < n → f k = 0
  | 0, _, _, k, hk => by omega
  | n + 1, h, h0, k, hk => by
    have h1 := sN_nn (n := n) (fun k hk => h k (by omega))
    have h2 := h n (by omega)
    rw [sN] at h0
    by_cases e : k = n
    · subst e; omega
    · exact sN_z (n := n) (fun k hk => h k (by omega)) (by omega) k (by omega)
theorem sN_delta (c : Int) (y : Nat) : ∀ {n : Nat}, y < n → sN n (fun y' => if y = y' then c else 0) = c
  | 0, h => by omega
  | n + 1, h => by
    rw [sN]
    by_cases e : y = n
    · subst e
      rw [sN_congr (g := fun _ => 0) (fun k hk => if_neg (by omega)), sN_zero, if_pos rfl]; omega
    · rw [sN_delta c y (n := n) (by omega), if_neg e]; omega
theorem sN_mm (f g : Nat → Int) (n m : Nat) : sN n f * sN m g = sN n fun x => sN m fun y => f x * g y := by
  rw [← sN_mulR]; exact sN_congr fun x _ => (sN_mul _ _ _).symm
section
variable {n : Nat} {H : List (List Int)}
theorem Had.diag (h : Had n H) {x : Nat} (hx : x < n) : sN n (fun y => at2 H x y * at2 H x y) = n := by
  rw [sN_congr (g := fun _ => 1) (fun y hy => (h.el x y hx hy).sq), sN_const]; omega
theorem Had.dots (h : Had n H) {x x' : Nat} (hx : x < n) (hx' : x' < n) : sN n (fun y => at2 H x y * at2 H x' y) = if x = x' then (n : Int) else 0 := by
  by_cases e : x = x'
  · subst e; rw [if_pos rfl]; exact h.diag hx
  · rw [if_neg e]; exact h.dot x x' hx hx' e
/-- columns are orthogonal too -/
theorem Had.col (h : Had n H) {y y' : Nat} (hy : y < n) (hy' : y' < n) : sN n (fun x => at2 H x y * at2 H x y') = if y = y' then (n : Int) else 0 := by
  have hd : ∀ y, y < n → sN n (fun x => at2 H x y * at2 H x y) = n := fun y hy => by
    rw [sN_congr (g := fun _ => 1) (fun x hx => (h.el x y hx hy).sq), sN_const]; omega
  have key : sN n (fun y => sN n fun y' => sN n (fun x => at2 H x y * at2 H x y') * sN n (fun x => at2 H x y * at2 H x y')) = n * (n * n) := by
    have e1 : ∀ y y', sN n (fun x => at2 H x y * at2 H x y') * sN n (fun x => at2 H x y * at2 H x y') = sN n fun x => sN n fun x' => (at2 H x y * at2 H x' y) * (at2 H x y' * at2 H x' y') := fun y y' => by
      rw [sN_mm]; exact sN_congr fun x _ => sN_congr fun x' _ => by grind
    have e2 : sN n (fun y => sN n fun y' => sN n fun x => sN n fun x' => (at2 H x y * at2 H x' y) * (at2 H x y' * at2 H x' y')) = sN n fun x => sN n fun x' => sN n (fun y => at2 H x y * at2 H x' y) * sN n (fun y => at2 H x y * at2 H x' y) := by
      rw [sN_congr (g := fun y => sN n fun x => sN n fun x' => sN n fun y' => (at2 H x y * at2 H x' y) * (at2 H x y' * at2 H x' y')) (fun y _ => by
        rw [sN_swap (fun y' x => sN n fun x' => (at2 H x y * at2 H x' y) * (at2 H x y' * at2 H x' y'))]
        exact sN_congr fun x _ => sN_swap _ _ _)]
      rw [sN_swap (fun y x => sN n fun x' => sN n fun y' => (at2 H x y * at2 H x' y) * (at2 H x y' * at2 H x' y'))]
      refine sN_congr fun x _ => ?_
      rw [sN_swap (fun y x' => sN n fun y' => (at2 H x y * at2 H x' y) * (at2 H x y' * at2 H x' y'))]
      exact sN_congr fun x' _ => (sN_mm _ _ _ _).symm
    rw [sN_congr (g := fun y => sN n fun y' => sN n fun x => sN n fun x' => (at2 H x y * at2 H x' y) * (at2 H x y' * at2 H x' y')) (fun y _ => sN_congr fun y' _ => e1 y y'), e2]
    rw [sN_congr (g := fun _ => (n : Int) * n) (fun x hx => by
      rw [sN_congr (g := fun x' => if x = x' then (n : Int) * n else 0) (fun x' hx' => by rw [h.dots hx hx']; split <;> simp), sN_delta _ _ hx]), sN_const]
  have hg : ∀ y, y < n → ∀ y', y' < n → 0 ≤ sN n (fun x => at2 H x y * at2 H x y') * sN n (fun x => at2 H x y * at2 H x y') + -(if y = y' then (n : Int) * n else 0) := fun y hy y' hy' => by
    by_cases e : y = y'
    · subst e; rw [if_pos rfl, hd y hy]; omega
    · rw [if_neg e]
      generalize sN n (fun x => at2 H x y * at2 H x y') = s
      rcases Int.le_total 0 s with h | h
      · have := Int.mul_nonneg h h; omega
      · have := Int.mul_nonneg (Int.neg_nonneg_of_nonpos h) (Int.neg_nonneg_of_nonpos h)
        rw [Int.neg_mul_neg] at this; omega
  have hs : sN n (fun y => sN n fun y' => sN n (fun x => at2 H x y * at2 H x y') * sN n (fun x => at2 H x y * at2 H x y') + -(if y = y' then (n : Int) * n else 0)) = 0 := by
    rw [sN_congr (g := fun y => sN n (fun y' => sN n (fun x => at2 H x y * at2 H x y') * sN n (fun x => at2 H x y * at2 H x y')) + -((n : Int) * n)) (fun y hy => by
      rw [sN_add2]
      congr 1
      rw [sN_congr (g := fun y' => (-1) * (if y = y' then (n : Int) * n else 0)) (fun y' _ => by omega), sN_mul, sN_delta _ _ hy]; omega), sN_add2, key, sN_const]
    grind
  have h1 := sN_z (fun y hy => sN_nn (fun y' hy' => hg y hy y' hy')) hs y hy
  have h2 := sN_z (fun y' hy' => hg y hy y' hy') h1 y' hy'
  by_cases e : y = y'
  · subst e; rw [if_pos rfl]; exact hd y hy
  · rw [if_neg e] at h2 ⊢
    have h3 : sN n (fun x => at2 H x y * at2 H x y') * sN n (fun x => at2 H x y * at2 H x y') = 0 := by omega
    rcases Int.mul_eq_zero.1 h3 with h4 | h4 <;> exact h4
end
/-! ### the design of a matrix -/
def ind (b : Bool) : Int := if b = true then 1 else 0
theorem cntD_sN (p : List Int → Bool) (f : Nat → List Int) : ∀ m : Nat, cntD p ((List.range m).map f) = sN m fun i => ind (p (f i))
  | 0 => rfl
  | m + 1 => by
    rw [List.range_succ, List.map_append]
    simp only [List.map_cons, List.map_nil]
    rw [cntD_snoc, cntD_sN p f m, sN]; rfl
theorem ind_pm {u : Int} (h : Pm u) : 2 * ind (u == 1) = 1 + u := by rcases h with rfl | rfl <;> rfl
theorem ind_pm2 {u v : Int} (hu : Pm u) (hv : Pm v) : 4 * ind ((u == 1) && (v == 1)) = 1 + u + v + u * v := by
  rcases hu with rfl | rfl <;> rcases hv with rfl | rfl <;> rfl
theorem sN_front (f : Nat → Int) (m : Nat) : sN (m + 1) f = f 0 + sN m fun k => f (k + 1) := by
  rw [Nat.add_comm, sN_add]
  simp only [sN, Int.zero_add]
  congr 1
  exact sN_congr fun k _ => by rw [Nat.add_comm]
theorem upF_lenN (f : Int → Bool) : ∀ k lo : Nat, ((upF f lo k).length : Int) = sN k fun i => ind (f ((lo + i : Nat) : Int))
  | 0, _ => rfl
  | k + 1, lo => by
    rw [sN_front, upF]
    have ih := upF_lenN f k (lo + 1)
    rw [sN_congr (f := fun i => ind (f ((lo + (i + 1) : Nat) : Int))) (g := fun i => ind (f ((lo + 1 + i : Nat) : Int))) (fun i _ => by rw [show lo + (i + 1) = lo + 1 + i by omega]), ← ih]
    simp only [Nat.add_zero]
    cases hf : f lo
    · simp [ind]
    · simp [ind]; omega
/-- the parameters of a balanced design -/
theorem prm_of {P K : Nat} {R L : Int} {A : List (List Int)} (hP : 2 ≤ P) (h0 : 0 < A.length) (hK : 2 ≤ K) (hl : ∀ b ∈ A, b.length = K) (hr : ∀ x, x < P → repF A x = R) (hp : ∀ x y, x < y → y < P → parF A x y = L) :
    prmB P A = true ∧ prmV P A = [(P : Int), (A.length : Int), R, (K : Int), L] := by
  have hx0 : (xat A 0).length = K := hl _ (xat_mem h0)
  have hpa : ∀ c ∈ parL P A, c = L := by
    intro c hc
    simp only [parL, List.mem_flatten, List.mem_map, List.mem_range] at hc
    obtain ⟨r, ⟨x, hx, rfl⟩, hc⟩ := hc
    simp only [parR, List.mem_map, List.mem_range] at hc
    obtain ⟨t, ht, rfl⟩ := hc
    exact hp x (x + 1 + t) (by omega) (by omega)
  have hne : 0 < (parL P A).length := by
    rw [List.length_pos_iff]
    intro e
    have hm : parF A 0 (0 + 1 + 0) ∈ parL P A := by
      simp only [parL, List.mem_flatten, List.mem_map, List.mem_range]
      exact ⟨_, ⟨0, by omega, rfl⟩, by simp only [parR, List.mem_map, List.mem_range]; exact ⟨0, by omega, rfl⟩⟩
    rw [e] at hm; cases hm
  have hn0 : nth (parL P A) 0 = L := hpa _ (nth_mem hne)
  have hb : prmB P A = true := by
    simp only [prmB, Bool.and_eq_true, decide_eq_true_eq, List.all_eq_true, beq_iff_eq]
    exact ⟨⟨⟨⟨hP, h0⟩, by omega⟩, fun b hb => by rw [hl b hb, hx0]⟩, fun c hc => by rw [hpa c hc, hn0]⟩
  refine ⟨hb, ?_⟩
  have hr0 : nth (repL P A) 0 = R := by
    rw [nth_eq (by simp [repL]; omega)]
    simp only [repL, List.getElem_map, List.getElem_range]
    exact hr 0 (by omega)
  rw [prmV, if_pos hb, hn0, hx0, hr0]
/-- a normal matrix -/
structure Nm (n : Nat) (N : List (List Int)) : Prop where
  had : Had n N
  row : ∀ y, y < n → at2 N 0 y = 1
  col : ∀ x, x < n → at2 N x 0 = 1
def hbl (n : Nat) (N : List (List Int)) (i : Nat) : List Int := upF (fun x => at2 N (i + 1) (x.toNat + 1) == 1) 0 (n - 1)
def hbA (n : Nat) (N : List (List Int)) : List (List Int) := (List.range (n - 1)).map (hbl n N)
section
variable {n : Nat} {N : List (List Int)}
theorem mem_hbl {i x : Nat} (hx : x < n - 1) : decide ((x : Int) ∈ hbl n N i) = (at2 N (i + 1) (x + 1) == 1) := by
  have := contains_upF (f := fun x => at2 N (i + 1) (x.toNat + 1) == 1) (k := n - 1) (lo := 0) (j := x) (by omega) (by omega)
  rw [Int.toNat_natCast] at this
  rw [← this, hbl]; simp
theorem Nm.rowsum (h : Nm n N) {i : Nat} (hi : i < n - 1) : sN (n - 1) (fun y => at2 N (i + 1) (y + 1)) = -1 := by
  have h0 := h.had.dot (i + 1) 0 (by omega) (by omega) (by omega)
  rw [sN_congr (g := fun y => at2 N (i + 1) y) (fun y hy => by rw [h.row y hy, Int.mul_one])] at h0
  obtain ⟨m, rfl⟩ : ∃ m, n = m + 1 := ⟨n - 1, by omega⟩
  rw [sN_front, h.col _ (by omega)] at h0
  rw [Nat.add_sub_cancel]; omega
theorem Nm.colsum (h : Nm n N) {y : Nat} (hy : y < n - 1) : sN (n - 1) (fun i => at2 N (i + 1) (y + 1)) = -1 := by
  have h0 := h.had.col (y := y + 1) (y' := 0) (by omega) (by omega)
  rw [if_neg (by omega), sN_congr (g := fun x => at2 N x (y + 1)) (fun x hx => by rw [h.col x hx, Int.mul_one])] at h0
  obtain ⟨m, rfl⟩ : ∃ m, n = m + 1 := ⟨n - 1, by omega⟩
  rw [sN_front, h.row _ (by omega)] at h0
  rw [Nat.add_sub_cancel]; omega
theorem Nm.colpair (h : Nm n N) {y z : Nat} (hy : y < n - 1) (hz : z < n - 1) (hne : y ≠ z) : sN (n - 1) (fun i => at2 N (i + 1) (y + 1) * at2 N (i + 1) (z + 1)) = -1 := by
  have h0 := h.had.col (y := y + 1) (y' := z + 1) (by omega) (by omega)
  rw [if_neg (by omega)] at h0
  obtain ⟨m, rfl⟩ : ∃ m, n = m + 1 := ⟨n - 1, by omega⟩
  rw [sN_front, h.row _ (by omega), h.row _ (by omega)] at h0
  rw [Nat.add_sub_cancel]; omega
theorem Nm.blen (h : Nm n N) {i : Nat} (hi : i < n - 1) : 2 * ((hbl n N i).length : Int) = n - 2 := by
  rw [hbl, upF_lenN, ← sN_mul, sN_congr (g := fun y => 1 + at2 N (i + 1) (y + 1)) (fun y hy => by
    rw [Nat.zero_add, Int.toNat_natCast]; exact ind_pm (h.had.el _ _ (by omega) (by omega))), sN_add2, h.rowsum hi, sN_const]
  omega
theorem Nm.rep (h : Nm n N) {x : Nat} (hx : x < n - 1) : 2 * repF (hbA n N) x = n - 2 := by
  rw [repF, hbA, cntD_sN, ← sN_mul, sN_congr (g := fun i => 1 + at2 N (i + 1) (x + 1)) (fun i hi => by
    rw [mem_hbl hx]; exact ind_pm (h.had.el _ _ (by omega) (by omega))), sN_add2, h.colsum hx, sN_const]
  omega
theorem Nm.par (h : Nm n N) {x y : Nat} (hx : x < n - 1) (hy : y < n - 1) (hne : x ≠ y) : 4 * parF (hbA n N) x y = n - 4 := by
  rw [parF, hbA, cntD_sN, ← sN_mul, sN_congr (g := fun i => (1 + at2 N (i + 1) (x + 1)) + (at2 N (i + 1) (y + 1) + at2 N (i + 1) (x + 1) * at2 N (i + 1) (y + 1))) (fun i hi => by
    rw [mem_hbl hx, mem_hbl hy, ind_pm2 (h.had.el _ _ (by omega) (by omega)) (h.had.el _ _ (by omega) (by omega))]; omega), sN_add2, sN_add2, sN_add2, h.colsum hx, h.colsum hy, h.colpair hx hy hne, sN_const]
  omega
theorem hbA_len : (hbA n N).length = n - 1 := by simp [hbA]
theorem mem_hbA {b : List Int} : b ∈ hbA n N ↔ ∃ i, i < n - 1 ∧ hbl n N i = b := by simp [hbA]
theorem hbl_inc (n : Nat) (N : List (List Int)) (i : Nat) : incB (-1) ((n - 1 : Nat) : Int) (hbl n N i) = true := incB_upF _ _ _ (by omega) (by omega)
/-- it is a design -/
theorem Nm.dok (h : Nm n N) (h4 : 4 ≤ n) : DOk ((n - 1 : Nat) : Int) (srtL (hbA n N)) := by
  have hn := h.had.le
  refine DOk.mk' (by omega) (by omega) (by rw [hbA_len]; omega) fun b hb => ?_
  obtain ⟨i, hi, rfl⟩ := mem_hbA.1 hb
  have := h.blen hi
  exact ⟨by omega, hbl_inc _ _ _⟩
theorem Nm.prm (h : Nm n N) (h4 : 4 < n) : prmB (n - 1) (srtL (hbA n N)) = true ∧ prmV (n - 1) (srtL (hbA n N)) = [(n : Int) - 1, (n : Int) - 1, (n : Int) / 2 - 1, (n : Int) / 2 - 1, (n : Int) / 4 - 1] := by
  have hb0 := h.blen (i := 0) (by omega)
  have hp0 := h.par (x := 0) (y := 1) (by omega) (by omega) (by omega)
  have hpb := (cntD_bd (fun b => decide (((0 : Nat) : Int) ∈ b) && decide (((1 : Nat) : Int) ∈ b)) (hbA n N)).1
  have hl : ∀ b ∈ srtL (hbA n N), b.length = (hbl n N 0).length := fun b hb => by
    obtain ⟨i, hi, rfl⟩ := mem_hbA.1 ((srtL_perm _).mem_iff.1 hb)
    have := h.blen hi; omega
  have hp := srtL_perm (hbA n N)
  have := prm_of (P := n - 1) (K := (hbl n N 0).length) (R := (n : Int) / 2 - 1) (L := (n : Int) / 4 - 1) (A := srtL (hbA n N)) (by omega) (by rw [srtL_len, hbA_len]; omega) (by omega) hl
    (fun x hx => by rw [repF, cntD_perm hp]; have := h.rep hx; unfold repF at this; omega)
    (fun x y hxy hy => by rw [parF, cntD_perm hp]; have := h.par (x := x) (y := y) (by omega) hy (by omega); unfold parF at this; omega)
  rw [srtL_len, hbA_len, show ((n - 1 : Nat) : Int) = (n : Int) - 1 by omega, show ((hbl n N 0).length : Int) = (n : Int) / 2 - 1 by omega] at this
  exact this
/-- and back -/
def bkF (A : List (List Int)) (x y : Nat) : Int := if x = 0 ∨ y = 0 ∨ ((y : Int) - 1) ∈ xat A (x - 1) then 1 else -1
theorem Nm.hinj (h : Nm n N) {i j : Nat} (hi : i < n - 1) (hj : j < n - 1) (e : hbl n N i = hbl n N j) : i = j := by
  apply Classical.byContradiction
  intro hne
  have h0 := h.had.dot (i + 1) (j + 1) (by omega) (by omega) (by omega)
  rw [sN_congr (g := fun y => at2 N (i + 1) y * at2 N (i + 1) y) (fun y hy => ?_), h.had.diag (by omega)] at h0
  · omega
  · congr 1
    cases y with
    | zero => rw [h.col _ (by omega), h.col _ (by omega)]
    | succ y =>
      have h1 := mem_hbl (n := n) (N := N) (i := i) (x := y) (by omega)
      have h2 := mem_hbl (n := n) (N := N) (i := j) (x := y) (by omega)
      rw [e, h2] at h1
      rcases h.had.el (i + 1) (y + 1) (by omega) (by omega) with e1 | e1 <;> rcases h.had.el (j + 1) (y + 1) (by omega) (by omega) with e2 | e2 <;> rw [e1, e2] at h1 ⊢ <;> simp at h1
theorem hbA_nodup (h : Nm n N) : (hbA n N).Nodup := by
  rw [hbA, List.Nodup, List.pairwise_map]
  refine List.Pairwise.imp_of_mem ?_ (List.nodup_range (n := n - 1))
  intro i j hi hj hne e
  exact hne (h.hinj (List.mem_range.1 hi) (List.mem_range.1 hj) e)
theorem Nm.back (h : Nm n N) : Had n (sqF n (bkF (srtL (hbA n N)))) := by
  have hpos := h.had.pos
  have hlen : (srtL (hbA n N)).length = n - 1 := by rw [srtL_len, hbA_len]
  have hnd : (srtL (hbA n N)).Nodup := (srtL_perm _).nodup_iff.2 (hbA_nodup h)
  have hrow : ∀ x, x < n → ∃ s, s < n ∧ (x = 0 → s = 0) ∧ (∀ k, x = k + 1 → ∃ i, i < n - 1 ∧ s = i + 1 ∧ xat (srtL (hbA n N)) k = hbl n N i) ∧ ∀ y, y < n → bkF (srtL (hbA n N)) x y = at2 N s y := by
    intro x hx
    cases x with
    | zero => exact ⟨0, hx, fun _ => rfl, fun k hk => by omega, fun y hy => by rw [bkF, if_pos (.inl rfl), h.row y hy]⟩
    | succ k =>
      obtain ⟨i, hi, e⟩ := mem_hbA.1 ((srtL_perm _).mem_iff.1 (xat_mem (xss := srtL (hbA n N)) (j := k) (by omega)))
      refine ⟨i + 1, by omega, fun h => by omega, fun k' hk' => ⟨i, hi, rfl, by rw [show k' = k by omega, e]⟩, fun y hy => ?_⟩
      cases y with
      | zero => rw [bkF, if_pos (.inr (.inl rfl)), h.col _ (by omega)]
      | succ y =>
        have h1 := mem_hbl (n := n) (N := N) (i := i) (x := y) (by omega)
        rw [bkF, Nat.add_sub_cancel, ← e, show ((y + 1 : Nat) : Int) - 1 = (y : Int) by omega]
        rcases h.had.el (i + 1) (y + 1) (by omega) (by omega) with e1 | e1
        · rw [e1] at h1 ⊢
          rw [if_pos (.inr (.inr (by simpa using h1)))]
        · rw [e1] at h1 ⊢
          rw [if_neg]
          rintro (h | h | h)
          · omega
          · omega
          · simp [h] at h1
  refine ⟨hpos, h.had.le, sqF_sqr _ _, fun x y hx hy => ?_, fun x x' hx hx' hne => ?_⟩
  · rw [at2_sqF hx hy]
    obtain ⟨s, hs, _, _, hr⟩ := hrow x hx
    rw [hr y hy]; exact h.had.el s y hs hy
  · obtain ⟨s, hs, a0, a1, hr⟩ := hrow x hx
    obtain ⟨s', hs', b0, b1, hr'⟩ := hrow x' hx'
    rw [sN_congr (g := fun y => at2 N s y * at2 N s' y) (fun y hy => by rw [at2_sqF hx hy, at2_sqF hx' hy, hr y hy, hr' y hy])]
    refine h.had.dot s s' hs hs' fun e => hne ?_
    cases x with
    | zero =>
      cases x' with
      | zero => rfl
      | succ k' => obtain ⟨i', _, e2, _⟩ := b1 k' rfl; have := a0 rfl; omega
    | succ k =>
      obtain ⟨i, hi, e1, g1⟩ := a1 k rfl
      cases x' with
      | zero => have := b0 rfl; omega
      | succ k' =>
        obtain ⟨i', hi', e2, g2⟩ := b1 k' rfl
        have hii : i = i' := by omega
        rw [hii, ← g2, xat_eq (by omega), xat_eq (by omega)] at g1
        have hp := List.pairwise_iff_getElem.1 hnd
        rcases Nat.lt_trichotomy k k' with h | h | h
        · exact absurd g1 (hp k k' (by omega) (by omega) h)
        · omega
        · exact absurd g1.symm (hp k' k (by omega) (by omega) h)
end
end Go.Proofs.YtdgmaodnkbgolaaGreat
end

section
/- Walks: fields by value: the helpers of the exact laws. -/
namespace Go.Proofs.YtdgmaodnkbgolaaGreat
set_option linter.unusedSimpArgs false
set_option linter.unusedVariables false
open Go.RowKit

/-- a field as a value -/
def fv (p d : Int) (v : Value) : Value := .agg #[.int .i64 p, .int .i64 d, v]
theorem RdI.shp' {w : World} {v : Value} {xs : List Int} (h : RdI w v xs) : ∃ a c, v = .slice a xs.length c := by
  obtain ⟨a, c, hv⟩ := h.sl.sh
  rw [iv_len] at hv
  exact ⟨a, c, hv⟩

theorem RII.shp' {w : World} {v : Value} {us : List Value} {xss : List (List Int)} (h : RII w v us xss) : ∃ a c, v = .slice a xss.length c := by
  obtain ⟨a, c, hv⟩ := h.1.sl.sh
  rw [h.2.1] at hv
  exact ⟨a, c, hv⟩
/-- it hands over a field of its own -/
def MakesF (w : World) (p d : Int) (xs : List Int) (e : Ending) (w' : World) : Prop := ∃ v, e = .returned (fv p d v) ∧ St w.heap.size w w' [row 2 v (iv xs)]

end Go.Proofs.YtdgmaodnkbgolaaGreat
end

section
/- Walks: digits of numbers, bounded powers. Walks: bounded powers. -/
namespace Go.Proofs.YtdgmaodnkbgolaaGreat
set_option linter.unusedSimpArgs false
set_option linter.unusedVariables false
open Go.RowKit


def dgv (base : Int) : Nat → Int → Int
  | 0, n => n
  | j + 1, n => dgv base j n / base
/-- the digits of a number, the lowest one first -/
def lows (base : Int) (m : Nat) (n : Int) : List Int := (List.range m).map fun (j : Nat) => dgv base j n % base
theorem lows_len (base : Int) (m : Nat) (n : Int) : (lows base m n).length = m := by simp [lows]
theorem dv_le {base n : Int} (hb : 2 ≤ base) (hn : 0 ≤ n) : ∀ j, 0 ≤ dgv base j n ∧ dgv base j n ≤ n
  | 0 => ⟨hn, Int.le_refl _⟩
  | j + 1 => by
    have := dv_le hb hn j
    have h1 : 0 ≤ dgv base j n / base := Int.ediv_nonneg this.1 (by omega)
    have h2 : dgv base j n / base ≤ dgv base j n := Int.ediv_le_self _ this.1
    exact ⟨h1, by simp only [dgv]; omega⟩

set_option maxHeartbeats 1000000 in
set_option maxRecDepth 100000 in
theorem digitsOf_c (n base : Int) (m : Nat) (w : World) (hn : 0 ≤ n) (hn2 : n ≤ 4611686018427387904) (hb : 2 ≤ base) (hb2 : base ≤ 1073741824) (hm : m ≤ 4096) :
    Calls Tryz.prog 84 #[.int .i64 n, .int .i64 base, .int .i64 m] w (MakesI w (lows base m n)) := by
  go_enter Tryz.func84, Tryz.ntmps84
  go_wp2_with (at_make; refine mkI (St.refl w) rfl _ _ rfl _ _ m rfl rfl (by omega) ?_; intro v1 w1 hS1; have hi1 := (hS1.rdI 0 (xs := List.replicate m 0) rfl).ix; have hl1 := (hS1.rdI 0 (xs := List.replicate m 0) rfl).len; simp only [List.length_replicate] at hi1 hl1)
  go_loopw [0, 13] (fun nn i wr => ∃ k : Nat, k ≤ m ∧ i = .int .i64 k ∧ nn = .int .i64 (dgv base k n) ∧ St w.heap.size w wr [row 2 v1 (iv ((lows base m n).take k ++ List.replicate (m - k) 0))]) (fun _ i _ => m - (intOf i).toNat)
  case atStart => exact ⟨0, by omega, rfl, rfl, hS1⟩
  case round =>
    obtain ⟨k, hk, rfl, rfl, hS⟩ := hrel
    by_cases hlt : k < m
    · have hd := dv_le hb hn k
      have hd2 := dv_le hb hn (k + 1)
      obtain ⟨q, hq⟩ : ∃ q, q = dgv base k n := ⟨_, rfl⟩
      have hq2 : dgv base (k + 1) n = q / base := by rw [hq]; rfl
      have Hq := Lib.hid hq2
      rw [← hq] at hd ⊢
      rw [hq2] at hd2
      have Hqq := Lib.hid hq
      clear hq hq2
      have hmod := Int.emod_nonneg q (show base ≠ 0 by omega)
      have hmod2 := Int.emod_lt_of_pos q (show 0 < base by omega)
      go_wp2_with (refine stoI hS 0 rfl k (by simp [lows_len]; omega) rfl (.tmp 21) (.tmp 20) rfl rfl _ rfl ?_; intro w2 hS2)
      go_roundw
      case rel =>
        refine ⟨k + 1, by omega, by go_num, by rw [Hq.out], ?_⟩
        have e : ((lows base m n).take k ++ List.replicate (m - k) 0).set k (q % base) = (lows base m n).take (k + 1) ++ List.replicate (m - (k + 1)) 0 := by
          rw [List.set_append_right _ _ (by simp [lows_len]; omega), take_nth (by rw [lows_len]; exact hlt), show m - k = (m - (k + 1)) + 1 by omega, List.replicate_succ]
          have : nth (lows base m n) k = q % base := by simp [nth, lows, hlt, Hqq.out]
          rw [this]
          simp [lows_len, Nat.min_eq_left (Nat.le_of_lt hlt)]
        rw [← e]; exact hS2
      case measure => simp [intOf]; omega
    · go_wp2_with fail
      go_ret
      have ek : k = m := by omega
      subst ek
      refine ⟨_, rfl, ?_⟩
      have e : (lows base k n).take k ++ List.replicate (k - k) 0 = lows base k n := by rw [List.take_of_length_le (by rw [lows_len]; omega)]; simp
      rw [e] at hS; exact hS

set_option maxHeartbeats 1000000 in
set_option maxRecDepth 100000 in
theorem powerUpTo_c (base e lim : Int) (w : World) (hb : 2 ≤ base) (hb2 : base ≤ 1073741824) (hl : 0 ≤ lim) (hl2 : lim ≤ 1073741824) (he : 0 ≤ e) (he2 : e ≤ 9223372036854775807) :
    Calls Tryz.prog 126 #[.int .i64 base, .int .i64 e, .int .i64 lim] w fun r w' => r = .returned (.int .i64 (pu base lim e.toNat 1)) ∧ w = w' := by
  go_enter Tryz.func126, Tryz.ntmps126
  go_wp2_with fail
  go_loopw [1, 7] (fun ee pp wr => ∃ (k : Nat) (p : Int), ee = .int .i64 k ∧ (k : Int) ≤ e ∧ pp = .int .i64 p ∧ 1 ≤ p ∧ p ≤ 1152921504606846976 ∧ Hid (pu base lim e.toNat 1 = pu base lim k p) ∧ wr = w) (fun ee _ _ => (intOf ee).toNat)
  case atStart => exact ⟨e.toNat, 1, by congr 1; omega, by omega, rfl, by omega, by omega, rfl, rfl⟩
  case round =>
    obtain ⟨k, p, rfl, hk, rfl, hp, hp2, hI, rfl⟩ := hrel
    by_cases h1 : 0 < k
    · by_cases h2 : p ≤ lim
      · have hm1 : p * base ≤ 1073741824 * 1073741824 := Int.mul_le_mul (by omega) hb2 (by omega) (by omega)
        have hm0 : 1 ≤ p * base := by have := Int.mul_le_mul hp (show (1 : Int) ≤ base by omega) (by omega) (by omega); omega
        go_wp2_with fail
        go_roundw
        case rel =>
          refine ⟨k - 1, p * base, by congr 1; omega, by omega, rfl, hm0, by omega, ?_, by first | rfl | trivial⟩
          unfold Hid
          rw [hI.out, show k = (k - 1) + 1 by omega]
          simp only [pu, if_pos h2]
          rfl
        case measure => simp [intOf]; omega
      · go_wp2_with fail
        go_ret
        exact ⟨ret_i64 (by rw [hI.out, pu_big (by omega)]), rfl⟩
    · go_wp2_with fail
      go_ret
      obtain rfl : k = 0 := by omega
      exact ⟨ret_i64 (by rw [hI.out]; rfl), rfl⟩


end Go.Proofs.YtdgmaodnkbgolaaGreat
end

section
/- Walks: powers, digits, numbers, remainders of polynomials. Walks: remainders of the reference, irreducible polynomials. Walks: irreducible polynomials. Walks: valid fields. Walks: valid fields of both sides. -/
namespace Go.Proofs.YtdgmaodnkbgolaaGreat
set_option linter.unusedSimpArgs false
set_option linter.unusedVariables false
open Go.RowKit
theorem dv_succ' (base : Int) : ∀ (j : Nat) (n : Int), dgv base (j + 1) n = dgv base j (n / base)
  | 0, _ => rfl
  | j + 1, n => by
    show dgv base (j + 1) n / base = dgv base j (n / base) / base
    rw [dv_succ' base j n]
theorem lows_dgt (base : Int) : ∀ (m : Nat) (n : Int), lows base m n = dgt base m n
  | 0, _ => rfl
  | m + 1, n => by
    have ih := lows_dgt base m (n / base)
    unfold lows at ih ⊢
    rw [List.range_succ_eq_map, List.map_cons, List.map_map, dgt, ← ih]
    congr 1
    apply List.map_congr_left
    intro j _
    show dgv base (j + 1) n % base = dgv base j (n / base) % base
    rw [dv_succ']

theorem pow64 {p : Int} (h1 : 1 ≤ p) (h2 : p ≤ 64) : ∀ m : Nat, 1 ≤ p ^ m ∧ p ^ m ≤ 64 ^ m
  | 0 => by simp
  | m + 1 => by
    have := pow64 h1 h2 m
    rw [Int.pow_succ, Int.pow_succ]
    have a := Int.mul_le_mul this.2 h2 (by omega) (show (0 : Int) ≤ 64 ^ m by omega)
    have b := Int.mul_le_mul this.1 h1 (by omega) (by omega)
    omega
theorem pow64m {p : Int} (h1 : 1 ≤ p) (h2 : p ≤ 64) {m : Nat} (h : m ≤ 6) : p ^ m ≤ 68719476736 := by
  have h3 := (pow64 h1 h2 m).2
  have h4 : (64 : Int) ^ m ≤ 64 ^ 6 := by
    have : m = 0 ∨ m = 1 ∨ m = 2 ∨ m = 3 ∨ m = 4 ∨ m = 5 ∨ m = 6 := by omega
    rcases this with h | h | h | h | h | h | h <;> subst h <;> decide
  have : (64 : Int) ^ 6 = 68719476736 := by decide
  omega

set_option maxHeartbeats 1000000 in
set_option maxRecDepth 100000 in
theorem l03Power_c (p : Int) (k : Nat) (w : World) (h1 : 1 ≤ p) (h2 : p ≤ 64) (hk : k ≤ 6) : Calls Tryz.prog 176 #[.int .i64 p, .int .i64 k] w fun e w' => e = .returned (.int .i64 (p ^ k)) ∧ w = w' := by
  go_enter Tryz.func176, Tryz.ntmps176
  go_wp2_with fail
  go_loop [1, 5] (fun m o => ∃ (j : Nat) (x : Int), j ≤ k ∧ m = .int .i64 ((k - j : Nat) : Int) ∧ o = .int .i64 x ∧ 1 ≤ x ∧ x ≤ 68719476736 ∧ Hid (x = p ^ j)) (fun m _ => (intOf m).toNat)
  case atStart => exact ⟨0, 1, by omega, rfl, rfl, by omega, by omega, by simp [Hid]⟩
  case round =>
    obtain ⟨j, x, hj, rfl, rfl, x0, x1, hI⟩ := hrel
    by_cases hlt : j < k
    · have hb := pow64m h1 h2 (m := j + 1) (by omega)
      have hb0 := (pow64 h1 h2 (j + 1)).1
      have hs : p ^ (j + 1) = x * p := by rw [Int.pow_succ, hI.out]
      rw [hs] at hb hb0
      have Hs := Lib.hid hs; clear hs
      have hm : 0 < k - j := by omega
      go_wp2_with fail
      go_round
      case rel => exact ⟨j + 1, x * p, by omega, by congr 1; omega, rfl, hb0, hb, Hs.out.symm⟩
      case measure => simp [intOf]; omega
    · obtain rfl : j = k := by omega
      have hz : j - j = 0 := by omega
      have Hz := Lib.hid hz; clear hz
      rw [Hz.out]
      go_wp2_with fail
      go_ret
      exact ⟨ret_i64 hI.out, rfl⟩

set_option maxHeartbeats 1000000 in
set_option maxRecDepth 100000 in
theorem l03Digits_c (n base : Int) (m : Nat) (w : World) (hn : 0 ≤ n) (hn2 : n ≤ 4611686018427387904) (hb : 2 ≤ base) (hb2 : base ≤ 1073741824) (hm : m ≤ 4096) :
    Calls Tryz.prog 150 #[.int .i64 n, .int .i64 base, .int .i64 m] w (MakesI w (lows base m n)) := by
  have hS1 := (St.refl w).new 2 #[] (by simp)
  go_enter Tryz.func150, Tryz.ntmps150
  go_wp2_with fail
  go_loopw [0, 2, 7] (fun nn mm o wr => ∃ k : Nat, k ≤ m ∧ mm = .int .i64 ((m - k : Nat) : Int) ∧ nn = .int .i64 (dgv base k n) ∧ St w.heap.size w wr [row 2 o (iv ((lows base m n).take k))]) (fun _ mm _ _ => (intOf mm).toNat)
  case atStart => exact ⟨0, by omega, rfl, rfl, hS1⟩
  case round =>
    obtain ⟨k, hk, rfl, rfl, hS⟩ := hrel
    by_cases hlt : k < m
    · have hd := dv_le hb hn k
      have hd2 := dv_le hb hn (k + 1)
      obtain ⟨q, hq⟩ : ∃ q, q = dgv base k n := ⟨_, rfl⟩
      have hq2 : dgv base (k + 1) n = q / base := by rw [hq]; rfl
      have Hq := Lib.hid hq2
      rw [← hq] at hd ⊢
      rw [hq2] at hd2
      have Hqq := Lib.hid hq
      clear hq hq2
      have hmod := Int.emod_nonneg q (show base ≠ 0 by omega)
      have hmod2 := Int.emod_lt_of_pos q (show 0 < base by omega)
      have fb : (base == 0) = false := eq_f (by omega)
      have hm0 : 0 < m - k := by omega
      go_wp2_with (at_builtin; refine appI hS 0 rfl (by simp [lows_len]; omega) rfl _ _ rfl rfl _ rfl ?_; intro v3 w3 hS3)
      go_roundw
      case rel =>
        refine ⟨k + 1, by omega, by congr 1; omega, by rw [Hq.out], ?_⟩
        have e : (lows base m n).take k ++ [q % base] = (lows base m n).take (k + 1) := by
          rw [take_nth (by rw [lows_len]; exact hlt)]
          have : nth (lows base m n) k = q % base := by simp [nth, lows, hlt, Hqq.out]
          rw [this]
        rw [← e]; exact hS3
      case measure => simp [intOf]; omega
    · obtain rfl : k = m := by omega
      have hz : k - k = 0 := by omega
      have Hz := Lib.hid hz; clear hz
      rw [Hz.out]
      go_wp2_with fail
      go_ret
      refine ⟨_, rfl, ?_⟩
      rw [List.take_of_length_le (by rw [lows_len]; omega)] at hS; exact hS

theorem numL_drop {p : Int} {xs : List Int} {m : Nat} (h : m < xs.length) : numL p (xs.drop m) = numL p (xs.drop (m + 1)) * p + nth xs m := by
  rw [drop_nth h]; rfl
theorem numL_mono {p : Int} (hp : 1 ≤ p) : ∀ {xs : List Int}, In p xs → ∀ m : Nat, 0 ≤ numL p (xs.drop m) ∧ numL p (xs.drop m) ≤ numL p xs
  | [], _, m => by simp [numL]
  | x :: r, h, 0 => ⟨numL_nonneg (by omega) (fun y hy => (h y hy).1), Int.le_refl _⟩
  | x :: r, h, m + 1 => by
    have ih := numL_mono hp (xs := r) (fun y hy => h y (by simp [hy])) m
    have hx := h x (by simp)
    have e : numL p (x :: r) = numL p r * p + x := rfl
    have h0 := numL_nonneg (base := p) (by omega) (xs := r) (fun y hy => (h y (by simp [hy])).1)
    have := Int.mul_le_mul_of_nonneg_left hp h0
    rw [List.drop_succ_cons, e]
    omega

set_option maxHeartbeats 1000000 in
set_option maxRecDepth 100000 in
theorem numberOf_c (v : Value) (xs : List Int) (p : Int) (w : World) (hv : RdI w v xs) (h1 : 1 ≤ p) (h2 : p ≤ 64) (hi : In p xs) (hb : p ^ xs.length ≤ 1099511627776) :
    Calls Tryz.prog 85 #[v, .int .i64 p] w fun e w' => e = .returned (.int .i64 (numL p xs)) ∧ w = w' := by
  have hln := hv.len
  have hix := hv.ix
  have hm := hv.le
  have hlt' := numL_lt h1 hi
  have Hi := Lib.hid hi
  clear hi
  go_enter Tryz.func85, Tryz.ntmps85
  go_wp2_with fail
  go_loop [5, 6] (fun o i => ∃ m : Nat, m ≤ xs.length ∧ i = .int .i64 ((m : Int) - 1) ∧ o = .int .i64 (numL p (xs.drop m))) (fun _ i => (intOf i + 1).toNat)
  case atStart => exact ⟨xs.length, by omega, rfl, by rw [List.drop_length]; rfl⟩
  case round =>
    obtain ⟨m, hm2, rfl, rfl⟩ := hrel
    cases m with
    | zero =>
      go_wp2_with fail
      go_ret
      exact ⟨rfl, rfl⟩
    | succ m =>
      have hc := hv.cell m (by omega)
      have hxm := hv.ixe (m : Int) m rfl (by omega)
      have e1 : Hid (((m + 1 : Nat) : Int) - 1 = m) := by unfold Hid; omega
      have hs := Lib.hid (numL_drop (p := p) (show m < xs.length by omega))
      have hb1 := numL_mono h1 Hi.out m
      have hb2 := numL_mono h1 Hi.out (m + 1)
      rw [hs.out] at hb1
      have hx := Hi.out _ (nth_mem (show m < xs.length by omega))
      obtain ⟨x0, x1⟩ := hx
      obtain ⟨a0, a1⟩ := hb1
      obtain ⟨c0, c1⟩ := hb2
      have hmul := Int.mul_nonneg c0 (show 0 ≤ p by omega)
      rw [e1.out]
      go_wp2_with fail
      go_round
      case rel => exact ⟨m, by omega, rfl, by rw [hs.out]⟩
      case measure => simp [intOf]
set_option maxHeartbeats 1000000 in
set_option maxRecDepth 100000 in
theorem l03Number_c (v : Value) (xs : List Int) (p : Int) (w : World) (hv : RdI w v xs) (h1 : 1 ≤ p) (h2 : p ≤ 64) (hi : In p xs) (hb : p ^ xs.length ≤ 1099511627776) :
    Calls Tryz.prog 152 #[v, .int .i64 p] w fun e w' => e = .returned (.int .i64 (numL p xs)) ∧ w = w' := by
  have hln := hv.len
  have hix := hv.ix
  have hm := hv.le
  have hlt' := numL_lt h1 hi
  have Hi := Lib.hid hi
  clear hi
  go_enter Tryz.func152, Tryz.ntmps152
  go_wp2_with fail
  go_loop [5, 6] (fun o i => ∃ m : Nat, m ≤ xs.length ∧ i = .int .i64 ((m : Int) - 1) ∧ o = .int .i64 (numL p (xs.drop m))) (fun _ i => (intOf i + 1).toNat)
  case atStart => exact ⟨xs.length, by omega, rfl, by rw [List.drop_length]; rfl⟩
  case round =>
    obtain ⟨m, hm2, rfl, rfl⟩ := hrel
    cases m with
    | zero =>
      go_wp2_with fail
      go_ret
      exact ⟨rfl, rfl⟩
    | succ m =>
      have hc := hv.cell m (by omega)
      have hxm := hv.ixe (m : Int) m rfl (by omega)
      have e1 : Hid (((m + 1 : Nat) : Int) - 1 = m) := by unfold Hid; omega
      have hs := Lib.hid (numL_drop (p := p) (show m < xs.length by omega))
      have hb1 := numL_mono h1 Hi.out m
      have hb2 := numL_mono h1 Hi.out (m + 1)
      rw [hs.out] at hb1
      have hx := Hi.out _ (nth_mem (show m < xs.length by omega))
      obtain ⟨x0, x1⟩ := hx
      obtain ⟨a0, a1⟩ := hb1
      obtain ⟨c0, c1⟩ := hb2
      have hmul := Int.mul_nonneg c0 (show 0 ≤ p by omega)
      rw [e1.out]
      go_wp2_with fail
      go_round
      case rel => exact ⟨m, by omega, rfl, by rw [hs.out]⟩
      case measure => simp [intOf]

/-- a row cut behind its first cells -/
theorem St.cut {B : Nat} {w0 w : World} {L : List Ent} (h : St B w0 w L) (i : Nat) {e : TypeId} {v : Value} {us : List Value} (hi : L[i]? = some (row e v us)) (m : Nat) (hm : m ≤ us.length) :
    St B w0 w (L.set i (row e (rsl v 0 m) (us.take m))) := by
  have hx := h.ok _ (List.mem_of_getElem? hi)
  have hg : w.grownBy w (bk v) := ⟨rfl, rfl, rfl, Nat.le_refl _, fun _ _ _ => rfl⟩
  rcases hx with ⟨hp, _⟩ | ⟨_, hv, hu⟩ | ⟨_, g, cap, cur, hv, hB, hh, h1, h2, h3, h4⟩
  · simp [row] at hp
  · simp only [row] at hv hu
    subst hu; subst hv
    have hm0 : m = 0 := by simpa using hm
    subst hm0
    have e : rsl (.slice none 0 0) 0 0 = .slice none 0 0 := rfl
    rw [e, List.take_nil]
    have : L.set i (row ‹_› (.slice none 0 0) []) = L := by
      obtain ⟨hlt, heq⟩ := List.getElem?_eq_some_iff.1 hi
      rw [← heq, List.set_getElem_self]
    rw [this]; exact h
  · simp only [row] at hv h1 h4 hh
    have ev : rsl v 0 m = .slice (some ⟨g, 0, none⟩) m cap := by
      rw [hv]
      simp only [rsl, sliced, Nat.zero_mul, Option.map_some, Nat.sub_zero]
      split
      · rfl
      · simp [Addr.add]
    have hb : bk (rsl v 0 m) = bk v := by rw [ev, hv]; rfl
    refine h.put i hi hg (row e (rsl v 0 m) (us.take m)) (.inr (.inr ⟨rfl, g, cap, cur, ?_, hB, hh, ?_, h2, h3, ?_⟩)) (.inl hb)
    · simp only [row]; rw [ev, List.length_take, Nat.min_eq_left hm]
    · simp only [row]; rw [List.length_take]; omega
    · simp only [row]
      rw [List.length_take, Nat.min_eq_left hm, ← h4, List.take_take, Nat.min_eq_left hm]

theorem md3 (a p : Int) : a.tmod p % p = a % p := by
  have e : a = p * (a.tdiv p) + a.tmod p := (Int.mul_tdiv_add_tmod a p).symm
  conv => rhs; rw [e, Int.add_comm, Int.add_mul_emod_self_left]

set_option maxHeartbeats 2000000 in
set_option maxRecDepth 100000 in
theorem remainder_c (v vb : Value) (xs ys : List Int) (p : Int) (w : World) (hv : RdI w v xs) (hb : RdI w vb ys) (p2 : 2 ≤ p) (p64 : p ≤ 64) (hx : In p xs) (hy : In p ys) (hxl : xs.length ≤ 4096) (hyl : ys.length ≤ 4096) (hy1 : 1 ≤ ys.length) :
    Calls Tryz.prog 86 #[v, vb, .int .i64 p] w (MakesI w (remL p xs ys)) := by
  have hlb := hb.len
  have hib := hb.ix
  have hcl := fun W h => Lib.hid (Clone_c v xs W h (by omega))
  obtain ⟨deg, hdeg⟩ : ∃ d, ys.length = d + 1 := ⟨ys.length - 1, by omega⟩
  have Hdeg := Lib.hid hdeg
  have Hx := Lib.hid hx
  have Hy := Lib.hid hy
  have fp : (p == 0) = false := eq_f (by omega)
  rw [hdeg] at hlb hib
  have hd4 : deg ≤ 4095 := by omega
  clear hx hy hy1
  go_enter Tryz.func86, Tryz.ntmps86
  go_wp2_with fail
  refine (hcl _ hv).out.mono ?_
  rintro e w1 ⟨v1, rfl, hS⟩
  have hl1 := (hS.rdI 0 rfl).len
  clear hdeg
  go_wp2_with fail
  go_loopw [9, 10, 11, 12, 13, 33] (fun kk _ _ _ _ _ wr => ∃ (κ : Int) (cur : List Int), -1 ≤ κ ∧ κ ≤ (xs.length : Int) - 1 ∧ kk = .int .i64 κ ∧ Hid (cur.length = xs.length) ∧ Hid (In p cur) ∧ Hid (remN p ys deg (κ + 1 - deg).toNat cur = remN p ys deg (xs.length - deg) xs) ∧ St w.heap.size w wr [row 2 v1 (iv cur)]) (fun kk _ _ _ _ _ _ => (intOf kk + 1).toNat)
  case atStart => exact ⟨_, xs, by omega, by omega, rfl, rfl, Hx.out, by unfold Hid; congr 1; omega, hS⟩
  case round =>
    obtain ⟨κ, cur, k0, k1, rfl, hcl, hin, hI, hS⟩ := hrel
    by_cases hge : (deg : Int) ≤ κ
    · obtain ⟨k, rfl⟩ := Int.eq_ofNat_of_zero_le (show 0 ≤ κ by omega)
      have hr := hS.rdI 0 rfl
      have hdc : k < cur.length := by have := hcl.out; omega
      have hck := hr.cell k hdc
      have hxk := hr.ixe (k : Int) k rfl hdc
      obtain ⟨f, hf⟩ : ∃ f, f = nth cur k := ⟨_, rfl⟩
      rw [← hf] at hck
      have hfb := hin.out _ (nth_mem hdc)
      rw [← hf] at hfb
      obtain ⟨f0, f1⟩ := hfb
      have Hf := Lib.hid hf
      have hdc2 : k < xs.length := by have := hcl.out; omega
      have hdk : deg ≤ k := by omega
      clear hf hr
      go_wp2_with fail
      go_loopw [11, 12, 13, 33] (fun _ _ _ jj wx => ∃ j : Nat, j ≤ deg + 1 ∧ jj = .int .i64 j ∧ St w.heap.size w wx [row 2 v1 (iv (subT p cur ys (k - deg) f j))]) (fun _ _ _ jj _ => (deg + 1) - (intOf jj).toNat)
      case atStart => exact ⟨0, by omega, rfl, by rw [subT_0]; exact hS⟩
      case round =>
        obtain ⟨j, hj, rfl, hS⟩ := hrel
        have hr := hS.rdI 0 rfl
        by_cases hlt : j < deg + 1
        · have hcb := (hS.oldI hb).cell j (by rw [Hdeg.out]; exact hlt)
          have hat : k - deg + j < (subT p cur ys (k - deg) f j).length := by rw [subT_len]; omega
          have hca := hr.cell (k - deg + j) hat
          have hxa := hr.ixe ((k : Int) - deg + j) (k - deg + j) (by omega) hat
          have hyb := Hy.out _ (nth_mem (show j < ys.length by rw [Hdeg.out]; exact hlt))
          have hab := (In.subT (by omega) hin.out (by' := ys) (k - deg) f j) _ (nth_mem hat)
          obtain ⟨y0, y1⟩ := hyb
          obtain ⟨a0, a1⟩ := hab
          have hstep := Lib.hid (subT_step (p := p) (rest := cur) (by' := ys) (s := k - deg) (f := f) (j := j) (by have := hcl.out; omega))
          generalize hA : nth (subT p cur ys (k - deg) f j) (k - deg + j) = A at hca a0 a1
          generalize hB : nth ys j = B at hcb y0 y1
          have HA := Lib.hid hA
          have HB := Lib.hid hB
          have m0 := Int.mul_nonneg f0 y0
          have m1 : f * B ≤ 64 * 64 := Int.mul_le_mul (by omega) (by omega) (by omega) (by omega)
          have t0 := Int.lt_tmod_of_pos (A - f * B) (show 0 < p by omega)
          have t1 := Int.tmod_lt_of_pos (A - f * B) (show 0 < p by omega)
          have hmd := Lib.hid (md3 (A - f * B) p)
          have HL := Lib.hid hat
          clear hA hB hat
          go_wp2_with (refine stoI hS 0 rfl (k - deg + j) HL.out rfl (.tmp 59) (.tmp 58) rfl rfl _ rfl ?_; intro w3 hS3)
          go_roundw
          case rel =>
            refine ⟨j + 1, by omega, by go_num, ?_⟩
            rw [← hstep.out, show cf (subT p cur ys (k - deg) f j) (k - deg + j) = A from HA.out, show cf ys j = B from HB.out, ← hmd.out]
            rw [Int.add_emod_right] at hS3
            exact hS3
          case measure => simp [intOf]; omega
        · have hj2 : j = deg + 1 := by omega
          subst hj2
          have hst : Hid (remN p ys deg ((k : Int) + 1 - deg).toNat cur = remN p ys deg ((k : Int) - 1 + 1 - deg).toNat (subT p cur ys (k - deg) f (deg + 1))) := by
            unfold Hid
            rw [show ((k : Int) + 1 - deg).toNat = (k - deg) + 1 by omega, remN, show ((k : Int) - 1 + 1 - deg).toNat = k - deg by omega, show deg + (k - deg) = k by omega, Hf.out]
            try rfl
          have hin2 := Lib.hid (In.subT (p := p) (by omega) hin.out (by' := ys) (k - deg) f (deg + 1))
          have hcl2 : Hid ((subT p cur ys (k - deg) f (deg + 1)).length = xs.length) := by unfold Hid; rw [subT_len]; exact hcl.out
          go_wp2_with fail
          go_roundw
          case rel => exact ⟨(k : Int) - 1, _, by omega, by omega, rfl, hcl2, hin2, by unfold Hid; rw [← hst.out]; exact hI.out, hS⟩
          case measure => simp [intOf]
    · have e0 : Hid (cur = remN p ys deg (xs.length - deg) xs) := by
        unfold Hid
        have h := hI.out
        rw [show (κ + 1 - (deg : Int)).toNat = 0 by omega] at h
        exact h
      have hr := hS.rdI 0 rfl
      by_cases hmin : deg ≤ xs.length
      · have hsl := rsl_hi hr deg (by rw [hcl.out]; exact hmin)
        have hcut := hS.cut 0 rfl deg (by rw [iv_len, hcl.out]; exact hmin)
        clear hr
        go_wp2_with fail
        go_ret
        refine ⟨_, rfl, ?_⟩
        have e1 : (iv cur).take deg = iv (remL p xs ys) := by
          rw [e0.out, remL, Hdeg.out]; simp [iv, List.map_take]
        rw [e1] at hcut
        exact hcut
      · have hsl := rsl_hi hr xs.length (by rw [hcl.out]; omega)
        have hcut := hS.cut 0 rfl xs.length (by rw [iv_len, hcl.out]; omega)
        clear hr
        go_wp2_with fail
        go_ret
        refine ⟨_, rfl, ?_⟩
        have e1 : (iv cur).take xs.length = iv (remL p xs ys) := by
          rw [e0.out, remL, Hdeg.out]
          have hl := remN_len p ys deg (xs.length - deg) xs
          simp only [iv, ← List.map_take]
          rw [List.take_of_length_le (by omega), List.take_of_length_le (by rw [show deg + 1 - 1 = deg by omega]; omega)]
          rfl
        rw [e1] at hcut
        exact hcut


theorem rsl_hi' {w : World} {v : Value} {xs : List Int} (h : RdI w v xs) (i : Int) (hi : Nat) (e : i = (hi : Int)) (h2 : hi ≤ xs.length) (W : World) :
    (Instr.slice 48 v none (some (.int .i64 i)) none).run Tryz.prog W = .ok (rsl v 0 hi) W := by
  subst e; exact rsl_hi h hi h2 W
def sliceLen : Value → Nat
  | .slice _ n _ => n
  | _ => 0
theorem sliceLen_sl {v : Value} {n : Nat} (h : IsSl v n) : sliceLen v = n := by obtain ⟨a, c, rfl, _⟩ := h; rfl

set_option maxHeartbeats 2000000 in
set_option maxRecDepth 100000 in
theorem l03Rest_c (v vb : Value) (xs ys : List Int) (p : Int) (w : World) (hv : RdI w v xs) (hb : RdI w vb ys) (p2 : 2 ≤ p) (p64 : p ≤ 64) (hx : In p xs) (hy : In p ys) (hxl : xs.length ≤ 4096) (hyl : ys.length ≤ 4096) (hy1 : 1 ≤ ys.length) :
    Calls Tryz.prog 153 #[v, vb, .int .i64 p] w (MakesI w (remL p xs ys)) := by
  have hlb := hb.len
  have hib := hb.ix
  have hcl := fun W h => Lib.hid (l00Own_c v xs W h (by omega))
  obtain ⟨deg, hdeg⟩ : ∃ d, ys.length = d + 1 := ⟨ys.length - 1, by omega⟩
  have Hdeg := Lib.hid hdeg
  have Hx := Lib.hid hx
  have Hy := Lib.hid hy
  have fp : (p == 0) = false := eq_f (by omega)
  rw [hdeg] at hlb hib
  have hd4 : deg ≤ 4095 := by omega
  clear hx hy hy1
  go_enter Tryz.func153, Tryz.ntmps153
  go_wp2_with fail
  refine (hcl _ hv).out.mono ?_
  rintro e w1 ⟨v1, rfl, hS⟩
  have hl1 := (hS.rdI 0 rfl).len
  clear hdeg
  go_wp2_with fail
  go_loopw [9, 10, 11, 12] (fun kk _ _ _ wr => ∃ (κ : Int) (cur : List Int), -1 ≤ κ ∧ κ ≤ (xs.length : Int) - 1 ∧ kk = .int .i64 κ ∧ Hid (cur.length = xs.length) ∧ Hid (In p cur) ∧ Hid (remN p ys deg (κ + 1 - deg).toNat cur = remN p ys deg (xs.length - deg) xs) ∧ St w.heap.size w wr [row 2 v1 (iv cur)]) (fun kk _ _ _ _ => (intOf kk + 1).toNat)
  case atStart => exact ⟨_, xs, by omega, by omega, rfl, rfl, Hx.out, by unfold Hid; congr 1; omega, hS⟩
  case round =>
    obtain ⟨κ, cur, k0, k1, rfl, hcl, hin, hI, hS⟩ := hrel
    by_cases hge : (deg : Int) ≤ κ
    · obtain ⟨k, rfl⟩ := Int.eq_ofNat_of_zero_le (show 0 ≤ κ by omega)
      have hr := hS.rdI 0 rfl
      have hdc : k < cur.length := by have := hcl.out; omega
      have hck := hr.cell k hdc
      have hxk := hr.ixe (k : Int) k rfl hdc
      obtain ⟨f, hf⟩ : ∃ f, f = nth cur k := ⟨_, rfl⟩
      rw [← hf] at hck
      have hfb := hin.out _ (nth_mem hdc)
      rw [← hf] at hfb
      obtain ⟨f0, f1⟩ := hfb
      have Hf := Lib.hid hf
      have hdc2 : k < xs.length := by have := hcl.out; omega
      have hdk : deg ≤ k := by omega
      clear hf hr
      go_wp2_with fail
      go_loopw [11, 12] (fun jj _ wx => ∃ j : Nat, j ≤ deg + 1 ∧ jj = .int .i64 j ∧ St w.heap.size w wx [row 2 v1 (iv (subT p cur ys (k - deg) f j))]) (fun jj _ _ => (deg + 1) - (intOf jj).toNat)
      case atStart => exact ⟨0, by omega, rfl, by rw [subT_0]; exact hS⟩
      case round =>
        obtain ⟨j, hj, rfl, hS⟩ := hrel
        have hr := hS.rdI 0 rfl
        by_cases hlt : j < deg + 1
        · have hcb := (hS.oldI hb).cell j (by rw [Hdeg.out]; exact hlt)
          have hat : k - deg + j < (subT p cur ys (k - deg) f j).length := by rw [subT_len]; omega
          have hca := hr.cell (k - deg + j) hat
          have hxa := hr.ixe ((k : Int) - deg + j) (k - deg + j) (by omega) hat
          have hxa2 := hr.ixe ((k : Int) - ((deg : Int) + 1) + 1 + j) (k - deg + j) (by omega) hat
          have hyb := Hy.out _ (nth_mem (show j < ys.length by rw [Hdeg.out]; exact hlt))
          have hab := (In.subT (by omega) hin.out (by' := ys) (k - deg) f j) _ (nth_mem hat)
          obtain ⟨y0, y1⟩ := hyb
          obtain ⟨a0, a1⟩ := hab
          have hstep := Lib.hid (subT_step (p := p) (rest := cur) (by' := ys) (s := k - deg) (f := f) (j := j) (by have := hcl.out; omega))
          generalize hA : nth (subT p cur ys (k - deg) f j) (k - deg + j) = A at hca a0 a1
          generalize hB : nth ys j = B at hcb y0 y1
          have HA := Lib.hid hA
          have HB := Lib.hid hB
          have m0 := Int.mul_nonneg f0 y0
          have m1 : f * B ≤ 64 * 64 := Int.mul_le_mul (by omega) (by omega) (by omega) (by omega)
          have n0 := Int.mul_nonneg (show 0 ≤ p - f by omega) y0
          have n1 : (p - f) * B ≤ 64 * 64 := Int.mul_le_mul (by omega) (by omega) (by omega) (by omega)
          have hmd : Hid ((A + (p - f) * B) % p = (A - f * B) % p) := by
            unfold Hid
            rw [Int.sub_mul, show A + (p * B - f * B) = (A - f * B) + p * B by omega, Int.add_mul_emod_self_left]
          have u1 := hS.unfrozen 0 rfl (j := k - deg + j) (by rw [iv_len]; exact hat)
          have hs1 := hS.store 0 rfl (j := k - deg + j) (by rw [iv_len]; exact hat) (.int .i64 ((A + (p - f) * B) % p))
          have hs2 := Lib.hid hs1.drew
          clear hA hB hat hs1
          go_wp2_with fail
          go_region
          all_goals
            go_wp2_with fail
            go_roundw
            case rel =>
              refine ⟨j + 1, by omega, by go_num, ?_⟩
              rw [← hstep.out, show cf (subT p cur ys (k - deg) f j) (k - deg + j) = A from HA.out, show cf ys j = B from HB.out, ← hmd.out]
              have h := hs2.out
              rw [iv_set] at h
              exact h
            case measure => simp [intOf]; omega
        · have hj2 : j = deg + 1 := by omega
          subst hj2
          have hst : Hid (remN p ys deg ((k : Int) + 1 - deg).toNat cur = remN p ys deg ((k : Int) - 1 + 1 - deg).toNat (subT p cur ys (k - deg) f (deg + 1))) := by
            unfold Hid
            rw [show ((k : Int) + 1 - deg).toNat = (k - deg) + 1 by omega, remN, show ((k : Int) - 1 + 1 - deg).toNat = k - deg by omega, show deg + (k - deg) = k by omega, Hf.out]
            try rfl
          have hin2 := Lib.hid (In.subT (p := p) (by omega) hin.out (by' := ys) (k - deg) f (deg + 1))
          have hcl2 : Hid ((subT p cur ys (k - deg) f (deg + 1)).length = xs.length) := by unfold Hid; rw [subT_len]; exact hcl.out
          go_wp2_with fail
          go_roundw
          case rel => exact ⟨(k : Int) - 1, _, by omega, by omega, rfl, hcl2, hin2, by unfold Hid; rw [← hst.out]; exact hI.out, hS⟩
          case measure => simp [intOf]
    · have e0 : Hid (cur = remN p ys deg (xs.length - deg) xs) := by
        unfold Hid
        have h := hI.out
        rw [show (κ + 1 - (deg : Int)).toNat = 0 by omega] at h
        exact h
      have Hcl := hcl
      go_wp2_with fail
      go_loopw [7] (fun o wx => ∃ m : Nat, m ≤ xs.length ∧ Hid (deg ≤ m ∨ m = xs.length) ∧ St w.heap.size w wx [row 2 o (iv (cur.take m))]) (fun o _ => sliceLen o)
      case atStart => exact ⟨xs.length, by omega, .inr rfl, by rw [List.take_of_length_le (by rw [Hcl.out]; omega)]; exact hS⟩
      case round =>
        obtain ⟨m, hm, hmd, hS⟩ := hrel
        have hr := hS.rdI 0 rfl
        have hlm : (cur.take m).length = m := by rw [List.length_take, Hcl.out]; omega
        have hln := hr.len
        rw [hlm] at hln
        have Hlm := Lib.hid hlm
        clear hlm
        by_cases hgt : deg + 1 ≤ m
        · have hsl := rsl_hi' hr ((m : Int) - 1) (m - 1) (by omega) (by rw [Hlm.out]; omega)
          have hcut := hS.cut 0 rfl (m - 1) (by rw [iv_len, Hlm.out]; omega)
          have hsz := sliceLen_sl hr.sl
          rw [iv_len, Hlm.out] at hsz
          have hsz2 := sliceLen_sl (hcut.rd 0 rfl).sl
          have e2 : (iv (cur.take m)).take (m - 1) = iv (cur.take (m - 1)) := by simp only [iv, ← List.map_take]; rw [List.take_take, Nat.min_eq_left (by omega)]
          rw [e2] at hcut hsz2
          rw [iv_len, List.length_take, Hcl.out] at hsz2
          have Hsz := Lib.hid hsz
          have Hsz2 := Lib.hid hsz2
          clear hr hsz hsz2 e2
          go_wp2_with fail
          go_roundw
          case rel => exact ⟨m - 1, by omega, .inl (by omega), hcut⟩
          case measure => rw [Hsz.out, Hsz2.out]; omega
        · clear hr
          go_wp2_with fail
          go_ret
          refine ⟨_, rfl, ?_⟩
          have e1 : cur.take m = remL p xs ys := by
            rw [remL, Hdeg.out, show deg + 1 - 1 = deg by omega, ← e0.out]
            rcases hmd.out with h | h
            · rw [show m = deg by omega]
            · rw [List.take_of_length_le (by rw [Hcl.out]; omega), List.take_of_length_le (by rw [Hcl.out]; omega)]
          rw [e1] at hS
          exact hS



theorem isZero1_c (x : Int) (w : World) : Calls Tryz.prog 164 #[.int .i64 x] w (GivesB w (x != 0)) := by
  go_enter Tryz.func164, Tryz.ntmps164
  go_wp2_with fail
  go_ret
  exact ⟨rfl, St.refl w⟩
theorem zeroL_any (xs : List Int) : zeroL xs = !anyP (fun x => x != 0) xs := by
  unfold zeroL anyP
  induction xs with
  | nil => rfl
  | cons x r ih =>
    rw [List.all_cons, List.any_cons, ih]
    by_cases h : x = 0
    · subst h; simp
    · have h1 : (x == 0) = false := eq_f h
      have h2 : (x != 0) = true := ne_t h
      rw [h1, h2]; simp
theorem isZero_c (v : Value) (xs : List Int) (w : World) (hv : RdI w v xs) : Calls Tryz.prog 127 #[v] w (GivesB w (zeroL xs)) := by
  have hcf := callFunc_go Tryz.func164 (by kernel_rfl) (by kernel_rfl)
  have hcall := Lib.hid (ContainsFunc_c 164 #[] (fun x => x != 0) v xs w hv hcf (fun x W _ _ => isZero1_c x W))
  have he := Lib.hid (zeroL_any xs)
  clear hcf
  go_enter Tryz.func127, Tryz.ntmps127
  go_wp2_with fail
  refine hcall.out.mono ?_
  rintro e w1 ⟨rfl, h1⟩
  cases hq : anyP (fun x => x != 0) xs
  · have Hq := Lib.hid hq; clear hq
    go_wp2_with fail
    go_ret
    exact ⟨ret_bool (by rw [he.out, Hq.out]; rfl), h1⟩
  · have Hq := Lib.hid hq; clear hq
    go_wp2_with fail
    go_ret
    exact ⟨ret_bool (by rw [he.out, Hq.out]; rfl), h1⟩

/-- the polynomial that is tried -/
def tryP (p : Int) (d n : Nat) : List Int := lows p d n ++ [1]
theorem tryP_len (p : Int) (d n : Nat) : (tryP p d n).length = d + 1 := by simp [tryP, lows_len]
theorem tryP_in {p : Int} (hp : 2 ≤ p) (d n : Nat) : In p (tryP p d n) := by
  intro x hx
  rcases List.mem_append.1 hx with h | h
  · rw [lows_dgt] at h; exact dgt_in (by omega) _ _ x h
  · simp at h; subst h; omega
theorem irrB_iff {p : Int} {xs : List Int} : irrB p xs = true ↔ ∀ d n : Nat, 1 ≤ d → 2 * d ≤ xs.length - 1 → n < (p ^ d).toNat → zeroL (remL p xs (tryP p d n)) = false := by
  simp only [irrB, List.all_eq_true, List.mem_range, Bool.not_eq_true', tryP, lows_dgt]
  constructor
  · intro h d n hd hl hn
    have := h (d - 1) (by omega) n (by rw [show d - 1 + 1 = d by omega]; exact hn)
    rwa [show d - 1 + 1 = d by omega] at this
  · intro h i hi n hn
    exact h (i + 1) n (by omega) (by omega) hn
theorem irrB_no {p : Int} {xs : List Int} {d n : Nat} (hd : 1 ≤ d) (hl : 2 * d ≤ xs.length - 1) (hn : n < (p ^ d).toNat) (h : zeroL (remL p xs (tryP p d n)) = true) : irrB p xs = false := by
  cases hq : irrB p xs with
  | false => rfl
  | true => have := irrB_iff.1 hq d n hd hl hn; rw [h] at this; cases this
theorem remL_len {p : Int} {xs ys : List Int} : (remL p xs ys).length ≤ ys.length - 1 := by simp [remL]; omega
theorem pow_mono {p : Int} (hp : 1 ≤ p) {a b : Nat} (h : a ≤ b) : p ^ a ≤ p ^ b := by
  obtain ⟨k, rfl⟩ := Nat.exists_eq_add_of_le h
  rw [Int.pow_add]
  have h1 : ∀ m : Nat, 1 ≤ p ^ m := by
    intro m
    induction m with
    | zero => simp
    | succ m ih => rw [Int.pow_succ]; have := Int.mul_le_mul ih hp (by omega) (by omega); omega
  have := Int.mul_le_mul_of_nonneg_left (h1 k) (show 0 ≤ p ^ a by have := h1 a; omega)
  omega

set_option maxHeartbeats 4000000 in
set_option maxRecDepth 100000 in
theorem irreducible_c (v : Value) (xs : List Int) (p : Int) (w : World) (hv : RdI w v xs) (p2 : 2 ≤ p) (p64 : p ≤ 64) (hx : In p xs) (hx1 : 1 ≤ xs.length) (hq : p ^ (xs.length - 1) ≤ 64) :
    Calls Tryz.prog 83 #[v, .int .i64 p] w (GivesB w (irrB p xs)) := by
  obtain ⟨D, hD⟩ : ∃ D, xs.length = D + 1 := ⟨xs.length - 1, by omega⟩
  have hD6 : D ≤ 6 := pow_small p2 (by rw [hD] at hq; exact hq)
  have HD := Lib.hid hD
  have Hx := Lib.hid hx
  have Hq := Lib.hid (show p ^ D ≤ 64 by rw [hD] at hq; exact hq)
  have hsz := Lib.hid (size_c v xs w hv)
  rw [hD] at hsz
  clear hx hq hx1 hD
  go_enter Tryz.func83, Tryz.ntmps83
  go_wp2_with fail
  refine hsz.out.mono ?_
  rintro e w1 ⟨rfl, rfl⟩
  go_wp2_with fail
  go_loopw [6, 7] (fun dd _ wr => ∃ d : Nat, 1 ≤ d ∧ dd = .int .i64 d ∧ d ≤ 10 ∧ Hid (∀ d' n : Nat, 1 ≤ d' → d' < d → n < (p ^ d').toNat → zeroL (remL p xs (tryP p d' n)) = false) ∧ St w.heap.size w wr []) (fun dd _ _ => 20 - (intOf dd).toNat)
  case atStart => exact ⟨1, by omega, rfl, by omega, fun d' n h1 h2 => by omega, St.refl _⟩
  case round =>
    obtain ⟨d, d1, rfl, d10, hI, hS⟩ := hrel
    by_cases hle : 2 * (d : Int) ≤ D
    · have hpd : p ^ d ≤ 64 := Int.le_trans (pow_mono (by omega) (show d ≤ D by omega)) Hq.out
      have hpd1 := (pow64 (p := p) (by omega) p64 d).1
      obtain ⟨K, hK⟩ := Int.eq_ofNat_of_zero_le (show 0 ≤ p ^ d by omega)
      have hK2 : K ≤ 64 := by omega
      have HK := Lib.hid hK
      have hpow : ∀ W, Hid (Calls Tryz.prog 126 #[.int .i64 p, .int .i64 d, .int .i64 64] W fun r w' => r = .returned (.int .i64 K) ∧ W = w') := fun W => by
        have := powerUpTo_c p d 64 W (by omega) (by omega) (by omega) (by omega) (by omega) (by omega)
        rw [Int.toNat_natCast, pu_le (by omega) d 1 (by omega) (by rw [Int.one_mul]; exact hpd), Int.one_mul, hK] at this
        exact this
      clear hpd hpd1 hK
      go_wp2_with fail
      go_loopw [7] (fun nn wx => ∃ n : Nat, n ≤ K ∧ nn = .int .i64 n ∧ Hid (∀ m : Nat, m < n → zeroL (remL p xs (tryP p d m)) = false) ∧ St w.heap.size w wx []) (fun nn _ => K - (intOf nn).toNat)
      case atStart => exact ⟨0, by omega, rfl, fun m h => by omega, hS⟩
      case round =>
        obtain ⟨n, hn, rfl, hJ, hS⟩ := hrel
        by_cases hlt : n < K
        · have hdg := fun W => Lib.hid (digitsOf_c n p d W (by omega) (by omega) p2 (by omega) (by omega))
          go_wp2_with fail
          refine (hpow _).out.mono ?_
          rintro e w2 ⟨rfl, rfl⟩
          go_wp2_with fail
          refine (hdg _).out.mono ?_
          rintro e w2 ⟨v2, rfl, h2⟩
          have hS2 := hS.call h2
          simp only [List.nil_append] at hS2
          go_wp2_with (at_builtin; refine appI hS2 0 rfl (by rw [lows_len]; omega) rfl _ _ rfl rfl _ rfl ?_; intro v3 w3 hS3)
          have hr3 : RdI w3 v3 (tryP p d n) := hS3.rdI 0 rfl
          have hrem := Lib.hid (remainder_c v v3 xs (tryP p d n) p w3 (hS3.oldI hv) hr3 p2 p64 Hx.out (tryP_in p2 d n) (by rw [HD.out]; omega) (by rw [tryP_len]; omega) (by rw [tryP_len]; omega))
          clear hr3
          refine hrem.out.mono ?_
          rintro e w4 ⟨v4, rfl, h4⟩
          have hS4 := hS3.call0 h4.out
          have hr4 := h4.rdI 0 rfl
          clear hS2 hS3 hS
          go_wp2_with fail
          refine (isZero_c v4 _ w4 hr4).mono ?_
          rintro e w5 ⟨rfl, h5⟩
          have hS5 := hS4.call0 h5
          cases hz : zeroL (remL p xs (tryP p d n))
          · have Hz := Lib.hid hz; clear hz
            go_wp2_with fail
            go_roundw
            case rel => exact ⟨n + 1, by omega, by go_num, fun m hm => by
              by_cases e : m = n
              · subst e; exact Hz.out
              · exact hJ.out m (by omega), hS5.out⟩
            case measure => simp [intOf]; omega
          · have Hz := Lib.hid hz; clear hz
            go_wp2_with fail
            go_ret
            exact ⟨ret_bool (irrB_no d1 (by rw [HD.out]; omega) (by rw [HK.out]; omega) Hz.out).symm, hS5.out⟩
        · obtain rfl : n = K := by omega
          go_wp2_with fail
          refine (hpow _).out.mono ?_
          rintro e w2 ⟨rfl, rfl⟩
          go_wp2_with fail
          go_roundw
          case rel => exact ⟨d + 1, by omega, by go_num, by omega, fun d' m h1 h2 hm => by
            by_cases e : d' = d
            · subst e; rw [HK.out, Int.toNat_natCast] at hm; exact hJ.out m hm
            · exact hI.out d' m h1 (by omega) hm, hS⟩
          case measure => simp [intOf]; omega
    · go_wp2_with fail
      go_ret
      exact ⟨ret_bool (irrB_iff.2 fun d' n h1 h2 h3 => hI.out d' n h1 (by rw [HD.out] at h2; omega) h3).symm, hS⟩

set_option maxHeartbeats 4000000 in
set_option maxRecDepth 100000 in
theorem l03Irreducible_c (v : Value) (xs : List Int) (p : Int) (w : World) (hv : RdI w v xs) (p2 : 2 ≤ p) (p64 : p ≤ 64) (hx : In p xs) (hx1 : 1 ≤ xs.length) (hq : p ^ (xs.length - 1) ≤ 64) :
    Calls Tryz.prog 151 #[v, .int .i64 p] w (GivesB w (irrB p xs)) := by
  have hln := hv.len
  obtain ⟨D, hD⟩ : ∃ D, xs.length = D + 1 := ⟨xs.length - 1, by omega⟩
  have hD6 : D ≤ 6 := pow_small p2 (by rw [hD] at hq; exact hq)
  have HD := Lib.hid hD
  have Hx := Lib.hid hx
  have Hq := Lib.hid (show p ^ D ≤ 64 by rw [hD] at hq; exact hq)
  rw [hD] at hln
  clear hx hq hx1 hD
  go_enter Tryz.func151, Tryz.ntmps151
  go_wp2_with fail
  go_loopw [6, 7, 8, 9] (fun dd _ _ _ wr => ∃ d : Nat, 1 ≤ d ∧ dd = .int .i64 d ∧ d ≤ 10 ∧ Hid (∀ d' n : Nat, 1 ≤ d' → d' < d → n < (p ^ d').toNat → zeroL (remL p xs (tryP p d' n)) = false) ∧ St w.heap.size w wr []) (fun dd _ _ _ _ => 20 - (intOf dd).toNat)
  case atStart => exact ⟨1, by omega, rfl, by omega, fun d' n h1 h2 => by omega, St.refl _⟩
  case round =>
    obtain ⟨d, d1, rfl, d10, hI, hS⟩ := hrel
    by_cases hle : 2 * (d : Int) ≤ D
    · have hpd : p ^ d ≤ 64 := Int.le_trans (pow_mono (by omega) (show d ≤ D by omega)) Hq.out
      have hpd1 := (pow64 (p := p) (by omega) p64 d).1
      obtain ⟨K, hK⟩ := Int.eq_ofNat_of_zero_le (show 0 ≤ p ^ d by omega)
      have hK2 : K ≤ 64 := by omega
      have HK := Lib.hid hK
      have hpow : ∀ W, Hid (Calls Tryz.prog 176 #[.int .i64 p, .int .i64 d] W fun r w' => r = .returned (.int .i64 K) ∧ W = w') := fun W => by
        have := l03Power_c p d W (by omega) p64 (by omega)
        rw [hK] at this
        exact this
      clear hpd hpd1 hK
      go_wp2_with fail
      go_loopw [7, 8, 9] (fun nn _ _ wx => ∃ n : Nat, n ≤ K ∧ nn = .int .i64 n ∧ Hid (∀ m : Nat, m < n → zeroL (remL p xs (tryP p d m)) = false) ∧ St w.heap.size w wx []) (fun nn _ _ _ => K - (intOf nn).toNat)
      case atStart => exact ⟨0, by omega, rfl, fun m h => by omega, hS⟩
      case round =>
        obtain ⟨n, hn, rfl, hJ, hS⟩ := hrel
        by_cases hlt : n < K
        · have hdg := fun W => Lib.hid (l03Digits_c n p d W (by omega) (by omega) p2 (by omega) (by omega))
          go_wp2_with fail
          refine (hpow _).out.mono ?_
          rintro e w2 ⟨rfl, rfl⟩
          go_wp2_with fail
          refine (hdg _).out.mono ?_
          rintro e w2 ⟨v2, rfl, h2⟩
          have hS2 := hS.call h2
          simp only [List.nil_append] at hS2
          go_wp2_with (at_builtin; refine appI hS2 0 rfl (by rw [lows_len]; omega) rfl _ _ rfl rfl _ rfl ?_; intro v3 w3 hS3)
          have hr3 : RdI w3 v3 (tryP p d n) := hS3.rdI 0 rfl
          have hrem := Lib.hid (l03Rest_c v v3 xs (tryP p d n) p w3 (hS3.oldI hv) hr3 p2 p64 Hx.out (tryP_in p2 d n) (by rw [HD.out]; omega) (by rw [tryP_len]; omega) (by rw [tryP_len]; omega))
          clear hr3
          refine hrem.out.mono ?_
          rintro e w4 ⟨v4, rfl, h4⟩
          have hS4 := hS3.call0 h4.out
          have hr4 := h4.rdI 0 rfl
          have hin4 : In p (remL p xs (tryP p d n)) := In.remL (by omega) Hx.out
          have hlen4 : p ^ (remL p xs (tryP p d n)).length ≤ 1099511627776 := by
            have h9 := remL_len (p := p) (xs := xs) (ys := tryP p d n)
            rw [tryP_len] at h9
            have := pow_mono (p := p) (by omega) (show (remL p xs (tryP p d n)).length ≤ d by omega)
            rw [HK.out] at this; omega
          have hnum := Lib.hid (l03Number_c v4 _ p w4 hr4 (by omega) p64 hin4 hlen4)
          have hzz := Lib.hid (numL_zero (base := p) (by omega) hin4)
          clear hS2 hS3 hS hin4 hlen4
          go_wp2_with fail
          refine hnum.out.mono ?_
          rintro e w5 ⟨rfl, rfl⟩
          by_cases hz : numL p (remL p xs (tryP p d n)) = 0
          · have f0 := eq_t hz
            have Hz := Lib.hid (hzz.out.1 hz); clear hz
            go_wp2_with fail
            go_ret
            exact ⟨ret_bool (irrB_no d1 (by rw [HD.out]; omega) (by rw [HK.out]; omega) Hz.out).symm, hS4.out⟩
          · have f0 := eq_f hz
            have Hz : Hid (zeroL (remL p xs (tryP p d n)) = false) := by
              unfold Hid
              cases h9 : zeroL (remL p xs (tryP p d n)) with
              | false => rfl
              | true => exact absurd (hzz.out.2 h9) hz
            clear hz
            go_wp2_with fail
            go_roundw
            case rel => exact ⟨n + 1, by omega, by go_num, fun m hm => by
              by_cases e : m = n
              · subst e; exact Hz.out
              · exact hJ.out m (by omega), hS4.out⟩
            case measure => simp [intOf]; omega
        · obtain rfl : n = K := by omega
          go_wp2_with fail
          refine (hpow _).out.mono ?_
          rintro e w2 ⟨rfl, rfl⟩
          go_wp2_with fail
          go_roundw
          case rel => exact ⟨d + 1, by omega, by go_num, by omega, fun d' m h1 h2 hm => by
            by_cases e : d' = d
            · subst e; rw [HK.out, Int.toNat_natCast] at hm; exact hJ.out m hm
            · exact hI.out d' m h1 (by omega) hm, hS⟩
          case measure => simp [intOf]; omega
    · go_wp2_with fail
      go_ret
      exact ⟨ret_bool (irrB_iff.2 fun d' n h1 h2 h3 => hI.out d' n h1 (by rw [HD.out] at h2; omega) h3).symm, hS⟩


theorem lfac_no {q f d : Nat} (h : q % d ≠ 0) : lfac q (f + 1) d = lfac q f (d + 1) := by rw [lfac, if_neg h]
theorem lfac_yes {q f d : Nat} (h : q % d = 0) : lfac q f d = d := by
  cases f with
  | zero => rfl
  | succ f => rw [lfac, if_pos h]

set_option maxHeartbeats 2000000 in
set_option maxRecDepth 100000 in
theorem l03Split_c (q : Nat) (w : World) (q2 : 2 ≤ q) (q64 : q ≤ 64) : Calls Tryz.prog 149 #[.int .i64 q] w fun e w' => e = .returned (.tuple #[.int .i64 ((spl q).1 : Nat), .int .i64 ((spl q).2 : Nat)]) ∧ w = w' := by
  have hin : inB (q : Int) 2 64 = true := inB_true ⟨by omega, by omega⟩
  go_enter Tryz.func149, Tryz.ntmps149
  go_wp2_with (go_at_call 113; refine (l00In_c _ _ _ _).mono ?_; rintro e w3 ⟨rfl, rfl⟩)
  clear hin
  go_loop [4] (fun pp => ∃ k : Nat, 2 ≤ k ∧ k ≤ q ∧ pp = .int .i64 k ∧ Hid (lfac q 64 2 = lfac q (66 - k) k)) (fun pp => q - (intOf pp).toNat)
  case atStart => exact ⟨2, by omega, by omega, rfl, rfl⟩
  case round =>
    obtain ⟨k, k2, kq, rfl, hI⟩ := hrel
    have fk : ((k : Int) == 0) = false := eq_f (by omega)
    have hmn : (q : Int) % k = ((q % k : Nat) : Int) := by simp
    by_cases h : q % k = 0
    · have f0 : ((q : Int) % k != 0) = false := ne_f (by rw [hmn, h]; rfl)
      have HL := Lib.hid (show lfac q 64 2 = k by rw [hI.out, lfac_yes h])
      have H := Lib.hid h
      clear h hmn
      go_wp2_with fail
      clear f0
      go_loop [5, 6] (fun cc nn => ∃ n c f : Nat, n ≤ f ∧ n ≤ q ∧ 1 ≤ n ∧ c + n ≤ 200 ∧ cc = .int .i64 c ∧ nn = .int .i64 n ∧ Hid (plog k 64 q 0 = plog k f n c)) (fun _ nn => (intOf nn).toNat)
      case atStart => exact ⟨q, 0, 64, by omega, by omega, by omega, by omega, rfl, rfl, rfl⟩
      case round =>
        obtain ⟨n, c, f, nf, nq, n1, c1, rfl, rfl, hJ⟩ := hrel
        obtain ⟨f, rfl⟩ : ∃ g, f = g + 1 := ⟨f - 1, by omega⟩
        have hmn : (n : Int) % k = ((n % k : Nat) : Int) := by simp
        have hdn : (n : Int) / k = ((n / k : Nat) : Int) := by simp
        by_cases hn : 1 < n
        · by_cases h : n % k = 0
          · have f0 : ((n : Int) % k != 0) = false := ne_f (by rw [hmn, h]; rfl)
            have HP := Lib.hid (show plog k (f + 1) n c = plog k f (n / k) (c + 1) by rw [plog, if_pos hn, if_pos h])
            have hd1 : n / k < n := Nat.div_lt_self (by omega) (by omega)
            have hd2 : 1 ≤ n / k := by
              apply Nat.div_pos _ (by omega)
              exact Nat.le_of_dvd (by omega) (Nat.dvd_of_mod_eq_zero h)
            have q0 : 0 ≤ (n : Int) / k := by omega
            have Hdn := Lib.hid hdn
            have q1 : (n : Int) / k ≤ 64 := by omega
            clear h hmn hdn
            go_wp2_with fail
            go_round
            case rel => exact ⟨n / k, c + 1, f, by omega, by omega, hd2, by omega, by go_num, by rw [Hdn.out], by unfold Hid; rw [hJ.out, HP.out]⟩
            case measure => rw [Hdn.out]; simp [intOf]; omega
          · have f0 : ((n : Int) % k != 0) = true := ne_t (by rw [hmn]; omega)
            have HP := Lib.hid (show plog k (f + 1) n c = none by rw [plog, if_pos hn, if_neg h])
            clear h hmn hdn
            go_wp2_with fail
            go_ret2
            exact ⟨ret_2i (by rw [spl, HL.out, hJ.out, HP.out]; rfl) (by rw [spl, HL.out, hJ.out, HP.out]; rfl), rfl⟩
        · have HP := Lib.hid (show plog k (f + 1) n c = some c by rw [plog, if_neg hn])
          clear hmn hdn
          go_wp2_with fail
          go_ret2
          exact ⟨ret_2i (by rw [spl, HL.out, hJ.out, HP.out]) (by rw [spl, HL.out, hJ.out, HP.out]), rfl⟩
    · have f0 : ((q : Int) % k != 0) = true := ne_t (by rw [hmn]; omega)
      have hlt : k < q := by
        apply Nat.lt_of_le_of_ne kq; intro e; subst e; exact h (Nat.mod_self _)
      have HL := Lib.hid (show lfac q 64 2 = lfac q (66 - (k + 1)) (k + 1) by rw [hI.out, show 66 - k = (66 - (k + 1)) + 1 by omega, lfac_no h])
      clear h hmn
      go_wp2_with fail
      go_round
      case rel => exact ⟨k + 1, by omega, by omega, by go_num, HL⟩
      case measure => simp [intOf]; omega


/-- a field behind a pointer -/
def BoxF (w : World) (g : Nat) (p d : Int) (v : Value) : Prop :=
  w.cell? ⟨g, 0, none⟩ = some (.int .i64 p) ∧ w.cell? ⟨g, 1, none⟩ = some (.int .i64 d) ∧ w.cell? ⟨g, 2, none⟩ = some v
theorem cell_keepF {w w' : World} (hb : Below w.heap.size w w') {p : Addr} {u : Value} (h : w.cell? p = some u) : w'.cell? p = some u := by
  rw [hb.cell (World.block_lt_of_cell? _ _ h)]; exact h
theorem BoxF.keep {w w' : World} {g : Nat} {p d : Int} {v : Value} (h : BoxF w g p d v) (hb : Below w.heap.size w w') : BoxF w' g p d v :=
  ⟨cell_keepF hb h.1, cell_keepF hb h.2.1, cell_keepF hb h.2.2⟩
theorem St.oldF {w0 w : World} {L : List Ent} {g : Nat} {p d : Int} {v : Value} (h : St w0.heap.size w0 w L) (hr : BoxF w0 g p d v) : BoxF w g p d v := hr.keep h.below

end Go.Proofs.YtdgmaodnkbgolaaGreat
end

section
/- Walks: slices.ContainsFunc on rows of integers. -/
namespace Go.Proofs.YtdgmaodnkbgolaaGreat
set_option linter.unusedSimpArgs false
set_option linter.unusedVariables false
open Go.RowKit

/-! slices.ContainsFunc on rows -/
def anyR (p : List Int → Bool) (xss : List (List Int)) : Bool := xss.any p
def idxR (p : List Int → Bool) (xss : List (List Int)) (k : Nat) : Int := match (xss.drop k).findIdx? p with | some j => (k + j : Nat) | none => -1
theorem idxR_step {p : List Int → Bool} {xs : List (List Int)} {k : Nat} (hk : k < xs.length) (h : p (xat xs k) = false) : idxR p xs k = idxR p xs (k + 1) := by
  unfold idxR
  rw [drop_xat hk, List.findIdx?_cons, h]
  cases (xs.drop (k + 1)).findIdx? p with
  | none => rfl
  | some j => simp; omega
theorem idxR_hit {p : List Int → Bool} {xs : List (List Int)} {k : Nat} (hk : k < xs.length) (h : p (xat xs k) = true) : idxR p xs k = k := by
  unfold idxR; rw [drop_xat hk, List.findIdx?_cons, h]; simp
theorem idxR_end {p : List Int → Bool} {xs : List (List Int)} {k : Nat} (hk : xs.length ≤ k) : idxR p xs k = -1 := by
  unfold idxR; rw [List.drop_of_length_le hk]; rfl
theorem idxR_any {p : List Int → Bool} {xs : List (List Int)} : decide (0 ≤ idxR p xs 0) = anyR p xs := by
  unfold idxR anyR
  rw [List.drop_zero]
  cases h : xs.findIdx? p with
  | none =>
    have hy : xs.any p = false := by
      rw [List.any_eq_false]
      intro x hx
      have := List.findIdx?_eq_none_iff.1 h x hx
      simp [this]
    rw [hy]; simp
  | some j =>
    have hy : xs.any p = true := by
      obtain ⟨hj, hp, _⟩ := List.findIdx?_eq_some_iff_getElem.1 h
      exact List.any_eq_true.2 ⟨_, List.getElem_mem hj, hp⟩
    rw [hy]; simp

set_option maxHeartbeats 1000000 in
set_option maxRecDepth 100000 in
theorem IndexFuncR_c (K : FuncId) (caps : Array Value) (p : List Int → Bool) (v : Value) (us : List Value) (xss : List (List Int)) (w : World) (hv : RII w v us xss)
    (hcf : ∀ (args : Array Value) (W : World), (callFunc K args).run Tryz.prog W = .ok (.enter K args) W)
    (hK : ∀ (j : Nat) (W : World), St w.heap.size w W [] → j < xss.length → Calls Tryz.prog K (#[vat us j] ++ caps) W (GivesB W (p (xat xss j)))) :
    Calls Tryz.prog 120 #[v, .func (.func K) #[] caps] w (GivesI w (idxR p xss 0)) := by
  have HK := Lib.hid hK
  clear hK
  have hln := hv.len
  have hix := hv.ix
  have hm := hv.le
  go_enter Tryz.func120, Tryz.ntmps120
  go_wp2_with fail
  go_loopw [5, 8] (fun _ i wr => ∃ k : Nat, k ≤ xss.length ∧ i = .int .i64 k ∧ Hid (idxR p xss 0 = idxR p xss k) ∧ St w.heap.size w wr []) (fun _ i _ => xss.length - (intOf i).toNat)
  case atStart => exact ⟨0, by omega, rfl, rfl, St.refl w⟩
  case round =>
    obtain ⟨k, hk, rfl, hI, hS⟩ := hrel
    by_cases hlt : k < xss.length
    · have hc := (hS.oldII hv).cell k hlt
      go_wp2_with fail
      refine (HK.out _ _ hS hlt).mono ?_
      cases hp : p (xat xss k)
      · have Hp := Lib.hid hp; clear hp
        rintro e w2 ⟨rfl, h2⟩
        have hS2 := hS.call0 h2
        go_wp2_with fail
        go_roundw
        case rel => exact ⟨k + 1, by omega, by go_num, by rw [Hid, hI.out, idxR_step hlt Hp.out], hS2⟩
        case measure => simp [intOf]; omega
      · have Hp := Lib.hid hp; clear hp
        rintro e w2 ⟨rfl, h2⟩
        have hS2 := hS.call0 h2
        go_wp2_with fail
        go_ret
        exact ⟨ret_i64 (by rw [hI.out, idxR_hit hlt Hp.out]), hS2⟩
    · go_wp2_with fail
      go_ret
      exact ⟨ret_i64 (by rw [hI.out, idxR_end (by omega)]), hS⟩
theorem ContainsFuncR_c (K : FuncId) (caps : Array Value) (p : List Int → Bool) (v : Value) (us : List Value) (xss : List (List Int)) (w : World) (hv : RII w v us xss)
    (hcf : ∀ (args : Array Value) (W : World), (callFunc K args).run Tryz.prog W = .ok (.enter K args) W)
    (hK : ∀ (j : Nat) (W : World), St w.heap.size w W [] → j < xss.length → Calls Tryz.prog K (#[vat us j] ++ caps) W (GivesB W (p (xat xss j)))) :
    Calls Tryz.prog 103 #[v, .func (.func K) #[] caps] w (GivesB w (anyR p xss)) := by
  have HK := Lib.hid hK
  clear hK
  go_enter Tryz.func103, Tryz.ntmps103
  go_wp2_with fail
  refine (IndexFuncR_c K caps p v us xss w hv hcf HK.out).mono ?_
  rintro e w1 ⟨rfl, h1⟩
  go_wp2_with fail
  go_ret
  exact ⟨ret_bool idxR_any, h1⟩

theorem szII_c (v : Value) (us : List Value) (xss : List (List Int)) (w : World) (hv : RII w v us xss) :
    Calls Tryz.prog 30 #[v] w fun e w' => e = .returned (.int .i64 xss.length) ∧ w = w' := by
  have hln := hv.len
  go_enter Tryz.func30, Tryz.ntmps30
  go_wp2_with fail
  go_ret
  exact ⟨rfl, rfl⟩
end Go.Proofs.YtdgmaodnkbgolaaGreat
end

section
/- Walks: sums of elements. Walks: the statements' sums of elements. -/
namespace Go.Proofs.YtdgmaodnkbgolaaGreat
set_option linter.unusedSimpArgs false
set_option linter.unusedVariables false
open Go.RowKit
attribute [local go_sem ↓] Go.wp_at_zero Go.wp_at_succ


/-- the first j places are x + s y -/
def smP (p : Int) (x y : List Int) (s : Int) (j : Nat) : List Int := tab x.length fun t => if t < j then (cf x t + s * cf y t) % p else cf x t
theorem smP_len (p : Int) (x y : List Int) (s : Int) (j : Nat) : (smP p x y s j).length = x.length := tab_len _ _
theorem smP_0 (p : Int) (x y : List Int) (s : Int) : smP p x y s 0 = x := by
  conv => rhs; rw [← tab_cf x]
  exact tab_congr fun t _ => by rw [if_neg (by omega)]
theorem smP_step {p : Int} {x y : List Int} {s : Int} {j : Nat} (hj : j < x.length) : (smP p x y s j).set j ((cf x j + s * cf y j) % p) = smP p x y s (j + 1) := by
  refine cf_ext (by simp [smP_len]) fun t ht => ?_
  rw [List.length_set, smP_len] at ht
  unfold smP
  rw [cf_set (by rw [tab_len]; exact hj), cf_tab ht, cf_tab ht]
  by_cases e : j = t
  · subst e; rw [if_pos rfl, if_pos (by omega)]
  · rw [if_neg e]
    by_cases h : t < j
    · rw [if_pos h, if_pos (by omega)]
    · rw [if_neg h, if_neg (by omega)]
theorem smP_at {p : Int} {x y : List Int} {s : Int} {j : Nat} (hj : j < x.length) : nth (smP p x y s j) j = nth x j := by
  have := cf_tab (f := fun t => if t < j then (cf x t + s * cf y t) % p else cf x t) hj
  rw [if_neg (by omega)] at this
  exact this
theorem smP_end {p : Int} {D : Nat} {a b s : Int} : numL p (smP p (dgt p D a) (dgt p D b) s D) = fsum p D a b s := by
  unfold smP fsum
  rw [dgt_len]
  congr 1
  exact tab_congr fun t ht => by rw [if_pos ht]
theorem smP_in {p : Int} (hp : 0 < p) {x y : List Int} {s : Int} {j : Nat} (hx : In p x) : In p (smP p x y s j) := by
  refine In.tab fun t ht => ?_
  split
  · exact ⟨Int.emod_nonneg _ (by omega), Int.emod_lt_of_pos _ hp⟩
  · exact hx.cf hp t
set_option maxHeartbeats 4000000 in
set_option maxRecDepth 100000 in
theorem combine_c (p : Int) (D : Nat) (v : Value) (xs : List Int) (a b s : Int) (w : World) (hv : RdI w v xs) (hf : FV p D xs) (a0 : 0 ≤ a) (a1 : a ≤ 1000000) (b0 : 0 ≤ b) (b1 : b ≤ 1000000) (hs : s = 1 ∨ s = -1) :
    Calls Tryz.prog 51 #[fv p D v, .int .i64 a, .int .i64 b, .int .i64 s] w (GivesI w (fsum p D a b s)) := by
  have hS0 := (St.refl w).newboxF 73 #[.int .i64 p, .int .i64 D, v]
  have p2 := hf.p2
  have p64 := hf.p64
  have d6 := hf.d6
  have hq := hf.q
  rw [Int.toNat_natCast] at hq
  have HQ := Lib.hid hq
  have fp : (p == 0) = false := eq_f (by omega)
  have c0 := hS0.bcell 0 rfl 0 rfl
  have c1 := hS0.bcell 0 rfl 1 rfl
  have hda := fun W => Lib.hid (digitsOf_c a p D W a0 (by omega) p2 (by omega) (by omega))
  have hdb := fun W => Lib.hid (digitsOf_c b p D W b0 (by omega) p2 (by omega) (by omega))
  rw [lows_dgt] at hda hdb
  have Hx := Lib.hid (dgt_in (base := p) (by omega) D a)
  have Hy := Lib.hid (dgt_in (base := p) (by omega) D b)
  have Hxl := Lib.hid (dgt_len p D a)
  have Hyl := Lib.hid (dgt_len p D b)
  have Hend := Lib.hid (smP_end (p := p) (D := D) (a := a) (b := b) (s := s))
  clear hf hq
  generalize dgt p D a = x at hda Hx Hxl Hend
  generalize dgt p D b = y at hdb Hy Hyl Hend
  have s0 : -1 ≤ s ∧ s ≤ 1 := by omega
  obtain ⟨s0, s1⟩ := s0
  have Hs := Lib.hid hs
  clear hs
  unfold fv
  go_enter Tryz.func51, Tryz.ntmps51
  go_wp2_with fail
  go_region_held3 (fun w' => w'.cell? ⟨w.heap.size, 0, none⟩ = some (.int .i64 p) ∧ w'.cell? ⟨w.heap.size, 1, none⟩ = some (.int .i64 D)) (go_keep)
    (first
    | (go_at_call_of 84 (Value.int .i64 a); refine (hda _).out.mono ?_; rintro e w1 ⟨vx, rfl, h1⟩; have hS1 := hS0.drew.call h1; have g0 := hS1.bcell 0 rfl 0 rfl; have g1 := hS1.bcell 0 rfl 1 rfl)
    | (go_at_call_of 84 (Value.int .i64 b); refine (hdb _).out.mono ?_; rintro e w2 ⟨vy, rfl, h2⟩; have hS2 := hS1.call h2; have k0 := hS2.bcell 0 rfl 0 rfl; have k1 := hS2.bcell 0 rfl 1 rfl))
  simp only [List.cons_append, List.nil_append] at hS2
  have hlx := (hS2.rdI 1 rfl).len
  rw [Hxl.out] at hlx
  clear hS1 h1 h2 g0 g1 hda hdb c0 c1 k0 k1
  go_wp2_with fail
  go_loopw [11, 26] (fun _ i wr => ∃ j : Nat, j ≤ D ∧ i = .int .i64 j ∧ St w.heap.size w wr [box 73 w.heap.size [.int .i64 p, .int .i64 D, v], row 2 vx (iv (smP p x y s j)), row 2 vy (iv y)]) (fun _ i _ => D - (intOf i).toNat)
  case atStart => exact ⟨0, by omega, rfl, by rw [smP_0]; exact hS2⟩
  case round =>
    obtain ⟨j, hj, rfl, hS⟩ := hrel
    by_cases hlt : j < D
    · have hat : j < (smP p x y s j).length := by rw [smP_len, Hxl.out]; exact hlt
      have hyt : j < y.length := by rw [Hyl.out]; exact hlt
      have hxt : j < x.length := by rw [Hxl.out]; exact hlt
      have hca := (hS.rdI 1 rfl).cell j hat
      have hcb := (hS.rdI 2 rfl).cell j hyt
      have hxa := (hS.rdI 1 rfl).ixe (j : Int) j rfl hat
      have hxb := (hS.rdI 2 rfl).ixe (j : Int) j rfl hyt
      rw [smP_at hxt] at hca
      have hab := Hx.out _ (nth_mem hxt)
      have hbb := Hy.out _ (nth_mem hyt)
      have hst := Lib.hid (smP_step (p := p) (x := x) (y := y) (s := s) hxt)
      have u1 := hS.unfrozen 1 rfl (j := j) (by rw [iv_len]; exact hat)
      have b0 := hS.bcell 0 rfl 0 rfl
      generalize hA : nth x j = A at hca hab
      generalize hB : nth y j = B at hcb hbb
      have HA := Lib.hid hA
      have HB := Lib.hid hB
      obtain ⟨a2, a3⟩ := hab
      obtain ⟨b2, b3⟩ := hbb
      have hsb : -p < s * B ∧ s * B < p := by
        rcases Hs.out with h | h
        · subst h; omega
        · subst h; omega
      obtain ⟨n0, n1⟩ := hsb
      have hs1 := hS.store 1 rfl (j := j) (by rw [iv_len]; exact hat) (.int .i64 ((A + s * B) % p))
      have hs2 := Lib.hid hs1.drew
      clear hA hB hat hyt hxt hs1
      go_wp2_with fail
      go_region
      all_goals
        go_wp2_with fail
        go_roundw
        case rel =>
          refine ⟨j + 1, by omega, by go_num, ?_⟩
          have h := hs2.out
          rw [iv_set] at h
          rw [← hst.out, show cf x j = A from HA.out, show cf y j = B from HB.out]
          exact h
        case measure => simp [intOf]; omega
    · obtain rfl : j = D := by omega
      have b0 := hS.bcell 0 rfl 0 rfl
      have hnum := Lib.hid (numberOf_c vx (smP p x y s j) p wr (hS.rdI 1 rfl) (by omega) p64 (smP_in (by omega) Hx.out) (by rw [smP_len, Hxl.out]; have := HQ.out; omega))
      rw [Hend.out] at hnum
      go_wp2_with fail
      refine hnum.out.mono ?_
      rintro e w3 ⟨rfl, rfl⟩
      go_wp2_with fail
      go_ret
      exact ⟨rfl, hS.out⟩


set_option maxHeartbeats 4000000 in
set_option maxRecDepth 100000 in
theorem l03Sum_c (p : Int) (D : Nat) (g : Nat) (v : Value) (xs : List Int) (a b s : Int) (w : World) (hbx : BoxF w g p D v) (hf : FV p D xs) (a0 : 0 ≤ a) (a1 : a ≤ 1000000) (b0 : 0 ≤ b) (b1 : b ≤ 1000000) (s0 : 0 ≤ s) (s1 : s ≤ 64) :
    Calls Tryz.prog 109 #[.pointer (some ⟨g, 0, none⟩), .int .i64 a, .int .i64 b, .int .i64 s] w (GivesI w (fsum p D a b s)) := by
  have hS0 := St.refl w
  have p2 := hf.p2
  have p64 := hf.p64
  have d6 := hf.d6
  have hq := hf.q
  rw [Int.toNat_natCast] at hq
  have HQ := Lib.hid hq
  have fp : (p == 0) = false := eq_f (by omega)
  have c0 := hbx.1
  have c1 := hbx.2.1
  have hda := fun W => Lib.hid (l03Digits_c a p D W a0 (by omega) p2 (by omega) (by omega))
  have hdb := fun W => Lib.hid (l03Digits_c b p D W b0 (by omega) p2 (by omega) (by omega))
  rw [lows_dgt] at hda hdb
  have Hx := Lib.hid (dgt_in (base := p) (by omega) D a)
  have Hy := Lib.hid (dgt_in (base := p) (by omega) D b)
  have Hxl := Lib.hid (dgt_len p D a)
  have Hyl := Lib.hid (dgt_len p D b)
  have Hend := Lib.hid (smP_end (p := p) (D := D) (a := a) (b := b) (s := s))
  clear hf hq
  generalize dgt p D a = x at hda Hx Hxl Hend
  generalize dgt p D b = y at hdb Hy Hyl Hend
  have HB := Lib.hid hbx
  go_enter Tryz.func109, Tryz.ntmps109
  go_wp2_with fail
  go_region_held3 (fun w' => w'.cell? ⟨g, 0, none⟩ = some (.int .i64 p) ∧ w'.cell? ⟨g, 1, none⟩ = some (.int .i64 D)) (go_keep)
    ((go_at_call_of 150 (Value.int .i64 a); refine (hda _).out.mono ?_; rintro e w1 ⟨vx, rfl, h1⟩; have hS1 := hS0.drew.call h1; have g0 := (hS1.oldF HB.out).1; have g1 := (hS1.oldF HB.out).2.1))
  go_wp2_with fail
  go_region_held3 (fun w' => w'.cell? ⟨g, 0, none⟩ = some (.int .i64 p) ∧ w'.cell? ⟨g, 1, none⟩ = some (.int .i64 D)) (go_keep)
    ((go_at_call_of 150 (Value.int .i64 b); refine (hdb _).out.mono ?_; rintro e w2 ⟨vy, rfl, h2⟩; have hS2 := hS1.drew.call h2; have k0 := (hS2.oldF HB.out).1; have k1 := (hS2.oldF HB.out).2.1))
  simp only [List.cons_append, List.nil_append] at hS2
  have hlx := (hS2.rdI 0 rfl).len
  rw [Hxl.out] at hlx
  clear hS1 h1 h2 g0 g1 hda hdb c0 c1 k0 k1
  go_wp2_with fail
  go_loopw [11] (fun i wr => ∃ j : Nat, j ≤ D ∧ i = .int .i64 j ∧ St w.heap.size w wr [row 2 vx (iv (smP p x y s j)), row 2 vy (iv y)]) (fun i _ => D - (intOf i).toNat)
  case atStart => exact ⟨0, by omega, rfl, by rw [smP_0]; exact hS2⟩
  case round =>
    obtain ⟨j, hj, rfl, hS⟩ := hrel
    by_cases hlt : j < D
    · have hat : j < (smP p x y s j).length := by rw [smP_len, Hxl.out]; exact hlt
      have hyt : j < y.length := by rw [Hyl.out]; exact hlt
      have hxt : j < x.length := by rw [Hxl.out]; exact hlt
      have hca := (hS.rdI 0 rfl).cell j hat
      have hcb := (hS.rdI 1 rfl).cell j hyt
      have hxa := (hS.rdI 0 rfl).ixe (j : Int) j rfl hat
      have hxb := (hS.rdI 1 rfl).ixe (j : Int) j rfl hyt
      rw [smP_at hxt] at hca
      have hab := Hx.out _ (nth_mem hxt)
      have hbb := Hy.out _ (nth_mem hyt)
      have hst := Lib.hid (smP_step (p := p) (x := x) (y := y) (s := s) hxt)
      have u1 := hS.unfrozen 0 rfl (j := j) (by rw [iv_len]; exact hat)
      have b0 := (hS.oldF HB.out).1
      generalize hA : nth x j = A at hca hab
      generalize hB : nth y j = B at hcb hbb
      have HA := Lib.hid hA
      have HBB := Lib.hid hB
      obtain ⟨a2, a3⟩ := hab
      obtain ⟨b2, b3⟩ := hbb
      have n0 : 0 ≤ s * B := Int.mul_nonneg s0 b2
      have n1 : s * B ≤ 4096 := Int.le_trans (Int.mul_le_mul s1 (show B ≤ 64 by omega) b2 (by omega)) (by omega)
      have hs1 := hS.store 0 rfl (j := j) (by rw [iv_len]; exact hat) (.int .i64 ((A + s * B) % p))
      have hs2 := Lib.hid hs1.drew
      clear hA hB hat hyt hxt hs1
      go_wp2_with fail
      go_region
      all_goals
        go_wp2_with fail
        go_roundw
        case rel =>
          refine ⟨j + 1, by omega, by go_num, ?_⟩
          have h := hs2.out
          rw [iv_set] at h
          rw [← hst.out, show cf x j = A from HA.out, show cf y j = B from HBB.out]
          exact h
        case measure => simp [intOf]; omega
    · obtain rfl : j = D := by omega
      have b0 := (hS.oldF HB.out).1
      have hnum := Lib.hid (l03Number_c vx (smP p x y s j) p wr (hS.rdI 0 rfl) (by omega) p64 (smP_in (by omega) Hx.out) (by rw [smP_len, Hxl.out]; have := HQ.out; omega))
      rw [Hend.out] at hnum
      go_wp2_with fail
      refine hnum.out.mono ?_
      rintro e w3 ⟨rfl, rfl⟩
      go_wp2_with fail
      go_ret
      exact ⟨rfl, hS.out⟩

end Go.Proofs.YtdgmaodnkbgolaaGreat
end
