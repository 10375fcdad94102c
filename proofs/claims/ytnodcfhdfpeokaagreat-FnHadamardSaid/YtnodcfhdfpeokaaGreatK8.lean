/- The texts of this claim, run 8: PHd2 Hd4 Hd5 Hd6 Cmp Ds0 Ds1 Set2 Arr2. -/
import Derived.Test.YtnodcfhdfpeokaaGreatK3
import Derived.Test.YtnodcfhdfpeokaaGreatK4
import Derived.Test.YtnodcfhdfpeokaaGreatK5
import Derived.Test.YtnodcfhdfpeokaaGreatK6
import Derived.Test.YtnodcfhdfpeokaaGreatK7
import Derived.Deep.RegionHeld3
import Derived.Deep.DrawnRows
import Derived.Shelf.SlSortCmp.NoneTotal
section
/- Plain: transposes, excess and designs of Hadamard matrices. -/
namespace Go.Proofs.YtnodcfhdfpeokaaGreat
set_option linter.unusedSimpArgs false
set_option linter.unusedVariables false

theorem sN_add2 (f g : Nat → Int) : ∀ n : Nat, sN n (fun k => f k + g k) = sN n f + sN n g
  | 0 => rfl
  | n + 1 => by rw [sN, sN, sN, sN_add2 f g n]; omega
theorem sN_zero : ∀ n : Nat, sN n (fun _ => 0) = 0
  | 0 => rfl
  | n + 1 => by rw [sN, sN_zero n]; rfl
theorem sN_const (c : Int) : ∀ n : Nat, sN n (fun _ => c) = n * c
  | 0 => by simp [sN]
  | n + 1 => by rw [sN, sN_const c n]; push_cast; grind
theorem sN_swap (f : Nat → Nat → Int) (m : Nat) : ∀ n : Nat, sN n (fun x => sN m (f x)) = sN m fun y => sN n fun x => f x y
  | 0 => by simp only [sN, sN_zero]
  | n + 1 => by simp only [sN]; rw [sN_swap f m n, ← sN_add2]
theorem sN_mulR (c : Int) (f : Nat → Int) (n : Nat) : sN n (fun k => f k * c) = sN n f * c := by
  rw [Int.mul_comm, ← sN_mul]; exact sN_congr fun k _ => Int.mul_comm _ _
theorem sN_nn {f : Nat → Int} : ∀ {n : Nat}, (∀ k, k < n → 0 ≤ f k) → 0 ≤ sN n f
  | 0, _ => by simp [sN]
  | n + 1, h => by have := sN_nn (n := n) (fun k hk => h k (by omega)); have := h n (by omega); rw [sN]; omega
theorem sN_z {f : Nat → Int} : ∀ {n : Nat}, (∀ k, k < n → 0 ≤ f k) → sN n f = 0 → ∀ k, k < n → f k = 0
  | 0, _, _, k, hk => by omega
  | n + 1, h, h0, k, hk => by
    have h1 := sN_nn (n := n) (fun k hk => h k (by omega))
    have h2 := h n (by omega)
    rw [sN] at h0
    by_cases e : k = n
    · subst e; omega
    · exact sN_z (n := n) (fun k hk => h k (by omega)) (by omega) k (by omega)
theorem sN_delta (c : Int) (y : Nat) : ∀ {n : Nat}, y < n → sN n (fun y' => if y = y' then c else 0) = c
  | 0, h => by omega
  | n + 1, h => by
    rw [sN]
    by_cases e : y = n
    · subst e
      rw [sN_congr (g := fun _ => 0) (fun k hk => if_neg (by omega)), sN_zero, if_pos rfl]; omega
    · rw [sN_delta c y (n := n) (by omega), if_neg e]; omega
theorem sN_mm (f g : Nat → Int) (n m : Nat) : sN n f * sN m g = sN n fun x => sN m fun y => f x * g y := by
  rw [← sN_mulR]; exact sN_congr fun x _ => (sN_mul _ _ _).symm
theorem sN_quadr (f : Nat → Int) (a : Int) : ∀ n : Nat, sN n (fun k => (f k - a) * (f k - a)) = sN n (fun k => f k * f k) - 2 * a * sN n f + n * (a * a)
  | 0 => by simp [sN]
  | n + 1 => by rw [sN, sN, sN, sN_quadr f a n]; push_cast; grind
theorem sN_cauchy (f : Nat → Int) : ∀ n : Nat, sN n f * sN n f ≤ n * sN n fun k => f k * f k
  | 0 => by simp [sN]
  | n + 1 => by
    have ih := sN_cauchy f n
    have h := sN_quadr f (f n) n
    have h0 : 0 ≤ sN n (fun k => (f k - f n) * (f k - f n)) := sN_nn fun k _ => by
      rcases Int.le_total 0 (f k - f n) with h | h
      · exact Int.mul_nonneg h h
      · have := Int.mul_nonneg (Int.neg_nonneg_of_nonpos h) (Int.neg_nonneg_of_nonpos h)
        rwa [Int.neg_mul_neg] at this
    rw [h] at h0
    rw [sN, sN]
    generalize sN n f = S at *
    generalize sN n (fun k => f k * f k) = Q at *
    generalize f n = a at *
    have e1 : (S + a) * (S + a) = S * S + (2 * a * S) + a * a := by grind
    have e2 : ((n + 1 : Nat) : Int) * (Q + a * a) = n * Q + (Q + n * (a * a)) + a * a := by push_cast; grind
    rw [e1, e2]; omega

section
variable {n : Nat} {H : List (List Int)}
theorem Had.diag (h : Had n H) {x : Nat} (hx : x < n) : sN n (fun y => at2 H x y * at2 H x y) = n := by
  rw [sN_congr (g := fun _ => 1) (fun y hy => (h.el x y hx hy).sq), sN_const]; omega
theorem Had.dots (h : Had n H) {x x' : Nat} (hx : x < n) (hx' : x' < n) : sN n (fun y => at2 H x y * at2 H x' y) = if x = x' then (n : Int) else 0 := by
  by_cases e : x = x'
  · subst e; rw [if_pos rfl]; exact h.diag hx
  · rw [if_neg e]; exact h.dot x x' hx hx' e
/-- columns are orthogonal too -/
theorem Had.col (h : Had n H) {y y' : Nat} (hy : y < n) (hy' : y' < n) : sN n (fun x => at2 H x y * at2 H x y') = if y = y' then (n : Int) else 0 := by
  have hd : ∀ y, y < n → sN n (fun x => at2 H x y * at2 H x y) = n := fun y hy => by
    rw [sN_congr (g := fun _ => 1) (fun x hx => (h.el x y hx hy).sq), sN_const]; omega
  have key : sN n (fun y => sN n fun y' => sN n (fun x => at2 H x y * at2 H x y') * sN n (fun x => at2 H x y * at2 H x y')) = n * (n * n) := by
    have e1 : ∀ y y', sN n (fun x => at2 H x y * at2 H x y') * sN n (fun x => at2 H x y * at2 H x y') = sN n fun x => sN n fun x' => (at2 H x y * at2 H x' y) * (at2 H x y' * at2 H x' y') := fun y y' => by
      rw [sN_mm]; exact sN_congr fun x _ => sN_congr fun x' _ => by grind
    have e2 : sN n (fun y => sN n fun y' => sN n fun x => sN n fun x' => (at2 H x y * at2 H x' y) * (at2 H x y' * at2 H x' y')) = sN n fun x => sN n fun x' => sN n (fun y => at2 H x y * at2 H x' y) * sN n (fun y => at2 H x y * at2 H x' y) := by
      rw [sN_congr (g := fun y => sN n fun x => sN n fun x' => sN n fun y' => (at2 H x y * at2 H x' y) * (at2 H x y' * at2 H x' y')) (fun y _ => by
        rw [sN_swap (fun y' x => sN n fun x' => (at2 H x y * at2 H x' y) * (at2 H x y' * at2 H x' y'))]
        exact sN_congr fun x _ => sN_swap _ _ _)]
      rw [sN_swap (fun y x => sN n fun x' => sN n fun y' => (at2 H x y * at2 H x' y) * (at2 H x y' * at2 H x' y'))]
      refine sN_congr fun x _ => ?_
      rw [sN_swap (fun y x' => sN n fun y' => (at2 H x y * at2 H x' y) * (at2 H x y' * at2 H x' y'))]
      exact sN_congr fun x' _ => (sN_mm _ _ _ _).symm
    rw [sN_congr (g := fun y => sN n fun y' => sN n fun x => sN n fun x' => (at2 H x y * at2 H x' y) * (at2 H x y' * at2 H x' y')) (fun y _ => sN_congr fun y' _ => e1 y y'), e2]
    rw [sN_congr (g := fun _ => (n : Int) * n) (fun x hx => by
      rw [sN_congr (g := fun x' => if x = x' then (n : Int) * n else 0) (fun x' hx' => by rw [h.dots hx hx']; split <;> simp), sN_delta _ _ hx]), sN_const]
  have hg : ∀ y, y < n → ∀ y', y' < n → 0 ≤ sN n (fun x => at2 H x y * at2 H x y') * sN n (fun x => at2 H x y * at2 H x y') + -(if y = y' then (n : Int) * n else 0) := fun y hy y' hy' => by
    by_cases e : y = y'
    · subst e; rw [if_pos rfl, hd y hy]; omega
    · rw [if_neg e]
      generalize sN n (fun x => at2 H x y * at2 H x y') = s
      rcases Int.le_total 0 s with h | h
      · have := Int.mul_nonneg h h; omega
      · have := Int.mul_nonneg (Int.neg_nonneg_of_nonpos h) (Int.neg_nonneg_of_nonpos h)
        rw [Int.neg_mul_neg] at this; omega
  have hs : sN n (fun y => sN n fun y' => sN n (fun x => at2 H x y * at2 H x y') * sN n (fun x => at2 H x y * at2 H x y') + -(if y = y' then (n : Int) * n else 0)) = 0 := by
    rw [sN_congr (g := fun y => sN n (fun y' => sN n (fun x => at2 H x y * at2 H x y') * sN n (fun x => at2 H x y * at2 H x y')) + -((n : Int) * n)) (fun y hy => by
      rw [sN_add2]
      congr 1
      rw [sN_congr (g := fun y' => (-1) * (if y = y' then (n : Int) * n else 0)) (fun y' _ => by omega), sN_mul, sN_delta _ _ hy]; omega), sN_add2, key, sN_const]
    grind
  have h1 := sN_z (fun y hy => sN_nn (fun y' hy' => hg y hy y' hy')) hs y hy
  have h2 := sN_z (fun y' hy' => hg y hy y' hy') h1 y' hy'
  by_cases e : y = y'
  · subst e; rw [if_pos rfl]; exact hd y hy
  · rw [if_neg e] at h2 ⊢
    have h3 : sN n (fun x => at2 H x y * at2 H x y') * sN n (fun x => at2 H x y * at2 H x y') = 0 := by omega
    rcases Int.mul_eq_zero.1 h3 with h4 | h4 <;> exact h4
/-- the transposed matrix -/
theorem Had.tr (h : Had n H) : Had n (sqF n fun x y => at2 H y x) :=
  ⟨h.pos, h.le, sqF_sqr _ _, fun x y hx hy => by rw [at2_sqF hx hy]; exact h.el y x hy hx, fun x x' hx hx' hne => by
    rw [sN_congr (g := fun y => at2 H y x * at2 H y x') (fun y hy => by rw [at2_sqF hx hy, at2_sqF hx' hy]), h.col hx hx', if_neg hne]⟩
/-- the sum of all entries -/
def excH (n : Nat) (H : List (List Int)) : Int := sN n fun x => sN n fun y => at2 H x y
theorem exc_le (h : Had n H) : excH n H * excH n H ≤ (n : Int) * n * n := by
  have h1 : excH n H = sN n fun y => sN n fun x => at2 H x y := sN_swap _ _ _
  have h2 := sN_cauchy (fun y => sN n fun x => at2 H x y) n
  have h3 : sN n (fun y => (sN n fun x => at2 H x y) * (sN n fun x => at2 H x y)) = (n : Int) * n := by
    rw [sN_congr (g := fun y => sN n fun x => sN n fun x' => at2 H x y * at2 H x' y) (fun y _ => sN_mm _ _ _ _), sN_swap (fun y x => sN n fun x' => at2 H x y * at2 H x' y)]
    rw [sN_congr (g := fun _ => (n : Int)) (fun x hx => by
      rw [sN_swap (fun y x' => at2 H x y * at2 H x' y), sN_congr (g := fun x' => if x = x' then (n : Int) else 0) (fun x' hx' => h.dots hx hx'), sN_delta _ _ hx]), sN_const]
  rw [← h1, h3] at h2
  rw [Int.mul_assoc]; exact h2
theorem exc_bd (h : Had n H) : -1024 ≤ excH n H ∧ excH n H ≤ 1024 := by
  have hn := h.le
  have hb : ∀ x, x < n → -(n : Int) ≤ (sN n fun y => at2 H x y) ∧ (sN n fun y => at2 H x y) ≤ n := fun x hx => sN_bd fun y hy => (h.el x y hx hy).bd
  have : ∀ m, m ≤ n → -(32 * (m : Int)) ≤ sN m (fun x => sN n fun y => at2 H x y) ∧ sN m (fun x => sN n fun y => at2 H x y) ≤ 32 * m := by
    intro m
    induction m with
    | zero => intro _; simp [sN]
    | succ m ih => intro hm; have := ih (by omega); have := hb m (by omega); rw [sN]; push_cast; omega
  have := this n (by omega)
  unfold excH; omega
/-- the normal form -/
def nmF (H : List (List Int)) (x y : Nat) : Int := at2 H x y * at2 H 0 y * at2 H x 0 * at2 H 0 0
def nmL (n : Nat) (H : List (List Int)) : List (List Int) := sqF n (nmF H)
theorem nm_sg (h : Had n H) : Sg n H (nmL n H) := by
  have h0 := h.pos
  refine ⟨sqF_sqr _ _, fun x => if x < n then at2 H x 0 else 1, fun y => if y < n then at2 H 0 y * at2 H 0 0 else 1, fun x => ?_, fun y => ?_, fun x y hx hy => ?_⟩
  · show Pm (if _ then _ else _); split
    · rename_i hx; exact h.el x 0 hx h0
    · exact .inl rfl
  · show Pm (if _ then _ else _); split
    · rename_i hy; exact (h.el 0 y h0 hy).mul (h.el 0 0 h0 h0)
    · exact .inl rfl
  · rw [nmL, at2_sqF hx hy, nmF]; simp only [hx, hy, if_true]; grind
theorem nm_row (h : Had n H) {y : Nat} (hy : y < n) : at2 (nmL n H) 0 y = 1 := by
  have h0 := h.pos
  rw [nmL, at2_sqF (by omega) hy, nmF]
  have h1 := (h.el 0 y h0 hy).sq
  have h2 := (h.el 0 0 h0 h0).sq
  grind
theorem nm_col (h : Had n H) {x : Nat} (hx : x < n) : at2 (nmL n H) x 0 = 1 := by
  have h0 := h.pos
  rw [nmL, at2_sqF hx (by omega), nmF]
  have h1 := (h.el x 0 hx h0).sq
  have h2 := (h.el 0 0 h0 h0).sq
  grind
end
/-! ### the design of a matrix -/
def ind (b : Bool) : Int := if b = true then 1 else 0
theorem cntD_sN (p : List Int → Bool) (f : Nat → List Int) : ∀ m : Nat, cntD p ((List.range m).map f) = sN m fun i => ind (p (f i))
  | 0 => rfl
  | m + 1 => by
    rw [List.range_succ, List.map_append]
    simp only [List.map_cons, List.map_nil]
    rw [cntD_snoc, cntD_sN p f m, sN]; rfl
theorem ind_pm {u : Int} (h : Pm u) : 2 * ind (u == 1) = 1 + u := by rcases h with rfl | rfl <;> rfl
theorem ind_pm2 {u v : Int} (hu : Pm u) (hv : Pm v) : 4 * ind ((u == 1) && (v == 1)) = 1 + u + v + u * v := by
  rcases hu with rfl | rfl <;> rcases hv with rfl | rfl <;> rfl
theorem sN_front (f : Nat → Int) (m : Nat) : sN (m + 1) f = f 0 + sN m fun k => f (k + 1) := by
  rw [Nat.add_comm, sN_add]
  simp only [sN, Int.zero_add]
  congr 1
  exact sN_congr fun k _ => by rw [Nat.add_comm]
theorem upF_lenN (f : Int → Bool) : ∀ k lo : Nat, ((upF f lo k).length : Int) = sN k fun i => ind (f ((lo + i : Nat) : Int))
  | 0, _ => rfl
  | k + 1, lo => by
    rw [sN_front, upF]
    have ih := upF_lenN f k (lo + 1)
    rw [sN_congr (f := fun i => ind (f ((lo + (i + 1) : Nat) : Int))) (g := fun i => ind (f ((lo + 1 + i : Nat) : Int))) (fun i _ => by rw [show lo + (i + 1) = lo + 1 + i by omega]), ← ih]
    simp only [Nat.add_zero]
    cases hf : f lo
    · simp [ind]
    · simp [ind]; omega
/-- the parameters of a balanced design -/
theorem prm_of {P K : Nat} {R L : Int} {A : List (List Int)} (hP : 2 ≤ P) (h0 : 0 < A.length) (hK : 2 ≤ K) (hl : ∀ b ∈ A, b.length = K) (hr : ∀ x, x < P → repF A x = R) (hp : ∀ x y, x < y → y < P → parF A x y = L) :
    prmB P A = true ∧ prmV P A = [(P : Int), (A.length : Int), R, (K : Int), L] := by
  have hx0 : (xat A 0).length = K := hl _ (xat_mem h0)
  have hpa : ∀ c ∈ parL P A, c = L := by
    intro c hc
    simp only [parL, List.mem_flatten, List.mem_map, List.mem_range] at hc
    obtain ⟨r, ⟨x, hx, rfl⟩, hc⟩ := hc
    simp only [parR, List.mem_map, List.mem_range] at hc
    obtain ⟨t, ht, rfl⟩ := hc
    exact hp x (x + 1 + t) (by omega) (by omega)
  have hne : 0 < (parL P A).length := by
    rw [List.length_pos_iff]
    intro e
    have hm : parF A 0 (0 + 1 + 0) ∈ parL P A := by
      simp only [parL, List.mem_flatten, List.mem_map, List.mem_range]
      exact ⟨_, ⟨0, by omega, rfl⟩, by simp only [parR, List.mem_map, List.mem_range]; exact ⟨0, by omega, rfl⟩⟩
    rw [e] at hm; cases hm
  have hn0 : nth (parL P A) 0 = L := hpa _ (nth_mem hne)
  have hb : prmB P A = true := by
    simp only [prmB, Bool.and_eq_true, decide_eq_true_eq, List.all_eq_true, beq_iff_eq]
    exact ⟨⟨⟨⟨hP, h0⟩, by omega⟩, fun b hb => by rw [hl b hb, hx0]⟩, fun c hc => by rw [hpa c hc, hn0]⟩
  refine ⟨hb, ?_⟩
  have hr0 : nth (repL P A) 0 = R := by
    rw [nth_eq (by simp [repL]; omega)]
    simp only [repL, List.getElem_map, List.getElem_range]
    exact hr 0 (by omega)
  rw [prmV, if_pos hb, hn0, hx0, hr0]
/-- a normal matrix -/
structure Nm (n : Nat) (N : List (List Int)) : Prop where
  had : Had n N
  row : ∀ y, y < n → at2 N 0 y = 1
  col : ∀ x, x < n → at2 N x 0 = 1
theorem nm_nm {n : Nat} {H : List (List Int)} (h : Had n H) : Nm n (nmL n H) := ⟨(nm_sg h).had h, fun _ hy => nm_row h hy, fun _ hx => nm_col h hx⟩
def hbl (n : Nat) (N : List (List Int)) (i : Nat) : List Int := upF (fun x => at2 N (i + 1) (x.toNat + 1) == 1) 0 (n - 1)
def hbA (n : Nat) (N : List (List Int)) : List (List Int) := (List.range (n - 1)).map (hbl n N)
section
variable {n : Nat} {N : List (List Int)}
theorem mem_hbl {i x : Nat} (hx : x < n - 1) : decide ((x : Int) ∈ hbl n N i) = (at2 N (i + 1) (x + 1) == 1) := by
  have := contains_upF (f := fun x => at2 N (i + 1) (x.toNat + 1) == 1) (k := n - 1) (lo := 0) (j := x) (by omega) (by omega)
  rw [Int.toNat_natCast] at this
  rw [← this, hbl]; simp
theorem Nm.rowsum (h : Nm n N) {i : Nat} (hi : i < n - 1) : sN (n - 1) (fun y => at2 N (i + 1) (y + 1)) = -1 := by
  have h0 := h.had.dot (i + 1) 0 (by omega) (by omega) (by omega)
  rw [sN_congr (g := fun y => at2 N (i + 1) y) (fun y hy => by rw [h.row y hy, Int.mul_one])] at h0
  obtain ⟨m, rfl⟩ : ∃ m, n = m + 1 := ⟨n - 1, by omega⟩
  rw [sN_front, h.col _ (by omega)] at h0
  rw [Nat.add_sub_cancel]; omega
theorem Nm.colsum (h : Nm n N) {y : Nat} (hy : y < n - 1) : sN (n - 1) (fun i => at2 N (i + 1) (y + 1)) = -1 := by
  have h0 := h.had.col (y := y + 1) (y' := 0) (by omega) (by omega)
  rw [if_neg (by omega), sN_congr (g := fun x => at2 N x (y + 1)) (fun x hx => by rw [h.col x hx, Int.mul_one])] at h0
  obtain ⟨m, rfl⟩ : ∃ m, n = m + 1 := ⟨n - 1, by omega⟩
  rw [sN_front, h.row _ (by omega)] at h0
  rw [Nat.add_sub_cancel]; omega
theorem Nm.colpair (h : Nm n N) {y z : Nat} (hy : y < n - 1) (hz : z < n - 1) (hne : y ≠ z) : sN (n - 1) (fun i => at2 N (i + 1) (y + 1) * at2 N (i + 1) (z + 1)) = -1 := by
  have h0 := h.had.col (y := y + 1) (y' := z + 1) (by omega) (by omega)
  rw [if_neg (by omega)] at h0
  obtain ⟨m, rfl⟩ : ∃ m, n = m + 1 := ⟨n - 1, by omega⟩
  rw [sN_front, h.row _ (by omega), h.row _ (by omega)] at h0
  rw [Nat.add_sub_cancel]; omega
theorem Nm.blen (h : Nm n N) {i : Nat} (hi : i < n - 1) : 2 * ((hbl n N i).length : Int) = n - 2 := by
  rw [hbl, upF_lenN, ← sN_mul, sN_congr (g := fun y => 1 + at2 N (i + 1) (y + 1)) (fun y hy => by
    rw [Nat.zero_add, Int.toNat_natCast]; exact ind_pm (h.had.el _ _ (by omega) (by omega))), sN_add2, h.rowsum hi, sN_const]
  omega
theorem Nm.rep (h : Nm n N) {x : Nat} (hx : x < n - 1) : 2 * repF (hbA n N) x = n - 2 := by
  rw [repF, hbA, cntD_sN, ← sN_mul, sN_congr (g := fun i => 1 + at2 N (i + 1) (x + 1)) (fun i hi => by
    rw [mem_hbl hx]; exact ind_pm (h.had.el _ _ (by omega) (by omega))), sN_add2, h.colsum hx, sN_const]
  omega
theorem Nm.par (h : Nm n N) {x y : Nat} (hx : x < n - 1) (hy : y < n - 1) (hne : x ≠ y) : 4 * parF (hbA n N) x y = n - 4 := by
  rw [parF, hbA, cntD_sN, ← sN_mul, sN_congr (g := fun i => (1 + at2 N (i + 1) (x + 1)) + (at2 N (i + 1) (y + 1) + at2 N (i + 1) (x + 1) * at2 N (i + 1) (y + 1))) (fun i hi => by
    rw [mem_hbl hx, mem_hbl hy, ind_pm2 (h.had.el _ _ (by omega) (by omega)) (h.had.el _ _ (by omega) (by omega))]; omega), sN_add2, sN_add2, sN_add2, h.colsum hx, h.colsum hy, h.colpair hx hy hne, sN_const]
  omega
theorem hbA_len : (hbA n N).length = n - 1 := by simp [hbA]
theorem mem_hbA {b : List Int} : b ∈ hbA n N ↔ ∃ i, i < n - 1 ∧ hbl n N i = b := by simp [hbA]
theorem hbl_inc (n : Nat) (N : List (List Int)) (i : Nat) : incB (-1) ((n - 1 : Nat) : Int) (hbl n N i) = true := incB_upF _ _ _ (by omega) (by omega)
/-- it is a design -/
theorem Nm.dok (h : Nm n N) (h4 : 4 ≤ n) : DOk ((n - 1 : Nat) : Int) (srtL (hbA n N)) := by
  have hn := h.had.le
  refine DOk.mk' (by omega) (by omega) (by rw [hbA_len]; omega) fun b hb => ?_
  obtain ⟨i, hi, rfl⟩ := mem_hbA.1 hb
  have := h.blen hi
  exact ⟨by omega, hbl_inc _ _ _⟩
theorem Nm.prm (h : Nm n N) (h4 : 4 < n) : prmB (n - 1) (srtL (hbA n N)) = true ∧ prmV (n - 1) (srtL (hbA n N)) = [(n : Int) - 1, (n : Int) - 1, (n : Int) / 2 - 1, (n : Int) / 2 - 1, (n : Int) / 4 - 1] := by
  have hb0 := h.blen (i := 0) (by omega)
  have hp0 := h.par (x := 0) (y := 1) (by omega) (by omega) (by omega)
  have hpb := (cntD_bd (fun b => decide (((0 : Nat) : Int) ∈ b) && decide (((1 : Nat) : Int) ∈ b)) (hbA n N)).1
  have hl : ∀ b ∈ srtL (hbA n N), b.length = (hbl n N 0).length := fun b hb => by
    obtain ⟨i, hi, rfl⟩ := mem_hbA.1 ((srtL_perm _).mem_iff.1 hb)
    have := h.blen hi; omega
  have hp := srtL_perm (hbA n N)
  have := prm_of (P := n - 1) (K := (hbl n N 0).length) (R := (n : Int) / 2 - 1) (L := (n : Int) / 4 - 1) (A := srtL (hbA n N)) (by omega) (by rw [srtL_len, hbA_len]; omega) (by omega) hl
    (fun x hx => by rw [repF, cntD_perm hp]; have := h.rep hx; unfold repF at this; omega)
    (fun x y hxy hy => by rw [parF, cntD_perm hp]; have := h.par (x := x) (y := y) (by omega) hy (by omega); unfold parF at this; omega)
  rw [srtL_len, hbA_len, show ((n - 1 : Nat) : Int) = (n : Int) - 1 by omega, show ((hbl n N 0).length : Int) = (n : Int) / 2 - 1 by omega] at this
  exact this
/-- and back -/
def bkF (A : List (List Int)) (x y : Nat) : Int := if x = 0 ∨ y = 0 ∨ ((y : Int) - 1) ∈ xat A (x - 1) then 1 else -1
theorem Nm.hinj (h : Nm n N) {i j : Nat} (hi : i < n - 1) (hj : j < n - 1) (e : hbl n N i = hbl n N j) : i = j := by
  apply Classical.byContradiction
  intro hne
  have h0 := h.had.dot (i + 1) (j + 1) (by omega) (by omega) (by omega)
  rw [sN_congr (g := fun y => at2 N (i + 1) y * at2 N (i + 1) y) (fun y hy => ?_), h.had.diag (by omega)] at h0
  · omega
  · congr 1
    cases y with
    | zero => rw [h.col _ (by omega), h.col _ (by omega)]
    | succ y =>
      have h1 := mem_hbl (n := n) (N := N) (i := i) (x := y) (by omega)
      have h2 := mem_hbl (n := n) (N := N) (i := j) (x := y) (by omega)
      rw [e, h2] at h1
      rcases h.had.el (i + 1) (y + 1) (by omega) (by omega) with e1 | e1 <;> rcases h.had.el (j + 1) (y + 1) (by omega) (by omega) with e2 | e2 <;> rw [e1, e2] at h1 ⊢ <;> simp at h1
theorem hbA_nodup (h : Nm n N) : (hbA n N).Nodup := by
  rw [hbA, List.Nodup, List.pairwise_map]
  refine List.Pairwise.imp_of_mem ?_ (List.nodup_range (n := n - 1))
  intro i j hi hj hne e
  exact hne (h.hinj (List.mem_range.1 hi) (List.mem_range.1 hj) e)
theorem Nm.back (h : Nm n N) : Had n (sqF n (bkF (srtL (hbA n N)))) := by
  have hpos := h.had.pos
  have hlen : (srtL (hbA n N)).length = n - 1 := by rw [srtL_len, hbA_len]
  have hnd : (srtL (hbA n N)).Nodup := (srtL_perm _).nodup_iff.2 (hbA_nodup h)
  have hrow : ∀ x, x < n → ∃ s, s < n ∧ (x = 0 → s = 0) ∧ (∀ k, x = k + 1 → ∃ i, i < n - 1 ∧ s = i + 1 ∧ xat (srtL (hbA n N)) k = hbl n N i) ∧ ∀ y, y < n → bkF (srtL (hbA n N)) x y = at2 N s y := by
    intro x hx
    cases x with
    | zero => exact ⟨0, hx, fun _ => rfl, fun k hk => by omega, fun y hy => by rw [bkF, if_pos (.inl rfl), h.row y hy]⟩
    | succ k =>
      obtain ⟨i, hi, e⟩ := mem_hbA.1 ((srtL_perm _).mem_iff.1 (xat_mem (xss := srtL (hbA n N)) (j := k) (by omega)))
      refine ⟨i + 1, by omega, fun h => by omega, fun k' hk' => ⟨i, hi, rfl, by rw [show k' = k by omega, e]⟩, fun y hy => ?_⟩
      cases y with
      | zero => rw [bkF, if_pos (.inr (.inl rfl)), h.col _ (by omega)]
      | succ y =>
        have h1 := mem_hbl (n := n) (N := N) (i := i) (x := y) (by omega)
        rw [bkF, Nat.add_sub_cancel, ← e, show ((y + 1 : Nat) : Int) - 1 = (y : Int) by omega]
        rcases h.had.el (i + 1) (y + 1) (by omega) (by omega) with e1 | e1
        · rw [e1] at h1 ⊢
          rw [if_pos (.inr (.inr (by simpa using h1)))]
        · rw [e1] at h1 ⊢
          rw [if_neg]
          rintro (h | h | h)
          · omega
          · omega
          · simp [h] at h1
  refine ⟨hpos, h.had.le, sqF_sqr _ _, fun x y hx hy => ?_, fun x x' hx hx' hne => ?_⟩
  · rw [at2_sqF hx hy]
    obtain ⟨s, hs, _, _, hr⟩ := hrow x hx
    rw [hr y hy]; exact h.had.el s y hs hy
  · obtain ⟨s, hs, a0, a1, hr⟩ := hrow x hx
    obtain ⟨s', hs', b0, b1, hr'⟩ := hrow x' hx'
    rw [sN_congr (g := fun y => at2 N s y * at2 N s' y) (fun y hy => by rw [at2_sqF hx hy, at2_sqF hx' hy, hr y hy, hr' y hy])]
    refine h.had.dot s s' hs hs' fun e => hne ?_
    cases x with
    | zero =>
      cases x' with
      | zero => rfl
      | succ k' => obtain ⟨i', _, e2, _⟩ := b1 k' rfl; have := a0 rfl; omega
    | succ k =>
      obtain ⟨i, hi, e1, g1⟩ := a1 k rfl
      cases x' with
      | zero => have := b0 rfl; omega
      | succ k' =>
        obtain ⟨i', hi', e2, g2⟩ := b1 k' rfl
        have hii : i = i' := by omega
        rw [hii, ← g2, xat_eq (by omega), xat_eq (by omega)] at g1
        have hp := List.pairwise_iff_getElem.1 hnd
        rcases Nat.lt_trichotomy k k' with h | h | h
        · exact absurd g1 (hp k k' (by omega) (by omega) h)
        · omega
        · exact absurd g1.symm (hp k' k (by omega) (by omega) h)
end
end Go.Proofs.YtnodcfhdfpeokaaGreat
end

section
/- Walks: Hadamard matrices turned, negated, normal, summed, of the program. -/
namespace Go.Proofs.YtnodcfhdfpeokaaGreat
set_option linter.unusedSimpArgs false
set_option linter.unusedVariables false
open Go.RowKit
attribute [local go_sem ↓] Go.wp_at_zero Go.wp_at_succ

/-- an entry of a matrix, read -/
theorem hEnt {w : World} {v : Value} {us : List Value} {H : List (List Int)} {n : Nat} (hv : RII w v us H) (hH : Had n H) {x y : Nat} (hx : x < n) (hy : y < n) :
    w.cell? (el v x) = some (vat us x) ∧ w.cell? (el (vat us x) y) = some (.int .i64 (at2 H x y)) :=
  ⟨hv.cell x (by rw [hH.sqr.len]; exact hx), (hv.row x (by rw [hH.sqr.len]; exact hx)).cell y (by rw [hH.sqr.row x hx]; exact hy)⟩
set_option maxHeartbeats 4000000 in
set_option maxRecDepth 100000 in
theorem tr1_c (x y g : Nat) (v : Value) (us : List Value) (H : List (List Int)) (n : Nat) (w : World) (hg : w.cell? ⟨g, 0, none⟩ = some v) (hv : RII w v us H) (hH : Had n H) (hx : x < n) (hy : y < n) :
    Calls Tryz.prog 22 #[.int .i64 x, .int .i64 y, .pointer (some ⟨g, 0, none⟩)] w (GivesI w (at2 H y x)) := by
  have hS := St.refl w
  have i1 := hv.ixe (y : Int) y rfl (by rw [hH.sqr.len]; exact hy)
  have i2 := (hv.row y (by rw [hH.sqr.len]; exact hy)).ixe (x : Int) x rfl (by rw [hH.sqr.row y hy]; exact hx)
  obtain ⟨c1, c2⟩ := hEnt hv hH hy hx
  generalize at2 H y x = a at *
  go_enter Tryz.func22, Tryz.ntmps22
  go_wp2_with fail
  go_ret
  exact ⟨rfl, hS⟩
set_option maxHeartbeats 4000000 in
set_option maxRecDepth 100000 in
theorem nh1_c (x y g : Nat) (v : Value) (us : List Value) (H : List (List Int)) (n : Nat) (w : World) (hg : w.cell? ⟨g, 0, none⟩ = some v) (hv : RII w v us H) (hH : Had n H) (hx : x < n) (hy : y < n) :
    Calls Tryz.prog 45 #[.int .i64 x, .int .i64 y, .pointer (some ⟨g, 0, none⟩)] w (GivesI w (nmF H x y)) := by
  have hS := St.refl w
  have h0 : 0 < n := by omega
  have i1 := hv.ixe (x : Int) x rfl (by rw [hH.sqr.len]; exact hx)
  have i2 := (hv.row x (by rw [hH.sqr.len]; exact hx)).ixe (y : Int) y rfl (by rw [hH.sqr.row x hx]; exact hy)
  have i3 := (hv.row x (by rw [hH.sqr.len]; exact hx)).ixe (0 : Int) 0 rfl (by rw [hH.sqr.row x hx]; exact h0)
  have j1 := hv.ixe (0 : Int) 0 rfl (by rw [hH.sqr.len]; exact h0)
  have j2 := (hv.row 0 (by rw [hH.sqr.len]; exact h0)).ixe (y : Int) y rfl (by rw [hH.sqr.row 0 h0]; exact hy)
  have j3 := (hv.row 0 (by rw [hH.sqr.len]; exact h0)).ixe (0 : Int) 0 rfl (by rw [hH.sqr.row 0 h0]; exact h0)
  have c0 := fun s : SS w.heap.size w [] => (show s.w.cell? ⟨g, 0, none⟩ = some v from by rw [s.st.below.cell (World.block_lt_of_cell? _ _ hg)]; exact hg)
  have c1 := fun s : SS w.heap.size w [] => (hEnt (s.st.oldII hv) hH hx hy).1
  have c2 := fun s : SS w.heap.size w [] => (hEnt (s.st.oldII hv) hH hx hy).2
  have c3 := fun s : SS w.heap.size w [] => (hEnt (s.st.oldII hv) hH hx h0).2
  have d1 := fun s : SS w.heap.size w [] => (hEnt (s.st.oldII hv) hH h0 hy).1
  have d2 := fun s : SS w.heap.size w [] => (hEnt (s.st.oldII hv) hH h0 hy).2
  have d3 := fun s : SS w.heap.size w [] => (hEnt (s.st.oldII hv) hH h0 h0).2
  have p1 := (hH.el x y hx hy).mul (hH.el 0 y h0 hy)
  have p2 := p1.mul (hH.el x 0 hx h0)
  have p3 := (p2.mul (hH.el 0 0 h0 h0)).bd
  have q1 : IntKind.i64.wrap (at2 H x y * at2 H 0 y) = at2 H x y * at2 H 0 y := IntWalk.i64_in _ (by have := p1.bd; omega)
  have q2 : IntKind.i64.wrap (at2 H x y * at2 H 0 y * at2 H x 0) = at2 H x y * at2 H 0 y * at2 H x 0 := IntWalk.i64_in _ (by have := p2.bd; omega)
  have q3 : IntKind.i64.wrap (at2 H x y * at2 H 0 y * at2 H x 0 * at2 H 0 0) = at2 H x y * at2 H 0 y * at2 H x 0 * at2 H 0 0 := IntWalk.i64_in _ (by omega)
  unfold nmF
  clear p1 p2 p3 hg
  generalize at2 H x y = a at *
  generalize at2 H 0 y = b at *
  generalize at2 H x 0 = c at *
  generalize at2 H 0 0 = d at *
  clear hH
  go_enter Tryz.func45, Tryz.ntmps45
  go_wp2_with fail
  have hne : Nonempty (SS _ _ _) := ⟨⟨_, hS⟩⟩
  refine wp_region_st (by kernel_rfl) (by kernel_rfl) hS ?_
  repeat (go_big_quiet_step (fail))
  refine wpQuiet_nil ?_
  rintro _ ⟨s2, rfl⟩
  have hS2 := s2.st
  generalize s2.w = w2 at hS2 ⊢
  go_wp2_with fail
  go_ret
  exact ⟨by first | rfl | (rw [q1, q2, q3]) | skip, hS2⟩
set_option maxHeartbeats 4000000 in
set_option maxRecDepth 100000 in
theorem ng1_c (x y g gl gr line : Nat) (row : Bool) (v : Value) (us : List Value) (H : List (List Int)) (n : Nat) (w : World) (hr : w.cell? ⟨gr, 0, none⟩ = some (.bool row)) (hl : w.cell? ⟨gl, 0, none⟩ = some (.int .i64 line)) (hg : w.cell? ⟨g, 0, none⟩ = some v) (hv : RII w v us H) (hH : Had n H) (hx : x < n) (hy : y < n) :
    Calls Tryz.prog 24 #[.int .i64 x, .int .i64 y, .pointer (some ⟨gr, 0, none⟩), .pointer (some ⟨gl, 0, none⟩), .pointer (some ⟨g, 0, none⟩)] w (GivesI w (ngF H line row n x y)) := by
  have hS := St.refl w
  have i1 := hv.ixe (x : Int) x rfl (by rw [hH.sqr.len]; exact hx)
  have i2 := (hv.row x (by rw [hH.sqr.len]; exact hx)).ixe (y : Int) y rfl (by rw [hH.sqr.row x hx]; exact hy)
  obtain ⟨c1, c2⟩ := hEnt hv hH hx hy
  have hb := (hH.el x y hx hy).bd
  unfold ngF
  generalize at2 H x y = a at *
  clear hH
  cases row
  · by_cases e : y = line
    · rw [if_pos (.inr ⟨rfl, e, hx⟩)]
      have f := eq_t (show (y : Int) = line by omega)
      clear e
      go_enter Tryz.func24, Tryz.ntmps24
      go_wp2_with fail
      go_ret
      exact ⟨rfl, hS⟩
    · rw [if_neg (by simp [e])]
      have f : ((y : Int) == (line : Int)) = false := by rw [beq_eq_false_iff_ne]; omega
      clear e
      go_enter Tryz.func24, Tryz.ntmps24
      go_wp2_with fail
      go_ret
      exact ⟨rfl, hS⟩
  · by_cases e : x = line
    · rw [if_pos (.inl ⟨rfl, e, hy⟩)]
      have f := eq_t (show (x : Int) = line by omega)
      clear e
      go_enter Tryz.func24, Tryz.ntmps24
      go_wp2_with fail
      go_ret
      exact ⟨rfl, hS⟩
    · rw [if_neg (by simp [e])]
      have f : ((x : Int) == (line : Int)) = false := by rw [beq_eq_false_iff_ne]; omega
      clear e
      go_enter Tryz.func24, Tryz.ntmps24
      go_wp2_with fail
      go_ret
      exact ⟨rfl, hS⟩
set_option maxHeartbeats 4000000 in
set_option maxRecDepth 100000 in
theorem TransposeHadamard_c (v : Value) (us : List Value) (H : List (List Int)) (n : Nat) (w : World) (hv : RII w v us H) (hH : Had n H) :
    Calls Tryz.prog 6 #[v] w (IIOk w (sqF n fun x y => at2 H y x)) := by
  obtain ⟨sa, ca, rfl⟩ := hv.1.sl.sh
  have hS1 := (St.refl w).newboxF 24 #[.slice sa us.length ca]
  have hcf := callFunc_go Tryz.func22 (by kernel_rfl) (by kernel_rfl)
  have hmf : ∀ (fn : Fn) (first cap : Array Value) (w : World), (Instr.makeFunc fn first cap).run Tryz.prog w = .ok (.func fn first cap) w := fun _ _ _ _ => rfl
  have HV := Lib.hid (ValidHadamard_c _ us H n _ (hS1.oldII hv) hH)
  have b0 := hS1.bcell 0 rfl 0 rfl
  have Hh := Lib.hid hH
  clear hH
  go_enter Tryz.func6, Tryz.ntmps6
  go_wp2_with fail
  refine HV.out.mono ?_
  clear HV b0
  rintro e w1 ⟨rfl, h1⟩
  have hS1 := hS1.call h1
  clear h1
  have b0 := hS1.bcell 0 rfl 0 rfl
  have HZ := Lib.hid (szII_c _ us H _ (hS1.oldII hv))
  rw [Hh.out.sqr.len] at HZ
  have hcall := Lib.hid (filledSquare_c 22 #[.pointer (some ⟨w.heap.size, 0, none⟩)] (fun x y => at2 H y x) n w1 (by have := Hh.out.le; omega) hcf (fun x y W hW hx hy =>
    tr1_c x y w.heap.size _ us H n W
      (by rw [hW.below.cell (World.block_lt_of_cell? _ _ (hS1.bcell 0 rfl 0 rfl))]; exact hS1.bcell 0 rfl 0 rfl)
      ((hS1.oldII hv).keep hW.below) Hh.out hx hy))
  clear hcf
  go_wp2_with fail
  refine HZ.out.mono ?_
  clear HZ
  rintro e w1 ⟨rfl, rfl⟩
  go_wp2_with fail
  refine hcall.out.mono ?_
  clear hcall b0
  rintro e w2 ⟨o, uo, rfl, hl, h2⟩
  have hS3 := hS1.call h2
  have Hl := Lib.hid hl
  clear hl h2
  go_wp2_with fail
  go_ret2
  exact ⟨o, uo, rfl, Hl.out, hS3.sub (List.sublist_append_right _ _)⟩
set_option maxHeartbeats 4000000 in
set_option maxRecDepth 100000 in
theorem normalHadamard_c (v : Value) (us : List Value) (H : List (List Int)) (n : Nat) (w : World) (hv : RII w v us H) (hH : Had n H) :
    Calls Tryz.prog 25 #[v] w (MakesII w (nmL n H)) := by
  obtain ⟨sa, ca, rfl⟩ := hv.1.sl.sh
  have hS1 := (St.refl w).newboxF 24 #[.slice sa us.length ca]
  have hcf := callFunc_go Tryz.func45 (by kernel_rfl) (by kernel_rfl)
  have hmf : ∀ (fn : Fn) (first cap : Array Value) (w : World), (Instr.makeFunc fn first cap).run Tryz.prog w = .ok (.func fn first cap) w := fun _ _ _ _ => rfl
  have b0 := hS1.bcell 0 rfl 0 rfl
  have Hh := Lib.hid hH
  clear hH
  have HZ := Lib.hid (szII_c _ us H _ (hS1.oldII hv))
  rw [Hh.out.sqr.len] at HZ
  have hcall := Lib.hid (filledSquare_c 45 #[.pointer (some ⟨w.heap.size, 0, none⟩)] (nmF H) n _ (by have := Hh.out.le; omega) hcf (fun x y W hW hx hy =>
    nh1_c x y w.heap.size _ us H n W
      (by rw [hW.below.cell (World.block_lt_of_cell? _ _ (hS1.bcell 0 rfl 0 rfl))]; exact hS1.bcell 0 rfl 0 rfl)
      ((hS1.oldII hv).keep hW.below) Hh.out hx hy))
  clear hcf
  go_enter Tryz.func25, Tryz.ntmps25
  go_wp2_with fail
  refine HZ.out.mono ?_
  clear HZ
  rintro e w1 ⟨rfl, rfl⟩
  go_wp2_with fail
  refine hcall.out.mono ?_
  clear hcall b0
  rintro e w2 ⟨o, uo, rfl, hl, h2⟩
  have hS3 := hS1.call h2
  have Hl := Lib.hid hl
  clear hl h2
  go_wp2_with fail
  go_ret
  exact ⟨o, uo, rfl, Hl.out, hS3.sub (List.sublist_append_right _ _)⟩
set_option maxHeartbeats 4000000 in
theorem NormalHadamard_c (v : Value) (us : List Value) (H : List (List Int)) (n : Nat) (w : World) (hv : RII w v us H) (hH : Had n H) :
    Calls Tryz.prog 9 #[v] w (IIOk w (nmL n H)) := by
  have HV := Lib.hid (ValidHadamard_c v us H n w hv hH)
  have HN := fun W h => Lib.hid (normalHadamard_c v us H n W h hH)
  clear hH
  go_enter Tryz.func9, Tryz.ntmps9
  go_wp2_with fail
  refine HV.out.mono ?_
  clear HV
  rintro e w1 ⟨rfl, h1⟩
  go_wp2_with fail
  refine (HN _ (h1.oldII hv)).out.mono ?_
  rintro e w2 ⟨o, uo, rfl, hl, h2⟩
  go_wp2_with fail
  go_ret2
  exact ⟨o, uo, rfl, hl, h1.trans h2⟩
set_option maxHeartbeats 4000000 in
theorem sValidHadamard_c (v : Value) (us : List Value) (H : List (List Int)) (n : Nat) (w : World) (hv : RII w v us H) (hH : Had n H) :
    Calls Tryz.prog 11 #[v] w (GivesB w true) := by
  have HV := Lib.hid (l15Ok_c v us H n w hv hH)
  clear hH
  go_enter Tryz.func11, Tryz.ntmps11
  go_wp2_with fail
  refine HV.out.mono ?_
  rintro e w1 ⟨rfl, h1⟩
  go_wp2_with fail
  go_ret
  exact ⟨rfl, h1⟩
end Go.Proofs.YtnodcfhdfpeokaaGreat
end

section
/- Walks: products of Hadamard matrices, negated lines, excess, of the program. -/
namespace Go.Proofs.YtnodcfhdfpeokaaGreat
set_option linter.unusedSimpArgs false
set_option linter.unusedVariables false
open Go.RowKit
attribute [local go_sem ↓] Go.wp_at_zero Go.wp_at_succ

set_option maxHeartbeats 4000000 in
set_option maxRecDepth 100000 in
theorem ph1_c (x y : Nat) (gm ga gb : Nat) (v v' : Value) (us us' : List Value) (n m : Nat) (A B : List (List Int)) (w : World) (hm : w.cell? ⟨gm, 0, none⟩ = some (.int .i64 m)) (ha : w.cell? ⟨ga, 0, none⟩ = some v) (hb : w.cell? ⟨gb, 0, none⟩ = some v')
    (hv : RII w v us A) (hv' : RII w v' us' B) (hA : Had n A) (hB : Had m B) (hx : x < n * m) (hy : y < n * m) :
    Calls Tryz.prog 48 #[.int .i64 x, .int .i64 y, .pointer (some ⟨ga, 0, none⟩), .pointer (some ⟨gm, 0, none⟩), .pointer (some ⟨gb, 0, none⟩)] w (GivesI w (prF m A B x y)) := by
  have n0 := hA.pos
  have n1 := hA.le
  have m0 := hB.pos
  have m1 := hB.le
  have hd : ∀ r, r < n * m → r / m < n ∧ r % m < m := fun r hr => ⟨Nat.div_lt_of_lt_mul (by rw [Nat.mul_comm]; exact hr), Nat.mod_lt _ m0⟩
  have dx := hd x hx
  have dy := hd y hy
  have hNle : n * m ≤ 1024 := Nat.mul_le_mul n1 m1
  have f0 : ((m : Int) == 0) = false := eq_f (by omega)
  have f1 : ¬ (m : Int) = 0 := by omega
  have f2 : ¬ m = 0 := by omega
  have q1 : (x : Int).tdiv m = ((x / m : Nat) : Int) := by rw [Int.tdiv_eq_ediv_of_nonneg (by omega)]; rfl
  have q2 : (y : Int).tdiv m = ((y / m : Nat) : Int) := by rw [Int.tdiv_eq_ediv_of_nonneg (by omega)]; rfl
  have q3 : (x : Int).tmod m = ((x % m : Nat) : Int) := by rw [Int.tmod_eq_emod_of_nonneg (by omega)]; rfl
  have q4 : (y : Int).tmod m = ((y % m : Nat) : Int) := by rw [Int.tmod_eq_emod_of_nonneg (by omega)]; rfl
  unfold prF
  generalize x / m = k1 at *
  generalize y / m = y1 at *
  generalize x % m = k2 at *
  generalize y % m = y2 at *
  have q5 : IntKind.i64.wrap (k1 : Int) = (k1 : Int) := IntWalk.i64_in _ (by omega)
  have q6 : IntKind.i64.wrap (y1 : Int) = (y1 : Int) := IntWalk.i64_in _ (by omega)
  have lA : k1 < A.length := by rw [hA.sqr.len]; exact dx.1
  have lB : k2 < B.length := by rw [hB.sqr.len]; exact dx.2
  have i1 := hv.ixe (k1 : Int) k1 rfl lA
  have i2 := hv'.ixe (k2 : Int) k2 rfl lB
  have i3 := (hv.row k1 lA).ixe (y1 : Int) y1 rfl (by rw [hA.sqr.row k1 dx.1]; exact dy.1)
  have i4 := (hv'.row k2 lB).ixe (y2 : Int) y2 rfl (by rw [hB.sqr.row k2 dx.2]; exact dy.2)
  obtain ⟨c1, c3⟩ := hEnt hv hA dx.1 dy.1
  obtain ⟨c2, c4⟩ := hEnt hv' hB dx.2 dy.2
  have hp := ((hA.el k1 y1 dx.1 dy.1).mul (hB.el k2 y2 dx.2 dy.2)).bd
  have q7 : IntKind.i64.wrap (at2 A k1 y1 * at2 B k2 y2) = at2 A k1 y1 * at2 B k2 y2 := IntWalk.i64_in _ (by omega)
  generalize at2 A k1 y1 = a at *
  generalize at2 B k2 y2 = b at *
  clear hA hB hv hv' dx dy lA lB hx hy hd
  go_enter Tryz.func48, Tryz.ntmps48
  go_wp2_with fail
  go_region_held3 (fun w' => w'.cell? ⟨gm, 0, none⟩ = some (.int .i64 m) ∧ w'.cell? ⟨ga, 0, none⟩ = some v ∧ w'.cell? ⟨gb, 0, none⟩ = some v' ∧ w'.cell? (el v k1) = some (vat us k1) ∧ w'.cell? (el v' k2) = some (vat us' k2) ∧ w'.cell? (el (vat us k1) y1) = some (.int .i64 a) ∧ w'.cell? (el (vat us' k2) y2) = some (.int .i64 b)) (((try dsimp only); (repeat' apply And.intro); all_goals (repeat (first | assumption | exact cell_dr (by assumption) | refine cell_dr ?_ | refine cell_al ?_ | refine cell_sc (by assumption) ?_)))) (fail)
  go_wp2_with fail
  go_ret
  exact ⟨rfl, (St.refl w).drew⟩
set_option maxHeartbeats 4000000 in
set_option maxRecDepth 100000 in
theorem productHadamard_c (v v' : Value) (us us' : List Value) (n m : Nat) (A B : List (List Int)) (w : World) (hv : RII w v us A) (hv' : RII w v' us' B) (hA : Had n A) (hB : Had m B) :
    Calls Tryz.prog 30 #[v, v'] w (MakesII w (prH n m A B)) := by
  have n1 := hA.le
  have m1 := hB.le
  have hNle : n * m ≤ 1024 := Nat.mul_le_mul n1 m1
  obtain ⟨sa, ca, rfl⟩ := hv.1.sl.sh
  obtain ⟨sb, cb, rfl⟩ := hv'.1.sl.sh
  have hS1 := ((St.refl w).newboxF 24 #[.slice sa us.length ca]).newboxF 24 #[.slice sb us'.length cb]
  have hS2 := hS1.newboxF 2 #[.int .i64 m]
  simp only [World.size_alloc] at hS1 hS2
  have hcf := callFunc_go Tryz.func48 (by kernel_rfl) (by kernel_rfl)
  have hmf : ∀ (fn : Fn) (first cap : Array Value) (w : World), (Instr.makeFunc fn first cap).run Tryz.prog w = .ok (.func fn first cap) w := fun _ _ _ _ => rfl
  have HZ := Lib.hid (szII_c _ us' B _ (hS1.oldII hv'))
  rw [hB.sqr.len] at HZ
  have HZ2 := fun W a => Lib.hid (szII_c (.slice sa us.length ca) us A W a)
  rw [hA.sqr.len] at HZ2
  obtain ⟨N, hN⟩ : ∃ N, N = n * m := ⟨_, rfl⟩
  have hmul : (n : Int) * (m : Int) = (N : Int) := by rw [hN]; rfl
  have hw : IntKind.i64.wrap (N : Int) = (N : Int) := IntWalk.i64_in _ (by omega)
  have hcall := fun W (c0 : W.cell? ⟨w.heap.size + 1 + 1, 0, none⟩ = some (.int .i64 m)) (c1 : W.cell? ⟨w.heap.size, 0, none⟩ = some (.slice sa us.length ca)) (c2 : W.cell? ⟨w.heap.size + 1, 0, none⟩ = some (.slice sb us'.length cb)) (rA : RII W (.slice sa us.length ca) us A) (rB : RII W (.slice sb us'.length cb) us' B) => Lib.hid (filledSquare_c 48 #[.pointer (some ⟨w.heap.size, 0, none⟩), .pointer (some ⟨w.heap.size + 1 + 1, 0, none⟩), .pointer (some ⟨w.heap.size + 1, 0, none⟩)] (prF m A B) N W (by omega) hcf (fun x y W' hW' hx hy =>
    ph1_c x y (w.heap.size + 1 + 1) w.heap.size (w.heap.size + 1) _ _ us us' n m A B W'
      (by rw [hW'.below.cell (World.block_lt_of_cell? _ _ c0)]; exact c0) (by rw [hW'.below.cell (World.block_lt_of_cell? _ _ c1)]; exact c1) (by rw [hW'.below.cell (World.block_lt_of_cell? _ _ c2)]; exact c2)
      (rA.keep hW'.below) (rB.keep hW'.below) hA hB (by rw [← hN]; exact hx) (by rw [← hN]; exact hy)))
  have HD := Lib.hid (show prH n m A B = sqF N (prF m A B) by rw [hN]; rfl)
  have hv2 := hS2.oldII hv
  have hv2' := hS2.oldII hv'
  have b0 := hS2.bcell 0 rfl 0 rfl
  have b1 := hS2.bcell 1 rfl 0 rfl
  have b2 := hS2.bcell 2 rfl 0 rfl
  clear hcf hA hB hN
  go_enter Tryz.func30, Tryz.ntmps30
  go_wp2_with fail
  refine HZ.out.mono ?_
  rintro e w1 ⟨rfl, rfl⟩
  go_wp2_with fail
  go_region_held3 (fun w' => w'.cell? ⟨w.heap.size + 1 + 1, 0, none⟩ = some (.int .i64 m) ∧ w'.cell? ⟨w.heap.size, 0, none⟩ = some (.slice sa us.length ca)) (((try dsimp only); (repeat' apply And.intro); all_goals (repeat (first | assumption | exact cell_dr (by assumption) | refine cell_dr ?_ | refine cell_al ?_ | refine cell_sc (by assumption) ?_))))
    (first
    | (go_at_call 20; refine (hcall _ (cell_dr b0) (cell_dr b2) (cell_dr b1) (hv2.keep (St.refl _).drew.below) (hv2'.keep (St.refl _).drew.below)).out.mono ?_; rintro e w3 ⟨o, uo, rfl, hl, h3⟩; have hS3 := hS2.drew.call h3; have Hl := Lib.hid hl; have k0 := hS3.bcell 0 rfl 0 rfl; have k2 := hS3.bcell 2 rfl 0 rfl; clear hl)
    | (go_at_call 21; refine (HZ2 _ (hv2.keep (St.refl _).drew.below)).out.mono ?_; rintro e w2 ⟨rfl, rfl⟩))
  all_goals
    go_wp2_with fail
    go_ret
    rw [HD.out]
    exact ⟨o, uo, rfl, Hl.out, hS3.sub (List.sublist_append_right _ _)⟩
set_option maxHeartbeats 4000000 in
set_option maxRecDepth 100000 in
theorem SylvesterMatrix_c (k : Nat) (w : World) (hk : k ≤ 5) : Calls Tryz.prog 13 #[.int .i64 k] w (IIOk w (sylL k)) := by
  have HP := fun v v' us us' B m W h1 h2 h3 => Lib.hid (productHadamard_c v v' us us' 2 m syl2 B W h1 h2 syl2_had h3)
  have HS := fun W => Lib.hid (syl2_rii W)
  have h1 := (St.refl w).new 2 #[.int .i64 1] (by simp [maxLen])
  have h2 := ((h1.new 31 #[.slice (some ⟨w.heap.size, 0, none⟩) 1 1] (by simp [maxLen])).perm List.perm_append_comm)
  rw [size_al] at h2
  clear h1
  have hin : inB (k : Int) 0 5 = true := by simp [inB]; omega
  go_enter Tryz.func13, Tryz.ntmps13
  go_wp2_with fail
  refine (within_c _ _ _ _).mono ?_
  rw [hin]
  rintro e w2 ⟨rfl, rfl⟩
  go_wp2_with fail
  go_loopw [0, 4] (fun i o wr => ∃ (j : Nat) (ws : List Value), j ≤ k ∧ i = .int .i64 ((k - j : Nat) : Int) ∧ Hid (ws.length = (sylL j).length) ∧ St w.heap.size w wr (own2 o ws (sylL j))) (fun i _ _ => (intOf i).toNat)
  case atStart => exact ⟨0, [_], by omega, rfl, Lib.hid rfl, h2⟩
  case round =>
    clear h2
    obtain ⟨j, ws, hj, rfl, hw, hS⟩ := hrel
    have hr := Lib.hid (hS.rii hw.out)
    by_cases hlt : j < k
    · have hlt' : 0 < k - j := by omega
      obtain ⟨us, H⟩ := (HS wr).out
      have H := Lib.hid H
      have Ha := Lib.hid (hr.out.keep H.out.2.below)
      have Hh := Lib.hid (sylL_had (k := j) (by omega))
      go_wp2_with fail
      refine (HP _ _ _ _ _ _ _ H.out.1 Ha.out Hh.out).out.mono ?_
      rintro e w2 ⟨o, wo, rfl, hl, h3⟩
      have hS3 := (hS.call H.out.2).trans h3
      go_wp2_with fail
      go_roundw
      case rel => exact ⟨j + 1, wo, by omega, by rw [show k - (j + 1) = k - j - 1 by omega]; go_num, Lib.hid hl, hS3⟩
      case measure => simp [intOf]; omega
    · obtain rfl : j = k := by omega
      have e0 : j - j = 0 := by omega
      rw [e0]
      go_wp2_with fail
      go_ret2
      exact ⟨_, ws, rfl, hw.out, hS⟩
/-- the product, or too large -/
def PrOk (w : World) (n m : Nat) (A B : List (List Int)) (e : Ending) (w' : World) : Prop := (n * m ≤ 32 ∧ IIOk w (prH n m A B) e w') ∨ (32 < n * m ∧ e = .returned (.tuple #[.slice none 0 0, .int .i64 5]) ∧ St w.heap.size w w' [])
set_option maxHeartbeats 4000000 in
set_option maxRecDepth 100000 in
theorem ProductHadamard_c (v v' : Value) (us us' : List Value) (n m : Nat) (A B : List (List Int)) (w : World) (hv : RII w v us A) (hv' : RII w v' us' B) (hA : Had n A) (hB : Had m B) :
    Calls Tryz.prog 14 #[v, v'] w (PrOk w n m A B) := by
  have hNle : n * m ≤ 1024 := Nat.mul_le_mul hA.le hB.le
  have V1 := Lib.hid (ValidHadamard_c v us A n w hv hA)
  have V2 := fun W h => Lib.hid (ValidHadamard_c v' us' B m W h hB)
  have HP := fun W h h' => Lib.hid (productHadamard_c v v' us us' n m A B W h h' hA hB)
  have HZ := fun W h => Lib.hid (szII_c v us A W h)
  have HZ2 := fun W h => Lib.hid (szII_c v' us' B W h)
  rw [hA.sqr.len] at HZ
  rw [hB.sqr.len] at HZ2
  obtain ⟨N, hN⟩ : ∃ N, N = n * m := ⟨_, rfl⟩
  have hmul : (n : Int) * (m : Int) = (N : Int) := by rw [hN]; rfl
  have hw : IntKind.i64.wrap (N : Int) = (N : Int) := IntWalk.i64_in _ (by omega)
  have HN := Lib.hid hN
  rw [← hN] at hNle
  clear hN hA hB
  go_enter Tryz.func14, Tryz.ntmps14
  go_wp2_with fail
  refine V1.out.mono ?_
  clear V1
  rintro e w1 ⟨rfl, h1⟩
  go_wp2_with fail
  refine (V2 _ (h1.oldII hv')).out.mono ?_
  clear V2
  rintro e w2 ⟨rfl, h2⟩
  have h1 := h1.call0 h2
  clear h2
  go_wp2_with fail
  refine (HZ _ (h1.oldII hv)).out.mono ?_
  clear HZ
  rintro e w3 ⟨rfl, rfl⟩
  go_wp2_with fail
  refine (HZ2 _ (h1.oldII hv')).out.mono ?_
  clear HZ2
  rintro e w3 ⟨rfl, rfl⟩
  by_cases hl : N ≤ 32
  · go_wp2_with fail
    refine (HP _ (h1.oldII hv) (h1.oldII hv')).out.mono ?_
    clear HP
    rintro e w3 ⟨o, uo, rfl, ho, h3⟩
    go_wp2_with fail
    go_ret2
    exact .inl ⟨by rw [← HN.out]; exact hl, o, uo, rfl, ho, h1.trans h3⟩
  · go_wp2_with fail
    go_ret2
    exact .inr ⟨by rw [← HN.out]; omega, rfl, h1⟩
end Go.Proofs.YtnodcfhdfpeokaaGreat
end

section
/- Walks: negated lines and excess of Hadamard matrices, of the program. -/
namespace Go.Proofs.YtnodcfhdfpeokaaGreat
set_option linter.unusedSimpArgs false
set_option linter.unusedVariables false
open Go.RowKit
attribute [local go_sem ↓] Go.wp_at_zero Go.wp_at_succ

set_option maxHeartbeats 4000000 in
set_option maxRecDepth 100000 in
theorem NegateLine_c (v : Value) (us : List Value) (H : List (List Int)) (n line : Nat) (row : Bool) (w : World) (hv : RII w v us H) (hH : Had n H) (hline : line < n) :
    Calls Tryz.prog 7 #[v, .int .i64 line, .bool row] w (IIOk w (ngL n H line row)) := by
  obtain ⟨sa, ca, rfl⟩ := hv.1.sl.sh
  have hS1 := ((St.refl w).newboxF 24 #[.slice sa us.length ca]).newboxF 2 #[.int .i64 line]
  have hS2 := hS1.newboxF 4 #[.bool row]
  simp only [World.size_alloc] at hS1 hS2
  clear hS1
  have hcf := callFunc_go Tryz.func24 (by kernel_rfl) (by kernel_rfl)
  have hmf : ∀ (fn : Fn) (first cap : Array Value) (w : World), (Instr.makeFunc fn first cap).run Tryz.prog w = .ok (.func fn first cap) w := fun _ _ _ _ => rfl
  have HV := Lib.hid (ValidHadamard_c _ us H n _ (hS2.oldII hv) hH)
  have b2 := hS2.bcell 2 rfl 0 rfl
  have hin : inB (line : Int) 0 ((n : Int) - 1) = true := by simp [inB]; omega
  have n2 := hH.le
  have n1 := hH.pos
  have hw1 : IntKind.i64.wrap ((n : Int) - 1) = (n : Int) - 1 := IntWalk.i64_in _ (by omega)
  have Hh := Lib.hid hH
  clear hH
  go_enter Tryz.func7, Tryz.ntmps7
  go_wp2_with fail
  refine HV.out.mono ?_
  clear HV b2
  rintro e w1 ⟨rfl, h1⟩
  have hS2 := hS2.call h1
  clear h1
  have b0 := hS2.bcell 0 rfl 0 rfl
  have b1 := hS2.bcell 1 rfl 0 rfl
  have b2 := hS2.bcell 2 rfl 0 rfl
  have HZ := fun W h => Lib.hid (szII_c (.slice sa us.length ca) us H W h)
  rw [Hh.out.sqr.len] at HZ
  have hv2 := hS2.oldII hv
  have hcall := fun W (c0 : W.cell? ⟨w.heap.size + 1 + 1, 0, none⟩ = some (.bool row)) (c1 : W.cell? ⟨w.heap.size + 1, 0, none⟩ = some (.int .i64 line)) (c2 : W.cell? ⟨w.heap.size, 0, none⟩ = some (.slice sa us.length ca)) (rA : RII W (.slice sa us.length ca) us H) => Lib.hid (filledSquare_c 24 #[.pointer (some ⟨w.heap.size + 1 + 1, 0, none⟩), .pointer (some ⟨w.heap.size + 1, 0, none⟩), .pointer (some ⟨w.heap.size, 0, none⟩)] (ngF H line row n) n W (by omega) hcf (fun x y W' hW' hx hy =>
    ng1_c x y w.heap.size (w.heap.size + 1) (w.heap.size + 1 + 1) line row _ us H n W'
      (by rw [hW'.below.cell (World.block_lt_of_cell? _ _ c0)]; exact c0) (by rw [hW'.below.cell (World.block_lt_of_cell? _ _ c1)]; exact c1) (by rw [hW'.below.cell (World.block_lt_of_cell? _ _ c2)]; exact c2)
      (rA.keep hW'.below) Hh.out hx hy))
  clear hcf
  go_wp2_with fail
  go_region_held3 (fun w' => w'.cell? ⟨w.heap.size + 1, 0, none⟩ = some (.int .i64 line) ∧ w'.cell? ⟨w.heap.size, 0, none⟩ = some (.slice sa us.length ca)) (((try dsimp only); (repeat' apply And.intro); all_goals (repeat (first | assumption | exact cell_dr (by assumption) | refine cell_dr ?_ | refine cell_al ?_ | refine cell_sc (by assumption) ?_))))
    (first
    | (go_at_call 23; refine (within_c _ _ _ _).mono ?_; (try rw [hw1]); rw [hin]; rintro e w3 ⟨rfl, rfl⟩)
    | (go_at_call 21; refine (HZ _ (hv2.keep (St.refl _).drew.below)).out.mono ?_; rintro e w2 ⟨rfl, rfl⟩))
  have hS2 := hS2.drew
  have b0 := hS2.bcell 0 rfl 0 rfl
  have b1 := hS2.bcell 1 rfl 0 rfl
  have b2 := hS2.bcell 2 rfl 0 rfl
  go_wp2_with fail
  refine (HZ _ (hS2.oldII hv)).out.mono ?_
  rintro e w3 ⟨rfl, rfl⟩
  go_wp2_with fail
  refine (hcall _ b0 b1 b2 (hS2.oldII hv)).out.mono ?_
  clear hcall b0 b1 b2
  rintro e w2 ⟨o, uo, rfl, hl, h2⟩
  have hS3 := hS2.call h2
  have Hl := Lib.hid hl
  clear hl h2
  go_wp2_with fail
  go_ret2
  exact ⟨o, uo, rfl, Hl.out, hS3.sub (List.sublist_append_right _ _)⟩
set_option maxHeartbeats 4000000 in
set_option maxRecDepth 100000 in
theorem ExcessOf_c (v : Value) (us : List Value) (H : List (List Int)) (n : Nat) (w : World) (hv : RII w v us H) (hH : Had n H) :
    Calls Tryz.prog 12 #[v] w (Gives2I w (excH n H) 0) := by
  have hln := hv.len
  rw [hH.sqr.len] at hln
  have hix := hv.ixe
  rw [hH.sqr.len] at hix
  have n1 := hH.pos
  have n2 := hH.le
  have Hh := Lib.hid hH
  have HV := Lib.hid (ValidHadamard_c v us H n w hv hH)
  have hb0 := Lib.hid (fun x (hx : x < n) y (hy : y ≤ n) => (sN_bd (n := y) (f := fun t => at2 H x t) (fun t ht => (Hh.out.el x t hx (by omega)).bd)))
  have hb1 : ∀ m, m ≤ n → -(32 * (m : Int)) ≤ sN m (fun x => sN n fun y => at2 H x y) ∧ sN m (fun x => sN n fun y => at2 H x y) ≤ 32 * m := by
    intro m
    induction m with
    | zero => intro _; simp [sN]
    | succ m ih => intro hm; have := ih (by omega); have := hb0.out m (by omega) n (by omega); rw [sN]; push_cast; omega
  have Hb1 := Lib.hid hb1
  clear hH hb1
  go_enter Tryz.func12, Tryz.ntmps12
  go_wp2_with fail
  refine HV.out.mono ?_
  rintro e w1 ⟨rfl, h1⟩
  go_wp2_with fail
  go_loopw [4, 6, 8, 14] (fun s _ _ i wr => ∃ k : Nat, k ≤ n ∧ i = .int .i64 k ∧ s = .int .i64 (sN k fun x => sN n fun y => at2 H x y) ∧ St w.heap.size w wr []) (fun _ _ _ i _ => n - (intOf i).toNat)
  case atStart => exact ⟨0, by omega, rfl, rfl, h1⟩
  case round =>
    clear h1
    obtain ⟨k, hk, rfl, rfl, hS⟩ := hrel
    by_cases hlt : k < n
    · have c1 := (hS.oldII hv).cell k (by rw [Hh.out.sqr.len]; exact hlt)
      have x1 := hix (k : Int) k rfl hlt
      have hrow := hv.row k (by rw [Hh.out.sqr.len]; exact hlt)
      have hrl := Hh.out.sqr.row k hlt
      have hlr := hrow.len
      rw [hrl] at hlr
      have hxr := hrow.ixe
      rw [hrl] at hxr
      have Hrl := Lib.hid hrl
      clear hrl
      have hB := Hb1.out k hk
      have hsk := Lib.hid (show sN (k + 1) (fun x => sN n fun y => at2 H x y) = sN k (fun x => sN n fun y => at2 H x y) + sN n fun y => at2 H k y from rfl)
      generalize sN k (fun x => sN n fun y => at2 H x y) = T at *
      go_wp2_with fail
      go_loopw [4, 8, 20] (fun s _ i wr => ∃ y : Nat, y ≤ n ∧ i = .int .i64 y ∧ s = .int .i64 (T + sN y fun t => at2 H k t) ∧ St w.heap.size w wr []) (fun _ _ i _ => n - (intOf i).toNat)
      case atStart => exact ⟨0, by omega, rfl, by simp [sN], hS⟩
      case round =>
        clear hS c1
        obtain ⟨y, hy, rfl, rfl, hS⟩ := hrel
        by_cases hly : y < n
        · have c2 : wr.cell? (el (vat us k) y) = some (.int .i64 (at2 H k y)) := (hEnt (hS.oldII hv) Hh.out hlt hly).2
          have x2 := hxr (y : Int) y rfl hly
          have b1 := hb0.out k hlt y hy
          have b2 := (Hh.out.el k y hlt hly).bd
          have hsy := Lib.hid (show sN (y + 1) (fun t => at2 H k t) = sN y (fun t => at2 H k t) + at2 H k y from rfl)
          generalize sN y (fun t => at2 H k t) = S at *
          generalize at2 H k y = a at *
          go_wp2_with fail
          go_roundw
          case rel => exact ⟨y + 1, by omega, by go_num, by rw [hsy.out]; congr 1; omega, hS⟩
          case measure => simp [intOf]; omega
        · obtain rfl : y = n := by omega
          go_wp2_with fail
          go_roundw
          case rel => exact ⟨k + 1, by omega, by go_num, by rw [hsk.out], hS⟩
          case measure => simp [intOf]; omega
    · obtain rfl : k = n := by omega
      go_wp2_with fail
      go_ret2
      exact ⟨rfl, hS⟩
end Go.Proofs.YtnodcfhdfpeokaaGreat
end

section
/- Comparison of lists: slices.Compare, the reference's CompareLists, slices.IsSortedFunc. -/
namespace Go.Proofs.YtnodcfhdfpeokaaGreat
set_option linter.unusedSimpArgs false
set_option linter.unusedVariables false
open Go.RowKit

theorem isNaNC_c (x : Int) (w : World) : Calls Tryz.prog 94 #[.int .i64 x] w fun e w' => e = .returned (.bool false) ∧ w = w' := by
  have h := ne_f (rfl : x = x)
  go_enter Tryz.func94, Tryz.ntmps94
  go_wp2_with fail
  go_ret
  exact ⟨rfl, rfl⟩
def cmp1 (x y : Int) : Int := if x < y then -1 else if y < x then 1 else 0
theorem cmpC_c (x y : Int) (w : World) : Calls Tryz.prog 71 #[.int .i64 x, .int .i64 y] w fun e w' => e = .returned (.int .i64 (cmp1 x y)) ∧ w = w' := by
  by_cases h1 : x < y
  · rw [cmp1, if_pos h1]
    go_enter Tryz.func71, Tryz.ntmps71
    go_wp2_with (go_at_call 94; refine (isNaNC_c _ _).mono ?_; rintro e w3 ⟨rfl, rfl⟩)
    go_ret
    exact ⟨rfl, rfl⟩
  · by_cases h2 : y < x
    · rw [cmp1, if_neg h1, if_pos h2]
      go_enter Tryz.func71, Tryz.ntmps71
      go_wp2_with (go_at_call 94; refine (isNaNC_c _ _).mono ?_; rintro e w3 ⟨rfl, rfl⟩)
      go_ret
      exact ⟨rfl, rfl⟩
    · rw [cmp1, if_neg h1, if_neg h2]
      go_enter Tryz.func71, Tryz.ntmps71
      go_wp2_with (go_at_call 94; refine (isNaNC_c _ _).mono ?_; rintro e w3 ⟨rfl, rfl⟩)
      go_ret
      exact ⟨rfl, rfl⟩
theorem cmpI_drop {xs ys : List Int} {k : Nat} (h1 : k < xs.length) (h2 : k < ys.length) : cmpI (xs.drop k) (ys.drop k) = if cmp1 (nth xs k) (nth ys k) ≠ 0 then cmp1 (nth xs k) (nth ys k) else cmpI (xs.drop (k + 1)) (ys.drop (k + 1)) := by
  rw [drop_nth h1, drop_nth h2, cmpI, cmp1]
  by_cases h : nth xs k < nth ys k
  · rw [if_pos h, if_pos h, if_pos (by omega)]
  · rw [if_neg h, if_neg h]
    by_cases h' : nth ys k < nth xs k
    · rw [if_pos h', if_pos h', if_pos (by omega)]
    · rw [if_neg h', if_neg h', if_neg (by omega)]
theorem cmpI_e1 {xs ys : List Int} {k : Nat} (h1 : k < xs.length) (h2 : ys.length ≤ k) : cmpI (xs.drop k) (ys.drop k) = 1 := by
  rw [drop_nth h1, List.drop_of_length_le h2]; rfl
theorem cmpI_e2 {xs ys : List Int} {k : Nat} (h1 : xs.length ≤ k) (h2 : k < ys.length) : cmpI (xs.drop k) (ys.drop k) = -1 := by
  rw [drop_nth h2, List.drop_of_length_le h1]; rfl
theorem cmpI_e3 {xs ys : List Int} {k : Nat} (h1 : xs.length ≤ k) (h2 : ys.length ≤ k) : cmpI (xs.drop k) (ys.drop k) = 0 := by
  rw [List.drop_of_length_le h2, List.drop_of_length_le h1]; rfl
set_option maxHeartbeats 1000000 in
set_option maxRecDepth 100000 in
theorem Compare_c (va vb : Value) (xs ys : List Int) (w : World) (ha : RdI w va xs) (hb : RdI w vb ys) :
    Calls Tryz.prog 51 #[va, vb] w fun e w' => e = .returned (.int .i64 (cmpI xs ys)) ∧ w = w' := by
  have hla := ha.len
  have hlb := hb.len
  have hia := ha.ix
  have hib := hb.ix
  have hca := ha.cell
  have hcb := hb.cell
  have hma := ha.le
  have hmb := hb.le
  go_enter Tryz.func51, Tryz.ntmps51
  go_wp2_with fail
  go_loop [5, 6, 7, 8, 11] (fun _ _ _ _ i => ∃ k : Nat, k ≤ xs.length ∧ k ≤ ys.length ∧ i = .int .i64 k ∧ Hid (cmpI (xs.drop k) (ys.drop k) = cmpI xs ys)) (fun _ _ _ _ i => xs.length - (intOf i).toNat)
  case atStart => exact ⟨0, by omega, by omega, rfl, rfl⟩
  case round =>
    obtain ⟨k, hk, hk2, rfl, hI⟩ := hrel
    by_cases k1 : k < xs.length
    · by_cases k2 : k < ys.length
      · have hd := cmpI_drop k1 k2
        by_cases hc : cmp1 (nth xs k) (nth ys k) = 0
        · rw [if_neg (by omega), hI.out] at hd
          have HD := Lib.hid hd
          have HC := Lib.hid hc
          clear hd hc
          go_wp2_with (go_at_call 71; refine (cmpC_c _ _ _).mono ?_; rw [HC.out]; rintro e w3 ⟨rfl, rfl⟩)
          go_round
          case rel => exact ⟨k + 1, by omega, by omega, by go_num, HD.out.symm⟩
          case measure => simp [intOf]; omega
        · rw [if_pos hc, hI.out] at hd
          have HD := Lib.hid hd
          clear hd
          go_wp2_with (go_at_call 71; refine (cmpC_c _ _ _).mono ?_; rintro e w3 ⟨rfl, rfl⟩)
          go_ret
          exact ⟨by rw [HD.out]; rfl, rfl⟩
      · have HD := Lib.hid (cmpI_e1 k1 (show ys.length ≤ k by omega))
        rw [hI.out] at HD
        go_wp2_with fail
        go_ret
        exact ⟨by rw [HD.out]; rfl, rfl⟩
    · by_cases k2 : k < ys.length
      · have HD := Lib.hid (cmpI_e2 (show xs.length ≤ k by omega) k2)
        rw [hI.out] at HD
        go_wp2_with fail
        go_ret
        exact ⟨by rw [HD.out]; rfl, rfl⟩
      · have HD := Lib.hid (cmpI_e3 (show xs.length ≤ k by omega) (show ys.length ≤ k by omega))
        rw [hI.out] at HD
        go_wp2_with fail
        go_ret
        exact ⟨by rw [HD.out]; rfl, rfl⟩

set_option maxHeartbeats 1000000 in
set_option maxRecDepth 100000 in
theorem sCompareLists_c (va vb : Value) (xs ys : List Int) (w : World) (ha : RdI w va xs) (hb : RdI w vb ys) :
    Calls Tryz.prog 54 #[va, vb] w (GivesI w (cmpI xs ys)) := by
  have hla := ha.len
  have hlb := hb.len
  have hia := ha.ix
  have hib := hb.ix
  have hma := ha.le
  have hmb := hb.le
  go_enter Tryz.func54, Tryz.ntmps54
  go_wp2_with fail
  go_loopw [5] (fun i wr => ∃ k : Nat, k ≤ xs.length ∧ k ≤ ys.length ∧ i = .int .i64 k ∧ Hid (cmpI (xs.drop k) (ys.drop k) = cmpI xs ys) ∧ St w.heap.size w wr []) (fun i _ => xs.length - (intOf i).toNat)
  case atStart => exact ⟨0, by omega, by omega, rfl, rfl, St.refl w⟩
  case round =>
    obtain ⟨k, hk, hk2, rfl, hI, hS⟩ := hrel
    by_cases k1 : k < xs.length
    · by_cases k2 : k < ys.length
      · have hd := cmpI_drop k1 k2
        rw [hI.out] at hd
        have hqa := fun s : SS w.heap.size w [] => (s.st.oldI ha).cell k k1
        have hqb := fun s : SS w.heap.size w [] => (s.st.oldI hb).cell k k2
        generalize nth xs k = x at *
        generalize nth ys k = y at *
        rcases Int.lt_trichotomy x y with h | h | h
        · have HD : Hid (cmpI xs ys = -1) := by rw [Hid, hd, if_pos (by rw [cmp1, if_pos h]; decide), cmp1, if_pos h]
          clear hd
          go_wp2_with fail
          have hne : Nonempty (SS _ _ _) := ⟨⟨_, hS⟩⟩
          refine wp_region_st (by kernel_rfl) (by kernel_rfl) hS ?_
          repeat (go_big_quiet_step (fail))
          refine wpQuiet_nil ?_
          rintro _ ⟨s2, rfl⟩
          have hS2 := s2.st
          generalize s2.w = w2 at hS2 ⊢
          go_wp2_with fail
          go_ret
          exact ⟨ret_i64 HD.out.symm, hS2⟩
        · subst h
          rw [if_neg (by simp [cmp1])] at hd
          have HD := Lib.hid hd
          clear hd
          have hirr : ¬ x < x := by omega
          go_wp2_with fail
          have hne : Nonempty (SS _ _ _) := ⟨⟨_, hS⟩⟩
          refine wp_region_st (by kernel_rfl) (by kernel_rfl) hS ?_
          repeat (go_big_quiet_step (fail))
          refine wpQuiet_nil ?_
          rintro _ ⟨s2, rfl⟩
          have hS2 := s2.st
          generalize s2.w = w2 at hS2 ⊢
          go_wp2_with fail
          have hne : Nonempty (SS _ _ _) := ⟨⟨_, hS2⟩⟩
          refine wp_region_st (by kernel_rfl) (by kernel_rfl) hS2 ?_
          repeat (go_big_quiet_step (fail))
          refine wpQuiet_nil ?_
          rintro _ ⟨s2, rfl⟩
          have hS3 := s2.st
          generalize s2.w = w3 at hS3 ⊢
          go_wp2_with fail
          go_roundw
          case rel => exact ⟨k + 1, by omega, by omega, by go_num, HD.out.symm, hS3⟩
          case measure => simp [intOf]; omega
        · have hn : ¬ x < y := by omega
          have HD : Hid (cmpI xs ys = 1) := by rw [Hid, hd, if_pos (by rw [cmp1, if_neg hn, if_pos h]; decide), cmp1, if_neg hn, if_pos h]
          clear hd
          go_wp2_with fail
          have hne : Nonempty (SS _ _ _) := ⟨⟨_, hS⟩⟩
          refine wp_region_st (by kernel_rfl) (by kernel_rfl) hS ?_
          repeat (go_big_quiet_step (fail))
          refine wpQuiet_nil ?_
          rintro _ ⟨s2, rfl⟩
          have hS2 := s2.st
          generalize s2.w = w2 at hS2 ⊢
          go_wp2_with fail
          have hne : Nonempty (SS _ _ _) := ⟨⟨_, hS2⟩⟩
          refine wp_region_st (by kernel_rfl) (by kernel_rfl) hS2 ?_
          repeat (go_big_quiet_step (fail))
          refine wpQuiet_nil ?_
          rintro _ ⟨s2, rfl⟩
          have hS3 := s2.st
          generalize s2.w = w3 at hS3 ⊢
          go_wp2_with fail
          go_ret
          exact ⟨ret_i64 HD.out.symm, hS3⟩
      · have HD := Lib.hid (cmpI_e1 k1 (show ys.length ≤ k by omega))
        rw [hI.out] at HD
        go_wp2_with fail
        go_ret
        exact ⟨ret_i64 HD.out.symm, hS⟩
    · by_cases k2 : k < ys.length
      · have HD := Lib.hid (cmpI_e2 (show xs.length ≤ k by omega) k2)
        rw [hI.out] at HD
        go_wp2_with fail
        go_ret
        exact ⟨ret_i64 HD.out.symm, hS⟩
      · have HD := Lib.hid (cmpI_e3 (show xs.length ≤ k by omega) (show ys.length ≤ k by omega))
        rw [hI.out] at HD
        go_wp2_with fail
        go_ret
        exact ⟨ret_i64 HD.out.symm, hS⟩
theorem srtB_no {A : List (List Int)} {k : Nat} (h : k + 1 < A.length) (hc : leL (xat A k) (xat A (k + 1)) = false) : srtB A = false := by
  cases hs : srtB A with
  | false => rfl
  | true =>
    have := List.pairwise_iff_getElem.1 (srtB_pw.1 hs) k (k + 1) (by omega) h (by omega)
    rw [xat_eq (show k < A.length by omega), xat_eq h, this] at hc
    cases hc
set_option maxHeartbeats 2000000 in
set_option maxRecDepth 100000 in
theorem IsSortedR_c (v : Value) (us : List Value) (A : List (List Int)) (w : World) (hv : RII w v us A) :
    Calls Tryz.prog 74 #[v, .func (.func 51) #[] #[]] w (GivesB w (srtB A)) := by
  have hcf : ∀ (args : Array Value) (W : World), (callFunc 51 args).run Tryz.prog W = .ok (.enter 51 args) W :=
    fun args W => callFunc_go (P := Tryz.prog) Tryz.func51 (by kernel_rfl) (by kernel_rfl) args W
  have hln := hv.len
  have hix := hv.ixe
  have hm := hv.le
  by_cases h0 : A.length = 0
  · have hA : Hid (srtB A = true) := by rw [List.eq_nil_of_length_eq_zero h0]; rfl
    go_enter Tryz.func74, Tryz.ntmps74
    go_wp2_with fail
    go_loopw [5] (fun i wr => i = .int .i64 (-1) ∧ St w.heap.size w wr []) (fun _ _ => 0)
    case atStart => exact ⟨by go_num, St.refl w⟩
    case round =>
      obtain ⟨rfl, hS⟩ := hrel
      go_wp2_with fail
      go_ret
      exact ⟨ret_bool hA.out.symm, hS⟩
  · go_enter Tryz.func74, Tryz.ntmps74
    go_wp2_with fail
    go_loopw [5] (fun i wr => ∃ k : Nat, k + 1 ≤ A.length ∧ i = .int .i64 k ∧ Hid (srtB (A.drop k) = true) ∧ St w.heap.size w wr []) (fun i _ => (intOf i).toNat)
    case atStart => exact ⟨A.length - 1, by omega, by go_num, by
      have : A.drop (A.length - 1) = [xat A (A.length - 1)] := by rw [drop_xat (show A.length - 1 < A.length by omega), List.drop_of_length_le (by omega)]
      rw [Hid, this]; rfl, St.refl w⟩
    case round =>
      obtain ⟨k, hk, rfl, hI, hS⟩ := hrel
      by_cases hk0 : 0 < k
      · obtain ⟨m, hmk⟩ : ∃ m, m + 1 = k := ⟨k - 1, by omega⟩
        have R1 := Lib.hid fun s : SS w.heap.size w [] => (s.st.oldII hv).row k (by omega)
        have R0 := Lib.hid fun s : SS w.heap.size w [] => (s.st.oldII hv).row m (by omega)
        have hq1 := fun s : SS w.heap.size w [] => (s.st.oldII hv).cell k (by omega)
        have hq0 := fun s : SS w.heap.size w [] => (s.st.oldII hv).cell m (by omega)
        have x1 := hix (k : Int) k rfl (by omega)
        have x0 := hix ((k : Int) - 1) m (by omega) (by omega)
        have hw : IntKind.i64.wrap ((k : Int) - 1) = ((k : Int) - 1) := IntWalk.i64_in _ (by omega)
        have Hmk := Lib.hid hmk
        have hd := srtB_drop (A := A) (k := m) (by omega)
        rw [hmk, hI.out, Bool.and_true] at hd
        have hno : leL (xat A m) (xat A k) = false → srtB A = false := fun h => srtB_no (k := m) (by omega) (by rw [hmk]; exact h)
        clear hmk
        cases hc : leL (xat A m) (xat A k)
        · have hlt : cmpI (xat A k) (xat A m) < 0 := by
            have := of_decide_eq_false hc
            have := cmpI_neg (xat A m) (xat A k); omega
          have HN := Lib.hid (hno hc)
          clear hd hc hno
          go_wp2_with fail
          have hne : Nonempty (SS _ _ _) := ⟨⟨_, hS⟩⟩
          refine wp_region_st (by kernel_rfl) (by kernel_rfl) hS ?_
          repeat (go_big_quiet_step ((go_at_call 51; exact st_quiet0 (Compare_c _ _ _ _ _ (R1.out _) (R0.out _)))))
          refine wpQuiet_nil ?_
          rintro _ ⟨s2, rfl⟩
          have hS2 := s2.st
          generalize s2.w = w2 at hS2 ⊢
          go_wp2_with fail
          go_ret
          exact ⟨ret_bool HN.out.symm, hS2⟩
        · have hlt : ¬ cmpI (xat A k) (xat A m) < 0 := by
            have := of_decide_eq_true hc
            have := cmpI_neg (xat A m) (xat A k); omega
          rw [hc] at hd
          have HD := Lib.hid hd
          clear hd hc hno
          go_wp2_with fail
          have hne : Nonempty (SS _ _ _) := ⟨⟨_, hS⟩⟩
          refine wp_region_st (by kernel_rfl) (by kernel_rfl) hS ?_
          repeat (go_big_quiet_step ((go_at_call 51; exact st_quiet0 (Compare_c _ _ _ _ _ (R1.out _) (R0.out _)))))
          refine wpQuiet_nil ?_
          rintro _ ⟨s2, rfl⟩
          have hS2 := s2.st
          generalize s2.w = w2 at hS2 ⊢
          go_wp2_with fail
          go_roundw
          case rel => exact ⟨m, by have := Hmk.out; omega, by rw [← Hmk.out]; go_num, HD, hS2⟩
          case measure => (have := Hmk.out; simp [intOf]; omega)
      · obtain rfl : k = 0 := by omega
        go_wp2_with fail
        go_ret
        exact ⟨ret_bool (by rw [← hI.out]; rfl), hS⟩
end Go.Proofs.YtnodcfhdfpeokaaGreat
end

section
/- slices.SortFunc at [][]int64 with slices.Compare: rows that a call owns, put in order; slices.IsSortedFunc. -/
namespace Go.Proofs.YtnodcfhdfpeokaaGreat
set_option linter.unusedSimpArgs false
set_option linter.unusedVariables false
open Go.RowKit
attribute [local go_sem ↓] Go.wp_at_zero Go.wp_at_succ

def Tryz.mSortR_ren : Go.Shelf.Ren := ⟨fun | 6 => 50 | 15 => 70 | 14 => 69 | 28 => 92 | 29 => 93 | 20 => 84 | 21 => 85 | 22 => 86 | 23 => 87 | 24 => 88 | 25 => 89 | 26 => 90 | 27 => 91 | 46 => 101 | 47 => 102 | 48 => 103 | 49 => 104 | 50 => 105 | 57 => 109 | n => n, fun | 22 => 24 | 24 => 31 | 25 => 74 | 3 => 3 | 39 => 89 | 0 => 0 | 53 => 110 | 55 => 63 | 4 => 4 | 46 => 103 | 45 => 102 | 50 => 107 | 5 => 5 | 9 => 9 | 66 => 115 | 70 => 119 | 76 => 122 | 77 => 123 | n => n, fun | n => n⟩
theorem Tryz.mSortR : Go.Proofs.SlLaysF.n6 Tryz.prog Tryz.mSortR_ren := {
  mixed := by kernel_rfl
  f6 := ⟨Tryz.f50.name, by decide, Tryz.func50.trans (congrArg some (by kernel_rfl))⟩
  f14 := ⟨Tryz.f69.name, by decide, Tryz.func69.trans (congrArg some (by kernel_rfl))⟩
  f15 := Tryz.func70.trans (congrArg some (by kernel_rfl))
  f20 := ⟨Tryz.f84.name, by decide, Tryz.func84.trans (congrArg some (by kernel_rfl))⟩
  f21 := ⟨Tryz.f85.name, by decide, Tryz.func85.trans (congrArg some (by kernel_rfl))⟩
  f22 := ⟨Tryz.f86.name, by decide, Tryz.func86.trans (congrArg some (by kernel_rfl))⟩
  f23 := ⟨Tryz.f87.name, by decide, Tryz.func87.trans (congrArg some (by kernel_rfl))⟩
  f24 := ⟨Tryz.f88.name, by decide, Tryz.func88.trans (congrArg some (by kernel_rfl))⟩
  f25 := ⟨Tryz.f89.name, by decide, Tryz.func89.trans (congrArg some (by kernel_rfl))⟩
  f26 := ⟨Tryz.f90.name, by decide, Tryz.func90.trans (congrArg some (by kernel_rfl))⟩
  f27 := ⟨Tryz.f91.name, by decide, Tryz.func91.trans (congrArg some (by kernel_rfl))⟩
  f28 := Tryz.func92.trans (congrArg some (by kernel_rfl))
  f29 := Tryz.func93.trans (congrArg some (by kernel_rfl))
  f46 := ⟨Tryz.f101.name, by decide, Tryz.func101.trans (congrArg some (by kernel_rfl))⟩
  f47 := Tryz.func102.trans (congrArg some (by kernel_rfl))
  f48 := Tryz.func103.trans (congrArg some (by kernel_rfl))
  f49 := ⟨Tryz.f104.name, by decide, Tryz.func104.trans (congrArg some (by kernel_rfl))⟩
  f50 := ⟨Tryz.f105.name, by decide, Tryz.func105.trans (congrArg some (by kernel_rfl))⟩
  f57 := ⟨Tryz.f109.name, by decide, Tryz.func109.trans (congrArg some (by kernel_rfl))⟩
  t0 := Tryz.underlying0
  a0 := Tryz.isAgg0
  z0 := Tryz.sizeOf0
  v0 := Tryz.zeroValue0
  t3 := Tryz.underlying3
  a3 := Tryz.isAgg3
  z3 := Tryz.sizeOf3
  v3 := Tryz.zeroValue3
  t4 := Tryz.underlying4
  a4 := Tryz.isAgg4
  z4 := Tryz.sizeOf4
  v4 := Tryz.zeroValue4
  t5 := Tryz.underlying5
  a5 := Tryz.isAgg5
  z5 := Tryz.sizeOf5
  v5 := Tryz.zeroValue5
  t9 := Tryz.underlying9
  a9 := Tryz.isAgg9
  z9 := Tryz.sizeOf9
  v9 := Tryz.zeroValue9
  t22 := Tryz.underlying24
  a22 := Tryz.isAgg24
  z22 := Tryz.sizeOf24
  v22 := Tryz.zeroValue24
  a24 := Tryz.isAgg31
  z24 := Tryz.sizeOf31
  t25 := Tryz.underlying74
  a25 := Tryz.isAgg74
  z25 := Tryz.sizeOf74
  v25 := Tryz.zeroValue74
  t39 := Tryz.underlying89
  a39 := Tryz.isAgg89
  z39 := Tryz.sizeOf89
  v39 := Tryz.zeroValue89
  t45 := Tryz.underlying102
  a45 := Tryz.isAgg102
  z45 := Tryz.sizeOf102
  v45 := Tryz.zeroValue102
  t46 := Tryz.underlying103
  a46 := Tryz.isAgg103
  z46 := Tryz.sizeOf103
  v46 := Tryz.zeroValue103
  t50 := Tryz.underlying107
  a50 := Tryz.isAgg107
  z50 := Tryz.sizeOf107
  v50 := Tryz.zeroValue107
  t53 := Tryz.underlying110
  a53 := Tryz.isAgg110
  z53 := Tryz.sizeOf110
  v53 := Tryz.zeroValue110
  t55 := Tryz.underlying63
  a55 := Tryz.isAgg63
  z55 := Tryz.sizeOf63
  v55 := Tryz.zeroValue63
  t66 := Tryz.underlying115
  a66 := Tryz.isAgg115
  z66 := Tryz.sizeOf115
  v66 := Tryz.zeroValue115
  t70 := Tryz.underlying119
  a70 := Tryz.isAgg119
  z70 := Tryz.sizeOf119
  v70 := Tryz.zeroValue119
  t76 := Tryz.underlying122
  a76 := Tryz.isAgg122
  z76 := Tryz.sizeOf122
  v76 := Tryz.zeroValue122
  t77 := Tryz.underlying123
  a77 := Tryz.isAgg123
  z77 := Tryz.sizeOf123
  v77 := Tryz.zeroValue123
}

/-! ### a row of any kind -/
theorem holds_of_blockE {α : Type} [Inhabited α] (enc : α → Value) {w : World} {g : Nat} {cur : Array Value} {e : TypeId} {ss : List α} (hb : w.heap[g]? = some (.cells cur e (0, 0))) (ht : cur.toList.take ss.length = ss.map enc) : Go.Sort.Holds enc w g 0 ss.toArray := by
  intro j hj
  have hj' : j < ss.length := by simpa using hj
  refine ⟨?_, by simp [World.frozen?, hb]⟩
  have h1 : (cur.toList.take ss.length)[j]? = (ss.map enc)[j]? := by rw [ht]
  rw [List.getElem?_take_of_lt hj'] at h1
  simp only [World.cell?, hb, Nat.zero_add]
  simp only [Option.isSome_none, Bool.false_eq_true, if_false]
  rw [← Array.getElem?_toList, h1]
  simp [hj']
theorem heap_sortedE {α : Type} [Inhabited α] (enc : α → Value) {w : World} {g n : Nat} {os : Array Obj} {cur : Array Value} {e : TypeId} {fr : Nat × Nat} (d : Array α) (hb : w.heap[g]? = some (.cells cur e fr)) :
    (Go.Sort.grow (Go.Sort.putRow enc (Go.Sort.ahead w n) g 0 d) os).heap[g]? = some (.cells (Go.Sort.putCells enc 0 d cur) e fr) := by
  have hg : g < w.heap.size := (Array.getElem?_eq_some_iff.1 hb).1
  rw [Go.Sort.heap_grow_old _ _ (by simpa using hg)]
  simp [Go.Sort.putRow, Go.Sort.mapBlock, Go.Sort.ahead, Array.getElem?_modify, hb, Go.Sort.onCells]
theorem grownBy_sortedE {α : Type} [Inhabited α] (enc : α → Value) {w : World} {g n : Nat} {os : Array Obj} (d : Array α) : w.grownBy (Go.Sort.grow (Go.Sort.putRow enc (Go.Sort.ahead w n) g 0 d) os) (some g) := by
  refine ⟨rfl, rfl, rfl, by simp, fun k hk hne => ?_⟩
  rw [Go.Sort.heap_grow_old _ _ (by simpa using hk)]
  have : g ≠ k := fun e => hne (by rw [e])
  simp [Go.Sort.putRow, Go.Sort.mapBlock, Go.Sort.ahead, Array.getElem?_modify, this]
theorem take_putCellsE {α : Type} [Inhabited α] (enc : α → Value) (cur : Array Value) (d : Array α) (h : d.size ≤ cur.size) : (Go.Sort.putCells enc 0 d cur).toList.take d.size = d.toList.map enc := by
  apply List.ext_getElem?
  intro j
  by_cases hj : j < d.size
  · rw [List.getElem?_take_of_lt hj, Array.getElem?_toList]
    simp [Go.Sort.putCells, hj, show j < cur.size by omega]
  · rw [List.getElem?_take_eq_none (by omega), List.getElem?_eq_none (by simp; omega)]

end Go.Proofs.YtnodcfhdfpeokaaGreat
end

section
/- slices.SortFunc at [][]int64 with slices.Compare: the rows of an owned list of rows are put in order. -/
namespace Go.Proofs.YtnodcfhdfpeokaaGreat
set_option linter.unusedSimpArgs false
set_option linter.unusedVariables false
open Go.RowKit

theorem callR_cmp : ∀ (args : Array Value) (W : World), (callFunc 51 args).run Tryz.prog W = .ok (.enter 51 args) W :=
  fun args W => callFunc_go (P := Tryz.prog) Tryz.func51 (by kernel_rfl) (by kernel_rfl) args W
def cfR (A : List (List Int)) (x y : Fin A.length) : Int := cmpI (xat A x) (xat A y)
theorem swoR (A : List (List Int)) : Go.Sort.SWO (Go.Proofs.ltOf (cfR A)) where
  irrefl x := by simp [Go.Proofs.ltOf, cfR, cmpI_self]
  trans x y z h1 h2 := by
    have a1 := of_decide_eq_true h1
    have a2 := of_decide_eq_true h2
    refine decide_eq_true ?_
    unfold cfR at *
    have h3 := cmpI_trans (a := xat A x) (b := xat A y) (c := xat A z) (by omega) (by omega)
    rcases Int.lt_or_le (cmpI (xat A x) (xat A z)) 0 with h | h
    · exact h
    · have h4 := cmpI_eq (a := xat A x) (b := xat A z) (by omega)
      rw [h4] at a1
      have := cmpI_neg (xat A y) (xat A z)
      omega
  ntrans x y z h1 h2 := by
    have a1 := of_decide_eq_false h1
    have a2 := of_decide_eq_false h2
    refine decide_eq_false ?_
    unfold cfR at *
    have n1 := cmpI_neg (xat A x) (xat A y)
    have n2 := cmpI_neg (xat A y) (xat A z)
    have n3 := cmpI_neg (xat A x) (xat A z)
    have h3 := cmpI_trans (a := xat A z) (b := xat A y) (c := xat A x) (by omega) (by omega)
    omega
theorem fin_map {α : Type} (us : List α) (d : α) {n : Nat} (h : us.length = n) : (List.finRange n).map (fun k : Fin n => us.getD k d) = us := by
  subst h
  apply List.ext_getElem
  · simp
  · intro i h1 h2
    simp at h1 ⊢
theorem rows_fin {us : List Value} {A : List (List Int)} (h : us.length = A.length) : rowsI us A = (List.finRange A.length).map fun k : Fin A.length => row 2 (vat us k) (iv (xat A k)) := by
  apply List.ext_getElem
  · simp [rowsI, h]
  · intro i h1 h2
    simp [rowsI, h] at h1
    simp [rowsI, vat, xat, h, h1]
set_option maxHeartbeats 1000000 in
theorem SortRows_c {B : Nat} {w0 w : World} {L : List Ent} {v : Value} {us : List Value} {A : List (List Int)} (hS : St B w0 w (own2 v us A ++ L)) (hl : us.length = A.length) (hlen : A.length < 100000) :
    Calls Tryz.prog 50 #[v, .func (.func 51) #[] #[]] w fun e w' => ∃ us' : List Value, e = .returned (.tuple #[]) ∧ us'.length = A.length ∧ St B w0 w' (own2 v us' (srtL A) ++ L) := by
  have hi : (own2 v us A ++ L)[0]? = some (row 31 v us) := rfl
  by_cases h0 : A = []
  · subst h0
    have hu : us = [] := by simpa using hl
    subst hu
    obtain ⟨a, c, hv⟩ := (hS.rd 0 hi).sl.sh
    subst hv
    refine Calls.mono (Go.Proofs.AnyF.slices_SortFunc_none (P := Tryz.prog) (ρ := Tryz.mSortR_ren) { Tryz.mSortR with } a c (.func (.func 51) #[] #[]) w) ?_
    rintro e w' ⟨rfl, rfl⟩
    exact ⟨[], rfl, rfl, hS⟩
  · have hpos : 0 < A.length := by cases A with
      | nil => exact absurd rfl h0
      | cons _ _ => simp
    haveI : Inhabited (Fin A.length) := ⟨⟨0, hpos⟩⟩
    have hrow : ∀ {W : World} {u : List Value}, St B w0 W (row 31 v u :: (rowsI us A ++ L)) → ∀ k : Fin A.length, RdI W (vat us k) (xat A k) := by
      intro W u h k
      refine h.rdI (k + 1) (e := 2) ?_
      rw [List.getElem?_cons_succ, List.getElem?_append_left (by rw [rowsI_len hl]; exact k.isLt)]
      exact rowsI_get hl k.isLt
    have hok := hS.ok _ (List.mem_of_getElem? hi)
    rcases hok with ⟨hp, _⟩ | ⟨_, hv, hu⟩ | ⟨_, g, cap, cur, hv, hB, hh, h1, h2, h3, h4⟩
    · simp [row] at hp
    · simp only [row] at hu
      rw [hu] at hl; simp at hl; omega
    · simp only [row] at hv h1 h4 hh
      subst hv
      have hblk : g < w.heap.size := (Array.getElem?_eq_some_iff.1 hh).1
      have hOne : Go.Proofs.OneCell (fun k : Fin A.length => vat us k) := fun k => (hrow hS k).sl.one
      have hd : (List.finRange A.length).toArray.size = us.length := by simp [hl]
      have hH : Go.Sort.Holds (fun k : Fin A.length => vat us k) w g 0 (List.finRange A.length).toArray := holds_of_blockE _ hh (by
        rw [List.length_finRange]
        exact (by rw [← hl]; exact h4 : cur.toList.take A.length = us).trans (fin_map us undef hl).symm)
      have putAll : ∀ (m : Nat) (os : Array Obj) (dk : Array (Fin A.length)), dk.size = us.length → St B w0 (Go.Proofs.sortWorld (fun k : Fin A.length => vat us k) w g 0 m dk os) (row 31 (.slice (some ⟨g, 0, none⟩) us.length cap) (dk.toList.map fun k : Fin A.length => vat us k) :: (rowsI us A ++ L)) := by
        intro m os dk hs
        have := hS.put 0 hi (w' := Go.Proofs.sortWorld (fun k : Fin A.length => vat us k) w g 0 m dk os) ?_ (row 31 (.slice (some ⟨g, 0, none⟩) us.length cap) (dk.toList.map fun k : Fin A.length => vat us k)) (.inr (.inr ⟨rfl, g, cap, _, ?_, hB, heap_sortedE (fun k : Fin A.length => vat us k) _ hh, ?_, h2, ?_, ?_⟩)) (.inl rfl)
        · exact this
        · exact grownBy_sortedE (fun k : Fin A.length => vat us k) dk
        · simp [row, hs]
        · simp [row, hs]; exact h1
        · simp [Go.Sort.putCells, h3]
        · have := take_putCellsE (fun k : Fin A.length => vat us k) cur dk (by omega)
          rw [hs] at this
          simpa [row, hs] using this
      have hcmp : Go.Proofs.CmpLays1 Tryz.prog 51 #[] (fun k : Fin A.length => vat us k) (cfR A) g 0 (List.finRange A.length).toArray.size w := by
        refine Go.Proofs.CmpReads.lays fun m os dk hs x y => ?_
        have hp := putAll m os dk (by rw [hs, hd])
        refine (Compare_c _ _ _ _ _ (hrow hp x) (hrow hp y)).mono ?_
        rintro e w' ⟨rfl, rfl⟩
        exact ⟨rfl, 0, rfl⟩
      have hc := Go.Proofs.Any.slices_SortFunc (P := Tryz.prog) (ρ := Tryz.mSortR_ren) Tryz.mSortR (fun k : Fin A.length => vat us k) hOne (cfR A) (swoR A) 51 #[] g 0 cap (List.finRange A.length).toArray w callR_cmp hcmp hH hblk (by rw [hd]; omega)
      rw [hd] at hc
      refine Calls.mono hc ?_
      rintro e w' ⟨rfl, d', n, os, hperm, hso, rfl⟩
      have hds : d'.size = us.length := by have := hperm.1; omega
      have hpm : d'.toList.Perm (List.finRange A.length) := by
        have := hperm.2.2
        rw [show d'.extract 0 us.length = d' by rw [← hds]; simp, show (List.finRange A.length).toArray.extract 0 us.length = (List.finRange A.length).toArray by rw [← hd]; simp only [Array.extract_size]] at this
        simpa using this
      have hA : (d'.toList.map fun k : Fin A.length => xat A k) = srtL A := by
        refine srtL_eq ?_ ?_
        · have := hpm.map fun k : Fin A.length => xat A k
          rwa [show (List.finRange A.length).map (fun k : Fin A.length => xat A k) = A from fin_map A [] rfl] at this
        · rw [List.pairwise_map, List.pairwise_iff_getElem]
          intro i j hi' hj' hij
          have := hso i j (by omega) hij (by rw [← hds]; simpa using hj')
          have := of_decide_eq_false this
          unfold cfR at this
          have e1 : d'[i]! = d'.toList[i] := by simp at hi'; simp [hi']
          have e2 : d'[j]! = d'.toList[j] := by simp at hj'; simp [hj']
          rw [e1, e2] at this
          have := cmpI_neg (xat A d'.toList[j]) (xat A d'.toList[i])
          exact decide_eq_true (by omega)
      have hp := putAll n os d' hds
      refine ⟨d'.toList.map fun k : Fin A.length => vat us k, rfl, by simp [hds, hl], ?_⟩
      rw [← hA]
      refine hp.perm ?_
      unfold own2
      refine List.Perm.cons _ (List.Perm.append_right _ ?_)
      rw [rows_fin hl]
      refine (hpm.map _).symm.trans (.of_eq ?_)
      unfold rowsI
      rw [List.zipWith_map, List.zipWith_self]
end Go.Proofs.YtnodcfhdfpeokaaGreat
end

section
/- Walks: operations on sets, and what the law on sets draws. -/
namespace Go.Proofs.YtnodcfhdfpeokaaGreat
set_option linter.unusedSimpArgs false
set_option linter.unusedVariables false
open Go.RowKit
set_option maxHeartbeats 2000000 in
set_option maxRecDepth 100000 in
theorem l00Rises_c (v : Value) (xs : List Int) (lo hi : Int) (w : World) (hv : RdI w v xs) :
    Calls Tryz.prog 72 #[v, .int .i64 lo, .int .i64 hi] w (GivesB w (incB (lo - 1) (hi + 1) xs)) := by
  have hln := hv.len
  have hix := hv.ix
  have hm := hv.le
  go_enter Tryz.func72, Tryz.ntmps72
  go_wp2_with fail
  go_loopw [7] (fun i wr => ∃ (k : Nat) (last : Int), k ≤ xs.length ∧ i = .int .i64 k ∧ Hid (incB (lo - 1) (hi + 1) xs = incB last (hi + 1) (xs.drop k)) ∧ Hid (k = 0 → last = lo - 1) ∧ Hid (0 < k → last = nth xs (k - 1)) ∧ lo - 1 ≤ last ∧ St w.heap.size w wr []) (fun i _ => xs.length - (intOf i).toNat)
  case atStart => exact ⟨0, lo - 1, by omega, rfl, rfl, fun _ => rfl, fun h => by omega, by omega, St.refl w⟩
  case round =>
    obtain ⟨k, last, hk, rfl, hI, hl0, hl1, hll, hS⟩ := hrel
    by_cases hlt : k < xs.length
    · have hd := Lib.hid (incB_drop hlt last (hi + 1))
      have hq := fun s : SS w.heap.size w [] => (s.st.oldI hv).cell k hlt
      by_cases h1 : lo ≤ nth xs k ∧ nth xs k ≤ hi
      · have i1 := inB_true h1
        obtain ⟨h1a, h1b⟩ := h1
        by_cases h0 : 0 < k
        · have Hl := Lib.hid (hl1.out h0)
          have hix1 := hv.ixe ((k : Int) - 1) (k - 1) (by omega) (by omega)
          have hq1 := fun s : SS w.heap.size w [] => (s.st.oldI hv).cell (k - 1) (by omega)
          by_cases h2 : nth xs k ≤ nth xs (k - 1)
          · go_wp2_with fail
            have hne : Nonempty (SS _ _ _) := ⟨⟨_, hS⟩⟩
            refine wp_region_st (by kernel_rfl) (by kernel_rfl) hS ?_
            repeat (go_big_quiet_step ((go_at_call 52; exact st_quiet0 (l00In_c _ _ _ _))))
            refine wpQuiet_nil ?_
            rintro _ ⟨s2, rfl⟩
            have hS2 := s2.st
            generalize s2.w = w2 at hS2 ⊢
            go_wp2_with fail
            go_ret
            exact ⟨ret_bool (by rw [hI.out, hd.out, Hl.out]; simp [h2]), hS2⟩
          · go_wp2_with fail
            have hne : Nonempty (SS _ _ _) := ⟨⟨_, hS⟩⟩
            refine wp_region_st (by kernel_rfl) (by kernel_rfl) hS ?_
            repeat (go_big_quiet_step ((go_at_call 52; exact st_quiet0 (l00In_c _ _ _ _))))
            refine wpQuiet_nil ?_
            rintro _ ⟨s2, rfl⟩
            have hS2 := s2.st
            generalize s2.w = w2 at hS2 ⊢
            go_wp2_with fail
            go_roundw
            case rel => exact ⟨k + 1, nth xs k, by omega, by go_num, by rw [Hid, hI.out, hd.out, Hl.out, if_neg (by omega)], fun h => by omega, fun _ => rfl, by omega, hS2⟩
            case measure => simp [intOf]; omega
        · have Hl := Lib.hid (hl0.out (by omega))
          go_wp2_with fail
          have hne : Nonempty (SS _ _ _) := ⟨⟨_, hS⟩⟩
          refine wp_region_st (by kernel_rfl) (by kernel_rfl) hS ?_
          repeat (go_big_quiet_step ((go_at_call 52; exact st_quiet0 (l00In_c _ _ _ _))))
          refine wpQuiet_nil ?_
          rintro _ ⟨s2, rfl⟩
          have hS2 := s2.st
          generalize s2.w = w2 at hS2 ⊢
          go_wp2_with fail
          go_roundw
          case rel => exact ⟨k + 1, nth xs k, by omega, by go_num, by rw [Hid, hI.out, hd.out, Hl.out, if_neg (by omega)], fun h => by omega, fun _ => rfl, by omega, hS2⟩
          case measure => simp [intOf]; omega
      · have i1 := inB_false h1
        have H1 := Lib.hid h1; clear h1
        go_wp2_with fail
        have hne : Nonempty (SS _ _ _) := ⟨⟨_, hS⟩⟩
        refine wp_region_st (by kernel_rfl) (by kernel_rfl) hS ?_
        repeat (go_big_quiet_step ((go_at_call 52; exact st_quiet0 (l00In_c _ _ _ _))))
        refine wpQuiet_nil ?_
        rintro _ ⟨s2, rfl⟩
        have hS2 := s2.st
        generalize s2.w = w2 at hS2 ⊢
        go_wp2_with fail
        go_ret
        exact ⟨ret_bool (by rw [hI.out, hd.out, if_pos (by have := H1.out; omega)]), hS2⟩
    · go_wp2_with fail
      go_ret
      exact ⟨ret_bool (by rw [hI.out, List.drop_of_length_le (by omega)]; simp [incB]), hS⟩

end Go.Proofs.YtnodcfhdfpeokaaGreat
end

section
/- Walks: arrays by value. Walks: valid arrays, equal arrays. -/
namespace Go.Proofs.YtnodcfhdfpeokaaGreat
set_option linter.unusedSimpArgs false
set_option linter.unusedVariables false
open Go.RowKit


/-- an array as a value -/
def av (lv co : Int) (v : Value) : Value := .agg #[.int .i64 lv, .int .i64 co, v]

/-- a block that holds an array -/
def BoxA (w : World) (g : Nat) (lv co : Int) (v : Value) : Prop :=
  w.cell? ⟨g, 0, none⟩ = some (.int .i64 lv) ∧ w.cell? ⟨g, 1, none⟩ = some (.int .i64 co) ∧ w.cell? ⟨g, 2, none⟩ = some v
theorem cell_keep {w w' : World} (hb : Below w.heap.size w w') {p : Addr} {u : Value} (h : w.cell? p = some u) : w'.cell? p = some u := by
  rw [hb.cell (World.block_lt_of_cell? _ _ h)]; exact h
theorem BoxA.keep {w w' : World} {g : Nat} {lv co : Int} {v : Value} (h : BoxA w g lv co v) (hb : Below w.heap.size w w') : BoxA w' g lv co v :=
  ⟨cell_keep hb h.1, cell_keep hb h.2.1, cell_keep hb h.2.2⟩
end Go.Proofs.YtnodcfhdfpeokaaGreat
end
