/- Plain: Hadamard matrices, their signs and their profiles. -/
import Derived.Test.YtpfgbbbjldpnnaaPLat
import Derived.Test.YtpfgbbbjldpnnaaPRank
import Derived.Test.YtpfgbbbjldpnnaaStr1
namespace Go.Proofs.Ytpfgbbbjldpnnaa
set_option linter.unusedSimpArgs false
set_option linter.unusedVariables false

/-- a sign -/
def Pm (x : Int) : Prop := x = 1 ∨ x = -1
theorem Pm.mul {x y : Int} (hx : Pm x) (hy : Pm y) : Pm (x * y) := by
  rcases hx with rfl | rfl <;> rcases hy with rfl | rfl <;> simp [Pm]
theorem Pm.sq {x : Int} (hx : Pm x) : x * x = 1 := by rcases hx with rfl | rfl <;> rfl
theorem Pm.bd {x : Int} (hx : Pm x) : -1 ≤ x ∧ x ≤ 1 := by rcases hx with rfl | rfl <;> omega
theorem Pm.neg {x : Int} (hx : Pm x) : Pm (-x) := by rcases hx with rfl | rfl <;> simp [Pm]
/-- sums -/
def sN : Nat → (Nat → Int) → Int
  | 0, _ => 0
  | n + 1, f => sN n f + f n
theorem sN_congr {f g : Nat → Int} : ∀ {n : Nat}, (∀ k, k < n → f k = g k) → sN n f = sN n g
  | 0, _ => rfl
  | n + 1, h => by rw [sN, sN, sN_congr (n := n) (fun k hk => h k (by omega)), h n (by omega)]
theorem sN_mul (c : Int) (f : Nat → Int) : ∀ n : Nat, sN n (fun k => c * f k) = c * sN n f
  | 0 => by simp [sN]
  | n + 1 => by rw [sN, sN, sN_mul c f n, Int.mul_add]
theorem sN_add (a : Nat) (f : Nat → Int) : ∀ b : Nat, sN (a + b) f = sN a f + sN b fun k => f (a + k)
  | 0 => by simp [sN]
  | b + 1 => by rw [show a + (b + 1) = (a + b) + 1 from rfl, sN, sN, sN_add a f b]; omega
theorem sN_bd {f : Nat → Int} : ∀ {n : Nat}, (∀ k, k < n → -1 ≤ f k ∧ f k ≤ 1) → -(n : Int) ≤ sN n f ∧ sN n f ≤ n
  | 0, _ => by simp [sN]
  | n + 1, h => by
    have h1 := sN_bd (n := n) (fun k hk => h k (by omega))
    have h2 := h n (by omega)
    rw [sN]; push_cast; omega
theorem sN_prod (n m : Nat) (hm : 0 < m) (f g : Nat → Int) : sN (n * m) (fun c => f (c / m) * g (c % m)) = sN n f * sN m g := by
  induction n with
  | zero => simp [sN]
  | succ n ih =>
    rw [Nat.succ_mul, sN_add, ih, sN, Int.add_mul]
    congr 1
    rw [← sN_mul]
    refine sN_congr fun k hk => ?_
    show f ((n * m + k) / m) * g ((n * m + k) % m) = f n * g k
    rw [show (n * m + k) / m = n by rw [Nat.mul_comm, Nat.mul_add_div hm, Nat.div_eq_of_lt hk]; rfl, show (n * m + k) % m = k by rw [Nat.mul_comm, Nat.mul_add_mod, Nat.mod_eq_of_lt hk]]

/-- a Hadamard matrix -/
structure Had (n : Nat) (H : List (List Int)) : Prop where
  pos : 1 ≤ n
  le : n ≤ 32
  sqr : Sqr n H
  el : ∀ x y, x < n → y < n → Pm (at2 H x y)
  dot : ∀ x x', x < n → x' < n → x ≠ x' → sN n (fun y => at2 H x y * at2 H x' y) = 0
def hadB (n : Nat) (H : List (List Int)) : Bool :=
  decide (1 ≤ n) && decide (n ≤ 32) && (H.length == n) && (List.range n).all fun x => ((xat H x).length == n) && ((List.range n).all fun y => (at2 H x y == 1) || (at2 H x y == -1)) && (List.range n).all fun x' => (x == x') || (sN n (fun y => at2 H x y * at2 H x' y) == 0)
theorem hadB_ok {n : Nat} {H : List (List Int)} (h : hadB n H = true) : Had n H := by
  simp only [hadB, Bool.and_eq_true, Bool.or_eq_true, List.all_eq_true, List.mem_range, beq_iff_eq, decide_eq_true_eq] at h
  obtain ⟨⟨⟨h1, h2⟩, h3⟩, h4⟩ := h
  exact ⟨h1, h2, ⟨h3, fun x hx => (h4 x hx).1.1⟩, fun x y hx hy => (h4 x hx).1.2 y hy, fun x x' hx hx' hne => by
    rcases (h4 x hx).2 x' hx' with h | h
    · exact absurd h hne
    · exact h⟩

/-- rows and columns with signs -/
def Sg (n : Nat) (H H' : List (List Int)) : Prop :=
  Sqr n H' ∧ ∃ e f : Nat → Int, (∀ x, Pm (e x)) ∧ (∀ y, Pm (f y)) ∧ ∀ x y, x < n → y < n → at2 H' x y = e x * f y * at2 H x y
theorem Sg.refl {n : Nat} {H : List (List Int)} (h : Sqr n H) : Sg n H H :=
  ⟨h, fun _ => 1, fun _ => 1, fun _ => .inl rfl, fun _ => .inl rfl, fun x y _ _ => by simp⟩
theorem Sg.trans {n : Nat} {H H' H'' : List (List Int)} (h : Sg n H H') (h' : Sg n H' H'') : Sg n H H'' := by
  obtain ⟨_, e, f, he, hf, hA⟩ := h
  obtain ⟨hs, e', f', he', hf', hA'⟩ := h'
  refine ⟨hs, fun x => e' x * e x, fun y => f' y * f y, fun x => (he' x).mul (he x), fun y => (hf' y).mul (hf y), fun x y hx hy => ?_⟩
  rw [hA' x y hx hy, hA x y hx hy]
  grind
theorem Sg.had {n : Nat} {H H' : List (List Int)} (h : Sg n H H') (hH : Had n H) : Had n H' := by
  obtain ⟨hs, e, f, he, hf, hA⟩ := h
  refine ⟨hH.pos, hH.le, hs, fun x y hx hy => ?_, fun x x' hx hx' hne => ?_⟩
  · rw [hA x y hx hy]; exact ((he x).mul (hf y)).mul (hH.el x y hx hy)
  · rw [sN_congr (g := fun y => (e x * e x') * (at2 H x y * at2 H x' y)) (fun y hy => by
      rw [hA x y hx hy, hA x' y hx' hy]
      have := (hf y).sq
      grind), sN_mul, hH.dot x x' hx hx' hne, Int.mul_zero]
/-- a line negated -/
def ngF (H : List (List Int)) (line : Nat) (row : Bool) (i : Nat) (x y : Nat) : Int :=
  if (row = true ∧ x = line ∧ y < i) ∨ (row = false ∧ y = line ∧ x < i) then -at2 H x y else at2 H x y
def ngP (n : Nat) (H : List (List Int)) (line : Nat) (row : Bool) (i : Nat) : List (List Int) := sqF n (ngF H line row i)
def ngL (n : Nat) (H : List (List Int)) (line : Nat) (row : Bool) : List (List Int) := ngP n H line row n
theorem ngP_0 {n : Nat} {H : List (List Int)} (h : Sqr n H) (line : Nat) (row : Bool) : ngP n H line row 0 = H :=
  sq_ext (sqF_sqr _ _) h (fun x y hx hy => by rw [ngP, at2_sqF hx hy, ngF, if_neg (by omega)])
theorem ngP_row {n : Nat} {H : List (List Int)} {line i : Nat} (hl : line < n) (hi : i < n) : putS (ngP n H line true i) line i (-at2 (ngP n H line true i) line i) = ngP n H line true (i + 1) := by
  refine sq_ext (n := n) (putS_sqr (sqF_sqr _ _) hl _ _) (sqF_sqr _ _) (fun x y hx hy => ?_)
  rw [at2_putS (S := ngP n H line true i) (n := n) (sqF_sqr _ _) hl hi]
  simp only [ngP, at2_sqF hx hy, at2_sqF hl hi, ngF]
  by_cases h : line = x ∧ i = y
  · rw [if_pos h]; obtain ⟨rfl, rfl⟩ := h
    rw [if_neg (by simp), if_pos (by simp)]
  · rw [if_neg h]
    by_cases h2 : x = line ∧ y < i
    · rw [if_pos (by simp [h2]), if_pos (by simp [h2]; omega)]
    · rw [if_neg (by simpa using fun a => by simpa [a] using h2), if_neg (by simp only [true_and, Bool.true_eq_false, false_and, or_false]; omega)]
theorem ngP_col {n : Nat} {H : List (List Int)} {line i : Nat} (hl : line < n) (hi : i < n) : putS (ngP n H line false i) i line (-at2 (ngP n H line false i) i line) = ngP n H line false (i + 1) := by
  refine sq_ext (n := n) (putS_sqr (sqF_sqr _ _) hi _ _) (sqF_sqr _ _) (fun x y hx hy => ?_)
  rw [at2_putS (S := ngP n H line false i) (n := n) (sqF_sqr _ _) hi hl]
  simp only [ngP, at2_sqF hx hy, at2_sqF hi hl, ngF, Bool.false_eq_true, false_and, false_or, true_and]
  by_cases h : i = x ∧ line = y
  · rw [if_pos h]; obtain ⟨rfl, rfl⟩ := h
    rw [if_neg (by omega), if_pos (by omega)]
  · rw [if_neg h]
    by_cases h2 : y = line ∧ x < i
    · rw [if_pos h2, if_pos (by omega)]
    · rw [if_neg h2, if_neg (by omega)]
theorem ngL_sg {n : Nat} {H : List (List Int)} (line : Nat) (row : Bool) : Sg n H (ngL n H line row) := by
  refine ⟨sqF_sqr _ _, fun x => if row = true ∧ x = line then -1 else 1, fun y => if row = false ∧ y = line then -1 else 1, fun x => ?_, fun y => ?_, fun x y hx hy => ?_⟩
  · show Pm (if _ then _ else _); split
    · exact .inr rfl
    · exact .inl rfl
  · show Pm (if _ then _ else _); split
    · exact .inr rfl
    · exact .inl rfl
  · rw [ngL, ngP, at2_sqF hx hy, ngF]
    cases row <;> simp [hx, hy]
    · by_cases h : y = line <;> simp [h]
    · by_cases h : x = line <;> simp [h]
/-- rows in another order -/
theorem Had.rows {n : Nat} {H H' : List (List Int)} {p : List Int} (hH : Had n H) (hp : IsP p) (hpl : p.length = n) (hl : H'.length = n) (h : ∀ x, x < n → xat H' x = xat H (pf p x)) : Had n H' := by
  have hb : ∀ x, x < n → pf p x < n := fun x hx => by rw [← hpl]; exact hp.pf_lt (by omega)
  have ha : ∀ x y, x < n → at2 H' x y = at2 H (pf p x) y := fun x y hx => by rw [at2, h x hx]; rfl
  refine ⟨hH.pos, hH.le, ⟨hl, fun x hx => by rw [h x hx]; exact hH.sqr.row _ (hb x hx)⟩, fun x y hx hy => by rw [ha x y hx]; exact hH.el _ _ (hb x hx) hy, fun x x' hx hx' hne => ?_⟩
  rw [sN_congr (g := fun y => at2 H (pf p x) y * at2 H (pf p x') y) (fun y _ => by rw [ha x y hx, ha x' y hx'])]
  exact hH.dot _ _ (hb x hx) (hb x' hx') (fun e => hne (hp.inj x x' (by omega) (by omega) (by rw [nth_pf hp (by omega), nth_pf hp (by omega), e])))

/-- products -/
def prF (m : Nat) (A B : List (List Int)) (r c : Nat) : Int := at2 A (r / m) (c / m) * at2 B (r % m) (c % m)
def prH (n m : Nat) (A B : List (List Int)) : List (List Int) := sqF (n * m) (prF m A B)
theorem Had.prod {n m : Nat} {A B : List (List Int)} (hA : Had n A) (hB : Had m B) (h : n * m ≤ 32) : Had (n * m) (prH n m A B) := by
  have h0 := hA.pos
  have h1 := hB.pos
  have hd : ∀ r, r < n * m → r / m < n ∧ r % m < m := fun r hr => ⟨Nat.div_lt_of_lt_mul (by rw [Nat.mul_comm]; exact hr), Nat.mod_lt _ h1⟩
  refine ⟨Nat.mul_pos h0 h1, h, sqF_sqr _ _, fun x y hx hy => ?_, fun x x' hx hx' hne => ?_⟩
  · rw [prH, at2_sqF hx hy]
    exact (hA.el _ _ (hd x hx).1 (hd y hy).1).mul (hB.el _ _ (hd x hx).2 (hd y hy).2)
  · rw [sN_congr (g := fun c => (at2 A (x / m) (c / m) * at2 A (x' / m) (c / m)) * (at2 B (x % m) (c % m) * at2 B (x' % m) (c % m))) (fun c hc => by
      rw [prH, at2_sqF hx hc, at2_sqF hx' hc, prF, prF]; grind), sN_prod n m h1 (fun y => at2 A (x / m) y * at2 A (x' / m) y) (fun y => at2 B (x % m) y * at2 B (x' % m) y)]
    by_cases e : x / m = x' / m
    · have e2 : x % m ≠ x' % m := fun e2 => hne (by rw [← Nat.div_add_mod x m, ← Nat.div_add_mod x' m, e, e2])
      rw [hB.dot _ _ (hd x hx).2 (hd x' hx').2 e2, Int.mul_zero]
    · rw [hA.dot _ _ (hd x hx).1 (hd x' hx').1 e, Int.zero_mul]
/-- the matrices of Sylvester -/
def syl2 : List (List Int) := [[1, 1], [1, -1]]
theorem syl2_had : Had 2 syl2 := hadB_ok (by decide +kernel)
def sylL : Nat → List (List Int)
  | 0 => [[1]]
  | k + 1 => prH 2 (2 ^ k) syl2 (sylL k)
theorem sylL_had : ∀ {k : Nat}, k ≤ 5 → Had (2 ^ k) (sylL k)
  | 0, _ => hadB_ok (by decide +kernel)
  | k + 1, h => by
    have h2 : 2 * 2 ^ k ≤ 32 := by
      have : 2 ^ k ≤ 2 ^ 4 := Nat.pow_le_pow_right (by omega) (by omega)
      omega
    rw [Nat.pow_succ, Nat.mul_comm]
    exact syl2_had.prod (sylL_had (k := k) (by omega)) h2
/-- a number put into an increasing list -/
def putL : List Int → Int → List Int
  | [], n => [n]
  | x :: r, n => if n < x then n :: x :: r else if x = n then x :: r else x :: putL r n
theorem putL_len : ∀ (xs : List Int) (n : Int), (putL xs n).length ≤ xs.length + 1
  | [], n => by simp [putL]
  | x :: r, n => by
    rw [putL]
    split
    · simp
    · split
      · simp
      · have := putL_len r n; simp; omega
/-- the squares of a field -/
def sqsL (p : Int) (D : Nat) (fs : List Int) : Nat → List Int
  | 0 => []
  | k + 1 => putL (sqsL p D fs k) (fmul p D fs ((k : Int) + 1) ((k : Int) + 1))
theorem sqsL_len (p : Int) (D : Nat) (fs : List Int) : ∀ k, (sqsL p D fs k).length ≤ k
  | 0 => by simp [sqsL]
  | k + 1 => by rw [sqsL]; have := putL_len (sqsL p D fs k) (fmul p D fs ((k : Int) + 1) ((k : Int) + 1)); have := sqsL_len p D fs k; omega
/-- the matrices of Paley -/
def payS (p : Int) (D : Nat) (sq : List Int) (x y : Nat) : Int := if fsum p D (y : Int) (x : Int) (p - 1) ∈ sq then 1 else -1
def payR (p : Int) (D : Nat) (sq : List Int) (q x k : Nat) : List Int := (1 : Int) :: tab k (payS p D sq x)
def payP (p : Int) (D : Nat) (sq : List Int) (q k : Nat) : List (List Int) := ((1 : Int) :: tab q fun _ => 1) :: (List.range k).map fun x => payR p D sq q x q
def payL (p : Int) (D : Nat) (fs : List Int) (q : Nat) : List (List Int) := payP p D (sqsL p D fs (q - 1)) q q
theorem payL_had {q : Nat} (h : q = 3 ∨ q = 7 ∨ q = 11 ∨ q = 19) : Had (q + 1) (payL ((spl q).1 : Nat) (spl q).2 (mkF q) q) := by
  rcases h with rfl | rfl | rfl | rfl
  · exact hadB_ok (by decide +kernel)
  · exact hadB_ok (by decide +kernel)
  · exact hadB_ok (by decide +kernel)
  · exact hadB_ok (by decide +kernel)

/-- the sum of products of four rows -/
def quad (n : Nat) (H : List (List Int)) (a b c d : Nat) : Int := sN n fun y => at2 H a y * at2 H b y * at2 H c y * at2 H d y
def absI (x : Int) : Int := if x < 0 then -x else x
theorem quad_bd {n : Nat} {H : List (List Int)} (h : Had n H) {a b c d : Nat} (ha : a < n) (hb : b < n) (hc : c < n) (hd : d < n) : -(n : Int) ≤ quad n H a b c d ∧ quad n H a b c d ≤ n :=
  sN_bd fun y hy => ((((h.el a y ha hy).mul (h.el b y hb hy)).mul (h.el c y hc hy)).mul (h.el d y hd hy)).bd
theorem quad_sg {n : Nat} {H H' : List (List Int)} (h : Sg n H H') {a b c d : Nat} (ha : a < n) (hb : b < n) (hc : c < n) (hd : d < n) : absI (quad n H' a b c d) = absI (quad n H a b c d) := by
  obtain ⟨hs, e, f, he, hf, hA⟩ := h
  have h1 : quad n H' a b c d = (e a * e b * e c * e d) * quad n H a b c d := by
    rw [quad, quad, ← sN_mul]
    refine sN_congr fun y hy => ?_
    rw [hA a y ha hy, hA b y hb hy, hA c y hc hy, hA d y hd hy]
    have := (hf y).sq
    grind
  rw [h1]
  rcases (((he a).mul (he b)).mul (he c)).mul (he d) with h | h
  · rw [h, Int.one_mul]
  · rw [h]; unfold absI; split <;> split <;> omega
/-- the sets of four, one behind the other -/
def itS (n : Int) : Nat → List Int
  | 0 => [0, 1, 2, 3]
  | r + 1 => (nxt n (itS n r)).getD []
theorem itS_ok {n : Int} (n0 : 4 ≤ n) (n1 : n ≤ 32) : ∀ r : Nat, (r : Int) < choose n 4 → incB (-1) n (itS n r) = true ∧ (itS n r).length = 4 ∧ rkF n 0 (itS n r) = r ∧
    ((nxt n (itS n r) = none ∧ (r : Int) + 1 = choose n 4) ∨ (nxt n (itS n r) = some (itS n (r + 1)) ∧ (r : Int) + 1 < choose n 4)) := by
  have step : ∀ r : Nat, incB (-1) n (itS n r) = true → (itS n r).length = 4 → rkF n 0 (itS n r) = r → ((nxt n (itS n r) = none ∧ (r : Int) + 1 = choose n 4) ∨ (nxt n (itS n r) = some (itS n (r + 1)) ∧ (r : Int) + 1 < choose n 4 ∧ incB (-1) n (itS n (r + 1)) = true ∧ (itS n (r + 1)).length = 4 ∧ rkF n 0 (itS n (r + 1)) = ((r + 1 : Nat) : Int))) := by
    intro r h1 h2 h3
    have h4 := nxR_ok n1 (itS n r) 0 (by omega) (by omega) (by rw [show (0 : Int) - 1 = -1 from rfl]; exact h1)
    rw [← nxt_nxR] at h4
    cases h5 : nxt n (itS n r) with
    | none =>
      rw [h5] at h4
      left
      simp only [h2, h3, Int.sub_zero] at h4
      exact ⟨rfl, by rw [show ((4 : Nat) : Int) = 4 from rfl] at h4; omega⟩
    | some ys =>
      rw [h5] at h4
      obtain ⟨h6, h7, h8, _⟩ := h4
      have h9 : itS n (r + 1) = ys := by rw [itS, h5]; rfl
      right
      rw [h9]
      have h10 := rkF_bd n1 ys 0 (by omega) (by omega) h6
      rw [h7, h2, h8, h3, Int.sub_zero, show ((4 : Nat) : Int) = 4 from rfl] at h10
      exact ⟨rfl, h10, h6, by rw [h7, h2], by rw [h8, h3]; rfl⟩
  have all : ∀ r : Nat, (r : Int) < choose n 4 → incB (-1) n (itS n r) = true ∧ (itS n r).length = 4 ∧ rkF n 0 (itS n r) = r := by
    intro r
    induction r with
    | zero => exact fun _ => ⟨incB_runL 4 0 (-1) (by omega) (by omega), rfl, rkF_runL 4 0⟩
    | succ r ih =>
      intro hr
      obtain ⟨h1, h2, h3⟩ := ih (by omega)
      rcases step r h1 h2 h3 with ⟨_, h⟩ | ⟨_, _, h⟩
      · omega
      · exact h
  intro r hr
  obtain ⟨h1, h2, h3⟩ := all r hr
  refine ⟨h1, h2, h3, ?_⟩
  rcases step r h1 h2 h3 with h | ⟨h, h', _⟩
  · exact .inl h
  · exact .inr ⟨h, h'⟩
theorem itS_at {n : Nat} (n0 : 4 ≤ n) (n1 : n ≤ 32) {r : Nat} (hr : (r : Int) < choose n 4) {i : Nat} (hi : i < 4) : ∃ a : Nat, nth (itS n r) i = a ∧ a < n := by
  obtain ⟨h1, h2, _⟩ := itS_ok (n := n) (by omega) (by omega) r hr
  have := incB_gt h1 _ (nth_mem (j := i) (by omega))
  exact ⟨(nth (itS n r) i).toNat, by omega, by omega⟩
theorem itS_next {n : Nat} (n0 : 4 ≤ n) (n1 : n ≤ 32) {r : Nat} (hr : (r : Int) < choose n 4) :
    nxtV n (itS n r) = if (r : Int) + 1 < choose n 4 then some (itS n (r + 1)) else none := by
  obtain ⟨h1, _, _, h⟩ := itS_ok (n := n) (by omega) (by omega) r hr
  rw [nxtV, if_pos (by simp [validSetB, h1, inB]; omega)]
  rcases h with ⟨h, h'⟩ | ⟨h, h'⟩
  · rw [h, if_neg (by omega)]
  · rw [h, if_pos h']
/-- the profile, behind r sets -/
def qAt (n : Nat) (H : List (List Int)) (s : List Int) : Int := quad n H (pf s 0) (pf s 1) (pf s 2) (pf s 3)
def prf (n : Nat) (H : List (List Int)) : Nat → List Int
  | 0 => List.replicate (n + 1) 0
  | r + 1 => (prf n H r).set (absI (qAt n H (itS n r))).toNat (nth (prf n H r) (absI (qAt n H (itS n r))).toNat + 1)
theorem prf_len (n : Nat) (H : List (List Int)) : ∀ r, (prf n H r).length = n + 1
  | 0 => by simp [prf]
  | r + 1 => by rw [prf, List.length_set, prf_len n H r]
theorem prf_bd (n : Nat) (H : List (List Int)) (j : Nat) : ∀ r : Nat, 0 ≤ nth (prf n H r) j ∧ nth (prf n H r) j ≤ r
  | 0 => by
    rw [prf]
    by_cases h : j < n + 1
    · rw [nth_eq (by simpa using h)]; simp
    · rw [nth, List.getD, List.getElem?_eq_none (by simp; omega)]; simp
  | r + 1 => by
    have ih := prf_bd n H j r
    rw [prf]
    by_cases h : (absI (qAt n H (itS n r))).toNat < (prf n H r).length
    · rw [nth_set h]
      split
      · rename_i e; rw [e]; push_cast; omega
      · push_cast; omega
    · rw [List.set_eq_of_length_le (by omega)]; push_cast; omega
theorem qAt_bd {n : Nat} {H : List (List Int)} (h : Had n H) (n0 : 4 ≤ n) {r : Nat} (hr : (r : Int) < choose n 4) : 0 ≤ absI (qAt n H (itS n r)) ∧ absI (qAt n H (itS n r)) ≤ n := by
  have hp : ∀ i, i < 4 → pf (itS n r) i < n := fun i hi => by obtain ⟨a, ha, hn⟩ := itS_at n0 h.le hr hi; rw [pf, ha]; exact hn
  have := quad_bd h (hp 0 (by omega)) (hp 1 (by omega)) (hp 2 (by omega)) (hp 3 (by omega))
  unfold qAt absI; split <;> omega
theorem prf_sum {n : Nat} {H : List (List Int)} (h : Had n H) (n0 : 4 ≤ n) : ∀ r : Nat, (r : Int) ≤ choose n 4 → sumL (prf n H r) = r
  | 0, _ => by rw [prf, sumL_rep]; simp
  | r + 1, hr => by
    have hb := qAt_bd h n0 (r := r) (by omega)
    have := sumL_set (xs := prf n H r) (p := (absI (qAt n H (itS n r))).toNat) (by rw [prf_len]; omega)
    rw [prf]
    show sumL ((prf n H r).set _ (pn (prf n H r) _ + 1)) = _
    rw [this, prf_sum h n0 r (by omega)]; rfl
theorem prf_sg {n : Nat} {H H' : List (List Int)} (hs : Sg n H H') (h : Had n H) (n0 : 4 ≤ n) : ∀ r : Nat, (r : Int) ≤ choose n 4 → prf n H' r = prf n H r
  | 0, _ => rfl
  | r + 1, hr => by
    have hp : ∀ i, i < 4 → pf (itS n r) i < n := fun i hi => by obtain ⟨a, ha, hn⟩ := itS_at (r := r) n0 h.le (by omega) hi; rw [pf, ha]; exact hn
    rw [prf, prf, prf_sg hs h n0 r (by omega)]
    unfold qAt
    rw [quad_sg hs (hp 0 (by omega)) (hp 1 (by omega)) (hp 2 (by omega)) (hp 3 (by omega))]
def proL (n : Nat) (H : List (List Int)) : List Int := if n < 4 then List.replicate (n + 1) 0 else prf n H (choose n 4).toNat
theorem proL_len (n : Nat) (H : List (List Int)) : (proL n H).length = n + 1 := by
  unfold proL; split
  · simp
  · exact prf_len _ _ _
theorem proL_sg {n : Nat} {H H' : List (List Int)} (hs : Sg n H H') (h : Had n H) : proL n H' = proL n H := by
  unfold proL; split
  · rfl
  · exact prf_sg hs h (by omega) _ (by have := (choose_bd n 4).1; omega)
theorem proL_sum {n : Nat} {H : List (List Int)} (h : Had n H) : sumL (proL n H) = choose n 4 := by
  unfold proL; split
  · rw [sumL_rep, choose_gt (by omega)]; simp
  · rw [prf_sum h (by omega) _ (by have := (choose_bd n 4).1; omega)]; have := (choose_bd n 4).1; omega
end Go.Proofs.Ytpfgbbbjldpnnaa
