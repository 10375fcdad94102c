/- The texts of this claim, run 5: PPut PHad Src Src2 Put Dig Fx Fld5 AnyR VMat Sum Mul. -/
import Derived.Test.YtnodcfhdfpeokaaGreatK1
import Derived.Test.YtnodcfhdfpeokaaGreatK3
import Derived.Test.YtnodcfhdfpeokaaGreatK4
import Derived.Deep.RegionHeld3
import Derived.Deep.DrawnRows
section
/- Plain: a number put into an increasing list. -/
namespace Go.Proofs.YtnodcfhdfpeokaaGreat
set_option linter.unusedSimpArgs false
set_option linter.unusedVariables false

/-- a number put into an increasing list -/
def putL : List Int → Int → List Int
  | [], n => [n]
  | x :: r, n => if n < x then n :: x :: r else if x = n then x :: r else x :: putL r n
theorem putL_len : ∀ (xs : List Int) (n : Int), (putL xs n).length ≤ xs.length + 1
  | [], n => by simp [putL]
  | x :: r, n => by
    rw [putL]
    split
    · simp
    · split
      · simp
      · have := putL_len r n; simp; omega
end Go.Proofs.YtnodcfhdfpeokaaGreat
end

section
/- Plain: Hadamard matrices, their signs and their profiles. -/
namespace Go.Proofs.YtnodcfhdfpeokaaGreat
set_option linter.unusedSimpArgs false
set_option linter.unusedVariables false

/-- a sign -/
def Pm (x : Int) : Prop := x = 1 ∨ x = -1
theorem Pm.mul {x y : Int} (hx : Pm x) (hy : Pm y) : Pm (x * y) := by
  rcases hx with rfl | rfl <;> rcases hy with rfl | rfl <;> simp [Pm]
theorem Pm.sq {x : Int} (hx : Pm x) : x * x = 1 := by rcases hx with rfl | rfl <;> rfl
theorem Pm.bd {x : Int} (hx : Pm x) : -1 ≤ x ∧ x ≤ 1 := by rcases hx with rfl | rfl <;> omega
theorem Pm.neg {x : Int} (hx : Pm x) : Pm (-x) := by rcases hx with rfl | rfl <;> simp [Pm]
/-- sums -/
def sN : Nat → (Nat → Int) → Int
  | 0, _ => 0
  | n + 1, f => sN n f + f n
theorem sN_congr {f g : Nat → Int} : ∀ {n : Nat}, (∀ k, k < n → f k = g k) → sN n f = sN n g
  | 0, _ => rfl
  | n + 1, h => by rw [sN, sN, sN_congr (n := n) (fun k hk => h k (by omega)), h n (by omega)]
theorem sN_mul (c : Int) (f : Nat → Int) : ∀ n : Nat, sN n (fun k => c * f k) = c * sN n f
  | 0 => by simp [sN]
  | n + 1 => by rw [sN, sN, sN_mul c f n, Int.mul_add]
theorem sN_add (a : Nat) (f : Nat → Int) : ∀ b : Nat, sN (a + b) f = sN a f + sN b fun k => f (a + k)
  | 0 => by simp [sN]
  | b + 1 => by rw [show a + (b + 1) = (a + b) + 1 from rfl, sN, sN, sN_add a f b]; omega
theorem sN_bd {f : Nat → Int} : ∀ {n : Nat}, (∀ k, k < n → -1 ≤ f k ∧ f k ≤ 1) → -(n : Int) ≤ sN n f ∧ sN n f ≤ n
  | 0, _ => by simp [sN]
  | n + 1, h => by
    have h1 := sN_bd (n := n) (fun k hk => h k (by omega))
    have h2 := h n (by omega)
    rw [sN]; push_cast; omega
theorem sN_prod (n m : Nat) (hm : 0 < m) (f g : Nat → Int) : sN (n * m) (fun c => f (c / m) * g (c % m)) = sN n f * sN m g := by
  induction n with
  | zero => simp [sN]
  | succ n ih =>
    rw [Nat.succ_mul, sN_add, ih, sN, Int.add_mul]
    congr 1
    rw [← sN_mul]
    refine sN_congr fun k hk => ?_
    show f ((n * m + k) / m) * g ((n * m + k) % m) = f n * g k
    rw [show (n * m + k) / m = n by rw [Nat.mul_comm, Nat.mul_add_div hm, Nat.div_eq_of_lt hk]; rfl, show (n * m + k) % m = k by rw [Nat.mul_comm, Nat.mul_add_mod, Nat.mod_eq_of_lt hk]]

/-- a Hadamard matrix -/
structure Had (n : Nat) (H : List (List Int)) : Prop where
  pos : 1 ≤ n
  le : n ≤ 32
  sqr : Sqr n H
  el : ∀ x y, x < n → y < n → Pm (at2 H x y)
  dot : ∀ x x', x < n → x' < n → x ≠ x' → sN n (fun y => at2 H x y * at2 H x' y) = 0
def hadB (n : Nat) (H : List (List Int)) : Bool :=
  decide (1 ≤ n) && decide (n ≤ 32) && (H.length == n) && (List.range n).all fun x => ((xat H x).length == n) && ((List.range n).all fun y => (at2 H x y == 1) || (at2 H x y == -1)) && (List.range n).all fun x' => (x == x') || (sN n (fun y => at2 H x y * at2 H x' y) == 0)
theorem hadB_ok {n : Nat} {H : List (List Int)} (h : hadB n H = true) : Had n H := by
  simp only [hadB, Bool.and_eq_true, Bool.or_eq_true, List.all_eq_true, List.mem_range, beq_iff_eq, decide_eq_true_eq] at h
  obtain ⟨⟨⟨h1, h2⟩, h3⟩, h4⟩ := h
  exact ⟨h1, h2, ⟨h3, fun x hx => (h4 x hx).1.1⟩, fun x y hx hy => (h4 x hx).1.2 y hy, fun x x' hx hx' hne => by
    rcases (h4 x hx).2 x' hx' with h | h
    · exact absurd h hne
    · exact h⟩

/-- rows and columns with signs -/
def Sg (n : Nat) (H H' : List (List Int)) : Prop :=
  Sqr n H' ∧ ∃ e f : Nat → Int, (∀ x, Pm (e x)) ∧ (∀ y, Pm (f y)) ∧ ∀ x y, x < n → y < n → at2 H' x y = e x * f y * at2 H x y
theorem Sg.refl {n : Nat} {H : List (List Int)} (h : Sqr n H) : Sg n H H :=
  ⟨h, fun _ => 1, fun _ => 1, fun _ => .inl rfl, fun _ => .inl rfl, fun x y _ _ => by simp⟩
theorem Sg.trans {n : Nat} {H H' H'' : List (List Int)} (h : Sg n H H') (h' : Sg n H' H'') : Sg n H H'' := by
  obtain ⟨_, e, f, he, hf, hA⟩ := h
  obtain ⟨hs, e', f', he', hf', hA'⟩ := h'
  refine ⟨hs, fun x => e' x * e x, fun y => f' y * f y, fun x => (he' x).mul (he x), fun y => (hf' y).mul (hf y), fun x y hx hy => ?_⟩
  rw [hA' x y hx hy, hA x y hx hy]
  grind
theorem Sg.had {n : Nat} {H H' : List (List Int)} (h : Sg n H H') (hH : Had n H) : Had n H' := by
  obtain ⟨hs, e, f, he, hf, hA⟩ := h
  refine ⟨hH.pos, hH.le, hs, fun x y hx hy => ?_, fun x x' hx hx' hne => ?_⟩
  · rw [hA x y hx hy]; exact ((he x).mul (hf y)).mul (hH.el x y hx hy)
  · rw [sN_congr (g := fun y => (e x * e x') * (at2 H x y * at2 H x' y)) (fun y hy => by
      rw [hA x y hx hy, hA x' y hx' hy]
      have := (hf y).sq
      grind), sN_mul, hH.dot x x' hx hx' hne, Int.mul_zero]
/-- a line negated -/
def ngF (H : List (List Int)) (line : Nat) (row : Bool) (i : Nat) (x y : Nat) : Int :=
  if (row = true ∧ x = line ∧ y < i) ∨ (row = false ∧ y = line ∧ x < i) then -at2 H x y else at2 H x y
def ngP (n : Nat) (H : List (List Int)) (line : Nat) (row : Bool) (i : Nat) : List (List Int) := sqF n (ngF H line row i)
def ngL (n : Nat) (H : List (List Int)) (line : Nat) (row : Bool) : List (List Int) := ngP n H line row n
theorem ngP_0 {n : Nat} {H : List (List Int)} (h : Sqr n H) (line : Nat) (row : Bool) : ngP n H line row 0 = H :=
  sq_ext (sqF_sqr _ _) h (fun x y hx hy => by rw [ngP, at2_sqF hx hy, ngF, if_neg (by omega)])
theorem ngP_row {n : Nat} {H : List (List Int)} {line i : Nat} (hl : line < n) (hi : i < n) : putS (ngP n H line true i) line i (-at2 (ngP n H line true i) line i) = ngP n H line true (i + 1) := by
  refine sq_ext (n := n) (putS_sqr (sqF_sqr _ _) hl _ _) (sqF_sqr _ _) (fun x y hx hy => ?_)
  rw [at2_putS (S := ngP n H line true i) (n := n) (sqF_sqr _ _) hl hi]
  simp only [ngP, at2_sqF hx hy, at2_sqF hl hi, ngF]
  by_cases h : line = x ∧ i = y
  · rw [if_pos h]; obtain ⟨rfl, rfl⟩ := h
    rw [if_neg (by simp), if_pos (by simp)]
  · rw [if_neg h]
    by_cases h2 : x = line ∧ y < i
    · rw [if_pos (by simp [h2]), if_pos (by simp [h2]; omega)]
    · rw [if_neg (by simpa using fun a => by simpa [a] using h2), if_neg (by simp only [true_and, Bool.true_eq_false, false_and, or_false]; omega)]
theorem ngP_col {n : Nat} {H : List (List Int)} {line i : Nat} (hl : line < n) (hi : i < n) : putS (ngP n H line false i) i line (-at2 (ngP n H line false i) i line) = ngP n H line false (i + 1) := by
  refine sq_ext (n := n) (putS_sqr (sqF_sqr _ _) hi _ _) (sqF_sqr _ _) (fun x y hx hy => ?_)
  rw [at2_putS (S := ngP n H line false i) (n := n) (sqF_sqr _ _) hi hl]
  simp only [ngP, at2_sqF hx hy, at2_sqF hi hl, ngF, Bool.false_eq_true, false_and, false_or, true_and]
  by_cases h : i = x ∧ line = y
  · rw [if_pos h]; obtain ⟨rfl, rfl⟩ := h
    rw [if_neg (by omega), if_pos (by omega)]
  · rw [if_neg h]
    by_cases h2 : y = line ∧ x < i
    · rw [if_pos h2, if_pos (by omega)]
    · rw [if_neg h2, if_neg (by omega)]
theorem ngL_sg {n : Nat} {H : List (List Int)} (line : Nat) (row : Bool) : Sg n H (ngL n H line row) := by
  refine ⟨sqF_sqr _ _, fun x => if row = true ∧ x = line then -1 else 1, fun y => if row = false ∧ y = line then -1 else 1, fun x => ?_, fun y => ?_, fun x y hx hy => ?_⟩
  · show Pm (if _ then _ else _); split
    · exact .inr rfl
    · exact .inl rfl
  · show Pm (if _ then _ else _); split
    · exact .inr rfl
    · exact .inl rfl
  · rw [ngL, ngP, at2_sqF hx hy, ngF]
    cases row <;> simp [hx, hy]
    · by_cases h : y = line <;> simp [h]
    · by_cases h : x = line <;> simp [h]
/-- rows in another order -/
theorem Had.rows {n : Nat} {H H' : List (List Int)} {p : List Int} (hH : Had n H) (hp : IsP p) (hpl : p.length = n) (hl : H'.length = n) (h : ∀ x, x < n → xat H' x = xat H (pf p x)) : Had n H' := by
  have hb : ∀ x, x < n → pf p x < n := fun x hx => by rw [← hpl]; exact hp.pf_lt (by omega)
  have ha : ∀ x y, x < n → at2 H' x y = at2 H (pf p x) y := fun x y hx => by rw [at2, h x hx]; rfl
  refine ⟨hH.pos, hH.le, ⟨hl, fun x hx => by rw [h x hx]; exact hH.sqr.row _ (hb x hx)⟩, fun x y hx hy => by rw [ha x y hx]; exact hH.el _ _ (hb x hx) hy, fun x x' hx hx' hne => ?_⟩
  rw [sN_congr (g := fun y => at2 H (pf p x) y * at2 H (pf p x') y) (fun y _ => by rw [ha x y hx, ha x' y hx'])]
  exact hH.dot _ _ (hb x hx) (hb x' hx') (fun e => hne (hp.inj x x' (by omega) (by omega) (by rw [nth_pf hp (by omega), nth_pf hp (by omega), e])))

/-- products -/
def prF (m : Nat) (A B : List (List Int)) (r c : Nat) : Int := at2 A (r / m) (c / m) * at2 B (r % m) (c % m)
def prH (n m : Nat) (A B : List (List Int)) : List (List Int) := sqF (n * m) (prF m A B)
theorem Had.prod {n m : Nat} {A B : List (List Int)} (hA : Had n A) (hB : Had m B) (h : n * m ≤ 32) : Had (n * m) (prH n m A B) := by
  have h0 := hA.pos
  have h1 := hB.pos
  have hd : ∀ r, r < n * m → r / m < n ∧ r % m < m := fun r hr => ⟨Nat.div_lt_of_lt_mul (by rw [Nat.mul_comm]; exact hr), Nat.mod_lt _ h1⟩
  refine ⟨Nat.mul_pos h0 h1, h, sqF_sqr _ _, fun x y hx hy => ?_, fun x x' hx hx' hne => ?_⟩
  · rw [prH, at2_sqF hx hy]
    exact (hA.el _ _ (hd x hx).1 (hd y hy).1).mul (hB.el _ _ (hd x hx).2 (hd y hy).2)
  · rw [sN_congr (g := fun c => (at2 A (x / m) (c / m) * at2 A (x' / m) (c / m)) * (at2 B (x % m) (c % m) * at2 B (x' % m) (c % m))) (fun c hc => by
      rw [prH, at2_sqF hx hc, at2_sqF hx' hc, prF, prF]; grind), sN_prod n m h1 (fun y => at2 A (x / m) y * at2 A (x' / m) y) (fun y => at2 B (x % m) y * at2 B (x' % m) y)]
    by_cases e : x / m = x' / m
    · have e2 : x % m ≠ x' % m := fun e2 => hne (by rw [← Nat.div_add_mod x m, ← Nat.div_add_mod x' m, e, e2])
      rw [hB.dot _ _ (hd x hx).2 (hd x' hx').2 e2, Int.mul_zero]
    · rw [hA.dot _ _ (hd x hx).1 (hd x' hx').1 e, Int.zero_mul]
/-- the matrices of Sylvester -/
def syl2 : List (List Int) := [[1, 1], [1, -1]]
theorem syl2_had : Had 2 syl2 := hadB_ok (by decide +kernel)
def sylL : Nat → List (List Int)
  | 0 => [[1]]
  | k + 1 => prH 2 (2 ^ k) syl2 (sylL k)
theorem sylL_had : ∀ {k : Nat}, k ≤ 5 → Had (2 ^ k) (sylL k)
  | 0, _ => hadB_ok (by decide +kernel)
  | k + 1, h => by
    have h2 : 2 * 2 ^ k ≤ 32 := by
      have : 2 ^ k ≤ 2 ^ 4 := Nat.pow_le_pow_right (by omega) (by omega)
      omega
    rw [Nat.pow_succ, Nat.mul_comm]
    exact syl2_had.prod (sylL_had (k := k) (by omega)) h2
/-- the squares of a field -/
def sqsL (p : Int) (D : Nat) (fs : List Int) : Nat → List Int
  | 0 => []
  | k + 1 => putL (sqsL p D fs k) (fmul p D fs ((k : Int) + 1) ((k : Int) + 1))
theorem sqsL_len (p : Int) (D : Nat) (fs : List Int) : ∀ k, (sqsL p D fs k).length ≤ k
  | 0 => by simp [sqsL]
  | k + 1 => by rw [sqsL]; have := putL_len (sqsL p D fs k) (fmul p D fs ((k : Int) + 1) ((k : Int) + 1)); have := sqsL_len p D fs k; omega
/-- the matrices of Paley -/
def payS (p : Int) (D : Nat) (sq : List Int) (x y : Nat) : Int := if fsum p D (y : Int) (x : Int) (p - 1) ∈ sq then 1 else -1
def payR (p : Int) (D : Nat) (sq : List Int) (q x k : Nat) : List Int := (1 : Int) :: tab k (payS p D sq x)
def payP (p : Int) (D : Nat) (sq : List Int) (q k : Nat) : List (List Int) := ((1 : Int) :: tab q fun _ => 1) :: (List.range k).map fun x => payR p D sq q x q
def payL (p : Int) (D : Nat) (fs : List Int) (q : Nat) : List (List Int) := payP p D (sqsL p D fs (q - 1)) q q
theorem payL_had {q : Nat} (h : q = 3 ∨ q = 7 ∨ q = 11 ∨ q = 19) : Had (q + 1) (payL ((spl q).1 : Nat) (spl q).2 (mkF q) q) := by
  rcases h with rfl | rfl | rfl | rfl
  · exact hadB_ok (by decide +kernel)
  · exact hadB_ok (by decide +kernel)
  · exact hadB_ok (by decide +kernel)
  · exact hadB_ok (by decide +kernel)

end Go.Proofs.YtnodcfhdfpeokaaGreat
end

section
/- The source of choices that the laws draw from. -/
namespace Go.Proofs.YtnodcfhdfpeokaaGreat
set_option linter.unusedSimpArgs false
set_option linter.unusedVariables false
open Go.RowKit

/-- the cells of some bytes -/
def bv (bs : List UInt8) : List Value := bs.map fun b => Value.int .u8 b.toNat
def RdB (w : World) (v : Value) (bs : List UInt8) : Prop := Rd w v (bv bs)
theorem bv_len (bs : List UInt8) : (bv bs).length = bs.length := by simp [bv]
def bnth (bs : List UInt8) (j : Nat) : Int := ((bs.getD j 0).toNat : Int)
theorem bnth_bd (bs : List UInt8) (j : Nat) : 0 ≤ bnth bs j ∧ bnth bs j ≤ 255 := by
  unfold bnth; have := (bs.getD j 0).toNat_lt; omega
theorem bv_get {bs : List UInt8} {j : Nat} (h : j < bs.length) : (bv bs).getD j undef = .int .u8 (bnth bs j) := by
  simp [bv, bnth, List.getD, List.getElem?_eq_getElem h]

theorem Tryz.und_bs : Tryz.prog.underlying 22 = some (.slice 5) := by kernel_rfl
theorem Tryz.size_b : (Tryz.prog.info? 5).map (·.size) = some 1 := by kernel_rfl

section
variable {w w' : World} {v : Value} {bs : List UInt8}
theorem RdB.le (h : RdB w v bs) : bs.length ≤ 9223372036854775807 := by have := h.sl.le; rwa [bv_len] at this
theorem RdB.len (h : RdB w v bs) (ty : TypeId) (W : World) : (Builtin.len_ #[22] ty #[v]).run Tryz.prog W = .ok (.int .i64 bs.length) W := by
  have := run_len_sl (P := Tryz.prog) h.sl 22 ty Tryz.und_bs W; rwa [bv_len] at this
theorem RdB.ix (h : RdB w v bs) (k : IntKind) (i : Int) (h0 : 0 ≤ i) (hi : i < bs.length) (W : World) :
    (Instr.indexAt 22 v (.int k i)).run Tryz.prog W = .ok (.pointer (some (el v i.toNat))) W :=
  run_ix_sl (P := Tryz.prog) h.sl 22 Tryz.und_bs Tryz.size_b k i h0 (by rw [bv_len]; exact hi) W
theorem RdB.cell (h : RdB w v bs) (j : Nat) (hj : j < bs.length) : w.cell? (el v j) = some (.int .u8 (bnth bs j)) := by
  rw [Rd.cell h (by rw [bv_len]; exact hj), bv_get hj]
theorem RdB.keep (h : RdB w v bs) (hb : Below w.heap.size w w') : RdB w' v bs := Rd.keep h hb
theorem RdB.sh (h : RdB w v bs) : ∃ a n c, v = .slice a n c := by obtain ⟨a, c, hv, _⟩ := h.sl; exact ⟨a, _, c, hv⟩
end
theorem St.oldB {w0 w : World} {L : List Ent} {v : Value} {bs : List UInt8} (h : St w0.heap.size w0 w L) (hr : RdB w0 v bs) : RdB w v bs := Rd.keep hr h.below

/-- the source lies at the head of what is owned, at most K bytes were drawn -/
def Src (w0 w : World) (cv : Value) (g : Nat) (K : Nat) (L : List Ent) : Prop :=
  ∃ p seed : Int, 0 ≤ p ∧ p ≤ K ∧ St w0.heap.size w0 w (box 65 g [cv, .int .i64 p, .int .u64 seed] :: L)

def AnInt (lo hi : Int) (R : World → Prop) (e : Ending) (w' : World) : Prop := ∃ x : Int, lo ≤ x ∧ x ≤ hi ∧ e = .returned (.int .i64 x) ∧ R w'

theorem Src.mono {w0 w : World} {cv : Value} {g K K' : Nat} {L : List Ent} (h : Src w0 w cv g K L) (hk : K ≤ K') : Src w0 w cv g K' L := by
  obtain ⟨p, s, h0, h1, h2⟩ := h; exact ⟨p, s, h0, by omega, h2⟩
theorem Src.st {w0 w : World} {cv : Value} {g K : Nat} {L : List Ent} (h : Src w0 w cv g K L) : St w0.heap.size w0 w L := by
  obtain ⟨p, s, h0, h1, h2⟩ := h; exact h2.sub (List.sublist_cons_self _ _)

theorem and255 (x : Int) : 0 ≤ wrap64 (bits BinOp.and IntKind.u64 (IntKind.u64.wrap x / 1099511627776) 255) ∧ wrap64 (bits BinOp.and IntKind.u64 (IntKind.u64.wrap x / 1099511627776) 255) ≤ 255 := by
  have h1 : 0 ≤ IntKind.u64.wrap x / 1099511627776 ∧ IntKind.u64.wrap x / 1099511627776 < 18446744073709551616 := by
    simp [IntKind.wrap, IntKind.bits, IntKind.signed]; omega
  rw [u64_and _ _ h1.1 h1.2 (by omega) (by omega)]
  have e255 : (255 : Int).toNat = 255 := rfl
  have h2 := Nat.and_le_right (n := (IntKind.u64.wrap x / 1099511627776).toNat) (m := (255 : Int).toNat)
  rw [e255] at h2 ⊢
  unfold wrap64
  omega

set_option maxHeartbeats 1000000 in
theorem next_c (w0 w : World) (cv : Value) (bs : List UInt8) (g K : Nat) (L : List Ent) (hb : RdB w0 cv bs) (h : Src w0 w cv g K L) (hK : K < 1099511627776) :
    Calls Tryz.prog 61 #[.pointer (some ⟨g, 0, none⟩)] w (AnInt 0 255 fun w' => Src w0 w' cv g (K + 1) L) := by
  obtain ⟨p, seed, h0, h1, hS⟩ := h
  obtain ⟨q, rfl⟩ := Int.eq_ofNat_of_zero_le h0
  have hc0 := hS.bcell 0 rfl 0 rfl
  have hc1 := hS.bcell 0 rfl 1 rfl
  have hc2 := hS.bcell 0 rfl 2 rfl
  have hf := hS.bfree 0 rfl
  have hbw := hS.oldB hb
  have hln := hb.len
  have hix := hb.ix
  have hcell := hbw.cell
  have hle := hb.le
  have hbd := bnth_bd bs q
  obtain ⟨hb0, hb1⟩ := hbd
  by_cases hlt : q < bs.length
  · have hlt' : q + 1 ≤ bs.length := hlt
    go_enter Tryz.func61, Tryz.ntmps61
    go_wp2_with fail
    go_quiet (fail)
    go_wp2_with fail
    go_quiet (fail)
    go_wp2_with fail
    refine abs_wp (((hS.drewN _).bstore 0 rfl 1 _).bstore 0 rfl 2 _) ?_
    intro w2 hS2
    clear hc0 hc1 hc2 hf
    have hc0 := hS2.bcell 0 rfl 0 rfl
    have hc1 := hS2.bcell 0 rfl 1 rfl
    go_quiet (fail)
    go_wp2_with fail
    go_ret
    exact ⟨_, hb0, hb1, rfl, _, _, by omega, by omega, hS2.drewN _⟩
  · have hlt' : ¬ q + 1 ≤ bs.length := by omega
    go_enter Tryz.func61, Tryz.ntmps61
    go_wp2_with fail
    go_quiet (fail)
    go_wp2_with fail
    refine abs_wp (((hS.drewN _).bstore 0 rfl 1 _).bstore 0 rfl 2 _) ?_
    intro w2 hS2
    clear hc0 hc1 hc2 hf
    have hc0 := hS2.bcell 0 rfl 0 rfl
    have hc1 := hS2.bcell 0 rfl 1 rfl
    have hc2 := hS2.bcell 0 rfl 2 rfl
    go_quiet (fail)
    go_wp2_with fail
    go_ret
    exact ⟨_, (and255 _).1, (and255 _).2, rfl, _, _, by omega, by omega, hS2.drewN _⟩

set_option maxHeartbeats 1000000 in
theorem pick_c (w0 w : World) (cv : Value) (bs : List UInt8) (g K : Nat) (L : List Ent) (n : Int) (hb : RdB w0 cv bs) (h : Src w0 w cv g K L) (hK : K < 1000000000000) :
    Calls Tryz.prog 38 #[.pointer (some ⟨g, 0, none⟩), .int .i64 n] w (AnInt 0 (max (n - 1) 0) fun w' => Src w0 w' cv g (K + 2) L) := by
  by_cases h1 : n ≤ 1
  · go_enter Tryz.func38, Tryz.ntmps38
    go_wp2_with fail
    go_ret
    exact ⟨0, by omega, by omega, rfl, h.mono (by omega)⟩
  · by_cases h2 : n ≤ 200
    · go_enter Tryz.func38, Tryz.ntmps38
      go_wp2_with fail
      refine (next_c w0 w cv bs g K L hb h (by omega)).mono ?_
      rintro e w1 ⟨x, hx0, hx1, rfl, h3⟩
      go_wp2_with fail
      go_ret
      have := Int.emod_nonneg x (show n ≠ 0 by omega)
      have := Int.emod_lt_of_pos x (show 0 < n by omega)
      exact ⟨_, by omega, by omega, rfl, h3.mono (by omega)⟩
    · go_enter Tryz.func38, Tryz.ntmps38
      go_wp2_with fail
      refine (next_c w0 w cv bs g K L hb h (by omega)).mono ?_
      rintro e w1 ⟨x, hx0, hx1, rfl, h3⟩
      go_wp2_with fail
      refine (next_c w0 w1 cv bs g (K + 1) L hb h3 (by omega)).mono ?_
      rintro e w2 ⟨y, hy0, hy1, rfl, h4⟩
      go_wp2_with fail
      go_ret
      have := Int.emod_nonneg (x * 256 + y) (show n ≠ 0 by omega)
      have := Int.emod_lt_of_pos (x * 256 + y) (show 0 < n by omega)
      exact ⟨_, by omega, by omega, rfl, h4.mono (by omega)⟩

def ABool (R : World → Prop) (e : Ending) (w' : World) : Prop := ∃ x : Bool, e = .returned (.bool x) ∧ R w'

theorem one_c (w0 w : World) (cv : Value) (bs : List UInt8) (g K : Nat) (L : List Ent) (n : Int) (hb : RdB w0 cv bs) (h : Src w0 w cv g K L) (hK : K < 1000000000000) :
    Calls Tryz.prog 39 #[.pointer (some ⟨g, 0, none⟩), .int .i64 n] w (ABool fun w' => Src w0 w' cv g (K + 2) L) := by
  go_enter Tryz.func39, Tryz.ntmps39
  go_wp2_with fail
  refine (pick_c w0 w cv bs g K L n hb h hK).mono ?_
  rintro e w1 ⟨x, hx0, hx1, rfl, h3⟩
  go_wp2_with fail
  go_ret
  exact ⟨_, rfl, h3⟩

/-- one of some numbers: whatever holds of all of them holds of it -/
def AmongPost (xs : List Int) (R : World → Prop) (e : Ending) (w' : World) : Prop := ∃ x ∈ xs, e = .returned (.int .i64 x) ∧ R w'

theorem among_c (w0 w : World) (cv : Value) (bs : List UInt8) (g K : Nat) (L : List Ent) (v : Value) (xs : List Int) (hb : RdB w0 cv bs) (h : Src w0 w cv g K (row 2 v (iv xs) :: L)) (hne : 0 < xs.length)
    (hK : K < 1000000000000) :
    Calls Tryz.prog 41 #[.pointer (some ⟨g, 0, none⟩), v] w (AmongPost xs fun w' => Src w0 w' cv g (K + 2) L) := by
  have hr : RdI w v xs := by obtain ⟨p, s, h0, h1, h2⟩ := h; exact h2.rdI 1 rfl
  have hln := hr.len
  have hix := hr.ix
  have hle := hr.le
  go_enter Tryz.func41, Tryz.ntmps41
  go_wp2_with fail
  refine (pick_c w0 w cv bs g K _ _ hb h hK).mono ?_
  rintro e w1 ⟨x, hx0, hx1, rfl, h3⟩
  obtain ⟨k, rfl⟩ := Int.eq_ofNat_of_zero_le hx0
  have hk : k < xs.length := by omega
  have hr1 : RdI w1 v xs := by obtain ⟨p, s, h0, h1, h2⟩ := h3; exact h2.rdI 1 rfl
  have hc := hr1.cell
  go_wp2_with fail
  go_ret
  obtain ⟨p, s, h0, h1, h2⟩ := h3
  exact ⟨nth xs k, nth_mem hk, rfl, p, s, h0, h1, h2.sub (List.Sublist.cons_cons _ (List.sublist_cons_self _ _))⟩

theorem l00From_c (w : World) (cv : Value) (bs : List UInt8) (hb : RdB w cv bs) :
    Calls Tryz.prog 18 #[cv] w fun e w' => e = .returned (.pointer (some ⟨w.heap.size, 0, none⟩)) ∧ Src w w' cv w.heap.size 0 [] := by
  obtain ⟨av, n, c, rfl⟩ := hb.sh
  go_enter Tryz.func18, Tryz.ntmps18
  go_wp2_with fail
  go_ret
  exact ⟨rfl, 0, 0, by omega, by omega, (St.refl w).newbox _ _⟩
end Go.Proofs.YtnodcfhdfpeokaaGreat
end

section
/- The source of choices: what lies beside it. -/
namespace Go.Proofs.YtnodcfhdfpeokaaGreat
set_option linter.unusedSimpArgs false
set_option linter.unusedVariables false
open Go.RowKit

theorem Src.call {w0 w w' : World} {cv : Value} {g K : Nat} {L L' : List Ent} (h : Src w0 w cv g K L) (h' : St w.heap.size w w' L') : Src w0 w' cv g K (L ++ L') := by
  obtain ⟨p, s, h0, h1, hS⟩ := h
  exact ⟨p, s, h0, h1, hS.call h'⟩
theorem Src.sub {w0 w : World} {cv : Value} {g K : Nat} {L L' : List Ent} (h : Src w0 w cv g K L) (h' : L'.Sublist L) : Src w0 w cv g K L' := by
  obtain ⟨p, s, h0, h1, hS⟩ := h
  exact ⟨p, s, h0, h1, hS.sub (h'.cons_cons _)⟩
theorem Src.rdI {w0 w : World} {cv : Value} {g K : Nat} {L : List Ent} (h : Src w0 w cv g K L) (i : Nat) {e : TypeId} {v : Value} {xs : List Int} (hi : L[i]? = some (row e v (iv xs))) : RdI w v xs := by
  obtain ⟨p, s, h0, h1, hS⟩ := h
  exact hS.rdI (i + 1) hi

theorem St.emp0 {w : World} : St w.heap.size w (w.alloc (.cells #[] 2)) [row 2 (.slice (some ⟨w.heap.size, 0, none⟩) 0 0) (iv [])] :=
  (St.refl w).new 2 #[] (by simp)

theorem Src.perm {w0 w : World} {cv : Value} {g K : Nat} {L L' : List Ent} (h : Src w0 w cv g K L) (h' : L.Perm L') : Src w0 w cv g K L' := by
  obtain ⟨p, s, h0, h1, hS⟩ := h
  exact ⟨p, s, h0, h1, hS.perm (h'.cons _)⟩
theorem Src.call0 {w0 w w' : World} {cv : Value} {g K : Nat} {L : List Ent} (h : Src w0 w cv g K L) (h' : St w.heap.size w w' []) : Src w0 w' cv g K L := by
  have := h.call h'; rwa [List.append_nil] at this
theorem Src.rd {w0 w : World} {cv : Value} {g K : Nat} {L : List Ent} (h : Src w0 w cv g K L) (i : Nat) {e : TypeId} {v : Value} {us : List Value} (hi : L[i]? = some (row e v us)) : Rd w v us := by
  obtain ⟨p, s, h0, h1, hS⟩ := h
  exact hS.rd (i + 1) hi
theorem Src.box {w0 w : World} {cv : Value} {g K : Nat} {L : List Ent} (h : Src w0 w cv g K L) (i : Nat) {e : TypeId} {gf : Nat} {us : List Value} (hi : L[i]? = some (Go.Proofs.YtnodcfhdfpeokaaGreat.box e gf us)) (j : Nat) {u : Value} (hj : us[j]? = some u) : w.cell? ⟨gf, j, none⟩ = some u := by
  obtain ⟨p, s, h0, h1, hS⟩ := h
  exact hS.bcell (i + 1) hi j hj
theorem Src.bfree {w0 w : World} {cv : Value} {g K : Nat} {L : List Ent} (h : Src w0 w cv g K L) (i : Nat) {e : TypeId} {gf : Nat} {us : List Value} (hi : L[i]? = some (Go.Proofs.YtnodcfhdfpeokaaGreat.box e gf us)) (j : Nat) : w.frozen? ⟨gf, j, none⟩ = false := by
  obtain ⟨p, s, h0, h1, hS⟩ := h
  exact hS.bfree (i + 1) hi j
theorem Src.bstore {w0 w : World} {cv : Value} {g K : Nat} {L : List Ent} (h : Src w0 w cv g K L) (i : Nat) {e : TypeId} {gf : Nat} {us : List Value} (hi : L[i]? = some (Go.Proofs.YtnodcfhdfpeokaaGreat.box e gf us)) (j : Nat) (u : Value) :
    Src w0 (w.setCell ⟨gf, j, none⟩ u) cv g K (L.set i (Go.Proofs.YtnodcfhdfpeokaaGreat.box e gf (us.set j u))) := by
  obtain ⟨p, s, h0, h1, hS⟩ := h
  exact ⟨p, s, h0, h1, hS.bstore (i + 1) hi j u⟩
/-- a new block behind a pointer, ahead of the others -/
theorem Src.newboxF {w0 w : World} {cv : Value} {g K : Nat} {L : List Ent} (h : Src w0 w cv g K L) (e : TypeId) (cs : Array Value) : Src w0 (w.alloc (.cells cs e)) cv g K (Go.Proofs.YtnodcfhdfpeokaaGreat.box e w.heap.size cs.toList :: L) := by
  obtain ⟨p, s, h0, h1, hS⟩ := h
  exact ⟨p, s, h0, h1, (hS.newboxF e cs).perm (List.Perm.swap _ _ _)⟩
theorem Src.drew {w0 w : World} {cv : Value} {g K : Nat} {L : List Ent} (h : Src w0 w cv g K L) : Src w0 w.drew cv g K L := by
  obtain ⟨p, s, h0, h1, hS⟩ := h
  exact ⟨p, s, h0, h1, hS.drew⟩
theorem St.emp0II {w : World} : St w.heap.size w (w.alloc (.cells #[] 31)) [row 31 (.slice (some ⟨w.heap.size, 0, none⟩) 0 0) []] :=
  (St.refl w).new 31 #[] (by simp)
/-- a new empty row of rows, ahead of the others -/
theorem Src.empII {w0 w : World} {cv : Value} {g K : Nat} {L : List Ent} (h : Src w0 w cv g K L) :
    Src w0 (w.alloc (.cells #[] 31)) cv g K (row 31 (.slice (some ⟨w.heap.size, 0, none⟩) 0 0) [] :: L) :=
  (h.call St.emp0II).perm List.perm_append_comm

theorem at_app {M L : List Ent} {i : Nat} {x : Ent} (h : L[i]? = some x) : (M ++ L)[M.length + i]? = some x := by
  rw [List.getElem?_append_right (by omega), Nat.add_sub_cancel_left]; exact h
theorem Src.riiS {w0 w : World} {cv : Value} {g K : Nat} {L : List Ent} (h : Src w0 w cv g K L) {v : Value} {us : List Value} {A : List (List Int)} (hs : (own2 v us A).Sublist L) (hl : us.length = A.length) : RII w v us A := (h.st.sub hs).rii hl
end Go.Proofs.YtnodcfhdfpeokaaGreat
end

section
/- Walks: the reference puts a number into an increasing list. -/
namespace Go.Proofs.YtnodcfhdfpeokaaGreat
set_option linter.unusedSimpArgs false
set_option linter.unusedVariables false
open Go.RowKit


/-- what l00Put has made so far -/
def PutI (xs : List Int) (n : Int) (k : Nat) (b : Bool) (ys : List Int) : Prop :=
  (b = false → ys = xs.take k ∧ putL xs n = xs.take k ++ putL (xs.drop k) n) ∧ (b = true → ys ++ xs.drop k = putL xs n)
theorem PutI.len {xs : List Int} {n : Int} {k : Nat} {b : Bool} {ys : List Int} (h : PutI xs n k b ys) (hk : k ≤ xs.length) : ys.length ≤ xs.length + 1 := by
  cases b
  · rw [(h.1 rfl).1, List.length_take]; omega
  · have h1 := congrArg List.length (h.2 rfl)
    have := putL_len xs n
    rw [List.length_append] at h1; omega
theorem PutI.go {xs : List Int} {n : Int} {k : Nat} {ys : List Int} (h : PutI xs n k true ys) (hk : k < xs.length) : PutI xs n (k + 1) true (ys ++ [nth xs k]) :=
  ⟨fun h => absurd h (by decide), fun _ => by rw [← h.2 rfl, drop_nth hk]; simp⟩
theorem PutI.lt {xs : List Int} {n : Int} {k : Nat} {ys : List Int} (h : PutI xs n k false ys) (hk : k < xs.length) (hn : nth xs k < n) : PutI xs n (k + 1) false (ys ++ [nth xs k]) := by
  obtain ⟨h1, h2⟩ := h.1 rfl
  refine ⟨fun _ => ⟨by rw [h1, take_nth hk], ?_⟩, fun h => absurd h (by decide)⟩
  rw [h2, drop_nth hk, putL, if_neg (by omega), if_neg (by omega), take_nth hk]; simp
theorem PutI.eq {xs : List Int} {n : Int} {k : Nat} {ys : List Int} (h : PutI xs n k false ys) (hk : k < xs.length) (hn : nth xs k = n) : PutI xs n (k + 1) true (ys ++ [nth xs k]) := by
  obtain ⟨h1, h2⟩ := h.1 rfl
  refine ⟨fun h => absurd h (by decide), fun _ => ?_⟩
  rw [h2, drop_nth hk, putL, if_neg (by omega), if_pos hn, h1]; simp
theorem PutI.gt {xs : List Int} {n : Int} {k : Nat} {ys : List Int} (h : PutI xs n k false ys) (hk : k < xs.length) (hn : n < nth xs k) : PutI xs n (k + 1) true ((ys ++ [n]) ++ [nth xs k]) := by
  obtain ⟨h1, h2⟩ := h.1 rfl
  refine ⟨fun h => absurd h (by decide), fun _ => ?_⟩
  rw [h2, drop_nth hk, putL, if_pos hn, h1]; simp
theorem PutI.end0 {xs : List Int} {n : Int} {ys : List Int} (h : PutI xs n xs.length false ys) : ys ++ [n] = putL xs n := by
  obtain ⟨h1, h2⟩ := h.1 rfl
  rw [h2, h1, List.drop_length, putL]
theorem PutI.end1 {xs : List Int} {n : Int} {ys : List Int} (h : PutI xs n xs.length true ys) : ys = putL xs n := by
  have := h.2 rfl
  rwa [List.drop_length, List.append_nil] at this
set_option maxHeartbeats 2000000 in
set_option maxRecDepth 100000 in
theorem l00PutX_c (v : Value) (xs : List Int) (n : Int) (w : World) (hv : RdI w v xs) (hxs : xs.length ≤ 1000000) :
    Calls Tryz.prog 81 #[v, .int .i64 n] w (MakesI w (putL xs n)) := by
  have hln := hv.len
  have hix := hv.ix
  have hm := hv.le
  go_enter Tryz.func81, Tryz.ntmps81
  go_wp2_with fail
  go_loopw [5, 6, 7] (fun o d i wr => ∃ (k : Nat) (b : Bool) (ys : List Int), k ≤ xs.length ∧ i = .int .i64 k ∧ d = .bool b ∧ Hid (PutI xs n k b ys) ∧ ys.length ≤ xs.length + 1 ∧ St w.heap.size w wr [row 2 o (iv ys)]) (fun _ _ i _ => xs.length - (intOf i).toNat)
  case atStart => exact ⟨0, false, [], by omega, rfl, rfl, ⟨fun _ => ⟨rfl, rfl⟩, fun h => absurd h (by decide)⟩, by simp, St.emp0⟩
  case round =>
    obtain ⟨k, b, ys, hk, rfl, rfl, hI, hy, hS⟩ := hrel
    by_cases hlt : k < xs.length
    · have hc := (hS.oldI hv).cell k hlt
      cases b
      · by_cases h1 : n ≤ nth xs k
        · by_cases h2 : n < nth xs k
          · have hJ := Lib.hid (hI.out.gt hlt h2)
            have hJl := hJ.out.len hlt
            go_wp2_with (first | (at_builtin; refine appI hS 0 rfl (by omega) rfl (.tmp 31) (.tmp 33) rfl rfl _ rfl ?_; intro v' w2 hS2; have hc2 := (hS2.oldI hv).cell k hlt) | (at_builtin; refine appI hS2 0 rfl (by simp; omega) rfl (.tmp 35) (.tmp 40) rfl rfl _ rfl ?_; intro v2 w3 hS3))
            go_roundw
            case rel => exact ⟨k + 1, true, _, by omega, by go_num, rfl, hJ.out, hJl, hS3⟩
            case measure => simp [intOf]; omega
          · have hJ := Lib.hid (hI.out.eq hlt (by omega))
            have hJl := hJ.out.len hlt
            go_wp2_with (at_builtin; refine appI hS 0 rfl (by omega) rfl (.tmp 35) (.tmp 40) rfl rfl _ rfl ?_; intro v2 w3 hS3)
            go_roundw
            case rel => exact ⟨k + 1, true, _, by omega, by go_num, rfl, hJ.out, hJl, hS3⟩
            case measure => simp [intOf]; omega
        · have hJ := Lib.hid (hI.out.lt hlt (by omega))
          have hJl := hJ.out.len hlt
          go_wp2_with (at_builtin; refine appI hS 0 rfl (by omega) rfl (.tmp 35) (.tmp 40) rfl rfl _ rfl ?_; intro v2 w3 hS3)
          go_roundw
          case rel => exact ⟨k + 1, false, _, by omega, by go_num, rfl, hJ.out, hJl, hS3⟩
          case measure => simp [intOf]; omega
      · have hJ := Lib.hid (hI.out.go hlt)
        have hJl := hJ.out.len hlt
        go_wp2_with (at_builtin; refine appI hS 0 rfl (by omega) rfl (.tmp 35) (.tmp 40) rfl rfl _ rfl ?_; intro v2 w3 hS3)
        go_roundw
        case rel => exact ⟨k + 1, true, _, by omega, by go_num, rfl, hJ.out, hJl, hS3⟩
        case measure => simp [intOf]; omega
    · obtain rfl : k = xs.length := by omega
      cases b
      · have hJ := Lib.hid hI.out.end0
        go_wp2_with (at_builtin; refine appI hS 0 rfl (by omega) rfl (.tmp 44) (.tmp 46) rfl rfl _ rfl ?_; intro v2 w3 hS3)
        go_ret
        exact ⟨_, rfl, by rw [← hJ.out]; exact hS3⟩
      · have hJ := Lib.hid hI.out.end1
        go_wp2_with fail
        go_ret
        exact ⟨_, rfl, by rw [← hJ.out]; exact hS⟩
end Go.Proofs.YtnodcfhdfpeokaaGreat
end

section
/- Walks: digits of numbers, bounded powers. Walks: bounded powers. -/
namespace Go.Proofs.YtnodcfhdfpeokaaGreat
set_option linter.unusedSimpArgs false
set_option linter.unusedVariables false
open Go.RowKit


def dgv (base : Int) : Nat → Int → Int
  | 0, n => n
  | j + 1, n => dgv base j n / base
/-- the digits of a number, the lowest one first -/
def lows (base : Int) (m : Nat) (n : Int) : List Int := (List.range m).map fun (j : Nat) => dgv base j n % base
theorem lows_len (base : Int) (m : Nat) (n : Int) : (lows base m n).length = m := by simp [lows]
theorem dv_le {base n : Int} (hb : 2 ≤ base) (hn : 0 ≤ n) : ∀ j, 0 ≤ dgv base j n ∧ dgv base j n ≤ n
  | 0 => ⟨hn, Int.le_refl _⟩
  | j + 1 => by
    have := dv_le hb hn j
    have h1 : 0 ≤ dgv base j n / base := Int.ediv_nonneg this.1 (by omega)
    have h2 : dgv base j n / base ≤ dgv base j n := Int.ediv_le_self _ this.1
    exact ⟨h1, by simp only [dgv]; omega⟩

end Go.Proofs.YtnodcfhdfpeokaaGreat
end

section
/- Walks: fields by value: the helpers of the exact laws. -/
namespace Go.Proofs.YtnodcfhdfpeokaaGreat
set_option linter.unusedSimpArgs false
set_option linter.unusedVariables false
open Go.RowKit

/-- a field as a value -/
def fv (p d : Int) (v : Value) : Value := .agg #[.int .i64 p, .int .i64 d, v]
theorem RdI.shp' {w : World} {v : Value} {xs : List Int} (h : RdI w v xs) : ∃ a c, v = .slice a xs.length c := by
  obtain ⟨a, c, hv⟩ := h.sl.sh
  rw [iv_len] at hv
  exact ⟨a, c, hv⟩

theorem RII.shp' {w : World} {v : Value} {us : List Value} {xss : List (List Int)} (h : RII w v us xss) : ∃ a c, v = .slice a xss.length c := by
  obtain ⟨a, c, hv⟩ := h.1.sl.sh
  rw [h.2.1] at hv
  exact ⟨a, c, hv⟩
/-- it hands over a field of its own -/
def MakesF (w : World) (p d : Int) (xs : List Int) (e : Ending) (w' : World) : Prop := ∃ v, e = .returned (fv p d v) ∧ St w.heap.size w w' [row 2 v (iv xs)]

end Go.Proofs.YtnodcfhdfpeokaaGreat
end

section
/- Walks: powers, digits, numbers, remainders of polynomials. Walks: remainders of the reference, irreducible polynomials. Walks: irreducible polynomials. Walks: valid fields. Walks: valid fields of both sides. -/
namespace Go.Proofs.YtnodcfhdfpeokaaGreat
set_option linter.unusedSimpArgs false
set_option linter.unusedVariables false
open Go.RowKit
theorem dv_succ' (base : Int) : ∀ (j : Nat) (n : Int), dgv base (j + 1) n = dgv base j (n / base)
  | 0, _ => rfl
  | j + 1, n => by
    show dgv base (j + 1) n / base = dgv base j (n / base) / base
    rw [dv_succ' base j n]
theorem lows_dgt (base : Int) : ∀ (m : Nat) (n : Int), lows base m n = dgt base m n
  | 0, _ => rfl
  | m + 1, n => by
    have ih := lows_dgt base m (n / base)
    unfold lows at ih ⊢
    rw [List.range_succ_eq_map, List.map_cons, List.map_map, dgt, ← ih]
    congr 1
    apply List.map_congr_left
    intro j _
    show dgv base (j + 1) n % base = dgv base j (n / base) % base
    rw [dv_succ']

theorem pow64 {p : Int} (h1 : 1 ≤ p) (h2 : p ≤ 64) : ∀ m : Nat, 1 ≤ p ^ m ∧ p ^ m ≤ 64 ^ m
  | 0 => by simp
  | m + 1 => by
    have := pow64 h1 h2 m
    rw [Int.pow_succ, Int.pow_succ]
    have a := Int.mul_le_mul this.2 h2 (by omega) (show (0 : Int) ≤ 64 ^ m by omega)
    have b := Int.mul_le_mul this.1 h1 (by omega) (by omega)
    omega
theorem pow64m {p : Int} (h1 : 1 ≤ p) (h2 : p ≤ 64) {m : Nat} (h : m ≤ 6) : p ^ m ≤ 68719476736 := by
  have h3 := (pow64 h1 h2 m).2
  have h4 : (64 : Int) ^ m ≤ 64 ^ 6 := by
    have : m = 0 ∨ m = 1 ∨ m = 2 ∨ m = 3 ∨ m = 4 ∨ m = 5 ∨ m = 6 := by omega
    rcases this with h | h | h | h | h | h | h <;> subst h <;> decide
  have : (64 : Int) ^ 6 = 68719476736 := by decide
  omega

set_option maxHeartbeats 1000000 in
set_option maxRecDepth 100000 in
theorem l03Power_c (p : Int) (k : Nat) (w : World) (h1 : 1 ≤ p) (h2 : p ≤ 64) (hk : k ≤ 6) : Calls Tryz.prog 99 #[.int .i64 p, .int .i64 k] w fun e w' => e = .returned (.int .i64 (p ^ k)) ∧ w = w' := by
  go_enter Tryz.func99, Tryz.ntmps99
  go_wp2_with fail
  go_loop [1, 5] (fun m o => ∃ (j : Nat) (x : Int), j ≤ k ∧ m = .int .i64 ((k - j : Nat) : Int) ∧ o = .int .i64 x ∧ 1 ≤ x ∧ x ≤ 68719476736 ∧ Hid (x = p ^ j)) (fun m _ => (intOf m).toNat)
  case atStart => exact ⟨0, 1, by omega, rfl, rfl, by omega, by omega, by simp [Hid]⟩
  case round =>
    obtain ⟨j, x, hj, rfl, rfl, x0, x1, hI⟩ := hrel
    by_cases hlt : j < k
    · have hb := pow64m h1 h2 (m := j + 1) (by omega)
      have hb0 := (pow64 h1 h2 (j + 1)).1
      have hs : p ^ (j + 1) = x * p := by rw [Int.pow_succ, hI.out]
      rw [hs] at hb hb0
      have Hs := Lib.hid hs; clear hs
      have hm : 0 < k - j := by omega
      go_wp2_with fail
      go_round
      case rel => exact ⟨j + 1, x * p, by omega, by congr 1; omega, rfl, hb0, hb, Hs.out.symm⟩
      case measure => simp [intOf]; omega
    · obtain rfl : j = k := by omega
      have hz : j - j = 0 := by omega
      have Hz := Lib.hid hz; clear hz
      rw [Hz.out]
      go_wp2_with fail
      go_ret
      exact ⟨ret_i64 hI.out, rfl⟩

set_option maxHeartbeats 1000000 in
set_option maxRecDepth 100000 in
theorem l03Digits_c (n base : Int) (m : Nat) (w : World) (hn : 0 ≤ n) (hn2 : n ≤ 4611686018427387904) (hb : 2 ≤ base) (hb2 : base ≤ 1073741824) (hm : m ≤ 4096) :
    Calls Tryz.prog 78 #[.int .i64 n, .int .i64 base, .int .i64 m] w (MakesI w (lows base m n)) := by
  have hS1 := (St.refl w).new 2 #[] (by simp)
  go_enter Tryz.func78, Tryz.ntmps78
  go_wp2_with fail
  go_loopw [0, 2, 7] (fun nn mm o wr => ∃ k : Nat, k ≤ m ∧ mm = .int .i64 ((m - k : Nat) : Int) ∧ nn = .int .i64 (dgv base k n) ∧ St w.heap.size w wr [row 2 o (iv ((lows base m n).take k))]) (fun _ mm _ _ => (intOf mm).toNat)
  case atStart => exact ⟨0, by omega, rfl, rfl, hS1⟩
  case round =>
    obtain ⟨k, hk, rfl, rfl, hS⟩ := hrel
    by_cases hlt : k < m
    · have hd := dv_le hb hn k
      have hd2 := dv_le hb hn (k + 1)
      obtain ⟨q, hq⟩ : ∃ q, q = dgv base k n := ⟨_, rfl⟩
      have hq2 : dgv base (k + 1) n = q / base := by rw [hq]; rfl
      have Hq := Lib.hid hq2
      rw [← hq] at hd ⊢
      rw [hq2] at hd2
      have Hqq := Lib.hid hq
      clear hq hq2
      have hmod := Int.emod_nonneg q (show base ≠ 0 by omega)
      have hmod2 := Int.emod_lt_of_pos q (show 0 < base by omega)
      have fb : (base == 0) = false := eq_f (by omega)
      have hm0 : 0 < m - k := by omega
      go_wp2_with (at_builtin; refine appI hS 0 rfl (by simp [lows_len]; omega) rfl _ _ rfl rfl _ rfl ?_; intro v3 w3 hS3)
      go_roundw
      case rel =>
        refine ⟨k + 1, by omega, by congr 1; omega, by rw [Hq.out], ?_⟩
        have e : (lows base m n).take k ++ [q % base] = (lows base m n).take (k + 1) := by
          rw [take_nth (by rw [lows_len]; exact hlt)]
          have : nth (lows base m n) k = q % base := by simp [nth, lows, hlt, Hqq.out]
          rw [this]
        rw [← e]; exact hS3
      case measure => simp [intOf]; omega
    · obtain rfl : k = m := by omega
      have hz : k - k = 0 := by omega
      have Hz := Lib.hid hz; clear hz
      rw [Hz.out]
      go_wp2_with fail
      go_ret
      refine ⟨_, rfl, ?_⟩
      rw [List.take_of_length_le (by rw [lows_len]; omega)] at hS; exact hS

theorem numL_drop {p : Int} {xs : List Int} {m : Nat} (h : m < xs.length) : numL p (xs.drop m) = numL p (xs.drop (m + 1)) * p + nth xs m := by
  rw [drop_nth h]; rfl
theorem numL_mono {p : Int} (hp : 1 ≤ p) : ∀ {xs : List Int}, In p xs → ∀ m : Nat, 0 ≤ numL p (xs.drop m) ∧ numL p (xs.drop m) ≤ numL p xs
  | [], _, m => by simp [numL]
  | x :: r, h, 0 => ⟨numL_nonneg (by omega) (fun y hy => (h y hy).1), Int.le_refl _⟩
  | x :: r, h, m + 1 => by
    have ih := numL_mono hp (xs := r) (fun y hy => h y (by simp [hy])) m
    have hx := h x (by simp)
    have e : numL p (x :: r) = numL p r * p + x := rfl
    have h0 := numL_nonneg (base := p) (by omega) (xs := r) (fun y hy => (h y (by simp [hy])).1)
    have := Int.mul_le_mul_of_nonneg_left hp h0
    rw [List.drop_succ_cons, e]
    omega

set_option maxHeartbeats 1000000 in
set_option maxRecDepth 100000 in
theorem l03Number_c (v : Value) (xs : List Int) (p : Int) (w : World) (hv : RdI w v xs) (h1 : 1 ≤ p) (h2 : p ≤ 64) (hi : In p xs) (hb : p ^ xs.length ≤ 1099511627776) :
    Calls Tryz.prog 83 #[v, .int .i64 p] w fun e w' => e = .returned (.int .i64 (numL p xs)) ∧ w = w' := by
  have hln := hv.len
  have hix := hv.ix
  have hm := hv.le
  have hlt' := numL_lt h1 hi
  have Hi := Lib.hid hi
  clear hi
  go_enter Tryz.func83, Tryz.ntmps83
  go_wp2_with fail
  go_loop [5, 6] (fun o i => ∃ m : Nat, m ≤ xs.length ∧ i = .int .i64 ((m : Int) - 1) ∧ o = .int .i64 (numL p (xs.drop m))) (fun _ i => (intOf i + 1).toNat)
  case atStart => exact ⟨xs.length, by omega, rfl, by rw [List.drop_length]; rfl⟩
  case round =>
    obtain ⟨m, hm2, rfl, rfl⟩ := hrel
    cases m with
    | zero =>
      go_wp2_with fail
      go_ret
      exact ⟨rfl, rfl⟩
    | succ m =>
      have hc := hv.cell m (by omega)
      have hxm := hv.ixe (m : Int) m rfl (by omega)
      have e1 : Hid (((m + 1 : Nat) : Int) - 1 = m) := by unfold Hid; omega
      have hs := Lib.hid (numL_drop (p := p) (show m < xs.length by omega))
      have hb1 := numL_mono h1 Hi.out m
      have hb2 := numL_mono h1 Hi.out (m + 1)
      rw [hs.out] at hb1
      have hx := Hi.out _ (nth_mem (show m < xs.length by omega))
      obtain ⟨x0, x1⟩ := hx
      obtain ⟨a0, a1⟩ := hb1
      obtain ⟨c0, c1⟩ := hb2
      have hmul := Int.mul_nonneg c0 (show 0 ≤ p by omega)
      rw [e1.out]
      go_wp2_with fail
      go_round
      case rel => exact ⟨m, by omega, rfl, by rw [hs.out]⟩
      case measure => simp [intOf]

/-- a row cut behind its first cells -/
theorem St.cut {B : Nat} {w0 w : World} {L : List Ent} (h : St B w0 w L) (i : Nat) {e : TypeId} {v : Value} {us : List Value} (hi : L[i]? = some (row e v us)) (m : Nat) (hm : m ≤ us.length) :
    St B w0 w (L.set i (row e (rsl v 0 m) (us.take m))) := by
  have hx := h.ok _ (List.mem_of_getElem? hi)
  have hg : w.grownBy w (bk v) := ⟨rfl, rfl, rfl, Nat.le_refl _, fun _ _ _ => rfl⟩
  rcases hx with ⟨hp, _⟩ | ⟨_, hv, hu⟩ | ⟨_, g, cap, cur, hv, hB, hh, h1, h2, h3, h4⟩
  · simp [row] at hp
  · simp only [row] at hv hu
    subst hu; subst hv
    have hm0 : m = 0 := by simpa using hm
    subst hm0
    have e : rsl (.slice none 0 0) 0 0 = .slice none 0 0 := rfl
    rw [e, List.take_nil]
    have : L.set i (row ‹_› (.slice none 0 0) []) = L := by
      obtain ⟨hlt, heq⟩ := List.getElem?_eq_some_iff.1 hi
      rw [← heq, List.set_getElem_self]
    rw [this]; exact h
  · simp only [row] at hv h1 h4 hh
    have ev : rsl v 0 m = .slice (some ⟨g, 0, none⟩) m cap := by
      rw [hv]
      simp only [rsl, sliced, Nat.zero_mul, Option.map_some, Nat.sub_zero]
      split
      · rfl
      · simp [Addr.add]
    have hb : bk (rsl v 0 m) = bk v := by rw [ev, hv]; rfl
    refine h.put i hi hg (row e (rsl v 0 m) (us.take m)) (.inr (.inr ⟨rfl, g, cap, cur, ?_, hB, hh, ?_, h2, h3, ?_⟩)) (.inl hb)
    · simp only [row]; rw [ev, List.length_take, Nat.min_eq_left hm]
    · simp only [row]; rw [List.length_take]; omega
    · simp only [row]
      rw [List.length_take, Nat.min_eq_left hm, ← h4, List.take_take, Nat.min_eq_left hm]

theorem rsl_hi' {w : World} {v : Value} {xs : List Int} (h : RdI w v xs) (i : Int) (hi : Nat) (e : i = (hi : Int)) (h2 : hi ≤ xs.length) (W : World) :
    (Instr.slice 31 v none (some (.int .i64 i)) none).run Tryz.prog W = .ok (rsl v 0 hi) W := by
  subst e; exact rsl_hi h hi h2 W
def sliceLen : Value → Nat
  | .slice _ n _ => n
  | _ => 0
theorem sliceLen_sl {v : Value} {n : Nat} (h : IsSl v n) : sliceLen v = n := by obtain ⟨a, c, rfl, _⟩ := h; rfl

set_option maxHeartbeats 2000000 in
set_option maxRecDepth 100000 in
theorem l03Rest_c (v vb : Value) (xs ys : List Int) (p : Int) (w : World) (hv : RdI w v xs) (hb : RdI w vb ys) (p2 : 2 ≤ p) (p64 : p ≤ 64) (hx : In p xs) (hy : In p ys) (hxl : xs.length ≤ 4096) (hyl : ys.length ≤ 4096) (hy1 : 1 ≤ ys.length) :
    Calls Tryz.prog 100 #[v, vb, .int .i64 p] w (MakesI w (remL p xs ys)) := by
  have hlb := hb.len
  have hib := hb.ix
  have hcl := fun W h => Lib.hid (l00Own_c v xs W h (by omega))
  obtain ⟨deg, hdeg⟩ : ∃ d, ys.length = d + 1 := ⟨ys.length - 1, by omega⟩
  have Hdeg := Lib.hid hdeg
  have Hx := Lib.hid hx
  have Hy := Lib.hid hy
  have fp : (p == 0) = false := eq_f (by omega)
  rw [hdeg] at hlb hib
  have hd4 : deg ≤ 4095 := by omega
  clear hx hy hy1
  go_enter Tryz.func100, Tryz.ntmps100
  go_wp2_with fail
  refine (hcl _ hv).out.mono ?_
  rintro e w1 ⟨v1, rfl, hS⟩
  have hl1 := (hS.rdI 0 rfl).len
  clear hdeg
  go_wp2_with fail
  go_loopw [9, 10, 11, 12] (fun kk _ _ _ wr => ∃ (κ : Int) (cur : List Int), -1 ≤ κ ∧ κ ≤ (xs.length : Int) - 1 ∧ kk = .int .i64 κ ∧ Hid (cur.length = xs.length) ∧ Hid (In p cur) ∧ Hid (remN p ys deg (κ + 1 - deg).toNat cur = remN p ys deg (xs.length - deg) xs) ∧ St w.heap.size w wr [row 2 v1 (iv cur)]) (fun kk _ _ _ _ => (intOf kk + 1).toNat)
  case atStart => exact ⟨_, xs, by omega, by omega, rfl, rfl, Hx.out, by unfold Hid; congr 1; omega, hS⟩
  case round =>
    obtain ⟨κ, cur, k0, k1, rfl, hcl, hin, hI, hS⟩ := hrel
    by_cases hge : (deg : Int) ≤ κ
    · obtain ⟨k, rfl⟩ := Int.eq_ofNat_of_zero_le (show 0 ≤ κ by omega)
      have hr := hS.rdI 0 rfl
      have hdc : k < cur.length := by have := hcl.out; omega
      have hck := hr.cell k hdc
      have hxk := hr.ixe (k : Int) k rfl hdc
      obtain ⟨f, hf⟩ : ∃ f, f = nth cur k := ⟨_, rfl⟩
      rw [← hf] at hck
      have hfb := hin.out _ (nth_mem hdc)
      rw [← hf] at hfb
      obtain ⟨f0, f1⟩ := hfb
      have Hf := Lib.hid hf
      have hdc2 : k < xs.length := by have := hcl.out; omega
      have hdk : deg ≤ k := by omega
      clear hf hr
      go_wp2_with fail
      go_loopw [11, 12] (fun jj _ wx => ∃ j : Nat, j ≤ deg + 1 ∧ jj = .int .i64 j ∧ St w.heap.size w wx [row 2 v1 (iv (subT p cur ys (k - deg) f j))]) (fun jj _ _ => (deg + 1) - (intOf jj).toNat)
      case atStart => exact ⟨0, by omega, rfl, by rw [subT_0]; exact hS⟩
      case round =>
        obtain ⟨j, hj, rfl, hS⟩ := hrel
        have hr := hS.rdI 0 rfl
        by_cases hlt : j < deg + 1
        · have hcb := (hS.oldI hb).cell j (by rw [Hdeg.out]; exact hlt)
          have hat : k - deg + j < (subT p cur ys (k - deg) f j).length := by rw [subT_len]; omega
          have hca := hr.cell (k - deg + j) hat
          have hxa := hr.ixe ((k : Int) - deg + j) (k - deg + j) (by omega) hat
          have hxa2 := hr.ixe ((k : Int) - ((deg : Int) + 1) + 1 + j) (k - deg + j) (by omega) hat
          have hyb := Hy.out _ (nth_mem (show j < ys.length by rw [Hdeg.out]; exact hlt))
          have hab := (In.subT (by omega) hin.out (by' := ys) (k - deg) f j) _ (nth_mem hat)
          obtain ⟨y0, y1⟩ := hyb
          obtain ⟨a0, a1⟩ := hab
          have hstep := Lib.hid (subT_step (p := p) (rest := cur) (by' := ys) (s := k - deg) (f := f) (j := j) (by have := hcl.out; omega))
          generalize hA : nth (subT p cur ys (k - deg) f j) (k - deg + j) = A at hca a0 a1
          generalize hB : nth ys j = B at hcb y0 y1
          have HA := Lib.hid hA
          have HB := Lib.hid hB
          have m0 := Int.mul_nonneg f0 y0
          have m1 : f * B ≤ 64 * 64 := Int.mul_le_mul (by omega) (by omega) (by omega) (by omega)
          have n0 := Int.mul_nonneg (show 0 ≤ p - f by omega) y0
          have n1 : (p - f) * B ≤ 64 * 64 := Int.mul_le_mul (by omega) (by omega) (by omega) (by omega)
          have hmd : Hid ((A + (p - f) * B) % p = (A - f * B) % p) := by
            unfold Hid
            rw [Int.sub_mul, show A + (p * B - f * B) = (A - f * B) + p * B by omega, Int.add_mul_emod_self_left]
          have u1 := hS.unfrozen 0 rfl (j := k - deg + j) (by rw [iv_len]; exact hat)
          have hs1 := hS.store 0 rfl (j := k - deg + j) (by rw [iv_len]; exact hat) (.int .i64 ((A + (p - f) * B) % p))
          have hs2 := Lib.hid hs1.drew
          clear hA hB hat hs1
          go_wp2_with fail
          go_region
          all_goals
            go_wp2_with fail
            go_roundw
            case rel =>
              refine ⟨j + 1, by omega, by go_num, ?_⟩
              rw [← hstep.out, show cf (subT p cur ys (k - deg) f j) (k - deg + j) = A from HA.out, show cf ys j = B from HB.out, ← hmd.out]
              have h := hs2.out
              rw [iv_set] at h
              exact h
            case measure => simp [intOf]; omega
        · have hj2 : j = deg + 1 := by omega
          subst hj2
          have hst : Hid (remN p ys deg ((k : Int) + 1 - deg).toNat cur = remN p ys deg ((k : Int) - 1 + 1 - deg).toNat (subT p cur ys (k - deg) f (deg + 1))) := by
            unfold Hid
            rw [show ((k : Int) + 1 - deg).toNat = (k - deg) + 1 by omega, remN, show ((k : Int) - 1 + 1 - deg).toNat = k - deg by omega, show deg + (k - deg) = k by omega, Hf.out]
            try rfl
          have hin2 := Lib.hid (In.subT (p := p) (by omega) hin.out (by' := ys) (k - deg) f (deg + 1))
          have hcl2 : Hid ((subT p cur ys (k - deg) f (deg + 1)).length = xs.length) := by unfold Hid; rw [subT_len]; exact hcl.out
          go_wp2_with fail
          go_roundw
          case rel => exact ⟨(k : Int) - 1, _, by omega, by omega, rfl, hcl2, hin2, by unfold Hid; rw [← hst.out]; exact hI.out, hS⟩
          case measure => simp [intOf]
    · have e0 : Hid (cur = remN p ys deg (xs.length - deg) xs) := by
        unfold Hid
        have h := hI.out
        rw [show (κ + 1 - (deg : Int)).toNat = 0 by omega] at h
        exact h
      have Hcl := hcl
      go_wp2_with fail
      go_loopw [7] (fun o wx => ∃ m : Nat, m ≤ xs.length ∧ Hid (deg ≤ m ∨ m = xs.length) ∧ St w.heap.size w wx [row 2 o (iv (cur.take m))]) (fun o _ => sliceLen o)
      case atStart => exact ⟨xs.length, by omega, .inr rfl, by rw [List.take_of_length_le (by rw [Hcl.out]; omega)]; exact hS⟩
      case round =>
        obtain ⟨m, hm, hmd, hS⟩ := hrel
        have hr := hS.rdI 0 rfl
        have hlm : (cur.take m).length = m := by rw [List.length_take, Hcl.out]; omega
        have hln := hr.len
        rw [hlm] at hln
        have Hlm := Lib.hid hlm
        clear hlm
        by_cases hgt : deg + 1 ≤ m
        · have hsl := rsl_hi' hr ((m : Int) - 1) (m - 1) (by omega) (by rw [Hlm.out]; omega)
          have hcut := hS.cut 0 rfl (m - 1) (by rw [iv_len, Hlm.out]; omega)
          have hsz := sliceLen_sl hr.sl
          rw [iv_len, Hlm.out] at hsz
          have hsz2 := sliceLen_sl (hcut.rd 0 rfl).sl
          have e2 : (iv (cur.take m)).take (m - 1) = iv (cur.take (m - 1)) := by simp only [iv, ← List.map_take]; rw [List.take_take, Nat.min_eq_left (by omega)]
          rw [e2] at hcut hsz2
          rw [iv_len, List.length_take, Hcl.out] at hsz2
          have Hsz := Lib.hid hsz
          have Hsz2 := Lib.hid hsz2
          clear hr hsz hsz2 e2
          go_wp2_with fail
          go_roundw
          case rel => exact ⟨m - 1, by omega, .inl (by omega), hcut⟩
          case measure => rw [Hsz.out, Hsz2.out]; omega
        · clear hr
          go_wp2_with fail
          go_ret
          refine ⟨_, rfl, ?_⟩
          have e1 : cur.take m = remL p xs ys := by
            rw [remL, Hdeg.out, show deg + 1 - 1 = deg by omega, ← e0.out]
            rcases hmd.out with h | h
            · rw [show m = deg by omega]
            · rw [List.take_of_length_le (by rw [Hcl.out]; omega), List.take_of_length_le (by rw [Hcl.out]; omega)]
          rw [e1] at hS
          exact hS



/-- the polynomial that is tried -/
def tryP (p : Int) (d n : Nat) : List Int := lows p d n ++ [1]
theorem tryP_len (p : Int) (d n : Nat) : (tryP p d n).length = d + 1 := by simp [tryP, lows_len]
theorem tryP_in {p : Int} (hp : 2 ≤ p) (d n : Nat) : In p (tryP p d n) := by
  intro x hx
  rcases List.mem_append.1 hx with h | h
  · rw [lows_dgt] at h; exact dgt_in (by omega) _ _ x h
  · simp at h; subst h; omega
theorem irrB_iff {p : Int} {xs : List Int} : irrB p xs = true ↔ ∀ d n : Nat, 1 ≤ d → 2 * d ≤ xs.length - 1 → n < (p ^ d).toNat → zeroL (remL p xs (tryP p d n)) = false := by
  simp only [irrB, List.all_eq_true, List.mem_range, Bool.not_eq_true', tryP, lows_dgt]
  constructor
  · intro h d n hd hl hn
    have := h (d - 1) (by omega) n (by rw [show d - 1 + 1 = d by omega]; exact hn)
    rwa [show d - 1 + 1 = d by omega] at this
  · intro h i hi n hn
    exact h (i + 1) n (by omega) (by omega) hn
theorem irrB_no {p : Int} {xs : List Int} {d n : Nat} (hd : 1 ≤ d) (hl : 2 * d ≤ xs.length - 1) (hn : n < (p ^ d).toNat) (h : zeroL (remL p xs (tryP p d n)) = true) : irrB p xs = false := by
  cases hq : irrB p xs with
  | false => rfl
  | true => have := irrB_iff.1 hq d n hd hl hn; rw [h] at this; cases this
theorem remL_len {p : Int} {xs ys : List Int} : (remL p xs ys).length ≤ ys.length - 1 := by simp [remL]; omega
theorem pow_mono {p : Int} (hp : 1 ≤ p) {a b : Nat} (h : a ≤ b) : p ^ a ≤ p ^ b := by
  obtain ⟨k, rfl⟩ := Nat.exists_eq_add_of_le h
  rw [Int.pow_add]
  have h1 : ∀ m : Nat, 1 ≤ p ^ m := by
    intro m
    induction m with
    | zero => simp
    | succ m ih => rw [Int.pow_succ]; have := Int.mul_le_mul ih hp (by omega) (by omega); omega
  have := Int.mul_le_mul_of_nonneg_left (h1 k) (show 0 ≤ p ^ a by have := h1 a; omega)
  omega

set_option maxHeartbeats 4000000 in
set_option maxRecDepth 100000 in
theorem l03Irreducible_c (v : Value) (xs : List Int) (p : Int) (w : World) (hv : RdI w v xs) (p2 : 2 ≤ p) (p64 : p ≤ 64) (hx : In p xs) (hx1 : 1 ≤ xs.length) (hq : p ^ (xs.length - 1) ≤ 64) :
    Calls Tryz.prog 79 #[v, .int .i64 p] w (GivesB w (irrB p xs)) := by
  have hln := hv.len
  obtain ⟨D, hD⟩ : ∃ D, xs.length = D + 1 := ⟨xs.length - 1, by omega⟩
  have hD6 : D ≤ 6 := pow_small p2 (by rw [hD] at hq; exact hq)
  have HD := Lib.hid hD
  have Hx := Lib.hid hx
  have Hq := Lib.hid (show p ^ D ≤ 64 by rw [hD] at hq; exact hq)
  rw [hD] at hln
  clear hx hq hx1 hD
  go_enter Tryz.func79, Tryz.ntmps79
  go_wp2_with fail
  go_loopw [6, 7, 8, 9] (fun dd _ _ _ wr => ∃ d : Nat, 1 ≤ d ∧ dd = .int .i64 d ∧ d ≤ 10 ∧ Hid (∀ d' n : Nat, 1 ≤ d' → d' < d → n < (p ^ d').toNat → zeroL (remL p xs (tryP p d' n)) = false) ∧ St w.heap.size w wr []) (fun dd _ _ _ _ => 20 - (intOf dd).toNat)
  case atStart => exact ⟨1, by omega, rfl, by omega, fun d' n h1 h2 => by omega, St.refl _⟩
  case round =>
    obtain ⟨d, d1, rfl, d10, hI, hS⟩ := hrel
    by_cases hle : 2 * (d : Int) ≤ D
    · have hpd : p ^ d ≤ 64 := Int.le_trans (pow_mono (by omega) (show d ≤ D by omega)) Hq.out
      have hpd1 := (pow64 (p := p) (by omega) p64 d).1
      obtain ⟨K, hK⟩ := Int.eq_ofNat_of_zero_le (show 0 ≤ p ^ d by omega)
      have hK2 : K ≤ 64 := by omega
      have HK := Lib.hid hK
      have hpow : ∀ W, Hid (Calls Tryz.prog 99 #[.int .i64 p, .int .i64 d] W fun r w' => r = .returned (.int .i64 K) ∧ W = w') := fun W => by
        have := l03Power_c p d W (by omega) p64 (by omega)
        rw [hK] at this
        exact this
      clear hpd hpd1 hK
      go_wp2_with fail
      go_loopw [7, 8, 9] (fun nn _ _ wx => ∃ n : Nat, n ≤ K ∧ nn = .int .i64 n ∧ Hid (∀ m : Nat, m < n → zeroL (remL p xs (tryP p d m)) = false) ∧ St w.heap.size w wx []) (fun nn _ _ _ => K - (intOf nn).toNat)
      case atStart => exact ⟨0, by omega, rfl, fun m h => by omega, hS⟩
      case round =>
        obtain ⟨n, hn, rfl, hJ, hS⟩ := hrel
        by_cases hlt : n < K
        · have hdg := fun W => Lib.hid (l03Digits_c n p d W (by omega) (by omega) p2 (by omega) (by omega))
          go_wp2_with fail
          refine (hpow _).out.mono ?_
          rintro e w2 ⟨rfl, rfl⟩
          go_wp2_with fail
          refine (hdg _).out.mono ?_
          rintro e w2 ⟨v2, rfl, h2⟩
          have hS2 := hS.call h2
          simp only [List.nil_append] at hS2
          go_wp2_with (at_builtin; refine appI hS2 0 rfl (by rw [lows_len]; omega) rfl _ _ rfl rfl _ rfl ?_; intro v3 w3 hS3)
          have hr3 : RdI w3 v3 (tryP p d n) := hS3.rdI 0 rfl
          have hrem := Lib.hid (l03Rest_c v v3 xs (tryP p d n) p w3 (hS3.oldI hv) hr3 p2 p64 Hx.out (tryP_in p2 d n) (by rw [HD.out]; omega) (by rw [tryP_len]; omega) (by rw [tryP_len]; omega))
          clear hr3
          refine hrem.out.mono ?_
          rintro e w4 ⟨v4, rfl, h4⟩
          have hS4 := hS3.call0 h4.out
          have hr4 := h4.rdI 0 rfl
          have hin4 : In p (remL p xs (tryP p d n)) := In.remL (by omega) Hx.out
          have hlen4 : p ^ (remL p xs (tryP p d n)).length ≤ 1099511627776 := by
            have h9 := remL_len (p := p) (xs := xs) (ys := tryP p d n)
            rw [tryP_len] at h9
            have := pow_mono (p := p) (by omega) (show (remL p xs (tryP p d n)).length ≤ d by omega)
            rw [HK.out] at this; omega
          have hnum := Lib.hid (l03Number_c v4 _ p w4 hr4 (by omega) p64 hin4 hlen4)
          have hzz := Lib.hid (numL_zero (base := p) (by omega) hin4)
          clear hS2 hS3 hS hin4 hlen4
          go_wp2_with fail
          refine hnum.out.mono ?_
          rintro e w5 ⟨rfl, rfl⟩
          by_cases hz : numL p (remL p xs (tryP p d n)) = 0
          · have f0 := eq_t hz
            have Hz := Lib.hid (hzz.out.1 hz); clear hz
            go_wp2_with fail
            go_ret
            exact ⟨ret_bool (irrB_no d1 (by rw [HD.out]; omega) (by rw [HK.out]; omega) Hz.out).symm, hS4.out⟩
          · have f0 := eq_f hz
            have Hz : Hid (zeroL (remL p xs (tryP p d n)) = false) := by
              unfold Hid
              cases h9 : zeroL (remL p xs (tryP p d n)) with
              | false => rfl
              | true => exact absurd (hzz.out.2 h9) hz
            clear hz
            go_wp2_with fail
            go_roundw
            case rel => exact ⟨n + 1, by omega, by go_num, fun m hm => by
              by_cases e : m = n
              · subst e; exact Hz.out
              · exact hJ.out m (by omega), hS4.out⟩
            case measure => simp [intOf]; omega
        · obtain rfl : n = K := by omega
          go_wp2_with fail
          refine (hpow _).out.mono ?_
          rintro e w2 ⟨rfl, rfl⟩
          go_wp2_with fail
          go_roundw
          case rel => exact ⟨d + 1, by omega, by go_num, by omega, fun d' m h1 h2 hm => by
            by_cases e : d' = d
            · subst e; rw [HK.out, Int.toNat_natCast] at hm; exact hJ.out m hm
            · exact hI.out d' m h1 (by omega) hm, hS⟩
          case measure => simp [intOf]; omega
    · go_wp2_with fail
      go_ret
      exact ⟨ret_bool (irrB_iff.2 fun d' n h1 h2 h3 => hI.out d' n h1 (by rw [HD.out] at h2; omega) h3).symm, hS⟩


theorem lfac_no {q f d : Nat} (h : q % d ≠ 0) : lfac q (f + 1) d = lfac q f (d + 1) := by rw [lfac, if_neg h]
theorem lfac_yes {q f d : Nat} (h : q % d = 0) : lfac q f d = d := by
  cases f with
  | zero => rfl
  | succ f => rw [lfac, if_pos h]

set_option maxHeartbeats 2000000 in
set_option maxRecDepth 100000 in
theorem l03Split_c (q : Nat) (w : World) (q2 : 2 ≤ q) (q64 : q ≤ 64) : Calls Tryz.prog 77 #[.int .i64 q] w fun e w' => e = .returned (.tuple #[.int .i64 ((spl q).1 : Nat), .int .i64 ((spl q).2 : Nat)]) ∧ w = w' := by
  have hin : inB (q : Int) 2 64 = true := inB_true ⟨by omega, by omega⟩
  go_enter Tryz.func77, Tryz.ntmps77
  go_wp2_with (go_at_call 52; refine (l00In_c _ _ _ _).mono ?_; rintro e w3 ⟨rfl, rfl⟩)
  clear hin
  go_loop [4] (fun pp => ∃ k : Nat, 2 ≤ k ∧ k ≤ q ∧ pp = .int .i64 k ∧ Hid (lfac q 64 2 = lfac q (66 - k) k)) (fun pp => q - (intOf pp).toNat)
  case atStart => exact ⟨2, by omega, by omega, rfl, rfl⟩
  case round =>
    obtain ⟨k, k2, kq, rfl, hI⟩ := hrel
    have fk : ((k : Int) == 0) = false := eq_f (by omega)
    have hmn : (q : Int) % k = ((q % k : Nat) : Int) := by simp
    by_cases h : q % k = 0
    · have f0 : ((q : Int) % k != 0) = false := ne_f (by rw [hmn, h]; rfl)
      have HL := Lib.hid (show lfac q 64 2 = k by rw [hI.out, lfac_yes h])
      have H := Lib.hid h
      clear h hmn
      go_wp2_with fail
      clear f0
      go_loop [5, 6] (fun cc nn => ∃ n c f : Nat, n ≤ f ∧ n ≤ q ∧ 1 ≤ n ∧ c + n ≤ 200 ∧ cc = .int .i64 c ∧ nn = .int .i64 n ∧ Hid (plog k 64 q 0 = plog k f n c)) (fun _ nn => (intOf nn).toNat)
      case atStart => exact ⟨q, 0, 64, by omega, by omega, by omega, by omega, rfl, rfl, rfl⟩
      case round =>
        obtain ⟨n, c, f, nf, nq, n1, c1, rfl, rfl, hJ⟩ := hrel
        obtain ⟨f, rfl⟩ : ∃ g, f = g + 1 := ⟨f - 1, by omega⟩
        have hmn : (n : Int) % k = ((n % k : Nat) : Int) := by simp
        have hdn : (n : Int) / k = ((n / k : Nat) : Int) := by simp
        by_cases hn : 1 < n
        · by_cases h : n % k = 0
          · have f0 : ((n : Int) % k != 0) = false := ne_f (by rw [hmn, h]; rfl)
            have HP := Lib.hid (show plog k (f + 1) n c = plog k f (n / k) (c + 1) by rw [plog, if_pos hn, if_pos h])
            have hd1 : n / k < n := Nat.div_lt_self (by omega) (by omega)
            have hd2 : 1 ≤ n / k := by
              apply Nat.div_pos _ (by omega)
              exact Nat.le_of_dvd (by omega) (Nat.dvd_of_mod_eq_zero h)
            have q0 : 0 ≤ (n : Int) / k := by omega
            have Hdn := Lib.hid hdn
            have q1 : (n : Int) / k ≤ 64 := by omega
            clear h hmn hdn
            go_wp2_with fail
            go_round
            case rel => exact ⟨n / k, c + 1, f, by omega, by omega, hd2, by omega, by go_num, by rw [Hdn.out], by unfold Hid; rw [hJ.out, HP.out]⟩
            case measure => rw [Hdn.out]; simp [intOf]; omega
          · have f0 : ((n : Int) % k != 0) = true := ne_t (by rw [hmn]; omega)
            have HP := Lib.hid (show plog k (f + 1) n c = none by rw [plog, if_pos hn, if_neg h])
            clear h hmn hdn
            go_wp2_with fail
            go_ret2
            exact ⟨ret_2i (by rw [spl, HL.out, hJ.out, HP.out]; rfl) (by rw [spl, HL.out, hJ.out, HP.out]; rfl), rfl⟩
        · have HP := Lib.hid (show plog k (f + 1) n c = some c by rw [plog, if_neg hn])
          clear hmn hdn
          go_wp2_with fail
          go_ret2
          exact ⟨ret_2i (by rw [spl, HL.out, hJ.out, HP.out]) (by rw [spl, HL.out, hJ.out, HP.out]), rfl⟩
    · have f0 : ((q : Int) % k != 0) = true := ne_t (by rw [hmn]; omega)
      have hlt : k < q := by
        apply Nat.lt_of_le_of_ne kq; intro e; subst e; exact h (Nat.mod_self _)
      have HL := Lib.hid (show lfac q 64 2 = lfac q (66 - (k + 1)) (k + 1) by rw [hI.out, show 66 - k = (66 - (k + 1)) + 1 by omega, lfac_no h])
      clear h hmn
      go_wp2_with fail
      go_round
      case rel => exact ⟨k + 1, by omega, by omega, by go_num, HL⟩
      case measure => simp [intOf]; omega


/-- a field behind a pointer -/
def BoxF (w : World) (g : Nat) (p d : Int) (v : Value) : Prop :=
  w.cell? ⟨g, 0, none⟩ = some (.int .i64 p) ∧ w.cell? ⟨g, 1, none⟩ = some (.int .i64 d) ∧ w.cell? ⟨g, 2, none⟩ = some v
theorem cell_keepF {w w' : World} (hb : Below w.heap.size w w') {p : Addr} {u : Value} (h : w.cell? p = some u) : w'.cell? p = some u := by
  rw [hb.cell (World.block_lt_of_cell? _ _ h)]; exact h
theorem BoxF.keep {w w' : World} {g : Nat} {p d : Int} {v : Value} (h : BoxF w g p d v) (hb : Below w.heap.size w w') : BoxF w' g p d v :=
  ⟨cell_keepF hb h.1, cell_keepF hb h.2.1, cell_keepF hb h.2.2⟩
theorem St.oldF {w0 w : World} {L : List Ent} {g : Nat} {p d : Int} {v : Value} (h : St w0.heap.size w0 w L) (hr : BoxF w0 g p d v) : BoxF w g p d v := hr.keep h.below

end Go.Proofs.YtnodcfhdfpeokaaGreat
end

section
/- Walks: slices.ContainsFunc on rows of integers. -/
namespace Go.Proofs.YtnodcfhdfpeokaaGreat
set_option linter.unusedSimpArgs false
set_option linter.unusedVariables false
open Go.RowKit

/-! slices.ContainsFunc on rows -/
def anyR (p : List Int → Bool) (xss : List (List Int)) : Bool := xss.any p
def idxR (p : List Int → Bool) (xss : List (List Int)) (k : Nat) : Int := match (xss.drop k).findIdx? p with | some j => (k + j : Nat) | none => -1
theorem idxR_step {p : List Int → Bool} {xs : List (List Int)} {k : Nat} (hk : k < xs.length) (h : p (xat xs k) = false) : idxR p xs k = idxR p xs (k + 1) := by
  unfold idxR
  rw [drop_xat hk, List.findIdx?_cons, h]
  cases (xs.drop (k + 1)).findIdx? p with
  | none => rfl
  | some j => simp; omega
theorem idxR_hit {p : List Int → Bool} {xs : List (List Int)} {k : Nat} (hk : k < xs.length) (h : p (xat xs k) = true) : idxR p xs k = k := by
  unfold idxR; rw [drop_xat hk, List.findIdx?_cons, h]; simp
theorem idxR_end {p : List Int → Bool} {xs : List (List Int)} {k : Nat} (hk : xs.length ≤ k) : idxR p xs k = -1 := by
  unfold idxR; rw [List.drop_of_length_le hk]; rfl
theorem idxR_any {p : List Int → Bool} {xs : List (List Int)} : decide (0 ≤ idxR p xs 0) = anyR p xs := by
  unfold idxR anyR
  rw [List.drop_zero]
  cases h : xs.findIdx? p with
  | none =>
    have hy : xs.any p = false := by
      rw [List.any_eq_false]
      intro x hx
      have := List.findIdx?_eq_none_iff.1 h x hx
      simp [this]
    rw [hy]; simp
  | some j =>
    have hy : xs.any p = true := by
      obtain ⟨hj, hp, _⟩ := List.findIdx?_eq_some_iff_getElem.1 h
      exact List.any_eq_true.2 ⟨_, List.getElem_mem hj, hp⟩
    rw [hy]; simp

set_option maxHeartbeats 1000000 in
set_option maxRecDepth 100000 in
theorem IndexFuncR_c (K : FuncId) (caps : Array Value) (p : List Int → Bool) (v : Value) (us : List Value) (xss : List (List Int)) (w : World) (hv : RII w v us xss)
    (hcf : ∀ (args : Array Value) (W : World), (callFunc K args).run Tryz.prog W = .ok (.enter K args) W)
    (hK : ∀ (j : Nat) (W : World), St w.heap.size w W [] → j < xss.length → Calls Tryz.prog K (#[vat us j] ++ caps) W (GivesB W (p (xat xss j)))) :
    Calls Tryz.prog 106 #[v, .func (.func K) #[] caps] w (GivesI w (idxR p xss 0)) := by
  have HK := Lib.hid hK
  clear hK
  have hln := hv.len
  have hix := hv.ix
  have hm := hv.le
  go_enter Tryz.func106, Tryz.ntmps106
  go_wp2_with fail
  go_loopw [5, 8] (fun _ i wr => ∃ k : Nat, k ≤ xss.length ∧ i = .int .i64 k ∧ Hid (idxR p xss 0 = idxR p xss k) ∧ St w.heap.size w wr []) (fun _ i _ => xss.length - (intOf i).toNat)
  case atStart => exact ⟨0, by omega, rfl, rfl, St.refl w⟩
  case round =>
    obtain ⟨k, hk, rfl, hI, hS⟩ := hrel
    by_cases hlt : k < xss.length
    · have hc := (hS.oldII hv).cell k hlt
      go_wp2_with fail
      refine (HK.out _ _ hS hlt).mono ?_
      cases hp : p (xat xss k)
      · have Hp := Lib.hid hp; clear hp
        rintro e w2 ⟨rfl, h2⟩
        have hS2 := hS.call0 h2
        go_wp2_with fail
        go_roundw
        case rel => exact ⟨k + 1, by omega, by go_num, by rw [Hid, hI.out, idxR_step hlt Hp.out], hS2⟩
        case measure => simp [intOf]; omega
      · have Hp := Lib.hid hp; clear hp
        rintro e w2 ⟨rfl, h2⟩
        have hS2 := hS.call0 h2
        go_wp2_with fail
        go_ret
        exact ⟨ret_i64 (by rw [hI.out, idxR_hit hlt Hp.out]), hS2⟩
    · go_wp2_with fail
      go_ret
      exact ⟨ret_i64 (by rw [hI.out, idxR_end (by omega)]), hS⟩
theorem ContainsFuncR_c (K : FuncId) (caps : Array Value) (p : List Int → Bool) (v : Value) (us : List Value) (xss : List (List Int)) (w : World) (hv : RII w v us xss)
    (hcf : ∀ (args : Array Value) (W : World), (callFunc K args).run Tryz.prog W = .ok (.enter K args) W)
    (hK : ∀ (j : Nat) (W : World), St w.heap.size w W [] → j < xss.length → Calls Tryz.prog K (#[vat us j] ++ caps) W (GivesB W (p (xat xss j)))) :
    Calls Tryz.prog 95 #[v, .func (.func K) #[] caps] w (GivesB w (anyR p xss)) := by
  have HK := Lib.hid hK
  clear hK
  go_enter Tryz.func95, Tryz.ntmps95
  go_wp2_with fail
  refine (IndexFuncR_c K caps p v us xss w hv hcf HK.out).mono ?_
  rintro e w1 ⟨rfl, h1⟩
  go_wp2_with fail
  go_ret
  exact ⟨ret_bool idxR_any, h1⟩

theorem szII_c (v : Value) (us : List Value) (xss : List (List Int)) (w : World) (hv : RII w v us xss) :
    Calls Tryz.prog 21 #[v] w fun e w' => e = .returned (.int .i64 xss.length) ∧ w = w' := by
  have hln := hv.len
  go_enter Tryz.func21, Tryz.ntmps21
  go_wp2_with fail
  go_ret
  exact ⟨rfl, rfl⟩
end Go.Proofs.YtnodcfhdfpeokaaGreat
end

section
/- Walks: valid matrices. -/
namespace Go.Proofs.YtnodcfhdfpeokaaGreat
set_option linter.unusedSimpArgs false
set_option linter.unusedVariables false
open Go.RowKit
attribute [local go_sem ↓] Go.wp_at_zero Go.wp_at_succ

/-! numbers that are elements -/
theorem l03Size_c (p d : Int) (g : Nat) (v : Value) (xs : List Int) (w : World) (hb : BoxF w g p d v) (hf : FV p d xs) : Calls Tryz.prog 80 #[.pointer (some ⟨g, 0, none⟩)] w (GivesI w (p ^ d.toNat)) := by
  have hS0 := St.refl w
  have q0 := fun s : SS w.heap.size w [] => (s.st.oldF hb).1
  have q1 := fun s : SS w.heap.size w [] => (s.st.oldF hb).2.1
  have p2 := hf.p2
  have p64 := hf.p64
  have d6 := hf.d6
  have d1 := hf.d1
  obtain ⟨D, rfl⟩ := Int.eq_ofNat_of_zero_le (show 0 ≤ d by omega)
  rw [Int.toNat_natCast]
  go_enter Tryz.func80, Tryz.ntmps80
  go_wp2_with fail
  have hne : Nonempty (SS _ _ _) := ⟨⟨_, hS0⟩⟩
  refine wp_region_st (by kernel_rfl) (by kernel_rfl) hS0 ?_
  repeat (go_big_quiet_step ((go_at_call 99; exact st_quiet0 (l03Power_c p D _ (by omega) p64 (by omega)))))
  refine wpQuiet_nil ?_
  rintro _ ⟨s2, rfl⟩
  have hS3 := s2.st
  generalize s2.w = w3 at hS3 ⊢
  go_wp2_with fail
  go_ret
  exact ⟨rfl, hS3⟩

end Go.Proofs.YtnodcfhdfpeokaaGreat
end

section
/- Walks: sums of elements. Walks: the statements' sums of elements. -/
namespace Go.Proofs.YtnodcfhdfpeokaaGreat
set_option linter.unusedSimpArgs false
set_option linter.unusedVariables false
open Go.RowKit
attribute [local go_sem ↓] Go.wp_at_zero Go.wp_at_succ


/-- the first j places are x + s y -/
def smP (p : Int) (x y : List Int) (s : Int) (j : Nat) : List Int := tab x.length fun t => if t < j then (cf x t + s * cf y t) % p else cf x t
theorem smP_len (p : Int) (x y : List Int) (s : Int) (j : Nat) : (smP p x y s j).length = x.length := tab_len _ _
theorem smP_0 (p : Int) (x y : List Int) (s : Int) : smP p x y s 0 = x := by
  conv => rhs; rw [← tab_cf x]
  exact tab_congr fun t _ => by rw [if_neg (by omega)]
theorem smP_step {p : Int} {x y : List Int} {s : Int} {j : Nat} (hj : j < x.length) : (smP p x y s j).set j ((cf x j + s * cf y j) % p) = smP p x y s (j + 1) := by
  refine cf_ext (by simp [smP_len]) fun t ht => ?_
  rw [List.length_set, smP_len] at ht
  unfold smP
  rw [cf_set (by rw [tab_len]; exact hj), cf_tab ht, cf_tab ht]
  by_cases e : j = t
  · subst e; rw [if_pos rfl, if_pos (by omega)]
  · rw [if_neg e]
    by_cases h : t < j
    · rw [if_pos h, if_pos (by omega)]
    · rw [if_neg h, if_neg (by omega)]
theorem smP_at {p : Int} {x y : List Int} {s : Int} {j : Nat} (hj : j < x.length) : nth (smP p x y s j) j = nth x j := by
  have := cf_tab (f := fun t => if t < j then (cf x t + s * cf y t) % p else cf x t) hj
  rw [if_neg (by omega)] at this
  exact this
theorem smP_end {p : Int} {D : Nat} {a b s : Int} : numL p (smP p (dgt p D a) (dgt p D b) s D) = fsum p D a b s := by
  unfold smP fsum
  rw [dgt_len]
  congr 1
  exact tab_congr fun t ht => by rw [if_pos ht]
theorem smP_in {p : Int} (hp : 0 < p) {x y : List Int} {s : Int} {j : Nat} (hx : In p x) : In p (smP p x y s j) := by
  refine In.tab fun t ht => ?_
  split
  · exact ⟨Int.emod_nonneg _ (by omega), Int.emod_lt_of_pos _ hp⟩
  · exact hx.cf hp t
set_option maxHeartbeats 4000000 in
set_option maxRecDepth 100000 in
theorem l03Sum_c (p : Int) (D : Nat) (g : Nat) (v : Value) (xs : List Int) (a b s : Int) (w : World) (hbx : BoxF w g p D v) (hf : FV p D xs) (a0 : 0 ≤ a) (a1 : a ≤ 1000000) (b0 : 0 ≤ b) (b1 : b ≤ 1000000) (s0 : 0 ≤ s) (s1 : s ≤ 64) :
    Calls Tryz.prog 65 #[.pointer (some ⟨g, 0, none⟩), .int .i64 a, .int .i64 b, .int .i64 s] w (GivesI w (fsum p D a b s)) := by
  have hS0 := St.refl w
  have p2 := hf.p2
  have p64 := hf.p64
  have d6 := hf.d6
  have hq := hf.q
  rw [Int.toNat_natCast] at hq
  have HQ := Lib.hid hq
  have fp : (p == 0) = false := eq_f (by omega)
  have c0 := hbx.1
  have c1 := hbx.2.1
  have hda := fun W => Lib.hid (l03Digits_c a p D W a0 (by omega) p2 (by omega) (by omega))
  have hdb := fun W => Lib.hid (l03Digits_c b p D W b0 (by omega) p2 (by omega) (by omega))
  rw [lows_dgt] at hda hdb
  have Hx := Lib.hid (dgt_in (base := p) (by omega) D a)
  have Hy := Lib.hid (dgt_in (base := p) (by omega) D b)
  have Hxl := Lib.hid (dgt_len p D a)
  have Hyl := Lib.hid (dgt_len p D b)
  have Hend := Lib.hid (smP_end (p := p) (D := D) (a := a) (b := b) (s := s))
  clear hf hq
  generalize dgt p D a = x at hda Hx Hxl Hend
  generalize dgt p D b = y at hdb Hy Hyl Hend
  have HB := Lib.hid hbx
  go_enter Tryz.func65, Tryz.ntmps65
  go_wp2_with fail
  go_region_held3 (fun w' => w'.cell? ⟨g, 0, none⟩ = some (.int .i64 p) ∧ w'.cell? ⟨g, 1, none⟩ = some (.int .i64 D)) (go_keep)
    ((go_at_call_of 78 (Value.int .i64 a); refine (hda _).out.mono ?_; rintro e w1 ⟨vx, rfl, h1⟩; have hS1 := hS0.drew.call h1; have g0 := (hS1.oldF HB.out).1; have g1 := (hS1.oldF HB.out).2.1))
  go_wp2_with fail
  go_region_held3 (fun w' => w'.cell? ⟨g, 0, none⟩ = some (.int .i64 p) ∧ w'.cell? ⟨g, 1, none⟩ = some (.int .i64 D)) (go_keep)
    ((go_at_call_of 78 (Value.int .i64 b); refine (hdb _).out.mono ?_; rintro e w2 ⟨vy, rfl, h2⟩; have hS2 := hS1.drew.call h2; have k0 := (hS2.oldF HB.out).1; have k1 := (hS2.oldF HB.out).2.1))
  simp only [List.cons_append, List.nil_append] at hS2
  have hlx := (hS2.rdI 0 rfl).len
  rw [Hxl.out] at hlx
  clear hS1 h1 h2 g0 g1 hda hdb c0 c1 k0 k1
  go_wp2_with fail
  go_loopw [11] (fun i wr => ∃ j : Nat, j ≤ D ∧ i = .int .i64 j ∧ St w.heap.size w wr [row 2 vx (iv (smP p x y s j)), row 2 vy (iv y)]) (fun i _ => D - (intOf i).toNat)
  case atStart => exact ⟨0, by omega, rfl, by rw [smP_0]; exact hS2⟩
  case round =>
    obtain ⟨j, hj, rfl, hS⟩ := hrel
    by_cases hlt : j < D
    · have hat : j < (smP p x y s j).length := by rw [smP_len, Hxl.out]; exact hlt
      have hyt : j < y.length := by rw [Hyl.out]; exact hlt
      have hxt : j < x.length := by rw [Hxl.out]; exact hlt
      have hca := (hS.rdI 0 rfl).cell j hat
      have hcb := (hS.rdI 1 rfl).cell j hyt
      have hxa := (hS.rdI 0 rfl).ixe (j : Int) j rfl hat
      have hxb := (hS.rdI 1 rfl).ixe (j : Int) j rfl hyt
      rw [smP_at hxt] at hca
      have hab := Hx.out _ (nth_mem hxt)
      have hbb := Hy.out _ (nth_mem hyt)
      have hst := Lib.hid (smP_step (p := p) (x := x) (y := y) (s := s) hxt)
      have u1 := hS.unfrozen 0 rfl (j := j) (by rw [iv_len]; exact hat)
      have b0 := (hS.oldF HB.out).1
      generalize hA : nth x j = A at hca hab
      generalize hB : nth y j = B at hcb hbb
      have HA := Lib.hid hA
      have HBB := Lib.hid hB
      obtain ⟨a2, a3⟩ := hab
      obtain ⟨b2, b3⟩ := hbb
      have n0 : 0 ≤ s * B := Int.mul_nonneg s0 b2
      have n1 : s * B ≤ 4096 := Int.le_trans (Int.mul_le_mul s1 (show B ≤ 64 by omega) b2 (by omega)) (by omega)
      have hs1 := hS.store 0 rfl (j := j) (by rw [iv_len]; exact hat) (.int .i64 ((A + s * B) % p))
      have hs2 := Lib.hid hs1.drew
      clear hA hB hat hyt hxt hs1
      go_wp2_with fail
      go_region
      all_goals
        go_wp2_with fail
        go_roundw
        case rel =>
          refine ⟨j + 1, by omega, by go_num, ?_⟩
          have h := hs2.out
          rw [iv_set] at h
          rw [← hst.out, show cf x j = A from HA.out, show cf y j = B from HBB.out]
          exact h
        case measure => simp [intOf]; omega
    · obtain rfl : j = D := by omega
      have b0 := (hS.oldF HB.out).1
      have hnum := Lib.hid (l03Number_c vx (smP p x y s j) p wr (hS.rdI 0 rfl) (by omega) p64 (smP_in (by omega) Hx.out) (by rw [smP_len, Hxl.out]; have := HQ.out; omega))
      rw [Hend.out] at hnum
      go_wp2_with fail
      refine hnum.out.mono ?_
      rintro e w3 ⟨rfl, rfl⟩
      go_wp2_with fail
      go_ret
      exact ⟨rfl, hS.out⟩

end Go.Proofs.YtnodcfhdfpeokaaGreat
end

section
/- Walks: products of elements. Walks: the statements' products of elements. -/
namespace Go.Proofs.YtnodcfhdfpeokaaGreat
set_option linter.unusedSimpArgs false
set_option linter.unusedVariables false
open Go.RowKit
attribute [local go_sem ↓] Go.wp_at_zero Go.wp_at_succ


theorem cvr_in {p : Int} (hp : 0 < p) (x y : List Int) (D n i j : Nat) : In p (cvr p x y D n i j) := by
  refine In.tab fun t _ => ?_
  split
  · exact cvl_in hp x y D _ t
  · exact cvl_in hp x y D _ t
theorem cvr_inl {p : Int} (hp : 0 < p) (x y : List Int) (D n i : Nat) : In p (tab n (cvl p x y D i)) := In.tab fun t _ => cvl_in hp x y D i t

set_option maxHeartbeats 8000000 in
set_option maxRecDepth 100000 in
theorem l03Mul_c (p : Int) (D : Nat) (g : Nat) (v : Value) (xs : List Int) (a b : Int) (w : World) (hv : RdI w v xs) (hbx : BoxF w g p D v) (hf : FV p D xs) (a0 : 0 ≤ a) (a1 : a ≤ 1000000) (b0 : 0 ≤ b) (b1 : b ≤ 1000000) :
    Calls Tryz.prog 82 #[.pointer (some ⟨g, 0, none⟩), .int .i64 a, .int .i64 b] w (GivesI w (fmul p D xs a b)) := by
  have hS0 := St.refl w
  have p2 := hf.p2
  have p64 := hf.p64
  have d6 := hf.d6
  have d1 := hf.d1
  have HQ := Lib.hid hf.len
  have hq := hf.q
  rw [Int.toNat_natCast] at hq
  have HP := Lib.hid hq
  clear hq
  have Hin := Lib.hid hf.inp
  have fp : (p == 0) = false := eq_f (by omega)
  have c0 := hbx.1
  have c1 := hbx.2.1
  have HBX := Lib.hid hbx
  have hda := fun W => Lib.hid (l03Digits_c a p D W a0 (by omega) p2 (by omega) (by omega))
  have hdb := fun W => Lib.hid (l03Digits_c b p D W b0 (by omega) p2 (by omega) (by omega))
  rw [lows_dgt] at hda hdb
  have Hx := Lib.hid (dgt_in (base := p) (by omega) D a)
  have Hy := Lib.hid (dgt_in (base := p) (by omega) D b)
  have Hxl := Lib.hid (dgt_len p D a)
  have Hyl := Lib.hid (dgt_len p D b)
  have Hend := Lib.hid (show numL p (remL p (tab (2 * D - 1) (cvl p (dgt p D a) (dgt p D b) D D)) xs) = fmul p D xs a b from rfl)
  generalize fmul p D xs a b = R at Hend ⊢
  clear hf
  generalize dgt p D a = x at hda Hx Hxl Hend
  generalize dgt p D b = y at hdb Hy Hyl Hend
  go_enter Tryz.func82, Tryz.ntmps82
  go_wp2_with fail
  go_region_held3 (fun w' => w'.cell? ⟨g, 0, none⟩ = some (.int .i64 p) ∧ w'.cell? ⟨g, 1, none⟩ = some (.int .i64 D)) (go_keep)
    ((go_at_call_of 78 (Value.int .i64 a); refine (hda _).out.mono ?_; rintro e w1 ⟨vx, rfl, h1⟩; have hS1 := hS0.drew.call h1; have g0 := (hS1.oldF HBX.out).1; have g1 := (hS1.oldF HBX.out).2.1))
  go_wp2_with fail
  go_region_held3 (fun w' => w'.cell? ⟨g, 0, none⟩ = some (.int .i64 p) ∧ w'.cell? ⟨g, 1, none⟩ = some (.int .i64 D)) (go_keep)
    ((go_at_call_of 78 (Value.int .i64 b); refine (hdb _).out.mono ?_; rintro e w2 ⟨vy, rfl, h2⟩; have hS2 := hS1.drew.call h2; have k0 := (hS2.oldF HBX.out).1; have k1 := (hS2.oldF HBX.out).2.1))
  simp only [List.cons_append, List.nil_append] at hS2
  clear hS1 h1 h2 g0 g1 hda hdb c0 c1 k0
  have hlx := (hS2.rdI 0 rfl).len
  have hly := (hS2.rdI 1 rfl).len
  have hM : ((2 * D - 1 : Nat) : Int) = 2 * (D : Int) - 1 := by omega
  rw [Hxl.out] at hlx
  rw [Hyl.out] at hly
  go_wp2_with (at_make; refine mkI hS2 rfl _ _ rfl _ _ (2 * D - 1) (by rw [hM]; go_num) (by rw [hM]; go_num) (by omega) ?_; intro vz w3 hS3)
  simp only [List.cons_append, List.nil_append] at hS3
  clear k1 hS2 hM
  go_wp2_with fail
  go_loopw [10] (fun i wr => ∃ j : Nat, j ≤ D ∧ i = .int .i64 j ∧ St w.heap.size w wr [row 2 vx (iv x), row 2 vy (iv y), row 2 vz (iv (tab (2 * D - 1) (cvl p x y D j)))]) (fun i _ => D - (intOf i).toNat)
  case atStart => exact ⟨0, by omega, rfl, by rw [cvl_0]; exact hS3⟩
  case round =>
    obtain ⟨i, hi, rfl, hS⟩ := hrel
    by_cases hlt : i < D
    · rw [← cvr_0 p x y D (2 * D - 1) i] at hS
      go_wp2_with fail
      go_loopw [11] (fun u wr => ∃ j : Nat, j ≤ D ∧ u = .int .i64 j ∧ St w.heap.size w wr [row 2 vx (iv x), row 2 vy (iv y), row 2 vz (iv (cvr p x y D (2 * D - 1) i j))]) (fun u _ => D - (intOf u).toNat)
      case atStart => exact ⟨0, by omega, rfl, hS⟩
      case round =>
        obtain ⟨j, hj, rfl, hT⟩ := hrel
        by_cases hlu : j < D
        · have hat : i + j < (cvr p x y D (2 * D - 1) i j).length := by rw [cvr_len]; omega
          have hxt : i < x.length := by rw [Hxl.out]; exact hlt
          have hyt : j < y.length := by rw [Hyl.out]; exact hlu
          have hcz := (hT.rdI 2 rfl).cell (i + j) hat
          have hcx := (hT.rdI 0 rfl).cell i hxt
          have hcy := (hT.rdI 1 rfl).cell j hyt
          have hiz := (hT.rdI 2 rfl).ixe ((i : Int) + (j : Int)) (i + j) (by omega) hat
          have hix := (hT.rdI 0 rfl).ixe (i : Int) i rfl hxt
          have hiy := (hT.rdI 1 rfl).ixe (j : Int) j rfl hyt
          have hab := Hx.out _ (nth_mem hxt)
          have hbb := Hy.out _ (nth_mem hyt)
          have hcc := cvr_in (by omega) x y D (2 * D - 1) i j _ (nth_mem hat)
          have hst := Lib.hid (cvr_step (p := p) (x := x) (y := y) (D := D) (n := 2 * D - 1) (i := i) (j := j) hlu (by omega))
          have u1 := hT.unfrozen 2 rfl (j := i + j) (by rw [iv_len]; exact hat)
          have e0 := (hT.oldF HBX.out).1
          generalize hA : nth x i = A at hcx hab
          generalize hB : nth y j = B at hcy hbb
          generalize hC : nth (cvr p x y D (2 * D - 1) i j) (i + j) = C at hcz hcc
          have HA := Lib.hid hA
          have HB := Lib.hid hB
          have HC := Lib.hid hC
          obtain ⟨a2, a3⟩ := hab
          obtain ⟨b2, b3⟩ := hbb
          obtain ⟨e2, e3⟩ := hcc
          have n0 : 0 ≤ A * B := Int.mul_nonneg a2 b2
          have n1 : A * B ≤ 4096 := Int.le_trans (Int.mul_le_mul (show A ≤ 64 by omega) (show B ≤ 64 by omega) b2 (by omega)) (by omega)
          have hs1 := hT.store 2 rfl (j := i + j) (by rw [iv_len]; exact hat) (.int .i64 ((C + A * B) % p))
          have hs2 := Lib.hid hs1.drew
          clear hA hB hC hat hyt hxt hs1
          go_wp2_with fail
          go_region
          all_goals
            go_wp2_with fail
            go_roundw
            case rel =>
              refine ⟨j + 1, by omega, by go_num, ?_⟩
              have h := hs2.out
              rw [iv_set] at h
              rw [← hst.out, show cf x i = A from HA.out, show cf y j = B from HB.out, show cf (cvr p x y D (2 * D - 1) i j) (i + j) = C from HC.out]
              exact h
            case measure => simp [intOf]; omega
        · obtain rfl : j = D := by omega
          rw [cvr_end] at hT
          go_wp2_with fail
          go_roundw
          case rel => exact ⟨i + 1, by omega, by go_num, hT⟩
          case measure => simp [intOf]; omega
    · obtain rfl : D = i := by omega
      have hrem := Lib.hid (l03Rest_c vz v _ xs p _ (hS.drew.rdI 2 rfl) (hS.drew.oldI hv) p2 p64 (cvr_inl (by omega) x y D (2 * D - 1) D) Hin.out (by rw [tab_len]; omega) (by have := HQ.out; omega) (by have := HQ.out; omega))
      have c0 := (hS.oldF HBX.out).1
      have c2 := (hS.oldF HBX.out).2.2
      have Hri : Hid (In p (remL p (tab (2 * D - 1) (cvl p x y D D)) xs)) := Lib.hid (In.remL (by omega) (cvr_inl (by omega) x y D (2 * D - 1) D))
      have Hrl : Hid ((remL p (tab (2 * D - 1) (cvl p x y D D)) xs).length ≤ xs.length - 1) := Lib.hid remL_len
      generalize remL p (tab (2 * D - 1) (cvl p x y D D)) xs = rr at hrem Hri Hrl Hend
      go_wp2_with fail
      go_region_held3 (fun w' => w'.cell? ⟨g, 0, none⟩ = some (.int .i64 p) ∧ w'.cell? ⟨g, 2, none⟩ = some v) (go_keep)
        (first
        | (go_at_call_of 100 vz; refine (hrem.out).mono ?_; rintro e w5 ⟨vr, rfl, h5⟩; have hS5 := hS.drew.call h5; have k0 := (hS5.oldF HBX.out).1; have k2 := (hS5.oldF HBX.out).2.2)
        | (go_at_call_of 83 vr; refine (l03Number_c vr rr p _ (hS5.rdI 3 rfl) (by omega) p64 Hri.out (by have h1 := Hrl.out; have h2 := HQ.out; have h3 := HP.out; exact Int.le_trans (Int.le_trans (pow_mono (by omega) (show rr.length ≤ D by omega)) h3) (by omega))).mono ?_; rintro e w6 ⟨rfl, rfl⟩))
      simp only [List.cons_append, List.nil_append] at hS5
      go_wp2_with fail
      go_ret
      exact ⟨Hend.out ▸ rfl, hS5.out⟩

end Go.Proofs.YtnodcfhdfpeokaaGreat
end
