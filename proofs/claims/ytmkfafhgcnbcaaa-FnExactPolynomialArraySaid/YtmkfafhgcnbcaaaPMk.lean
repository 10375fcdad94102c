/- Fields that are made: the first irreducible polynomial, in plain terms. -/
import Derived.Test.YtmkfafhgcnbcaaaPFok
namespace Go.Proofs.Ytmkfafhgcnbcaaa
set_option linter.unusedSimpArgs false
set_option linter.unusedVariables false
/-- the first number from n on whose digits are an irreducible polynomial -/
def irn (p : Int) (D : Nat) : Nat → Nat → Nat
  | 0, n => n
  | f + 1, n => if irrB p (dgt p D n ++ [1]) = true then n else irn p D f (n + 1)
def mkN (q : Nat) : Nat := irn ((spl q).1 : Nat) (spl q).2 64 0
def mkF (q : Nat) : List Int := dgt ((spl q).1 : Nat) (spl q).2 (mkN q) ++ [1]
def mkOk (q : Int) : Bool := decide (2 ≤ q) && decide (q ≤ 64) && ((spl q.toNat).1 != 0)
theorem mk_check : ((List.range 65).all fun q => (spl q).1 == 0 || decide (q < 2) || (decide (2 ≤ (spl q).1) && decide (1 ≤ (spl q).2) && ((spl q).1 ^ (spl q).2 == q) && decide (mkN q ≤ 63) && irrB ((spl q).1 : Nat) (mkF q))) = true := by decide +kernel
theorem fac_check : ((List.range 65).all fun q => decide (q < 2) || (match factors (q : Int) with | [] => (0, 0) | x :: xs => if xs.all (· == x) then (x, (xs.length : Int) + 1) else (0, 0)) == ((((spl q).1 : Nat) : Int), (((spl q).2 : Nat) : Int))) = true := by decide +kernel
structure MK (q : Nat) : Prop where
  p2 : 2 ≤ (spl q).1
  d1 : 1 ≤ (spl q).2
  pw : (spl q).1 ^ (spl q).2 = q
  n63 : mkN q ≤ 63
  irr : irrB ((spl q).1 : Nat) (mkF q) = true
theorem mk_of {q : Nat} (h2 : 2 ≤ q) (h64 : q ≤ 64) (h0 : (spl q).1 ≠ 0) : MK q := by
  have := List.all_eq_true.1 mk_check q (List.mem_range.2 (by omega))
  simp only [Bool.or_eq_true, Bool.and_eq_true, beq_iff_eq, decide_eq_true_eq] at this
  rcases this with (h | h) | ⟨⟨⟨⟨a, b⟩, c⟩, d⟩, e⟩
  · exact absurd h h0
  · omega
  · exact ⟨a, b, c, d, e⟩
theorem MK.fv {q : Nat} (h : MK q) (h64 : q ≤ 64) : FV ((spl q).1 : Nat) ((spl q).2 : Nat) (mkF q) := by
  have hp64 : (spl q).1 ≤ 64 := by
    have := Nat.pow_le_pow_right (n := (spl q).1) (by have := h.p2; omega) h.d1
    rw [h.pw] at this; simp at this; omega
  have hq : (((spl q).1 : Nat) : Int) ^ (((spl q).2 : Nat) : Int).toNat ≤ 64 := by
    rw [Int.toNat_natCast, ← Int.natCast_pow, h.pw]; omega
  have hd6 := pow_small (p := ((spl q).1 : Nat)) (by have := h.p2; omega) hq
  rw [Int.toNat_natCast] at hd6
  have hin : In (((spl q).1 : Nat) : Int) (mkF q) := fun x hx => by
    have hp2 := h.p2
    rcases List.mem_append.1 hx with hx | hx
    · exact dgt_in (by omega) _ _ x hx
    · simp at hx; subst hx; omega
  refine ⟨?_, by have := h.p2; omega, by omega, by have := h.d1; omega, by omega, hq, by simp [mkF, dgt_len], ?_, hin, h.irr⟩
  · rw [← split_ok (p := ((spl q).1 : Nat)) (d := ((spl q).2 : Nat)) (by have := h.p2; omega) (by omega) (by have := h.d1; omega) (by omega) hq, Int.toNat_natCast, ← Int.natCast_pow, Int.toNat_natCast, h.pw]
  · rw [Int.toNat_natCast, mkF, cf_appR (by rw [dgt_len])]
/-- the search -/
theorem irn_hit {p : Int} {D f n : Nat} (h : irrB p (dgt p D n ++ [1]) = true) : irn p D f n = n := by
  cases f with
  | zero => rfl
  | succ f => rw [irn, if_pos h]
theorem irn_next {p : Int} {D f n : Nat} (h : irrB p (dgt p D n ++ [1]) = false) (hN : irrB p (dgt p D (irn p D f n) ++ [1]) = true) : ∃ f', f = f' + 1 ∧ irn p D f n = irn p D f' (n + 1) := by
  cases f with
  | zero => rw [irn, h] at hN; cases hN
  | succ f => exact ⟨f, rfl, by rw [irn, if_neg (by rw [h]; simp)]⟩
/-- the value of a polynomial, the leading coefficient first -/
def hor (p : Int) (D : Nat) (fs : List Int) (x : Int) (cs : List Int) : Int := cs.foldl (fun v c => fsum p D (fmul p D fs v x) c 1) 0
theorem hor_snoc (p : Int) (D : Nat) (fs : List Int) (x : Int) (cs : List Int) (c : Int) : hor p D fs x (cs ++ [c]) = fsum p D (fmul p D fs (hor p D fs x cs) x) c 1 := by
  unfold hor; rw [List.foldl_append]; rfl
end Go.Proofs.Ytmkfafhgcnbcaaa
