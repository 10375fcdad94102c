/- Walks: the tables of a field. -/
import Derived.Test.YtpfgbbbjldpnnaaMul
import Derived.Test.YtpfgbbbjldpnnaaSum
import Derived.Test.YtpfgbbbjldpnnaaMk
import Derived.Test.YtpfgbbbjldpnnaaPGen
import Derived.Deep.CutRange
namespace Go.Proofs.Ytpfgbbbjldpnnaa
set_option linter.unusedSimpArgs false
set_option linter.unusedVariables false
open Go.RowKit
attribute [local go_sem ↓] Go.wp_at_zero Go.wp_at_succ

/-- a square table -/
def tb (q : Nat) (f : Nat → Nat → Int) : List (List Int) := (List.range q).map fun a => tab q (f a)
theorem tb_len (q : Nat) (f : Nat → Nat → Int) : (tb q f).length = q := by simp [tb]
theorem xat_tb {q : Nat} {f : Nat → Nat → Int} {a : Nat} (h : a < q) : xat (tb q f) a = tab q (f a) := by simp [xat, tb, h]
theorem tb_take {q : Nat} {f : Nat → Nat → Int} {a : Nat} (h : a < q) : (tb q f).take (a + 1) = (tb q f).take a ++ [tab q (f a)] := by
  rw [take_xat (by rw [tb_len]; exact h), xat_tb h]
/-- the first k places of a list -/
def pt (q k : Nat) (f : Nat → Int) : List Int := tab q fun i => if i < k then f i else 0
theorem pt_len (q k : Nat) (f : Nat → Int) : (pt q k f).length = q := tab_len _ _
theorem pt_0 (q : Nat) (f : Nat → Int) : pt q 0 f = List.replicate q 0 := by
  apply List.ext_getElem
  · simp [pt, tab]
  · intro i h1 h2; simp [pt, tab]
theorem pt_end (q : Nat) (f : Nat → Int) : pt q q f = tab q f := tab_congr fun i hi => if_pos hi
theorem pt_set {q k : Nat} {f : Nat → Int} (hk : k < q) : (pt q k f).set k (f k) = pt q (k + 1) f := by
  refine cf_ext (by simp [pt_len]) fun t ht => ?_
  rw [List.length_set, pt_len] at ht
  unfold pt
  rw [cf_set (by rw [tab_len]; exact hk), cf_tab ht, cf_tab ht]
  by_cases e : k = t
  · subst e; rw [if_pos rfl, if_pos (by omega)]
  · rw [if_neg e]
    by_cases h : t < k
    · rw [if_pos h, if_pos (by omega)]
    · rw [if_neg h, if_neg (by omega)]
def invP (p : Int) (D : Nat) (fs : List Int) (q a k : Nat) : List Int := tab q fun i => if i < a then invN p D fs i q else if i = a then invN p D fs a k else 0
def invT (p : Int) (D : Nat) (fs : List Int) : List Int := tab (qn p D) fun i => invN p D fs i (qn p D)
theorem invP_0 (p : Int) (D : Nat) (fs : List Int) (q : Nat) : invP p D fs q 0 0 = List.replicate q 0 := by
  apply List.ext_getElem
  · simp [invP, tab]
  · intro i h1 h2; simp [invP, tab, invN]
theorem invP_row (p : Int) (D : Nat) (fs : List Int) (q a : Nat) : invP p D fs q a q = invP p D fs q (a + 1) 0 :=
  tab_congr fun i hi => by
    by_cases h : i < a
    · rw [if_pos h, if_pos (by omega)]
    · rw [if_neg h]
      by_cases e : i = a
      · rw [if_pos e, if_pos (by omega), e]
      · rw [if_neg e, if_neg (by omega)]; simp [invN]
theorem invP_end (p : Int) (D : Nat) (fs : List Int) (k : Nat) : invP p D fs (qn p D) (qn p D) k = invT p D fs := tab_congr fun i hi => if_pos hi
theorem invP_len (p : Int) (D : Nat) (fs : List Int) (q a k : Nat) : (invP p D fs q a k).length = q := tab_len _ _
theorem invP_same {p : Int} {D : Nat} {fs : List Int} {q a k : Nat} (h : fmul p D fs a k ≠ 1) : invP p D fs q a (k + 1) = invP p D fs q a k := by
  unfold invP; rw [invN, if_neg h]
theorem invP_set {p : Int} {D : Nat} {fs : List Int} {q a k : Nat} (ha : a < q) (h : fmul p D fs a k = 1) : (invP p D fs q a k).set a k = invP p D fs q a (k + 1) := by
  refine cf_ext (by simp [invP_len]) fun t ht => ?_
  rw [List.length_set, invP_len] at ht
  unfold invP
  rw [cf_set (by rw [tab_len]; exact ha), cf_tab ht, cf_tab ht]
  by_cases e : a = t
  · subst e; rw [if_pos rfl, if_neg (by omega), if_pos rfl, invN, if_pos h]
  · rw [if_neg e]
    by_cases h1 : t < a
    · rw [if_pos h1, if_pos h1]
    · rw [if_neg h1, if_neg h1, if_neg (fun e2 => e e2.symm), if_neg (fun e2 => e e2.symm)]

def fAdd (p : Int) (D : Nat) (a b : Nat) : Int := fsum p D a b 1
def fSub (p : Int) (D : Nat) (a b : Nat) : Int := fsum p D a b (-1)
def fMul (p : Int) (D : Nat) (fs : List Int) (a b : Nat) : Int := fmul p D fs a b
/-- it hands over the tables -/
def MakesT (w : World) (p : Int) (D : Nat) (fs : List Int) (e : Ending) (w' : World) : Prop :=
  ∃ va ua vs us vm um vi, e = .returned (.agg #[.int .i64 (qn p D), va, vs, vm, vi]) ∧ ua.length = qn p D ∧ us.length = qn p D ∧ um.length = qn p D ∧
    St w.heap.size w w' (own2 va ua (tb (qn p D) (fAdd p D)) ++ own2 vs us (tb (qn p D) (fSub p D)) ++ own2 vm um (tb (qn p D) (fMul p D fs)) ++ [row 2 vi (iv (invT p D fs))])

end Go.Proofs.Ytpfgbbbjldpnnaa
