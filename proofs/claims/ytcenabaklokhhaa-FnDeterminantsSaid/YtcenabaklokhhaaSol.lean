/- Walks: SolveRow of both sides. -/
import Derived.Test.YtcenabaklokhhaaRR
import Derived.Test.YtcenabaklokhhaaPInv
namespace Go.Proofs.Ytcenabaklokhhaa
set_option linter.unusedSimpArgs false
set_option linter.unusedVariables false
open Go.RowKit
attribute [local go_sem ↓] Go.wp_at_zero Go.wp_at_succ

section
variable {ops : Array Oper} {o : Oper} {a : Act} {K : Act → World → Prop} {Q : Exit → Act → World → Prop} {E : Prop} {B : Nat} {w0 w : World} {L : List Ent}
/-- append of one integer, which lies in a block of its own, to an owned row of integers, as a step -/
theorem stepAppBoxI (hS : St B w0 w L) (i : Nat) {v : Value} {xs : List Int} (hi : L[i]? = some (row 2 v (iv xs))) (hN : xs.length < 4294967296) (t : Nat) {g : Nat} {n : Int} (ht : L[t]? = some (box 2 g [.int .i64 n])) (hg : o.guard = none) (s x : Operand)
    (hop : o.op = .call { callee := .builtin .append, args := #[s, x], argTypes := #[23, 23] }) (hs : a.eval s = v) (hx : a.eval x = .slice (some ⟨g, 0, none⟩) 1 1)
    (hK : ∀ v' w', St B w0 w' (L.set i (row 2 v' (iv (xs ++ [n])))) → K (a.put o.dst v') w') :
    if Region.wanted o (yielded ops a.tmps) = true then Oper.wp Try.prog o a w K Q else E :=
  step_st_app hg s x 23 hop 2 (.int .i64 0) 8 Try.und_is Try.info_i rfl hS i hi hs ⟨g, 0, none⟩ 1 1 hx [.int .i64 n] rfl (by
    intro j u' hj
    match j, hj with
    | 0, hj =>
      simp at hj; subst hj
      rw [add_mk]
      exact hS.bcell t ht 0 rfl) (by simp [Value.oneCell']) (by omega) (by rw [iv_len]; omega) (fun v' w' h => hK v' w' (by rw [iv_app, iv_one]; exact h))
end

/-- the code of SolveRow, and the vector -/
def slvR (p d : Int) (xs : List Int) (m : List (List Int)) (b : List Int) : List (List Int) × List Int × Int := red p d.toNat xs (xat m 0).length 0 (wide m b m.length) [] 1
def slvC (p d : Int) (xs : List Int) (m : List (List Int)) (b : List Int) : Int :=
  if matOk p d xs m = true then if vecOk (p ^ d.toNat) b = true then if b.length = m.length then if solvable (slvR p d xs m b).1 (slvR p d xs m b).2.1.length (xat m 0).length = true then 0 else 3 else 6 else 1 else 1
def slvM (p d : Int) (xs : List Int) (m : List (List Int)) (b : List Int) : List Int := if slvC p d xs m b = 0 then solP (slvR p d xs m b).1 (slvR p d xs m b).2.1 (xat m 0).length (slvR p d xs m b).2.1.length else []

theorem sol_take {R : List (List Int)} {piv : List Int} {n t : Nat} : ∀ k, k ≤ t → solP (R.take t) piv n k = solP R piv n k
  | 0, _ => rfl
  | k + 1, h => by
    rw [solP, solP, sol_take k (by omega)]
    have : ra (R.take t) k = ra R k := by unfold ra; rw [List.getD_eq_getElem?_getD, List.getD_eq_getElem?_getD, List.getElem?_take, if_pos (by omega)]
    rw [this]
/-- what the program's reduction of the wide matrix comes to -/
theorem slv_yes {p : Int} {D : Nat} {fs : List Int} {m : List (List Int)} {n : Nat} (h : solvable (red p D fs n 0 m [] 1).1 (red p D fs n 0 m [] 1).2.1.length n = true) :
    (red p D fs (n + 1) 0 m [] 1).1 = (red p D fs n 0 m [] 1).1 ∧ (red p D fs (n + 1) 0 m [] 1).2.1 = (red p D fs n 0 m [] 1).2.1 := by
  rw [red_split n 1, Nat.zero_add, red_last]
  split
  · exact ⟨rfl, rfl⟩
  · unfold solvable at h
    cases hz : fnz (red p D fs n 0 m [] 1).1 (red p D fs n 0 m [] 1).2.1.length n with
    | none => exact ⟨rfl, rfl⟩
    | some i => rw [hz] at h; cases h
theorem slv_no {p : Int} {D : Nat} {fs : List Int} {m : List (List Int)} {n : Nat} (hl : (red p D fs n 0 m [] 1).2.1.length ≤ (red p D fs n 0 m [] 1).1.length) (h : solvable (red p D fs n 0 m [] 1).1 (red p D fs n 0 m [] 1).2.1.length n = false) :
    (red p D fs (n + 1) 0 m [] 1).2.1 = (red p D fs n 0 m [] 1).2.1 ++ [(n : Int)] := by
  rw [red_split n 1, Nat.zero_add, red_last]
  unfold solvable at h
  cases hz : fnz (red p D fs n 0 m [] 1).1 (red p D fs n 0 m [] 1).2.1.length n with
  | none => rw [hz] at h; cases h
  | some i =>
    have := (fnz_some hz).2.1
    have := (fnz_some hz).1
    rw [if_neg (by omega)]
/- SOLVE -/
theorem rowsI_set2 {us : List Value} {R : List (List Int)} (hl : us.length = R.length) {j : Nat} (hj : j < R.length) (u : Value) (r : List Int) : (rowsI us R).set j (row 2 u (iv r)) = rowsI (us.set j u) (R.set j r) := by
  have hl' : (us.set j u).length = (R.set j r).length := by simpa using hl
  apply List.ext_getElem?
  intro k
  rw [List.getElem?_set]
  by_cases hk : k < R.length
  · rw [rowsI_get hl' (by simpa using hk), vat_set (by omega), show xat (R.set j r) k = if j = k then r else xat R k from ra_set hj]
    by_cases e : j = k
    · subst e; rw [if_pos rfl, if_pos rfl, if_pos rfl, if_pos (by rw [rowsI_len hl]; exact hj)]
    · rw [if_neg e, if_neg e, if_neg e, rowsI_get hl hk]
  · rw [rowsI_no hl' (by simp; omega), if_neg (by omega), rowsI_no hl (by omega)]

end Go.Proofs.Ytcenabaklokhhaa
