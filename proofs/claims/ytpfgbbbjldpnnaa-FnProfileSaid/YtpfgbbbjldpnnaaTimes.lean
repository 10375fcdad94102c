/- Walks: products of matrices. Walks: MatrixMul of both sides. -/
import Derived.Test.YtpfgbbbjldpnnaaDot
import Derived.Test.YtpfgbbbjldpnnaaTr
namespace Go.Proofs.Ytpfgbbbjldpnnaa
set_option linter.unusedSimpArgs false
set_option linter.unusedVariables false
open Go.RowKit
attribute [local go_sem ↓] Go.wp_at_zero Go.wp_at_succ


def mulR (p : Int) (D : Nat) (fs : List Int) (r : List Int) (cols : List (List Int)) : List Int := cols.map fun c => dotN p D fs r c r.length
def mulL (p : Int) (D : Nat) (fs : List Int) (xss cols : List (List Int)) : List (List Int) := xss.map fun r => mulR p D fs r cols
theorem mulR_len (p : Int) (D : Nat) (fs : List Int) (r : List Int) (cols : List (List Int)) : (mulR p D fs r cols).length = cols.length := by simp [mulR]
theorem mulL_len (p : Int) (D : Nat) (fs : List Int) (xss cols : List (List Int)) : (mulL p D fs xss cols).length = xss.length := by simp [mulL]
theorem mulR_snoc {p : Int} {D : Nat} {fs r : List Int} {cols : List (List Int)} {k : Nat} (h : k < cols.length) : mulR p D fs r (cols.take (k + 1)) = mulR p D fs r (cols.take k) ++ [dotN p D fs r (xat cols k) r.length] := by
  rw [take_xat h]; simp [mulR]
theorem mulL_snoc {p : Int} {D : Nat} {fs : List Int} {xss cols : List (List Int)} {k : Nat} (h : k < xss.length) : mulL p D fs (xss.take (k + 1)) cols = mulL p D fs (xss.take k) cols ++ [mulR p D fs (xat xss k) cols] := by
  rw [take_xat h]; simp [mulL]

theorem St.oldc {w0 w : World} {L : List Ent} {a : Addr} {u : Value} (h : St w0.heap.size w0 w L) (hc : w0.cell? a = some u) : w.cell? a = some u := by
  rw [h.below.cell (World.block_lt_of_cell? _ _ hc)]; exact hc

section
variable {ops : Array Oper} {o : Oper} {a : Act} {K : Act → World → Prop} {Q : Exit → Act → World → Prop} {E : Prop} {B : Nat} {w0 w : World} {L : List Ent}
/-- append of one integer to an owned row of integers, as a step -/
theorem stepI1 (hS : St B w0 w L) (i : Nat) {v : Value} {xs : List Int} (hi : L[i]? = some (row 2 v (iv xs))) (hN : xs.length < 4294967296) (hg : o.guard = none) (s x : Operand)
    (hop : o.op = .call { callee := .builtin .append, args := #[s, x], argTypes := #[24, 24] }) (hs : a.eval s = v) (n : Int) (hx : a.eval x = .slice (some ⟨w.heap.size, 0, none⟩) 1 1)
    (hK : ∀ v' w', St B w0 w' (L.set i (row 2 v' (iv (xs ++ [n])))) → K (a.put o.dst v') w') :
    if Region.wanted o (yielded ops a.tmps) = true then Oper.wp Try.prog o a (w.alloc (.cells #[.int .i64 n] 2)) K Q else E :=
  step_st_app1 hg s x 24 hop 2 (.int .i64 0) 8 Try.und_is Try.info_i rfl hS i hi hs (.int .i64 n) hx rfl (by omega) (by rw [iv_len]; exact hN)
    (fun v' w' h => hK v' w' (by rw [iv_app, iv_one]; exact h))
end

def mulC (p d : Int) (xs : List Int) (xss yss : List (List Int)) : Int := if matOk p d xs xss && matOk p d xs yss then (if (xat xss 0).length = yss.length then 0 else 6) else 1
def mulM (p d : Int) (xs : List Int) (xss yss : List (List Int)) : List (List Int) := if mulC p d xs xss yss = 0 then mulL p d.toNat xs xss (trL yss (xat yss 0).length) else []

end Go.Proofs.Ytpfgbbbjldpnnaa
