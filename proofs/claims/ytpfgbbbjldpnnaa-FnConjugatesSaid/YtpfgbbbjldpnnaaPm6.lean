/- Walks: CyclesOf, SignOf and OrderOfPermutation of any list, powers, permutations made of cycles, types. -/
import Derived.Test.YtpfgbbbjldpnnaaPPm2
import Derived.Test.YtpfgbbbjldpnnaaPm5
import Derived.Test.YtpfgbbbjldpnnaaNum2
namespace Go.Proofs.Ytpfgbbbjldpnnaa
set_option linter.unusedSimpArgs false
set_option linter.unusedVariables false
open Go.RowKit
attribute [local go_sem ↓] Go.wp_at_zero Go.wp_at_succ

theorem sz_c (v : Value) (xs : List Int) (w : World) (hv : RdI w v xs) : Calls Try.prog 60 #[v] w fun e w' => e = .returned (.int .i64 xs.length) ∧ w = w' := by
  have hln := hv.len
  go_enter Try.func60, Try.ntmps60
  go_wp2_with fail
  go_ret
  exact ⟨rfl, rfl⟩
/-- the cycles, none of a list that is no permutation -/
noncomputable def cyV (xs : List Int) : List (List Int) := if pvB xs then cyM xs xs.length else []
theorem take_fl {C : List (List Int)} {t : Nat} (ht : t < C.length) : (C.take (t + 1)).flatten = (C.take t).flatten ++ xat C t := by
  rw [take_xat ht, List.flatten_append]; simp
theorem take_fl_le (C : List (List Int)) (t : Nat) : (C.take t).flatten.length ≤ C.flatten.length := by
  conv => rhs; rw [← List.take_append_drop t C, List.flatten_append, List.length_append]
  omega
/-- what an order is -/
def OrdV (w : World) (xs : List Int) (e : Ending) (w' : World) : Prop := ∃ E : Nat, e = .returned (.int .i64 E) ∧ 1 ≤ E ∧ E ≤ 200000 ∧ AllDv (cyM xs xs.length) E ∧ St w.heap.size w w' []
end Go.Proofs.Ytpfgbbbjldpnnaa
