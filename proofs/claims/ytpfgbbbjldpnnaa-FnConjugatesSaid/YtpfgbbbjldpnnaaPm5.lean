/- Walks: SignOf; the law FnPermutations. -/
import Derived.Test.YtpfgbbbjldpnnaaPm4
import Derived.Test.YtpfgbbbjldpnnaaSet
namespace Go.Proofs.Ytpfgbbbjldpnnaa
set_option linter.unusedSimpArgs false
set_option linter.unusedVariables false
open Go.RowKit
attribute [local go_sem ↓] Go.wp_at_zero Go.wp_at_succ

theorem cyM_cyc (xs : List Int) (m : Nat) : (cyM xs m).length = cyc m (pf xs) := by unfold cyM; rw [List.length_map, cycs_len]
theorem sgL_eq (xs : List Int) : sgL xs = if (xs.length - (cyM xs xs.length).length) % 2 = 0 then 1 else -1 := by unfold sgL sgn; rw [cyM_cyc]

theorem sgL_pm (xs : List Int) : sgL xs = 1 ∨ sgL xs = -1 := sgn_pm _ _
end Go.Proofs.Ytpfgbbbjldpnnaa
