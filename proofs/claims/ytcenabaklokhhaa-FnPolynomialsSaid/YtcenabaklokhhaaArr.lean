/- Walks: arrays by value. -/
import Derived.Test.YtcenabaklokhhaaEx
import Derived.Test.YtcenabaklokhhaaIn
namespace Go.Proofs.Ytcenabaklokhhaa
set_option linter.unusedSimpArgs false
set_option linter.unusedVariables false
open Go.RowKit

/-- an array as a value -/
def av (lv co : Int) (v : Value) : Value := .agg #[.int .i64 lv, .int .i64 co, v]

theorem szL_neg : ∀ {left : Int} {xss : List (List Int)}, 0 ≤ left → szL left xss < 0 → szL left xss = -1
  | left, [], h, h' => by simp only [szL] at h'; omega
  | left, x :: r, h, h' => by
    unfold szL at h' ⊢
    split
    · rfl
    · rename_i hn
      rw [if_neg hn] at h'
      exact szL_neg (by omega) h'
theorem szII_neg {left : Int} {xss : List (List Int)} (h : szII left xss < 0) : szII left xss = -1 := by
  unfold szII at h ⊢
  split
  · rfl
  · rename_i hn
    rw [if_neg hn] at h
    exact szL_neg (by omega) h

end Go.Proofs.Ytcenabaklokhhaa
