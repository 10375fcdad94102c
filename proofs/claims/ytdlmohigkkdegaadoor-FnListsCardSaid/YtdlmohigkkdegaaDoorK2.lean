/- The texts of this claim, run 2: PSet. -/

section
/- Sets of small numbers as rising lists, in plain terms. -/
namespace Go.Proofs.YtdlmohigkkdegaaDoor
set_option linter.unusedSimpArgs false
set_option linter.unusedVariables false

/-- increasing numbers from last on, below n -/
def incB (last n : Int) : List Int → Bool
  | [] => true
  | x :: xs => if x ≤ last ∨ n ≤ x then false else incB x n xs

/-- a set of numbers below 32 -/
def IsSet (a : List Int) : Prop := incB (-1) 32 a = true
instance (a : List Int) : Decidable (IsSet a) := inferInstanceAs (Decidable (incB (-1) 32 a = true))
end Go.Proofs.YtdlmohigkkdegaaDoor
end
