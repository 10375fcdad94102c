/- The number of elements of a field, and inverses by trial. -/
import Derived.Test.YtmkfafhgcnbcaaaPFld
namespace Go.Proofs.Ytmkfafhgcnbcaaa
set_option linter.unusedSimpArgs false
set_option linter.unusedVariables false
/-- the number of elements -/
def qn (p : Int) (D : Nat) : Nat := (p ^ D).toNat
/-- the last factor below k that leads to 1, or 0 -/
def invN (p : Int) (D : Nat) (fs : List Int) (a : Nat) : Nat → Int
  | 0 => 0
  | k + 1 => if fmul p D fs a k = 1 then k else invN p D fs a k
end Go.Proofs.Ytmkfafhgcnbcaaa
