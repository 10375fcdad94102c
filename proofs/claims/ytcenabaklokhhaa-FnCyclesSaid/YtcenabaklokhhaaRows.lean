/-
  No cell of these rows narrows 'for every input' (looked for: loops, veiled, ifaces, maps, wideKeys, modest, calm, conditions, laid).
  DERIVED. THE GIVEN ROWS OF THIS SEAT. 12 by the template 'for every input the law returns true; each argument reads behind the call as it read before'; 0 by the template 'total and deterministic' (their statements: YtcenabaklokhhaaTotals.lean).
  GIVEN WITH THE SEED: the statements are not yours to turn. If you find one false, say at which input.
  Laid BY PROGRAM, IN A SANDBOX (cutbox-rows.mjs): the forced cells as the released guide's own fill.sh prints them over the translation 6927aec29b22bd96… (all of the seat's roots in one cut). By AI agents, Wed Nov 11 2026. No macro, syntax, notation, axiom, sorry.
-/
import Derived.Test.YtcenabaklokhhaaChecked
import GoSem.Claim
import GoSem.ClaimJoined
import GoSem.ClaimMapViews
import Derived.JoinedTies
import Derived.KernelRfl
namespace Go.Proofs.Ytcenabaklokhhaa
/- THE CELL 'sum', in the pinned program and in every row, IS THE sha256 OF THE DUMP (.gsa) THAT YtcenabaklokhhaaProg.lean LOADS. Nothing in Lean hashes anything: it is a label: what it is worth is what the hold of that sum in a sandbox is worth. -/
noncomputable def Try.pinned : Pinned := { name := "ytcenabaklokhhaa", sum := "6927aec29b22bd9614d4d9bd4f0694d4e6e1ffe71807f52fd750b54eece04813", checked := Try.checked }
namespace Rows
def none {H : Type} : Left H := { results := [], args := [] }

/-- 'laws.FnDeterminants': WHATEVER THE INPUT: true; the input reads as it did. -/
def fnDeterminantsSpec : ChangeSpec := { name := "fnDeterminants", fn := fun _ => fun
  | [d] => { results := [.lit (.bool true)], args := [d] }
  | _ => none }
def fnDeterminantsRow : OpenClaim := { program := "ytcenabaklokhhaa", sum := "6927aec29b22bd9614d4d9bd4f0694d4e6e1ffe71807f52fd750b54eece04813", func := "loop.example/g00920/laws.FnDeterminants", spec := "fnDeterminants", unfollowed := true, recurses := true, apart := false }
def FnDeterminantsSaid : Prop := fnDeterminantsRow.holds Try.pinned (OpenSpec.ofChange fnDeterminantsSpec)

/-- ITS FALSE NEIGHBOUR: 'it returns false'. Refute it at one input. -/
def fnDeterminantsWrong : ChangeSpec := { name := "fnDeterminants", fn := fun _ => fun
  | [d] => { results := [.lit (.bool false)], args := [d] }
  | _ => none }
def FnDeterminantsWrongFalsely : Prop := fnDeterminantsRow.holds Try.pinned (OpenSpec.ofChange fnDeterminantsWrong)

/-- 'laws.FnFields': WHATEVER THE INPUT: true; the input reads as it did. -/
def fnFieldsSpec : ChangeSpec := { name := "fnFields", fn := fun _ => fun
  | [d] => { results := [.lit (.bool true)], args := [d] }
  | _ => none }
def fnFieldsRow : OpenClaim := { program := "ytcenabaklokhhaa", sum := "6927aec29b22bd9614d4d9bd4f0694d4e6e1ffe71807f52fd750b54eece04813", func := "loop.example/g00920/laws.FnFields", spec := "fnFields", unfollowed := true, recurses := true, apart := false }
def FnFieldsSaid : Prop := fnFieldsRow.holds Try.pinned (OpenSpec.ofChange fnFieldsSpec)

/-- ITS FALSE NEIGHBOUR: 'it returns false'. Refute it at one input. -/
def fnFieldsWrong : ChangeSpec := { name := "fnFields", fn := fun _ => fun
  | [d] => { results := [.lit (.bool false)], args := [d] }
  | _ => none }
def FnFieldsWrongFalsely : Prop := fnFieldsRow.holds Try.pinned (OpenSpec.ofChange fnFieldsWrong)

/-- 'laws.FnExactArrayOfMols': WHATEVER THE INPUT: true; the input reads as it did. -/
def fnExactArrayOfMolsSpec : ChangeSpec := { name := "fnExactArrayOfMols", fn := fun _ => fun
  | [d] => { results := [.lit (.bool true)], args := [d] }
  | _ => none }
def fnExactArrayOfMolsRow : OpenClaim := { program := "ytcenabaklokhhaa", sum := "6927aec29b22bd9614d4d9bd4f0694d4e6e1ffe71807f52fd750b54eece04813", func := "loop.example/g00920/laws.FnExactArrayOfMols", spec := "fnExactArrayOfMols", unfollowed := true, recurses := true, apart := false }
def FnExactArrayOfMolsSaid : Prop := fnExactArrayOfMolsRow.holds Try.pinned (OpenSpec.ofChange fnExactArrayOfMolsSpec)

/-- ITS FALSE NEIGHBOUR: 'it returns false'. Refute it at one input. -/
def fnExactArrayOfMolsWrong : ChangeSpec := { name := "fnExactArrayOfMols", fn := fun _ => fun
  | [d] => { results := [.lit (.bool false)], args := [d] }
  | _ => none }
def FnExactArrayOfMolsWrongFalsely : Prop := fnExactArrayOfMolsRow.holds Try.pinned (OpenSpec.ofChange fnExactArrayOfMolsWrong)

/-- 'laws.FnPolynomials': WHATEVER THE INPUT: true; the input reads as it did. -/
def fnPolynomialsSpec : ChangeSpec := { name := "fnPolynomials", fn := fun _ => fun
  | [d1, d2] => { results := [.lit (.bool true)], args := [d1, d2] }
  | _ => none }
def fnPolynomialsRow : OpenClaim := { program := "ytcenabaklokhhaa", sum := "6927aec29b22bd9614d4d9bd4f0694d4e6e1ffe71807f52fd750b54eece04813", func := "loop.example/g00920/laws.FnPolynomials", spec := "fnPolynomials", unfollowed := true, recurses := true, apart := false }
def FnPolynomialsSaid : Prop := fnPolynomialsRow.holds Try.pinned (OpenSpec.ofChange fnPolynomialsSpec)

/-- ITS FALSE NEIGHBOUR: 'it returns false'. Refute it at one input. -/
def fnPolynomialsWrong : ChangeSpec := { name := "fnPolynomials", fn := fun _ => fun
  | [d1, d2] => { results := [.lit (.bool false)], args := [d1, d2] }
  | _ => none }
def FnPolynomialsWrongFalsely : Prop := fnPolynomialsRow.holds Try.pinned (OpenSpec.ofChange fnPolynomialsWrong)

/-- 'laws.FnMols': WHATEVER THE INPUT: true; the input reads as it did. -/
def fnMolsSpec : ChangeSpec := { name := "fnMols", fn := fun _ => fun
  | [d1, d2] => { results := [.lit (.bool true)], args := [d1, d2] }
  | _ => none }
def fnMolsRow : OpenClaim := { program := "ytcenabaklokhhaa", sum := "6927aec29b22bd9614d4d9bd4f0694d4e6e1ffe71807f52fd750b54eece04813", func := "loop.example/g00920/laws.FnMols", spec := "fnMols", unfollowed := true, recurses := true, apart := false }
def FnMolsSaid : Prop := fnMolsRow.holds Try.pinned (OpenSpec.ofChange fnMolsSpec)

/-- ITS FALSE NEIGHBOUR: 'it returns false'. Refute it at one input. -/
def fnMolsWrong : ChangeSpec := { name := "fnMols", fn := fun _ => fun
  | [d1, d2] => { results := [.lit (.bool false)], args := [d1, d2] }
  | _ => none }
def FnMolsWrongFalsely : Prop := fnMolsRow.holds Try.pinned (OpenSpec.ofChange fnMolsWrong)

/-- 'laws.FnLogs': WHATEVER THE INPUT: true; the input reads as it did. -/
def fnLogsSpec : ChangeSpec := { name := "fnLogs", fn := fun _ => fun
  | [d] => { results := [.lit (.bool true)], args := [d] }
  | _ => none }
def fnLogsRow : OpenClaim := { program := "ytcenabaklokhhaa", sum := "6927aec29b22bd9614d4d9bd4f0694d4e6e1ffe71807f52fd750b54eece04813", func := "loop.example/g00920/laws.FnLogs", spec := "fnLogs", unfollowed := true, recurses := true, apart := false }
def FnLogsSaid : Prop := fnLogsRow.holds Try.pinned (OpenSpec.ofChange fnLogsSpec)

/-- ITS FALSE NEIGHBOUR: 'it returns false'. Refute it at one input. -/
def fnLogsWrong : ChangeSpec := { name := "fnLogs", fn := fun _ => fun
  | [d] => { results := [.lit (.bool false)], args := [d] }
  | _ => none }
def FnLogsWrongFalsely : Prop := fnLogsRow.holds Try.pinned (OpenSpec.ofChange fnLogsWrong)

/-- 'laws.FnPermutations': WHATEVER THE INPUT: true; the input reads as it did. -/
def fnPermutationsSpec : ChangeSpec := { name := "fnPermutations", fn := fun _ => fun
  | [d1, d2] => { results := [.lit (.bool true)], args := [d1, d2] }
  | _ => none }
def fnPermutationsRow : OpenClaim := { program := "ytcenabaklokhhaa", sum := "6927aec29b22bd9614d4d9bd4f0694d4e6e1ffe71807f52fd750b54eece04813", func := "loop.example/g00920/laws.FnPermutations", spec := "fnPermutations", recurses := true, apart := false }
def FnPermutationsSaid : Prop := fnPermutationsRow.holds Try.pinned (OpenSpec.ofChange fnPermutationsSpec)

/-- ITS FALSE NEIGHBOUR: 'it returns false'. Refute it at one input. -/
def fnPermutationsWrong : ChangeSpec := { name := "fnPermutations", fn := fun _ => fun
  | [d1, d2] => { results := [.lit (.bool false)], args := [d1, d2] }
  | _ => none }
def FnPermutationsWrongFalsely : Prop := fnPermutationsRow.holds Try.pinned (OpenSpec.ofChange fnPermutationsWrong)

/-- 'laws.FnImages': WHATEVER THE INPUT: true; the input reads as it did. -/
def fnImagesSpec : ChangeSpec := { name := "fnImages", fn := fun _ => fun
  | [d1, d2] => { results := [.lit (.bool true)], args := [d1, d2] }
  | _ => none }
def fnImagesRow : OpenClaim := { program := "ytcenabaklokhhaa", sum := "6927aec29b22bd9614d4d9bd4f0694d4e6e1ffe71807f52fd750b54eece04813", func := "loop.example/g00920/laws.FnImages", spec := "fnImages", recurses := true, apart := false }
def FnImagesSaid : Prop := fnImagesRow.holds Try.pinned (OpenSpec.ofChange fnImagesSpec)

/-- ITS FALSE NEIGHBOUR: 'it returns false'. Refute it at one input. -/
def fnImagesWrong : ChangeSpec := { name := "fnImages", fn := fun _ => fun
  | [d1, d2] => { results := [.lit (.bool false)], args := [d1, d2] }
  | _ => none }
def FnImagesWrongFalsely : Prop := fnImagesRow.holds Try.pinned (OpenSpec.ofChange fnImagesWrong)

/-- 'laws.FnIsotopes': WHATEVER THE INPUT: true; the input reads as it did. -/
def fnIsotopesSpec : ChangeSpec := { name := "fnIsotopes", fn := fun _ => fun
  | [d1, d2] => { results := [.lit (.bool true)], args := [d1, d2] }
  | _ => none }
def fnIsotopesRow : OpenClaim := { program := "ytcenabaklokhhaa", sum := "6927aec29b22bd9614d4d9bd4f0694d4e6e1ffe71807f52fd750b54eece04813", func := "loop.example/g00920/laws.FnIsotopes", spec := "fnIsotopes", unfollowed := true, recurses := true, apart := false }
def FnIsotopesSaid : Prop := fnIsotopesRow.holds Try.pinned (OpenSpec.ofChange fnIsotopesSpec)

/-- ITS FALSE NEIGHBOUR: 'it returns false'. Refute it at one input. -/
def fnIsotopesWrong : ChangeSpec := { name := "fnIsotopes", fn := fun _ => fun
  | [d1, d2] => { results := [.lit (.bool false)], args := [d1, d2] }
  | _ => none }
def FnIsotopesWrongFalsely : Prop := fnIsotopesRow.holds Try.pinned (OpenSpec.ofChange fnIsotopesWrong)

/-- 'laws.FnConjugates': WHATEVER THE INPUT: true; the input reads as it did. -/
def fnConjugatesSpec : ChangeSpec := { name := "fnConjugates", fn := fun _ => fun
  | [d1, d2] => { results := [.lit (.bool true)], args := [d1, d2] }
  | _ => none }
def fnConjugatesRow : OpenClaim := { program := "ytcenabaklokhhaa", sum := "6927aec29b22bd9614d4d9bd4f0694d4e6e1ffe71807f52fd750b54eece04813", func := "loop.example/g00920/laws.FnConjugates", spec := "fnConjugates", unfollowed := true, recurses := true, apart := false }
def FnConjugatesSaid : Prop := fnConjugatesRow.holds Try.pinned (OpenSpec.ofChange fnConjugatesSpec)

/-- ITS FALSE NEIGHBOUR: 'it returns false'. Refute it at one input. -/
def fnConjugatesWrong : ChangeSpec := { name := "fnConjugates", fn := fun _ => fun
  | [d1, d2] => { results := [.lit (.bool false)], args := [d1, d2] }
  | _ => none }
def FnConjugatesWrongFalsely : Prop := fnConjugatesRow.holds Try.pinned (OpenSpec.ofChange fnConjugatesWrong)

/-- 'laws.FnCycles': WHATEVER THE INPUT: true; the input reads as it did. -/
def fnCyclesSpec : ChangeSpec := { name := "fnCycles", fn := fun _ => fun
  | [d1, d2] => { results := [.lit (.bool true)], args := [d1, d2] }
  | _ => none }
def fnCyclesRow : OpenClaim := { program := "ytcenabaklokhhaa", sum := "6927aec29b22bd9614d4d9bd4f0694d4e6e1ffe71807f52fd750b54eece04813", func := "loop.example/g00920/laws.FnCycles", spec := "fnCycles", unfollowed := true, recurses := true, apart := false }
def FnCyclesSaid : Prop := fnCyclesRow.holds Try.pinned (OpenSpec.ofChange fnCyclesSpec)

/-- ITS FALSE NEIGHBOUR: 'it returns false'. Refute it at one input. -/
def fnCyclesWrong : ChangeSpec := { name := "fnCycles", fn := fun _ => fun
  | [d1, d2] => { results := [.lit (.bool false)], args := [d1, d2] }
  | _ => none }
def FnCyclesWrongFalsely : Prop := fnCyclesRow.holds Try.pinned (OpenSpec.ofChange fnCyclesWrong)

/-- 'laws.FnProfile': WHATEVER THE INPUT: true; the input reads as it did. -/
def fnProfileSpec : ChangeSpec := { name := "fnProfile", fn := fun _ => fun
  | [d1, d2] => { results := [.lit (.bool true)], args := [d1, d2] }
  | _ => none }
def fnProfileRow : OpenClaim := { program := "ytcenabaklokhhaa", sum := "6927aec29b22bd9614d4d9bd4f0694d4e6e1ffe71807f52fd750b54eece04813", func := "loop.example/g00920/laws.FnProfile", spec := "fnProfile", unfollowed := true, recurses := true, apart := false }
def FnProfileSaid : Prop := fnProfileRow.holds Try.pinned (OpenSpec.ofChange fnProfileSpec)

/-- ITS FALSE NEIGHBOUR: 'it returns false'. Refute it at one input. -/
def fnProfileWrong : ChangeSpec := { name := "fnProfile", fn := fun _ => fun
  | [d1, d2] => { results := [.lit (.bool false)], args := [d1, d2] }
  | _ => none }
def FnProfileWrongFalsely : Prop := fnProfileRow.holds Try.pinned (OpenSpec.ofChange fnProfileWrong)

/- THE SECOND FORM. 'bulk': how many values and letters a reading holds, each counted each time it is reached (what is shared counts as often as it is met; a slice's spare places count too). A statement '..UptoSaid' is the law's where the arguments, and the package variables that the reading takes, are together of bulk at most 1048576: NARROWER than '..Said'. Prove '..Said' where nothing that the law and all that it calls make is longer than what came in: it says more and counts as full. Else prove '..UptoSaid'. A law counts once. -/
mutual
def uptoBulk {H : Type} : DataW H → Nat
  | .lit (.string bytes) => bytes.length + 1
  | .lit _ => 1
  | .nil => 1
  | .ptr d => uptoBulk d + 1
  | .slice elems spare => uptoBulkAll elems + uptoBulkAll spare + 1
  | .agg parts => uptoBulkAll parts + 1
  | .iface _ d => uptoBulk d + 1
  | .map entries => uptoBulkEntries entries + 1
  | .held _ => 1
def uptoBulkAll {H : Type} : List (DataW H) → Nat
  | [] => 0
  | d :: r => uptoBulk d + uptoBulkAll r
def uptoBulkEntries {H : Type} : List (Lit × DataW H) → Nat
  | [] => 0
  | x :: r => uptoBulkEntry x + uptoBulkEntries r
def uptoBulkEntry {H : Type} : Lit × DataW H → Nat
  | (.string bytes, d) => bytes.length + uptoBulk d + 1
  | (_, d) => uptoBulk d + 1
 end
def uptoSmall : (H : Type) → List (DataW H) → Bool := fun _ ds => decide (uptoBulkAll ds ≤ 1048576)
def OpenSpec.upto (s : _root_.Go.ChangeSpec) : _root_.Go.OpenSpec := { _root_.Go.OpenSpec.ofChange s with cond := some uptoSmall }

/-- 'laws.FnDeterminants', WHERE WHAT IT READS IS OF BULK AT MOST 1048576: true; the input reads as it did. -/
def fnDeterminantsUptoRow : OpenClaim := { program := "ytcenabaklokhhaa", sum := "6927aec29b22bd9614d4d9bd4f0694d4e6e1ffe71807f52fd750b54eece04813", func := "loop.example/g00920/laws.FnDeterminants", spec := "fnDeterminants", unfollowed := true, recurses := true, apart := false, narrowed := true }
def FnDeterminantsUptoSaid : Prop := fnDeterminantsUptoRow.holds Try.pinned (OpenSpec.upto fnDeterminantsSpec)

/-- 'laws.FnFields', WHERE WHAT IT READS IS OF BULK AT MOST 1048576: true; the input reads as it did. -/
def fnFieldsUptoRow : OpenClaim := { program := "ytcenabaklokhhaa", sum := "6927aec29b22bd9614d4d9bd4f0694d4e6e1ffe71807f52fd750b54eece04813", func := "loop.example/g00920/laws.FnFields", spec := "fnFields", unfollowed := true, recurses := true, apart := false, narrowed := true }
def FnFieldsUptoSaid : Prop := fnFieldsUptoRow.holds Try.pinned (OpenSpec.upto fnFieldsSpec)

/-- 'laws.FnExactArrayOfMols', WHERE WHAT IT READS IS OF BULK AT MOST 1048576: true; the input reads as it did. -/
def fnExactArrayOfMolsUptoRow : OpenClaim := { program := "ytcenabaklokhhaa", sum := "6927aec29b22bd9614d4d9bd4f0694d4e6e1ffe71807f52fd750b54eece04813", func := "loop.example/g00920/laws.FnExactArrayOfMols", spec := "fnExactArrayOfMols", unfollowed := true, recurses := true, apart := false, narrowed := true }
def FnExactArrayOfMolsUptoSaid : Prop := fnExactArrayOfMolsUptoRow.holds Try.pinned (OpenSpec.upto fnExactArrayOfMolsSpec)

/-- 'laws.FnPolynomials', WHERE WHAT IT READS IS OF BULK AT MOST 1048576: true; the input reads as it did. -/
def fnPolynomialsUptoRow : OpenClaim := { program := "ytcenabaklokhhaa", sum := "6927aec29b22bd9614d4d9bd4f0694d4e6e1ffe71807f52fd750b54eece04813", func := "loop.example/g00920/laws.FnPolynomials", spec := "fnPolynomials", unfollowed := true, recurses := true, apart := false, narrowed := true }
def FnPolynomialsUptoSaid : Prop := fnPolynomialsUptoRow.holds Try.pinned (OpenSpec.upto fnPolynomialsSpec)

/-- 'laws.FnMols', WHERE WHAT IT READS IS OF BULK AT MOST 1048576: true; the input reads as it did. -/
def fnMolsUptoRow : OpenClaim := { program := "ytcenabaklokhhaa", sum := "6927aec29b22bd9614d4d9bd4f0694d4e6e1ffe71807f52fd750b54eece04813", func := "loop.example/g00920/laws.FnMols", spec := "fnMols", unfollowed := true, recurses := true, apart := false, narrowed := true }
def FnMolsUptoSaid : Prop := fnMolsUptoRow.holds Try.pinned (OpenSpec.upto fnMolsSpec)

/-- 'laws.FnLogs', WHERE WHAT IT READS IS OF BULK AT MOST 1048576: true; the input reads as it did. -/
def fnLogsUptoRow : OpenClaim := { program := "ytcenabaklokhhaa", sum := "6927aec29b22bd9614d4d9bd4f0694d4e6e1ffe71807f52fd750b54eece04813", func := "loop.example/g00920/laws.FnLogs", spec := "fnLogs", unfollowed := true, recurses := true, apart := false, narrowed := true }
def FnLogsUptoSaid : Prop := fnLogsUptoRow.holds Try.pinned (OpenSpec.upto fnLogsSpec)

/-- 'laws.FnPermutations', WHERE WHAT IT READS IS OF BULK AT MOST 1048576: true; the input reads as it did. -/
def fnPermutationsUptoRow : OpenClaim := { program := "ytcenabaklokhhaa", sum := "6927aec29b22bd9614d4d9bd4f0694d4e6e1ffe71807f52fd750b54eece04813", func := "loop.example/g00920/laws.FnPermutations", spec := "fnPermutations", recurses := true, apart := false, narrowed := true }
def FnPermutationsUptoSaid : Prop := fnPermutationsUptoRow.holds Try.pinned (OpenSpec.upto fnPermutationsSpec)

/-- 'laws.FnImages', WHERE WHAT IT READS IS OF BULK AT MOST 1048576: true; the input reads as it did. -/
def fnImagesUptoRow : OpenClaim := { program := "ytcenabaklokhhaa", sum := "6927aec29b22bd9614d4d9bd4f0694d4e6e1ffe71807f52fd750b54eece04813", func := "loop.example/g00920/laws.FnImages", spec := "fnImages", recurses := true, apart := false, narrowed := true }
def FnImagesUptoSaid : Prop := fnImagesUptoRow.holds Try.pinned (OpenSpec.upto fnImagesSpec)

/-- 'laws.FnIsotopes', WHERE WHAT IT READS IS OF BULK AT MOST 1048576: true; the input reads as it did. -/
def fnIsotopesUptoRow : OpenClaim := { program := "ytcenabaklokhhaa", sum := "6927aec29b22bd9614d4d9bd4f0694d4e6e1ffe71807f52fd750b54eece04813", func := "loop.example/g00920/laws.FnIsotopes", spec := "fnIsotopes", unfollowed := true, recurses := true, apart := false, narrowed := true }
def FnIsotopesUptoSaid : Prop := fnIsotopesUptoRow.holds Try.pinned (OpenSpec.upto fnIsotopesSpec)

/-- 'laws.FnConjugates', WHERE WHAT IT READS IS OF BULK AT MOST 1048576: true; the input reads as it did. -/
def fnConjugatesUptoRow : OpenClaim := { program := "ytcenabaklokhhaa", sum := "6927aec29b22bd9614d4d9bd4f0694d4e6e1ffe71807f52fd750b54eece04813", func := "loop.example/g00920/laws.FnConjugates", spec := "fnConjugates", unfollowed := true, recurses := true, apart := false, narrowed := true }
def FnConjugatesUptoSaid : Prop := fnConjugatesUptoRow.holds Try.pinned (OpenSpec.upto fnConjugatesSpec)

/-- 'laws.FnCycles', WHERE WHAT IT READS IS OF BULK AT MOST 1048576: true; the input reads as it did. -/
def fnCyclesUptoRow : OpenClaim := { program := "ytcenabaklokhhaa", sum := "6927aec29b22bd9614d4d9bd4f0694d4e6e1ffe71807f52fd750b54eece04813", func := "loop.example/g00920/laws.FnCycles", spec := "fnCycles", unfollowed := true, recurses := true, apart := false, narrowed := true }
def FnCyclesUptoSaid : Prop := fnCyclesUptoRow.holds Try.pinned (OpenSpec.upto fnCyclesSpec)

/-- 'laws.FnProfile', WHERE WHAT IT READS IS OF BULK AT MOST 1048576: true; the input reads as it did. -/
def fnProfileUptoRow : OpenClaim := { program := "ytcenabaklokhhaa", sum := "6927aec29b22bd9614d4d9bd4f0694d4e6e1ffe71807f52fd750b54eece04813", func := "loop.example/g00920/laws.FnProfile", spec := "fnProfile", unfollowed := true, recurses := true, apart := false, narrowed := true }
def FnProfileUptoSaid : Prop := fnProfileUptoRow.holds Try.pinned (OpenSpec.upto fnProfileSpec)

end Rows
end Go.Proofs.Ytcenabaklokhhaa
