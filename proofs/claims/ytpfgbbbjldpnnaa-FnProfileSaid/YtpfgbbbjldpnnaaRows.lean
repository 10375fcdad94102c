/-
  No cell of these rows narrows 'for every input' (looked for: loops, veiled, ifaces, maps, wideKeys, modest, calm, conditions, laid).
  DERIVED. THE GIVEN ROWS OF THIS SEAT. 6 by the template 'for every input the law returns true; each argument reads behind the call as it read before'; 0 by the template 'total and deterministic' (their statements: YtpfgbbbjldpnnaaTotals.lean).
  GIVEN WITH THE SEED: the statements are not yours to turn. If you find one false, say at which input.
  Laid BY PROGRAM, IN A SANDBOX (cutbox-rows.mjs): the forced cells as the released guide's own fill.sh prints them over the translation ef4555022a9e3196… (all of the seat's roots in one cut). By AI agents, Wed Nov 11 2026. No macro, syntax, notation, axiom, sorry.
-/
import Derived.Test.YtpfgbbbjldpnnaaChecked
import GoSem.Claim
import GoSem.ClaimJoined
import GoSem.ClaimMapViews
import Derived.JoinedTies
import Derived.KernelRfl
namespace Go.Proofs.Ytpfgbbbjldpnnaa
/- THE CELL 'sum', in the pinned program and in every row, IS THE sha256 OF THE DUMP (.gsa) THAT YtpfgbbbjldpnnaaProg.lean LOADS. Nothing in Lean hashes anything: it is a label: what it is worth is what the hold of that sum in a sandbox is worth. -/
noncomputable def Try.pinned : Pinned := { name := "ytpfgbbbjldpnnaa", sum := "ef4555022a9e31967a736bdf7f84d20ab5899a366b60e0d5b3c781b2d7647ae6", checked := Try.checked }
namespace Rows
def none {H : Type} : Left H := { results := [], args := [] }

/-- 'laws.FnImages': WHATEVER THE INPUT: true; the input reads as it did. -/
def fnImagesSpec : ChangeSpec := { name := "fnImages", fn := fun _ => fun
  | [d1, d2] => { results := [.lit (.bool true)], args := [d1, d2] }
  | _ => none }
def fnImagesRow : OpenClaim := { program := "ytpfgbbbjldpnnaa", sum := "ef4555022a9e31967a736bdf7f84d20ab5899a366b60e0d5b3c781b2d7647ae6", func := "loop.example/g00920/laws.FnImages", spec := "fnImages", recurses := true, apart := false }
def FnImagesSaid : Prop := fnImagesRow.holds Try.pinned (OpenSpec.ofChange fnImagesSpec)

/-- ITS FALSE NEIGHBOUR: 'it returns false'. Refute it at one input. -/
def fnImagesWrong : ChangeSpec := { name := "fnImages", fn := fun _ => fun
  | [d1, d2] => { results := [.lit (.bool false)], args := [d1, d2] }
  | _ => none }
def FnImagesWrongFalsely : Prop := fnImagesRow.holds Try.pinned (OpenSpec.ofChange fnImagesWrong)

/-- 'laws.FnIsotopes': WHATEVER THE INPUT: true; the input reads as it did. -/
def fnIsotopesSpec : ChangeSpec := { name := "fnIsotopes", fn := fun _ => fun
  | [d1, d2] => { results := [.lit (.bool true)], args := [d1, d2] }
  | _ => none }
def fnIsotopesRow : OpenClaim := { program := "ytpfgbbbjldpnnaa", sum := "ef4555022a9e31967a736bdf7f84d20ab5899a366b60e0d5b3c781b2d7647ae6", func := "loop.example/g00920/laws.FnIsotopes", spec := "fnIsotopes", unfollowed := true, recurses := true, apart := false }
def FnIsotopesSaid : Prop := fnIsotopesRow.holds Try.pinned (OpenSpec.ofChange fnIsotopesSpec)

/-- ITS FALSE NEIGHBOUR: 'it returns false'. Refute it at one input. -/
def fnIsotopesWrong : ChangeSpec := { name := "fnIsotopes", fn := fun _ => fun
  | [d1, d2] => { results := [.lit (.bool false)], args := [d1, d2] }
  | _ => none }
def FnIsotopesWrongFalsely : Prop := fnIsotopesRow.holds Try.pinned (OpenSpec.ofChange fnIsotopesWrong)

/-- 'laws.FnConjugates': WHATEVER THE INPUT: true; the input reads as it did. -/
def fnConjugatesSpec : ChangeSpec := { name := "fnConjugates", fn := fun _ => fun
  | [d1, d2] => { results := [.lit (.bool true)], args := [d1, d2] }
  | _ => none }
def fnConjugatesRow : OpenClaim := { program := "ytpfgbbbjldpnnaa", sum := "ef4555022a9e31967a736bdf7f84d20ab5899a366b60e0d5b3c781b2d7647ae6", func := "loop.example/g00920/laws.FnConjugates", spec := "fnConjugates", unfollowed := true, recurses := true, apart := false }
def FnConjugatesSaid : Prop := fnConjugatesRow.holds Try.pinned (OpenSpec.ofChange fnConjugatesSpec)

/-- ITS FALSE NEIGHBOUR: 'it returns false'. Refute it at one input. -/
def fnConjugatesWrong : ChangeSpec := { name := "fnConjugates", fn := fun _ => fun
  | [d1, d2] => { results := [.lit (.bool false)], args := [d1, d2] }
  | _ => none }
def FnConjugatesWrongFalsely : Prop := fnConjugatesRow.holds Try.pinned (OpenSpec.ofChange fnConjugatesWrong)

/-- 'laws.FnMols': WHATEVER THE INPUT: true; the input reads as it did. -/
def fnMolsSpec : ChangeSpec := { name := "fnMols", fn := fun _ => fun
  | [d1, d2] => { results := [.lit (.bool true)], args := [d1, d2] }
  | _ => none }
def fnMolsRow : OpenClaim := { program := "ytpfgbbbjldpnnaa", sum := "ef4555022a9e31967a736bdf7f84d20ab5899a366b60e0d5b3c781b2d7647ae6", func := "loop.example/g00920/laws.FnMols", spec := "fnMols", unfollowed := true, recurses := true, apart := false }
def FnMolsSaid : Prop := fnMolsRow.holds Try.pinned (OpenSpec.ofChange fnMolsSpec)

/-- ITS FALSE NEIGHBOUR: 'it returns false'. Refute it at one input. -/
def fnMolsWrong : ChangeSpec := { name := "fnMols", fn := fun _ => fun
  | [d1, d2] => { results := [.lit (.bool false)], args := [d1, d2] }
  | _ => none }
def FnMolsWrongFalsely : Prop := fnMolsRow.holds Try.pinned (OpenSpec.ofChange fnMolsWrong)

/-- 'laws.FnExactArrayOfMols': WHATEVER THE INPUT: true; the input reads as it did. -/
def fnExactArrayOfMolsSpec : ChangeSpec := { name := "fnExactArrayOfMols", fn := fun _ => fun
  | [d] => { results := [.lit (.bool true)], args := [d] }
  | _ => none }
def fnExactArrayOfMolsRow : OpenClaim := { program := "ytpfgbbbjldpnnaa", sum := "ef4555022a9e31967a736bdf7f84d20ab5899a366b60e0d5b3c781b2d7647ae6", func := "loop.example/g00920/laws.FnExactArrayOfMols", spec := "fnExactArrayOfMols", unfollowed := true, recurses := true, apart := false }
def FnExactArrayOfMolsSaid : Prop := fnExactArrayOfMolsRow.holds Try.pinned (OpenSpec.ofChange fnExactArrayOfMolsSpec)

/-- ITS FALSE NEIGHBOUR: 'it returns false'. Refute it at one input. -/
def fnExactArrayOfMolsWrong : ChangeSpec := { name := "fnExactArrayOfMols", fn := fun _ => fun
  | [d] => { results := [.lit (.bool false)], args := [d] }
  | _ => none }
def FnExactArrayOfMolsWrongFalsely : Prop := fnExactArrayOfMolsRow.holds Try.pinned (OpenSpec.ofChange fnExactArrayOfMolsWrong)

/-- 'laws.FnProfile': WHATEVER THE INPUT: true; the input reads as it did. -/
def fnProfileSpec : ChangeSpec := { name := "fnProfile", fn := fun _ => fun
  | [d1, d2] => { results := [.lit (.bool true)], args := [d1, d2] }
  | _ => none }
def fnProfileRow : OpenClaim := { program := "ytpfgbbbjldpnnaa", sum := "ef4555022a9e31967a736bdf7f84d20ab5899a366b60e0d5b3c781b2d7647ae6", func := "loop.example/g00920/laws.FnProfile", spec := "fnProfile", unfollowed := true, recurses := true, apart := false }
def FnProfileSaid : Prop := fnProfileRow.holds Try.pinned (OpenSpec.ofChange fnProfileSpec)

/-- ITS FALSE NEIGHBOUR: 'it returns false'. Refute it at one input. -/
def fnProfileWrong : ChangeSpec := { name := "fnProfile", fn := fun _ => fun
  | [d1, d2] => { results := [.lit (.bool false)], args := [d1, d2] }
  | _ => none }
def FnProfileWrongFalsely : Prop := fnProfileRow.holds Try.pinned (OpenSpec.ofChange fnProfileWrong)

/- THE SECOND FORM. 'bulk': how many values and letters a reading holds, each counted each time it is reached (what is shared counts as often as it is met; a slice's spare places count too). A statement '..UptoSaid' is the law's where the arguments, and the package variables that the reading takes, are together of bulk at most 1048576: NARROWER than '..Said'. Prove '..Said' where nothing that the law and all that it calls make is longer than what came in: it says more and counts as full. Else prove '..UptoSaid'. A law counts once. -/
mutual
def uptoBulk {H : Type} : DataW H → Nat
  | .lit (.string bytes) => bytes.length + 1
  | .lit _ => 1
  | .nil => 1
  | .ptr d => uptoBulk d + 1
  | .slice elems spare => uptoBulkAll elems + uptoBulkAll spare + 1
  | .agg parts => uptoBulkAll parts + 1
  | .iface _ d => uptoBulk d + 1
  | .map entries => uptoBulkEntries entries + 1
  | .held _ => 1
def uptoBulkAll {H : Type} : List (DataW H) → Nat
  | [] => 0
  | d :: r => uptoBulk d + uptoBulkAll r
def uptoBulkEntries {H : Type} : List (Lit × DataW H) → Nat
  | [] => 0
  | x :: r => uptoBulkEntry x + uptoBulkEntries r
def uptoBulkEntry {H : Type} : Lit × DataW H → Nat
  | (.string bytes, d) => bytes.length + uptoBulk d + 1
  | (_, d) => uptoBulk d + 1
 end
def uptoSmall : (H : Type) → List (DataW H) → Bool := fun _ ds => decide (uptoBulkAll ds ≤ 1048576)
def OpenSpec.upto (s : _root_.Go.ChangeSpec) : _root_.Go.OpenSpec := { _root_.Go.OpenSpec.ofChange s with cond := some uptoSmall }

/-- 'laws.FnImages', WHERE WHAT IT READS IS OF BULK AT MOST 1048576: true; the input reads as it did. -/
def fnImagesUptoRow : OpenClaim := { program := "ytpfgbbbjldpnnaa", sum := "ef4555022a9e31967a736bdf7f84d20ab5899a366b60e0d5b3c781b2d7647ae6", func := "loop.example/g00920/laws.FnImages", spec := "fnImages", recurses := true, apart := false, narrowed := true }
def FnImagesUptoSaid : Prop := fnImagesUptoRow.holds Try.pinned (OpenSpec.upto fnImagesSpec)

/-- 'laws.FnIsotopes', WHERE WHAT IT READS IS OF BULK AT MOST 1048576: true; the input reads as it did. -/
def fnIsotopesUptoRow : OpenClaim := { program := "ytpfgbbbjldpnnaa", sum := "ef4555022a9e31967a736bdf7f84d20ab5899a366b60e0d5b3c781b2d7647ae6", func := "loop.example/g00920/laws.FnIsotopes", spec := "fnIsotopes", unfollowed := true, recurses := true, apart := false, narrowed := true }
def FnIsotopesUptoSaid : Prop := fnIsotopesUptoRow.holds Try.pinned (OpenSpec.upto fnIsotopesSpec)

/-- 'laws.FnConjugates', WHERE WHAT IT READS IS OF BULK AT MOST 1048576: true; the input reads as it did. -/
def fnConjugatesUptoRow : OpenClaim := { program := "ytpfgbbbjldpnnaa", sum := "ef4555022a9e31967a736bdf7f84d20ab5899a366b60e0d5b3c781b2d7647ae6", func := "loop.example/g00920/laws.FnConjugates", spec := "fnConjugates", unfollowed := true, recurses := true, apart := false, narrowed := true }
def FnConjugatesUptoSaid : Prop := fnConjugatesUptoRow.holds Try.pinned (OpenSpec.upto fnConjugatesSpec)

/-- 'laws.FnMols', WHERE WHAT IT READS IS OF BULK AT MOST 1048576: true; the input reads as it did. -/
def fnMolsUptoRow : OpenClaim := { program := "ytpfgbbbjldpnnaa", sum := "ef4555022a9e31967a736bdf7f84d20ab5899a366b60e0d5b3c781b2d7647ae6", func := "loop.example/g00920/laws.FnMols", spec := "fnMols", unfollowed := true, recurses := true, apart := false, narrowed := true }
def FnMolsUptoSaid : Prop := fnMolsUptoRow.holds Try.pinned (OpenSpec.upto fnMolsSpec)

/-- 'laws.FnExactArrayOfMols', WHERE WHAT IT READS IS OF BULK AT MOST 1048576: true; the input reads as it did. -/
def fnExactArrayOfMolsUptoRow : OpenClaim := { program := "ytpfgbbbjldpnnaa", sum := "ef4555022a9e31967a736bdf7f84d20ab5899a366b60e0d5b3c781b2d7647ae6", func := "loop.example/g00920/laws.FnExactArrayOfMols", spec := "fnExactArrayOfMols", unfollowed := true, recurses := true, apart := false, narrowed := true }
def FnExactArrayOfMolsUptoSaid : Prop := fnExactArrayOfMolsUptoRow.holds Try.pinned (OpenSpec.upto fnExactArrayOfMolsSpec)

/-- 'laws.FnProfile', WHERE WHAT IT READS IS OF BULK AT MOST 1048576: true; the input reads as it did. -/
def fnProfileUptoRow : OpenClaim := { program := "ytpfgbbbjldpnnaa", sum := "ef4555022a9e31967a736bdf7f84d20ab5899a366b60e0d5b3c781b2d7647ae6", func := "loop.example/g00920/laws.FnProfile", spec := "fnProfile", unfollowed := true, recurses := true, apart := false, narrowed := true }
def FnProfileUptoSaid : Prop := fnProfileUptoRow.holds Try.pinned (OpenSpec.upto fnProfileSpec)

end Rows
end Go.Proofs.Ytpfgbbbjldpnnaa
