/-
  No cell of these rows narrows 'for every input' (looked for: loops, veiled, ifaces, maps, wideKeys, modest, calm, conditions, laid).
  DERIVED. THE GIVEN ROWS OF THIS SEAT. 13 by the template 'for every input the law returns true; each argument reads behind the call as it read before'; 0 by the template 'total and deterministic' (their statements: YtmkfafhgcnbcaaaTotals.lean).
  GIVEN WITH THE SEED: the statements are not yours to turn. If you find one false, say at which input.
  Laid BY PROGRAM, IN A SANDBOX (cutbox-rows.mjs): the forced cells as the released guide's own fill.sh prints them over the translation 26af224be0f3af82… (all of the seat's roots in one cut). By AI agents, Wed Nov 11 2026. No macro, syntax, notation, axiom, sorry.
-/
import Derived.Test.YtmkfafhgcnbcaaaChecked
import GoSem.Claim
import GoSem.ClaimJoined
import GoSem.ClaimMapViews
import Derived.JoinedTies
import Derived.KernelRfl
namespace Go.Proofs.Ytmkfafhgcnbcaaa
/- THE CELL 'sum', in the pinned program and in every row, IS THE sha256 OF THE DUMP (.gsa) THAT YtmkfafhgcnbcaaaProg.lean LOADS. Nothing in Lean hashes anything: it is a label: what it is worth is what the hold of that sum in a sandbox is worth. -/
noncomputable def Try.pinned : Pinned := { name := "ytmkfafhgcnbcaaa", sum := "26af224be0f3af822c0fd69d464501aa7cc15fd047788f6bbb464fca71a7d74a", checked := Try.checked }
namespace Rows
def none {H : Type} : Left H := { results := [], args := [] }

/-- 'laws.FnExactValidMatrix': WHATEVER THE INPUT: true; the input reads as it did. -/
def fnExactValidMatrixSpec : ChangeSpec := { name := "fnExactValidMatrix", fn := fun _ => fun
  | [d1, d2] => { results := [.lit (.bool true)], args := [d1, d2] }
  | _ => none }
def fnExactValidMatrixRow : OpenClaim := { program := "ytmkfafhgcnbcaaa", sum := "26af224be0f3af822c0fd69d464501aa7cc15fd047788f6bbb464fca71a7d74a", func := "loop.example/g00920/laws.FnExactValidMatrix", spec := "fnExactValidMatrix", unfollowed := true, recurses := true, apart := false }
def FnExactValidMatrixSaid : Prop := fnExactValidMatrixRow.holds Try.pinned (OpenSpec.ofChange fnExactValidMatrixSpec)

/-- ITS FALSE NEIGHBOUR: 'it returns false'. Refute it at one input. -/
def fnExactValidMatrixWrong : ChangeSpec := { name := "fnExactValidMatrix", fn := fun _ => fun
  | [d1, d2] => { results := [.lit (.bool false)], args := [d1, d2] }
  | _ => none }
def FnExactValidMatrixWrongFalsely : Prop := fnExactValidMatrixRow.holds Try.pinned (OpenSpec.ofChange fnExactValidMatrixWrong)

/-- 'laws.FnExactTransposeMatrix': WHATEVER THE INPUT: true; the input reads as it did. -/
def fnExactTransposeMatrixSpec : ChangeSpec := { name := "fnExactTransposeMatrix", fn := fun _ => fun
  | [d1, d2] => { results := [.lit (.bool true)], args := [d1, d2] }
  | _ => none }
def fnExactTransposeMatrixRow : OpenClaim := { program := "ytmkfafhgcnbcaaa", sum := "26af224be0f3af822c0fd69d464501aa7cc15fd047788f6bbb464fca71a7d74a", func := "loop.example/g00920/laws.FnExactTransposeMatrix", spec := "fnExactTransposeMatrix", unfollowed := true, recurses := true, apart := false }
def FnExactTransposeMatrixSaid : Prop := fnExactTransposeMatrixRow.holds Try.pinned (OpenSpec.ofChange fnExactTransposeMatrixSpec)

/-- ITS FALSE NEIGHBOUR: 'it returns false'. Refute it at one input. -/
def fnExactTransposeMatrixWrong : ChangeSpec := { name := "fnExactTransposeMatrix", fn := fun _ => fun
  | [d1, d2] => { results := [.lit (.bool false)], args := [d1, d2] }
  | _ => none }
def FnExactTransposeMatrixWrongFalsely : Prop := fnExactTransposeMatrixRow.holds Try.pinned (OpenSpec.ofChange fnExactTransposeMatrixWrong)

/-- 'laws.FnExactMatrixMul': WHATEVER THE INPUT: true; the input reads as it did. -/
def fnExactMatrixMulSpec : ChangeSpec := { name := "fnExactMatrixMul", fn := fun _ => fun
  | [d1, d2, d3] => { results := [.lit (.bool true)], args := [d1, d2, d3] }
  | _ => none }
def fnExactMatrixMulRow : OpenClaim := { program := "ytmkfafhgcnbcaaa", sum := "26af224be0f3af822c0fd69d464501aa7cc15fd047788f6bbb464fca71a7d74a", func := "loop.example/g00920/laws.FnExactMatrixMul", spec := "fnExactMatrixMul", unfollowed := true, recurses := true, apart := false }
def FnExactMatrixMulSaid : Prop := fnExactMatrixMulRow.holds Try.pinned (OpenSpec.ofChange fnExactMatrixMulSpec)

/-- ITS FALSE NEIGHBOUR: 'it returns false'. Refute it at one input. -/
def fnExactMatrixMulWrong : ChangeSpec := { name := "fnExactMatrixMul", fn := fun _ => fun
  | [d1, d2, d3] => { results := [.lit (.bool false)], args := [d1, d2, d3] }
  | _ => none }
def FnExactMatrixMulWrongFalsely : Prop := fnExactMatrixMulRow.holds Try.pinned (OpenSpec.ofChange fnExactMatrixMulWrong)

/-- 'laws.FnExactDeterminantOf': WHATEVER THE INPUT: true; the input reads as it did. -/
def fnExactDeterminantOfSpec : ChangeSpec := { name := "fnExactDeterminantOf", fn := fun _ => fun
  | [d1, d2] => { results := [.lit (.bool true)], args := [d1, d2] }
  | _ => none }
def fnExactDeterminantOfRow : OpenClaim := { program := "ytmkfafhgcnbcaaa", sum := "26af224be0f3af822c0fd69d464501aa7cc15fd047788f6bbb464fca71a7d74a", func := "loop.example/g00920/laws.FnExactDeterminantOf", spec := "fnExactDeterminantOf", unfollowed := true, recurses := true, apart := false }
def FnExactDeterminantOfSaid : Prop := fnExactDeterminantOfRow.holds Try.pinned (OpenSpec.ofChange fnExactDeterminantOfSpec)

/-- ITS FALSE NEIGHBOUR: 'it returns false'. Refute it at one input. -/
def fnExactDeterminantOfWrong : ChangeSpec := { name := "fnExactDeterminantOf", fn := fun _ => fun
  | [d1, d2] => { results := [.lit (.bool false)], args := [d1, d2] }
  | _ => none }
def FnExactDeterminantOfWrongFalsely : Prop := fnExactDeterminantOfRow.holds Try.pinned (OpenSpec.ofChange fnExactDeterminantOfWrong)

/-- 'laws.FnExactRankOf': WHATEVER THE INPUT: true; the input reads as it did. -/
def fnExactRankOfSpec : ChangeSpec := { name := "fnExactRankOf", fn := fun _ => fun
  | [d1, d2] => { results := [.lit (.bool true)], args := [d1, d2] }
  | _ => none }
def fnExactRankOfRow : OpenClaim := { program := "ytmkfafhgcnbcaaa", sum := "26af224be0f3af822c0fd69d464501aa7cc15fd047788f6bbb464fca71a7d74a", func := "loop.example/g00920/laws.FnExactRankOf", spec := "fnExactRankOf", unfollowed := true, recurses := true, apart := false }
def FnExactRankOfSaid : Prop := fnExactRankOfRow.holds Try.pinned (OpenSpec.ofChange fnExactRankOfSpec)

/-- ITS FALSE NEIGHBOUR: 'it returns false'. Refute it at one input. -/
def fnExactRankOfWrong : ChangeSpec := { name := "fnExactRankOf", fn := fun _ => fun
  | [d1, d2] => { results := [.lit (.bool false)], args := [d1, d2] }
  | _ => none }
def FnExactRankOfWrongFalsely : Prop := fnExactRankOfRow.holds Try.pinned (OpenSpec.ofChange fnExactRankOfWrong)

/-- 'laws.FnExactSpanHas': WHATEVER THE INPUT: true; the input reads as it did. -/
def fnExactSpanHasSpec : ChangeSpec := { name := "fnExactSpanHas", fn := fun _ => fun
  | [d1, d2, d3] => { results := [.lit (.bool true)], args := [d1, d2, d3] }
  | _ => none }
def fnExactSpanHasRow : OpenClaim := { program := "ytmkfafhgcnbcaaa", sum := "26af224be0f3af822c0fd69d464501aa7cc15fd047788f6bbb464fca71a7d74a", func := "loop.example/g00920/laws.FnExactSpanHas", spec := "fnExactSpanHas", unfollowed := true, recurses := true, apart := false }
def FnExactSpanHasSaid : Prop := fnExactSpanHasRow.holds Try.pinned (OpenSpec.ofChange fnExactSpanHasSpec)

/-- ITS FALSE NEIGHBOUR: 'it returns false'. Refute it at one input. -/
def fnExactSpanHasWrong : ChangeSpec := { name := "fnExactSpanHas", fn := fun _ => fun
  | [d1, d2, d3] => { results := [.lit (.bool false)], args := [d1, d2, d3] }
  | _ => none }
def FnExactSpanHasWrongFalsely : Prop := fnExactSpanHasRow.holds Try.pinned (OpenSpec.ofChange fnExactSpanHasWrong)

/-- 'laws.FnExactPivotsOf': WHATEVER THE INPUT: true; the input reads as it did. -/
def fnExactPivotsOfSpec : ChangeSpec := { name := "fnExactPivotsOf", fn := fun _ => fun
  | [d1, d2] => { results := [.lit (.bool true)], args := [d1, d2] }
  | _ => none }
def fnExactPivotsOfRow : OpenClaim := { program := "ytmkfafhgcnbcaaa", sum := "26af224be0f3af822c0fd69d464501aa7cc15fd047788f6bbb464fca71a7d74a", func := "loop.example/g00920/laws.FnExactPivotsOf", spec := "fnExactPivotsOf", unfollowed := true, recurses := true, apart := false }
def FnExactPivotsOfSaid : Prop := fnExactPivotsOfRow.holds Try.pinned (OpenSpec.ofChange fnExactPivotsOfSpec)

/-- ITS FALSE NEIGHBOUR: 'it returns false'. Refute it at one input. -/
def fnExactPivotsOfWrong : ChangeSpec := { name := "fnExactPivotsOf", fn := fun _ => fun
  | [d1, d2] => { results := [.lit (.bool false)], args := [d1, d2] }
  | _ => none }
def FnExactPivotsOfWrongFalsely : Prop := fnExactPivotsOfRow.holds Try.pinned (OpenSpec.ofChange fnExactPivotsOfWrong)

/-- 'laws.FnExactRowReduce': WHATEVER THE INPUT: true; the input reads as it did. -/
def fnExactRowReduceSpec : ChangeSpec := { name := "fnExactRowReduce", fn := fun _ => fun
  | [d1, d2] => { results := [.lit (.bool true)], args := [d1, d2] }
  | _ => none }
def fnExactRowReduceRow : OpenClaim := { program := "ytmkfafhgcnbcaaa", sum := "26af224be0f3af822c0fd69d464501aa7cc15fd047788f6bbb464fca71a7d74a", func := "loop.example/g00920/laws.FnExactRowReduce", spec := "fnExactRowReduce", unfollowed := true, recurses := true, apart := false }
def FnExactRowReduceSaid : Prop := fnExactRowReduceRow.holds Try.pinned (OpenSpec.ofChange fnExactRowReduceSpec)

/-- ITS FALSE NEIGHBOUR: 'it returns false'. Refute it at one input. -/
def fnExactRowReduceWrong : ChangeSpec := { name := "fnExactRowReduce", fn := fun _ => fun
  | [d1, d2] => { results := [.lit (.bool false)], args := [d1, d2] }
  | _ => none }
def FnExactRowReduceWrongFalsely : Prop := fnExactRowReduceRow.holds Try.pinned (OpenSpec.ofChange fnExactRowReduceWrong)

/-- 'laws.FnExactSolveRow': WHATEVER THE INPUT: true; the input reads as it did. -/
def fnExactSolveRowSpec : ChangeSpec := { name := "fnExactSolveRow", fn := fun _ => fun
  | [d1, d2, d3] => { results := [.lit (.bool true)], args := [d1, d2, d3] }
  | _ => none }
def fnExactSolveRowRow : OpenClaim := { program := "ytmkfafhgcnbcaaa", sum := "26af224be0f3af822c0fd69d464501aa7cc15fd047788f6bbb464fca71a7d74a", func := "loop.example/g00920/laws.FnExactSolveRow", spec := "fnExactSolveRow", unfollowed := true, recurses := true, apart := false }
def FnExactSolveRowSaid : Prop := fnExactSolveRowRow.holds Try.pinned (OpenSpec.ofChange fnExactSolveRowSpec)

/-- ITS FALSE NEIGHBOUR: 'it returns false'. Refute it at one input. -/
def fnExactSolveRowWrong : ChangeSpec := { name := "fnExactSolveRow", fn := fun _ => fun
  | [d1, d2, d3] => { results := [.lit (.bool false)], args := [d1, d2, d3] }
  | _ => none }
def FnExactSolveRowWrongFalsely : Prop := fnExactSolveRowRow.holds Try.pinned (OpenSpec.ofChange fnExactSolveRowWrong)

/-- 'laws.FnExactInverseMatrix': WHATEVER THE INPUT: true; the input reads as it did. -/
def fnExactInverseMatrixSpec : ChangeSpec := { name := "fnExactInverseMatrix", fn := fun _ => fun
  | [d1, d2] => { results := [.lit (.bool true)], args := [d1, d2] }
  | _ => none }
def fnExactInverseMatrixRow : OpenClaim := { program := "ytmkfafhgcnbcaaa", sum := "26af224be0f3af822c0fd69d464501aa7cc15fd047788f6bbb464fca71a7d74a", func := "loop.example/g00920/laws.FnExactInverseMatrix", spec := "fnExactInverseMatrix", unfollowed := true, recurses := true, apart := false }
def FnExactInverseMatrixSaid : Prop := fnExactInverseMatrixRow.holds Try.pinned (OpenSpec.ofChange fnExactInverseMatrixSpec)

/-- ITS FALSE NEIGHBOUR: 'it returns false'. Refute it at one input. -/
def fnExactInverseMatrixWrong : ChangeSpec := { name := "fnExactInverseMatrix", fn := fun _ => fun
  | [d1, d2] => { results := [.lit (.bool false)], args := [d1, d2] }
  | _ => none }
def FnExactInverseMatrixWrongFalsely : Prop := fnExactInverseMatrixRow.holds Try.pinned (OpenSpec.ofChange fnExactInverseMatrixWrong)

/-- 'laws.FnExactNullSpace': WHATEVER THE INPUT: true; the input reads as it did. -/
def fnExactNullSpaceSpec : ChangeSpec := { name := "fnExactNullSpace", fn := fun _ => fun
  | [d1, d2] => { results := [.lit (.bool true)], args := [d1, d2] }
  | _ => none }
def fnExactNullSpaceRow : OpenClaim := { program := "ytmkfafhgcnbcaaa", sum := "26af224be0f3af822c0fd69d464501aa7cc15fd047788f6bbb464fca71a7d74a", func := "loop.example/g00920/laws.FnExactNullSpace", spec := "fnExactNullSpace", unfollowed := true, recurses := true, apart := false }
def FnExactNullSpaceSaid : Prop := fnExactNullSpaceRow.holds Try.pinned (OpenSpec.ofChange fnExactNullSpaceSpec)

/-- ITS FALSE NEIGHBOUR: 'it returns false'. Refute it at one input. -/
def fnExactNullSpaceWrong : ChangeSpec := { name := "fnExactNullSpace", fn := fun _ => fun
  | [d1, d2] => { results := [.lit (.bool false)], args := [d1, d2] }
  | _ => none }
def FnExactNullSpaceWrongFalsely : Prop := fnExactNullSpaceRow.holds Try.pinned (OpenSpec.ofChange fnExactNullSpaceWrong)

/-- 'laws.FnExactPolynomialArray': WHATEVER THE INPUT: true; the input reads as it did. -/
def fnExactPolynomialArraySpec : ChangeSpec := { name := "fnExactPolynomialArray", fn := fun _ => fun
  | [d1, d2, d3] => { results := [.lit (.bool true)], args := [d1, d2, d3] }
  | _ => none }
def fnExactPolynomialArrayRow : OpenClaim := { program := "ytmkfafhgcnbcaaa", sum := "26af224be0f3af822c0fd69d464501aa7cc15fd047788f6bbb464fca71a7d74a", func := "loop.example/g00920/laws.FnExactPolynomialArray", spec := "fnExactPolynomialArray", unfollowed := true, recurses := true, apart := false }
def FnExactPolynomialArraySaid : Prop := fnExactPolynomialArrayRow.holds Try.pinned (OpenSpec.ofChange fnExactPolynomialArraySpec)

/-- ITS FALSE NEIGHBOUR: 'it returns false'. Refute it at one input. -/
def fnExactPolynomialArrayWrong : ChangeSpec := { name := "fnExactPolynomialArray", fn := fun _ => fun
  | [d1, d2, d3] => { results := [.lit (.bool false)], args := [d1, d2, d3] }
  | _ => none }
def FnExactPolynomialArrayWrongFalsely : Prop := fnExactPolynomialArrayRow.holds Try.pinned (OpenSpec.ofChange fnExactPolynomialArrayWrong)

/-- 'laws.FnExactMolsOfArray': WHATEVER THE INPUT: true; the input reads as it did. -/
def fnExactMolsOfArraySpec : ChangeSpec := { name := "fnExactMolsOfArray", fn := fun _ => fun
  | [d] => { results := [.lit (.bool true)], args := [d] }
  | _ => none }
def fnExactMolsOfArrayRow : OpenClaim := { program := "ytmkfafhgcnbcaaa", sum := "26af224be0f3af822c0fd69d464501aa7cc15fd047788f6bbb464fca71a7d74a", func := "loop.example/g00920/laws.FnExactMolsOfArray", spec := "fnExactMolsOfArray", unfollowed := true, recurses := true, apart := false }
def FnExactMolsOfArraySaid : Prop := fnExactMolsOfArrayRow.holds Try.pinned (OpenSpec.ofChange fnExactMolsOfArraySpec)

/-- ITS FALSE NEIGHBOUR: 'it returns false'. Refute it at one input. -/
def fnExactMolsOfArrayWrong : ChangeSpec := { name := "fnExactMolsOfArray", fn := fun _ => fun
  | [d] => { results := [.lit (.bool false)], args := [d] }
  | _ => none }
def FnExactMolsOfArrayWrongFalsely : Prop := fnExactMolsOfArrayRow.holds Try.pinned (OpenSpec.ofChange fnExactMolsOfArrayWrong)

/- THE SECOND FORM. 'bulk': how many values and letters a reading holds, each counted each time it is reached (what is shared counts as often as it is met; a slice's spare places count too). A statement '..UptoSaid' is the law's where the arguments, and the package variables that the reading takes, are together of bulk at most 1048576: NARROWER than '..Said'. Prove '..Said' where nothing that the law and all that it calls make is longer than what came in: it says more and counts as full. Else prove '..UptoSaid'. A law counts once. -/
mutual
def uptoBulk {H : Type} : DataW H → Nat
  | .lit (.string bytes) => bytes.length + 1
  | .lit _ => 1
  | .nil => 1
  | .ptr d => uptoBulk d + 1
  | .slice elems spare => uptoBulkAll elems + uptoBulkAll spare + 1
  | .agg parts => uptoBulkAll parts + 1
  | .iface _ d => uptoBulk d + 1
  | .map entries => uptoBulkEntries entries + 1
  | .held _ => 1
def uptoBulkAll {H : Type} : List (DataW H) → Nat
  | [] => 0
  | d :: r => uptoBulk d + uptoBulkAll r
def uptoBulkEntries {H : Type} : List (Lit × DataW H) → Nat
  | [] => 0
  | x :: r => uptoBulkEntry x + uptoBulkEntries r
def uptoBulkEntry {H : Type} : Lit × DataW H → Nat
  | (.string bytes, d) => bytes.length + uptoBulk d + 1
  | (_, d) => uptoBulk d + 1
 end
def uptoSmall : (H : Type) → List (DataW H) → Bool := fun _ ds => decide (uptoBulkAll ds ≤ 1048576)
def OpenSpec.upto (s : _root_.Go.ChangeSpec) : _root_.Go.OpenSpec := { _root_.Go.OpenSpec.ofChange s with cond := some uptoSmall }

/-- 'laws.FnExactValidMatrix', WHERE WHAT IT READS IS OF BULK AT MOST 1048576: true; the input reads as it did. -/
def fnExactValidMatrixUptoRow : OpenClaim := { program := "ytmkfafhgcnbcaaa", sum := "26af224be0f3af822c0fd69d464501aa7cc15fd047788f6bbb464fca71a7d74a", func := "loop.example/g00920/laws.FnExactValidMatrix", spec := "fnExactValidMatrix", unfollowed := true, recurses := true, apart := false, narrowed := true }
def FnExactValidMatrixUptoSaid : Prop := fnExactValidMatrixUptoRow.holds Try.pinned (OpenSpec.upto fnExactValidMatrixSpec)

/-- 'laws.FnExactTransposeMatrix', WHERE WHAT IT READS IS OF BULK AT MOST 1048576: true; the input reads as it did. -/
def fnExactTransposeMatrixUptoRow : OpenClaim := { program := "ytmkfafhgcnbcaaa", sum := "26af224be0f3af822c0fd69d464501aa7cc15fd047788f6bbb464fca71a7d74a", func := "loop.example/g00920/laws.FnExactTransposeMatrix", spec := "fnExactTransposeMatrix", unfollowed := true, recurses := true, apart := false, narrowed := true }
def FnExactTransposeMatrixUptoSaid : Prop := fnExactTransposeMatrixUptoRow.holds Try.pinned (OpenSpec.upto fnExactTransposeMatrixSpec)

/-- 'laws.FnExactMatrixMul', WHERE WHAT IT READS IS OF BULK AT MOST 1048576: true; the input reads as it did. -/
def fnExactMatrixMulUptoRow : OpenClaim := { program := "ytmkfafhgcnbcaaa", sum := "26af224be0f3af822c0fd69d464501aa7cc15fd047788f6bbb464fca71a7d74a", func := "loop.example/g00920/laws.FnExactMatrixMul", spec := "fnExactMatrixMul", unfollowed := true, recurses := true, apart := false, narrowed := true }
def FnExactMatrixMulUptoSaid : Prop := fnExactMatrixMulUptoRow.holds Try.pinned (OpenSpec.upto fnExactMatrixMulSpec)

/-- 'laws.FnExactDeterminantOf', WHERE WHAT IT READS IS OF BULK AT MOST 1048576: true; the input reads as it did. -/
def fnExactDeterminantOfUptoRow : OpenClaim := { program := "ytmkfafhgcnbcaaa", sum := "26af224be0f3af822c0fd69d464501aa7cc15fd047788f6bbb464fca71a7d74a", func := "loop.example/g00920/laws.FnExactDeterminantOf", spec := "fnExactDeterminantOf", unfollowed := true, recurses := true, apart := false, narrowed := true }
def FnExactDeterminantOfUptoSaid : Prop := fnExactDeterminantOfUptoRow.holds Try.pinned (OpenSpec.upto fnExactDeterminantOfSpec)

/-- 'laws.FnExactRankOf', WHERE WHAT IT READS IS OF BULK AT MOST 1048576: true; the input reads as it did. -/
def fnExactRankOfUptoRow : OpenClaim := { program := "ytmkfafhgcnbcaaa", sum := "26af224be0f3af822c0fd69d464501aa7cc15fd047788f6bbb464fca71a7d74a", func := "loop.example/g00920/laws.FnExactRankOf", spec := "fnExactRankOf", unfollowed := true, recurses := true, apart := false, narrowed := true }
def FnExactRankOfUptoSaid : Prop := fnExactRankOfUptoRow.holds Try.pinned (OpenSpec.upto fnExactRankOfSpec)

/-- 'laws.FnExactSpanHas', WHERE WHAT IT READS IS OF BULK AT MOST 1048576: true; the input reads as it did. -/
def fnExactSpanHasUptoRow : OpenClaim := { program := "ytmkfafhgcnbcaaa", sum := "26af224be0f3af822c0fd69d464501aa7cc15fd047788f6bbb464fca71a7d74a", func := "loop.example/g00920/laws.FnExactSpanHas", spec := "fnExactSpanHas", unfollowed := true, recurses := true, apart := false, narrowed := true }
def FnExactSpanHasUptoSaid : Prop := fnExactSpanHasUptoRow.holds Try.pinned (OpenSpec.upto fnExactSpanHasSpec)

/-- 'laws.FnExactPivotsOf', WHERE WHAT IT READS IS OF BULK AT MOST 1048576: true; the input reads as it did. -/
def fnExactPivotsOfUptoRow : OpenClaim := { program := "ytmkfafhgcnbcaaa", sum := "26af224be0f3af822c0fd69d464501aa7cc15fd047788f6bbb464fca71a7d74a", func := "loop.example/g00920/laws.FnExactPivotsOf", spec := "fnExactPivotsOf", unfollowed := true, recurses := true, apart := false, narrowed := true }
def FnExactPivotsOfUptoSaid : Prop := fnExactPivotsOfUptoRow.holds Try.pinned (OpenSpec.upto fnExactPivotsOfSpec)

/-- 'laws.FnExactRowReduce', WHERE WHAT IT READS IS OF BULK AT MOST 1048576: true; the input reads as it did. -/
def fnExactRowReduceUptoRow : OpenClaim := { program := "ytmkfafhgcnbcaaa", sum := "26af224be0f3af822c0fd69d464501aa7cc15fd047788f6bbb464fca71a7d74a", func := "loop.example/g00920/laws.FnExactRowReduce", spec := "fnExactRowReduce", unfollowed := true, recurses := true, apart := false, narrowed := true }
def FnExactRowReduceUptoSaid : Prop := fnExactRowReduceUptoRow.holds Try.pinned (OpenSpec.upto fnExactRowReduceSpec)

/-- 'laws.FnExactSolveRow', WHERE WHAT IT READS IS OF BULK AT MOST 1048576: true; the input reads as it did. -/
def fnExactSolveRowUptoRow : OpenClaim := { program := "ytmkfafhgcnbcaaa", sum := "26af224be0f3af822c0fd69d464501aa7cc15fd047788f6bbb464fca71a7d74a", func := "loop.example/g00920/laws.FnExactSolveRow", spec := "fnExactSolveRow", unfollowed := true, recurses := true, apart := false, narrowed := true }
def FnExactSolveRowUptoSaid : Prop := fnExactSolveRowUptoRow.holds Try.pinned (OpenSpec.upto fnExactSolveRowSpec)

/-- 'laws.FnExactInverseMatrix', WHERE WHAT IT READS IS OF BULK AT MOST 1048576: true; the input reads as it did. -/
def fnExactInverseMatrixUptoRow : OpenClaim := { program := "ytmkfafhgcnbcaaa", sum := "26af224be0f3af822c0fd69d464501aa7cc15fd047788f6bbb464fca71a7d74a", func := "loop.example/g00920/laws.FnExactInverseMatrix", spec := "fnExactInverseMatrix", unfollowed := true, recurses := true, apart := false, narrowed := true }
def FnExactInverseMatrixUptoSaid : Prop := fnExactInverseMatrixUptoRow.holds Try.pinned (OpenSpec.upto fnExactInverseMatrixSpec)

/-- 'laws.FnExactNullSpace', WHERE WHAT IT READS IS OF BULK AT MOST 1048576: true; the input reads as it did. -/
def fnExactNullSpaceUptoRow : OpenClaim := { program := "ytmkfafhgcnbcaaa", sum := "26af224be0f3af822c0fd69d464501aa7cc15fd047788f6bbb464fca71a7d74a", func := "loop.example/g00920/laws.FnExactNullSpace", spec := "fnExactNullSpace", unfollowed := true, recurses := true, apart := false, narrowed := true }
def FnExactNullSpaceUptoSaid : Prop := fnExactNullSpaceUptoRow.holds Try.pinned (OpenSpec.upto fnExactNullSpaceSpec)

/-- 'laws.FnExactPolynomialArray', WHERE WHAT IT READS IS OF BULK AT MOST 1048576: true; the input reads as it did. -/
def fnExactPolynomialArrayUptoRow : OpenClaim := { program := "ytmkfafhgcnbcaaa", sum := "26af224be0f3af822c0fd69d464501aa7cc15fd047788f6bbb464fca71a7d74a", func := "loop.example/g00920/laws.FnExactPolynomialArray", spec := "fnExactPolynomialArray", unfollowed := true, recurses := true, apart := false, narrowed := true }
def FnExactPolynomialArrayUptoSaid : Prop := fnExactPolynomialArrayUptoRow.holds Try.pinned (OpenSpec.upto fnExactPolynomialArraySpec)

/-- 'laws.FnExactMolsOfArray', WHERE WHAT IT READS IS OF BULK AT MOST 1048576: true; the input reads as it did. -/
def fnExactMolsOfArrayUptoRow : OpenClaim := { program := "ytmkfafhgcnbcaaa", sum := "26af224be0f3af822c0fd69d464501aa7cc15fd047788f6bbb464fca71a7d74a", func := "loop.example/g00920/laws.FnExactMolsOfArray", spec := "fnExactMolsOfArray", unfollowed := true, recurses := true, apart := false, narrowed := true }
def FnExactMolsOfArrayUptoSaid : Prop := fnExactMolsOfArrayUptoRow.holds Try.pinned (OpenSpec.upto fnExactMolsOfArraySpec)

end Rows
end Go.Proofs.Ytmkfafhgcnbcaaa
