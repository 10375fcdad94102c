/-
  No cell of these rows narrows 'for every input' (looked for: loops, veiled, ifaces, maps, wideKeys, modest, calm, conditions, laid).
  DERIVED. THE GIVEN ROWS OF THIS SEAT. 13 by the template 'for every input the law returns true; each argument reads behind the call as it read before'; 0 by the template 'total and deterministic' (their statements: YtonmggppfopidaaTotals.lean).
  GIVEN WITH THE SEED: the statements are not yours to turn. If you find one false, say at which input.
  Laid BY PROGRAM, IN A SANDBOX (cutbox-rows.mjs): the forced cells as the released guide's own fill.sh prints them over the translation c4f6d0c0e763b6f0… (all of the seat's roots in one cut). By AI agents, Wed Nov 11 2026. No macro, syntax, notation, axiom, sorry.
-/
import Derived.Test.YtonmggppfopidaaChecked
import GoSem.Claim
import GoSem.ClaimJoined
import GoSem.ClaimMapViews
import Derived.JoinedTies
import Derived.KernelRfl
namespace Go.Proofs.Ytonmggppfopidaa
/- THE CELL 'sum', in the pinned program and in every row, IS THE sha256 OF THE DUMP (.gsa) THAT YtonmggppfopidaaProg.lean LOADS. Nothing in Lean hashes anything: it is a label: what it is worth is what the hold of that sum in a sandbox is worth. -/
noncomputable def Try.pinned : Pinned := { name := "ytonmggppfopidaa", sum := "c4f6d0c0e763b6f0fac32d864f47180df7f984b68ac081d3f1855d84cdef5863", checked := Try.checked }
namespace Rows
def none {H : Type} : Left H := { results := [], args := [] }

/-- 'laws.FnFactors': WHATEVER THE INPUT: true; the input reads as it did. -/
def fnFactorsSpec : ChangeSpec := { name := "fnFactors", fn := fun _ => fun
  | [d] => { results := [.lit (.bool true)], args := [d] }
  | _ => none }
def fnFactorsRow : OpenClaim := { program := "ytonmggppfopidaa", sum := "c4f6d0c0e763b6f0fac32d864f47180df7f984b68ac081d3f1855d84cdef5863", func := "loop.example/g00920/laws.FnFactors", spec := "fnFactors", apart := false }
def FnFactorsSaid : Prop := fnFactorsRow.holds Try.pinned (OpenSpec.ofChange fnFactorsSpec)

/-- ITS FALSE NEIGHBOUR: 'it returns false'. Refute it at one input. -/
def fnFactorsWrong : ChangeSpec := { name := "fnFactors", fn := fun _ => fun
  | [d] => { results := [.lit (.bool false)], args := [d] }
  | _ => none }
def FnFactorsWrongFalsely : Prop := fnFactorsRow.holds Try.pinned (OpenSpec.ofChange fnFactorsWrong)

/-- 'laws.FnChinese': WHATEVER THE INPUT: true; the input reads as it did. -/
def fnChineseSpec : ChangeSpec := { name := "fnChinese", fn := fun _ => fun
  | [d] => { results := [.lit (.bool true)], args := [d] }
  | _ => none }
def fnChineseRow : OpenClaim := { program := "ytonmggppfopidaa", sum := "c4f6d0c0e763b6f0fac32d864f47180df7f984b68ac081d3f1855d84cdef5863", func := "loop.example/g00920/laws.FnChinese", spec := "fnChinese", apart := false }
def FnChineseSaid : Prop := fnChineseRow.holds Try.pinned (OpenSpec.ofChange fnChineseSpec)

/-- ITS FALSE NEIGHBOUR: 'it returns false'. Refute it at one input. -/
def fnChineseWrong : ChangeSpec := { name := "fnChinese", fn := fun _ => fun
  | [d] => { results := [.lit (.bool false)], args := [d] }
  | _ => none }
def FnChineseWrongFalsely : Prop := fnChineseRow.holds Try.pinned (OpenSpec.ofChange fnChineseWrong)

/-- 'laws.FnResidues': WHATEVER THE INPUT: true; the input reads as it did. -/
def fnResiduesSpec : ChangeSpec := { name := "fnResidues", fn := fun _ => fun
  | [d1, d2] => { results := [.lit (.bool true)], args := [d1, d2] }
  | _ => none }
def fnResiduesRow : OpenClaim := { program := "ytonmggppfopidaa", sum := "c4f6d0c0e763b6f0fac32d864f47180df7f984b68ac081d3f1855d84cdef5863", func := "loop.example/g00920/laws.FnResidues", spec := "fnResidues", apart := false }
def FnResiduesSaid : Prop := fnResiduesRow.holds Try.pinned (OpenSpec.ofChange fnResiduesSpec)

/-- ITS FALSE NEIGHBOUR: 'it returns false'. Refute it at one input. -/
def fnResiduesWrong : ChangeSpec := { name := "fnResidues", fn := fun _ => fun
  | [d1, d2] => { results := [.lit (.bool false)], args := [d1, d2] }
  | _ => none }
def FnResiduesWrongFalsely : Prop := fnResiduesRow.holds Try.pinned (OpenSpec.ofChange fnResiduesWrong)

/-- 'laws.FnExactValidArray': WHATEVER THE INPUT: true; the input reads as it did. -/
def fnExactValidArraySpec : ChangeSpec := { name := "fnExactValidArray", fn := fun _ => fun
  | [d] => { results := [.lit (.bool true)], args := [d] }
  | _ => none }
def fnExactValidArrayRow : OpenClaim := { program := "ytonmggppfopidaa", sum := "c4f6d0c0e763b6f0fac32d864f47180df7f984b68ac081d3f1855d84cdef5863", func := "loop.example/g00920/laws.FnExactValidArray", spec := "fnExactValidArray", unfollowed := true, recurses := true, apart := false }
def FnExactValidArraySaid : Prop := fnExactValidArrayRow.holds Try.pinned (OpenSpec.ofChange fnExactValidArraySpec)

/-- ITS FALSE NEIGHBOUR: 'it returns false'. Refute it at one input. -/
def fnExactValidArrayWrong : ChangeSpec := { name := "fnExactValidArray", fn := fun _ => fun
  | [d] => { results := [.lit (.bool false)], args := [d] }
  | _ => none }
def FnExactValidArrayWrongFalsely : Prop := fnExactValidArrayRow.holds Try.pinned (OpenSpec.ofChange fnExactValidArrayWrong)

/-- 'laws.FnRoots': WHATEVER THE INPUT: true; the input reads as it did. -/
def fnRootsSpec : ChangeSpec := { name := "fnRoots", fn := fun _ => fun
  | [d1, d2] => { results := [.lit (.bool true)], args := [d1, d2] }
  | _ => none }
def fnRootsRow : OpenClaim := { program := "ytonmggppfopidaa", sum := "c4f6d0c0e763b6f0fac32d864f47180df7f984b68ac081d3f1855d84cdef5863", func := "loop.example/g00920/laws.FnRoots", spec := "fnRoots", apart := false }
def FnRootsSaid : Prop := fnRootsRow.holds Try.pinned (OpenSpec.ofChange fnRootsSpec)

/-- ITS FALSE NEIGHBOUR: 'it returns false'. Refute it at one input. -/
def fnRootsWrong : ChangeSpec := { name := "fnRoots", fn := fun _ => fun
  | [d1, d2] => { results := [.lit (.bool false)], args := [d1, d2] }
  | _ => none }
def FnRootsWrongFalsely : Prop := fnRootsRow.holds Try.pinned (OpenSpec.ofChange fnRootsWrong)

/-- 'laws.FnExactSameArray': WHATEVER THE INPUT: true; the input reads as it did. -/
def fnExactSameArraySpec : ChangeSpec := { name := "fnExactSameArray", fn := fun _ => fun
  | [d1, d2] => { results := [.lit (.bool true)], args := [d1, d2] }
  | _ => none }
def fnExactSameArrayRow : OpenClaim := { program := "ytonmggppfopidaa", sum := "c4f6d0c0e763b6f0fac32d864f47180df7f984b68ac081d3f1855d84cdef5863", func := "loop.example/g00920/laws.FnExactSameArray", spec := "fnExactSameArray", unfollowed := true, recurses := true, apart := false }
def FnExactSameArraySaid : Prop := fnExactSameArrayRow.holds Try.pinned (OpenSpec.ofChange fnExactSameArraySpec)

/-- ITS FALSE NEIGHBOUR: 'it returns false'. Refute it at one input. -/
def fnExactSameArrayWrong : ChangeSpec := { name := "fnExactSameArray", fn := fun _ => fun
  | [d1, d2] => { results := [.lit (.bool false)], args := [d1, d2] }
  | _ => none }
def FnExactSameArrayWrongFalsely : Prop := fnExactSameArrayRow.holds Try.pinned (OpenSpec.ofChange fnExactSameArrayWrong)

/-- 'laws.FnSets': WHATEVER THE INPUT: true; the input reads as it did. -/
def fnSetsSpec : ChangeSpec := { name := "fnSets", fn := fun _ => fun
  | [d] => { results := [.lit (.bool true)], args := [d] }
  | _ => none }
def fnSetsRow : OpenClaim := { program := "ytonmggppfopidaa", sum := "c4f6d0c0e763b6f0fac32d864f47180df7f984b68ac081d3f1855d84cdef5863", func := "loop.example/g00920/laws.FnSets", spec := "fnSets", unfollowed := true, recurses := true, apart := false }
def FnSetsSaid : Prop := fnSetsRow.holds Try.pinned (OpenSpec.ofChange fnSetsSpec)

/-- ITS FALSE NEIGHBOUR: 'it returns false'. Refute it at one input. -/
def fnSetsWrong : ChangeSpec := { name := "fnSets", fn := fun _ => fun
  | [d] => { results := [.lit (.bool false)], args := [d] }
  | _ => none }
def FnSetsWrongFalsely : Prop := fnSetsRow.holds Try.pinned (OpenSpec.ofChange fnSetsWrong)

/-- 'laws.FnExactFullArray': WHATEVER THE INPUT: true; the input reads as it did. -/
def fnExactFullArraySpec : ChangeSpec := { name := "fnExactFullArray", fn := fun _ => fun
  | [d1, d2] => { results := [.lit (.bool true)], args := [d1, d2] }
  | _ => none }
def fnExactFullArrayRow : OpenClaim := { program := "ytonmggppfopidaa", sum := "c4f6d0c0e763b6f0fac32d864f47180df7f984b68ac081d3f1855d84cdef5863", func := "loop.example/g00920/laws.FnExactFullArray", spec := "fnExactFullArray", apart := false }
def FnExactFullArraySaid : Prop := fnExactFullArrayRow.holds Try.pinned (OpenSpec.ofChange fnExactFullArraySpec)

/-- ITS FALSE NEIGHBOUR: 'it returns false'. Refute it at one input. -/
def fnExactFullArrayWrong : ChangeSpec := { name := "fnExactFullArray", fn := fun _ => fun
  | [d1, d2] => { results := [.lit (.bool false)], args := [d1, d2] }
  | _ => none }
def FnExactFullArrayWrongFalsely : Prop := fnExactFullArrayRow.holds Try.pinned (OpenSpec.ofChange fnExactFullArrayWrong)

/-- 'laws.FnRanks': WHATEVER THE INPUT: true; the input reads as it did. -/
def fnRanksSpec : ChangeSpec := { name := "fnRanks", fn := fun _ => fun
  | [d] => { results := [.lit (.bool true)], args := [d] }
  | _ => none }
def fnRanksRow : OpenClaim := { program := "ytonmggppfopidaa", sum := "c4f6d0c0e763b6f0fac32d864f47180df7f984b68ac081d3f1855d84cdef5863", func := "loop.example/g00920/laws.FnRanks", spec := "fnRanks", apart := false }
def FnRanksSaid : Prop := fnRanksRow.holds Try.pinned (OpenSpec.ofChange fnRanksSpec)

/-- ITS FALSE NEIGHBOUR: 'it returns false'. Refute it at one input. -/
def fnRanksWrong : ChangeSpec := { name := "fnRanks", fn := fun _ => fun
  | [d] => { results := [.lit (.bool false)], args := [d] }
  | _ => none }
def FnRanksWrongFalsely : Prop := fnRanksRow.holds Try.pinned (OpenSpec.ofChange fnRanksWrong)

/-- 'laws.FnExactDeriveArray': WHATEVER THE INPUT: true; the input reads as it did. -/
def fnExactDeriveArraySpec : ChangeSpec := { name := "fnExactDeriveArray", fn := fun _ => fun
  | [d1, d2, d3] => { results := [.lit (.bool true)], args := [d1, d2, d3] }
  | _ => none }
def fnExactDeriveArrayRow : OpenClaim := { program := "ytonmggppfopidaa", sum := "c4f6d0c0e763b6f0fac32d864f47180df7f984b68ac081d3f1855d84cdef5863", func := "loop.example/g00920/laws.FnExactDeriveArray", spec := "fnExactDeriveArray", unfollowed := true, recurses := true, apart := false }
def FnExactDeriveArraySaid : Prop := fnExactDeriveArrayRow.holds Try.pinned (OpenSpec.ofChange fnExactDeriveArraySpec)

/-- ITS FALSE NEIGHBOUR: 'it returns false'. Refute it at one input. -/
def fnExactDeriveArrayWrong : ChangeSpec := { name := "fnExactDeriveArray", fn := fun _ => fun
  | [d1, d2, d3] => { results := [.lit (.bool false)], args := [d1, d2, d3] }
  | _ => none }
def FnExactDeriveArrayWrongFalsely : Prop := fnExactDeriveArrayRow.holds Try.pinned (OpenSpec.ofChange fnExactDeriveArrayWrong)

/-- 'laws.FnExactJoinArrays': WHATEVER THE INPUT: true; the input reads as it did. -/
def fnExactJoinArraysSpec : ChangeSpec := { name := "fnExactJoinArrays", fn := fun _ => fun
  | [d1, d2] => { results := [.lit (.bool true)], args := [d1, d2] }
  | _ => none }
def fnExactJoinArraysRow : OpenClaim := { program := "ytonmggppfopidaa", sum := "c4f6d0c0e763b6f0fac32d864f47180df7f984b68ac081d3f1855d84cdef5863", func := "loop.example/g00920/laws.FnExactJoinArrays", spec := "fnExactJoinArrays", unfollowed := true, recurses := true, apart := false }
def FnExactJoinArraysSaid : Prop := fnExactJoinArraysRow.holds Try.pinned (OpenSpec.ofChange fnExactJoinArraysSpec)

/-- ITS FALSE NEIGHBOUR: 'it returns false'. Refute it at one input. -/
def fnExactJoinArraysWrong : ChangeSpec := { name := "fnExactJoinArrays", fn := fun _ => fun
  | [d1, d2] => { results := [.lit (.bool false)], args := [d1, d2] }
  | _ => none }
def FnExactJoinArraysWrongFalsely : Prop := fnExactJoinArraysRow.holds Try.pinned (OpenSpec.ofChange fnExactJoinArraysWrong)

/-- 'laws.FnExactStrengthIndex': WHATEVER THE INPUT: true; the input reads as it did. -/
def fnExactStrengthIndexSpec : ChangeSpec := { name := "fnExactStrengthIndex", fn := fun _ => fun
  | [d1, d2] => { results := [.lit (.bool true)], args := [d1, d2] }
  | _ => none }
def fnExactStrengthIndexRow : OpenClaim := { program := "ytonmggppfopidaa", sum := "c4f6d0c0e763b6f0fac32d864f47180df7f984b68ac081d3f1855d84cdef5863", func := "loop.example/g00920/laws.FnExactStrengthIndex", spec := "fnExactStrengthIndex", unfollowed := true, recurses := true, apart := false }
def FnExactStrengthIndexSaid : Prop := fnExactStrengthIndexRow.holds Try.pinned (OpenSpec.ofChange fnExactStrengthIndexSpec)

/-- ITS FALSE NEIGHBOUR: 'it returns false'. Refute it at one input. -/
def fnExactStrengthIndexWrong : ChangeSpec := { name := "fnExactStrengthIndex", fn := fun _ => fun
  | [d1, d2] => { results := [.lit (.bool false)], args := [d1, d2] }
  | _ => none }
def FnExactStrengthIndexWrongFalsely : Prop := fnExactStrengthIndexRow.holds Try.pinned (OpenSpec.ofChange fnExactStrengthIndexWrong)

/-- 'laws.FnExactStrengthOf': WHATEVER THE INPUT: true; the input reads as it did. -/
def fnExactStrengthOfSpec : ChangeSpec := { name := "fnExactStrengthOf", fn := fun _ => fun
  | [d] => { results := [.lit (.bool true)], args := [d] }
  | _ => none }
def fnExactStrengthOfRow : OpenClaim := { program := "ytonmggppfopidaa", sum := "c4f6d0c0e763b6f0fac32d864f47180df7f984b68ac081d3f1855d84cdef5863", func := "loop.example/g00920/laws.FnExactStrengthOf", spec := "fnExactStrengthOf", unfollowed := true, recurses := true, apart := false }
def FnExactStrengthOfSaid : Prop := fnExactStrengthOfRow.holds Try.pinned (OpenSpec.ofChange fnExactStrengthOfSpec)

/-- ITS FALSE NEIGHBOUR: 'it returns false'. Refute it at one input. -/
def fnExactStrengthOfWrong : ChangeSpec := { name := "fnExactStrengthOf", fn := fun _ => fun
  | [d] => { results := [.lit (.bool false)], args := [d] }
  | _ => none }
def FnExactStrengthOfWrongFalsely : Prop := fnExactStrengthOfRow.holds Try.pinned (OpenSpec.ofChange fnExactStrengthOfWrong)

/- THE SECOND FORM. 'bulk': how many values and letters a reading holds, each counted each time it is reached (what is shared counts as often as it is met; a slice's spare places count too). A statement '..UptoSaid' is the law's where the arguments, and the package variables that the reading takes, are together of bulk at most 1048576: NARROWER than '..Said'. Prove '..Said' where nothing that the law and all that it calls make is longer than what came in: it says more and counts as full. Else prove '..UptoSaid'. A law counts once. -/
mutual
def uptoBulk {H : Type} : DataW H → Nat
  | .lit (.string bytes) => bytes.length + 1
  | .lit _ => 1
  | .nil => 1
  | .ptr d => uptoBulk d + 1
  | .slice elems spare => uptoBulkAll elems + uptoBulkAll spare + 1
  | .agg parts => uptoBulkAll parts + 1
  | .iface _ d => uptoBulk d + 1
  | .map entries => uptoBulkEntries entries + 1
  | .held _ => 1
def uptoBulkAll {H : Type} : List (DataW H) → Nat
  | [] => 0
  | d :: r => uptoBulk d + uptoBulkAll r
def uptoBulkEntries {H : Type} : List (Lit × DataW H) → Nat
  | [] => 0
  | x :: r => uptoBulkEntry x + uptoBulkEntries r
def uptoBulkEntry {H : Type} : Lit × DataW H → Nat
  | (.string bytes, d) => bytes.length + uptoBulk d + 1
  | (_, d) => uptoBulk d + 1
 end
def uptoSmall : (H : Type) → List (DataW H) → Bool := fun _ ds => decide (uptoBulkAll ds ≤ 1048576)
def OpenSpec.upto (s : _root_.Go.ChangeSpec) : _root_.Go.OpenSpec := { _root_.Go.OpenSpec.ofChange s with cond := some uptoSmall }

/-- 'laws.FnFactors', WHERE WHAT IT READS IS OF BULK AT MOST 1048576: true; the input reads as it did. -/
def fnFactorsUptoRow : OpenClaim := { program := "ytonmggppfopidaa", sum := "c4f6d0c0e763b6f0fac32d864f47180df7f984b68ac081d3f1855d84cdef5863", func := "loop.example/g00920/laws.FnFactors", spec := "fnFactors", apart := false, narrowed := true }
def FnFactorsUptoSaid : Prop := fnFactorsUptoRow.holds Try.pinned (OpenSpec.upto fnFactorsSpec)

/-- 'laws.FnChinese', WHERE WHAT IT READS IS OF BULK AT MOST 1048576: true; the input reads as it did. -/
def fnChineseUptoRow : OpenClaim := { program := "ytonmggppfopidaa", sum := "c4f6d0c0e763b6f0fac32d864f47180df7f984b68ac081d3f1855d84cdef5863", func := "loop.example/g00920/laws.FnChinese", spec := "fnChinese", apart := false, narrowed := true }
def FnChineseUptoSaid : Prop := fnChineseUptoRow.holds Try.pinned (OpenSpec.upto fnChineseSpec)

/-- 'laws.FnResidues', WHERE WHAT IT READS IS OF BULK AT MOST 1048576: true; the input reads as it did. -/
def fnResiduesUptoRow : OpenClaim := { program := "ytonmggppfopidaa", sum := "c4f6d0c0e763b6f0fac32d864f47180df7f984b68ac081d3f1855d84cdef5863", func := "loop.example/g00920/laws.FnResidues", spec := "fnResidues", apart := false, narrowed := true }
def FnResiduesUptoSaid : Prop := fnResiduesUptoRow.holds Try.pinned (OpenSpec.upto fnResiduesSpec)

/-- 'laws.FnExactValidArray', WHERE WHAT IT READS IS OF BULK AT MOST 1048576: true; the input reads as it did. -/
def fnExactValidArrayUptoRow : OpenClaim := { program := "ytonmggppfopidaa", sum := "c4f6d0c0e763b6f0fac32d864f47180df7f984b68ac081d3f1855d84cdef5863", func := "loop.example/g00920/laws.FnExactValidArray", spec := "fnExactValidArray", unfollowed := true, recurses := true, apart := false, narrowed := true }
def FnExactValidArrayUptoSaid : Prop := fnExactValidArrayUptoRow.holds Try.pinned (OpenSpec.upto fnExactValidArraySpec)

/-- 'laws.FnRoots', WHERE WHAT IT READS IS OF BULK AT MOST 1048576: true; the input reads as it did. -/
def fnRootsUptoRow : OpenClaim := { program := "ytonmggppfopidaa", sum := "c4f6d0c0e763b6f0fac32d864f47180df7f984b68ac081d3f1855d84cdef5863", func := "loop.example/g00920/laws.FnRoots", spec := "fnRoots", apart := false, narrowed := true }
def FnRootsUptoSaid : Prop := fnRootsUptoRow.holds Try.pinned (OpenSpec.upto fnRootsSpec)

/-- 'laws.FnExactSameArray', WHERE WHAT IT READS IS OF BULK AT MOST 1048576: true; the input reads as it did. -/
def fnExactSameArrayUptoRow : OpenClaim := { program := "ytonmggppfopidaa", sum := "c4f6d0c0e763b6f0fac32d864f47180df7f984b68ac081d3f1855d84cdef5863", func := "loop.example/g00920/laws.FnExactSameArray", spec := "fnExactSameArray", unfollowed := true, recurses := true, apart := false, narrowed := true }
def FnExactSameArrayUptoSaid : Prop := fnExactSameArrayUptoRow.holds Try.pinned (OpenSpec.upto fnExactSameArraySpec)

/-- 'laws.FnSets', WHERE WHAT IT READS IS OF BULK AT MOST 1048576: true; the input reads as it did. -/
def fnSetsUptoRow : OpenClaim := { program := "ytonmggppfopidaa", sum := "c4f6d0c0e763b6f0fac32d864f47180df7f984b68ac081d3f1855d84cdef5863", func := "loop.example/g00920/laws.FnSets", spec := "fnSets", unfollowed := true, recurses := true, apart := false, narrowed := true }
def FnSetsUptoSaid : Prop := fnSetsUptoRow.holds Try.pinned (OpenSpec.upto fnSetsSpec)

/-- 'laws.FnExactFullArray', WHERE WHAT IT READS IS OF BULK AT MOST 1048576: true; the input reads as it did. -/
def fnExactFullArrayUptoRow : OpenClaim := { program := "ytonmggppfopidaa", sum := "c4f6d0c0e763b6f0fac32d864f47180df7f984b68ac081d3f1855d84cdef5863", func := "loop.example/g00920/laws.FnExactFullArray", spec := "fnExactFullArray", apart := false, narrowed := true }
def FnExactFullArrayUptoSaid : Prop := fnExactFullArrayUptoRow.holds Try.pinned (OpenSpec.upto fnExactFullArraySpec)

/-- 'laws.FnRanks', WHERE WHAT IT READS IS OF BULK AT MOST 1048576: true; the input reads as it did. -/
def fnRanksUptoRow : OpenClaim := { program := "ytonmggppfopidaa", sum := "c4f6d0c0e763b6f0fac32d864f47180df7f984b68ac081d3f1855d84cdef5863", func := "loop.example/g00920/laws.FnRanks", spec := "fnRanks", apart := false, narrowed := true }
def FnRanksUptoSaid : Prop := fnRanksUptoRow.holds Try.pinned (OpenSpec.upto fnRanksSpec)

/-- 'laws.FnExactDeriveArray', WHERE WHAT IT READS IS OF BULK AT MOST 1048576: true; the input reads as it did. -/
def fnExactDeriveArrayUptoRow : OpenClaim := { program := "ytonmggppfopidaa", sum := "c4f6d0c0e763b6f0fac32d864f47180df7f984b68ac081d3f1855d84cdef5863", func := "loop.example/g00920/laws.FnExactDeriveArray", spec := "fnExactDeriveArray", unfollowed := true, recurses := true, apart := false, narrowed := true }
def FnExactDeriveArrayUptoSaid : Prop := fnExactDeriveArrayUptoRow.holds Try.pinned (OpenSpec.upto fnExactDeriveArraySpec)

/-- 'laws.FnExactJoinArrays', WHERE WHAT IT READS IS OF BULK AT MOST 1048576: true; the input reads as it did. -/
def fnExactJoinArraysUptoRow : OpenClaim := { program := "ytonmggppfopidaa", sum := "c4f6d0c0e763b6f0fac32d864f47180df7f984b68ac081d3f1855d84cdef5863", func := "loop.example/g00920/laws.FnExactJoinArrays", spec := "fnExactJoinArrays", unfollowed := true, recurses := true, apart := false, narrowed := true }
def FnExactJoinArraysUptoSaid : Prop := fnExactJoinArraysUptoRow.holds Try.pinned (OpenSpec.upto fnExactJoinArraysSpec)

/-- 'laws.FnExactStrengthIndex', WHERE WHAT IT READS IS OF BULK AT MOST 1048576: true; the input reads as it did. -/
def fnExactStrengthIndexUptoRow : OpenClaim := { program := "ytonmggppfopidaa", sum := "c4f6d0c0e763b6f0fac32d864f47180df7f984b68ac081d3f1855d84cdef5863", func := "loop.example/g00920/laws.FnExactStrengthIndex", spec := "fnExactStrengthIndex", unfollowed := true, recurses := true, apart := false, narrowed := true }
def FnExactStrengthIndexUptoSaid : Prop := fnExactStrengthIndexUptoRow.holds Try.pinned (OpenSpec.upto fnExactStrengthIndexSpec)

/-- 'laws.FnExactStrengthOf', WHERE WHAT IT READS IS OF BULK AT MOST 1048576: true; the input reads as it did. -/
def fnExactStrengthOfUptoRow : OpenClaim := { program := "ytonmggppfopidaa", sum := "c4f6d0c0e763b6f0fac32d864f47180df7f984b68ac081d3f1855d84cdef5863", func := "loop.example/g00920/laws.FnExactStrengthOf", spec := "fnExactStrengthOf", unfollowed := true, recurses := true, apart := false, narrowed := true }
def FnExactStrengthOfUptoSaid : Prop := fnExactStrengthOfUptoRow.holds Try.pinned (OpenSpec.upto fnExactStrengthOfSpec)

end Rows
end Go.Proofs.Ytonmggppfopidaa
