/-
  No cell of these rows narrows 'for every input' (looked for: loops, veiled, ifaces, maps, wideKeys, modest, calm, conditions, laid).
  DERIVED. THE GIVEN ROWS OF THIS SEAT. 3 by the template 'for every input the law returns true; each argument reads behind the call as it read before'; 0 by the template 'total and deterministic' (their statements: YtgflhgkcmfjkgaaTotals.lean).
  GIVEN WITH THE SEED: the statements are not yours to turn. If you find one false, say at which input.
  Laid BY PROGRAM, IN A SANDBOX (cutbox-rows.mjs): the forced cells as the released guide's own fill.sh prints them over the translation 76f747c31b6ab97b… (all of the seat's roots in one cut). By AI agents, Wed Nov 11 2026. No macro, syntax, notation, axiom, sorry.
-/
import Derived.Test.YtgflhgkcmfjkgaaChecked
import GoSem.Claim
import GoSem.ClaimJoined
import GoSem.ClaimMapViews
import Derived.JoinedTies
import Derived.KernelRfl
namespace Go.Proofs.Ytgflhgkcmfjkgaa
/- THE CELL 'sum', in the pinned program and in every row, IS THE sha256 OF THE DUMP (.gsa) THAT YtgflhgkcmfjkgaaProg.lean LOADS. Nothing in Lean hashes anything: it is a label: what it is worth is what the hold of that sum in a sandbox is worth. -/
noncomputable def Try.pinned : Pinned := { name := "ytgflhgkcmfjkgaa", sum := "76f747c31b6ab97b43eff5a921f771e00c168a4543a8cbbbe2c11bcd03b77ea8", checked := Try.checked }
namespace Rows
def none {H : Type} : Left H := { results := [], args := [] }

/-- 'laws.FnRoundRobin': WHATEVER THE INPUT: true; the input reads as it did. -/
def fnRoundRobinSpec : ChangeSpec := { name := "fnRoundRobin", fn := fun _ => fun
  | [d1, d2] => { results := [.lit (.bool true)], args := [d1, d2] }
  | _ => none }
def fnRoundRobinRow : OpenClaim := { program := "ytgflhgkcmfjkgaa", sum := "76f747c31b6ab97b43eff5a921f771e00c168a4543a8cbbbe2c11bcd03b77ea8", func := "loop.example/g00920/laws.FnRoundRobin", spec := "fnRoundRobin", unfollowed := true, recurses := true, apart := false }
def FnRoundRobinSaid : Prop := fnRoundRobinRow.holds Try.pinned (OpenSpec.ofChange fnRoundRobinSpec)

/-- ITS FALSE NEIGHBOUR: 'it returns false'. Refute it at one input. -/
def fnRoundRobinWrong : ChangeSpec := { name := "fnRoundRobin", fn := fun _ => fun
  | [d1, d2] => { results := [.lit (.bool false)], args := [d1, d2] }
  | _ => none }
def FnRoundRobinWrongFalsely : Prop := fnRoundRobinRow.holds Try.pinned (OpenSpec.ofChange fnRoundRobinWrong)

/-- 'laws.FnBreaks': WHATEVER THE INPUT: true; the input reads as it did. -/
def fnBreaksSpec : ChangeSpec := { name := "fnBreaks", fn := fun _ => fun
  | [d] => { results := [.lit (.bool true)], args := [d] }
  | _ => none }
def fnBreaksRow : OpenClaim := { program := "ytgflhgkcmfjkgaa", sum := "76f747c31b6ab97b43eff5a921f771e00c168a4543a8cbbbe2c11bcd03b77ea8", func := "loop.example/g00920/laws.FnBreaks", spec := "fnBreaks", unfollowed := true, recurses := true, apart := false }
def FnBreaksSaid : Prop := fnBreaksRow.holds Try.pinned (OpenSpec.ofChange fnBreaksSpec)

/-- ITS FALSE NEIGHBOUR: 'it returns false'. Refute it at one input. -/
def fnBreaksWrong : ChangeSpec := { name := "fnBreaks", fn := fun _ => fun
  | [d] => { results := [.lit (.bool false)], args := [d] }
  | _ => none }
def FnBreaksWrongFalsely : Prop := fnBreaksRow.holds Try.pinned (OpenSpec.ofChange fnBreaksWrong)

/-- 'laws.FnDifferences': WHATEVER THE INPUT: true; the input reads as it did. -/
def fnDifferencesSpec : ChangeSpec := { name := "fnDifferences", fn := fun _ => fun
  | [d1, d2] => { results := [.lit (.bool true)], args := [d1, d2] }
  | _ => none }
def fnDifferencesRow : OpenClaim := { program := "ytgflhgkcmfjkgaa", sum := "76f747c31b6ab97b43eff5a921f771e00c168a4543a8cbbbe2c11bcd03b77ea8", func := "loop.example/g00920/laws.FnDifferences", spec := "fnDifferences", unfollowed := true, recurses := true, apart := false }
def FnDifferencesSaid : Prop := fnDifferencesRow.holds Try.pinned (OpenSpec.ofChange fnDifferencesSpec)

/-- ITS FALSE NEIGHBOUR: 'it returns false'. Refute it at one input. -/
def fnDifferencesWrong : ChangeSpec := { name := "fnDifferences", fn := fun _ => fun
  | [d1, d2] => { results := [.lit (.bool false)], args := [d1, d2] }
  | _ => none }
def FnDifferencesWrongFalsely : Prop := fnDifferencesRow.holds Try.pinned (OpenSpec.ofChange fnDifferencesWrong)

/- THE SECOND FORM. 'bulk': how many values and letters a reading holds, each counted each time it is reached (what is shared counts as often as it is met; a slice's spare places count too). A statement '..UptoSaid' is the law's where the arguments, and the package variables that the reading takes, are together of bulk at most 1048576: NARROWER than '..Said'. Prove '..Said' where nothing that the law and all that it calls make is longer than what came in: it says more and counts as full. Else prove '..UptoSaid'. A law counts once. -/
mutual
def uptoBulk {H : Type} : DataW H → Nat
  | .lit (.string bytes) => bytes.length + 1
  | .lit _ => 1
  | .nil => 1
  | .ptr d => uptoBulk d + 1
  | .slice elems spare => uptoBulkAll elems + uptoBulkAll spare + 1
  | .agg parts => uptoBulkAll parts + 1
  | .iface _ d => uptoBulk d + 1
  | .map entries => uptoBulkEntries entries + 1
  | .held _ => 1
def uptoBulkAll {H : Type} : List (DataW H) → Nat
  | [] => 0
  | d :: r => uptoBulk d + uptoBulkAll r
def uptoBulkEntries {H : Type} : List (Lit × DataW H) → Nat
  | [] => 0
  | x :: r => uptoBulkEntry x + uptoBulkEntries r
def uptoBulkEntry {H : Type} : Lit × DataW H → Nat
  | (.string bytes, d) => bytes.length + uptoBulk d + 1
  | (_, d) => uptoBulk d + 1
 end
def uptoSmall : (H : Type) → List (DataW H) → Bool := fun _ ds => decide (uptoBulkAll ds ≤ 1048576)
def OpenSpec.upto (s : _root_.Go.ChangeSpec) : _root_.Go.OpenSpec := { _root_.Go.OpenSpec.ofChange s with cond := some uptoSmall }

/-- 'laws.FnRoundRobin', WHERE WHAT IT READS IS OF BULK AT MOST 1048576: true; the input reads as it did. -/
def fnRoundRobinUptoRow : OpenClaim := { program := "ytgflhgkcmfjkgaa", sum := "76f747c31b6ab97b43eff5a921f771e00c168a4543a8cbbbe2c11bcd03b77ea8", func := "loop.example/g00920/laws.FnRoundRobin", spec := "fnRoundRobin", unfollowed := true, recurses := true, apart := false, narrowed := true }
def FnRoundRobinUptoSaid : Prop := fnRoundRobinUptoRow.holds Try.pinned (OpenSpec.upto fnRoundRobinSpec)

/-- 'laws.FnBreaks', WHERE WHAT IT READS IS OF BULK AT MOST 1048576: true; the input reads as it did. -/
def fnBreaksUptoRow : OpenClaim := { program := "ytgflhgkcmfjkgaa", sum := "76f747c31b6ab97b43eff5a921f771e00c168a4543a8cbbbe2c11bcd03b77ea8", func := "loop.example/g00920/laws.FnBreaks", spec := "fnBreaks", unfollowed := true, recurses := true, apart := false, narrowed := true }
def FnBreaksUptoSaid : Prop := fnBreaksUptoRow.holds Try.pinned (OpenSpec.upto fnBreaksSpec)

/-- 'laws.FnDifferences', WHERE WHAT IT READS IS OF BULK AT MOST 1048576: true; the input reads as it did. -/
def fnDifferencesUptoRow : OpenClaim := { program := "ytgflhgkcmfjkgaa", sum := "76f747c31b6ab97b43eff5a921f771e00c168a4543a8cbbbe2c11bcd03b77ea8", func := "loop.example/g00920/laws.FnDifferences", spec := "fnDifferences", unfollowed := true, recurses := true, apart := false, narrowed := true }
def FnDifferencesUptoSaid : Prop := fnDifferencesUptoRow.holds Try.pinned (OpenSpec.upto fnDifferencesSpec)

end Rows
end Go.Proofs.Ytgflhgkcmfjkgaa
