/-
  No cell of these rows narrows 'for every input' (looked for: loops, veiled, ifaces, maps, wideKeys, modest, calm, conditions, laid).
  DERIVED. THE GIVEN ROWS OF THIS SEAT. 4 by the template 'for every input the law returns true; each argument reads behind the call as it read before'; 0 by the template 'total and deterministic' (their statements: YtamniobmcdfngaaTotals.lean).
  GIVEN WITH THE SEED: the statements are not yours to turn. If you find one false, say at which input.
  Laid BY PROGRAM, IN A SANDBOX (cutbox-rows.mjs): the forced cells as the released guide's own fill.sh prints them over the translation 1e4c5fbb489cae7c… (all of the seat's roots in one cut). By AI agents, Wed Nov 11 2026. No macro, syntax, notation, axiom, sorry.
-/
import Derived.Test.YtamniobmcdfngaaChecked
import GoSem.Claim
import GoSem.ClaimJoined
import GoSem.ClaimMapViews
import Derived.JoinedTies
import Derived.KernelRfl
namespace Go.Proofs.Ytamniobmcdfngaa
/- THE CELL 'sum', in the pinned program and in every row, IS THE sha256 OF THE DUMP (.gsa) THAT YtamniobmcdfngaaProg.lean LOADS. Nothing in Lean hashes anything: it is a label: what it is worth is what the hold of that sum in a sandbox is worth. -/
noncomputable def Try.pinned : Pinned := { name := "ytamniobmcdfngaa", sum := "1e4c5fbb489cae7cb67353ab66991a6e4cc850892ccd5cbda50235d7af64e9ad", checked := Try.checked }
namespace Rows
def none {H : Type} : Left H := { results := [], args := [] }

/-- 'winnowerlaw12.RulesTable': WHATEVER THE INPUT: true; the input reads as it did. -/
def rulesTableSpec : ChangeSpec := { name := "rulesTable", fn := fun _ => fun
  | [d1, d2] => { results := [.lit (.bool true)], args := [d1, d2] }
  | _ => none }
def rulesTableRow : OpenClaim := { program := "ytamniobmcdfngaa", sum := "1e4c5fbb489cae7cb67353ab66991a6e4cc850892ccd5cbda50235d7af64e9ad", func := "winnower/winnowerlaw12.RulesTable", spec := "rulesTable", apart := false }
def RulesTableSaid : Prop := rulesTableRow.holds Try.pinned (OpenSpec.ofChange rulesTableSpec)

/-- ITS FALSE NEIGHBOUR: 'it returns false'. Refute it at one input. -/
def rulesTableWrong : ChangeSpec := { name := "rulesTable", fn := fun _ => fun
  | [d1, d2] => { results := [.lit (.bool false)], args := [d1, d2] }
  | _ => none }
def RulesTableWrongFalsely : Prop := rulesTableRow.holds Try.pinned (OpenSpec.ofChange rulesTableWrong)

/-- 'winnowerlaw5.ClassJoins': WHATEVER THE INPUT: true; the input reads as it did. -/
def classJoinsSpec : ChangeSpec := { name := "classJoins", fn := fun _ => fun
  | [d1, d2] => { results := [.lit (.bool true)], args := [d1, d2] }
  | _ => none }
def classJoinsRow : OpenClaim := { program := "ytamniobmcdfngaa", sum := "1e4c5fbb489cae7cb67353ab66991a6e4cc850892ccd5cbda50235d7af64e9ad", func := "winnower/winnowerlaw5.ClassJoins", spec := "classJoins", apart := false }
def ClassJoinsSaid : Prop := classJoinsRow.holds Try.pinned (OpenSpec.ofChange classJoinsSpec)

/-- ITS FALSE NEIGHBOUR: 'it returns false'. Refute it at one input. -/
def classJoinsWrong : ChangeSpec := { name := "classJoins", fn := fun _ => fun
  | [d1, d2] => { results := [.lit (.bool false)], args := [d1, d2] }
  | _ => none }
def ClassJoinsWrongFalsely : Prop := classJoinsRow.holds Try.pinned (OpenSpec.ofChange classJoinsWrong)

/-- 'winnowerlaw5.ClassTells': WHATEVER THE INPUT: true; the input reads as it did. -/
def classTellsSpec : ChangeSpec := { name := "classTells", fn := fun _ => fun
  | [d1, d2, d3, d4] => { results := [.lit (.bool true)], args := [d1, d2, d3, d4] }
  | _ => none }
def classTellsRow : OpenClaim := { program := "ytamniobmcdfngaa", sum := "1e4c5fbb489cae7cb67353ab66991a6e4cc850892ccd5cbda50235d7af64e9ad", func := "winnower/winnowerlaw5.ClassTells", spec := "classTells", apart := false }
def ClassTellsSaid : Prop := classTellsRow.holds Try.pinned (OpenSpec.ofChange classTellsSpec)

/-- ITS FALSE NEIGHBOUR: 'it returns false'. Refute it at one input. -/
def classTellsWrong : ChangeSpec := { name := "classTells", fn := fun _ => fun
  | [d1, d2, d3, d4] => { results := [.lit (.bool false)], args := [d1, d2, d3, d4] }
  | _ => none }
def ClassTellsWrongFalsely : Prop := classTellsRow.holds Try.pinned (OpenSpec.ofChange classTellsWrong)

/-- 'winnowerlaw5.ClassTurned': WHATEVER THE INPUT: true; the input reads as it did. -/
def classTurnedSpec : ChangeSpec := { name := "classTurned", fn := fun _ => fun
  | [d1, d2] => { results := [.lit (.bool true)], args := [d1, d2] }
  | _ => none }
def classTurnedRow : OpenClaim := { program := "ytamniobmcdfngaa", sum := "1e4c5fbb489cae7cb67353ab66991a6e4cc850892ccd5cbda50235d7af64e9ad", func := "winnower/winnowerlaw5.ClassTurned", spec := "classTurned", apart := false }
def ClassTurnedSaid : Prop := classTurnedRow.holds Try.pinned (OpenSpec.ofChange classTurnedSpec)

/-- ITS FALSE NEIGHBOUR: 'it returns false'. Refute it at one input. -/
def classTurnedWrong : ChangeSpec := { name := "classTurned", fn := fun _ => fun
  | [d1, d2] => { results := [.lit (.bool false)], args := [d1, d2] }
  | _ => none }
def ClassTurnedWrongFalsely : Prop := classTurnedRow.holds Try.pinned (OpenSpec.ofChange classTurnedWrong)

/- THE SECOND FORM. 'bulk': how many values and letters a reading holds, each counted each time it is reached (what is shared counts as often as it is met; a slice's spare places count too). A statement '..UptoSaid' is the law's where the arguments, and the package variables that the reading takes, are together of bulk at most 1048576: NARROWER than '..Said'. Prove '..Said' where nothing that the law and all that it calls make is longer than what came in: it says more and counts as full. Else prove '..UptoSaid'. A law counts once. -/
mutual
def uptoBulk {H : Type} : DataW H → Nat
  | .lit (.string bytes) => bytes.length + 1
  | .lit _ => 1
  | .nil => 1
  | .ptr d => uptoBulk d + 1
  | .slice elems spare => uptoBulkAll elems + uptoBulkAll spare + 1
  | .agg parts => uptoBulkAll parts + 1
  | .iface _ d => uptoBulk d + 1
  | .map entries => uptoBulkEntries entries + 1
  | .held _ => 1
def uptoBulkAll {H : Type} : List (DataW H) → Nat
  | [] => 0
  | d :: r => uptoBulk d + uptoBulkAll r
def uptoBulkEntries {H : Type} : List (Lit × DataW H) → Nat
  | [] => 0
  | x :: r => uptoBulkEntry x + uptoBulkEntries r
def uptoBulkEntry {H : Type} : Lit × DataW H → Nat
  | (.string bytes, d) => bytes.length + uptoBulk d + 1
  | (_, d) => uptoBulk d + 1
 end
def uptoSmall : (H : Type) → List (DataW H) → Bool := fun _ ds => decide (uptoBulkAll ds ≤ 1048576)
def OpenSpec.upto (s : _root_.Go.ChangeSpec) : _root_.Go.OpenSpec := { _root_.Go.OpenSpec.ofChange s with cond := some uptoSmall }

/-- 'winnowerlaw12.RulesTable', WHERE WHAT IT READS IS OF BULK AT MOST 1048576: true; the input reads as it did. -/
def rulesTableUptoRow : OpenClaim := { program := "ytamniobmcdfngaa", sum := "1e4c5fbb489cae7cb67353ab66991a6e4cc850892ccd5cbda50235d7af64e9ad", func := "winnower/winnowerlaw12.RulesTable", spec := "rulesTable", apart := false, narrowed := true }
def RulesTableUptoSaid : Prop := rulesTableUptoRow.holds Try.pinned (OpenSpec.upto rulesTableSpec)

/-- 'winnowerlaw5.ClassJoins', WHERE WHAT IT READS IS OF BULK AT MOST 1048576: true; the input reads as it did. -/
def classJoinsUptoRow : OpenClaim := { program := "ytamniobmcdfngaa", sum := "1e4c5fbb489cae7cb67353ab66991a6e4cc850892ccd5cbda50235d7af64e9ad", func := "winnower/winnowerlaw5.ClassJoins", spec := "classJoins", apart := false, narrowed := true }
def ClassJoinsUptoSaid : Prop := classJoinsUptoRow.holds Try.pinned (OpenSpec.upto classJoinsSpec)

/-- 'winnowerlaw5.ClassTells', WHERE WHAT IT READS IS OF BULK AT MOST 1048576: true; the input reads as it did. -/
def classTellsUptoRow : OpenClaim := { program := "ytamniobmcdfngaa", sum := "1e4c5fbb489cae7cb67353ab66991a6e4cc850892ccd5cbda50235d7af64e9ad", func := "winnower/winnowerlaw5.ClassTells", spec := "classTells", apart := false, narrowed := true }
def ClassTellsUptoSaid : Prop := classTellsUptoRow.holds Try.pinned (OpenSpec.upto classTellsSpec)

/-- 'winnowerlaw5.ClassTurned', WHERE WHAT IT READS IS OF BULK AT MOST 1048576: true; the input reads as it did. -/
def classTurnedUptoRow : OpenClaim := { program := "ytamniobmcdfngaa", sum := "1e4c5fbb489cae7cb67353ab66991a6e4cc850892ccd5cbda50235d7af64e9ad", func := "winnower/winnowerlaw5.ClassTurned", spec := "classTurned", apart := false, narrowed := true }
def ClassTurnedUptoSaid : Prop := classTurnedUptoRow.holds Try.pinned (OpenSpec.upto classTurnedSpec)

end Rows
end Go.Proofs.Ytamniobmcdfngaa
