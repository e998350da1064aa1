/-
  No cell of these rows narrows 'for every input' (looked for: loops, veiled, ifaces, maps, wideKeys, modest, calm, conditions, laid).
  DERIVED. THE GIVEN ROWS OF THIS SEAT. 2 by the template 'for every input the law returns true; each argument reads behind the call as it read before'; 0 by the template 'total and deterministic' (their statements: YtnilbpofmohfhaaGreatTotals.lean).
  GIVEN WITH THE SEED: the statements are not yours to turn. If you find one false, say at which input.
  Laid BY PROGRAM, IN A SANDBOX (cutbox-rows.mjs): the forced cells as the released guide's own fill.sh prints them over the translation 174d395fca8ea560… (all of the seat's roots in one cut). By AI agents, Wed Nov 11 2026. No macro, syntax, notation, axiom, sorry.
-/
import Derived.Test.YtnilbpofmohfhaaGreatChecked
import GoSem.Claim
import GoSem.ClaimJoined
import GoSem.ClaimMapViews
import Derived.JoinedTies
import Derived.KernelRfl
namespace Go.Proofs.YtnilbpofmohfhaaGreat
/- THE CELL 'sum', in the pinned program and in every row, IS THE sha256 OF THE DUMP (.gsa) THAT YtnilbpofmohfhaaGreatProg.lean LOADS. Nothing in Lean hashes anything: it is a label: what it is worth is what the hold of that sum in a sandbox is worth. -/
noncomputable def Tryz.pinned : Pinned := { name := "ytnilbpofmohfhaagreat", sum := "174d395fca8ea560b24507ecec3b4fdaac982cd9f7e432ca6b6ccf1967b1d27d", checked := Tryz.checked }
namespace Rows
def none {H : Type} : Left H := { results := [], args := [] }

/-- 'watershedlaw15.RowsRuns': WHATEVER THE INPUT: true; the input reads as it did. -/
def rowsRunsSpec : ChangeSpec := { name := "rowsRuns", fn := fun _ => fun
  | [d1, d2, d3, d4] => { results := [.lit (.bool true)], args := [d1, d2, d3, d4] }
  | _ => none }
def rowsRunsRow : OpenClaim := { program := "ytnilbpofmohfhaagreat", sum := "174d395fca8ea560b24507ecec3b4fdaac982cd9f7e432ca6b6ccf1967b1d27d", func := "watershed/watershedlaw15.RowsRuns", spec := "rowsRuns", inPlace := ["internal/bytealg.abigen_runtime_cmpstring", "slices.overlaps[watershed/api.Row]"], unfollowed := true, recurses := true, apart := false }
def RowsRunsSaid : Prop := rowsRunsRow.holds Tryz.pinned (OpenSpec.ofChange rowsRunsSpec)

/-- ITS FALSE NEIGHBOUR: 'it returns false'. Refute it at one input. -/
def rowsRunsWrong : ChangeSpec := { name := "rowsRuns", fn := fun _ => fun
  | [d1, d2, d3, d4] => { results := [.lit (.bool false)], args := [d1, d2, d3, d4] }
  | _ => none }
def RowsRunsWrongFalsely : Prop := rowsRunsRow.holds Tryz.pinned (OpenSpec.ofChange rowsRunsWrong)

/-- 'watershedlaw15.RowsEnds': WHATEVER THE INPUT: true; the input reads as it did. -/
def rowsEndsSpec : ChangeSpec := { name := "rowsEnds", fn := fun _ => fun
  | [] => { results := [.lit (.bool true)], args := [] }
  | _ => none }
def rowsEndsRow : OpenClaim := { program := "ytnilbpofmohfhaagreat", sum := "174d395fca8ea560b24507ecec3b4fdaac982cd9f7e432ca6b6ccf1967b1d27d", func := "watershed/watershedlaw15.RowsEnds", spec := "rowsEnds", inPlace := ["internal/bytealg.abigen_runtime_cmpstring", "slices.overlaps[watershed/api.Row]"], unfollowed := true, recurses := true, apart := false }
def RowsEndsSaid : Prop := rowsEndsRow.holds Tryz.pinned (OpenSpec.ofChange rowsEndsSpec)

/-- ITS FALSE NEIGHBOUR: 'it returns false'. Refute it at one input. -/
def rowsEndsWrong : ChangeSpec := { name := "rowsEnds", fn := fun _ => fun
  | [] => { results := [.lit (.bool false)], args := [] }
  | _ => none }
def RowsEndsWrongFalsely : Prop := rowsEndsRow.holds Tryz.pinned (OpenSpec.ofChange rowsEndsWrong)

/- THE SECOND FORM. 'bulk': how many values and letters a reading holds, each counted each time it is reached (what is shared counts as often as it is met; a slice's spare places count too). A statement '..UptoSaid' is the law's where the arguments, and the package variables that the reading takes, are together of bulk at most 1048576: NARROWER than '..Said'. Prove '..Said' where nothing that the law and all that it calls make is longer than what came in: it says more and counts as full. Else prove '..UptoSaid'. A law counts once. -/
mutual
def uptoBulk {H : Type} : DataW H → Nat
  | .lit (.string bytes) => bytes.length + 1
  | .lit _ => 1
  | .nil => 1
  | .ptr d => uptoBulk d + 1
  | .slice elems spare => uptoBulkAll elems + uptoBulkAll spare + 1
  | .agg parts => uptoBulkAll parts + 1
  | .iface _ d => uptoBulk d + 1
  | .map entries => uptoBulkEntries entries + 1
  | .held _ => 1
def uptoBulkAll {H : Type} : List (DataW H) → Nat
  | [] => 0
  | d :: r => uptoBulk d + uptoBulkAll r
def uptoBulkEntries {H : Type} : List (Lit × DataW H) → Nat
  | [] => 0
  | x :: r => uptoBulkEntry x + uptoBulkEntries r
def uptoBulkEntry {H : Type} : Lit × DataW H → Nat
  | (.string bytes, d) => bytes.length + uptoBulk d + 1
  | (_, d) => uptoBulk d + 1
 end
def uptoSmall : (H : Type) → List (DataW H) → Bool := fun _ ds => decide (uptoBulkAll ds ≤ 1048576)
def OpenSpec.upto (s : _root_.Go.ChangeSpec) : _root_.Go.OpenSpec := { _root_.Go.OpenSpec.ofChange s with cond := some uptoSmall }

/-- 'watershedlaw15.RowsRuns', WHERE WHAT IT READS IS OF BULK AT MOST 1048576: true; the input reads as it did. -/
def rowsRunsUptoRow : OpenClaim := { program := "ytnilbpofmohfhaagreat", sum := "174d395fca8ea560b24507ecec3b4fdaac982cd9f7e432ca6b6ccf1967b1d27d", func := "watershed/watershedlaw15.RowsRuns", spec := "rowsRuns", inPlace := ["internal/bytealg.abigen_runtime_cmpstring", "slices.overlaps[watershed/api.Row]"], unfollowed := true, recurses := true, apart := false, narrowed := true }
def RowsRunsUptoSaid : Prop := rowsRunsUptoRow.holds Tryz.pinned (OpenSpec.upto rowsRunsSpec)

/-- 'watershedlaw15.RowsEnds', WHERE WHAT IT READS IS OF BULK AT MOST 1048576: true; the input reads as it did. -/
def rowsEndsUptoRow : OpenClaim := { program := "ytnilbpofmohfhaagreat", sum := "174d395fca8ea560b24507ecec3b4fdaac982cd9f7e432ca6b6ccf1967b1d27d", func := "watershed/watershedlaw15.RowsEnds", spec := "rowsEnds", inPlace := ["internal/bytealg.abigen_runtime_cmpstring", "slices.overlaps[watershed/api.Row]"], unfollowed := true, recurses := true, apart := false, narrowed := true }
def RowsEndsUptoSaid : Prop := rowsEndsUptoRow.holds Tryz.pinned (OpenSpec.upto rowsEndsSpec)

end Rows
end Go.Proofs.YtnilbpofmohfhaaGreat
