/-
  No cell of these rows narrows 'for every input' (looked for: loops, veiled, ifaces, maps, wideKeys, modest, calm, conditions, laid).
  DERIVED. THE GIVEN ROWS OF THIS SEAT. 5 by the template 'for every input the law returns true; each argument reads behind the call as it read before'; 0 by the template 'total and deterministic' (their statements: YtpggnelngfpfgaaTotals.lean).
  GIVEN WITH THE SEED: the statements are not yours to turn. If you find one false, say at which input.
  Laid BY PROGRAM, IN A SANDBOX (cutbox-rows.mjs): the forced cells as the released guide's own fill.sh prints them over the translation a34a787a470d751f… (all of the seat's roots in one cut). By AI agents, Wed Nov 11 2026. No macro, syntax, notation, axiom, sorry.
-/
import Derived.Test.YtpggnelngfpfgaaChecked
import GoSem.Claim
import GoSem.ClaimJoined
import GoSem.ClaimMapViews
import Derived.JoinedTies
import Derived.KernelRfl
namespace Go.Proofs.Ytpggnelngfpfgaa
/- THE CELL 'sum', in the pinned program and in every row, IS THE sha256 OF THE DUMP (.gsa) THAT YtpggnelngfpfgaaProg.lean LOADS. Nothing in Lean hashes anything: it is a label: what it is worth is what the hold of that sum in a sandbox is worth. -/
noncomputable def Try.pinned : Pinned := { name := "ytpggnelngfpfgaa", sum := "a34a787a470d751f2d37c3a2bb4898f26a53ee21e87a138074d57b1ff935b9d9", checked := Try.checked }
namespace Rows
def none {H : Type} : Left H := { results := [], args := [] }

/-- 'watershedlaw05.SharesRuns': WHATEVER THE INPUT: true; the input reads as it did. -/
def sharesRunsSpec : ChangeSpec := { name := "sharesRuns", fn := fun _ => fun
  | [d1, d2] => { results := [.lit (.bool true)], args := [d1, d2] }
  | _ => none }
def sharesRunsRow : OpenClaim := { program := "ytpggnelngfpfgaa", sum := "a34a787a470d751f2d37c3a2bb4898f26a53ee21e87a138074d57b1ff935b9d9", func := "watershed/watershedlaw05.SharesRuns", spec := "sharesRuns", inPlace := ["slices.overlaps[watershed/api.Share]"], unfollowed := true, recurses := true, apart := false }
def SharesRunsSaid : Prop := sharesRunsRow.holds Try.pinned (OpenSpec.ofChange sharesRunsSpec)

/-- ITS FALSE NEIGHBOUR: 'it returns false'. Refute it at one input. -/
def sharesRunsWrong : ChangeSpec := { name := "sharesRuns", fn := fun _ => fun
  | [d1, d2] => { results := [.lit (.bool false)], args := [d1, d2] }
  | _ => none }
def SharesRunsWrongFalsely : Prop := sharesRunsRow.holds Try.pinned (OpenSpec.ofChange sharesRunsWrong)

/-- 'watershedlaw05.SharesTurn': WHATEVER THE INPUT: true; the input reads as it did. -/
def sharesTurnSpec : ChangeSpec := { name := "sharesTurn", fn := fun _ => fun
  | [d1, d2, d3, d4] => { results := [.lit (.bool true)], args := [d1, d2, d3, d4] }
  | _ => none }
def sharesTurnRow : OpenClaim := { program := "ytpggnelngfpfgaa", sum := "a34a787a470d751f2d37c3a2bb4898f26a53ee21e87a138074d57b1ff935b9d9", func := "watershed/watershedlaw05.SharesTurn", spec := "sharesTurn", inPlace := ["slices.overlaps[watershed/api.Share]"], unfollowed := true, recurses := true, apart := false }
def SharesTurnSaid : Prop := sharesTurnRow.holds Try.pinned (OpenSpec.ofChange sharesTurnSpec)

/-- ITS FALSE NEIGHBOUR: 'it returns false'. Refute it at one input. -/
def sharesTurnWrong : ChangeSpec := { name := "sharesTurn", fn := fun _ => fun
  | [d1, d2, d3, d4] => { results := [.lit (.bool false)], args := [d1, d2, d3, d4] }
  | _ => none }
def SharesTurnWrongFalsely : Prop := sharesTurnRow.holds Try.pinned (OpenSpec.ofChange sharesTurnWrong)

/-- 'watershedlaw05.SharesKeys': WHATEVER THE INPUT: true; the input reads as it did. -/
def sharesKeysSpec : ChangeSpec := { name := "sharesKeys", fn := fun _ => fun
  | [d1, d2, d3, d4] => { results := [.lit (.bool true)], args := [d1, d2, d3, d4] }
  | _ => none }
def sharesKeysRow : OpenClaim := { program := "ytpggnelngfpfgaa", sum := "a34a787a470d751f2d37c3a2bb4898f26a53ee21e87a138074d57b1ff935b9d9", func := "watershed/watershedlaw05.SharesKeys", spec := "sharesKeys", inPlace := ["slices.overlaps[watershed/api.Share]"], unfollowed := true, recurses := true, apart := false }
def SharesKeysSaid : Prop := sharesKeysRow.holds Try.pinned (OpenSpec.ofChange sharesKeysSpec)

/-- ITS FALSE NEIGHBOUR: 'it returns false'. Refute it at one input. -/
def sharesKeysWrong : ChangeSpec := { name := "sharesKeys", fn := fun _ => fun
  | [d1, d2, d3, d4] => { results := [.lit (.bool false)], args := [d1, d2, d3, d4] }
  | _ => none }
def SharesKeysWrongFalsely : Prop := sharesKeysRow.holds Try.pinned (OpenSpec.ofChange sharesKeysWrong)

/-- 'watershedlaw20.SchemeGoes': WHATEVER THE INPUT: true; the input reads as it did. -/
def schemeGoesSpec : ChangeSpec := { name := "schemeGoes", fn := fun _ => fun
  | [d1, d2, d3, d4, d5, d6] => { results := [.lit (.bool true)], args := [d1, d2, d3, d4, d5, d6] }
  | _ => none }
def schemeGoesRow : OpenClaim := { program := "ytpggnelngfpfgaa", sum := "a34a787a470d751f2d37c3a2bb4898f26a53ee21e87a138074d57b1ff935b9d9", func := "watershed/watershedlaw20.SchemeGoes", spec := "schemeGoes", inPlace := ["slices.overlaps[watershed/api.Share]"], unfollowed := true, recurses := true, apart := false }
def SchemeGoesSaid : Prop := schemeGoesRow.holds Try.pinned (OpenSpec.ofChange schemeGoesSpec)

/-- ITS FALSE NEIGHBOUR: 'it returns false'. Refute it at one input. -/
def schemeGoesWrong : ChangeSpec := { name := "schemeGoes", fn := fun _ => fun
  | [d1, d2, d3, d4, d5, d6] => { results := [.lit (.bool false)], args := [d1, d2, d3, d4, d5, d6] }
  | _ => none }
def SchemeGoesWrongFalsely : Prop := schemeGoesRow.holds Try.pinned (OpenSpec.ofChange schemeGoesWrong)

/-- 'watershedlaw20.SchemeEnds': WHATEVER THE INPUT: true; the input reads as it did. -/
def schemeEndsSpec : ChangeSpec := { name := "schemeEnds", fn := fun _ => fun
  | [d1, d2, d3] => { results := [.lit (.bool true)], args := [d1, d2, d3] }
  | _ => none }
def schemeEndsRow : OpenClaim := { program := "ytpggnelngfpfgaa", sum := "a34a787a470d751f2d37c3a2bb4898f26a53ee21e87a138074d57b1ff935b9d9", func := "watershed/watershedlaw20.SchemeEnds", spec := "schemeEnds", inPlace := ["slices.overlaps[watershed/api.Share]"], unfollowed := true, recurses := true, apart := false }
def SchemeEndsSaid : Prop := schemeEndsRow.holds Try.pinned (OpenSpec.ofChange schemeEndsSpec)

/-- ITS FALSE NEIGHBOUR: 'it returns false'. Refute it at one input. -/
def schemeEndsWrong : ChangeSpec := { name := "schemeEnds", fn := fun _ => fun
  | [d1, d2, d3] => { results := [.lit (.bool false)], args := [d1, d2, d3] }
  | _ => none }
def SchemeEndsWrongFalsely : Prop := schemeEndsRow.holds Try.pinned (OpenSpec.ofChange schemeEndsWrong)

/- THE SECOND FORM. 'bulk': how many values and letters a reading holds, each counted each time it is reached (what is shared counts as often as it is met; a slice's spare places count too). A statement '..UptoSaid' is the law's where the arguments, and the package variables that the reading takes, are together of bulk at most 1048576: NARROWER than '..Said'. Prove '..Said' where nothing that the law and all that it calls make is longer than what came in: it says more and counts as full. Else prove '..UptoSaid'. A law counts once. -/
mutual
def uptoBulk {H : Type} : DataW H → Nat
  | .lit (.string bytes) => bytes.length + 1
  | .lit _ => 1
  | .nil => 1
  | .ptr d => uptoBulk d + 1
  | .slice elems spare => uptoBulkAll elems + uptoBulkAll spare + 1
  | .agg parts => uptoBulkAll parts + 1
  | .iface _ d => uptoBulk d + 1
  | .map entries => uptoBulkEntries entries + 1
  | .held _ => 1
def uptoBulkAll {H : Type} : List (DataW H) → Nat
  | [] => 0
  | d :: r => uptoBulk d + uptoBulkAll r
def uptoBulkEntries {H : Type} : List (Lit × DataW H) → Nat
  | [] => 0
  | x :: r => uptoBulkEntry x + uptoBulkEntries r
def uptoBulkEntry {H : Type} : Lit × DataW H → Nat
  | (.string bytes, d) => bytes.length + uptoBulk d + 1
  | (_, d) => uptoBulk d + 1
 end
def uptoSmall : (H : Type) → List (DataW H) → Bool := fun _ ds => decide (uptoBulkAll ds ≤ 1048576)
def OpenSpec.upto (s : _root_.Go.ChangeSpec) : _root_.Go.OpenSpec := { _root_.Go.OpenSpec.ofChange s with cond := some uptoSmall }

/-- 'watershedlaw05.SharesRuns', WHERE WHAT IT READS IS OF BULK AT MOST 1048576: true; the input reads as it did. -/
def sharesRunsUptoRow : OpenClaim := { program := "ytpggnelngfpfgaa", sum := "a34a787a470d751f2d37c3a2bb4898f26a53ee21e87a138074d57b1ff935b9d9", func := "watershed/watershedlaw05.SharesRuns", spec := "sharesRuns", inPlace := ["slices.overlaps[watershed/api.Share]"], unfollowed := true, recurses := true, apart := false, narrowed := true }
def SharesRunsUptoSaid : Prop := sharesRunsUptoRow.holds Try.pinned (OpenSpec.upto sharesRunsSpec)

/-- 'watershedlaw05.SharesTurn', WHERE WHAT IT READS IS OF BULK AT MOST 1048576: true; the input reads as it did. -/
def sharesTurnUptoRow : OpenClaim := { program := "ytpggnelngfpfgaa", sum := "a34a787a470d751f2d37c3a2bb4898f26a53ee21e87a138074d57b1ff935b9d9", func := "watershed/watershedlaw05.SharesTurn", spec := "sharesTurn", inPlace := ["slices.overlaps[watershed/api.Share]"], unfollowed := true, recurses := true, apart := false, narrowed := true }
def SharesTurnUptoSaid : Prop := sharesTurnUptoRow.holds Try.pinned (OpenSpec.upto sharesTurnSpec)

/-- 'watershedlaw05.SharesKeys', WHERE WHAT IT READS IS OF BULK AT MOST 1048576: true; the input reads as it did. -/
def sharesKeysUptoRow : OpenClaim := { program := "ytpggnelngfpfgaa", sum := "a34a787a470d751f2d37c3a2bb4898f26a53ee21e87a138074d57b1ff935b9d9", func := "watershed/watershedlaw05.SharesKeys", spec := "sharesKeys", inPlace := ["slices.overlaps[watershed/api.Share]"], unfollowed := true, recurses := true, apart := false, narrowed := true }
def SharesKeysUptoSaid : Prop := sharesKeysUptoRow.holds Try.pinned (OpenSpec.upto sharesKeysSpec)

/-- 'watershedlaw20.SchemeGoes', WHERE WHAT IT READS IS OF BULK AT MOST 1048576: true; the input reads as it did. -/
def schemeGoesUptoRow : OpenClaim := { program := "ytpggnelngfpfgaa", sum := "a34a787a470d751f2d37c3a2bb4898f26a53ee21e87a138074d57b1ff935b9d9", func := "watershed/watershedlaw20.SchemeGoes", spec := "schemeGoes", inPlace := ["slices.overlaps[watershed/api.Share]"], unfollowed := true, recurses := true, apart := false, narrowed := true }
def SchemeGoesUptoSaid : Prop := schemeGoesUptoRow.holds Try.pinned (OpenSpec.upto schemeGoesSpec)

/-- 'watershedlaw20.SchemeEnds', WHERE WHAT IT READS IS OF BULK AT MOST 1048576: true; the input reads as it did. -/
def schemeEndsUptoRow : OpenClaim := { program := "ytpggnelngfpfgaa", sum := "a34a787a470d751f2d37c3a2bb4898f26a53ee21e87a138074d57b1ff935b9d9", func := "watershed/watershedlaw20.SchemeEnds", spec := "schemeEnds", inPlace := ["slices.overlaps[watershed/api.Share]"], unfollowed := true, recurses := true, apart := false, narrowed := true }
def SchemeEndsUptoSaid : Prop := schemeEndsUptoRow.holds Try.pinned (OpenSpec.upto schemeEndsSpec)

end Rows
end Go.Proofs.Ytpggnelngfpfgaa
