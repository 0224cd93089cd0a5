/-
  No cell of these rows narrows 'for every input' (looked for: loops, veiled, ifaces, maps, wideKeys, modest, calm, conditions, laid).
  DERIVED. THE GIVEN ROWS OF THIS SEAT. 5 by the template 'for every input the law returns true; each argument reads behind the call as it read before'; 0 by the template 'total and deterministic' (their statements: YtkobaidamdffmaaTotals.lean).
  GIVEN WITH THE SEED: the statements are not yours to turn. If you find one false, say at which input.
  Laid BY PROGRAM, IN A SANDBOX (cutbox-rows.mjs): the forced cells as the released guide's own fill.sh prints them over the translation add380ee1bc66b9a… (all of the seat's roots in one cut). By AI agents, Wed Nov 11 2026. No macro, syntax, notation, axiom, sorry.
-/
import Derived.Test.YtkobaidamdffmaaChecked
import GoSem.Claim
import GoSem.ClaimJoined
import GoSem.ClaimMapViews
import Derived.JoinedTies
import Derived.KernelRfl
namespace Go.Proofs.Ytkobaidamdffmaa
/- THE CELL 'sum', in the pinned program and in every row, IS THE sha256 OF THE DUMP (.gsa) THAT YtkobaidamdffmaaProg.lean LOADS. Nothing in Lean hashes anything: it is a label: what it is worth is what the hold of that sum in a sandbox is worth. -/
noncomputable def Try.pinned : Pinned := { name := "ytkobaidamdffmaa", sum := "add380ee1bc66b9a668a675ce2958c168e962cd24e2971608bd5793577863920", checked := Try.checked }
namespace Rows
def none {H : Type} : Left H := { results := [], args := [] }

/-- 'watershedlaw15.CellsApart': WHATEVER THE INPUT: true; the input reads as it did. -/
def cellsApartSpec : ChangeSpec := { name := "cellsApart", fn := fun _ => fun
  | [d1, d2] => { results := [.lit (.bool true)], args := [d1, d2] }
  | _ => none }
def cellsApartRow : OpenClaim := { program := "ytkobaidamdffmaa", sum := "add380ee1bc66b9a668a675ce2958c168e962cd24e2971608bd5793577863920", func := "watershed/watershedlaw15.CellsApart", spec := "cellsApart", unfollowed := true, recurses := true, plainKeys := false, apart := false }
def CellsApartSaid : Prop := cellsApartRow.holds Try.pinned (OpenSpec.ofChange cellsApartSpec)

/-- ITS FALSE NEIGHBOUR: 'it returns false'. Refute it at one input. -/
def cellsApartWrong : ChangeSpec := { name := "cellsApart", fn := fun _ => fun
  | [d1, d2] => { results := [.lit (.bool false)], args := [d1, d2] }
  | _ => none }
def CellsApartWrongFalsely : Prop := cellsApartRow.holds Try.pinned (OpenSpec.ofChange cellsApartWrong)

/-- 'watershedlaw15.CellsCounts': WHATEVER THE INPUT: true; the input reads as it did. -/
def cellsCountsSpec : ChangeSpec := { name := "cellsCounts", fn := fun _ => fun
  | [d] => { results := [.lit (.bool true)], args := [d] }
  | _ => none }
def cellsCountsRow : OpenClaim := { program := "ytkobaidamdffmaa", sum := "add380ee1bc66b9a668a675ce2958c168e962cd24e2971608bd5793577863920", func := "watershed/watershedlaw15.CellsCounts", spec := "cellsCounts", unfollowed := true, recurses := true, plainKeys := false, apart := false }
def CellsCountsSaid : Prop := cellsCountsRow.holds Try.pinned (OpenSpec.ofChange cellsCountsSpec)

/-- ITS FALSE NEIGHBOUR: 'it returns false'. Refute it at one input. -/
def cellsCountsWrong : ChangeSpec := { name := "cellsCounts", fn := fun _ => fun
  | [d] => { results := [.lit (.bool false)], args := [d] }
  | _ => none }
def CellsCountsWrongFalsely : Prop := cellsCountsRow.holds Try.pinned (OpenSpec.ofChange cellsCountsWrong)

/-- 'watershedlaw15.CellsBack': WHATEVER THE INPUT: true; the input reads as it did. -/
def cellsBackSpec : ChangeSpec := { name := "cellsBack", fn := fun _ => fun
  | [d1, d2] => { results := [.lit (.bool true)], args := [d1, d2] }
  | _ => none }
def cellsBackRow : OpenClaim := { program := "ytkobaidamdffmaa", sum := "add380ee1bc66b9a668a675ce2958c168e962cd24e2971608bd5793577863920", func := "watershed/watershedlaw15.CellsBack", spec := "cellsBack", unfollowed := true, recurses := true, plainKeys := false, apart := false }
def CellsBackSaid : Prop := cellsBackRow.holds Try.pinned (OpenSpec.ofChange cellsBackSpec)

/-- ITS FALSE NEIGHBOUR: 'it returns false'. Refute it at one input. -/
def cellsBackWrong : ChangeSpec := { name := "cellsBack", fn := fun _ => fun
  | [d1, d2] => { results := [.lit (.bool false)], args := [d1, d2] }
  | _ => none }
def CellsBackWrongFalsely : Prop := cellsBackRow.holds Try.pinned (OpenSpec.ofChange cellsBackWrong)

/-- 'watershedlaw15.CellsDecodes': WHATEVER THE INPUT: true; the input reads as it did. -/
def cellsDecodesSpec : ChangeSpec := { name := "cellsDecodes", fn := fun _ => fun
  | [d1, d2] => { results := [.lit (.bool true)], args := [d1, d2] }
  | _ => none }
def cellsDecodesRow : OpenClaim := { program := "ytkobaidamdffmaa", sum := "add380ee1bc66b9a668a675ce2958c168e962cd24e2971608bd5793577863920", func := "watershed/watershedlaw15.CellsDecodes", spec := "cellsDecodes", unfollowed := true, recurses := true, plainKeys := false, apart := false }
def CellsDecodesSaid : Prop := cellsDecodesRow.holds Try.pinned (OpenSpec.ofChange cellsDecodesSpec)

/-- ITS FALSE NEIGHBOUR: 'it returns false'. Refute it at one input. -/
def cellsDecodesWrong : ChangeSpec := { name := "cellsDecodes", fn := fun _ => fun
  | [d1, d2] => { results := [.lit (.bool false)], args := [d1, d2] }
  | _ => none }
def CellsDecodesWrongFalsely : Prop := cellsDecodesRow.holds Try.pinned (OpenSpec.ofChange cellsDecodesWrong)

/-- 'watershedlaw15.CellsPlays': WHATEVER THE INPUT: true; the input reads as it did. -/
def cellsPlaysSpec : ChangeSpec := { name := "cellsPlays", fn := fun _ => fun
  | [d] => { results := [.lit (.bool true)], args := [d] }
  | _ => none }
def cellsPlaysRow : OpenClaim := { program := "ytkobaidamdffmaa", sum := "add380ee1bc66b9a668a675ce2958c168e962cd24e2971608bd5793577863920", func := "watershed/watershedlaw15.CellsPlays", spec := "cellsPlays", unfollowed := true, recurses := true, plainKeys := false, apart := false }
def CellsPlaysSaid : Prop := cellsPlaysRow.holds Try.pinned (OpenSpec.ofChange cellsPlaysSpec)

/-- ITS FALSE NEIGHBOUR: 'it returns false'. Refute it at one input. -/
def cellsPlaysWrong : ChangeSpec := { name := "cellsPlays", fn := fun _ => fun
  | [d] => { results := [.lit (.bool false)], args := [d] }
  | _ => none }
def CellsPlaysWrongFalsely : Prop := cellsPlaysRow.holds Try.pinned (OpenSpec.ofChange cellsPlaysWrong)

/- THE SECOND FORM. 'bulk': how many values and letters a reading holds, each counted each time it is reached (what is shared counts as often as it is met; a slice's spare places count too). A statement '..UptoSaid' is the law's where the arguments, and the package variables that the reading takes, are together of bulk at most 1048576: NARROWER than '..Said'. Prove '..Said' where nothing that the law and all that it calls make is longer than what came in: it says more and counts as full. Else prove '..UptoSaid'. A law counts once. -/
mutual
def uptoBulk {H : Type} : DataW H → Nat
  | .lit (.string bytes) => bytes.length + 1
  | .lit _ => 1
  | .nil => 1
  | .ptr d => uptoBulk d + 1
  | .slice elems spare => uptoBulkAll elems + uptoBulkAll spare + 1
  | .agg parts => uptoBulkAll parts + 1
  | .iface _ d => uptoBulk d + 1
  | .map entries => uptoBulkEntries entries + 1
  | .held _ => 1
def uptoBulkAll {H : Type} : List (DataW H) → Nat
  | [] => 0
  | d :: r => uptoBulk d + uptoBulkAll r
def uptoBulkEntries {H : Type} : List (Lit × DataW H) → Nat
  | [] => 0
  | x :: r => uptoBulkEntry x + uptoBulkEntries r
def uptoBulkEntry {H : Type} : Lit × DataW H → Nat
  | (.string bytes, d) => bytes.length + uptoBulk d + 1
  | (_, d) => uptoBulk d + 1
 end
def uptoSmall : (H : Type) → List (DataW H) → Bool := fun _ ds => decide (uptoBulkAll ds ≤ 1048576)
def OpenSpec.upto (s : _root_.Go.ChangeSpec) : _root_.Go.OpenSpec := { _root_.Go.OpenSpec.ofChange s with cond := some uptoSmall }

/-- 'watershedlaw15.CellsApart', WHERE WHAT IT READS IS OF BULK AT MOST 1048576: true; the input reads as it did. -/
def cellsApartUptoRow : OpenClaim := { program := "ytkobaidamdffmaa", sum := "add380ee1bc66b9a668a675ce2958c168e962cd24e2971608bd5793577863920", func := "watershed/watershedlaw15.CellsApart", spec := "cellsApart", unfollowed := true, recurses := true, plainKeys := false, apart := false, narrowed := true }
def CellsApartUptoSaid : Prop := cellsApartUptoRow.holds Try.pinned (OpenSpec.upto cellsApartSpec)

/-- 'watershedlaw15.CellsCounts', WHERE WHAT IT READS IS OF BULK AT MOST 1048576: true; the input reads as it did. -/
def cellsCountsUptoRow : OpenClaim := { program := "ytkobaidamdffmaa", sum := "add380ee1bc66b9a668a675ce2958c168e962cd24e2971608bd5793577863920", func := "watershed/watershedlaw15.CellsCounts", spec := "cellsCounts", unfollowed := true, recurses := true, plainKeys := false, apart := false, narrowed := true }
def CellsCountsUptoSaid : Prop := cellsCountsUptoRow.holds Try.pinned (OpenSpec.upto cellsCountsSpec)

/-- 'watershedlaw15.CellsBack', WHERE WHAT IT READS IS OF BULK AT MOST 1048576: true; the input reads as it did. -/
def cellsBackUptoRow : OpenClaim := { program := "ytkobaidamdffmaa", sum := "add380ee1bc66b9a668a675ce2958c168e962cd24e2971608bd5793577863920", func := "watershed/watershedlaw15.CellsBack", spec := "cellsBack", unfollowed := true, recurses := true, plainKeys := false, apart := false, narrowed := true }
def CellsBackUptoSaid : Prop := cellsBackUptoRow.holds Try.pinned (OpenSpec.upto cellsBackSpec)

/-- 'watershedlaw15.CellsDecodes', WHERE WHAT IT READS IS OF BULK AT MOST 1048576: true; the input reads as it did. -/
def cellsDecodesUptoRow : OpenClaim := { program := "ytkobaidamdffmaa", sum := "add380ee1bc66b9a668a675ce2958c168e962cd24e2971608bd5793577863920", func := "watershed/watershedlaw15.CellsDecodes", spec := "cellsDecodes", unfollowed := true, recurses := true, plainKeys := false, apart := false, narrowed := true }
def CellsDecodesUptoSaid : Prop := cellsDecodesUptoRow.holds Try.pinned (OpenSpec.upto cellsDecodesSpec)

/-- 'watershedlaw15.CellsPlays', WHERE WHAT IT READS IS OF BULK AT MOST 1048576: true; the input reads as it did. -/
def cellsPlaysUptoRow : OpenClaim := { program := "ytkobaidamdffmaa", sum := "add380ee1bc66b9a668a675ce2958c168e962cd24e2971608bd5793577863920", func := "watershed/watershedlaw15.CellsPlays", spec := "cellsPlays", unfollowed := true, recurses := true, plainKeys := false, apart := false, narrowed := true }
def CellsPlaysUptoSaid : Prop := cellsPlaysUptoRow.holds Try.pinned (OpenSpec.upto cellsPlaysSpec)

end Rows
end Go.Proofs.Ytkobaidamdffmaa
