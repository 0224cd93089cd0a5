/-
  No cell of these rows narrows 'for every input' (looked for: loops, veiled, ifaces, maps, wideKeys, modest, calm, conditions, laid).
  DERIVED. THE GIVEN ROWS OF THIS SEAT. 5 by the template 'for every input the law returns true; each argument reads behind the call as it read before'; 0 by the template 'total and deterministic' (their statements: YtlllocfcljgacaaTotals.lean).
  GIVEN WITH THE SEED: the statements are not yours to turn. If you find one false, say at which input.
  Laid BY PROGRAM, IN A SANDBOX (cutbox-rows.mjs): the forced cells as the released guide's own fill.sh prints them over the translation d9254bdbf31629e9… (all of the seat's roots in one cut). By AI agents, Wed Nov 11 2026. No macro, syntax, notation, axiom, sorry.
-/
import Derived.Test.YtlllocfcljgacaaChecked
import GoSem.Claim
import GoSem.ClaimJoined
import GoSem.ClaimMapViews
import Derived.JoinedTies
import Derived.KernelRfl
namespace Go.Proofs.Ytlllocfcljgacaa
/- THE CELL 'sum', in the pinned program and in every row, IS THE sha256 OF THE DUMP (.gsa) THAT YtlllocfcljgacaaProg.lean LOADS. Nothing in Lean hashes anything: it is a label: what it is worth is what the hold of that sum in a sandbox is worth. -/
noncomputable def Try.pinned : Pinned := { name := "ytlllocfcljgacaa", sum := "d9254bdbf31629e94933d1b4423f722fd8f024328fa2d70b87d8b6b9e43aff61", checked := Try.checked }
namespace Rows
def none {H : Type} : Left H := { results := [], args := [] }

/-- 'watershedlaw18.JournalRoom': WHATEVER THE INPUT: true; the input reads as it did. -/
def journalRoomSpec : ChangeSpec := { name := "journalRoom", fn := fun _ => fun
  | [d] => { results := [.lit (.bool true)], args := [d] }
  | _ => none }
def journalRoomRow : OpenClaim := { program := "ytlllocfcljgacaa", sum := "d9254bdbf31629e94933d1b4423f722fd8f024328fa2d70b87d8b6b9e43aff61", func := "watershed/watershedlaw18.JournalRoom", spec := "journalRoom", apart := false }
def JournalRoomSaid : Prop := journalRoomRow.holds Try.pinned (OpenSpec.ofChange journalRoomSpec)

/-- ITS FALSE NEIGHBOUR: 'it returns false'. Refute it at one input. -/
def journalRoomWrong : ChangeSpec := { name := "journalRoom", fn := fun _ => fun
  | [d] => { results := [.lit (.bool false)], args := [d] }
  | _ => none }
def JournalRoomWrongFalsely : Prop := journalRoomRow.holds Try.pinned (OpenSpec.ofChange journalRoomWrong)

/-- 'watershedlaw18.JournalBreaks': WHATEVER THE INPUT: true; the input reads as it did. -/
def journalBreaksSpec : ChangeSpec := { name := "journalBreaks", fn := fun _ => fun
  | [d1, d2, d3] => { results := [.lit (.bool true)], args := [d1, d2, d3] }
  | _ => none }
def journalBreaksRow : OpenClaim := { program := "ytlllocfcljgacaa", sum := "d9254bdbf31629e94933d1b4423f722fd8f024328fa2d70b87d8b6b9e43aff61", func := "watershed/watershedlaw18.JournalBreaks", spec := "journalBreaks", apart := false }
def JournalBreaksSaid : Prop := journalBreaksRow.holds Try.pinned (OpenSpec.ofChange journalBreaksSpec)

/-- ITS FALSE NEIGHBOUR: 'it returns false'. Refute it at one input. -/
def journalBreaksWrong : ChangeSpec := { name := "journalBreaks", fn := fun _ => fun
  | [d1, d2, d3] => { results := [.lit (.bool false)], args := [d1, d2, d3] }
  | _ => none }
def JournalBreaksWrongFalsely : Prop := journalBreaksRow.holds Try.pinned (OpenSpec.ofChange journalBreaksWrong)

/-- 'watershedlaw18.JournalLoads': WHATEVER THE INPUT: true; the input reads as it did. -/
def journalLoadsSpec : ChangeSpec := { name := "journalLoads", fn := fun _ => fun
  | [d1, d2] => { results := [.lit (.bool true)], args := [d1, d2] }
  | _ => none }
def journalLoadsRow : OpenClaim := { program := "ytlllocfcljgacaa", sum := "d9254bdbf31629e94933d1b4423f722fd8f024328fa2d70b87d8b6b9e43aff61", func := "watershed/watershedlaw18.JournalLoads", spec := "journalLoads", recurses := true, apart := false }
def JournalLoadsSaid : Prop := journalLoadsRow.holds Try.pinned (OpenSpec.ofChange journalLoadsSpec)

/-- ITS FALSE NEIGHBOUR: 'it returns false'. Refute it at one input. -/
def journalLoadsWrong : ChangeSpec := { name := "journalLoads", fn := fun _ => fun
  | [d1, d2] => { results := [.lit (.bool false)], args := [d1, d2] }
  | _ => none }
def JournalLoadsWrongFalsely : Prop := journalLoadsRow.holds Try.pinned (OpenSpec.ofChange journalLoadsWrong)

/-- 'watershedlaw18.JournalKeeps': WHATEVER THE INPUT: true; the input reads as it did. -/
def journalKeepsSpec : ChangeSpec := { name := "journalKeeps", fn := fun _ => fun
  | [d] => { results := [.lit (.bool true)], args := [d] }
  | _ => none }
def journalKeepsRow : OpenClaim := { program := "ytlllocfcljgacaa", sum := "d9254bdbf31629e94933d1b4423f722fd8f024328fa2d70b87d8b6b9e43aff61", func := "watershed/watershedlaw18.JournalKeeps", spec := "journalKeeps", apart := false }
def JournalKeepsSaid : Prop := journalKeepsRow.holds Try.pinned (OpenSpec.ofChange journalKeepsSpec)

/-- ITS FALSE NEIGHBOUR: 'it returns false'. Refute it at one input. -/
def journalKeepsWrong : ChangeSpec := { name := "journalKeeps", fn := fun _ => fun
  | [d] => { results := [.lit (.bool false)], args := [d] }
  | _ => none }
def JournalKeepsWrongFalsely : Prop := journalKeepsRow.holds Try.pinned (OpenSpec.ofChange journalKeepsWrong)

/-- 'watershedlaw18.JournalPlays': WHATEVER THE INPUT: true; the input reads as it did. -/
def journalPlaysSpec : ChangeSpec := { name := "journalPlays", fn := fun _ => fun
  | [d1, d2] => { results := [.lit (.bool true)], args := [d1, d2] }
  | _ => none }
def journalPlaysRow : OpenClaim := { program := "ytlllocfcljgacaa", sum := "d9254bdbf31629e94933d1b4423f722fd8f024328fa2d70b87d8b6b9e43aff61", func := "watershed/watershedlaw18.JournalPlays", spec := "journalPlays", recurses := true, apart := false }
def JournalPlaysSaid : Prop := journalPlaysRow.holds Try.pinned (OpenSpec.ofChange journalPlaysSpec)

/-- ITS FALSE NEIGHBOUR: 'it returns false'. Refute it at one input. -/
def journalPlaysWrong : ChangeSpec := { name := "journalPlays", fn := fun _ => fun
  | [d1, d2] => { results := [.lit (.bool false)], args := [d1, d2] }
  | _ => none }
def JournalPlaysWrongFalsely : Prop := journalPlaysRow.holds Try.pinned (OpenSpec.ofChange journalPlaysWrong)

/- THE SECOND FORM. 'bulk': how many values and letters a reading holds, each counted each time it is reached (what is shared counts as often as it is met; a slice's spare places count too). A statement '..UptoSaid' is the law's where the arguments, and the package variables that the reading takes, are together of bulk at most 1048576: NARROWER than '..Said'. Prove '..Said' where nothing that the law and all that it calls make is longer than what came in: it says more and counts as full. Else prove '..UptoSaid'. A law counts once. -/
mutual
def uptoBulk {H : Type} : DataW H → Nat
  | .lit (.string bytes) => bytes.length + 1
  | .lit _ => 1
  | .nil => 1
  | .ptr d => uptoBulk d + 1
  | .slice elems spare => uptoBulkAll elems + uptoBulkAll spare + 1
  | .agg parts => uptoBulkAll parts + 1
  | .iface _ d => uptoBulk d + 1
  | .map entries => uptoBulkEntries entries + 1
  | .held _ => 1
def uptoBulkAll {H : Type} : List (DataW H) → Nat
  | [] => 0
  | d :: r => uptoBulk d + uptoBulkAll r
def uptoBulkEntries {H : Type} : List (Lit × DataW H) → Nat
  | [] => 0
  | x :: r => uptoBulkEntry x + uptoBulkEntries r
def uptoBulkEntry {H : Type} : Lit × DataW H → Nat
  | (.string bytes, d) => bytes.length + uptoBulk d + 1
  | (_, d) => uptoBulk d + 1
 end
def uptoSmall : (H : Type) → List (DataW H) → Bool := fun _ ds => decide (uptoBulkAll ds ≤ 1048576)
def OpenSpec.upto (s : _root_.Go.ChangeSpec) : _root_.Go.OpenSpec := { _root_.Go.OpenSpec.ofChange s with cond := some uptoSmall }

/-- 'watershedlaw18.JournalRoom', WHERE WHAT IT READS IS OF BULK AT MOST 1048576: true; the input reads as it did. -/
def journalRoomUptoRow : OpenClaim := { program := "ytlllocfcljgacaa", sum := "d9254bdbf31629e94933d1b4423f722fd8f024328fa2d70b87d8b6b9e43aff61", func := "watershed/watershedlaw18.JournalRoom", spec := "journalRoom", apart := false, narrowed := true }
def JournalRoomUptoSaid : Prop := journalRoomUptoRow.holds Try.pinned (OpenSpec.upto journalRoomSpec)

/-- 'watershedlaw18.JournalBreaks', WHERE WHAT IT READS IS OF BULK AT MOST 1048576: true; the input reads as it did. -/
def journalBreaksUptoRow : OpenClaim := { program := "ytlllocfcljgacaa", sum := "d9254bdbf31629e94933d1b4423f722fd8f024328fa2d70b87d8b6b9e43aff61", func := "watershed/watershedlaw18.JournalBreaks", spec := "journalBreaks", apart := false, narrowed := true }
def JournalBreaksUptoSaid : Prop := journalBreaksUptoRow.holds Try.pinned (OpenSpec.upto journalBreaksSpec)

/-- 'watershedlaw18.JournalLoads', WHERE WHAT IT READS IS OF BULK AT MOST 1048576: true; the input reads as it did. -/
def journalLoadsUptoRow : OpenClaim := { program := "ytlllocfcljgacaa", sum := "d9254bdbf31629e94933d1b4423f722fd8f024328fa2d70b87d8b6b9e43aff61", func := "watershed/watershedlaw18.JournalLoads", spec := "journalLoads", recurses := true, apart := false, narrowed := true }
def JournalLoadsUptoSaid : Prop := journalLoadsUptoRow.holds Try.pinned (OpenSpec.upto journalLoadsSpec)

/-- 'watershedlaw18.JournalKeeps', WHERE WHAT IT READS IS OF BULK AT MOST 1048576: true; the input reads as it did. -/
def journalKeepsUptoRow : OpenClaim := { program := "ytlllocfcljgacaa", sum := "d9254bdbf31629e94933d1b4423f722fd8f024328fa2d70b87d8b6b9e43aff61", func := "watershed/watershedlaw18.JournalKeeps", spec := "journalKeeps", apart := false, narrowed := true }
def JournalKeepsUptoSaid : Prop := journalKeepsUptoRow.holds Try.pinned (OpenSpec.upto journalKeepsSpec)

/-- 'watershedlaw18.JournalPlays', WHERE WHAT IT READS IS OF BULK AT MOST 1048576: true; the input reads as it did. -/
def journalPlaysUptoRow : OpenClaim := { program := "ytlllocfcljgacaa", sum := "d9254bdbf31629e94933d1b4423f722fd8f024328fa2d70b87d8b6b9e43aff61", func := "watershed/watershedlaw18.JournalPlays", spec := "journalPlays", recurses := true, apart := false, narrowed := true }
def JournalPlaysUptoSaid : Prop := journalPlaysUptoRow.holds Try.pinned (OpenSpec.upto journalPlaysSpec)

end Rows
end Go.Proofs.Ytlllocfcljgacaa
