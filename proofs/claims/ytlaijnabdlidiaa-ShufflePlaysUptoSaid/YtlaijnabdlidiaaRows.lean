/-
  No cell of these rows narrows 'for every input' (looked for: loops, veiled, ifaces, maps, wideKeys, modest, calm, conditions, laid).
  DERIVED. THE GIVEN ROWS OF THIS SEAT. 4 by the template 'for every input the law returns true; each argument reads behind the call as it read before'; 0 by the template 'total and deterministic' (their statements: YtlaijnabdlidiaaTotals.lean).
  GIVEN WITH THE SEED: the statements are not yours to turn. If you find one false, say at which input.
  Laid BY PROGRAM, IN A SANDBOX (cutbox-rows.mjs): the forced cells as the released guide's own fill.sh prints them over the translation 3c752e8e60e5c244… (all of the seat's roots in one cut). By AI agents, Wed Nov 11 2026. No macro, syntax, notation, axiom, sorry.
-/
import Derived.Test.YtlaijnabdlidiaaChecked
import GoSem.Claim
import GoSem.ClaimJoined
import GoSem.ClaimMapViews
import Derived.JoinedTies
import Derived.KernelRfl
namespace Go.Proofs.Ytlaijnabdlidiaa
/- THE CELL 'sum', in the pinned program and in every row, IS THE sha256 OF THE DUMP (.gsa) THAT YtlaijnabdlidiaaProg.lean LOADS. Nothing in Lean hashes anything: it is a label: what it is worth is what the hold of that sum in a sandbox is worth. -/
noncomputable def Try.pinned : Pinned := { name := "ytlaijnabdlidiaa", sum := "3c752e8e60e5c2446a0974ad3c3a7dc39cd27aed37fd278d2f267f0d355b5e1b", checked := Try.checked }
namespace Rows
def none {H : Type} : Left H := { results := [], args := [] }

/-- 'watershedlaw17.ShuffleAll': WHATEVER THE INPUT: true; the input reads as it did. -/
def shuffleAllSpec : ChangeSpec := { name := "shuffleAll", fn := fun _ => fun
  | [d] => { results := [.lit (.bool true)], args := [d] }
  | _ => none }
def shuffleAllRow : OpenClaim := { program := "ytlaijnabdlidiaa", sum := "3c752e8e60e5c2446a0974ad3c3a7dc39cd27aed37fd278d2f267f0d355b5e1b", func := "watershed/watershedlaw17.ShuffleAll", spec := "shuffleAll", apart := false }
def ShuffleAllSaid : Prop := shuffleAllRow.holds Try.pinned (OpenSpec.ofChange shuffleAllSpec)

/-- ITS FALSE NEIGHBOUR: 'it returns false'. Refute it at one input. -/
def shuffleAllWrong : ChangeSpec := { name := "shuffleAll", fn := fun _ => fun
  | [d] => { results := [.lit (.bool false)], args := [d] }
  | _ => none }
def ShuffleAllWrongFalsely : Prop := shuffleAllRow.holds Try.pinned (OpenSpec.ofChange shuffleAllWrong)

/-- 'watershedlaw17.ShuffleOldest': WHATEVER THE INPUT: true; the input reads as it did. -/
def shuffleOldestSpec : ChangeSpec := { name := "shuffleOldest", fn := fun _ => fun
  | [d1, d2] => { results := [.lit (.bool true)], args := [d1, d2] }
  | _ => none }
def shuffleOldestRow : OpenClaim := { program := "ytlaijnabdlidiaa", sum := "3c752e8e60e5c2446a0974ad3c3a7dc39cd27aed37fd278d2f267f0d355b5e1b", func := "watershed/watershedlaw17.ShuffleOldest", spec := "shuffleOldest", unfollowed := true, recurses := true, apart := false }
def ShuffleOldestSaid : Prop := shuffleOldestRow.holds Try.pinned (OpenSpec.ofChange shuffleOldestSpec)

/-- ITS FALSE NEIGHBOUR: 'it returns false'. Refute it at one input. -/
def shuffleOldestWrong : ChangeSpec := { name := "shuffleOldest", fn := fun _ => fun
  | [d1, d2] => { results := [.lit (.bool false)], args := [d1, d2] }
  | _ => none }
def ShuffleOldestWrongFalsely : Prop := shuffleOldestRow.holds Try.pinned (OpenSpec.ofChange shuffleOldestWrong)

/-- 'watershedlaw17.ShuffleOnce': WHATEVER THE INPUT: true; the input reads as it did. -/
def shuffleOnceSpec : ChangeSpec := { name := "shuffleOnce", fn := fun _ => fun
  | [d1, d2, d3] => { results := [.lit (.bool true)], args := [d1, d2, d3] }
  | _ => none }
def shuffleOnceRow : OpenClaim := { program := "ytlaijnabdlidiaa", sum := "3c752e8e60e5c2446a0974ad3c3a7dc39cd27aed37fd278d2f267f0d355b5e1b", func := "watershed/watershedlaw17.ShuffleOnce", spec := "shuffleOnce", unfollowed := true, recurses := true, apart := false }
def ShuffleOnceSaid : Prop := shuffleOnceRow.holds Try.pinned (OpenSpec.ofChange shuffleOnceSpec)

/-- ITS FALSE NEIGHBOUR: 'it returns false'. Refute it at one input. -/
def shuffleOnceWrong : ChangeSpec := { name := "shuffleOnce", fn := fun _ => fun
  | [d1, d2, d3] => { results := [.lit (.bool false)], args := [d1, d2, d3] }
  | _ => none }
def ShuffleOnceWrongFalsely : Prop := shuffleOnceRow.holds Try.pinned (OpenSpec.ofChange shuffleOnceWrong)

/-- 'watershedlaw17.ShufflePlays': WHATEVER THE INPUT: true; the input reads as it did. -/
def shufflePlaysSpec : ChangeSpec := { name := "shufflePlays", fn := fun _ => fun
  | [d] => { results := [.lit (.bool true)], args := [d] }
  | _ => none }
def shufflePlaysRow : OpenClaim := { program := "ytlaijnabdlidiaa", sum := "3c752e8e60e5c2446a0974ad3c3a7dc39cd27aed37fd278d2f267f0d355b5e1b", func := "watershed/watershedlaw17.ShufflePlays", spec := "shufflePlays", unfollowed := true, recurses := true, apart := false }
def ShufflePlaysSaid : Prop := shufflePlaysRow.holds Try.pinned (OpenSpec.ofChange shufflePlaysSpec)

/-- ITS FALSE NEIGHBOUR: 'it returns false'. Refute it at one input. -/
def shufflePlaysWrong : ChangeSpec := { name := "shufflePlays", fn := fun _ => fun
  | [d] => { results := [.lit (.bool false)], args := [d] }
  | _ => none }
def ShufflePlaysWrongFalsely : Prop := shufflePlaysRow.holds Try.pinned (OpenSpec.ofChange shufflePlaysWrong)

/- THE SECOND FORM. 'bulk': how many values and letters a reading holds, each counted each time it is reached (what is shared counts as often as it is met; a slice's spare places count too). A statement '..UptoSaid' is the law's where the arguments, and the package variables that the reading takes, are together of bulk at most 1048576: NARROWER than '..Said'. Prove '..Said' where nothing that the law and all that it calls make is longer than what came in: it says more and counts as full. Else prove '..UptoSaid'. A law counts once. -/
mutual
def uptoBulk {H : Type} : DataW H → Nat
  | .lit (.string bytes) => bytes.length + 1
  | .lit _ => 1
  | .nil => 1
  | .ptr d => uptoBulk d + 1
  | .slice elems spare => uptoBulkAll elems + uptoBulkAll spare + 1
  | .agg parts => uptoBulkAll parts + 1
  | .iface _ d => uptoBulk d + 1
  | .map entries => uptoBulkEntries entries + 1
  | .held _ => 1
def uptoBulkAll {H : Type} : List (DataW H) → Nat
  | [] => 0
  | d :: r => uptoBulk d + uptoBulkAll r
def uptoBulkEntries {H : Type} : List (Lit × DataW H) → Nat
  | [] => 0
  | x :: r => uptoBulkEntry x + uptoBulkEntries r
def uptoBulkEntry {H : Type} : Lit × DataW H → Nat
  | (.string bytes, d) => bytes.length + uptoBulk d + 1
  | (_, d) => uptoBulk d + 1
 end
def uptoSmall : (H : Type) → List (DataW H) → Bool := fun _ ds => decide (uptoBulkAll ds ≤ 1048576)
def OpenSpec.upto (s : _root_.Go.ChangeSpec) : _root_.Go.OpenSpec := { _root_.Go.OpenSpec.ofChange s with cond := some uptoSmall }

/-- 'watershedlaw17.ShuffleAll', WHERE WHAT IT READS IS OF BULK AT MOST 1048576: true; the input reads as it did. -/
def shuffleAllUptoRow : OpenClaim := { program := "ytlaijnabdlidiaa", sum := "3c752e8e60e5c2446a0974ad3c3a7dc39cd27aed37fd278d2f267f0d355b5e1b", func := "watershed/watershedlaw17.ShuffleAll", spec := "shuffleAll", apart := false, narrowed := true }
def ShuffleAllUptoSaid : Prop := shuffleAllUptoRow.holds Try.pinned (OpenSpec.upto shuffleAllSpec)

/-- 'watershedlaw17.ShuffleOldest', WHERE WHAT IT READS IS OF BULK AT MOST 1048576: true; the input reads as it did. -/
def shuffleOldestUptoRow : OpenClaim := { program := "ytlaijnabdlidiaa", sum := "3c752e8e60e5c2446a0974ad3c3a7dc39cd27aed37fd278d2f267f0d355b5e1b", func := "watershed/watershedlaw17.ShuffleOldest", spec := "shuffleOldest", unfollowed := true, recurses := true, apart := false, narrowed := true }
def ShuffleOldestUptoSaid : Prop := shuffleOldestUptoRow.holds Try.pinned (OpenSpec.upto shuffleOldestSpec)

/-- 'watershedlaw17.ShuffleOnce', WHERE WHAT IT READS IS OF BULK AT MOST 1048576: true; the input reads as it did. -/
def shuffleOnceUptoRow : OpenClaim := { program := "ytlaijnabdlidiaa", sum := "3c752e8e60e5c2446a0974ad3c3a7dc39cd27aed37fd278d2f267f0d355b5e1b", func := "watershed/watershedlaw17.ShuffleOnce", spec := "shuffleOnce", unfollowed := true, recurses := true, apart := false, narrowed := true }
def ShuffleOnceUptoSaid : Prop := shuffleOnceUptoRow.holds Try.pinned (OpenSpec.upto shuffleOnceSpec)

/-- 'watershedlaw17.ShufflePlays', WHERE WHAT IT READS IS OF BULK AT MOST 1048576: true; the input reads as it did. -/
def shufflePlaysUptoRow : OpenClaim := { program := "ytlaijnabdlidiaa", sum := "3c752e8e60e5c2446a0974ad3c3a7dc39cd27aed37fd278d2f267f0d355b5e1b", func := "watershed/watershedlaw17.ShufflePlays", spec := "shufflePlays", unfollowed := true, recurses := true, apart := false, narrowed := true }
def ShufflePlaysUptoSaid : Prop := shufflePlaysUptoRow.holds Try.pinned (OpenSpec.upto shufflePlaysSpec)

end Rows
end Go.Proofs.Ytlaijnabdlidiaa
