/-
  No cell of these rows narrows 'for every input' (looked for: loops, veiled, ifaces, maps, wideKeys, modest, calm, conditions, laid).
  DERIVED. THE GIVEN ROWS OF THIS SEAT. 5 by the template 'for every input the law returns true; each argument reads behind the call as it read before'; 0 by the template 'total and deterministic' (their statements: YtghkkekebjhjlaaTotals.lean).
  GIVEN WITH THE SEED: the statements are not yours to turn. If you find one false, say at which input.
  Laid BY PROGRAM, IN A SANDBOX (cutbox-rows.mjs): the forced cells as the released guide's own fill.sh prints them over the translation 30ceab54ea6daab9… (all of the seat's roots in one cut). By AI agents, Wed Nov 11 2026. No macro, syntax, notation, axiom, sorry.
-/
import Derived.Test.YtghkkekebjhjlaaChecked
import GoSem.Claim
import GoSem.ClaimJoined
import GoSem.ClaimMapViews
import Derived.JoinedTies
import Derived.KernelRfl
namespace Go.Proofs.Ytghkkekebjhjlaa
/- THE CELL 'sum', in the pinned program and in every row, IS THE sha256 OF THE DUMP (.gsa) THAT YtghkkekebjhjlaaProg.lean LOADS. Nothing in Lean hashes anything: it is a label: what it is worth is what the hold of that sum in a sandbox is worth. -/
noncomputable def Try.pinned : Pinned := { name := "ytghkkekebjhjlaa", sum := "30ceab54ea6daab99e3d92af93ac7a40763116318bc20c4d895aebb56cfd7d9e", checked := Try.checked }
namespace Rows
def none {H : Type} : Left H := { results := [], args := [] }

/-- 'watershedlaw10.TriggerEarly': WHATEVER THE INPUT: true; the input reads as it did. -/
def triggerEarlySpec : ChangeSpec := { name := "triggerEarly", fn := fun _ => fun
  | [d1, d2] => { results := [.lit (.bool true)], args := [d1, d2] }
  | _ => none }
def triggerEarlyRow : OpenClaim := { program := "ytghkkekebjhjlaa", sum := "30ceab54ea6daab99e3d92af93ac7a40763116318bc20c4d895aebb56cfd7d9e", func := "watershed/watershedlaw10.TriggerEarly", spec := "triggerEarly", apart := false }
def TriggerEarlySaid : Prop := triggerEarlyRow.holds Try.pinned (OpenSpec.ofChange triggerEarlySpec)

/-- ITS FALSE NEIGHBOUR: 'it returns false'. Refute it at one input. -/
def triggerEarlyWrong : ChangeSpec := { name := "triggerEarly", fn := fun _ => fun
  | [d1, d2] => { results := [.lit (.bool false)], args := [d1, d2] }
  | _ => none }
def TriggerEarlyWrongFalsely : Prop := triggerEarlyRow.holds Try.pinned (OpenSpec.ofChange triggerEarlyWrong)

/-- 'watershedlaw10.TriggerSums': WHATEVER THE INPUT: true; the input reads as it did. -/
def triggerSumsSpec : ChangeSpec := { name := "triggerSums", fn := fun _ => fun
  | [d1, d2] => { results := [.lit (.bool true)], args := [d1, d2] }
  | _ => none }
def triggerSumsRow : OpenClaim := { program := "ytghkkekebjhjlaa", sum := "30ceab54ea6daab99e3d92af93ac7a40763116318bc20c4d895aebb56cfd7d9e", func := "watershed/watershedlaw10.TriggerSums", spec := "triggerSums", apart := false }
def TriggerSumsSaid : Prop := triggerSumsRow.holds Try.pinned (OpenSpec.ofChange triggerSumsSpec)

/-- ITS FALSE NEIGHBOUR: 'it returns false'. Refute it at one input. -/
def triggerSumsWrong : ChangeSpec := { name := "triggerSums", fn := fun _ => fun
  | [d1, d2] => { results := [.lit (.bool false)], args := [d1, d2] }
  | _ => none }
def TriggerSumsWrongFalsely : Prop := triggerSumsRow.holds Try.pinned (OpenSpec.ofChange triggerSumsWrong)

/-- 'watershedlaw10.TriggerLate': WHATEVER THE INPUT: true; the input reads as it did. -/
def triggerLateSpec : ChangeSpec := { name := "triggerLate", fn := fun _ => fun
  | [d1, d2, d3] => { results := [.lit (.bool true)], args := [d1, d2, d3] }
  | _ => none }
def triggerLateRow : OpenClaim := { program := "ytghkkekebjhjlaa", sum := "30ceab54ea6daab99e3d92af93ac7a40763116318bc20c4d895aebb56cfd7d9e", func := "watershed/watershedlaw10.TriggerLate", spec := "triggerLate", apart := false }
def TriggerLateSaid : Prop := triggerLateRow.holds Try.pinned (OpenSpec.ofChange triggerLateSpec)

/-- ITS FALSE NEIGHBOUR: 'it returns false'. Refute it at one input. -/
def triggerLateWrong : ChangeSpec := { name := "triggerLate", fn := fun _ => fun
  | [d1, d2, d3] => { results := [.lit (.bool false)], args := [d1, d2, d3] }
  | _ => none }
def TriggerLateWrongFalsely : Prop := triggerLateRow.holds Try.pinned (OpenSpec.ofChange triggerLateWrong)

/-- 'watershedlaw10.TriggerPlays': WHATEVER THE INPUT: true; the input reads as it did. -/
def triggerPlaysSpec : ChangeSpec := { name := "triggerPlays", fn := fun _ => fun
  | [d1, d2] => { results := [.lit (.bool true)], args := [d1, d2] }
  | _ => none }
def triggerPlaysRow : OpenClaim := { program := "ytghkkekebjhjlaa", sum := "30ceab54ea6daab99e3d92af93ac7a40763116318bc20c4d895aebb56cfd7d9e", func := "watershed/watershedlaw10.TriggerPlays", spec := "triggerPlays", apart := false }
def TriggerPlaysSaid : Prop := triggerPlaysRow.holds Try.pinned (OpenSpec.ofChange triggerPlaysSpec)

/-- ITS FALSE NEIGHBOUR: 'it returns false'. Refute it at one input. -/
def triggerPlaysWrong : ChangeSpec := { name := "triggerPlays", fn := fun _ => fun
  | [d1, d2] => { results := [.lit (.bool false)], args := [d1, d2] }
  | _ => none }
def TriggerPlaysWrongFalsely : Prop := triggerPlaysRow.holds Try.pinned (OpenSpec.ofChange triggerPlaysWrong)

/-- 'watershedlaw10.TriggerPanes': WHATEVER THE INPUT: true; the input reads as it did. -/
def triggerPanesSpec : ChangeSpec := { name := "triggerPanes", fn := fun _ => fun
  | [d1, d2] => { results := [.lit (.bool true)], args := [d1, d2] }
  | _ => none }
def triggerPanesRow : OpenClaim := { program := "ytghkkekebjhjlaa", sum := "30ceab54ea6daab99e3d92af93ac7a40763116318bc20c4d895aebb56cfd7d9e", func := "watershed/watershedlaw10.TriggerPanes", spec := "triggerPanes", apart := false }
def TriggerPanesSaid : Prop := triggerPanesRow.holds Try.pinned (OpenSpec.ofChange triggerPanesSpec)

/-- ITS FALSE NEIGHBOUR: 'it returns false'. Refute it at one input. -/
def triggerPanesWrong : ChangeSpec := { name := "triggerPanes", fn := fun _ => fun
  | [d1, d2] => { results := [.lit (.bool false)], args := [d1, d2] }
  | _ => none }
def TriggerPanesWrongFalsely : Prop := triggerPanesRow.holds Try.pinned (OpenSpec.ofChange triggerPanesWrong)

/- THE SECOND FORM. 'bulk': how many values and letters a reading holds, each counted each time it is reached (what is shared counts as often as it is met; a slice's spare places count too). A statement '..UptoSaid' is the law's where the arguments, and the package variables that the reading takes, are together of bulk at most 1048576: NARROWER than '..Said'. Prove '..Said' where nothing that the law and all that it calls make is longer than what came in: it says more and counts as full. Else prove '..UptoSaid'. A law counts once. -/
mutual
def uptoBulk {H : Type} : DataW H → Nat
  | .lit (.string bytes) => bytes.length + 1
  | .lit _ => 1
  | .nil => 1
  | .ptr d => uptoBulk d + 1
  | .slice elems spare => uptoBulkAll elems + uptoBulkAll spare + 1
  | .agg parts => uptoBulkAll parts + 1
  | .iface _ d => uptoBulk d + 1
  | .map entries => uptoBulkEntries entries + 1
  | .held _ => 1
def uptoBulkAll {H : Type} : List (DataW H) → Nat
  | [] => 0
  | d :: r => uptoBulk d + uptoBulkAll r
def uptoBulkEntries {H : Type} : List (Lit × DataW H) → Nat
  | [] => 0
  | x :: r => uptoBulkEntry x + uptoBulkEntries r
def uptoBulkEntry {H : Type} : Lit × DataW H → Nat
  | (.string bytes, d) => bytes.length + uptoBulk d + 1
  | (_, d) => uptoBulk d + 1
 end
def uptoSmall : (H : Type) → List (DataW H) → Bool := fun _ ds => decide (uptoBulkAll ds ≤ 1048576)
def OpenSpec.upto (s : _root_.Go.ChangeSpec) : _root_.Go.OpenSpec := { _root_.Go.OpenSpec.ofChange s with cond := some uptoSmall }

/-- 'watershedlaw10.TriggerEarly', WHERE WHAT IT READS IS OF BULK AT MOST 1048576: true; the input reads as it did. -/
def triggerEarlyUptoRow : OpenClaim := { program := "ytghkkekebjhjlaa", sum := "30ceab54ea6daab99e3d92af93ac7a40763116318bc20c4d895aebb56cfd7d9e", func := "watershed/watershedlaw10.TriggerEarly", spec := "triggerEarly", apart := false, narrowed := true }
def TriggerEarlyUptoSaid : Prop := triggerEarlyUptoRow.holds Try.pinned (OpenSpec.upto triggerEarlySpec)

/-- 'watershedlaw10.TriggerSums', WHERE WHAT IT READS IS OF BULK AT MOST 1048576: true; the input reads as it did. -/
def triggerSumsUptoRow : OpenClaim := { program := "ytghkkekebjhjlaa", sum := "30ceab54ea6daab99e3d92af93ac7a40763116318bc20c4d895aebb56cfd7d9e", func := "watershed/watershedlaw10.TriggerSums", spec := "triggerSums", apart := false, narrowed := true }
def TriggerSumsUptoSaid : Prop := triggerSumsUptoRow.holds Try.pinned (OpenSpec.upto triggerSumsSpec)

/-- 'watershedlaw10.TriggerLate', WHERE WHAT IT READS IS OF BULK AT MOST 1048576: true; the input reads as it did. -/
def triggerLateUptoRow : OpenClaim := { program := "ytghkkekebjhjlaa", sum := "30ceab54ea6daab99e3d92af93ac7a40763116318bc20c4d895aebb56cfd7d9e", func := "watershed/watershedlaw10.TriggerLate", spec := "triggerLate", apart := false, narrowed := true }
def TriggerLateUptoSaid : Prop := triggerLateUptoRow.holds Try.pinned (OpenSpec.upto triggerLateSpec)

/-- 'watershedlaw10.TriggerPlays', WHERE WHAT IT READS IS OF BULK AT MOST 1048576: true; the input reads as it did. -/
def triggerPlaysUptoRow : OpenClaim := { program := "ytghkkekebjhjlaa", sum := "30ceab54ea6daab99e3d92af93ac7a40763116318bc20c4d895aebb56cfd7d9e", func := "watershed/watershedlaw10.TriggerPlays", spec := "triggerPlays", apart := false, narrowed := true }
def TriggerPlaysUptoSaid : Prop := triggerPlaysUptoRow.holds Try.pinned (OpenSpec.upto triggerPlaysSpec)

/-- 'watershedlaw10.TriggerPanes', WHERE WHAT IT READS IS OF BULK AT MOST 1048576: true; the input reads as it did. -/
def triggerPanesUptoRow : OpenClaim := { program := "ytghkkekebjhjlaa", sum := "30ceab54ea6daab99e3d92af93ac7a40763116318bc20c4d895aebb56cfd7d9e", func := "watershed/watershedlaw10.TriggerPanes", spec := "triggerPanes", apart := false, narrowed := true }
def TriggerPanesUptoSaid : Prop := triggerPanesUptoRow.holds Try.pinned (OpenSpec.upto triggerPanesSpec)

end Rows
end Go.Proofs.Ytghkkekebjhjlaa
