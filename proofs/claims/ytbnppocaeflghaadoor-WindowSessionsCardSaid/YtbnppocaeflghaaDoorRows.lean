/-
  NARROWER THAN 'FOR EVERY INPUT', by the rows' own cells (each row's printed sentence says how): WindowSessions: laid · WindowMerges: laid · WindowAssigns: laid · WindowTexts: laid · WindowTiles: laid · WindowSlides: laid · WindowSides: laid · WindowHas: laid · WindowOne: laid.
  DERIVED. THE GIVEN ROWS OF THIS SEAT. 9 by the template 'for every input the law returns true; each argument reads behind the call as it read before'; 0 by the template 'total and deterministic' (their statements: YtbnppocaeflghaaDoorTotals.lean).
  GIVEN WITH THE SEED: the statements are not yours to turn. If you find one false, say at which input.
  Laid BY PROGRAM, IN A SANDBOX (cutbox-rows.mjs): the forced cells as the released guide's own fill.sh prints them over the translation 83e1536cb72b92c4… (all of the seat's roots in one cut). By AI agents, Wed Nov 11 2026. No macro, syntax, notation, axiom, sorry.
-/
import Derived.Test.YtbnppocaeflghaaDoorChecked
import GoSem.Claim
import GoSem.ClaimJoined
import GoSem.ClaimMapViews
import Derived.JoinedTies
import Derived.KernelRfl
namespace Go.Proofs.YtbnppocaeflghaaDoor
/- THE CELL 'sum', in the pinned program and in every row, IS THE sha256 OF THE DUMP (.gsa) THAT YtbnppocaeflghaaDoorProg.lean LOADS. Nothing in Lean hashes anything: it is a label: what it is worth is what the hold of that sum in a sandbox is worth. -/
noncomputable def Tryd.pinned : Pinned := { name := "ytbnppocaeflghaadoor", sum := "83e1536cb72b92c4b21451d37391308d8388e934989cecd9ff6cfafaac0e1d8f", checked := Tryd.checked }
namespace Rows
def none {H : Type} : Left H := { results := [], args := [] }

/- WHAT THE LISTED PACKAGE-LEVEL VARIABLES READ AS WHEN THE CALL BEGINS. Each datum BY PROGRAM (the guide's laid-datum.mjs) off the statement by which the dump's own 'gosem.cut.vars' lays the variable. In a bare row this is a premise. The card (YtbnppocaeflghaaDoorCards.lean) ties it to the program's text. -/
def laid_math_bits_deBruijn32tab {H : Type} : DataW H := .agg [.lit (.int .u8 0), .lit (.int .u8 1), .lit (.int .u8 28), .lit (.int .u8 2), .lit (.int .u8 29), .lit (.int .u8 14), .lit (.int .u8 24), .lit (.int .u8 3), .lit (.int .u8 30), .lit (.int .u8 22), .lit (.int .u8 20), .lit (.int .u8 15), .lit (.int .u8 25), .lit (.int .u8 17), .lit (.int .u8 4), .lit (.int .u8 8), .lit (.int .u8 31), .lit (.int .u8 27), .lit (.int .u8 13), .lit (.int .u8 23), .lit (.int .u8 21), .lit (.int .u8 19), .lit (.int .u8 16), .lit (.int .u8 7), .lit (.int .u8 26), .lit (.int .u8 12), .lit (.int .u8 18), .lit (.int .u8 6), .lit (.int .u8 11), .lit (.int .u8 5), .lit (.int .u8 10), .lit (.int .u8 9)]
def laid_math_bits_deBruijn64tab {H : Type} : DataW H := .agg [.lit (.int .u8 0), .lit (.int .u8 1), .lit (.int .u8 56), .lit (.int .u8 2), .lit (.int .u8 57), .lit (.int .u8 49), .lit (.int .u8 28), .lit (.int .u8 3), .lit (.int .u8 61), .lit (.int .u8 58), .lit (.int .u8 42), .lit (.int .u8 50), .lit (.int .u8 38), .lit (.int .u8 29), .lit (.int .u8 17), .lit (.int .u8 4), .lit (.int .u8 62), .lit (.int .u8 47), .lit (.int .u8 59), .lit (.int .u8 36), .lit (.int .u8 45), .lit (.int .u8 43), .lit (.int .u8 51), .lit (.int .u8 22), .lit (.int .u8 53), .lit (.int .u8 39), .lit (.int .u8 33), .lit (.int .u8 30), .lit (.int .u8 24), .lit (.int .u8 18), .lit (.int .u8 12), .lit (.int .u8 5), .lit (.int .u8 63), .lit (.int .u8 55), .lit (.int .u8 48), .lit (.int .u8 27), .lit (.int .u8 60), .lit (.int .u8 41), .lit (.int .u8 37), .lit (.int .u8 16), .lit (.int .u8 46), .lit (.int .u8 35), .lit (.int .u8 44), .lit (.int .u8 21), .lit (.int .u8 52), .lit (.int .u8 32), .lit (.int .u8 23), .lit (.int .u8 11), .lit (.int .u8 54), .lit (.int .u8 26), .lit (.int .u8 40), .lit (.int .u8 15), .lit (.int .u8 34), .lit (.int .u8 20), .lit (.int .u8 31), .lit (.int .u8 10), .lit (.int .u8 25), .lit (.int .u8 14), .lit (.int .u8 19), .lit (.int .u8 9), .lit (.int .u8 13), .lit (.int .u8 8), .lit (.int .u8 7), .lit (.int .u8 6)]
def laid_internal_strconv_uint64pow10 {H : Type} : DataW H := .agg [.lit (.int .u64 1), .lit (.int .u64 10), .lit (.int .u64 100), .lit (.int .u64 1000), .lit (.int .u64 10000), .lit (.int .u64 100000), .lit (.int .u64 1000000), .lit (.int .u64 10000000), .lit (.int .u64 100000000), .lit (.int .u64 1000000000), .lit (.int .u64 10000000000), .lit (.int .u64 100000000000), .lit (.int .u64 1000000000000), .lit (.int .u64 10000000000000), .lit (.int .u64 100000000000000), .lit (.int .u64 1000000000000000), .lit (.int .u64 10000000000000000), .lit (.int .u64 100000000000000000), .lit (.int .u64 1000000000000000000), .lit (.int .u64 10000000000000000000)]

/-- 'watershedlaw07.WindowSessions': WHATEVER THE INPUT: true; the input reads as it did. -/
def windowSessionsSpec : ChangeSpec := { name := "windowSessions", fn := fun _ => fun
  | [d1, d2] => { results := [.lit (.bool true)], args := [d1, d2] }
  | _ => none }
def windowSessionsRow : OpenClaim := { program := "ytbnppocaeflghaadoor", sum := "83e1536cb72b92c4b21451d37391308d8388e934989cecd9ff6cfafaac0e1d8f", func := "watershed/watershedlaw07.WindowSessions", spec := "windowSessions", unfollowed := true, recurses := true, named := ["internal/strconv.uint64pow10", "math/bits.deBruijn32tab", "math/bits.deBruijn64tab"], apart := false, laid := [("math/bits.deBruijn32tab", laid_math_bits_deBruijn32tab), ("math/bits.deBruijn64tab", laid_math_bits_deBruijn64tab), ("internal/strconv.uint64pow10", laid_internal_strconv_uint64pow10)] }
def WindowSessionsSaid : Prop := windowSessionsRow.holds Tryd.pinned (OpenSpec.ofChange windowSessionsSpec)

/-- ITS FALSE NEIGHBOUR: 'it returns false'. Refute it at one input. -/
def windowSessionsWrong : ChangeSpec := { name := "windowSessions", fn := fun _ => fun
  | [d1, d2] => { results := [.lit (.bool false)], args := [d1, d2] }
  | _ => none }
def WindowSessionsWrongFalsely : Prop := windowSessionsRow.holds Tryd.pinned (OpenSpec.ofChange windowSessionsWrong)

/-- 'watershedlaw07.WindowMerges': WHATEVER THE INPUT: true; the input reads as it did. -/
def windowMergesSpec : ChangeSpec := { name := "windowMerges", fn := fun _ => fun
  | [d] => { results := [.lit (.bool true)], args := [d] }
  | _ => none }
def windowMergesRow : OpenClaim := { program := "ytbnppocaeflghaadoor", sum := "83e1536cb72b92c4b21451d37391308d8388e934989cecd9ff6cfafaac0e1d8f", func := "watershed/watershedlaw07.WindowMerges", spec := "windowMerges", unfollowed := true, recurses := true, named := ["internal/strconv.uint64pow10", "math/bits.deBruijn32tab", "math/bits.deBruijn64tab"], apart := false, laid := [("math/bits.deBruijn32tab", laid_math_bits_deBruijn32tab), ("math/bits.deBruijn64tab", laid_math_bits_deBruijn64tab), ("internal/strconv.uint64pow10", laid_internal_strconv_uint64pow10)] }
def WindowMergesSaid : Prop := windowMergesRow.holds Tryd.pinned (OpenSpec.ofChange windowMergesSpec)

/-- ITS FALSE NEIGHBOUR: 'it returns false'. Refute it at one input. -/
def windowMergesWrong : ChangeSpec := { name := "windowMerges", fn := fun _ => fun
  | [d] => { results := [.lit (.bool false)], args := [d] }
  | _ => none }
def WindowMergesWrongFalsely : Prop := windowMergesRow.holds Tryd.pinned (OpenSpec.ofChange windowMergesWrong)

/-- 'watershedlaw07.WindowAssigns': WHATEVER THE INPUT: true; the input reads as it did. -/
def windowAssignsSpec : ChangeSpec := { name := "windowAssigns", fn := fun _ => fun
  | [d1, d2] => { results := [.lit (.bool true)], args := [d1, d2] }
  | _ => none }
def windowAssignsRow : OpenClaim := { program := "ytbnppocaeflghaadoor", sum := "83e1536cb72b92c4b21451d37391308d8388e934989cecd9ff6cfafaac0e1d8f", func := "watershed/watershedlaw07.WindowAssigns", spec := "windowAssigns", named := ["internal/strconv.uint64pow10", "math/bits.deBruijn32tab", "math/bits.deBruijn64tab"], apart := false, laid := [("math/bits.deBruijn32tab", laid_math_bits_deBruijn32tab), ("math/bits.deBruijn64tab", laid_math_bits_deBruijn64tab), ("internal/strconv.uint64pow10", laid_internal_strconv_uint64pow10)] }
def WindowAssignsSaid : Prop := windowAssignsRow.holds Tryd.pinned (OpenSpec.ofChange windowAssignsSpec)

/-- ITS FALSE NEIGHBOUR: 'it returns false'. Refute it at one input. -/
def windowAssignsWrong : ChangeSpec := { name := "windowAssigns", fn := fun _ => fun
  | [d1, d2] => { results := [.lit (.bool false)], args := [d1, d2] }
  | _ => none }
def WindowAssignsWrongFalsely : Prop := windowAssignsRow.holds Tryd.pinned (OpenSpec.ofChange windowAssignsWrong)

/-- 'watershedlaw07.WindowTexts': WHATEVER THE INPUT: true; the input reads as it did. -/
def windowTextsSpec : ChangeSpec := { name := "windowTexts", fn := fun _ => fun
  | [d1, d2] => { results := [.lit (.bool true)], args := [d1, d2] }
  | _ => none }
def windowTextsRow : OpenClaim := { program := "ytbnppocaeflghaadoor", sum := "83e1536cb72b92c4b21451d37391308d8388e934989cecd9ff6cfafaac0e1d8f", func := "watershed/watershedlaw07.WindowTexts", spec := "windowTexts", named := ["internal/strconv.uint64pow10", "math/bits.deBruijn32tab", "math/bits.deBruijn64tab"], apart := false, laid := [("math/bits.deBruijn32tab", laid_math_bits_deBruijn32tab), ("math/bits.deBruijn64tab", laid_math_bits_deBruijn64tab), ("internal/strconv.uint64pow10", laid_internal_strconv_uint64pow10)] }
def WindowTextsSaid : Prop := windowTextsRow.holds Tryd.pinned (OpenSpec.ofChange windowTextsSpec)

/-- ITS FALSE NEIGHBOUR: 'it returns false'. Refute it at one input. -/
def windowTextsWrong : ChangeSpec := { name := "windowTexts", fn := fun _ => fun
  | [d1, d2] => { results := [.lit (.bool false)], args := [d1, d2] }
  | _ => none }
def WindowTextsWrongFalsely : Prop := windowTextsRow.holds Tryd.pinned (OpenSpec.ofChange windowTextsWrong)

/-- 'watershedlaw07.WindowTiles': WHATEVER THE INPUT: true; the input reads as it did. -/
def windowTilesSpec : ChangeSpec := { name := "windowTiles", fn := fun _ => fun
  | [d] => { results := [.lit (.bool true)], args := [d] }
  | _ => none }
def windowTilesRow : OpenClaim := { program := "ytbnppocaeflghaadoor", sum := "83e1536cb72b92c4b21451d37391308d8388e934989cecd9ff6cfafaac0e1d8f", func := "watershed/watershedlaw07.WindowTiles", spec := "windowTiles", named := ["internal/strconv.uint64pow10", "math/bits.deBruijn32tab", "math/bits.deBruijn64tab"], apart := false, laid := [("math/bits.deBruijn32tab", laid_math_bits_deBruijn32tab), ("math/bits.deBruijn64tab", laid_math_bits_deBruijn64tab), ("internal/strconv.uint64pow10", laid_internal_strconv_uint64pow10)] }
def WindowTilesSaid : Prop := windowTilesRow.holds Tryd.pinned (OpenSpec.ofChange windowTilesSpec)

/-- ITS FALSE NEIGHBOUR: 'it returns false'. Refute it at one input. -/
def windowTilesWrong : ChangeSpec := { name := "windowTiles", fn := fun _ => fun
  | [d] => { results := [.lit (.bool false)], args := [d] }
  | _ => none }
def WindowTilesWrongFalsely : Prop := windowTilesRow.holds Tryd.pinned (OpenSpec.ofChange windowTilesWrong)

/-- 'watershedlaw07.WindowSlides': WHATEVER THE INPUT: true; the input reads as it did. -/
def windowSlidesSpec : ChangeSpec := { name := "windowSlides", fn := fun _ => fun
  | [d1, d2] => { results := [.lit (.bool true)], args := [d1, d2] }
  | _ => none }
def windowSlidesRow : OpenClaim := { program := "ytbnppocaeflghaadoor", sum := "83e1536cb72b92c4b21451d37391308d8388e934989cecd9ff6cfafaac0e1d8f", func := "watershed/watershedlaw07.WindowSlides", spec := "windowSlides", named := ["internal/strconv.uint64pow10", "math/bits.deBruijn32tab", "math/bits.deBruijn64tab"], apart := false, laid := [("math/bits.deBruijn32tab", laid_math_bits_deBruijn32tab), ("math/bits.deBruijn64tab", laid_math_bits_deBruijn64tab), ("internal/strconv.uint64pow10", laid_internal_strconv_uint64pow10)] }
def WindowSlidesSaid : Prop := windowSlidesRow.holds Tryd.pinned (OpenSpec.ofChange windowSlidesSpec)

/-- ITS FALSE NEIGHBOUR: 'it returns false'. Refute it at one input. -/
def windowSlidesWrong : ChangeSpec := { name := "windowSlides", fn := fun _ => fun
  | [d1, d2] => { results := [.lit (.bool false)], args := [d1, d2] }
  | _ => none }
def WindowSlidesWrongFalsely : Prop := windowSlidesRow.holds Tryd.pinned (OpenSpec.ofChange windowSlidesWrong)

/-- 'watershedlaw07.WindowSides': WHATEVER THE INPUT: true; the input reads as it did. -/
def windowSidesSpec : ChangeSpec := { name := "windowSides", fn := fun _ => fun
  | [d1, d2] => { results := [.lit (.bool true)], args := [d1, d2] }
  | _ => none }
def windowSidesRow : OpenClaim := { program := "ytbnppocaeflghaadoor", sum := "83e1536cb72b92c4b21451d37391308d8388e934989cecd9ff6cfafaac0e1d8f", func := "watershed/watershedlaw07.WindowSides", spec := "windowSides", named := ["internal/strconv.uint64pow10", "math/bits.deBruijn32tab", "math/bits.deBruijn64tab"], apart := false, laid := [("math/bits.deBruijn32tab", laid_math_bits_deBruijn32tab), ("math/bits.deBruijn64tab", laid_math_bits_deBruijn64tab), ("internal/strconv.uint64pow10", laid_internal_strconv_uint64pow10)] }
def WindowSidesSaid : Prop := windowSidesRow.holds Tryd.pinned (OpenSpec.ofChange windowSidesSpec)

/-- ITS FALSE NEIGHBOUR: 'it returns false'. Refute it at one input. -/
def windowSidesWrong : ChangeSpec := { name := "windowSides", fn := fun _ => fun
  | [d1, d2] => { results := [.lit (.bool false)], args := [d1, d2] }
  | _ => none }
def WindowSidesWrongFalsely : Prop := windowSidesRow.holds Tryd.pinned (OpenSpec.ofChange windowSidesWrong)

/-- 'watershedlaw07.WindowHas': WHATEVER THE INPUT: true; the input reads as it did. -/
def windowHasSpec : ChangeSpec := { name := "windowHas", fn := fun _ => fun
  | [d1, d2, d3] => { results := [.lit (.bool true)], args := [d1, d2, d3] }
  | _ => none }
def windowHasRow : OpenClaim := { program := "ytbnppocaeflghaadoor", sum := "83e1536cb72b92c4b21451d37391308d8388e934989cecd9ff6cfafaac0e1d8f", func := "watershed/watershedlaw07.WindowHas", spec := "windowHas", named := ["internal/strconv.uint64pow10", "math/bits.deBruijn32tab", "math/bits.deBruijn64tab"], apart := false, laid := [("math/bits.deBruijn32tab", laid_math_bits_deBruijn32tab), ("math/bits.deBruijn64tab", laid_math_bits_deBruijn64tab), ("internal/strconv.uint64pow10", laid_internal_strconv_uint64pow10)] }
def WindowHasSaid : Prop := windowHasRow.holds Tryd.pinned (OpenSpec.ofChange windowHasSpec)

/-- ITS FALSE NEIGHBOUR: 'it returns false'. Refute it at one input. -/
def windowHasWrong : ChangeSpec := { name := "windowHas", fn := fun _ => fun
  | [d1, d2, d3] => { results := [.lit (.bool false)], args := [d1, d2, d3] }
  | _ => none }
def WindowHasWrongFalsely : Prop := windowHasRow.holds Tryd.pinned (OpenSpec.ofChange windowHasWrong)

/-- 'watershedlaw07.WindowOne': WHATEVER THE INPUT: true; the input reads as it did. -/
def windowOneSpec : ChangeSpec := { name := "windowOne", fn := fun _ => fun
  | [d1, d2] => { results := [.lit (.bool true)], args := [d1, d2] }
  | _ => none }
def windowOneRow : OpenClaim := { program := "ytbnppocaeflghaadoor", sum := "83e1536cb72b92c4b21451d37391308d8388e934989cecd9ff6cfafaac0e1d8f", func := "watershed/watershedlaw07.WindowOne", spec := "windowOne", unfollowed := true, recurses := true, named := ["internal/strconv.uint64pow10", "math/bits.deBruijn32tab", "math/bits.deBruijn64tab"], apart := false, laid := [("math/bits.deBruijn32tab", laid_math_bits_deBruijn32tab), ("math/bits.deBruijn64tab", laid_math_bits_deBruijn64tab), ("internal/strconv.uint64pow10", laid_internal_strconv_uint64pow10)] }
def WindowOneSaid : Prop := windowOneRow.holds Tryd.pinned (OpenSpec.ofChange windowOneSpec)

/-- ITS FALSE NEIGHBOUR: 'it returns false'. Refute it at one input. -/
def windowOneWrong : ChangeSpec := { name := "windowOne", fn := fun _ => fun
  | [d1, d2] => { results := [.lit (.bool false)], args := [d1, d2] }
  | _ => none }
def WindowOneWrongFalsely : Prop := windowOneRow.holds Tryd.pinned (OpenSpec.ofChange windowOneWrong)

/- THE SECOND FORM. 'bulk': how many values and letters a reading holds, each counted each time it is reached (what is shared counts as often as it is met; a slice's spare places count too). A statement '..UptoSaid' is the law's where the arguments, and the package variables that the reading takes, are together of bulk at most 1048576: NARROWER than '..Said'. Prove '..Said' where nothing that the law and all that it calls make is longer than what came in: it says more and counts as full. Else prove '..UptoSaid'. A law counts once. -/
mutual
def uptoBulk {H : Type} : DataW H → Nat
  | .lit (.string bytes) => bytes.length + 1
  | .lit _ => 1
  | .nil => 1
  | .ptr d => uptoBulk d + 1
  | .slice elems spare => uptoBulkAll elems + uptoBulkAll spare + 1
  | .agg parts => uptoBulkAll parts + 1
  | .iface _ d => uptoBulk d + 1
  | .map entries => uptoBulkEntries entries + 1
  | .held _ => 1
def uptoBulkAll {H : Type} : List (DataW H) → Nat
  | [] => 0
  | d :: r => uptoBulk d + uptoBulkAll r
def uptoBulkEntries {H : Type} : List (Lit × DataW H) → Nat
  | [] => 0
  | x :: r => uptoBulkEntry x + uptoBulkEntries r
def uptoBulkEntry {H : Type} : Lit × DataW H → Nat
  | (.string bytes, d) => bytes.length + uptoBulk d + 1
  | (_, d) => uptoBulk d + 1
 end
def uptoSmall : (H : Type) → List (DataW H) → Bool := fun _ ds => decide (uptoBulkAll ds ≤ 1048576)
def OpenSpec.upto (s : _root_.Go.ChangeSpec) : _root_.Go.OpenSpec := { _root_.Go.OpenSpec.ofChange s with cond := some uptoSmall }

/-- 'watershedlaw07.WindowSessions', WHERE WHAT IT READS IS OF BULK AT MOST 1048576: true; the input reads as it did. -/
def windowSessionsUptoRow : OpenClaim := { program := "ytbnppocaeflghaadoor", sum := "83e1536cb72b92c4b21451d37391308d8388e934989cecd9ff6cfafaac0e1d8f", func := "watershed/watershedlaw07.WindowSessions", spec := "windowSessions", unfollowed := true, recurses := true, named := ["internal/strconv.uint64pow10", "math/bits.deBruijn32tab", "math/bits.deBruijn64tab"], apart := false, laid := [("math/bits.deBruijn32tab", laid_math_bits_deBruijn32tab), ("math/bits.deBruijn64tab", laid_math_bits_deBruijn64tab), ("internal/strconv.uint64pow10", laid_internal_strconv_uint64pow10)], narrowed := true }
def WindowSessionsUptoSaid : Prop := windowSessionsUptoRow.holds Tryd.pinned (OpenSpec.upto windowSessionsSpec)

/-- 'watershedlaw07.WindowMerges', WHERE WHAT IT READS IS OF BULK AT MOST 1048576: true; the input reads as it did. -/
def windowMergesUptoRow : OpenClaim := { program := "ytbnppocaeflghaadoor", sum := "83e1536cb72b92c4b21451d37391308d8388e934989cecd9ff6cfafaac0e1d8f", func := "watershed/watershedlaw07.WindowMerges", spec := "windowMerges", unfollowed := true, recurses := true, named := ["internal/strconv.uint64pow10", "math/bits.deBruijn32tab", "math/bits.deBruijn64tab"], apart := false, laid := [("math/bits.deBruijn32tab", laid_math_bits_deBruijn32tab), ("math/bits.deBruijn64tab", laid_math_bits_deBruijn64tab), ("internal/strconv.uint64pow10", laid_internal_strconv_uint64pow10)], narrowed := true }
def WindowMergesUptoSaid : Prop := windowMergesUptoRow.holds Tryd.pinned (OpenSpec.upto windowMergesSpec)

/-- 'watershedlaw07.WindowAssigns', WHERE WHAT IT READS IS OF BULK AT MOST 1048576: true; the input reads as it did. -/
def windowAssignsUptoRow : OpenClaim := { program := "ytbnppocaeflghaadoor", sum := "83e1536cb72b92c4b21451d37391308d8388e934989cecd9ff6cfafaac0e1d8f", func := "watershed/watershedlaw07.WindowAssigns", spec := "windowAssigns", named := ["internal/strconv.uint64pow10", "math/bits.deBruijn32tab", "math/bits.deBruijn64tab"], apart := false, laid := [("math/bits.deBruijn32tab", laid_math_bits_deBruijn32tab), ("math/bits.deBruijn64tab", laid_math_bits_deBruijn64tab), ("internal/strconv.uint64pow10", laid_internal_strconv_uint64pow10)], narrowed := true }
def WindowAssignsUptoSaid : Prop := windowAssignsUptoRow.holds Tryd.pinned (OpenSpec.upto windowAssignsSpec)

/-- 'watershedlaw07.WindowTexts', WHERE WHAT IT READS IS OF BULK AT MOST 1048576: true; the input reads as it did. -/
def windowTextsUptoRow : OpenClaim := { program := "ytbnppocaeflghaadoor", sum := "83e1536cb72b92c4b21451d37391308d8388e934989cecd9ff6cfafaac0e1d8f", func := "watershed/watershedlaw07.WindowTexts", spec := "windowTexts", named := ["internal/strconv.uint64pow10", "math/bits.deBruijn32tab", "math/bits.deBruijn64tab"], apart := false, laid := [("math/bits.deBruijn32tab", laid_math_bits_deBruijn32tab), ("math/bits.deBruijn64tab", laid_math_bits_deBruijn64tab), ("internal/strconv.uint64pow10", laid_internal_strconv_uint64pow10)], narrowed := true }
def WindowTextsUptoSaid : Prop := windowTextsUptoRow.holds Tryd.pinned (OpenSpec.upto windowTextsSpec)

/-- 'watershedlaw07.WindowTiles', WHERE WHAT IT READS IS OF BULK AT MOST 1048576: true; the input reads as it did. -/
def windowTilesUptoRow : OpenClaim := { program := "ytbnppocaeflghaadoor", sum := "83e1536cb72b92c4b21451d37391308d8388e934989cecd9ff6cfafaac0e1d8f", func := "watershed/watershedlaw07.WindowTiles", spec := "windowTiles", named := ["internal/strconv.uint64pow10", "math/bits.deBruijn32tab", "math/bits.deBruijn64tab"], apart := false, laid := [("math/bits.deBruijn32tab", laid_math_bits_deBruijn32tab), ("math/bits.deBruijn64tab", laid_math_bits_deBruijn64tab), ("internal/strconv.uint64pow10", laid_internal_strconv_uint64pow10)], narrowed := true }
def WindowTilesUptoSaid : Prop := windowTilesUptoRow.holds Tryd.pinned (OpenSpec.upto windowTilesSpec)

/-- 'watershedlaw07.WindowSlides', WHERE WHAT IT READS IS OF BULK AT MOST 1048576: true; the input reads as it did. -/
def windowSlidesUptoRow : OpenClaim := { program := "ytbnppocaeflghaadoor", sum := "83e1536cb72b92c4b21451d37391308d8388e934989cecd9ff6cfafaac0e1d8f", func := "watershed/watershedlaw07.WindowSlides", spec := "windowSlides", named := ["internal/strconv.uint64pow10", "math/bits.deBruijn32tab", "math/bits.deBruijn64tab"], apart := false, laid := [("math/bits.deBruijn32tab", laid_math_bits_deBruijn32tab), ("math/bits.deBruijn64tab", laid_math_bits_deBruijn64tab), ("internal/strconv.uint64pow10", laid_internal_strconv_uint64pow10)], narrowed := true }
def WindowSlidesUptoSaid : Prop := windowSlidesUptoRow.holds Tryd.pinned (OpenSpec.upto windowSlidesSpec)

/-- 'watershedlaw07.WindowSides', WHERE WHAT IT READS IS OF BULK AT MOST 1048576: true; the input reads as it did. -/
def windowSidesUptoRow : OpenClaim := { program := "ytbnppocaeflghaadoor", sum := "83e1536cb72b92c4b21451d37391308d8388e934989cecd9ff6cfafaac0e1d8f", func := "watershed/watershedlaw07.WindowSides", spec := "windowSides", named := ["internal/strconv.uint64pow10", "math/bits.deBruijn32tab", "math/bits.deBruijn64tab"], apart := false, laid := [("math/bits.deBruijn32tab", laid_math_bits_deBruijn32tab), ("math/bits.deBruijn64tab", laid_math_bits_deBruijn64tab), ("internal/strconv.uint64pow10", laid_internal_strconv_uint64pow10)], narrowed := true }
def WindowSidesUptoSaid : Prop := windowSidesUptoRow.holds Tryd.pinned (OpenSpec.upto windowSidesSpec)

/-- 'watershedlaw07.WindowHas', WHERE WHAT IT READS IS OF BULK AT MOST 1048576: true; the input reads as it did. -/
def windowHasUptoRow : OpenClaim := { program := "ytbnppocaeflghaadoor", sum := "83e1536cb72b92c4b21451d37391308d8388e934989cecd9ff6cfafaac0e1d8f", func := "watershed/watershedlaw07.WindowHas", spec := "windowHas", named := ["internal/strconv.uint64pow10", "math/bits.deBruijn32tab", "math/bits.deBruijn64tab"], apart := false, laid := [("math/bits.deBruijn32tab", laid_math_bits_deBruijn32tab), ("math/bits.deBruijn64tab", laid_math_bits_deBruijn64tab), ("internal/strconv.uint64pow10", laid_internal_strconv_uint64pow10)], narrowed := true }
def WindowHasUptoSaid : Prop := windowHasUptoRow.holds Tryd.pinned (OpenSpec.upto windowHasSpec)

/-- 'watershedlaw07.WindowOne', WHERE WHAT IT READS IS OF BULK AT MOST 1048576: true; the input reads as it did. -/
def windowOneUptoRow : OpenClaim := { program := "ytbnppocaeflghaadoor", sum := "83e1536cb72b92c4b21451d37391308d8388e934989cecd9ff6cfafaac0e1d8f", func := "watershed/watershedlaw07.WindowOne", spec := "windowOne", unfollowed := true, recurses := true, named := ["internal/strconv.uint64pow10", "math/bits.deBruijn32tab", "math/bits.deBruijn64tab"], apart := false, laid := [("math/bits.deBruijn32tab", laid_math_bits_deBruijn32tab), ("math/bits.deBruijn64tab", laid_math_bits_deBruijn64tab), ("internal/strconv.uint64pow10", laid_internal_strconv_uint64pow10)], narrowed := true }
def WindowOneUptoSaid : Prop := windowOneUptoRow.holds Tryd.pinned (OpenSpec.upto windowOneSpec)

end Rows
end Go.Proofs.YtbnppocaeflghaaDoor
