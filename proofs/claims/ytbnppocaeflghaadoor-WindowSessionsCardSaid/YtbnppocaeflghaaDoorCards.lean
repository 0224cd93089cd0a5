/-
  DERIVED. GIVEN WITH THE SEED: THE CARDS: each row of YtbnppocaeflghaaDoorRows.lean that lists a variable, with what it lists TIED to the program's text (the seventh form; the later family's looks); each row that meets fmt, with fmt's text TOLD by the authors' own Lean function (tested against real Go, not proved from fmt's source: count such statements apart). THE CARD IS WHAT COUNTS. Prove the row's statement (the work); the ties are given (YtbnppocaeflghaaDoorTie.lean); close each card by the builder's one call (the guide's Derived/Test/ToyasCard.lean, 'card_holds'). Laid BY PROGRAM, IN A SANDBOX (cutbox-door.mjs). By AI agents, Wed Nov 11 2026. No macro, syntax, notation, axiom, sorry.
-/
import Derived.Test.YtbnppocaeflghaaDoorRows
import GoSem.ClaimSeven
namespace Go.Proofs.YtbnppocaeflghaaDoor
namespace Rows

/-- THE TIED CARD OF 'watershedlaw07.WindowSessions'. -/
def windowSessionsCard : Claim7 := { stood := { row := windowSessionsRow, standIns := [], harness := (true, "e3a2e5845e10fae0f32323d2d1a66a8b3be1528d7958c0e4f4be80db21aac7ad"), looks := false }, kinds := [], alts := [], laidByText := true, laidKinds := [.data, .data, .data], laidTests := true, laidLooks := .later }
def WindowSessionsCardSaid : Prop := Claim7.holds Tryd.pinned (.plain (OpenSpec.ofChange windowSessionsSpec)) windowSessionsCard

/-- THE TIED CARD OF 'watershedlaw07.WindowMerges'. -/
def windowMergesCard : Claim7 := { stood := { row := windowMergesRow, standIns := [], harness := (true, "e3a2e5845e10fae0f32323d2d1a66a8b3be1528d7958c0e4f4be80db21aac7ad"), looks := false }, kinds := [], alts := [], laidByText := true, laidKinds := [.data, .data, .data], laidTests := true, laidLooks := .later }
def WindowMergesCardSaid : Prop := Claim7.holds Tryd.pinned (.plain (OpenSpec.ofChange windowMergesSpec)) windowMergesCard

/-- THE TIED CARD OF 'watershedlaw07.WindowAssigns'. -/
def windowAssignsCard : Claim7 := { stood := { row := windowAssignsRow, standIns := [], harness := (true, "e3a2e5845e10fae0f32323d2d1a66a8b3be1528d7958c0e4f4be80db21aac7ad"), looks := false }, kinds := [], alts := [], laidByText := true, laidKinds := [.data, .data, .data], laidTests := true, laidLooks := .later }
def WindowAssignsCardSaid : Prop := Claim7.holds Tryd.pinned (.plain (OpenSpec.ofChange windowAssignsSpec)) windowAssignsCard

/-- THE TIED CARD OF 'watershedlaw07.WindowTexts'. -/
def windowTextsCard : Claim7 := { stood := { row := windowTextsRow, standIns := [], harness := (true, "e3a2e5845e10fae0f32323d2d1a66a8b3be1528d7958c0e4f4be80db21aac7ad"), looks := false }, kinds := [], alts := [], laidByText := true, laidKinds := [.data, .data, .data], laidTests := true, laidLooks := .later }
def WindowTextsCardSaid : Prop := Claim7.holds Tryd.pinned (.plain (OpenSpec.ofChange windowTextsSpec)) windowTextsCard

/-- THE TIED CARD OF 'watershedlaw07.WindowTiles'. -/
def windowTilesCard : Claim7 := { stood := { row := windowTilesRow, standIns := [], harness := (true, "e3a2e5845e10fae0f32323d2d1a66a8b3be1528d7958c0e4f4be80db21aac7ad"), looks := false }, kinds := [], alts := [], laidByText := true, laidKinds := [.data, .data, .data], laidTests := true, laidLooks := .later }
def WindowTilesCardSaid : Prop := Claim7.holds Tryd.pinned (.plain (OpenSpec.ofChange windowTilesSpec)) windowTilesCard

/-- THE TIED CARD OF 'watershedlaw07.WindowSlides'. -/
def windowSlidesCard : Claim7 := { stood := { row := windowSlidesRow, standIns := [], harness := (true, "e3a2e5845e10fae0f32323d2d1a66a8b3be1528d7958c0e4f4be80db21aac7ad"), looks := false }, kinds := [], alts := [], laidByText := true, laidKinds := [.data, .data, .data], laidTests := true, laidLooks := .later }
def WindowSlidesCardSaid : Prop := Claim7.holds Tryd.pinned (.plain (OpenSpec.ofChange windowSlidesSpec)) windowSlidesCard

/-- THE TIED CARD OF 'watershedlaw07.WindowSides'. -/
def windowSidesCard : Claim7 := { stood := { row := windowSidesRow, standIns := [], harness := (true, "e3a2e5845e10fae0f32323d2d1a66a8b3be1528d7958c0e4f4be80db21aac7ad"), looks := false }, kinds := [], alts := [], laidByText := true, laidKinds := [.data, .data, .data], laidTests := true, laidLooks := .later }
def WindowSidesCardSaid : Prop := Claim7.holds Tryd.pinned (.plain (OpenSpec.ofChange windowSidesSpec)) windowSidesCard

/-- THE TIED CARD OF 'watershedlaw07.WindowHas'. -/
def windowHasCard : Claim7 := { stood := { row := windowHasRow, standIns := [], harness := (true, "e3a2e5845e10fae0f32323d2d1a66a8b3be1528d7958c0e4f4be80db21aac7ad"), looks := false }, kinds := [], alts := [], laidByText := true, laidKinds := [.data, .data, .data], laidTests := true, laidLooks := .later }
def WindowHasCardSaid : Prop := Claim7.holds Tryd.pinned (.plain (OpenSpec.ofChange windowHasSpec)) windowHasCard

/-- THE TIED CARD OF 'watershedlaw07.WindowOne'. -/
def windowOneCard : Claim7 := { stood := { row := windowOneRow, standIns := [], harness := (true, "e3a2e5845e10fae0f32323d2d1a66a8b3be1528d7958c0e4f4be80db21aac7ad"), looks := false }, kinds := [], alts := [], laidByText := true, laidKinds := [.data, .data, .data], laidTests := true, laidLooks := .later }
def WindowOneCardSaid : Prop := Claim7.holds Tryd.pinned (.plain (OpenSpec.ofChange windowOneSpec)) windowOneCard

/-- THE SECOND FORM's CARD OF 'watershedlaw07.WindowSessions'. -/
def windowSessionsUptoCard : Claim7 := { stood := { row := windowSessionsUptoRow, standIns := [], harness := (true, "e3a2e5845e10fae0f32323d2d1a66a8b3be1528d7958c0e4f4be80db21aac7ad"), looks := false }, kinds := [], alts := [], laidByText := true, laidKinds := [.data, .data, .data], laidTests := true, laidLooks := .later }
def WindowSessionsUptoCardSaid : Prop := Claim7.holds Tryd.pinned (.plain (OpenSpec.upto windowSessionsSpec)) windowSessionsUptoCard

/-- THE SECOND FORM's CARD OF 'watershedlaw07.WindowMerges'. -/
def windowMergesUptoCard : Claim7 := { stood := { row := windowMergesUptoRow, standIns := [], harness := (true, "e3a2e5845e10fae0f32323d2d1a66a8b3be1528d7958c0e4f4be80db21aac7ad"), looks := false }, kinds := [], alts := [], laidByText := true, laidKinds := [.data, .data, .data], laidTests := true, laidLooks := .later }
def WindowMergesUptoCardSaid : Prop := Claim7.holds Tryd.pinned (.plain (OpenSpec.upto windowMergesSpec)) windowMergesUptoCard

/-- THE SECOND FORM's CARD OF 'watershedlaw07.WindowAssigns'. -/
def windowAssignsUptoCard : Claim7 := { stood := { row := windowAssignsUptoRow, standIns := [], harness := (true, "e3a2e5845e10fae0f32323d2d1a66a8b3be1528d7958c0e4f4be80db21aac7ad"), looks := false }, kinds := [], alts := [], laidByText := true, laidKinds := [.data, .data, .data], laidTests := true, laidLooks := .later }
def WindowAssignsUptoCardSaid : Prop := Claim7.holds Tryd.pinned (.plain (OpenSpec.upto windowAssignsSpec)) windowAssignsUptoCard

/-- THE SECOND FORM's CARD OF 'watershedlaw07.WindowTexts'. -/
def windowTextsUptoCard : Claim7 := { stood := { row := windowTextsUptoRow, standIns := [], harness := (true, "e3a2e5845e10fae0f32323d2d1a66a8b3be1528d7958c0e4f4be80db21aac7ad"), looks := false }, kinds := [], alts := [], laidByText := true, laidKinds := [.data, .data, .data], laidTests := true, laidLooks := .later }
def WindowTextsUptoCardSaid : Prop := Claim7.holds Tryd.pinned (.plain (OpenSpec.upto windowTextsSpec)) windowTextsUptoCard

/-- THE SECOND FORM's CARD OF 'watershedlaw07.WindowTiles'. -/
def windowTilesUptoCard : Claim7 := { stood := { row := windowTilesUptoRow, standIns := [], harness := (true, "e3a2e5845e10fae0f32323d2d1a66a8b3be1528d7958c0e4f4be80db21aac7ad"), looks := false }, kinds := [], alts := [], laidByText := true, laidKinds := [.data, .data, .data], laidTests := true, laidLooks := .later }
def WindowTilesUptoCardSaid : Prop := Claim7.holds Tryd.pinned (.plain (OpenSpec.upto windowTilesSpec)) windowTilesUptoCard

/-- THE SECOND FORM's CARD OF 'watershedlaw07.WindowSlides'. -/
def windowSlidesUptoCard : Claim7 := { stood := { row := windowSlidesUptoRow, standIns := [], harness := (true, "e3a2e5845e10fae0f32323d2d1a66a8b3be1528d7958c0e4f4be80db21aac7ad"), looks := false }, kinds := [], alts := [], laidByText := true, laidKinds := [.data, .data, .data], laidTests := true, laidLooks := .later }
def WindowSlidesUptoCardSaid : Prop := Claim7.holds Tryd.pinned (.plain (OpenSpec.upto windowSlidesSpec)) windowSlidesUptoCard

/-- THE SECOND FORM's CARD OF 'watershedlaw07.WindowSides'. -/
def windowSidesUptoCard : Claim7 := { stood := { row := windowSidesUptoRow, standIns := [], harness := (true, "e3a2e5845e10fae0f32323d2d1a66a8b3be1528d7958c0e4f4be80db21aac7ad"), looks := false }, kinds := [], alts := [], laidByText := true, laidKinds := [.data, .data, .data], laidTests := true, laidLooks := .later }
def WindowSidesUptoCardSaid : Prop := Claim7.holds Tryd.pinned (.plain (OpenSpec.upto windowSidesSpec)) windowSidesUptoCard

/-- THE SECOND FORM's CARD OF 'watershedlaw07.WindowHas'. -/
def windowHasUptoCard : Claim7 := { stood := { row := windowHasUptoRow, standIns := [], harness := (true, "e3a2e5845e10fae0f32323d2d1a66a8b3be1528d7958c0e4f4be80db21aac7ad"), looks := false }, kinds := [], alts := [], laidByText := true, laidKinds := [.data, .data, .data], laidTests := true, laidLooks := .later }
def WindowHasUptoCardSaid : Prop := Claim7.holds Tryd.pinned (.plain (OpenSpec.upto windowHasSpec)) windowHasUptoCard

/-- THE SECOND FORM's CARD OF 'watershedlaw07.WindowOne'. -/
def windowOneUptoCard : Claim7 := { stood := { row := windowOneUptoRow, standIns := [], harness := (true, "e3a2e5845e10fae0f32323d2d1a66a8b3be1528d7958c0e4f4be80db21aac7ad"), looks := false }, kinds := [], alts := [], laidByText := true, laidKinds := [.data, .data, .data], laidTests := true, laidLooks := .later }
def WindowOneUptoCardSaid : Prop := Claim7.holds Tryd.pinned (.plain (OpenSpec.upto windowOneSpec)) windowOneUptoCard
end Rows
end Go.Proofs.YtbnppocaeflghaaDoor
