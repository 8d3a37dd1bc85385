/-
  DERIVED. GIVEN WITH THE SEED: THE CARDS: each row of YtopbldbgnpeelaaDoorRows.lean that lists a variable, with what it lists TIED to the program's text (the seventh form; the later family's looks); each row that meets fmt, with fmt's text TOLD by the authors' own Lean function (tested against real Go, not proved from fmt's source: count such statements apart). THE CARD IS WHAT COUNTS. Prove the row's statement (the work); the ties are given (YtopbldbgnpeelaaDoorTie.lean); close each card by the builder's one call (the guide's Derived/Test/ToyasCard.lean, 'card_holds'). Laid BY PROGRAM, IN A SANDBOX (cutbox-door.mjs). By AI agents, Wed Nov 11 2026. No macro, syntax, notation, axiom, sorry.
-/
import Derived.Test.YtopbldbgnpeelaaDoorRows
import GoSem.ClaimSeven
namespace Go.Proofs.YtopbldbgnpeelaaDoor
namespace Rows

/-- THE TIED CARD OF 'changeoverlaw03.FrameAdds'. -/
def frameAddsCard : Claim7 := { stood := { row := frameAddsRow, standIns := [], harness := (true, "96210eb35224feafa957ea4be2532c7adb5b4043ad2ad1bb26ef72e0e44f8b94"), looks := false }, kinds := [], alts := [], laidByText := true, laidKinds := [.data], laidTests := true, laidLooks := .later }
def FrameAddsCardSaid : Prop := Claim7.holds Tryd.pinned (.plain (OpenSpec.ofChange frameAddsSpec)) frameAddsCard

/-- THE TIED CARD OF 'changeoverlaw03.FrameSpoilt'. -/
def frameSpoiltCard : Claim7 := { stood := { row := frameSpoiltRow, standIns := [], harness := (true, "96210eb35224feafa957ea4be2532c7adb5b4043ad2ad1bb26ef72e0e44f8b94"), looks := false }, kinds := [], alts := [], laidByText := true, laidKinds := [.data], laidTests := true, laidLooks := .later }
def FrameSpoiltCardSaid : Prop := Claim7.holds Tryd.pinned (.plain (OpenSpec.ofChange frameSpoiltSpec)) frameSpoiltCard

/-- THE TIED CARD OF 'changeoverlaw03.FrameNexts'. -/
def frameNextsCard : Claim7 := { stood := { row := frameNextsRow, standIns := [], harness := (true, "96210eb35224feafa957ea4be2532c7adb5b4043ad2ad1bb26ef72e0e44f8b94"), looks := false }, kinds := [], alts := [], laidByText := true, laidKinds := [.data], laidTests := true, laidLooks := .later }
def FrameNextsCardSaid : Prop := Claim7.holds Tryd.pinned (.plain (OpenSpec.ofChange frameNextsSpec)) frameNextsCard

/-- THE TIED CARD OF 'changeoverlaw03.FrameCut'. -/
def frameCutCard : Claim7 := { stood := { row := frameCutRow, standIns := [], harness := (true, "96210eb35224feafa957ea4be2532c7adb5b4043ad2ad1bb26ef72e0e44f8b94"), looks := false }, kinds := [], alts := [], laidByText := true, laidKinds := [.data], laidTests := true, laidLooks := .later }
def FrameCutCardSaid : Prop := Claim7.holds Tryd.pinned (.plain (OpenSpec.ofChange frameCutSpec)) frameCutCard

/-- THE SECOND FORM's CARD OF 'changeoverlaw03.FrameAdds'. -/
def frameAddsUptoCard : Claim7 := { stood := { row := frameAddsUptoRow, standIns := [], harness := (true, "96210eb35224feafa957ea4be2532c7adb5b4043ad2ad1bb26ef72e0e44f8b94"), looks := false }, kinds := [], alts := [], laidByText := true, laidKinds := [.data], laidTests := true, laidLooks := .later }
def FrameAddsUptoCardSaid : Prop := Claim7.holds Tryd.pinned (.plain (OpenSpec.upto frameAddsSpec)) frameAddsUptoCard

/-- THE SECOND FORM's CARD OF 'changeoverlaw03.FrameSpoilt'. -/
def frameSpoiltUptoCard : Claim7 := { stood := { row := frameSpoiltUptoRow, standIns := [], harness := (true, "96210eb35224feafa957ea4be2532c7adb5b4043ad2ad1bb26ef72e0e44f8b94"), looks := false }, kinds := [], alts := [], laidByText := true, laidKinds := [.data], laidTests := true, laidLooks := .later }
def FrameSpoiltUptoCardSaid : Prop := Claim7.holds Tryd.pinned (.plain (OpenSpec.upto frameSpoiltSpec)) frameSpoiltUptoCard

/-- THE SECOND FORM's CARD OF 'changeoverlaw03.FrameNexts'. -/
def frameNextsUptoCard : Claim7 := { stood := { row := frameNextsUptoRow, standIns := [], harness := (true, "96210eb35224feafa957ea4be2532c7adb5b4043ad2ad1bb26ef72e0e44f8b94"), looks := false }, kinds := [], alts := [], laidByText := true, laidKinds := [.data], laidTests := true, laidLooks := .later }
def FrameNextsUptoCardSaid : Prop := Claim7.holds Tryd.pinned (.plain (OpenSpec.upto frameNextsSpec)) frameNextsUptoCard

/-- THE SECOND FORM's CARD OF 'changeoverlaw03.FrameCut'. -/
def frameCutUptoCard : Claim7 := { stood := { row := frameCutUptoRow, standIns := [], harness := (true, "96210eb35224feafa957ea4be2532c7adb5b4043ad2ad1bb26ef72e0e44f8b94"), looks := false }, kinds := [], alts := [], laidByText := true, laidKinds := [.data], laidTests := true, laidLooks := .later }
def FrameCutUptoCardSaid : Prop := Claim7.holds Tryd.pinned (.plain (OpenSpec.upto frameCutSpec)) frameCutUptoCard
end Rows
end Go.Proofs.YtopbldbgnpeelaaDoor
