/-
  DERIVED. GIVEN WITH THE SEED: THE CARDS: each row of YtleamcddhlacfaaDoorRows.lean that lists a variable, with what it lists TIED to the program's text (the seventh form; the later family's looks); each row that meets fmt, with fmt's text TOLD by the authors' own Lean function (tested against real Go, not proved from fmt's source: count such statements apart). THE CARD IS WHAT COUNTS. Prove the row's statement (the work); the ties are given (YtleamcddhlacfaaDoorTie.lean); close each card by the builder's one call (the guide's Derived/Test/ToyasCard.lean, 'card_holds'). Laid BY PROGRAM, IN A SANDBOX (cutbox-door.mjs). By AI agents, Wed Nov 11 2026. No macro, syntax, notation, axiom, sorry.
-/
import Derived.Test.YtleamcddhlacfaaDoorRows
import GoSem.ClaimSeven
namespace Go.Proofs.YtleamcddhlacfaaDoor
namespace Rows

/-- THE TIED CARD OF 'changeoverlaw13.MsgoneChecks'. -/
def msgoneChecksCard : Claim7 := { stood := { row := msgoneChecksRow, standIns := [], harness := (true, "80e921535947ff55a3e81c0028284ee24acf62e7c259e543996daa8eb6f6a6fb"), looks := true }, kinds := [], alts := [], laidByText := true, laidKinds := [.data, .pinned], laidTests := true, laidLooks := .later }
def MsgoneChecksCardSaid : Prop := Claim7.holds Tryd.pinned (.plain (OpenSpec.ofChange msgoneChecksSpec)) msgoneChecksCard

/-- THE TIED CARD OF 'changeoverlaw13.MsgoneDecodes'. -/
def msgoneDecodesCard : Claim7 := { stood := { row := msgoneDecodesRow, standIns := [], harness := (true, "80e921535947ff55a3e81c0028284ee24acf62e7c259e543996daa8eb6f6a6fb"), looks := true }, kinds := [], alts := [], laidByText := true, laidKinds := [.data, .pinned], laidTests := true, laidLooks := .later }
def MsgoneDecodesCardSaid : Prop := Claim7.holds Tryd.pinned (.plain (OpenSpec.ofChange msgoneDecodesSpec)) msgoneDecodesCard

/-- THE TIED CARD OF 'changeoverlaw14.MsgtwoEncodes'. -/
def msgtwoEncodesCard : Claim7 := { stood := { row := msgtwoEncodesRow, standIns := [], harness := (true, "80e921535947ff55a3e81c0028284ee24acf62e7c259e543996daa8eb6f6a6fb"), looks := true }, kinds := [], alts := [], laidByText := true, laidKinds := [.data, .pinned], laidTests := true, laidLooks := .later }
def MsgtwoEncodesCardSaid : Prop := Claim7.holds Tryd.pinned (.plain (OpenSpec.ofChange msgtwoEncodesSpec)) msgtwoEncodesCard

/-- THE TIED CARD OF 'changeoverlaw14.MsgtwoDecodes'. -/
def msgtwoDecodesCard : Claim7 := { stood := { row := msgtwoDecodesRow, standIns := [], harness := (true, "80e921535947ff55a3e81c0028284ee24acf62e7c259e543996daa8eb6f6a6fb"), looks := true }, kinds := [], alts := [], laidByText := true, laidKinds := [.data, .pinned], laidTests := true, laidLooks := .later }
def MsgtwoDecodesCardSaid : Prop := Claim7.holds Tryd.pinned (.plain (OpenSpec.ofChange msgtwoDecodesSpec)) msgtwoDecodesCard

/-- THE SECOND FORM's CARD OF 'changeoverlaw13.MsgoneChecks'. -/
def msgoneChecksUptoCard : Claim7 := { stood := { row := msgoneChecksUptoRow, standIns := [], harness := (true, "80e921535947ff55a3e81c0028284ee24acf62e7c259e543996daa8eb6f6a6fb"), looks := true }, kinds := [], alts := [], laidByText := true, laidKinds := [.data, .pinned], laidTests := true, laidLooks := .later }
def MsgoneChecksUptoCardSaid : Prop := Claim7.holds Tryd.pinned (.plain (OpenSpec.upto msgoneChecksSpec)) msgoneChecksUptoCard

/-- THE SECOND FORM's CARD OF 'changeoverlaw13.MsgoneDecodes'. -/
def msgoneDecodesUptoCard : Claim7 := { stood := { row := msgoneDecodesUptoRow, standIns := [], harness := (true, "80e921535947ff55a3e81c0028284ee24acf62e7c259e543996daa8eb6f6a6fb"), looks := true }, kinds := [], alts := [], laidByText := true, laidKinds := [.data, .pinned], laidTests := true, laidLooks := .later }
def MsgoneDecodesUptoCardSaid : Prop := Claim7.holds Tryd.pinned (.plain (OpenSpec.upto msgoneDecodesSpec)) msgoneDecodesUptoCard

/-- THE SECOND FORM's CARD OF 'changeoverlaw14.MsgtwoEncodes'. -/
def msgtwoEncodesUptoCard : Claim7 := { stood := { row := msgtwoEncodesUptoRow, standIns := [], harness := (true, "80e921535947ff55a3e81c0028284ee24acf62e7c259e543996daa8eb6f6a6fb"), looks := true }, kinds := [], alts := [], laidByText := true, laidKinds := [.data, .pinned], laidTests := true, laidLooks := .later }
def MsgtwoEncodesUptoCardSaid : Prop := Claim7.holds Tryd.pinned (.plain (OpenSpec.upto msgtwoEncodesSpec)) msgtwoEncodesUptoCard

/-- THE SECOND FORM's CARD OF 'changeoverlaw14.MsgtwoDecodes'. -/
def msgtwoDecodesUptoCard : Claim7 := { stood := { row := msgtwoDecodesUptoRow, standIns := [], harness := (true, "80e921535947ff55a3e81c0028284ee24acf62e7c259e543996daa8eb6f6a6fb"), looks := true }, kinds := [], alts := [], laidByText := true, laidKinds := [.data, .pinned], laidTests := true, laidLooks := .later }
def MsgtwoDecodesUptoCardSaid : Prop := Claim7.holds Tryd.pinned (.plain (OpenSpec.upto msgtwoDecodesSpec)) msgtwoDecodesUptoCard
end Rows
end Go.Proofs.YtleamcddhlacfaaDoor
