/-
  NARROWER THAN 'FOR EVERY INPUT', by the rows' own cells (each row's printed sentence says how): MsgoneChecks: laid · MsgoneDecodes: laid · MsgtwoEncodes: laid · MsgtwoDecodes: laid.
  DERIVED. THE GIVEN ROWS OF THIS SEAT. 4 by the template 'for every input the law returns true; each argument reads behind the call as it read before'; 0 by the template 'total and deterministic' (their statements: YtleamcddhlacfaaDoorTotals.lean).
  GIVEN WITH THE SEED: the statements are not yours to turn. If you find one false, say at which input.
  Laid BY PROGRAM, IN A SANDBOX (cutbox-rows.mjs): the forced cells as the released guide's own fill.sh prints them over the translation 2f05f4b83aeaac23… (all of the seat's roots in one cut). By AI agents, Wed Nov 11 2026. No macro, syntax, notation, axiom, sorry.
-/
import Derived.Test.YtleamcddhlacfaaDoorChecked
import GoSem.PinnedTables
import GoSem.Claim
import GoSem.ClaimJoined
import GoSem.ClaimMapViews
import Derived.JoinedTies
import Derived.KernelRfl
namespace Go.Proofs.YtleamcddhlacfaaDoor
/- THE CELL 'sum', in the pinned program and in every row, IS THE sha256 OF THE DUMP (.gsa) THAT YtleamcddhlacfaaDoorProg.lean LOADS. Nothing in Lean hashes anything: it is a label: what it is worth is what the hold of that sum in a sandbox is worth. -/
noncomputable def Tryd.pinned : Pinned := { name := "ytleamcddhlacfaadoor", sum := "2f05f4b83aeaac239899f0c96fea2d907e4540ff455b52b62002adb46432edbf", checked := Tryd.checked }
namespace Rows
def none {H : Type} : Left H := { results := [], args := [] }

/- WHAT THE LISTED PACKAGE-LEVEL VARIABLES READ AS WHEN THE CALL BEGINS. Each datum BY PROGRAM (the guide's laid-datum.mjs) off the statement by which the dump's own 'gosem.cut.vars' lays the variable. In a bare row this is a premise. The card (YtleamcddhlacfaaDoorCards.lean) ties it to the program's text. -/
def laid_unicode_utf8_acceptRanges {H : Type} : DataW H := .agg [.agg [.lit (.int .u8 128), .lit (.int .u8 191)], .agg [.lit (.int .u8 160), .lit (.int .u8 191)], .agg [.lit (.int .u8 128), .lit (.int .u8 159)], .agg [.lit (.int .u8 144), .lit (.int .u8 191)], .agg [.lit (.int .u8 128), .lit (.int .u8 143)], .agg [.lit (.int .u8 0), .lit (.int .u8 0)], .agg [.lit (.int .u8 0), .lit (.int .u8 0)], .agg [.lit (.int .u8 0), .lit (.int .u8 0)], .agg [.lit (.int .u8 0), .lit (.int .u8 0)], .agg [.lit (.int .u8 0), .lit (.int .u8 0)], .agg [.lit (.int .u8 0), .lit (.int .u8 0)], .agg [.lit (.int .u8 0), .lit (.int .u8 0)], .agg [.lit (.int .u8 0), .lit (.int .u8 0)], .agg [.lit (.int .u8 0), .lit (.int .u8 0)], .agg [.lit (.int .u8 0), .lit (.int .u8 0)], .agg [.lit (.int .u8 0), .lit (.int .u8 0)]]
/-- One of Go's own tables, pinned by name: the form's constant. -/
def laid_unicode_utf8_first : DataW Unit := Go.Pinned.utf8First

/-- 'changeoverlaw13.MsgoneChecks': WHATEVER THE INPUT: true; the input reads as it did. -/
def msgoneChecksSpec : ChangeSpec := { name := "msgoneChecks", fn := fun _ => fun
  | [d1, d2] => { results := [.lit (.bool true)], args := [d1, d2] }
  | _ => none }
def msgoneChecksRow : OpenClaim := { program := "ytleamcddhlacfaadoor", sum := "2f05f4b83aeaac239899f0c96fea2d907e4540ff455b52b62002adb46432edbf", func := "changeover/changeoverlaw13.MsgoneChecks", spec := "msgoneChecks", unfollowed := true, recurses := true, named := ["unicode/utf8.first", "unicode/utf8.acceptRanges"], apart := false, laid := [("unicode/utf8.acceptRanges", laid_unicode_utf8_acceptRanges), ("unicode/utf8.first", laid_unicode_utf8_first)] }
def MsgoneChecksSaid : Prop := msgoneChecksRow.holds Tryd.pinned (OpenSpec.ofChange msgoneChecksSpec)

/-- ITS FALSE NEIGHBOUR: 'it returns false'. Refute it at one input. -/
def msgoneChecksWrong : ChangeSpec := { name := "msgoneChecks", fn := fun _ => fun
  | [d1, d2] => { results := [.lit (.bool false)], args := [d1, d2] }
  | _ => none }
def MsgoneChecksWrongFalsely : Prop := msgoneChecksRow.holds Tryd.pinned (OpenSpec.ofChange msgoneChecksWrong)

/-- 'changeoverlaw13.MsgoneDecodes': WHATEVER THE INPUT: true; the input reads as it did. -/
def msgoneDecodesSpec : ChangeSpec := { name := "msgoneDecodes", fn := fun _ => fun
  | [d] => { results := [.lit (.bool true)], args := [d] }
  | _ => none }
def msgoneDecodesRow : OpenClaim := { program := "ytleamcddhlacfaadoor", sum := "2f05f4b83aeaac239899f0c96fea2d907e4540ff455b52b62002adb46432edbf", func := "changeover/changeoverlaw13.MsgoneDecodes", spec := "msgoneDecodes", unfollowed := true, recurses := true, named := ["unicode/utf8.first", "unicode/utf8.acceptRanges"], apart := false, laid := [("unicode/utf8.acceptRanges", laid_unicode_utf8_acceptRanges), ("unicode/utf8.first", laid_unicode_utf8_first)] }
def MsgoneDecodesSaid : Prop := msgoneDecodesRow.holds Tryd.pinned (OpenSpec.ofChange msgoneDecodesSpec)

/-- ITS FALSE NEIGHBOUR: 'it returns false'. Refute it at one input. -/
def msgoneDecodesWrong : ChangeSpec := { name := "msgoneDecodes", fn := fun _ => fun
  | [d] => { results := [.lit (.bool false)], args := [d] }
  | _ => none }
def MsgoneDecodesWrongFalsely : Prop := msgoneDecodesRow.holds Tryd.pinned (OpenSpec.ofChange msgoneDecodesWrong)

/-- 'changeoverlaw14.MsgtwoEncodes': WHATEVER THE INPUT: true; the input reads as it did. -/
def msgtwoEncodesSpec : ChangeSpec := { name := "msgtwoEncodes", fn := fun _ => fun
  | [d] => { results := [.lit (.bool true)], args := [d] }
  | _ => none }
def msgtwoEncodesRow : OpenClaim := { program := "ytleamcddhlacfaadoor", sum := "2f05f4b83aeaac239899f0c96fea2d907e4540ff455b52b62002adb46432edbf", func := "changeover/changeoverlaw14.MsgtwoEncodes", spec := "msgtwoEncodes", unfollowed := true, recurses := true, named := ["unicode/utf8.first", "unicode/utf8.acceptRanges"], apart := false, laid := [("unicode/utf8.acceptRanges", laid_unicode_utf8_acceptRanges), ("unicode/utf8.first", laid_unicode_utf8_first)] }
def MsgtwoEncodesSaid : Prop := msgtwoEncodesRow.holds Tryd.pinned (OpenSpec.ofChange msgtwoEncodesSpec)

/-- ITS FALSE NEIGHBOUR: 'it returns false'. Refute it at one input. -/
def msgtwoEncodesWrong : ChangeSpec := { name := "msgtwoEncodes", fn := fun _ => fun
  | [d] => { results := [.lit (.bool false)], args := [d] }
  | _ => none }
def MsgtwoEncodesWrongFalsely : Prop := msgtwoEncodesRow.holds Tryd.pinned (OpenSpec.ofChange msgtwoEncodesWrong)

/-- 'changeoverlaw14.MsgtwoDecodes': WHATEVER THE INPUT: true; the input reads as it did. -/
def msgtwoDecodesSpec : ChangeSpec := { name := "msgtwoDecodes", fn := fun _ => fun
  | [d] => { results := [.lit (.bool true)], args := [d] }
  | _ => none }
def msgtwoDecodesRow : OpenClaim := { program := "ytleamcddhlacfaadoor", sum := "2f05f4b83aeaac239899f0c96fea2d907e4540ff455b52b62002adb46432edbf", func := "changeover/changeoverlaw14.MsgtwoDecodes", spec := "msgtwoDecodes", unfollowed := true, recurses := true, named := ["unicode/utf8.first", "unicode/utf8.acceptRanges"], apart := false, laid := [("unicode/utf8.acceptRanges", laid_unicode_utf8_acceptRanges), ("unicode/utf8.first", laid_unicode_utf8_first)] }
def MsgtwoDecodesSaid : Prop := msgtwoDecodesRow.holds Tryd.pinned (OpenSpec.ofChange msgtwoDecodesSpec)

/-- ITS FALSE NEIGHBOUR: 'it returns false'. Refute it at one input. -/
def msgtwoDecodesWrong : ChangeSpec := { name := "msgtwoDecodes", fn := fun _ => fun
  | [d] => { results := [.lit (.bool false)], args := [d] }
  | _ => none }
def MsgtwoDecodesWrongFalsely : Prop := msgtwoDecodesRow.holds Tryd.pinned (OpenSpec.ofChange msgtwoDecodesWrong)

/- THE SECOND FORM. 'bulk': how many values and letters a reading holds, each counted each time it is reached (what is shared counts as often as it is met; a slice's spare places count too). A statement '..UptoSaid' is the law's where the arguments, and the package variables that the reading takes, are together of bulk at most 1048576: NARROWER than '..Said'. Prove '..Said' where nothing that the law and all that it calls make is longer than what came in: it says more and counts as full. Else prove '..UptoSaid'. A law counts once. -/
mutual
def uptoBulk {H : Type} : DataW H → Nat
  | .lit (.string bytes) => bytes.length + 1
  | .lit _ => 1
  | .nil => 1
  | .ptr d => uptoBulk d + 1
  | .slice elems spare => uptoBulkAll elems + uptoBulkAll spare + 1
  | .agg parts => uptoBulkAll parts + 1
  | .iface _ d => uptoBulk d + 1
  | .map entries => uptoBulkEntries entries + 1
  | .held _ => 1
def uptoBulkAll {H : Type} : List (DataW H) → Nat
  | [] => 0
  | d :: r => uptoBulk d + uptoBulkAll r
def uptoBulkEntries {H : Type} : List (Lit × DataW H) → Nat
  | [] => 0
  | x :: r => uptoBulkEntry x + uptoBulkEntries r
def uptoBulkEntry {H : Type} : Lit × DataW H → Nat
  | (.string bytes, d) => bytes.length + uptoBulk d + 1
  | (_, d) => uptoBulk d + 1
 end
def uptoSmall : (H : Type) → List (DataW H) → Bool := fun _ ds => decide (uptoBulkAll ds ≤ 1048576)
def OpenSpec.upto (s : _root_.Go.ChangeSpec) : _root_.Go.OpenSpec := { _root_.Go.OpenSpec.ofChange s with cond := some uptoSmall }

/-- 'changeoverlaw13.MsgoneChecks', WHERE WHAT IT READS IS OF BULK AT MOST 1048576: true; the input reads as it did. -/
def msgoneChecksUptoRow : OpenClaim := { program := "ytleamcddhlacfaadoor", sum := "2f05f4b83aeaac239899f0c96fea2d907e4540ff455b52b62002adb46432edbf", func := "changeover/changeoverlaw13.MsgoneChecks", spec := "msgoneChecks", unfollowed := true, recurses := true, named := ["unicode/utf8.first", "unicode/utf8.acceptRanges"], apart := false, laid := [("unicode/utf8.acceptRanges", laid_unicode_utf8_acceptRanges), ("unicode/utf8.first", laid_unicode_utf8_first)], narrowed := true }
def MsgoneChecksUptoSaid : Prop := msgoneChecksUptoRow.holds Tryd.pinned (OpenSpec.upto msgoneChecksSpec)

/-- 'changeoverlaw13.MsgoneDecodes', WHERE WHAT IT READS IS OF BULK AT MOST 1048576: true; the input reads as it did. -/
def msgoneDecodesUptoRow : OpenClaim := { program := "ytleamcddhlacfaadoor", sum := "2f05f4b83aeaac239899f0c96fea2d907e4540ff455b52b62002adb46432edbf", func := "changeover/changeoverlaw13.MsgoneDecodes", spec := "msgoneDecodes", unfollowed := true, recurses := true, named := ["unicode/utf8.first", "unicode/utf8.acceptRanges"], apart := false, laid := [("unicode/utf8.acceptRanges", laid_unicode_utf8_acceptRanges), ("unicode/utf8.first", laid_unicode_utf8_first)], narrowed := true }
def MsgoneDecodesUptoSaid : Prop := msgoneDecodesUptoRow.holds Tryd.pinned (OpenSpec.upto msgoneDecodesSpec)

/-- 'changeoverlaw14.MsgtwoEncodes', WHERE WHAT IT READS IS OF BULK AT MOST 1048576: true; the input reads as it did. -/
def msgtwoEncodesUptoRow : OpenClaim := { program := "ytleamcddhlacfaadoor", sum := "2f05f4b83aeaac239899f0c96fea2d907e4540ff455b52b62002adb46432edbf", func := "changeover/changeoverlaw14.MsgtwoEncodes", spec := "msgtwoEncodes", unfollowed := true, recurses := true, named := ["unicode/utf8.first", "unicode/utf8.acceptRanges"], apart := false, laid := [("unicode/utf8.acceptRanges", laid_unicode_utf8_acceptRanges), ("unicode/utf8.first", laid_unicode_utf8_first)], narrowed := true }
def MsgtwoEncodesUptoSaid : Prop := msgtwoEncodesUptoRow.holds Tryd.pinned (OpenSpec.upto msgtwoEncodesSpec)

/-- 'changeoverlaw14.MsgtwoDecodes', WHERE WHAT IT READS IS OF BULK AT MOST 1048576: true; the input reads as it did. -/
def msgtwoDecodesUptoRow : OpenClaim := { program := "ytleamcddhlacfaadoor", sum := "2f05f4b83aeaac239899f0c96fea2d907e4540ff455b52b62002adb46432edbf", func := "changeover/changeoverlaw14.MsgtwoDecodes", spec := "msgtwoDecodes", unfollowed := true, recurses := true, named := ["unicode/utf8.first", "unicode/utf8.acceptRanges"], apart := false, laid := [("unicode/utf8.acceptRanges", laid_unicode_utf8_acceptRanges), ("unicode/utf8.first", laid_unicode_utf8_first)], narrowed := true }
def MsgtwoDecodesUptoSaid : Prop := msgtwoDecodesUptoRow.holds Tryd.pinned (OpenSpec.upto msgtwoDecodesSpec)

end Rows
end Go.Proofs.YtleamcddhlacfaaDoor
