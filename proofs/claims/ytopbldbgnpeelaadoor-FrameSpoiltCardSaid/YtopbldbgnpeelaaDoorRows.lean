/-
  NARROWER THAN 'FOR EVERY INPUT', by the rows' own cells (each row's printed sentence says how): FrameAdds: laid · FrameSpoilt: laid · FrameNexts: laid · FrameCut: laid.
  DERIVED. THE GIVEN ROWS OF THIS SEAT. 4 by the template 'for every input the law returns true; each argument reads behind the call as it read before'; 0 by the template 'total and deterministic' (their statements: YtopbldbgnpeelaaDoorTotals.lean).
  GIVEN WITH THE SEED: the statements are not yours to turn. If you find one false, say at which input.
  Laid BY PROGRAM, IN A SANDBOX (cutbox-rows.mjs): the forced cells as the released guide's own fill.sh prints them over the translation 5188ecaab46d3e84… (all of the seat's roots in one cut). By AI agents, Wed Nov 11 2026. No macro, syntax, notation, axiom, sorry.
-/
import Derived.Test.YtopbldbgnpeelaaDoorChecked
import GoSem.Claim
import GoSem.ClaimJoined
import GoSem.ClaimMapViews
import Derived.JoinedTies
import Derived.KernelRfl
namespace Go.Proofs.YtopbldbgnpeelaaDoor
/- THE CELL 'sum', in the pinned program and in every row, IS THE sha256 OF THE DUMP (.gsa) THAT YtopbldbgnpeelaaDoorProg.lean LOADS. Nothing in Lean hashes anything: it is a label: what it is worth is what the hold of that sum in a sandbox is worth. -/
noncomputable def Tryd.pinned : Pinned := { name := "ytopbldbgnpeelaadoor", sum := "5188ecaab46d3e845e698866c5dd3d050c519239386785089e99e0b4979160cb", checked := Tryd.checked }
namespace Rows
def none {H : Type} : Left H := { results := [], args := [] }

/- WHAT THE LISTED PACKAGE-LEVEL VARIABLES READ AS WHEN THE CALL BEGINS. Each datum BY PROGRAM (the guide's laid-datum.mjs) off the statement by which the dump's own 'gosem.cut.vars' lays the variable. In a bare row this is a premise. The card (YtopbldbgnpeelaaDoorCards.lean) ties it to the program's text. -/
def laid_changeover_crc_table {H : Type} : DataW H := .agg [.lit (.int .u32 0), .lit (.int .u32 498536548), .lit (.int .u32 997073096), .lit (.int .u32 651767980), .lit (.int .u32 1994146192), .lit (.int .u32 1802195444), .lit (.int .u32 1303535960), .lit (.int .u32 1342533948), .lit (.int .u32 3988292384), .lit (.int .u32 4027552580), .lit (.int .u32 3604390888), .lit (.int .u32 3412177804), .lit (.int .u32 2607071920), .lit (.int .u32 2262029012), .lit (.int .u32 2685067896), .lit (.int .u32 3183342108)]

/-- 'changeoverlaw03.FrameAdds': WHATEVER THE INPUT: true; the input reads as it did. -/
def frameAddsSpec : ChangeSpec := { name := "frameAdds", fn := fun _ => fun
  | [d1, d2] => { results := [.lit (.bool true)], args := [d1, d2] }
  | _ => none }
def frameAddsRow : OpenClaim := { program := "ytopbldbgnpeelaadoor", sum := "5188ecaab46d3e845e698866c5dd3d050c519239386785089e99e0b4979160cb", func := "changeover/changeoverlaw03.FrameAdds", spec := "frameAdds", named := ["changeover/crc.table"], apart := false, laid := [("changeover/crc.table", laid_changeover_crc_table)] }
def FrameAddsSaid : Prop := frameAddsRow.holds Tryd.pinned (OpenSpec.ofChange frameAddsSpec)

/-- ITS FALSE NEIGHBOUR: 'it returns false'. Refute it at one input. -/
def frameAddsWrong : ChangeSpec := { name := "frameAdds", fn := fun _ => fun
  | [d1, d2] => { results := [.lit (.bool false)], args := [d1, d2] }
  | _ => none }
def FrameAddsWrongFalsely : Prop := frameAddsRow.holds Tryd.pinned (OpenSpec.ofChange frameAddsWrong)

/-- 'changeoverlaw03.FrameSpoilt': WHATEVER THE INPUT: true; the input reads as it did. -/
def frameSpoiltSpec : ChangeSpec := { name := "frameSpoilt", fn := fun _ => fun
  | [d1, d2, d3] => { results := [.lit (.bool true)], args := [d1, d2, d3] }
  | _ => none }
def frameSpoiltRow : OpenClaim := { program := "ytopbldbgnpeelaadoor", sum := "5188ecaab46d3e845e698866c5dd3d050c519239386785089e99e0b4979160cb", func := "changeover/changeoverlaw03.FrameSpoilt", spec := "frameSpoilt", named := ["changeover/crc.table"], apart := false, laid := [("changeover/crc.table", laid_changeover_crc_table)] }
def FrameSpoiltSaid : Prop := frameSpoiltRow.holds Tryd.pinned (OpenSpec.ofChange frameSpoiltSpec)

/-- ITS FALSE NEIGHBOUR: 'it returns false'. Refute it at one input. -/
def frameSpoiltWrong : ChangeSpec := { name := "frameSpoilt", fn := fun _ => fun
  | [d1, d2, d3] => { results := [.lit (.bool false)], args := [d1, d2, d3] }
  | _ => none }
def FrameSpoiltWrongFalsely : Prop := frameSpoiltRow.holds Tryd.pinned (OpenSpec.ofChange frameSpoiltWrong)

/-- 'changeoverlaw03.FrameNexts': WHATEVER THE INPUT: true; the input reads as it did. -/
def frameNextsSpec : ChangeSpec := { name := "frameNexts", fn := fun _ => fun
  | [d1, d2] => { results := [.lit (.bool true)], args := [d1, d2] }
  | _ => none }
def frameNextsRow : OpenClaim := { program := "ytopbldbgnpeelaadoor", sum := "5188ecaab46d3e845e698866c5dd3d050c519239386785089e99e0b4979160cb", func := "changeover/changeoverlaw03.FrameNexts", spec := "frameNexts", unfollowed := true, recurses := true, named := ["changeover/crc.table"], apart := false, laid := [("changeover/crc.table", laid_changeover_crc_table)] }
def FrameNextsSaid : Prop := frameNextsRow.holds Tryd.pinned (OpenSpec.ofChange frameNextsSpec)

/-- ITS FALSE NEIGHBOUR: 'it returns false'. Refute it at one input. -/
def frameNextsWrong : ChangeSpec := { name := "frameNexts", fn := fun _ => fun
  | [d1, d2] => { results := [.lit (.bool false)], args := [d1, d2] }
  | _ => none }
def FrameNextsWrongFalsely : Prop := frameNextsRow.holds Tryd.pinned (OpenSpec.ofChange frameNextsWrong)

/-- 'changeoverlaw03.FrameCut': WHATEVER THE INPUT: true; the input reads as it did. -/
def frameCutSpec : ChangeSpec := { name := "frameCut", fn := fun _ => fun
  | [d1, d2] => { results := [.lit (.bool true)], args := [d1, d2] }
  | _ => none }
def frameCutRow : OpenClaim := { program := "ytopbldbgnpeelaadoor", sum := "5188ecaab46d3e845e698866c5dd3d050c519239386785089e99e0b4979160cb", func := "changeover/changeoverlaw03.FrameCut", spec := "frameCut", unfollowed := true, recurses := true, named := ["changeover/crc.table"], apart := false, laid := [("changeover/crc.table", laid_changeover_crc_table)] }
def FrameCutSaid : Prop := frameCutRow.holds Tryd.pinned (OpenSpec.ofChange frameCutSpec)

/-- ITS FALSE NEIGHBOUR: 'it returns false'. Refute it at one input. -/
def frameCutWrong : ChangeSpec := { name := "frameCut", fn := fun _ => fun
  | [d1, d2] => { results := [.lit (.bool false)], args := [d1, d2] }
  | _ => none }
def FrameCutWrongFalsely : Prop := frameCutRow.holds Tryd.pinned (OpenSpec.ofChange frameCutWrong)

/- THE SECOND FORM. 'bulk': how many values and letters a reading holds, each counted each time it is reached (what is shared counts as often as it is met; a slice's spare places count too). A statement '..UptoSaid' is the law's where the arguments, and the package variables that the reading takes, are together of bulk at most 1048576: NARROWER than '..Said'. Prove '..Said' where nothing that the law and all that it calls make is longer than what came in: it says more and counts as full. Else prove '..UptoSaid'. A law counts once. -/
mutual
def uptoBulk {H : Type} : DataW H → Nat
  | .lit (.string bytes) => bytes.length + 1
  | .lit _ => 1
  | .nil => 1
  | .ptr d => uptoBulk d + 1
  | .slice elems spare => uptoBulkAll elems + uptoBulkAll spare + 1
  | .agg parts => uptoBulkAll parts + 1
  | .iface _ d => uptoBulk d + 1
  | .map entries => uptoBulkEntries entries + 1
  | .held _ => 1
def uptoBulkAll {H : Type} : List (DataW H) → Nat
  | [] => 0
  | d :: r => uptoBulk d + uptoBulkAll r
def uptoBulkEntries {H : Type} : List (Lit × DataW H) → Nat
  | [] => 0
  | x :: r => uptoBulkEntry x + uptoBulkEntries r
def uptoBulkEntry {H : Type} : Lit × DataW H → Nat
  | (.string bytes, d) => bytes.length + uptoBulk d + 1
  | (_, d) => uptoBulk d + 1
 end
def uptoSmall : (H : Type) → List (DataW H) → Bool := fun _ ds => decide (uptoBulkAll ds ≤ 1048576)
def OpenSpec.upto (s : _root_.Go.ChangeSpec) : _root_.Go.OpenSpec := { _root_.Go.OpenSpec.ofChange s with cond := some uptoSmall }

/-- 'changeoverlaw03.FrameAdds', WHERE WHAT IT READS IS OF BULK AT MOST 1048576: true; the input reads as it did. -/
def frameAddsUptoRow : OpenClaim := { program := "ytopbldbgnpeelaadoor", sum := "5188ecaab46d3e845e698866c5dd3d050c519239386785089e99e0b4979160cb", func := "changeover/changeoverlaw03.FrameAdds", spec := "frameAdds", named := ["changeover/crc.table"], apart := false, laid := [("changeover/crc.table", laid_changeover_crc_table)], narrowed := true }
def FrameAddsUptoSaid : Prop := frameAddsUptoRow.holds Tryd.pinned (OpenSpec.upto frameAddsSpec)

/-- 'changeoverlaw03.FrameSpoilt', WHERE WHAT IT READS IS OF BULK AT MOST 1048576: true; the input reads as it did. -/
def frameSpoiltUptoRow : OpenClaim := { program := "ytopbldbgnpeelaadoor", sum := "5188ecaab46d3e845e698866c5dd3d050c519239386785089e99e0b4979160cb", func := "changeover/changeoverlaw03.FrameSpoilt", spec := "frameSpoilt", named := ["changeover/crc.table"], apart := false, laid := [("changeover/crc.table", laid_changeover_crc_table)], narrowed := true }
def FrameSpoiltUptoSaid : Prop := frameSpoiltUptoRow.holds Tryd.pinned (OpenSpec.upto frameSpoiltSpec)

/-- 'changeoverlaw03.FrameNexts', WHERE WHAT IT READS IS OF BULK AT MOST 1048576: true; the input reads as it did. -/
def frameNextsUptoRow : OpenClaim := { program := "ytopbldbgnpeelaadoor", sum := "5188ecaab46d3e845e698866c5dd3d050c519239386785089e99e0b4979160cb", func := "changeover/changeoverlaw03.FrameNexts", spec := "frameNexts", unfollowed := true, recurses := true, named := ["changeover/crc.table"], apart := false, laid := [("changeover/crc.table", laid_changeover_crc_table)], narrowed := true }
def FrameNextsUptoSaid : Prop := frameNextsUptoRow.holds Tryd.pinned (OpenSpec.upto frameNextsSpec)

/-- 'changeoverlaw03.FrameCut', WHERE WHAT IT READS IS OF BULK AT MOST 1048576: true; the input reads as it did. -/
def frameCutUptoRow : OpenClaim := { program := "ytopbldbgnpeelaadoor", sum := "5188ecaab46d3e845e698866c5dd3d050c519239386785089e99e0b4979160cb", func := "changeover/changeoverlaw03.FrameCut", spec := "frameCut", unfollowed := true, recurses := true, named := ["changeover/crc.table"], apart := false, laid := [("changeover/crc.table", laid_changeover_crc_table)], narrowed := true }
def FrameCutUptoSaid : Prop := frameCutUptoRow.holds Tryd.pinned (OpenSpec.upto frameCutSpec)

end Rows
end Go.Proofs.YtopbldbgnpeelaaDoor
