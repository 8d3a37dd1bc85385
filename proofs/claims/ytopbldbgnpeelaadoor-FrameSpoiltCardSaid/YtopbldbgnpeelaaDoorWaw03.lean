/- The waking call of the Frame laws. No condition. -/
import Derived.Test.YtopbldbgnpeelaaDoorVframe3
set_option maxRecDepth 100000
set_option linter.unusedVariables false
set_option linter.unusedSimpArgs false
namespace Go.Proofs.YtopbldbgnpeelaaDoor.V
open Go Go.Proofs.AbsV
def TA3 : FuncId → Option CSpec := tab [(8, faddSp), (9, flenSp)]
theorem tokA3 : TOK Tryd.prog env TA3 := tok_tab mixed ⟨fadd_ok, flen_ok, trivial⟩
theorem fnAwake03 : FnOK Tryd.prog 7 Tryd.f7 := ⟨by kernel_rfl, by kernel_rfl, by kernel_rfl⟩
theorem awake03_in (k : AV → List Box2 → Option AV) : runF env TA3 noInl (fun _ => none) 0 Tryd.f7 [] [] k = k (.bool true) [] := by kernel_rfl
def awakeSp03 : List AV → List (Bool × AV)
  | [] => [(true, .bool true)]
  | _ => []
theorem awake03_ok : PureOK Tryd.prog env 7 awakeSp03 := by
  refine PureOK.of_reads envOK tokA3 noInl_ok fnAwake03 (hv := fun _ => none) (fun args r h => ?_)
  unfold awakeSp03 at h
  split at h
  · cases h; exact ⟨[], 0, .nil, awake03_in _⟩
  · cases h
end Go.Proofs.YtopbldbgnpeelaaDoor.V
