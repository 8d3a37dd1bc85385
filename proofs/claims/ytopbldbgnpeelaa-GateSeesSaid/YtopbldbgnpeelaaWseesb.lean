/- The law GateSees, as the given row wants it. No condition. -/
import Derived.Test.YtopbldbgnpeelaaWsees
set_option maxRecDepth 100000
set_option linter.unusedVariables false
namespace Go.Proofs.Ytopbldbgnpeelaa.V
open Go Go.Proofs.AbsV
def gateSeesSp : List AV → List (Bool × AV)
  | [.agg [.int .i64 a, .int .i64 ver], .sl (.pair (.int .i64) (.pair (.int .i64) .unit)) xs none none, .int .i64 of] => [(true, .bool true)]
  | _ => []
theorem gateSees_ok : PureOK Try.prog env 8 gateSeesSp := by
  refine PureOK.of_reads envOK tok11 sinl_ok fnGateSees (hv := sKeep) (fun args r h => ?_)
  unfold gateSeesSp at h
  split at h
  · rename_i a ver xs of
    cases h
    exact ⟨_, _, fun _ _ h => h, gateSees_run a ver of xs (fun r => some r)⟩
  · cases h
theorem gateSees_true (d : DenL ([(true, twoT), (false, Ty.sl twoT), (false, Ty.int .i64)].map (·.2))) (h : WfL _ d) : sel (gateSeesSp (argsA [(true, twoT), (false, Ty.sl twoT), (false, Ty.int .i64)] d)) = some (.bool true) := rfl
end Go.Proofs.Ytopbldbgnpeelaa.V
