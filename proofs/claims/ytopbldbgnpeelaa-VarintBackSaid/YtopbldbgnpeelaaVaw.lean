/- The waking call of the law01 group. No condition. -/
import Derived.Test.YtopbldbgnpeelaaVlen
set_option maxRecDepth 100000
set_option linter.unusedVariables false
namespace Go.Proofs.Ytopbldbgnpeelaa.V
open Go Go.Proofs.AbsV
theorem fnAwake : FnOK Try.prog 19 Try.f19 := ⟨by kernel_rfl, by kernel_rfl, by kernel_rfl⟩
def T3 : FuncId → Option CSpec := tab [(22, putSp 5), (23, lenSp)]
theorem tok3 : TOK Try.prog env T3 := tok_tab mixed ⟨put_ok, len_ok, trivial⟩
def awakeSp : List AV → List (Bool × AV)
  | [] => [(true, .bool true)]
  | _ => []
theorem awake_in (F : Nat) (k : AV → List Box2 → Option AV) : runF env T3 noInl (keep [] []) F Try.f19 [] [] k = k (.bool true) [] := by kernel_rfl
theorem awake_ok : PureOK Try.prog env 19 awakeSp := by
  refine PureOK.of_reads envOK tok3 noInl_ok fnAwake (hv := keep [] []) (fun args r h => ?_)
  unfold awakeSp at h
  split at h
  · cases h; exact ⟨[], 0, .nil, awake_in 0 _⟩
  · cases h
def T4 : FuncId → Option CSpec := tab [(22, putSp 5), (23, lenSp), (20, bytesSp), (21, sameSp), (19, awakeSp)]
theorem tok4 : TOK Try.prog env T4 := tok_tab mixed ⟨put_ok, len_ok, bytes_ok, same_ok, awake_ok, trivial⟩
end Go.Proofs.Ytopbldbgnpeelaa.V
