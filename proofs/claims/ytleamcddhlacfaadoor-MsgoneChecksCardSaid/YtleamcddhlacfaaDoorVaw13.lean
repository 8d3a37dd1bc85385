/- The waking call of the law13 group. No condition. -/
import Derived.Test.YtleamcddhlacfaaDoorVmsg5
set_option maxRecDepth 100000
set_option linter.unusedVariables false
set_option linter.unusedSimpArgs false
namespace Go.Proofs.YtleamcddhlacfaaDoor.V
open Go Go.Proofs.AbsV
theorem fnA0 : FnOK Tryd.prog 22 Tryd.f22 := ⟨by kernel_rfl, by kernel_rfl, by kernel_rfl⟩
theorem fnA1 : FnOK Tryd.prog 39 Tryd.f39 := ⟨by kernel_rfl, by kernel_rfl, by kernel_rfl⟩
theorem fnA2 : FnOK Tryd.prog 64 Tryd.f64 := ⟨by kernel_rfl, by kernel_rfl, by kernel_rfl⟩
theorem fnA3 : FnOK Tryd.prog 85 Tryd.f85 := ⟨by kernel_rfl, by kernel_rfl, by kernel_rfl⟩
theorem fnA4 : FnOK Tryd.prog 84 Tryd.f84 := ⟨by kernel_rfl, by kernel_rfl, by kernel_rfl⟩
theorem fnA5 : FnOK Tryd.prog 101 Tryd.f101 := ⟨by kernel_rfl, by kernel_rfl, by kernel_rfl⟩
theorem fnA6 : FnOK Tryd.prog 43 Tryd.f43 := ⟨by kernel_rfl, by kernel_rfl, by kernel_rfl⟩
theorem fnA7 : FnOK Tryd.prog 46 Tryd.f46 := ⟨by kernel_rfl, by kernel_rfl, by kernel_rfl⟩
theorem fnA8 : FnOK Tryd.prog 52 Tryd.f52 := ⟨by kernel_rfl, by kernel_rfl, by kernel_rfl⟩
theorem fnA9 : FnOK Tryd.prog 51 Tryd.f51 := ⟨by kernel_rfl, by kernel_rfl, by kernel_rfl⟩
noncomputable def afns : List (FuncId × Func) := [(22, Tryd.f22), (39, Tryd.f39), (64, Tryd.f64), (85, Tryd.f85), (84, Tryd.f84), (101, Tryd.f101), (43, Tryd.f43), (46, Tryd.f46), (52, Tryd.f52), (51, Tryd.f51)]
theorem afns_ok : FnsOK Tryd.prog afns := ⟨fnA0, fnA1, fnA2, fnA3, fnA4, fnA5, fnA6, fnA7, fnA8, fnA9, trivial⟩
def TA1 : FuncId → Option CSpec := tabG [(22, .inl), (39, .inl), (64, .inl), (85, .inl), (84, .inl), (101, .inl), (43, .inl), (46, .inl), (52, .inl), (51, .inl), (66, .pure (putSp 5)), (59, .pure (cloneSp B 5 1)), (9, .pure chkMSp)]
theorem tokA1 : TOK Tryd.prog env TA1 := tok_tabG mixed ⟨trivial, trivial, trivial, trivial, trivial, trivial, trivial, trivial, trivial, trivial, put_ok, clone_ok, mchk_ok, trivial⟩
noncomputable def ainl : Inl AV := inlD env TA1 (fnsOf afns) (fun _ => allK) 12 10
theorem ainl_ok : InlOK Tryd.prog env ainl := inlD_ok envOK tokA1 (fnsOf_ok afns_ok) 10
theorem fnAwake13 : FnOK Tryd.prog 8 Tryd.f8 := ⟨by kernel_rfl, by kernel_rfl, by kernel_rfl⟩
theorem awake13_in : runF env TA1 ainl allK 12 Tryd.f8 [] [] (fun r bx => some r) = some (.bool true) := by kernel_rfl
def awakeSp : List AV → List (Bool × AV)
  | [] => [(true, .bool true)]
  | _ => []
theorem awake13_ok : PureOK Tryd.prog env 8 awakeSp := by
  refine PureOK.of_reads envOK tokA1 ainl_ok fnAwake13 (hv := allK) (fun args r h => ?_)
  unfold awakeSp at h
  split at h
  · cases h; exact ⟨[], 12, .nil, awake13_in⟩
  · cases h
end Go.Proofs.YtleamcddhlacfaaDoor.V
