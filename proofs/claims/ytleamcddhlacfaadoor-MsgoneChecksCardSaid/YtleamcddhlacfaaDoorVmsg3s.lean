/- msgone.Same: the run. No condition. -/
import Derived.Test.YtleamcddhlacfaaDoorVmsg3
set_option maxRecDepth 100000
set_option linter.unusedVariables false
set_option linter.unusedSimpArgs false
namespace Go.Proofs.YtleamcddhlacfaaDoor.V
open Go Go.Proofs.AbsV
theorem fn_msame1 : FnOK Tryd.prog 32 Tryd.f32 := ⟨by kernel_rfl, by kernel_rfl, by kernel_rfl⟩
theorem msame1_in {α : Type} (F : Nat) (kd fr to br bn ix cm vs : Int) (es : List EntD) (im : List Int) (k : AV → List Box2 → Option α) : runF env T0 noInl (fun _ => none) F Tryd.f32 [.agg (msgC kd fr to br bn ix cm vs es im)] [] (fun r bx => k r []) =
    k (.agg [.int .i64 kd, .int .i64 fr, .int .i64 to, .int .i64 br, .int .i64 bn, .int .i64 ix, .int .i64 cm, .int .i64 vs]) [] := by kernel_rfl
def numD (m : MsgD) : AV := .agg [.int .i64 m.1, .int .i64 m.2.1, .int .i64 m.2.2.1, .int .i64 m.2.2.2.1.1, .int .i64 m.2.2.2.1.2.1, .int .i64 m.2.2.2.2.1, .int .i64 m.2.2.2.2.2.1, .int .i64 m.2.2.2.2.2.2.1]
def numSp : List AV → List (Bool × AV)
  | [x] => match datIn MT x with
    | some m => [(true, numD m)]
    | none => []
  | _ => []
def TM6 : FuncId → Option CSpec := tab [(32, numSp), (33, sameESp), (34, sameBSp)]
theorem fn_msame : FnOK Tryd.prog 11 Tryd.f11 := ⟨by kernel_rfl, by kernel_rfl, by kernel_rfl⟩
def msame_hv : Keeps := fun _ => none
theorem msame_in {α : Type} (F : Nat) (kd fr to br bn ix cm vs : Int) (es : List EntD) (im : List Int) (kd2 fr2 to2 br2 bn2 ix2 cm2 vs2 : Int) (es2 : List EntD) (im2 : List Int) (k : AV → List Box2 → Option α) : runF env TM6 noInl msame_hv F Tryd.f11 [.agg (msgC kd fr to br bn ix cm vs es im), .agg (msgC kd2 fr2 to2 br2 bn2 ix2 cm2 vs2 es2 im2)] [] (fun r bx => k r []) =
    bif kd == kd2 && (fr == fr2 && (to == to2 && (br == br2 && (bn == bn2 && (ix == ix2 && (cm == cm2 && (vs == vs2 && true))))))) then bif Nat.ble (List.length es) 1000000000000 then bif sameEs es es2 then bif Nat.ble (List.length im) 1000000000000 then k (AV.bool (sameBs im im2)) [] else none else k (AV.bool false) [] else none else k (AV.bool false) [] := by kernel_rfl
end Go.Proofs.YtleamcddhlacfaaDoor.V
