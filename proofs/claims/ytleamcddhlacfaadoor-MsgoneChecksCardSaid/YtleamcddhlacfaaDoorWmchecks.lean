/- The law MsgoneChecks as a plain law. No condition. -/
import Derived.Test.YtleamcddhlacfaaDoorVmsg6
import Derived.Test.YtleamcddhlacfaaDoorVaw13
import Derived.Test.YtleamcddhlacfaaDoorVlarge
import Derived.Test.YtleamcddhlacfaaDoorAh
set_option maxRecDepth 100000
set_option linter.unusedVariables false
set_option linter.unusedSimpArgs false
namespace Go.Proofs.YtleamcddhlacfaaDoor.V
open Go Go.Proofs.AbsV
def TW1 : FuncId → Option CSpec := tab [(7, largeMSp2), (9, chkMSp), (10, chkMSp), (11, sameMSp), (12, sameMSp), (8, awakeSp)]
theorem tokW1 : TOK Tryd.prog env TW1 := tok_tab mixed ⟨mlarge2_ok, mchk_ok, rmchk_ok, msame_ok, rmsame_ok, awake13_ok, trivial⟩
theorem fn_wmc : FnOK Tryd.prog 3 Tryd.f3 := ⟨by kernel_rfl, by kernel_rfl, by kernel_rfl⟩
def wmc_hv : Keeps := fun _ => none
theorem wmc_in {α : Type} (F : Nat) (kd fr to br bn ix cm vs : Int) (es : List EntD) (im : List Int) (kd2 fr2 to2 br2 bn2 ix2 cm2 vs2 : Int) (es2 : List EntD) (im2 : List Int) (k : AV → List Box2 → Option α) : runF env TW1 noInl wmc_hv F Tryd.f3 [.agg (msgC kd fr to br bn ix cm vs es im), .agg (msgC kd2 fr2 to2 br2 bn2 ix2 cm2 vs2 es2 im2)] [] (fun r bx => k r []) =
    bif !largeM (kd, fr, to, (br, bn, PUnit.unit), ix, cm, vs, es, im, PUnit.unit) then bif largeM (kd2, fr2, to2, (br2, bn2, PUnit.unit), ix2, cm2, vs2, es2, im2, PUnit.unit) then k (AV.bool true) [] else bif gEs es then bif gEs es then bif chkM (kd, fr, to, (br, bn, PUnit.unit), ix, cm, vs, es, im, PUnit.unit) == chkM (kd, fr, to, (br, bn, PUnit.unit), ix, cm, vs, es, im, PUnit.unit) then bif gS (kd, fr, to, (br, bn, PUnit.unit), ix, cm, vs, es, im, PUnit.unit) then bif gS (kd, fr, to, (br, bn, PUnit.unit), ix, cm, vs, es, im, PUnit.unit) then bif sameM (kd, fr, to, (br, bn, PUnit.unit), ix, cm, vs, es, im, PUnit.unit) (kd2, fr2, to2, (br2, bn2, PUnit.unit), ix2, cm2, vs2, es2, im2, PUnit.unit) == sameM (kd, fr, to, (br, bn, PUnit.unit), ix, cm, vs, es, im, PUnit.unit) (kd2, fr2, to2, (br2, bn2, PUnit.unit), ix2, cm2, vs2, es2, im2, PUnit.unit) then bif gS (kd, fr, to, (br, bn, PUnit.unit), ix, cm, vs, es, im, PUnit.unit) then bif sameM (kd, fr, to, (br, bn, PUnit.unit), ix, cm, vs, es, im, PUnit.unit) (kd, fr, to, (br, bn, PUnit.unit), ix, cm, vs, es, im, PUnit.unit) then k (AV.bool true) [] else k (AV.bool false) [] else none else k (AV.bool false) [] else none else none else k (AV.bool false) [] else none else none else k (AV.bool true) [] := by kernel_rfl
theorem wmc_run (kd fr to br bn ix cm vs : Int) (es : List EntD) (im : List Int) (kd2 fr2 to2 br2 bn2 ix2 cm2 vs2 : Int) (es2 : List EntD) (im2 : List Int) :
    runF env TW1 noInl wmc_hv 0 Tryd.f3 [.agg (msgC kd fr to br bn ix cm vs es im), .agg (msgC kd2 fr2 to2 br2 bn2 ix2 cm2 vs2 es2 im2)] [] (fun r bx => some r) = some (.bool true) := by
  refine (wmc_in 0 kd fr to br bn ix cm vs es im kd2 fr2 to2 br2 bn2 ix2 cm2 vs2 es2 im2 (fun r _ => some r)).trans ?_
  cases h1 : largeM (kd, fr, to, (br, bn, PUnit.unit), ix, cm, vs, es, im, PUnit.unit) with
  | true => rfl
  | false =>
    cases h2 : largeM (kd2, fr2, to2, (br2, bn2, PUnit.unit), ix2, cm2, vs2, es2, im2, PUnit.unit) with
    | true => rfl
    | false =>
      obtain ⟨g1, g2, _, _⟩ := large_g h1
      have g1 : gEs es = true := g1
      rw [g1, g2, sameM_refl, beq_self_eq_true, beq_self_eq_true]
      rfl
def msgoneChecksSp : List AV → List (Bool × AV)
  | [x, y] => match msgIn x, msgIn y with
    | some m, some o => [(true, .bool true)]
    | _, _ => []
  | _ => []
theorem msgoneChecks_ok : PureOK Tryd.prog env 3 msgoneChecksSp := by
  refine PureOK.of_reads envOK tokW1 noInl_ok fn_wmc (hv := wmc_hv) (fun args r h => ?_)
  unfold msgoneChecksSp at h
  split at h
  · split at h
    · rename_i m o hm ho
      cases h
      exact ⟨_, 0, .dat (τ := MT) hm (.dat (τ := MT) ho .nil), wmc_run m.1 m.2.1 m.2.2.1 m.2.2.2.1.1 m.2.2.2.1.2.1 m.2.2.2.2.1 m.2.2.2.2.2.1 m.2.2.2.2.2.2.1 m.2.2.2.2.2.2.2.1 m.2.2.2.2.2.2.2.2.1 o.1 o.2.1 o.2.2.1 o.2.2.2.1.1 o.2.2.2.1.2.1 o.2.2.2.2.1 o.2.2.2.2.2.1 o.2.2.2.2.2.2.1 o.2.2.2.2.2.2.2.1 o.2.2.2.2.2.2.2.2.1⟩
    · cases h
  · cases h
theorem msgoneChecks_true (d : DenL ([(true, MT), (true, MT)].map (·.2))) (h : WfL _ d) : sel (msgoneChecksSp (argsA [(true, MT), (true, MT)] d)) = some (.bool true) := rfl
end Go.Proofs.YtleamcddhlacfaaDoor.V
