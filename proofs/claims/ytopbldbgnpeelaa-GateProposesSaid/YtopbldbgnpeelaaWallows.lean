/- The law GateAllows as a plain law. No condition. -/
import Derived.Test.YtopbldbgnpeelaaVgate
import Derived.Test.YtopbldbgnpeelaaAh
set_option maxRecDepth 100000
set_option linter.unusedVariables false
set_option linter.unusedSimpArgs false
namespace Go.Proofs.Ytopbldbgnpeelaa.V
open Go Go.Proofs.AbsV

/-! ### vers.May, vers.Has, gate.is -/
def mayB (v : Int) : Bool := v == 1 || v == 2
def maySp : List AV → List (Bool × AV)
  | [.int .i64 v] => [(true, .bool (mayB v))]
  | _ => []
theorem may_in (n : Int) (k : AV → List Box2 → Option AV) : runF env T0 noInl allKept 0 Try.f16 [.int .i64 n] [] k = bif n == 1 then k (.bool true) [] else bif n == 2 then k (.bool true) [] else k (.bool false) [] := by kernel_rfl
theorem may_ok : PureOK Try.prog env 16 maySp := by
  refine PureOK.of_reads envOK tok0 noInl_ok fnMay (hv := allKept) (fun args r h => ?_)
  unfold maySp at h
  split at h
  · rename_i v
    simp only [sel, cond_true, Option.some.injEq] at h
    subst h
    refine ⟨_, 0, fun _ _ h => h, (may_in v _).trans ?_⟩
    unfold mayB
    cases (v == 1) <;> cases (v == 2) <;> rfl
  · cases h
def hasB (v n : Int) : Bool := mayB v && (n == 1 || n == 2 || n == 3 || n == 4 || n == 6 || n == 7 || n == 8 || (n == 5 && decide (v ≥ 2)))
def hasSp : List AV → List (Bool × AV)
  | [.int .i64 v, .int .i64 n] => [(true, .bool (hasB v n))]
  | _ => []
def T6 : FuncId → Option CSpec := tab [(16, maySp)]
theorem tok6 : TOK Try.prog env T6 := tok_tab mixed ⟨may_ok, trivial⟩
theorem has_in (v n : Int) (k : AV → List Box2 → Option AV) : runF env T6 noInl allKept 0 Try.f17 [.int .i64 v, .int .i64 n] [] k =
    bif !mayB v then k (.bool false) []
    else bif n == 1 then k (.bool true) []
    else bif n == 2 then k (.bool true) []
    else bif n == 3 then k (.bool true) []
    else bif n == 4 then k (.bool true) []
    else bif n == 6 then k (.bool true) []
    else bif n == 7 then k (.bool true) []
    else bif n == 8 then k (.bool true) []
    else bif n == 5 then k (.bool (decide (v ≥ 2))) [] else k (.bool false) [] := by kernel_rfl
theorem has_ok : PureOK Try.prog env 17 hasSp := by
  refine PureOK.of_reads envOK tok6 noInl_ok fnHas (hv := allKept) (fun args r h => ?_)
  unfold hasSp at h
  split at h
  · rename_i v n
    simp only [sel, cond_true, Option.some.injEq] at h
    subst h
    refine ⟨_, 0, fun _ _ h => h, (has_in v n _).trans ?_⟩
    unfold hasB
    cases mayB v
    · rfl
    · cases (n == 1)
      · cases (n == 2)
        · cases (n == 3)
          · cases (n == 4)
            · cases (n == 6)
              · cases (n == 7)
                · cases (n == 8)
                  · cases (n == 5)
                    · rfl
                    · simp
                  · rfl
                · rfl
              · rfl
            · rfl
          · rfl
        · rfl
      · rfl
  · cases h

/-! ### gate.Allowed and changeoverref36.Allowed -/
theorem fnAllowed : FnOK Try.prog 34 Try.f34 := ⟨by kernel_rfl, by kernel_rfl, by kernel_rfl⟩
theorem fnRefAllowed : FnOK Try.prog 35 Try.f35 := ⟨by kernel_rfl, by kernel_rfl, by kernel_rfl⟩
def allowC (v a i n : Int) : Int := bif !hasB v n then 8 else bif !hasB 1 n then (bif a == 0 then 14 else bif decide (a ≥ i) then 14 else 0) else 0
def allowSp : List AV → List (Bool × AV)
  | [.int .i64 v, .int .i64 a, .int .i64 i, .agg [.int .i64 n, .int .i64 x, .int .i64 y, .str s, .str t, .str u, .int .i64 z]] => [(true, .int .i64 (allowC v a i n))]
  | _ => []
def T7 : FuncId → Option CSpec := tab [(17, hasSp)]
theorem tok7 : TOK Try.prog env T7 := tok_tab mixed ⟨has_ok, trivial⟩
theorem allow_in (v a i n x y z : Int) (s t u : ByteArray) (k : AV → List Box2 → Option AV) : runF env T7 noInl allKept 0 Try.f34 [.int .i64 v, .int .i64 a, .int .i64 i, .agg [.int .i64 n, .int .i64 x, .int .i64 y, .str s, .str t, .str u, .int .i64 z]] [] (fun r bx => k r []) =
    bif !hasB v n then k (.int .i64 8) []
    else bif !hasB 1 n then
      bif !(a == 0) then (bif decide (a ≥ i) then k (.int .i64 14) [] else k (.int .i64 0) []) else k (.int .i64 14) []
    else k (.int .i64 0) [] := by kernel_rfl
theorem allow_ok : PureOK Try.prog env 34 allowSp := by
  refine PureOK.of_reads envOK tok7 noInl_ok fnAllowed (hv := allKept) (fun args r h => ?_)
  unfold allowSp at h
  split at h
  · rename_i v a i n x y s t u z
    simp only [sel, cond_true, Option.some.injEq] at h
    subst h
    refine ⟨_, 0, fun _ _ h => h, (allow_in v a i n x y z s t u (fun r bx => some r)).trans ?_⟩
    unfold allowC
    cases hasB v n <;> cases hasB 1 n <;> cases (a == 0) <;> cases (decide (a ≥ i)) <;> rfl
  · cases h
def refAllowC (v a i n : Int) : Int :=
  bif !decide (v < 1) then bif !decide (v > 2) then bif !decide (n < 1) then bif !decide (n > 8) then
    bif n == 5 then (bif v == 1 then 8 else bif !(a == 0) then (bif decide (i ≤ a) then 14 else 0) else 14) else 0
  else 8 else 8 else 8 else 8
def refAllowSp : List AV → List (Bool × AV)
  | [.int .i64 v, .int .i64 a, .int .i64 i, .int .i64 n] => [(true, .int .i64 (refAllowC v a i n))]
  | _ => []
theorem refAllow_in (v a i n : Int) (k : AV → List Box2 → Option AV) : runF env T0 noInl allKept 0 Try.f35 [.int .i64 v, .int .i64 a, .int .i64 i, .int .i64 n] [] k =
    bif !decide (v < 1) then
      bif !decide (v > 2) then
        bif !decide (n < 1) then
          bif !decide (n > 8) then
            bif n == 5 then
              bif v == 1 then k (.int .i64 8) []
              else
                bif n == 5 then
                  bif !(a == 0) then bif decide (i ≤ a) then k (.int .i64 14) [] else k (.int .i64 0) []
                  else k (.int .i64 14) []
                else k (.int .i64 0) []
            else
              bif n == 5 then
                bif !(a == 0) then bif decide (i ≤ a) then k (.int .i64 14) [] else k (.int .i64 0) []
                else k (.int .i64 14) []
              else k (.int .i64 0) []
          else k (.int .i64 8) []
        else k (.int .i64 8) []
      else k (.int .i64 8) []
    else k (.int .i64 8) [] := by kernel_rfl
theorem refAllow_ok : PureOK Try.prog env 35 refAllowSp := by
  refine PureOK.of_reads envOK tok0 noInl_ok fnRefAllowed (hv := allKept) (fun args r h => ?_)
  unfold refAllowSp at h
  split at h
  · rename_i v a i n
    simp only [sel, cond_true, Option.some.injEq] at h
    subst h
    refine ⟨_, 0, fun _ _ h => h, (refAllow_in v a i n _).trans ?_⟩
    unfold refAllowC
    cases (decide (v < 1)) <;> cases (decide (v > 2)) <;> cases (decide (n < 1)) <;> cases (decide (n > 8)) <;> cases (n == 5) <;> cases (v == 1) <;> cases (a == 0) <;> cases (decide (i ≤ a)) <;> rfl
  · cases h
theorem allow_eq (v a i n : Int) : allowC v a i n = refAllowC v a i n := by
  unfold allowC refAllowC hasB mayB
  simp only [Bool.cond_eq_ite, Bool.not_eq_true', Bool.and_eq_true, Bool.or_eq_true, beq_iff_eq, decide_eq_true_eq, Bool.and_eq_false_iff, Bool.or_eq_false_iff, beq_eq_false_iff_ne, decide_eq_false_iff_not]
  repeat' split
  all_goals omega

/-! ### The law -/
def awakeSp36 : List AV → List (Bool × AV)
  | [] => [(true, .bool true)]
  | _ => []
theorem awake36_ok : PureOK Try.prog env 25 awakeSp36 := by
  refine PureOK.of_reads envOK tokInl ginl_ok fnAwake36 (hv := allKept) (fun args r h => ?_)
  unfold awakeSp36 at h
  split at h
  · cases h; exact ⟨[], 12, .nil, awake36_in⟩
  · cases h
theorem fnGateAllows : FnOK Try.prog 10 Try.f10 := ⟨by kernel_rfl, by kernel_rfl, by kernel_rfl⟩
def T8 : FuncId → Option CSpec := tab [(34, allowSp), (35, refAllowSp), (25, awakeSp36)]
theorem tok8 : TOK Try.prog env T8 := tok_tab mixed ⟨allow_ok, refAllow_ok, awake36_ok, trivial⟩
theorem gateAllows_in (v a i n x y z : Int) (s t u : ByteArray) (k : AV → List Box2 → Option AV) : runF env T8 noInl allKept 0 Try.f10 [.int .i64 v, .agg [.int .i64 a, .int .i64 i], .agg [.int .i64 n, .int .i64 x, .int .i64 y, .str s, .str t, .str u, .int .i64 z]] [] (fun r bx => k r []) =
    bif allowC v a i n == refAllowC v a i n then k (.bool true) [] else k (.bool false) [] := by kernel_rfl
def gateAllowsSp : List AV → List (Bool × AV)
  | [.int .i64 v, .agg [.int .i64 a, .int .i64 i], .agg [.int .i64 n, .int .i64 x, .int .i64 y, .str s, .str t, .str u, .int .i64 z]] => [(true, .bool true)]
  | _ => []
theorem gateAllows_ok : PureOK Try.prog env 10 gateAllowsSp := by
  refine PureOK.of_reads envOK tok8 noInl_ok fnGateAllows (hv := allKept) (fun args r h => ?_)
  unfold gateAllowsSp at h
  split at h
  · rename_i v a i n x y s t u z
    cases h
    refine ⟨_, 0, fun _ _ h => h, (gateAllows_in v a i n x y z s t u (fun r bx => some r)).trans ?_⟩
    rw [allow_eq, beq_self_eq_true]
    rfl
  · cases h
abbrev cmdT : Ty := .pair (.int .i64) (.pair (.int .i64) (.pair (.int .i64) (.pair .str (.pair .str (.pair .str (.pair (.int .i64) .unit))))))
abbrev twoT : Ty := .pair (.int .i64) (.pair (.int .i64) .unit)
theorem gateAllows_true (d : DenL ([(false, Ty.int .i64), (true, twoT), (true, cmdT)].map (·.2))) (h : WfL _ d) : sel (gateAllowsSp (argsA [(false, Ty.int .i64), (true, twoT), (true, cmdT)] d)) = some (.bool true) := rfl
end Go.Proofs.Ytopbldbgnpeelaa.V
