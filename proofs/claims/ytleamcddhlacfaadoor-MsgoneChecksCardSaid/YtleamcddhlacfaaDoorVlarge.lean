/- Messages too large to be looked at, however long. No condition. -/
import Derived.Test.YtleamcddhlacfaaDoorVmsg5
set_option maxRecDepth 100000
set_option linter.unusedVariables false
set_option linter.unusedSimpArgs false
namespace Go.Proofs.YtleamcddhlacfaaDoor.V
open Go Go.Proofs.AbsV
theorem elarge2_loop {α : Type} (F : Nat) (xs : List EntD) (k : AV → List Box2 → Option α) : ∀ (n i : Nat), i + n = 40 →
    elarge_L0 F (n + 1) xs (i : Int) k = k (.bool (lgL (decide ((xs.length : Int) > 40)) n (xs.drop i))) []
  | 0, i, h => by
    rw [elarge_step0, cond_neg (show ¬ (i : Int) < 40 by omega), cond_same]
    rfl
  | n + 1, i, h => by
    by_cases hi : i < xs.length
    · rw [elarge_step0, cond_pos (by omega), cond_pos (by omega), inr hi, stp (by omega), rd_ent hi, elarge2_loop F xs k n (i + 1) (by omega), cond_true, cond_true, cond_true, List.drop_eq_getElem_cons hi]
      show _ = k (.bool ((decide (((xs[i].2.2.1.2.2.2.1.size : Nat) : Int) > 200) || (decide (((xs[i].2.2.1.2.2.2.2.1.size : Nat) : Int) > 200) || decide (((xs[i].2.2.1.2.2.2.2.2.1.size : Nat) : Int) > 200))) || lgL (decide ((xs.length : Int) > 40)) n (xs.drop (i + 1)))) []
      cases decide (((xs[i].2.2.1.2.2.2.1.size : Nat) : Int) > 200) <;> cases decide (((xs[i].2.2.1.2.2.2.2.1.size : Nat) : Int) > 200) <;> cases decide (((xs[i].2.2.1.2.2.2.2.2.1.size : Nat) : Int) > 200) <;> rfl
    · rw [elarge_step0, cond_neg (by omega), List.drop_eq_nil_of_le (by omega)]
      rfl
def largeESp2 : List AV → List (Bool × AV)
  | [x] => match entsIn x with
    | some xs => [(true, .bool (largeEs xs))]
    | _ => []
  | _ => []
theorem elarge2_ok : PureOK Tryd.prog env 21 largeESp2 := by
  refine PureOK.of_reads envOK tok0 noInl_ok fn_elarge (hv := elarge_hv) (fun args r h => ?_)
  unfold largeESp2 at h
  split at h
  · split at h
    · rename_i xs hx
      cases h
      exact ⟨_, 41, .src (τ := ET) hx .nil, (elarge_in _ xs (fun r _ => some r)).trans (elarge2_loop _ xs _ 40 0 (by omega))⟩
    · cases h
  · cases h
def TL8 : FuncId → Option CSpec := tab [(21, largeESp2)]
theorem tokL8 : TOK Tryd.prog env TL8 := tok_tab mixed ⟨elarge2_ok, trivial⟩
theorem fn_mlarge2 : FnOK Tryd.prog 7 Tryd.f7 := ⟨by kernel_rfl, by kernel_rfl, by kernel_rfl⟩
def mlarge2_hv : Keeps := fun _ => none
theorem mlarge2_in {α : Type} (F : Nat) (kd fr to br bn ix cm vs : Int) (es : List EntD) (im : List Int) (k : AV → List Box2 → Option α) : runF env TL8 noInl mlarge2_hv F Tryd.f7 [.agg (msgC kd fr to br bn ix cm vs es im)] [] (fun r bx => k r []) =
    bif !largeEs es then bif decide ((((List.length im) : Nat) : Int) > 300) then bif !decide ((((List.length im) : Nat) : Int) < 32760) then k (AV.bool (decide ((((List.length im) : Nat) : Int) > 32780))) [] else k (AV.bool true) [] else k (AV.bool (decide ((((List.length im) : Nat) : Int) > 32780))) [] else k (AV.bool true) [] := by kernel_rfl
def largeMSp2 : List AV → List (Bool × AV)
  | [x] => match msgIn x with
    | some m => [(true, .bool (largeM m))]
    | none => []
  | _ => []
theorem mlarge2_run (kd fr to br bn ix cm vs : Int) (es : List EntD) (im : List Int) : runF env TL8 noInl mlarge2_hv 0 Tryd.f7 [.agg (msgC kd fr to br bn ix cm vs es im)] [] (fun r bx => some r) =
    some (.bool (largeEs es || ((decide (((im.length : Nat) : Int) > 300) && decide (((im.length : Nat) : Int) < 32760)) || decide (((im.length : Nat) : Int) > 32780)))) := by
  refine (mlarge2_in 0 kd fr to br bn ix cm vs es im (fun r _ => some r)).trans ?_
  cases largeEs es <;> cases decide (((im.length : Nat) : Int) > 300) <;> cases decide (((im.length : Nat) : Int) < 32760) <;> rfl
theorem mlarge2_ok : PureOK Tryd.prog env 7 largeMSp2 := by
  refine PureOK.of_reads envOK tokL8 noInl_ok fn_mlarge2 (hv := mlarge2_hv) (fun args r h => ?_)
  unfold largeMSp2 at h
  split at h
  · rename_i x
    split at h
    · rename_i m hm
      cases h
      exact ⟨_, 0, .dat (τ := MT) hm .nil, mlarge2_run m.1 m.2.1 m.2.2.1 m.2.2.2.1.1 m.2.2.2.1.2.1 m.2.2.2.2.1 m.2.2.2.2.2.1 m.2.2.2.2.2.2.1 m.2.2.2.2.2.2.2.1 m.2.2.2.2.2.2.2.2.1⟩
    · cases h
  · cases h
theorem big_g {e : EntD} (h : bigE e = false) : gE e = true := by
  unfold bigE at h
  simp only [Bool.or_eq_false_iff, decide_eq_false_iff_not] at h
  obtain ⟨h1, h2, h3⟩ := h
  unfold gE gCD gC smallS
  rw [ble_y (by omega), ble_y (by omega), ble_y (by omega)]
  rfl
theorem large_g {m : MsgD} (h : largeM m = false) : gEs m.2.2.2.2.2.2.2.1 = true ∧ gS m = true ∧ m.2.2.2.2.2.2.2.1.length ≤ 40 ∧ m.2.2.2.2.2.2.2.2.1.length ≤ 32780 := by
  unfold largeM at h
  rw [Bool.or_eq_false_iff] at h
  obtain ⟨h1, h2⟩ := h
  simp only [Bool.or_eq_false_iff, decide_eq_false_iff_not] at h2
  obtain ⟨h3, h4⟩ := large_small h1
  have h5 : m.2.2.2.2.2.2.2.2.1.length ≤ 32780 := by omega
  refine ⟨?_, ?_, h3, h5⟩
  · unfold gEs
    rw [ble_y (by omega), Bool.true_and]
    exact List.all_eq_true.2 (fun e he => big_g (h4 e he))
  · unfold gS
    rw [ble_y (by omega), ble_y (by omega)]
    rfl
end Go.Proofs.YtleamcddhlacfaaDoor.V
