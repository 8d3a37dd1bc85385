/- The law FrameAdds as a plain law. No condition. -/
import Derived.Test.YtopbldbgnpeelaaDoorWaw03
import Derived.Test.YtopbldbgnpeelaaDoorAh
set_option maxRecDepth 100000
set_option linter.unusedVariables false
set_option linter.unusedSimpArgs false
namespace Go.Proofs.YtopbldbgnpeelaaDoor.V
open Go Go.Proofs.AbsV
def TW1 : FuncId → Option CSpec := tab [(8, faddSp), (9, flenSp), (7, awakeSp03), (11, rfrSp), (10, sameNSp)]
theorem tokW1 : TOK Tryd.prog env TW1 := tok_tab mixed ⟨fadd_ok, flen_ok, awake03_ok, rfr_ok, sameN_ok, trivial⟩
theorem fn_wadds : FnOK Tryd.prog 3 Tryd.f3 := ⟨by kernel_rfl, by kernel_rfl, by kernel_rfl⟩
def wadds_hv : Keeps := fun _ => none
theorem wadds_in {α : Type} (F : Nat) (b body : List Int) (k : AV → List Box2 → Option α) : runF env TW1 noInl wadds_hv F Tryd.f3 [.sl B b none none, .sl B body none none] [] (fun r bx => k r []) =
    bif !decide ((((List.length b) : Nat) : Int) > 500) then bif decide ((((List.length body) : Nat) : Int) > 500) then bif !decide ((((List.length body) : Nat) : Int) < 65536) then bif decide ((((List.length body) : Nat) : Int) > 65540) then k (AV.bool true) [] else bif mayI ((((List.length body) : Nat) : Int)) != 0 then bif (((List.length body) : Nat) : Int) == 0 then bif mayI ((((List.length body) : Nat) : Int)) == 3 then k (AV.bool true) [] else k (AV.bool false) [] else bif decide ((((List.length body) : Nat) : Int) > 65536) then bif mayI ((((List.length body) : Nat) : Int)) == 2 then bif mayI ((((List.length body) : Nat) : Int)) != 0 then k (AV.bool true) [] else k (AV.bool false) [] else k (AV.bool false) [] else bif decide (Nat.add 0 (Nat.add 0 (List.length b)) ≤ 140737488355328) then bif Nat.ble (List.length body) 1000000000000 then bif decide (Nat.add 0 (Nat.add (List.length b) (List.length (refFrame body))) ≤ 140737488355328) then bif [] == List.append b (refFrame body) then bif mayI ((((List.length body) : Nat) : Int)) == 0 then bif mayI ((((List.length body) : Nat) : Int)) != 0 then bif 0 == IntKind.wrap IntKind.i64 (Int.sub 0 ((((List.length b) : Nat) : Int))) then k (AV.bool true) [] else k (AV.bool false) [] else bif Int.add (Int.add ((((List.length (putL 9 ((((List.length body) : Nat) : Int)))) : Nat) : Int)) ((((List.length body) : Nat) : Int))) 4 == IntKind.wrap IntKind.i64 (Int.sub 0 ((((List.length b) : Nat) : Int))) then k (AV.bool true) [] else k (AV.bool false) [] else k (AV.bool false) [] else k (AV.bool false) [] else none else none else none else bif Nat.ble (List.length b) 1000000000000 then bif (((List.length body) : Nat) : Int) == 0 then bif (((List.length (List.append b (frameOf body))) : Nat) : Int) == 0 then k (AV.bool false) [] else k (AV.bool false) [] else bif decide ((((List.length body) : Nat) : Int) > 65536) then bif (((List.length (List.append b (frameOf body))) : Nat) : Int) == 0 then k (AV.bool false) [] else k (AV.bool false) [] else bif decide (Nat.add 0 (Nat.add 0 (List.length b)) ≤ 140737488355328) then bif Nat.ble (List.length body) 1000000000000 then bif decide (Nat.add 0 (Nat.add (List.length b) (List.length (refFrame body))) ≤ 140737488355328) then bif Nat.ble (List.length (List.append b (frameOf body))) 4611686018427387904 then bif List.append b (frameOf body) == List.append b (refFrame body) then bif mayI ((((List.length body) : Nat) : Int)) != 0 then bif 0 == IntKind.wrap IntKind.i64 (Int.sub ((((List.length (List.append b (frameOf body))) : Nat) : Int)) ((((List.length b) : Nat) : Int))) then k (AV.bool true) [] else k (AV.bool false) [] else bif Int.add (Int.add ((((List.length (putL 9 ((((List.length body) : Nat) : Int)))) : Nat) : Int)) ((((List.length body) : Nat) : Int))) 4 == IntKind.wrap IntKind.i64 (Int.sub ((((List.length (List.append b (frameOf body))) : Nat) : Int)) ((((List.length b) : Nat) : Int))) then k (AV.bool true) [] else k (AV.bool false) [] else k (AV.bool false) [] else none else none else none else none else none else k (AV.bool true) [] else bif decide ((((List.length body) : Nat) : Int) > 65540) then k (AV.bool true) [] else bif mayI ((((List.length body) : Nat) : Int)) != 0 then bif (((List.length body) : Nat) : Int) == 0 then bif mayI ((((List.length body) : Nat) : Int)) == 3 then k (AV.bool true) [] else k (AV.bool false) [] else bif decide ((((List.length body) : Nat) : Int) > 65536) then bif mayI ((((List.length body) : Nat) : Int)) == 2 then bif mayI ((((List.length body) : Nat) : Int)) != 0 then k (AV.bool true) [] else k (AV.bool false) [] else k (AV.bool false) [] else bif decide (Nat.add 0 (Nat.add 0 (List.length b)) ≤ 140737488355328) then bif Nat.ble (List.length body) 1000000000000 then bif decide (Nat.add 0 (Nat.add (List.length b) (List.length (refFrame body))) ≤ 140737488355328) then bif [] == List.append b (refFrame body) then bif mayI ((((List.length body) : Nat) : Int)) == 0 then bif mayI ((((List.length body) : Nat) : Int)) != 0 then bif 0 == IntKind.wrap IntKind.i64 (Int.sub 0 ((((List.length b) : Nat) : Int))) then k (AV.bool true) [] else k (AV.bool false) [] else bif Int.add (Int.add ((((List.length (putL 9 ((((List.length body) : Nat) : Int)))) : Nat) : Int)) ((((List.length body) : Nat) : Int))) 4 == IntKind.wrap IntKind.i64 (Int.sub 0 ((((List.length b) : Nat) : Int))) then k (AV.bool true) [] else k (AV.bool false) [] else k (AV.bool false) [] else k (AV.bool false) [] else none else none else none else bif Nat.ble (List.length b) 1000000000000 then bif (((List.length body) : Nat) : Int) == 0 then bif (((List.length (List.append b (frameOf body))) : Nat) : Int) == 0 then k (AV.bool false) [] else k (AV.bool false) [] else bif decide ((((List.length body) : Nat) : Int) > 65536) then bif (((List.length (List.append b (frameOf body))) : Nat) : Int) == 0 then k (AV.bool false) [] else k (AV.bool false) [] else bif decide (Nat.add 0 (Nat.add 0 (List.length b)) ≤ 140737488355328) then bif Nat.ble (List.length body) 1000000000000 then bif decide (Nat.add 0 (Nat.add (List.length b) (List.length (refFrame body))) ≤ 140737488355328) then bif Nat.ble (List.length (List.append b (frameOf body))) 4611686018427387904 then bif List.append b (frameOf body) == List.append b (refFrame body) then bif mayI ((((List.length body) : Nat) : Int)) != 0 then bif 0 == IntKind.wrap IntKind.i64 (Int.sub ((((List.length (List.append b (frameOf body))) : Nat) : Int)) ((((List.length b) : Nat) : Int))) then k (AV.bool true) [] else k (AV.bool false) [] else bif Int.add (Int.add ((((List.length (putL 9 ((((List.length body) : Nat) : Int)))) : Nat) : Int)) ((((List.length body) : Nat) : Int))) 4 == IntKind.wrap IntKind.i64 (Int.sub ((((List.length (List.append b (frameOf body))) : Nat) : Int)) ((((List.length b) : Nat) : Int))) then k (AV.bool true) [] else k (AV.bool false) [] else k (AV.bool false) [] else none else none else none else none else none else k (AV.bool true) [] := by kernel_rfl
/-- What is asked of bytes that are looked at. -/
def addsM {α : Type} (b body : List Int) (k : AV → List Box2 → Option α) : Option α := bif mayI ((((List.length body) : Nat) : Int)) != 0 then bif (((List.length body) : Nat) : Int) == 0 then bif mayI ((((List.length body) : Nat) : Int)) == 3 then k (AV.bool true) [] else k (AV.bool false) [] else bif decide ((((List.length body) : Nat) : Int) > 65536) then bif mayI ((((List.length body) : Nat) : Int)) == 2 then bif mayI ((((List.length body) : Nat) : Int)) != 0 then k (AV.bool true) [] else k (AV.bool false) [] else k (AV.bool false) [] else bif decide (Nat.add 0 (Nat.add 0 (List.length b)) ≤ 140737488355328) then bif Nat.ble (List.length body) 1000000000000 then bif decide (Nat.add 0 (Nat.add (List.length b) (List.length (refFrame body))) ≤ 140737488355328) then bif [] == List.append b (refFrame body) then bif mayI ((((List.length body) : Nat) : Int)) == 0 then bif mayI ((((List.length body) : Nat) : Int)) != 0 then bif 0 == IntKind.wrap IntKind.i64 (Int.sub 0 ((((List.length b) : Nat) : Int))) then k (AV.bool true) [] else k (AV.bool false) [] else bif Int.add (Int.add ((((List.length (putL 9 ((((List.length body) : Nat) : Int)))) : Nat) : Int)) ((((List.length body) : Nat) : Int))) 4 == IntKind.wrap IntKind.i64 (Int.sub 0 ((((List.length b) : Nat) : Int))) then k (AV.bool true) [] else k (AV.bool false) [] else k (AV.bool false) [] else k (AV.bool false) [] else none else none else none else bif Nat.ble (List.length b) 1000000000000 then bif (((List.length body) : Nat) : Int) == 0 then bif (((List.length (List.append b (frameOf body))) : Nat) : Int) == 0 then k (AV.bool false) [] else k (AV.bool false) [] else bif decide ((((List.length body) : Nat) : Int) > 65536) then bif (((List.length (List.append b (frameOf body))) : Nat) : Int) == 0 then k (AV.bool false) [] else k (AV.bool false) [] else bif decide (Nat.add 0 (Nat.add 0 (List.length b)) ≤ 140737488355328) then bif Nat.ble (List.length body) 1000000000000 then bif decide (Nat.add 0 (Nat.add (List.length b) (List.length (refFrame body))) ≤ 140737488355328) then bif Nat.ble (List.length (List.append b (frameOf body))) 4611686018427387904 then bif List.append b (frameOf body) == List.append b (refFrame body) then bif mayI ((((List.length body) : Nat) : Int)) != 0 then bif 0 == IntKind.wrap IntKind.i64 (Int.sub ((((List.length (List.append b (frameOf body))) : Nat) : Int)) ((((List.length b) : Nat) : Int))) then k (AV.bool true) [] else k (AV.bool false) [] else bif Int.add (Int.add ((((List.length (putL 9 ((((List.length body) : Nat) : Int)))) : Nat) : Int)) ((((List.length body) : Nat) : Int))) 4 == IntKind.wrap IntKind.i64 (Int.sub ((((List.length (List.append b (frameOf body))) : Nat) : Int)) ((((List.length b) : Nat) : Int))) then k (AV.bool true) [] else k (AV.bool false) [] else k (AV.bool false) [] else none else none else none else none else none
theorem wadds_in' {α : Type} (F : Nat) (b body : List Int) (k : AV → List Box2 → Option α) : runF env TW1 noInl wadds_hv F Tryd.f3 [.sl B b none none, .sl B body none none] [] (fun r bx => k r []) =
    bif !decide (((b.length : Nat) : Int) > 500) then
      bif decide (((body.length : Nat) : Int) > 500) then
        bif !decide (((body.length : Nat) : Int) < 65536) then bif decide (((body.length : Nat) : Int) > 65540) then k (.bool true) [] else addsM b body k
        else k (.bool true) []
      else bif decide (((body.length : Nat) : Int) > 65540) then k (.bool true) [] else addsM b body k
    else k (.bool true) [] := wadds_in F b body k
theorem frame_length (body : List Int) : (frameOf body).length = (putL 9 ((body.length : Nat) : Int)).length + (body.length + 4) := by
  unfold frameOf
  rw [List.length_append, List.length_append]
  rfl
theorem addsM_true {α : Type} (b body : List Int) (hb : b.length ≤ 500) (hl : body.length ≤ 65540) (hy : isBytes body) (k : AV → List Box2 → Option α) : addsM b body k = k (.bool true) [] := by
  have hp := putL_length 9 ((body.length : Nat) : Int)
  have hf := frame_length body
  unfold addsM
  by_cases h0 : body.length = 0
  · have hm : mayI ((body.length : Nat) : Int) = 3 := by rw [h0]; rfl
    rw [hm, show (((body.length : Nat) : Int) == 0) = true by simp [h0]]
    rfl
  · by_cases h1 : body.length > 65536
    · have hm : mayI ((body.length : Nat) : Int) = 2 := by
        unfold mayI
        rw [cond_neg (by omega), cond_pos (by omega)]
      rw [hm, show (((body.length : Nat) : Int) == 0) = false by rw [beq_eq_false_iff_ne]; omega, cond_pos (show ((body.length : Nat) : Int) > 65536 by omega)]
      rfl
    · have hm : mayI ((body.length : Nat) : Int) = 0 := by
        unfold mayI
        rw [cond_neg (by omega), cond_neg (by omega)]
      have e1 : (List.append b (frameOf body)).length = b.length + (frameOf body).length := List.length_append
      have e2 : Nat.add 0 (Nat.add 0 b.length) ≤ 140737488355328 := by
        have e : Nat.add 0 (Nat.add 0 b.length) = b.length := (Nat.zero_add _).trans (Nat.zero_add _)
        rw [e]; omega
      have e3 : Nat.add 0 (Nat.add b.length (refFrame body).length) ≤ 140737488355328 := by
        have e : Nat.add 0 (Nat.add b.length (refFrame body).length) = b.length + (refFrame body).length := Nat.zero_add _
        rw [e, refFrame_eq hy]; omega
      have e4 : Int.add (Int.add (((putL 9 ((body.length : Nat) : Int)).length : Nat) : Int) ((body.length : Nat) : Int)) 4 = (((frameOf body).length : Nat) : Int) := by
        show (((putL 9 ((body.length : Nat) : Int)).length : Nat) : Int) + ((body.length : Nat) : Int) + 4 = _
        rw [hf]; omega
      have e5 : IntKind.i64.wrap (Int.sub (((List.append b (frameOf body)).length : Nat) : Int) ((b.length : Nat) : Int)) = (((frameOf body).length : Nat) : Int) := by
        rw [e1]
        show IntKind.i64.wrap (((b.length + (frameOf body).length : Nat) : Int) - ((b.length : Nat) : Int)) = _
        rw [IntWalk.i64_in _ (by omega)]; omega
      have hz : (((body.length : Nat) : Int) == 0) = false := by rw [beq_eq_false_iff_ne]; omega
      have hne : ((0 : Int) != 0) = false := rfl
      rw [hm, hne, cond_false, ble_yes (show b.length ≤ 1000000000000 by omega), cond_true, hz, cond_false, cond_neg (show ¬ ((body.length : Nat) : Int) > 65536 by omega), cond_pos e2, ble_yes (show body.length ≤ 1000000000000 by omega), cond_true, cond_pos e3, e1, ble_yes (show b.length + (frameOf body).length ≤ 4611686018427387904 by omega), cond_true, refFrame_eq hy, beq_self_eq_true, cond_true, cond_false, e4, ← e1, e5, beq_self_eq_true, cond_true]
theorem wadds_run {α : Type} (b body : List Int) (hy : isBytes body) (k : AV → List Box2 → Option α) : runF env TW1 noInl wadds_hv 0 Tryd.f3 [.sl B b none none, .sl B body none none] [] (fun r bx => k r []) = k (.bool true) [] := by
  rw [wadds_in']
  by_cases h1 : ((b.length : Nat) : Int) > 500
  · rw [decide_eq_true h1]; rfl
  · rw [decide_eq_false h1, Bool.not_false, cond_true]
    by_cases h2 : ((body.length : Nat) : Int) > 65540
    · rw [decide_eq_true h2, cond_pos (show ((body.length : Nat) : Int) > 500 by omega), decide_eq_false (show ¬ ((body.length : Nat) : Int) < 65536 by omega)]
      rfl
    · rw [decide_eq_false h2, cond_false, addsM_true b body (by omega) (by omega) hy]
      cases decide (((body.length : Nat) : Int) > 500)
      · rfl
      · cases !decide (((body.length : Nat) : Int) < 65536) <;> rfl
def frameAddsSp : List AV → List (Bool × AV)
  | [.sl (.int .u8) b none none, .sl (.int .u8) body none none] => [(isBytesB body, .bool true)]
  | _ => []
theorem frameAdds_ok : PureOK Tryd.prog env 3 frameAddsSp := by
  refine PureOK.of_reads envOK tokW1 noInl_ok fn_wadds (hv := wadds_hv) (fun args r h => ?_)
  unfold frameAddsSp at h
  split at h
  · rename_i b body
    obtain ⟨hg, he⟩ := sel_one h
    subst he
    exact ⟨_, 0, fun _ _ h => h, wadds_run b body (isBytes_of hg) (fun r _ => some r)⟩
  · cases h
theorem wf_u8 {n : Int} (h : WfD (.int .u8) n) : 0 ≤ n ∧ n < 256 := by
  have h : (Lit.int .u8 n).wf = true := h
  simp [Lit.wf, show IntKind.u8.min = 0 from rfl, show IntKind.u8.max = 255 from rfl] at h
  omega
theorem wf_bytes {xs : List Int} (h : WfD (.sl (.int .u8)) xs) : isBytesB xs = true := by
  refine List.all_eq_true.2 (fun c hc => ?_)
  obtain ⟨i, hi, rfl⟩ := List.getElem_of_mem hc
  have h2 : 0 ≤ xs[i] ∧ xs[i] < 256 := wf_u8 (h.2 i hi)
  simpa using h2
theorem frameAdds_true (d : DenL ([(false, Ty.sl (.int .u8)), (false, Ty.sl (.int .u8))].map (·.2))) (h : WfL _ d) : sel (frameAddsSp (argsA [(false, Ty.sl (.int .u8)), (false, Ty.sl (.int .u8))] d)) = some (.bool true) := by
  obtain ⟨b, body, u⟩ := d
  exact sel_yes (wf_bytes h.2.1)
end Go.Proofs.YtopbldbgnpeelaaDoor.V
