/- The law FrameNexts as a plain law. No condition. -/
import Derived.Test.YtopbldbgnpeelaaDoorVscan3
import Derived.Test.YtopbldbgnpeelaaDoorWfadds
import Derived.Test.YtopbldbgnpeelaaDoorAh
set_option maxRecDepth 100000
set_option linter.unusedVariables false
set_option linter.unusedSimpArgs false
namespace Go.Proofs.YtopbldbgnpeelaaDoor.V
open Go Go.Proofs.AbsV
def TW2 : FuncId → Option CSpec := tab [(12, nxSp (some (0, 5))), (13, nxSp none), (14, scanSp), (15, scanSp), (16, listsSp), (7, awakeSp03), (10, sameNSp)]
theorem tokW2 : TOK Tryd.prog env TW2 := tok_tab mixed ⟨next_ok, rnext_ok, scan_ok, rscan_ok, lists_ok, awake03_ok, sameN_ok, trivial⟩
theorem fn_wnexts : FnOK Tryd.prog 5 Tryd.f5 := ⟨by kernel_rfl, by kernel_rfl, by kernel_rfl⟩
def wnexts_hv : Keeps := fun _ => none
theorem wnexts_in {α : Type} (F : Nat) (b : List Int) (a : Int) (k : AV → List Box2 → Option α) : runF env TW2 noInl wnexts_hv F Tryd.f5 [.sl B b none none, .int .i64 a] [] (fun r bx => k r []) =
    bif decide ((((List.length b) : Nat) : Int) > 1000) then k (AV.bool true) [] else bif nxG b && nxE b a != 0 then bif nxG b && nxE b a != 0 then bif nxG b then bif nxG b then bif nxE b a == nxE b a then bif listsG (scanB b).1 then bif (scanB b).1 == (scanB b).1 then bif (scanB b).2 == (scanB b).2 then k (AV.bool true) [] else k (AV.bool false) [] else k (AV.bool false) [] else none else k (AV.bool false) [] else none else none else bif nxG b then bif nxG b then bif nxG b then bif [] == nxBody b a then bif 0 == nxEnd b a then bif nxE b a == 0 then bif listsG (scanB b).1 then bif (scanB b).1 == (scanB b).1 then bif (scanB b).2 == (scanB b).2 then k (AV.bool true) [] else k (AV.bool false) [] else k (AV.bool false) [] else none else k (AV.bool false) [] else k (AV.bool false) [] else k (AV.bool false) [] else none else none else none else bif nxG b then bif nxG b && nxE b a != 0 then bif nxG b then bif nxG b then bif Nat.ble (List.length (nxBody b a)) 4611686018427387904 then bif nxBody b a == [] then bif nxEnd b a == 0 then bif 0 == nxE b a then bif listsG (scanB b).1 then bif (scanB b).1 == (scanB b).1 then bif (scanB b).2 == (scanB b).2 then k (AV.bool true) [] else k (AV.bool false) [] else k (AV.bool false) [] else none else k (AV.bool false) [] else k (AV.bool false) [] else k (AV.bool false) [] else none else none else none else bif nxG b then bif nxG b then bif nxG b then bif Nat.ble (List.length (nxBody b a)) 4611686018427387904 then bif nxBody b a == nxBody b a then bif nxEnd b a == nxEnd b a then bif listsG (scanB b).1 then bif (scanB b).1 == (scanB b).1 then bif (scanB b).2 == (scanB b).2 then k (AV.bool true) [] else k (AV.bool false) [] else k (AV.bool false) [] else none else k (AV.bool false) [] else k (AV.bool false) [] else none else none else none else none else none := by kernel_rfl
theorem scanL_G {b : List Int} (hb : isBytes b) (hx : b.length ≤ 1000000000000) : ∀ (n : Nat) (out : List (List Int)) (a : Int), (∀ x ∈ out, x.length ≤ 1000000000000) → (∀ x ∈ (scanL b n out a).1, x.length ≤ 1000000000000) ∧ (scanL b n out a).1.length ≤ out.length + n := by
  intro n
  induction n with
  | zero => intro out a h; exact ⟨h, Nat.le_refl _⟩
  | succ n ih =>
    intro out a h
    unfold scanL
    cases he : (nxE b a != 0) with
    | true => exact ⟨h, by rw [cond_true]; show out.length ≤ _; omega⟩
    | false =>
      rw [cond_false]
      obtain ⟨_, _, _, hl⟩ := nx_more hb hx he
      have := ih (out ++ [nxBody b a]) (nxEnd b a) (fun x hx' => by
        rcases List.mem_append.1 hx' with h' | h'
        · exact h x h'
        · rw [List.mem_singleton.1 h']; omega)
      rw [List.length_append, List.length_singleton] at this
      exact ⟨this.1, by omega⟩
theorem scanB_G {b : List Int} (hb : isBytes b) (hx : b.length ≤ 100000000000) : listsG (scanB b).1 = true := by
  obtain ⟨h1, h2⟩ := scanL_G hb (by omega) (b.length + 1) [] 0 (fun x hx' => by cases hx')
  unfold listsG
  rw [Bool.and_eq_true]
  refine ⟨ble_yes ?_, List.all_eq_true.2 (fun x hx' => ble_yes (h1 x hx'))⟩
  have h3 : (scanB b).1.length ≤ 0 + (b.length + 1) := h2
  omega
theorem wnexts_run {α : Type} (b : List Int) (a : Int) (hb : isBytes b) (k : AV → List Box2 → Option α) : runF env TW2 noInl wnexts_hv 0 Tryd.f5 [.sl B b none none, .int .i64 a] [] (fun r bx => k r []) = k (.bool true) [] := by
  rw [wnexts_in]
  by_cases h : ((b.length : Nat) : Int) > 1000
  · rw [cond_pos h]
  · have hl : b.length ≤ 1000 := by omega
    have hg : nxG b = true := by unfold nxG; rw [ble_yes (show b.length ≤ 1000000000000 by omega), isBytesB_of hb]; rfl
    have hG : listsG (scanB b).1 = true := scanB_G hb (by omega)
    have hbody : (nxBody b a).length ≤ 4611686018427387904 := by unfold nxBody; rw [List.length_take, List.length_drop]; omega
    rw [cond_neg h, hg, hG, ble_yes hbody]
    simp only [beq_self_eq_true, cond_true, Bool.true_and]
    cases (nxE b a != 0) <;> rfl
def frameNextsSp : List AV → List (Bool × AV)
  | [.sl (.int .u8) b none none, .int .i64 a] => [(isBytesB b, .bool true)]
  | _ => []
theorem frameNexts_ok : PureOK Tryd.prog env 5 frameNextsSp := by
  refine PureOK.of_reads envOK tokW2 noInl_ok fn_wnexts (hv := wnexts_hv) (fun args r h => ?_)
  unfold frameNextsSp at h
  split at h
  · rename_i b a
    obtain ⟨hg, he⟩ := sel_one h
    subst he
    exact ⟨_, 0, fun _ _ h => h, wnexts_run b a (isBytes_of hg) (fun r _ => some r)⟩
  · cases h
theorem frameNexts_true (d : DenL ([(false, Ty.sl (.int .u8)), (false, Ty.int .i64)].map (·.2))) (h : WfL _ d) : sel (frameNextsSp (argsA [(false, Ty.sl (.int .u8)), (false, Ty.int .i64)] d)) = some (.bool true) := by
  obtain ⟨b, a, u⟩ := d
  exact sel_yes (wf_bytes h.1)
end Go.Proofs.YtopbldbgnpeelaaDoor.V
