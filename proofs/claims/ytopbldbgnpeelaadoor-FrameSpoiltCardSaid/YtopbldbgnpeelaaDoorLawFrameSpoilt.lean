/- The given card 'frameSpoilt': the row out of what its function does with data, the table tied by the given tie. No condition. -/
import Derived.Test.YtopbldbgnpeelaaDoorRows
import Derived.Test.YtopbldbgnpeelaaDoorCards
import Derived.Test.YtopbldbgnpeelaaDoorTie
import Derived.Test.YtopbldbgnpeelaaDoorWfspoilt
import Derived.Test.YtopbldbgnpeelaaDoorAh
import Derived.WalkKit
import Derived.ProofKit
import Derived.OpenShut
import Derived.ShutString
import Derived.ChangeOld
import Derived.Below
import Derived.Carry
import Derived.SizedLaws
import Derived.LaidMore
import Derived.Stop.Joined
import Derived.SevenTiedAt
namespace Go.Proofs.YtopbldbgnpeelaaDoor.frameSpoilt
open Go.ChangeShapes Go.WideShapes Go.ChangeAt Go.RowKit Go.Proofs.AbsV
set_option linter.unusedVariables false
theorem own : ownKnob Tryd.prog.godebug = none := by kernel_rfl
theorem laid : laidOutB Tryd.prog = true := by kernel_rfl
theorem args : argsTy Tryd.prog [22, 3, 30] [(false, (.sl (.int .u8))), (false, (.int .i64)), (true, (.pair (.int .u8) (.pair (.int .u8) (.pair (.int .u8) (.pair (.int .u8) .unit)))))] = true := by kernel_rfl
theorem readable : ([22, 3, 30].all fun t => Tryd.prog.readableRec t && decide (t < Tryd.prog.types.size)) = true := by kernel_rfl
def laid1 : List (String × DataW Unit) := [("changeover/crc.table", Rows.laid_changeover_crc_table)]
theorem gTab : Tryd.prog.globalNamed "changeover/crc.table" = some 0 := by kernel_rfl
theorem tTab : (Tryd.prog.globals[0]?).map (·.type) = some 57 := by kernel_rfl
theorem door_met (os : Os) (args : Array Value) : laidMetH Tryd.prog laid1 ((World.doorLaid Tryd.prog 14 os).forCall (fun _ _ => 0) ⟨#[], args, []⟩).memory :=
  laidMetH_of_parts3 (fuel := 8) (laidMet_of_run' 8 (by kernel_rfl) (by kernel_rfl)) (by kernel_rfl) (by kernel_rfl)
set_option maxRecDepth 100000 in
theorem of_laid {W : World} (h : laidMetH Tryd.prog laid1 W) : ∀ j, j < V.tab32.length → heapC W 0 j = some (.int .u32 (V.tab32.getD j 0)) := by
  rw [MakeChecks.laidMetH_plain _ _ _ (by kernel_rfl)] at h
  obtain ⟨ps, ⟨g0, t0, cs0, f0, p0, q0, hg0, ht0, hv0, hd0, _, _⟩, _, _⟩ := h
  obtain rfl := Option.some.inj (gTab.symm.trans hg0)
  obtain rfl := Option.some.inj (tTab.symm.trans ht0)
  obtain ⟨xs, m1, rfl, hx, hlen, hn, hel⟩ := DataW.trod_array Tryd.underlying57 hd0
  have ce : Tryd.prog.cellsOf 44 = 1 := by kernel_rfl
  simp only [Prod.mk.injEq] at hx
  have hxs : xs.map (·.1) = (V.tab32.map fun n => (DataW.lit (.int .u32 n) : DataW Unit)) := by
    have e : (Rows.laid_changeover_crc_table : DataW Unit) = .agg (V.tab32.map fun n => DataW.lit (.int .u32 n)) := rfl
    have h1 := hx.1
    rw [e] at h1
    injection h1 with h1
    exact h1.symm
  intro j hj
  have hj16 : j < 16 := hj
  have h1 := hel j hj16
  rw [ce] at h1
  have hjx : j < xs.length := by rw [hn]; exact hj16
  rw [List.getElem?_eq_getElem hjx] at h1
  obtain ⟨k, e1, e2, _⟩ := DataW.trod_int Tryd.underlying44 h1
  have hk : k = V.tab32.getD j 0 := by
    have h2 : (xs.map (·.1))[j]? = ((V.tab32.map fun n => (DataW.lit (.int .u32 n) : DataW Unit)))[j]? := by rw [hxs]
    rw [List.getElem?_map, List.getElem?_map, List.getElem?_eq_getElem hjx, List.getElem?_eq_getElem hj, e2] at h2
    simp only [Option.map_some, Option.some.injEq, DataW.lit.injEq, Lit.int.injEq, true_and] at h2
    rw [h2, List.getD_eq_getElem?_getD, List.getElem?_eq_getElem hj]
    rfl
  have h3 := World.var?_cell hg0 hv0 j
  show W.cell? ⟨0, j, none⟩ = _
  refine h3.trans ?_
  have h4 : cs0.toList[j]? = some (.int .u32 k) := by
    have h5 := congrArg (fun l : List Value => l[0]?) e1
    simp only [Nat.mul_one, List.getElem?_take, List.getElem?_drop] at h5
    simpa using h5
  rw [← hk]
  simpa using h4
set_option maxRecDepth 100000 in
theorem lifted (os : Os) (started : os.Started) (H : Type) (enc : TypeId × Value → H) :
    ReturnsInHanded {} Tryd.checked os 4 .any (fun w args => (Rows.frameSpoiltSpec.pre enc Tryd.prog Tryd.f4 [] false w args ∧ laidMetH Tryd.prog laid1 w) ∧ sizedMet enc Tryd.prog Tryd.f4 (OpenSpec.ofChange Rows.frameSpoiltSpec) false w args)
      (Rows.frameSpoiltSpec.post enc Tryd.prog Tryd.f4 false true false false) := by
  refine returnsInHanded_of_change_and (C := Tryd.checked) (X := fun w _ => laidMetH Tryd.prog laid1 w) (fun _ _ _ hh h => h.of_heap hh) own started (by kernel_rfl) Tryd.func4
    (ChangeSpec.witness_shaped (enc := enc) (C := Tryd.checked) (os := os) (X := fun w _ => laidMetH Tryd.prog laid1 w) false (World.doorLaid Tryd.prog 14 os) #[.slice none 0 0, .int .i64 0, .agg #[.int .u8 0, .int .u8 0, .int .u8 0, .int .u8 0]] 8 rfl (World.shaped_of_RefB (by kernel_rfl) (by kernel_rfl)) (by kernel_rfl) (by kernel_rfl) (by kernel_rfl) (door_met os _)) ?_
  intro W base args ds gs before hval0 hW hcnd hsz0 hL _
  have hval : ∀ (j : Nat) t v, Tryd.f4.params[j]? = some t → args[j]? = some v → Value.okWide Tryd.prog W .any base t v := hval0
  have hW' := hW
  obtain ⟨p, q, hA0, hV, rfl, hfz, hnd⟩ := hW
  have hA : DataW.TrodAll enc Tryd.prog W 0 (fun _ => true) true Tryd.f4.params.toList args.toList ds p := hA0
  rw [Tryd.params4] at hA hval
  have hA1 : DataW.TrodAll enc Tryd.prog W 0 (fun _ => true) true [22, 3, 30] args.toList ds p := hA
  obtain ⟨d, hwf, hrep⟩ := args_rep [22, 3, 30] [(false, (.sl (.int .u8))), (false, (.int .i64)), (true, (.pair (.int .u8) (.pair (.int .u8) (.pair (.int .u8) (.pair (.int .u8) .unit)))))] args.toList ds p frameSpoilt.args hA1 (fun j t v h1 h2 => hval j t v (by simpa using h1) (by simpa using h2))
  have hlt := hA1.lt
  obtain ⟨v0, vs0, d0, ds0, p0, q0, hv0, rfl, rfl, h0, r0⟩ := trodAll_cons hA
  obtain ⟨v1, vs1, d1, ds1, p1, q1, hv1, rfl, rfl, h1, r1⟩ := trodAll_cons r0
  obtain ⟨v2, vs2, d2, ds2, p2, q2, hv2, rfl, rfl, h2, r2⟩ := trodAll_cons r1
  obtain ⟨_, rfl, _⟩ := trodAll_nil r2
  obtain ⟨rfl, rfl⟩ := trodVars_none hV
  refine (law_calls V.frameSpoilt_ok (V.gl_of (of_laid hL)) hrep (V.frameSpoilt_true d hwf)).mono fun e W' hh => ?_
  obtain ⟨he, bel⟩ := hh
  subst he
  exact ⟨_, rfl, _, _, _, [], _, [], hW', trodAll_mk1 (shut_bool Tryd.underlying4 _), args_below laid bel _ _ _ _ readable hA1 hlt, rfl, bel.frame _, fun h => by cases h⟩
theorem over : Rows.frameSpoiltRow.holds Tryd.pinned (OpenSpec.ofChange Rows.frameSpoiltSpec) :=
  OpenClaim.holds_of_wide 4 Tryd.f4 rfl rfl rfl rfl rfl rfl rfl ⟨rfl, rfl, rfl, rfl, rfl⟩ rfl rfl rfl rfl rfl (by kernel_rfl) Tryd.func4 (by kernel_rfl)
    (of_decide_eq_true (by kernel_rfl)) (by unfold Func.isWrapper; first | (rw [if_pos (by decide +kernel)]; kernel_rfl) | (rw [if_neg (by decide +kernel)]; exact ⟨rfl, rfl⟩))
    (fun os started H enc _ => lifted os started H enc)
theorem proved : Rows.FrameSpoiltCardSaid :=
  Claim7.holds_tied_plain_at .later [] [.data] true (true, "96210eb35224feafa957ea4be2532c7adb5b4043ad2ad1bb26ef72e0e44f8b94") false
    over (fun _ h => by cases h) (by kernel_rfl) (fun _ h => by cases h) frameSpoilt_row_tie rfl ⟨rfl, rfl⟩ (by kernel_rfl) rfl
    (fun f fn hf hfn => by
      obtain rfl : f = 4 := Option.some.inj ((show Tryd.prog.funcNamed "changeover/changeoverlaw03.FrameSpoilt" = some 4 by kernel_rfl).symm.trans hf) |>.symm
      obtain rfl : fn = Tryd.f4 := (Option.some.inj (Tryd.func4.symm.trans hfn)).symm
      exact ⟨by kernel_rfl, fun j t ht => by
        rw [Tryd.params4] at ht
        have hm : t ∈ [22, 3, 30] := by simpa using Array.mem_of_getElem? ht
        have hall : ([22, 3, 30].all fun u => !Tryd.prog.wantsStandIn u) = true := by kernel_rfl
        exact (show Tryd.prog.wantsStandIn t = false by simpa using List.all_eq_true.1 hall t hm)⟩)
    (by kernel_rfl)
end Go.Proofs.YtopbldbgnpeelaaDoor.frameSpoilt
namespace Go.Proofs.YtopbldbgnpeelaaDoor
/-- The card, under a short name, for the claim. -/
theorem frameSpoilt_holds : Rows.FrameSpoiltCardSaid := frameSpoilt.proved
end Go.Proofs.YtopbldbgnpeelaaDoor
