/- The given row 'gateProposes', out of what its function does with data. No condition. -/
import Derived.Test.YtopbldbgnpeelaaRows
import Derived.Test.YtopbldbgnpeelaaWprop
import Derived.Test.YtopbldbgnpeelaaAh
import Derived.WalkKit
import Derived.ProofKit
import Derived.OpenShut
import Derived.ShutString
import Derived.ChangeOld
import Derived.Below
import Derived.Carry
import Derived.SizedLaws
namespace Go.Proofs.Ytopbldbgnpeelaa.gateProposes
open Go.ChangeShapes Go.WideShapes Go.ChangeAt Go.RowKit Go.Proofs.AbsV
set_option linter.unusedVariables false
theorem own : ownKnob Try.prog.godebug = none := by kernel_rfl
theorem laid : laidOutB Try.prog = true := by kernel_rfl
theorem args : argsTy Try.prog [47, 39, 43] [(true, (.pair (.int .i64) (.pair (.int .i64) (.pair (.int .i64) .unit)))), (false, (.sl (.pair (.int .i64) (.pair (.int .i64) .unit)))), (false, (.sl (.int .i64)))] = true := by kernel_rfl
theorem readable : ([47, 39, 43].all fun t => Try.prog.readableRec t && decide (t < Try.prog.types.size)) = true := by kernel_rfl
set_option maxRecDepth 100000 in
theorem lifted (os : Os) (started : os.Started) (H : Type) (enc : TypeId × Value → H) :
    ReturnsInHanded {} Try.checked os 9 .any (Rows.gateProposesSpec.pre6 enc Try.prog Try.f9 Rows.gateProposesRow.domain false) (Rows.gateProposesSpec.post enc Try.prog Try.f9 false true false false) := by
  refine returnsInHanded_of_change_sized (C := Try.checked) own started (by kernel_rfl) Try.func9
    (ChangeSpec.witness6 (enc := enc) (C := Try.checked) false ⟨#[], #[.agg #[.int .i64 0, .int .i64 0, .int .i64 0], .slice none 0 0, .slice none 0 0], []⟩ 8 (by kernel_rfl) (by kernel_rfl) (by kernel_rfl) (by kernel_rfl)) ?_
  intro W base args ds gs before hval0 hW hcnd hsz0 _
  have hval : ∀ (j : Nat) t v, Try.f9.params[j]? = some t → args[j]? = some v → Value.okWide Try.prog W .any base t v := hval0
  have hW' := hW
  obtain ⟨p, q, hA0, hV, rfl, hfz, hnd⟩ := hW
  have hA : DataW.TrodAll enc Try.prog W 0 (fun _ => true) true Try.f9.params.toList args.toList ds p := hA0
  rw [Try.params9] at hA hval
  have hA1 : DataW.TrodAll enc Try.prog W 0 (fun _ => true) true [47, 39, 43] args.toList ds p := hA
  obtain ⟨d, hwf, hrep⟩ := args_rep [47, 39, 43] [(true, (.pair (.int .i64) (.pair (.int .i64) (.pair (.int .i64) .unit)))), (false, (.sl (.pair (.int .i64) (.pair (.int .i64) .unit)))), (false, (.sl (.int .i64)))] args.toList ds p gateProposes.args hA1 (fun j t v h1 h2 => hval j t v (by simpa using h1) (by simpa using h2))
  have hlt := hA1.lt
  obtain ⟨v0, vs0, d0, ds0, p0, q0, hv0, rfl, rfl, h0, r0⟩ := trodAll_cons hA
  obtain ⟨v1, vs1, d1, ds1, p1, q1, hv1, rfl, rfl, h1, r1⟩ := trodAll_cons r0
  obtain ⟨v2, vs2, d2, ds2, p2, q2, hv2, rfl, rfl, h2, r2⟩ := trodAll_cons r1
  obtain ⟨_, rfl, _⟩ := trodAll_nil r2
  obtain ⟨rfl, rfl⟩ := trodVars_none hV
  refine (law_calls V.gateProposes_ok (V.gl0 _) hrep (V.gateProposes_true d hwf)).mono fun e W' hh => ?_
  obtain ⟨he, bel⟩ := hh
  subst he
  exact ⟨_, rfl, _, _, _, [], _, [], hW', trodAll_mk1 (shut_bool Try.underlying4 _), args_below laid bel _ _ _ _ readable hA1 hlt, rfl, bel.frame _, fun h => by cases h⟩
theorem over : Rows.gateProposesRow.holds Try.pinned (OpenSpec.ofChange Rows.gateProposesSpec) :=
  OpenClaim.holds_of_wide 9 Try.f9 rfl rfl rfl rfl rfl rfl rfl ⟨rfl, rfl, rfl, rfl, rfl⟩ rfl rfl rfl rfl rfl (by kernel_rfl) Try.func9 (by kernel_rfl)
    (of_decide_eq_true (by kernel_rfl)) (by unfold Func.isWrapper; first | (rw [if_pos (by decide +kernel)]; kernel_rfl) | (rw [if_neg (by decide +kernel)]; exact ⟨rfl, rfl⟩))
    (fun os started H enc _ => lifted os started H enc)
theorem proved : Rows.GateProposesSaid := over
end Go.Proofs.Ytopbldbgnpeelaa.gateProposes
namespace Go.Proofs.Ytopbldbgnpeelaa
/-- The row, under a short name, for the claim. -/
theorem gateProposes_holds : Rows.GateProposesSaid := gateProposes.proved
end Go.Proofs.Ytopbldbgnpeelaa
