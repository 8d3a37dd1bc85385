/- The gate's small functions as functions of data. No condition. -/
import Derived.Test.YtopbldbgnpeelaaVput
import Derived.IntWalk
set_option maxRecDepth 100000
set_option linter.unusedVariables false
namespace Go.Proofs.Ytopbldbgnpeelaa.V
open Go Go.Proofs.AbsV
theorem fnIs : FnOK Try.prog 38 Try.f38 := ⟨by kernel_rfl, by kernel_rfl, by kernel_rfl⟩
theorem fnMay : FnOK Try.prog 16 Try.f16 := ⟨by kernel_rfl, by kernel_rfl, by kernel_rfl⟩
theorem fnHas : FnOK Try.prog 17 Try.f17 := ⟨by kernel_rfl, by kernel_rfl, by kernel_rfl⟩
theorem fnNew : FnOK Try.prog 26 Try.f26 := ⟨by kernel_rfl, by kernel_rfl, by kernel_rfl⟩
theorem fnSaw : FnOK Try.prog 27 Try.f27 := ⟨by kernel_rfl, by kernel_rfl, by kernel_rfl⟩
theorem fnBest : FnOK Try.prog 28 Try.f28 := ⟨by kernel_rfl, by kernel_rfl, by kernel_rfl⟩
theorem fnSupport : FnOK Try.prog 29 Try.f29 := ⟨by kernel_rfl, by kernel_rfl, by kernel_rfl⟩
theorem fnOlder : FnOK Try.prog 39 Try.f39 := ⟨by kernel_rfl, by kernel_rfl, by kernel_rfl⟩
theorem fnContains : FnOK Try.prog 40 Try.f40 := ⟨by kernel_rfl, by kernel_rfl, by kernel_rfl⟩
theorem fnIndex : FnOK Try.prog 42 Try.f42 := ⟨by kernel_rfl, by kernel_rfl, by kernel_rfl⟩
theorem fnCount : FnOK Try.prog 41 Try.f41 := ⟨by kernel_rfl, by kernel_rfl, by kernel_rfl⟩
theorem fnPropose : FnOK Try.prog 32 Try.f32 := ⟨by kernel_rfl, by kernel_rfl, by kernel_rfl⟩
theorem fnAwake36 : FnOK Try.prog 25 Try.f25 := ⟨by kernel_rfl, by kernel_rfl, by kernel_rfl⟩
noncomputable def gfns : List (FuncId × Func) := [(38, Try.f38), (16, Try.f16), (26, Try.f26), (27, Try.f27),
  (28, Try.f28), (29, Try.f29), (39, Try.f39), (40, Try.f40),
  (42, Try.f42), (41, Try.f41), (32, Try.f32)]
theorem gfns_ok : FnsOK Try.prog gfns := ⟨fnIs, fnMay, fnNew, fnSaw, fnBest, fnSupport, fnOlder, fnContains, fnIndex, fnCount, fnPropose, trivial⟩
/-! ### The waking call -/
def Tinl : FuncId → Option CSpec := tabG [(38, .inl), (16, .inl), (26, .inl), (27, .inl), (28, .inl), (29, .inl), (39, .inl),
  (40, .inl), (42, .inl), (41, .inl), (32, .inl)]
theorem tokInl : TOK Try.prog env Tinl := tok_tabG mixed ⟨trivial, trivial, trivial, trivial, trivial, trivial, trivial, trivial, trivial, trivial, trivial, trivial⟩
def allKept : Keeps := fun _ => none
noncomputable def ginl : Inl AV := inlD env Tinl (fnsOf gfns) (fun _ => allKept) 12 10
theorem ginl_ok : InlOK Try.prog env ginl := inlD_ok envOK tokInl (fnsOf_ok gfns_ok) 10
theorem awake36_in : runF env Tinl ginl allKept 12 Try.f25 [] [] (fun r bx => some r) = some (.bool true) := by kernel_rfl
end Go.Proofs.Ytopbldbgnpeelaa.V
