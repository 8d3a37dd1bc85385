/- Ballots, versions, kinds' fields as functions of data. No condition. -/
import Derived.Test.YtleamcddhlacfaaDoorVref05c
set_option maxRecDepth 100000
set_option linter.unusedVariables false
set_option linter.unusedSimpArgs false
namespace Go.Proofs.YtleamcddhlacfaaDoor.V
open Go Go.Proofs.AbsV
theorem fn_bnode : FnOK Tryd.prog 72 Tryd.f72 := ⟨by kernel_rfl, by kernel_rfl, by kernel_rfl⟩
def bnode_hv : Keeps := fun _ => none
theorem bnode_in {α : Type} (F : Nat) (x : Int) (k : AV → List Box2 → Option α) : runF env T0 noInl bnode_hv F Tryd.f72 [.int .i64 x] [] (fun r bx => k r []) =
    bif decide (x ≥ 1) then k (AV.bool (decide (x ≤ 9))) [] else k (AV.bool false) [] := by kernel_rfl
theorem fn_vmay : FnOK Tryd.prog 55 Tryd.f55 := ⟨by kernel_rfl, by kernel_rfl, by kernel_rfl⟩
def vmay_hv : Keeps := fun _ => none
theorem vmay_in {α : Type} (F : Nat) (x : Int) (k : AV → List Box2 → Option α) : runF env T0 noInl vmay_hv F Tryd.f55 [.int .i64 x] [] (fun r bx => k r []) =
    bif x == 1 then k (AV.bool true) [] else bif x == 2 then k (AV.bool true) [] else k (AV.bool false) [] := by kernel_rfl
theorem fn_mfields : FnOK Tryd.prog 23 Tryd.f23 := ⟨by kernel_rfl, by kernel_rfl, by kernel_rfl⟩
def mfields_hv : Keeps := fun _ => none
theorem mfields_in {α : Type} (F : Nat) (x : Int) (k : AV → List Box2 → Option α) : runF env T0 noInl mfields_hv F Tryd.f23 [.int .i64 x] [] (fun r bx => k r []) =
    bif x == 1 then k (AV.int IntKind.i64 8) [] else bif x == 2 then k (AV.int IntKind.i64 8) [] else bif x == 3 then k (AV.int IntKind.i64 3) [] else bif x == 6 then k (AV.int IntKind.i64 3) [] else bif x == 4 then k (AV.int IntKind.i64 23) [] else bif x == 5 then k (AV.int IntKind.i64 17) [] else bif x == 7 then k (AV.int IntKind.i64 1) [] else bif x == 8 then k (AV.int IntKind.i64 5) [] else bif x == 9 then k (AV.int IntKind.i64 2) [] else bif x == 10 then k (AV.int IntKind.i64 20) [] else bif x == 11 then k (AV.int IntKind.i64 32) [] else k (AV.int IntKind.i64 0) [] := by kernel_rfl
theorem fn_cfields : FnOK Tryd.prog 90 Tryd.f90 := ⟨by kernel_rfl, by kernel_rfl, by kernel_rfl⟩
def cfields_hv : Keeps := fun _ => none
theorem cfields_in {α : Type} (F : Nat) (x : Int) (k : AV → List Box2 → Option α) : runF env T0 noInl cfields_hv F Tryd.f90 [.int .i64 x] [] (fun r bx => k r []) =
    bif x == 1 then k (AV.tup [AV.int IntKind.i64 0, AV.bool true]) [] else bif x == 6 then k (AV.tup [AV.int IntKind.i64 0, AV.bool true]) [] else bif x == 2 then k (AV.tup [AV.int IntKind.i64 11, AV.bool true]) [] else bif x == 3 then k (AV.tup [AV.int IntKind.i64 3, AV.bool true]) [] else bif x == 4 then k (AV.tup [AV.int IntKind.i64 3, AV.bool true]) [] else bif x == 5 then k (AV.tup [AV.int IntKind.i64 15, AV.bool true]) [] else bif x == 7 then k (AV.tup [AV.int IntKind.i64 16, AV.bool true]) [] else bif x == 8 then k (AV.tup [AV.int IntKind.i64 16, AV.bool true]) [] else k (AV.tup [AV.int IntKind.i64 0, AV.bool false]) [] := by kernel_rfl
theorem fn_rbmay : FnOK Tryd.prog 57 Tryd.f57 := ⟨by kernel_rfl, by kernel_rfl, by kernel_rfl⟩
def rbmay_hv : Keeps := fun _ => none
theorem rbmay_in {α : Type} (F : Nat) (x y : Int) (k : AV → List Box2 → Option α) : runF env T0 noInl rbmay_hv F Tryd.f57 [.agg [.int .i64 x, .int .i64 y]] [] (fun r bx => k r []) =
    bif x == 0 then bif y == 0 then k (AV.bool true) [] else bif decide (x ≥ 1) then bif decide (x ≤ 4294967296) then bif decide (y ≥ 1) then k (AV.bool (decide (y ≤ 9))) [] else k (AV.bool false) [] else k (AV.bool false) [] else k (AV.bool false) [] else bif decide (x ≥ 1) then bif decide (x ≤ 4294967296) then bif decide (y ≥ 1) then k (AV.bool (decide (y ≤ 9))) [] else k (AV.bool false) [] else k (AV.bool false) [] else k (AV.bool false) [] := by kernel_rfl
theorem fn_owned : FnOK Tryd.prog 69 Tryd.f69 := ⟨by kernel_rfl, by kernel_rfl, by kernel_rfl⟩
def owned_hv : Keeps := fun _ => none
theorem owned_in {α : Type} (F : Nat) (x : Int) (k : AV → List Box2 → Option α) : runF env T0 noInl owned_hv F Tryd.f69 [.int .i64 x] [] (fun r bx => k r []) =
    bif decide (x ≥ 2) then k (AV.bool (decide (x ≤ 5))) [] else k (AV.bool false) [] := by kernel_rfl
theorem fn_member : FnOK Tryd.prog 71 Tryd.f71 := ⟨by kernel_rfl, by kernel_rfl, by kernel_rfl⟩
def member_hv : Keeps := fun _ => none
theorem member_in {α : Type} (F : Nat) (x : Int) (k : AV → List Box2 → Option α) : runF env T0 noInl member_hv F Tryd.f71 [.int .i64 x] [] (fun r bx => k r []) =
    bif !x == 7 then k (AV.bool (x == 8)) [] else k (AV.bool true) [] := by kernel_rfl
def letterL : List ByteArray := [⟨#[]⟩, ⟨#[118]⟩, ⟨#[118]⟩, ⟨#[98, 105]⟩, ⟨#[98, 105, 99, 101]⟩, ⟨#[98, 101]⟩, ⟨#[98, 105]⟩, ⟨#[98]⟩, ⟨#[98, 99]⟩, ⟨#[105]⟩, ⟨#[99, 101]⟩, ⟨#[109]⟩]
def letAt (n : Nat) : ByteArray := rdD .str letterL n
theorem fn_letters : FnOK Tryd.prog 28 Tryd.f28 := ⟨by kernel_rfl, by kernel_rfl, by kernel_rfl⟩
theorem letters_in {α : Type} (x : Int) (k : AV → List Box2 → Option α) : runF env T0 noInl (fun _ => none) 0 Tryd.f28 [.int .i64 x] [] (fun r bx => k r []) =
    bif !decide (x < 1) then (bif decide (x > 11) then k (.str ⟨#[]⟩) [] else bif decide (0 ≤ x) && decide (x < 12) then k (.str (letAt x.toNat)) [] else none) else k (.str ⟨#[]⟩) [] := by kernel_rfl
theorem fn_rnode : FnOK Tryd.prog 53 Tryd.f53 := ⟨by kernel_rfl, by kernel_rfl, by kernel_rfl⟩
def rnode_hv : Keeps := fun _ => none
theorem rnode_in {α : Type} (F : Nat) (x : Int) (k : AV → List Box2 → Option α) : runF env T0 noInl rnode_hv F Tryd.f53 [.int .i64 x] [] (fun r bx => k r []) =
    bif decide (x ≥ 1) then k (AV.bool (decide (x ≤ 9))) [] else k (AV.bool false) [] := by kernel_rfl
end Go.Proofs.YtleamcddhlacfaaDoor.V
