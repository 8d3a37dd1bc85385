/- Entries: checks, likeness, size: the runs. No condition. -/
import Derived.Test.YtleamcddhlacfaaDoorVcmd4
set_option maxRecDepth 100000
set_option linter.unusedVariables false
set_option linter.unusedSimpArgs false
namespace Go.Proofs.YtleamcddhlacfaaDoor.V
open Go Go.Proofs.AbsV
def TE1 : FuncId → Option CSpec := tab [(54, bmSp), (73, chkCSp)]
theorem tokE1 : TOK Tryd.prog env TE1 := tok_tab mixed ⟨bmay_ok, cchk_ok, trivial⟩
abbrev CmdD := Int × Int × Int × ByteArray × ByteArray × ByteArray × Int × Unit
abbrev EntD := Int × (Int × Int × Unit) × CmdD × Unit
abbrev MsgD := Int × Int × Int × (Int × Int × Unit) × Int × Int × Int × List EntD × List Int × Unit
abbrev entC (ix br bn : Int) (kd cl sq : Int) (ke va ol : ByteArray) (nd : Int) : List AV := [.int .i64 ix, .int .i64 br, .int .i64 bn, .int .i64 kd, .int .i64 cl, .int .i64 sq, .str ke, .str va, .str ol, .int .i64 nd]
theorem fn_eone : FnOK Tryd.prog 56 Tryd.f56 := ⟨by kernel_rfl, by kernel_rfl, by kernel_rfl⟩
def eone_hv : Keeps := fun _ => none
theorem eone_in {α : Type} (F : Nat) (ix br bn : Int) (kd cl sq : Int) (ke va ol : ByteArray) (nd : Int) (k : AV → List Box2 → Option α) : runF env TE1 noInl eone_hv F Tryd.f56 [.agg (entC ix br bn kd cl sq ke va ol nd)] [] (fun r bx => k r []) =
    bif !decide (ix < 1) then bif !decide (ix > 4294967296) then bif !bmB br bn then k (AV.int IntKind.i64 6) [] else bif gCD (kd, cl, sq, ke, va, ol, nd, PUnit.unit) then k (AV.int IntKind.i64 (chkCD (kd, cl, sq, ke, va, ol, nd, PUnit.unit))) [] else none else k (AV.int IntKind.i64 6) [] else k (AV.int IntKind.i64 6) [] := by kernel_rfl
/-- What is wrong with an entry alone. -/
def oneE (e : EntD) : Int := bif decide (e.1 < 1) || (decide (e.1 > 4294967296) || !bmB e.2.1.1 e.2.1.2.1) then 6 else chkCD e.2.2.1
def gE (e : EntD) : Bool := gCD e.2.2.1
def oneSp : List AV → List (Bool × AV)
  | [x] => match datIn ET x with
    | some e => [(gE e, .int .i64 (oneE e))]
    | none => []
  | _ => []
theorem eone_run (ix br bn kd cl sq : Int) (ke va ol : ByteArray) (nd : Int) (g : gCD (kd, cl, sq, ke, va, ol, nd, ()) = true) : runF env TE1 noInl eone_hv 0 Tryd.f56 [.agg (entC ix br bn kd cl sq ke va ol nd)] [] (fun r bx => some r) = some (.int .i64 (oneE (ix, (br, bn, ()), (kd, cl, sq, ke, va, ol, nd, ()), ()))) := by
  refine (eone_in 0 ix br bn kd cl sq ke va ol nd (fun r _ => some r)).trans ?_
  show _ = some (AV.int .i64 (bif decide (ix < 1) || (decide (ix > 4294967296) || !bmB br bn) then 6 else chkCD (kd, cl, sq, ke, va, ol, nd, ())))
  rw [g]
  cases decide (ix < 1) <;> cases decide (ix > 4294967296) <;> cases bmB br bn <;> rfl
theorem eone_ok : PureOK Tryd.prog env 56 oneSp := by
  refine PureOK.of_reads envOK tokE1 noInl_ok fn_eone (hv := eone_hv) (fun args r h => ?_)
  unfold oneSp at h
  split at h
  · rename_i x
    split at h
    · rename_i d hd
      obtain ⟨g, e⟩ := sel_one h
      subst e
      exact ⟨_, 0, .dat hd .nil, eone_run d.1 d.2.1.1 d.2.1.2.1 d.2.2.1.1 d.2.2.1.2.1 d.2.2.1.2.2.1 d.2.2.1.2.2.2.1 d.2.2.1.2.2.2.2.1 d.2.2.1.2.2.2.2.2.1 d.2.2.1.2.2.2.2.2.2.1 g⟩
    · cases h
  · cases h
def TE2 : FuncId → Option CSpec := tab [(56, oneSp)]
theorem tokE2 : TOK Tryd.prog env TE2 := tok_tab mixed ⟨eone_ok, trivial⟩
theorem fn_echk : FnOK Tryd.prog 25 Tryd.f25 := ⟨by kernel_rfl, by kernel_rfl, by kernel_rfl⟩
def echk_hv : Keeps := fun c => (match Nat.beq c 0 with | true => some ([0, 6, 7, 8], [2]) | false => none)
def echk_S0 (es : List EntD) (v8 : Int) : St := { fr := frOf [(0, .sl ET es none none), (6, .sl ET es none none), (7, .int .i64 ((es.length : Nat) : Int)), (8, .int .i64 v8)] 32 0, bx := [] }
noncomputable def echk_B0 : Code := codeAt (bodyOf Tryd.f25) [1, 0, 1, 0, 0]
noncomputable def echk_K0 {α : Type} (F : Nat) (es : List EntD)  (k : AV → List Box2 → Option α) : Ex → St → Option α := contAt env TE2 noInl echk_hv F (bodyOf Tryd.f25) [1, 0, 1, 0] 0 (endOf env Tryd.f25 (fun r bx => k r []))
noncomputable def echk_L0 {α : Type} (F n : Nat) (es : List EntD) (v8 : Int) (k : AV → List Box2 → Option α) : Option α := loopH 0 (some [0, 6, 7, 8]) (some [2]) (fun s k => runC env TE2 noInl echk_hv F echk_B0 0 s k) n (echk_S0 es v8) (echk_K0 F  es k)
theorem echk_in {α : Type} (F : Nat) (es : List EntD) (k : AV → List Box2 → Option α) : runF env TE2 noInl echk_hv F Tryd.f25 [.sl ET es none none] [] (fun r bx => k r []) =
    (echk_L0 F F es 0 k) := by kernel_rfl
theorem echk_step0 {α : Type} (F n : Nat) (es : List EntD) (v8 : Int) (k : AV → List Box2 → Option α) : echk_L0 F (n + 1)  es v8 k =
    bif decide (v8 < (((List.length es) : Nat) : Int)) then bif decide (0 ≤ v8) && decide (v8 < (((List.length es) : Nat) : Int)) then bif gE (dI (rdD ET es (Int.toNat v8)).1, (dI (rdD ET es (Int.toNat v8)).2.1.1, dI (rdD ET es (Int.toNat v8)).2.1.2.1, PUnit.unit), (dI (rdD ET es (Int.toNat v8)).2.2.1.1, dI (rdD ET es (Int.toNat v8)).2.2.1.2.1, dI (rdD ET es (Int.toNat v8)).2.2.1.2.2.1, dS (rdD ET es (Int.toNat v8)).2.2.1.2.2.2.1, dS (rdD ET es (Int.toNat v8)).2.2.1.2.2.2.2.1, dS (rdD ET es (Int.toNat v8)).2.2.1.2.2.2.2.2.1, dI (rdD ET es (Int.toNat v8)).2.2.1.2.2.2.2.2.2.1, PUnit.unit), PUnit.unit) then bif oneE (dI (rdD ET es (Int.toNat v8)).1, (dI (rdD ET es (Int.toNat v8)).2.1.1, dI (rdD ET es (Int.toNat v8)).2.1.2.1, PUnit.unit), (dI (rdD ET es (Int.toNat v8)).2.2.1.1, dI (rdD ET es (Int.toNat v8)).2.2.1.2.1, dI (rdD ET es (Int.toNat v8)).2.2.1.2.2.1, dS (rdD ET es (Int.toNat v8)).2.2.1.2.2.2.1, dS (rdD ET es (Int.toNat v8)).2.2.1.2.2.2.2.1, dS (rdD ET es (Int.toNat v8)).2.2.1.2.2.2.2.2.1, dI (rdD ET es (Int.toNat v8)).2.2.1.2.2.2.2.2.2.1, PUnit.unit), PUnit.unit) != 0 then k (AV.int IntKind.i64 (oneE (dI (rdD ET es (Int.toNat v8)).1, (dI (rdD ET es (Int.toNat v8)).2.1.1, dI (rdD ET es (Int.toNat v8)).2.1.2.1, PUnit.unit), (dI (rdD ET es (Int.toNat v8)).2.2.1.1, dI (rdD ET es (Int.toNat v8)).2.2.1.2.1, dI (rdD ET es (Int.toNat v8)).2.2.1.2.2.1, dS (rdD ET es (Int.toNat v8)).2.2.1.2.2.2.1, dS (rdD ET es (Int.toNat v8)).2.2.1.2.2.2.2.1, dS (rdD ET es (Int.toNat v8)).2.2.1.2.2.2.2.2.1, dI (rdD ET es (Int.toNat v8)).2.2.1.2.2.2.2.2.2.1, PUnit.unit), PUnit.unit))) [] else bif decide (v8 > 0) then bif decide (0 ≤ IntKind.wrap IntKind.i64 (Int.sub v8 1)) && decide (IntKind.wrap IntKind.i64 (Int.sub v8 1) < (((List.length es) : Nat) : Int)) then bif decide (dI (rdD ET es (Int.toNat v8)).1 ≤ dI (rdD ET es (Int.toNat (IntKind.wrap IntKind.i64 (Int.sub v8 1)))).1) then k (AV.int IntKind.i64 12) [] else (echk_L0 F n es (IntKind.wrap IntKind.i64 (Int.add v8 1)) k) else none else (echk_L0 F n es (IntKind.wrap IntKind.i64 (Int.add v8 1)) k) else none else none else k (AV.int IntKind.i64 0) [] := by kernel_rfl
def TE3 : FuncId → Option CSpec := tab [(57, bmSp), (58, chkCSp)]
theorem tokE3 : TOK Tryd.prog env TE3 := tok_tab mixed ⟨rbmay_ok, rcchk_ok, trivial⟩
theorem fn_rechk : FnOK Tryd.prog 31 Tryd.f31 := ⟨by kernel_rfl, by kernel_rfl, by kernel_rfl⟩
def rechk_hv : Keeps := fun c => (match Nat.beq c 0 with | true => some ([0, 3], [2]) | false => none)
def rechk_S0 (es : List EntD) (i : Int) : St := { fr := frOf [(0, .sl ET es none none), (3, .int .i64 i)] 59 0, bx := [] }
noncomputable def rechk_B0 : Code := codeAt (bodyOf Tryd.f31) [1, 0, 1, 0, 0]
noncomputable def rechk_K0 {α : Type} (F : Nat) (es : List EntD)  (k : AV → List Box2 → Option α) : Ex → St → Option α := contAt env TE3 noInl rechk_hv F (bodyOf Tryd.f31) [1, 0, 1, 0] 0 (endOf env Tryd.f31 (fun r bx => k r []))
noncomputable def rechk_L0 {α : Type} (F n : Nat) (es : List EntD) (i : Int) (k : AV → List Box2 → Option α) : Option α := loopH 0 (some [0, 3]) (some [2]) (fun s k => runC env TE3 noInl rechk_hv F rechk_B0 0 s k) n (rechk_S0 es i) (rechk_K0 F  es k)
theorem rechk_in {α : Type} (F : Nat) (es : List EntD) (k : AV → List Box2 → Option α) : runF env TE3 noInl rechk_hv F Tryd.f31 [.sl ET es none none] [] (fun r bx => k r []) =
    (rechk_L0 F F es 0 k) := by kernel_rfl
theorem rechk_step0 {α : Type} (F n : Nat) (es : List EntD) (i : Int) (k : AV → List Box2 → Option α) : rechk_L0 F (n + 1)  es i k =
    bif decide (i < (((List.length es) : Nat) : Int)) then bif decide (0 ≤ i) && decide (i < (((List.length es) : Nat) : Int)) then bif !decide (dI (rdD ET es (Int.toNat i)).1 < 1) then bif decide (0 ≤ i) && decide (i < (((List.length es) : Nat) : Int)) then bif !decide (dI (rdD ET es (Int.toNat i)).1 > 4294967296) then bif decide (0 ≤ i) && decide (i < (((List.length es) : Nat) : Int)) then bif !bmB (dI (rdD ET es (Int.toNat i)).2.1.1) (dI (rdD ET es (Int.toNat i)).2.1.2.1) then k (AV.int IntKind.i64 6) [] else bif decide (0 ≤ i) && decide (i < (((List.length es) : Nat) : Int)) then bif gCD (dI (rdD ET es (Int.toNat i)).2.2.1.1, dI (rdD ET es (Int.toNat i)).2.2.1.2.1, dI (rdD ET es (Int.toNat i)).2.2.1.2.2.1, dS (rdD ET es (Int.toNat i)).2.2.1.2.2.2.1, dS (rdD ET es (Int.toNat i)).2.2.1.2.2.2.2.1, dS (rdD ET es (Int.toNat i)).2.2.1.2.2.2.2.2.1, dI (rdD ET es (Int.toNat i)).2.2.1.2.2.2.2.2.2.1, PUnit.unit) then bif chkCD (dI (rdD ET es (Int.toNat i)).2.2.1.1, dI (rdD ET es (Int.toNat i)).2.2.1.2.1, dI (rdD ET es (Int.toNat i)).2.2.1.2.2.1, dS (rdD ET es (Int.toNat i)).2.2.1.2.2.2.1, dS (rdD ET es (Int.toNat i)).2.2.1.2.2.2.2.1, dS (rdD ET es (Int.toNat i)).2.2.1.2.2.2.2.2.1, dI (rdD ET es (Int.toNat i)).2.2.1.2.2.2.2.2.2.1, PUnit.unit) != 0 then k (AV.int IntKind.i64 (chkCD (dI (rdD ET es (Int.toNat i)).2.2.1.1, dI (rdD ET es (Int.toNat i)).2.2.1.2.1, dI (rdD ET es (Int.toNat i)).2.2.1.2.2.1, dS (rdD ET es (Int.toNat i)).2.2.1.2.2.2.1, dS (rdD ET es (Int.toNat i)).2.2.1.2.2.2.2.1, dS (rdD ET es (Int.toNat i)).2.2.1.2.2.2.2.2.1, dI (rdD ET es (Int.toNat i)).2.2.1.2.2.2.2.2.2.1, PUnit.unit))) [] else bif decide (i > 0) then bif decide (0 ≤ i) && decide (i < (((List.length es) : Nat) : Int)) then bif decide (0 ≤ IntKind.wrap IntKind.i64 (Int.sub i 1)) && decide (IntKind.wrap IntKind.i64 (Int.sub i 1) < (((List.length es) : Nat) : Int)) then bif decide (dI (rdD ET es (Int.toNat i)).1 ≤ dI (rdD ET es (Int.toNat (IntKind.wrap IntKind.i64 (Int.sub i 1)))).1) then k (AV.int IntKind.i64 12) [] else (rechk_L0 F n es (IntKind.wrap IntKind.i64 (Int.add i 1)) k) else none else none else (rechk_L0 F n es (IntKind.wrap IntKind.i64 (Int.add i 1)) k) else none else none else none else k (AV.int IntKind.i64 6) [] else none else k (AV.int IntKind.i64 6) [] else none else k (AV.int IntKind.i64 0) [] := by kernel_rfl
end Go.Proofs.YtleamcddhlacfaaDoor.V
