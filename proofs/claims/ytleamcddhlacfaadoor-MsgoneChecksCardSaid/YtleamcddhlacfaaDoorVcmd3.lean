/- cmd.Check, and the document's: one function of data. No condition. -/
import Derived.Test.YtleamcddhlacfaaDoorVcmd2
set_option maxRecDepth 100000
set_option linter.unusedVariables false
set_option linter.unusedSimpArgs false
namespace Go.Proofs.YtleamcddhlacfaaDoor.V
open Go Go.Proofs.AbsV
def gC (ke va ol : ByteArray) : Bool := smallS ke && (smallS va && smallS ol)
def rC (f cl sq nd : Int) : Bool := ((true && numA f 1 cl 8) && numA f 1 sq 4294967296) && numA f 16 nd 9
def tC (f : Int) (ke va ol : ByteArray) : Bool := ((true && texA f 2 (keyB ke)) && texA f 4 (valB ol)) && texA f 8 (valB va)
def oC (f cl sq : Int) (ke va ol : ByteArray) (nd : Int) : Bool := (((((true && numF f 1 cl) && numF f 1 sq) && texF f 2 ke) && texF f 4 ol) && texF f 8 va) && numF f 16 nd
/-- What is wrong with a command. -/
def chkC (kd cl sq : Int) (ke va ol : ByteArray) (nd : Int) : Int :=
  bif !isC kd then 5 else bif !rC (fC kd) cl sq nd then 6 else bif !tC (fC kd) ke va ol then 7 else bif !oC (fC kd) cl sq ke va ol nd then 3 else 0
theorem w64s (i : Nat) (h : i ≤ 100) : IntKind.i64.wrap (Int.add (i : Int) 1) = ((i + 1 : Nat) : Int) := stp (by omega)
theorem cchk_s0 {α : Type} (F n : Nat) (kd cl sq : Int) (ke va ol : ByteArray) (nd f : Int) (r t m : Bool) (k : AV → List Box2 → Option α) : cchk_L0 F (n + 1) kd cl sq ke va ol nd f r t m 0 k = cchk_L0 F n kd cl sq ke va ol nd f (r && numA f 1 cl 8) t (m && numF f 1 cl) 1 k := by
  have hw : IntKind.i64.wrap (Int.add 0 1) = 1 := w64s 0 (by omega)
  rw [cchk_step0, cond_pos (show (0 : Int) < 6 by omega), cond_pos (rfl), hw]
  cases r <;> cases t <;> cases m <;> cases numF f 1 cl <;> rfl
theorem cchk_s1 {α : Type} (F n : Nat) (kd cl sq : Int) (ke va ol : ByteArray) (nd f : Int) (r t m : Bool) (k : AV → List Box2 → Option α) : cchk_L0 F (n + 1) kd cl sq ke va ol nd f r t m 1 k = cchk_L0 F n kd cl sq ke va ol nd f (r && numA f 1 sq 4294967296) t (m && numF f 1 sq) 2 k := by
  have hw : IntKind.i64.wrap (Int.add 1 1) = 2 := w64s 1 (by omega)
  rw [cchk_step0, cond_pos (show (1 : Int) < 6 by omega), cond_neg (show ¬ (1 : Int) = 0 by omega), cond_pos (rfl), hw]
  cases r <;> cases t <;> cases m <;> cases numF f 1 sq <;> rfl
theorem cchk_s2 {α : Type} (F n : Nat) (kd cl sq : Int) (ke va ol : ByteArray) (nd f : Int) (r t m : Bool) (hs : smallS ke = true) (k : AV → List Box2 → Option α) : cchk_L0 F (n + 1) kd cl sq ke va ol nd f r t m 2 k = cchk_L0 F n kd cl sq ke va ol nd f r (t && texA f 2 (keyB ke)) (m && texF f 2 ke) 3 k := by
  have hw : IntKind.i64.wrap (Int.add 2 1) = 3 := w64s 2 (by omega)
  rw [cchk_step0, cond_pos (show (2 : Int) < 6 by omega), cond_neg (show ¬ (2 : Int) = 0 by omega), cond_neg (show ¬ (2 : Int) = 1 by omega), cond_pos (rfl), hw]
  simp only [hs, Bool.or_true, cond_true]
  cases r <;> cases t <;> cases m <;> cases texF f 2 ke <;> rfl
theorem cchk_s3 {α : Type} (F n : Nat) (kd cl sq : Int) (ke va ol : ByteArray) (nd f : Int) (r t m : Bool) (hs : smallS ol = true) (k : AV → List Box2 → Option α) : cchk_L0 F (n + 1) kd cl sq ke va ol nd f r t m 3 k = cchk_L0 F n kd cl sq ke va ol nd f r (t && texA f 4 (valB ol)) (m && texF f 4 ol) 4 k := by
  have hw : IntKind.i64.wrap (Int.add 3 1) = 4 := w64s 3 (by omega)
  rw [cchk_step0, cond_pos (show (3 : Int) < 6 by omega), cond_neg (show ¬ (3 : Int) = 0 by omega), cond_neg (show ¬ (3 : Int) = 1 by omega), cond_neg (show ¬ (3 : Int) = 2 by omega), cond_pos (rfl), hw]
  simp only [hs, Bool.or_true, cond_true]
  cases r <;> cases t <;> cases m <;> cases texF f 4 ol <;> rfl
theorem cchk_s4 {α : Type} (F n : Nat) (kd cl sq : Int) (ke va ol : ByteArray) (nd f : Int) (r t m : Bool) (hs : smallS va = true) (k : AV → List Box2 → Option α) : cchk_L0 F (n + 1) kd cl sq ke va ol nd f r t m 4 k = cchk_L0 F n kd cl sq ke va ol nd f r (t && texA f 8 (valB va)) (m && texF f 8 va) 5 k := by
  have hw : IntKind.i64.wrap (Int.add 4 1) = 5 := w64s 4 (by omega)
  rw [cchk_step0, cond_pos (show (4 : Int) < 6 by omega), cond_neg (show ¬ (4 : Int) = 0 by omega), cond_neg (show ¬ (4 : Int) = 1 by omega), cond_neg (show ¬ (4 : Int) = 2 by omega), cond_neg (show ¬ (4 : Int) = 3 by omega), cond_pos (rfl), hw]
  simp only [hs, Bool.or_true, cond_true]
  cases r <;> cases t <;> cases m <;> cases texF f 8 va <;> rfl
theorem cchk_s5 {α : Type} (F n : Nat) (kd cl sq : Int) (ke va ol : ByteArray) (nd f : Int) (r t m : Bool) (k : AV → List Box2 → Option α) : cchk_L0 F (n + 1) kd cl sq ke va ol nd f r t m 5 k = cchk_L0 F n kd cl sq ke va ol nd f (r && numA f 16 nd 9) t (m && numF f 16 nd) 6 k := by
  have hw : IntKind.i64.wrap (Int.add 5 1) = 6 := w64s 5 (by omega)
  rw [cchk_step0, cond_pos (show (5 : Int) < 6 by omega), cond_neg (show ¬ (5 : Int) = 0 by omega), cond_neg (show ¬ (5 : Int) = 1 by omega), cond_neg (show ¬ (5 : Int) = 2 by omega), cond_neg (show ¬ (5 : Int) = 3 by omega), cond_neg (show ¬ (5 : Int) = 4 by omega), cond_pos (rfl), hw]
  cases r <;> cases t <;> cases m <;> cases numF f 16 nd <;> rfl
theorem cchk_run {α : Type} (kd cl sq : Int) (ke va ol : ByteArray) (nd : Int) (hg : gC ke va ol = true) (k : AV → List Box2 → Option α) : runF env TQ1 cinl cchk_hv 7 Tryd.f73 [.agg (cmdC kd cl sq ke va ol nd)] [] (fun r bx => k r []) = k (.int .i64 (chkC kd cl sq ke va ol nd)) [] := by
  unfold gC at hg
  simp only [Bool.and_eq_true] at hg
  obtain ⟨g1, g2, g3⟩ := hg
  rw [cchk_in]
  unfold chkC
  cases isC kd with
  | false => rfl
  | true =>
    rw [Bool.not_true, cond_false, cond_false]
    rw [cchk_s0, cchk_s1, cchk_s2 (hs := g1), cchk_s3 (hs := g3), cchk_s4 (hs := g2), cchk_s5, cchk_step0, cond_neg (by omega)]
    show (bif !rC (fC kd) cl sq nd then k (AV.int IntKind.i64 6) [] else bif !tC (fC kd) ke va ol then k (AV.int IntKind.i64 7) [] else bif !oC (fC kd) cl sq ke va ol nd then k (AV.int IntKind.i64 3) [] else k (AV.int IntKind.i64 0) []) = _
    cases rC (fC kd) cl sq nd <;> cases tC (fC kd) ke va ol <;> cases oC (fC kd) cl sq ke va ol nd <;> rfl
def chkCD (d : CT.den) : Int := chkC d.1 d.2.1 d.2.2.1 d.2.2.2.1 d.2.2.2.2.1 d.2.2.2.2.2.1 d.2.2.2.2.2.2.1
def gCD (d : CT.den) : Bool := gC d.2.2.2.1 d.2.2.2.2.1 d.2.2.2.2.2.1
def chkCSp : List AV → List (Bool × AV)
  | [x] => match datIn CT x with
    | some d => [(gCD d, .int .i64 (chkCD d))]
    | none => []
  | _ => []
theorem cchk_ok : PureOK Tryd.prog env 73 chkCSp := by
  refine PureOK.of_reads envOK tokQ1 cinl_ok fn_cchk (hv := cchk_hv) (fun args r h => ?_)
  unfold chkCSp at h
  split at h
  · rename_i x
    split at h
    · rename_i d hd
      obtain ⟨g, e⟩ := sel_one h
      subst e
      exact ⟨_, 7, .dat hd .nil, cchk_run d.1 d.2.1 d.2.2.1 d.2.2.2.1 d.2.2.2.2.1 d.2.2.2.2.2.1 d.2.2.2.2.2.2.1 g (fun r _ => some r)⟩
    · cases h
  · cases h
/-! ### The document's -/
theorem fn_rcX : FnOK Tryd.prog 58 Tryd.f58 := ⟨by kernel_rfl, by kernel_rfl, by kernel_rfl⟩
def rcX_hv : Keeps := fun _ => none
theorem rcX_in {α : Type} (F : Nat) (kd cl sq : Int) (ke va ol : ByteArray) (nd : Int) (k : AV → List Box2 → Option α) : runF env T0 noInl rcX_hv F Tryd.f58 [.agg (cmdC kd cl sq ke va ol nd)] [] (fun r bx => k r []) =
    bif !decide (kd < 1) then bif decide (kd > 8) then k (AV.int IntKind.i64 5) [] else none else k (AV.int IntKind.i64 5) [] := by kernel_rfl
def TR1 : FuncId → Option CSpec := tab [(69, ownSp), (71, memSp), (74, keySp), (75, valSp)]
theorem tokR1 : TOK Tryd.prog env TR1 := tok_tab mixed ⟨owned_ok, member_ok, rrkey_ok, rrval_ok, trivial⟩
theorem fn_rc1 : FnOK Tryd.prog 58 Tryd.f58 := ⟨by kernel_rfl, by kernel_rfl, by kernel_rfl⟩
def rc1_hv : Keeps := fun _ => none
theorem rc1_in {α : Type} (F : Nat) (cl sq : Int) (ke va ol : ByteArray) (nd : Int) (k : AV → List Box2 → Option α) : runF env TR1 noInl rc1_hv F Tryd.f58 [.agg (cmdC 1 cl sq ke va ol nd)] [] (fun r bx => k r []) =
    bif !cl != 0 then bif !sq != 0 then bif !!ByteArray.toList ke == ByteArray.toList { data := { toList := [] } } then bif !!ByteArray.toList va == ByteArray.toList { data := { toList := [] } } then bif !!ByteArray.toList ol == ByteArray.toList { data := { toList := [] } } then bif nd != 0 then k (AV.int IntKind.i64 3) [] else k (AV.int IntKind.i64 0) [] else k (AV.int IntKind.i64 3) [] else k (AV.int IntKind.i64 3) [] else k (AV.int IntKind.i64 3) [] else k (AV.int IntKind.i64 3) [] else k (AV.int IntKind.i64 3) [] := by kernel_rfl
theorem fn_rc2 : FnOK Tryd.prog 58 Tryd.f58 := ⟨by kernel_rfl, by kernel_rfl, by kernel_rfl⟩
def rc2_hv : Keeps := fun _ => none
theorem rc2_in {α : Type} (F : Nat) (cl sq : Int) (ke va ol : ByteArray) (nd : Int) (k : AV → List Box2 → Option α) : runF env TR1 noInl rc2_hv F Tryd.f58 [.agg (cmdC 2 cl sq ke va ol nd)] [] (fun r bx => k r []) =
    bif !decide (cl < 1) then bif !decide (cl > 8) then bif !decide (sq < 1) then bif !decide (sq > 4294967296) then bif smallS ke then bif !!keyB ke then bif smallS va then bif !!valB va then bif !!ByteArray.toList ol == ByteArray.toList { data := { toList := [] } } then bif nd != 0 then k (AV.int IntKind.i64 3) [] else k (AV.int IntKind.i64 0) [] else k (AV.int IntKind.i64 3) [] else k (AV.int IntKind.i64 7) [] else none else k (AV.int IntKind.i64 7) [] else none else k (AV.int IntKind.i64 6) [] else k (AV.int IntKind.i64 6) [] else k (AV.int IntKind.i64 6) [] else k (AV.int IntKind.i64 6) [] := by kernel_rfl
theorem fn_rc3 : FnOK Tryd.prog 58 Tryd.f58 := ⟨by kernel_rfl, by kernel_rfl, by kernel_rfl⟩
def rc3_hv : Keeps := fun _ => none
theorem rc3_in {α : Type} (F : Nat) (cl sq : Int) (ke va ol : ByteArray) (nd : Int) (k : AV → List Box2 → Option α) : runF env TR1 noInl rc3_hv F Tryd.f58 [.agg (cmdC 3 cl sq ke va ol nd)] [] (fun r bx => k r []) =
    bif !decide (cl < 1) then bif !decide (cl > 8) then bif !decide (sq < 1) then bif !decide (sq > 4294967296) then bif smallS ke then bif !!keyB ke then bif !!ByteArray.toList va == ByteArray.toList { data := { toList := [] } } then bif !!ByteArray.toList ol == ByteArray.toList { data := { toList := [] } } then bif nd != 0 then k (AV.int IntKind.i64 3) [] else k (AV.int IntKind.i64 0) [] else k (AV.int IntKind.i64 3) [] else k (AV.int IntKind.i64 3) [] else k (AV.int IntKind.i64 7) [] else none else k (AV.int IntKind.i64 6) [] else k (AV.int IntKind.i64 6) [] else k (AV.int IntKind.i64 6) [] else k (AV.int IntKind.i64 6) [] := by kernel_rfl
theorem fn_rc4 : FnOK Tryd.prog 58 Tryd.f58 := ⟨by kernel_rfl, by kernel_rfl, by kernel_rfl⟩
def rc4_hv : Keeps := fun _ => none
theorem rc4_in {α : Type} (F : Nat) (cl sq : Int) (ke va ol : ByteArray) (nd : Int) (k : AV → List Box2 → Option α) : runF env TR1 noInl rc4_hv F Tryd.f58 [.agg (cmdC 4 cl sq ke va ol nd)] [] (fun r bx => k r []) =
    bif !decide (cl < 1) then bif !decide (cl > 8) then bif !decide (sq < 1) then bif !decide (sq > 4294967296) then bif smallS ke then bif !!keyB ke then bif !!ByteArray.toList va == ByteArray.toList { data := { toList := [] } } then bif !!ByteArray.toList ol == ByteArray.toList { data := { toList := [] } } then bif nd != 0 then k (AV.int IntKind.i64 3) [] else k (AV.int IntKind.i64 0) [] else k (AV.int IntKind.i64 3) [] else k (AV.int IntKind.i64 3) [] else k (AV.int IntKind.i64 7) [] else none else k (AV.int IntKind.i64 6) [] else k (AV.int IntKind.i64 6) [] else k (AV.int IntKind.i64 6) [] else k (AV.int IntKind.i64 6) [] := by kernel_rfl
theorem fn_rc5 : FnOK Tryd.prog 58 Tryd.f58 := ⟨by kernel_rfl, by kernel_rfl, by kernel_rfl⟩
def rc5_hv : Keeps := fun _ => none
theorem rc5_in {α : Type} (F : Nat) (cl sq : Int) (ke va ol : ByteArray) (nd : Int) (k : AV → List Box2 → Option α) : runF env TR1 noInl rc5_hv F Tryd.f58 [.agg (cmdC 5 cl sq ke va ol nd)] [] (fun r bx => k r []) =
    bif !decide (cl < 1) then bif !decide (cl > 8) then bif !decide (sq < 1) then bif !decide (sq > 4294967296) then bif smallS ke then bif !!keyB ke then bif smallS va then bif !!valB va then bif smallS ol then bif !valB ol then k (AV.int IntKind.i64 7) [] else bif nd != 0 then k (AV.int IntKind.i64 3) [] else k (AV.int IntKind.i64 0) [] else none else k (AV.int IntKind.i64 7) [] else none else k (AV.int IntKind.i64 7) [] else none else k (AV.int IntKind.i64 6) [] else k (AV.int IntKind.i64 6) [] else k (AV.int IntKind.i64 6) [] else k (AV.int IntKind.i64 6) [] := by kernel_rfl
theorem fn_rc6 : FnOK Tryd.prog 58 Tryd.f58 := ⟨by kernel_rfl, by kernel_rfl, by kernel_rfl⟩
def rc6_hv : Keeps := fun _ => none
theorem rc6_in {α : Type} (F : Nat) (cl sq : Int) (ke va ol : ByteArray) (nd : Int) (k : AV → List Box2 → Option α) : runF env TR1 noInl rc6_hv F Tryd.f58 [.agg (cmdC 6 cl sq ke va ol nd)] [] (fun r bx => k r []) =
    bif !cl != 0 then bif !sq != 0 then bif !!ByteArray.toList ke == ByteArray.toList { data := { toList := [] } } then bif !!ByteArray.toList va == ByteArray.toList { data := { toList := [] } } then bif !!ByteArray.toList ol == ByteArray.toList { data := { toList := [] } } then bif nd != 0 then k (AV.int IntKind.i64 3) [] else k (AV.int IntKind.i64 0) [] else k (AV.int IntKind.i64 3) [] else k (AV.int IntKind.i64 3) [] else k (AV.int IntKind.i64 3) [] else k (AV.int IntKind.i64 3) [] else k (AV.int IntKind.i64 3) [] := by kernel_rfl
theorem fn_rc7 : FnOK Tryd.prog 58 Tryd.f58 := ⟨by kernel_rfl, by kernel_rfl, by kernel_rfl⟩
def rc7_hv : Keeps := fun _ => none
theorem rc7_in {α : Type} (F : Nat) (cl sq : Int) (ke va ol : ByteArray) (nd : Int) (k : AV → List Box2 → Option α) : runF env TR1 noInl rc7_hv F Tryd.f58 [.agg (cmdC 7 cl sq ke va ol nd)] [] (fun r bx => k r []) =
    bif !decide (nd < 1) then bif decide (nd > 9) then k (AV.int IntKind.i64 6) [] else bif !cl != 0 then bif !sq != 0 then bif !!ByteArray.toList ke == ByteArray.toList { data := { toList := [] } } then bif !!ByteArray.toList va == ByteArray.toList { data := { toList := [] } } then bif !!ByteArray.toList ol == ByteArray.toList { data := { toList := [] } } then k (AV.int IntKind.i64 0) [] else k (AV.int IntKind.i64 3) [] else k (AV.int IntKind.i64 3) [] else k (AV.int IntKind.i64 3) [] else k (AV.int IntKind.i64 3) [] else k (AV.int IntKind.i64 3) [] else k (AV.int IntKind.i64 6) [] := by kernel_rfl
theorem fn_rc8 : FnOK Tryd.prog 58 Tryd.f58 := ⟨by kernel_rfl, by kernel_rfl, by kernel_rfl⟩
def rc8_hv : Keeps := fun _ => none
theorem rc8_in {α : Type} (F : Nat) (cl sq : Int) (ke va ol : ByteArray) (nd : Int) (k : AV → List Box2 → Option α) : runF env TR1 noInl rc8_hv F Tryd.f58 [.agg (cmdC 8 cl sq ke va ol nd)] [] (fun r bx => k r []) =
    bif !decide (nd < 1) then bif decide (nd > 9) then k (AV.int IntKind.i64 6) [] else bif !cl != 0 then bif !sq != 0 then bif !!ByteArray.toList ke == ByteArray.toList { data := { toList := [] } } then bif !!ByteArray.toList va == ByteArray.toList { data := { toList := [] } } then bif !!ByteArray.toList ol == ByteArray.toList { data := { toList := [] } } then k (AV.int IntKind.i64 0) [] else k (AV.int IntKind.i64 3) [] else k (AV.int IntKind.i64 3) [] else k (AV.int IntKind.i64 3) [] else k (AV.int IntKind.i64 3) [] else k (AV.int IntKind.i64 3) [] else k (AV.int IntKind.i64 6) [] := by kernel_rfl
end Go.Proofs.YtleamcddhlacfaaDoor.V
