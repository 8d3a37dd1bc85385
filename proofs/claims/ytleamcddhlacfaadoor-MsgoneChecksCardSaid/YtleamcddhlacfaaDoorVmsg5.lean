/- Messages: the program's check, likeness, size as functions of data. No condition. -/
import Derived.Test.YtleamcddhlacfaaDoorVmsg3s
set_option maxRecDepth 100000
set_option linter.unusedVariables false
set_option linter.unusedSimpArgs false
namespace Go.Proofs.YtleamcddhlacfaaDoor.V
open Go Go.Proofs.AbsV
/-- What is wrong with a message. -/
def chkMx (kd fr to br bn ix cm vs : Int) (es : List EntD) (im : List Int) : Int :=
  bif fM kd == 0 then 5 else bif !rangesB (fM kd) fr to br bn ix cm vs then 6
  else bif (bitB (fM kd) 16 && decide (((es.length : Nat) : Int) > 256)) || (bitB (fM kd) 32 && decide (((im.length : Nat) : Int) > 32768)) then 2
  else bif bitB (fM kd) 16 && (chkEs none es != 0) then chkEs none es
  else bif othersB (fM kd) br bn ix cm vs es.length im.length || ((kd == 5 && !accB br bn es) || (kd == 11 && (((im.length : Nat) : Int) == 0))) then 3 else 0
def chkM (m : MsgD) : Int := chkMx m.1 m.2.1 m.2.2.1 m.2.2.2.1.1 m.2.2.2.1.2.1 m.2.2.2.2.1 m.2.2.2.2.2.1 m.2.2.2.2.2.2.1 m.2.2.2.2.2.2.2.1 m.2.2.2.2.2.2.2.2.1
def msgIn (x : AV) : Option MsgD := datIn MT x
def chkMSp : List AV → List (Bool × AV)
  | [x] => match msgIn x with
    | some m => [(gEs m.2.2.2.2.2.2.2.1, .int .i64 (chkM m))]
    | none => []
  | _ => []
theorem mchk_run (kd fr to br bn ix cm vs : Int) (es : List EntD) (im : List Int) (g : gEs es = true) : runF env TM5 noInl mchk_hv 0 Tryd.f9 [.agg (msgC kd fr to br bn ix cm vs es im)] [] (fun r bx => some r) = some (.int .i64 (chkMx kd fr to br bn ix cm vs es im)) := by
  refine (mchk_in 0 kd fr to br bn ix cm vs es im (fun r _ => some r)).trans ?_
  have ha : accD (kd, fr, to, (br, bn, PUnit.unit), ix, cm, vs, es, im, PUnit.unit) = accB br bn es := rfl
  rw [ha, g]
  unfold chkMx bitB
  generalize (fM kd == 0) = c0
  generalize rangesB (fM kd) fr to br bn ix cm vs = c1
  generalize (andI IntKind.i64 (fM kd) 16 != 0) = b16
  generalize (andI IntKind.i64 (fM kd) 32 != 0) = b32
  generalize decide (((List.length es : Nat) : Int) > 256) = c2
  generalize decide (((List.length im : Nat) : Int) > 32768) = c3
  generalize chkEs none es = n
  generalize (n != 0) = c4
  generalize othersB (fM kd) br bn ix cm vs (List.length es) (List.length im) = c5
  generalize (kd == 5) = c6
  generalize accB br bn es = c7
  generalize (kd == 11) = c8
  generalize (((List.length im : Nat) : Int) == 0) = c9
  cases c0
  · cases c1
    · rfl
    · cases b16 <;> cases b32 <;> cases c2 <;> (try rfl) <;> cases c3 <;> (try rfl) <;> cases c4 <;> (try rfl) <;> cases c5 <;> (try rfl) <;> cases c6 <;> (try rfl) <;> cases c7 <;> (try rfl) <;> cases c8 <;> (try rfl) <;> cases c9 <;> rfl
  · rfl
theorem acc_key (es : List EntD) (x y : Int) : (bif (((List.length es) : Nat) : Int) == 1 then bif decide (0 < (((List.length es) : Nat) : Int)) then some (AV.bool (@BEq.beq Int _ (rdD ET es 0).2.1.1 x && (@BEq.beq Int _ (rdD ET es 0).2.1.2.1 y && true))) else none else some (AV.bool false)) = some (AV.bool (accB x y es)) := by
  match es with
  | [] => rfl
  | [e] => rfl
  | e :: e2 :: r =>
    have h1 : ((((e :: e2 :: r).length : Nat) : Int) == 1) = false := by rw [beq_eq_false_iff_ne]; simp; omega
    rw [h1]
    rfl
theorem maccept_ok : PureOK Tryd.prog env 27 accSp := by
  refine PureOK.of_reads envOK tok0 noInl_ok fn_maccept (hv := maccept_hv) (fun args r h => ?_)
  unfold accSp at h
  split at h
  · rename_i x
    split at h
    · rename_i m hm
      cases h
      refine ⟨_, 0, .dat hm .nil, (maccept_in 0 m.1 m.2.1 m.2.2.1 m.2.2.2.1.1 m.2.2.2.1.2.1 m.2.2.2.2.1 m.2.2.2.2.2.1 m.2.2.2.2.2.2.1 m.2.2.2.2.2.2.2.1 m.2.2.2.2.2.2.2.2.1 (fun r _ => some r)).trans ?_⟩
      exact acc_key m.2.2.2.2.2.2.2.1 m.2.2.2.1.1 m.2.2.2.1.2.1
    · cases h
  · cases h
theorem msame1_ok : PureOK Tryd.prog env 32 numSp := by
  refine PureOK.of_reads envOK tok0 noInl_ok fn_msame1 (hv := fun _ => none) (fun args r h => ?_)
  unfold numSp at h
  split at h
  · rename_i x
    split at h
    · rename_i m hm
      cases h
      exact ⟨_, 0, .dat hm .nil, msame1_in 0 m.1 m.2.1 m.2.2.1 m.2.2.2.1.1 m.2.2.2.1.2.1 m.2.2.2.2.1 m.2.2.2.2.2.1 m.2.2.2.2.2.2.1 m.2.2.2.2.2.2.2.1 m.2.2.2.2.2.2.2.2.1 (fun r _ => some r)⟩
    · cases h
  · cases h
theorem tokM5 : TOK Tryd.prog env TM5 := tok_tab mixed ⟨mfields_ok, ranges_ok, others_ok, maccept_ok, echk_ok, trivial⟩
theorem tokM6 : TOK Tryd.prog env TM6 := tok_tab mixed ⟨msame1_ok, eeq_ok, beq_ok, trivial⟩
theorem tokM7 : TOK Tryd.prog env TM7 := tok_tab mixed ⟨esame_ok, bsame_ok, trivial⟩
theorem tokM8 : TOK Tryd.prog env TM8 := tok_tab mixed ⟨elarge_ok, trivial⟩
theorem mchk_ok : PureOK Tryd.prog env 9 chkMSp := by
  refine PureOK.of_reads envOK tokM5 noInl_ok fn_mchk (hv := mchk_hv) (fun args r h => ?_)
  unfold chkMSp at h
  split at h
  · rename_i x
    split at h
    · rename_i m hm
      obtain ⟨g, e⟩ := sel_one h
      subst e
      exact ⟨_, 0, .dat (τ := MT) hm .nil, mchk_run m.1 m.2.1 m.2.2.1 m.2.2.2.1.1 m.2.2.2.1.2.1 m.2.2.2.2.1 m.2.2.2.2.2.1 m.2.2.2.2.2.2.1 m.2.2.2.2.2.2.2.1 m.2.2.2.2.2.2.2.2.1 g⟩
    · cases h
  · cases h
/-! ### Likeness -/
def sameMx (kd fr to br bn ix cm vs : Int) (es : List EntD) (im : List Int) (kd2 fr2 to2 br2 bn2 ix2 cm2 vs2 : Int) (es2 : List EntD) (im2 : List Int) : Bool :=
  (kd == kd2 && (fr == fr2 && (to == to2 && (br == br2 && (bn == bn2 && (ix == ix2 && (cm == cm2 && (vs == vs2 && true)))))))) && (sameEs es es2 && sameBs im im2)
def sameM (m o : MsgD) : Bool := sameMx m.1 m.2.1 m.2.2.1 m.2.2.2.1.1 m.2.2.2.1.2.1 m.2.2.2.2.1 m.2.2.2.2.2.1 m.2.2.2.2.2.2.1 m.2.2.2.2.2.2.2.1 m.2.2.2.2.2.2.2.2.1 o.1 o.2.1 o.2.2.1 o.2.2.2.1.1 o.2.2.2.1.2.1 o.2.2.2.2.1 o.2.2.2.2.2.1 o.2.2.2.2.2.2.1 o.2.2.2.2.2.2.2.1 o.2.2.2.2.2.2.2.2.1
def gS (m : MsgD) : Bool := Nat.ble m.2.2.2.2.2.2.2.1.length 1000000000000 && Nat.ble m.2.2.2.2.2.2.2.2.1.length 1000000000000
def sameMSp : List AV → List (Bool × AV)
  | [x, y] => match msgIn x, msgIn y with
    | some m, some o => [(gS m, .bool (sameM m o))]
    | _, _ => []
  | _ => []
theorem msame_run (kd fr to br bn ix cm vs : Int) (es : List EntD) (im : List Int) (kd2 fr2 to2 br2 bn2 ix2 cm2 vs2 : Int) (es2 : List EntD) (im2 : List Int) (g1 : Nat.ble es.length 1000000000000 = true) (g2 : Nat.ble im.length 1000000000000 = true) :
    runF env TM6 noInl msame_hv 0 Tryd.f11 [.agg (msgC kd fr to br bn ix cm vs es im), .agg (msgC kd2 fr2 to2 br2 bn2 ix2 cm2 vs2 es2 im2)] [] (fun r bx => some r) = some (.bool (sameMx kd fr to br bn ix cm vs es im kd2 fr2 to2 br2 bn2 ix2 cm2 vs2 es2 im2)) := by
  refine (msame_in 0 kd fr to br bn ix cm vs es im kd2 fr2 to2 br2 bn2 ix2 cm2 vs2 es2 im2 (fun r _ => some r)).trans ?_
  rw [g1, g2]
  unfold sameMx
  generalize (kd == kd2 && (fr == fr2 && (to == to2 && (br == br2 && (bn == bn2 && (ix == ix2 && (cm == cm2 && (vs == vs2 && true)))))))) = a
  cases a <;> cases sameEs es es2 <;> rfl
theorem rmsame_run (kd fr to br bn ix cm vs : Int) (es : List EntD) (im : List Int) (kd2 fr2 to2 br2 bn2 ix2 cm2 vs2 : Int) (es2 : List EntD) (im2 : List Int) (g1 : Nat.ble es.length 1000000000000 = true) (g2 : Nat.ble im.length 1000000000000 = true) :
    runF env TM7 noInl rmsame_hv 0 Tryd.f12 [.agg (msgC kd fr to br bn ix cm vs es im), .agg (msgC kd2 fr2 to2 br2 bn2 ix2 cm2 vs2 es2 im2)] [] (fun r bx => some r) = some (.bool (sameMx kd fr to br bn ix cm vs es im kd2 fr2 to2 br2 bn2 ix2 cm2 vs2 es2 im2)) := by
  refine (rmsame_in 0 kd fr to br bn ix cm vs es im kd2 fr2 to2 br2 bn2 ix2 cm2 vs2 es2 im2 (fun r _ => some r)).trans ?_
  rw [g1, g2]
  unfold sameMx
  cases (kd == kd2) <;> (try rfl) <;> cases (fr == fr2) <;> (try rfl) <;> cases (to == to2) <;> (try rfl) <;> cases (br == br2) <;> (try rfl) <;> cases (bn == bn2) <;> (try rfl) <;> cases (ix == ix2) <;> (try rfl) <;> cases (cm == cm2) <;> (try rfl) <;> cases (vs == vs2) <;> (try rfl) <;> cases sameEs es es2 <;> rfl
theorem msame_ok : PureOK Tryd.prog env 11 sameMSp := by
  refine PureOK.of_reads envOK tokM6 noInl_ok fn_msame (hv := msame_hv) (fun args r h => ?_)
  unfold sameMSp at h
  split at h
  · split at h
    · rename_i m o hm ho
      obtain ⟨g, e⟩ := sel_one h
      subst e
      simp only [gS, Bool.and_eq_true] at g
      exact ⟨_, 0, .dat (τ := MT) hm (.dat (τ := MT) ho .nil), msame_run m.1 m.2.1 m.2.2.1 m.2.2.2.1.1 m.2.2.2.1.2.1 m.2.2.2.2.1 m.2.2.2.2.2.1 m.2.2.2.2.2.2.1 m.2.2.2.2.2.2.2.1 m.2.2.2.2.2.2.2.2.1 o.1 o.2.1 o.2.2.1 o.2.2.2.1.1 o.2.2.2.1.2.1 o.2.2.2.2.1 o.2.2.2.2.2.1 o.2.2.2.2.2.2.1 o.2.2.2.2.2.2.2.1 o.2.2.2.2.2.2.2.2.1 g.1 g.2⟩
    · cases h
  · cases h
theorem rmsame_ok : PureOK Tryd.prog env 12 sameMSp := by
  refine PureOK.of_reads envOK tokM7 noInl_ok fn_rmsame (hv := rmsame_hv) (fun args r h => ?_)
  unfold sameMSp at h
  split at h
  · split at h
    · rename_i m o hm ho
      obtain ⟨g, e⟩ := sel_one h
      subst e
      simp only [gS, Bool.and_eq_true] at g
      exact ⟨_, 0, .dat (τ := MT) hm (.dat (τ := MT) ho .nil), rmsame_run m.1 m.2.1 m.2.2.1 m.2.2.2.1.1 m.2.2.2.1.2.1 m.2.2.2.2.1 m.2.2.2.2.2.1 m.2.2.2.2.2.2.1 m.2.2.2.2.2.2.2.1 m.2.2.2.2.2.2.2.2.1 o.1 o.2.1 o.2.2.1 o.2.2.2.1.1 o.2.2.2.1.2.1 o.2.2.2.2.1 o.2.2.2.2.2.1 o.2.2.2.2.2.2.1 o.2.2.2.2.2.2.2.1 o.2.2.2.2.2.2.2.2.1 g.1 g.2⟩
    · cases h
  · cases h
theorem eqS_refl (s : ByteArray) : (ByteArray.toList s == ByteArray.toList s) = true := by simp
theorem eqE_refl (e : EntD) : eqE e e = true := by
  obtain ⟨ix, ⟨br, bn, u⟩, ⟨kd, cl, sq, ke, va, ol, nd, u'⟩, u''⟩ := e
  show ((ix == ix) && (((br == br) && ((bn == bn) && true)) && (((kd == kd) && ((cl == cl) && ((sq == sq) && ((ByteArray.toList ke == ByteArray.toList ke) && ((ByteArray.toList va == ByteArray.toList va) && ((ByteArray.toList ol == ByteArray.toList ol) && ((nd == nd) && true))))))) && true))) = true
  simp
theorem sameM_refl (m : MsgD) : sameM m m = true := by
  unfold sameM sameMx sameEs sameBs
  rw [sameL_refl eqE_refl, sameL_refl (fun x => by simp)]
  simp
/-! ### Too large to be looked at -/
def largeM (m : MsgD) : Bool := largeEs m.2.2.2.2.2.2.2.1 || ((decide (((m.2.2.2.2.2.2.2.2.1.length : Nat) : Int) > 300) && decide (((m.2.2.2.2.2.2.2.2.1.length : Nat) : Int) < 32760)) || decide (((m.2.2.2.2.2.2.2.2.1.length : Nat) : Int) > 32780))
def largeMSp : List AV → List (Bool × AV)
  | [x] => match msgIn x with
    | some m => [(Nat.ble m.2.2.2.2.2.2.2.1.length 1000000000000, .bool (largeM m))]
    | none => []
  | _ => []
theorem mlarge_run (kd fr to br bn ix cm vs : Int) (es : List EntD) (im : List Int) (g : Nat.ble es.length 1000000000000 = true) : runF env TM8 noInl mlarge_hv 0 Tryd.f7 [.agg (msgC kd fr to br bn ix cm vs es im)] [] (fun r bx => some r) =
    some (.bool (largeEs es || ((decide (((im.length : Nat) : Int) > 300) && decide (((im.length : Nat) : Int) < 32760)) || decide (((im.length : Nat) : Int) > 32780)))) := by
  refine (mlarge_in 0 kd fr to br bn ix cm vs es im (fun r _ => some r)).trans ?_
  rw [g]
  cases largeEs es <;> cases decide (((im.length : Nat) : Int) > 300) <;> cases decide (((im.length : Nat) : Int) < 32760) <;> rfl
theorem mlarge_ok : PureOK Tryd.prog env 7 largeMSp := by
  refine PureOK.of_reads envOK tokM8 noInl_ok fn_mlarge (hv := mlarge_hv) (fun args r h => ?_)
  unfold largeMSp at h
  split at h
  · rename_i x
    split at h
    · rename_i m hm
      obtain ⟨g, e⟩ := sel_one h
      subst e
      exact ⟨_, 0, .dat (τ := MT) hm .nil, mlarge_run m.1 m.2.1 m.2.2.1 m.2.2.2.1.1 m.2.2.2.1.2.1 m.2.2.2.2.1 m.2.2.2.2.2.1 m.2.2.2.2.2.2.1 m.2.2.2.2.2.2.2.1 m.2.2.2.2.2.2.2.2.1 g⟩
    · cases h
  · cases h
end Go.Proofs.YtleamcddhlacfaaDoor.V
