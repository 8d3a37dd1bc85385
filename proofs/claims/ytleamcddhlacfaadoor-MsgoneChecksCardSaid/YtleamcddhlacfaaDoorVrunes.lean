/- Which texts may be keys, and values: the program's functions as functions of data. No condition. -/
import Derived.Test.YtleamcddhlacfaaDoorVdec
import Derived.Test.YtleamcddhlacfaaDoorAk
set_option maxRecDepth 100000
set_option linter.unusedVariables false
set_option linter.unusedSimpArgs false
namespace Go.Proofs.YtleamcddhlacfaaDoor.V
open Go Go.Proofs.AbsV
def TU1 : FuncId → Option CSpec := tab [(117, decSp)]
theorem tokU1 : TOK Tryd.prog env TU1 := tok_tab mixed ⟨dec_ok, trivial⟩
theorem fn_bad : FnOK Tryd.prog 116 Tryd.f116 := ⟨by kernel_rfl, by kernel_rfl, by kernel_rfl⟩
def bad_hv : Keeps := fun c => (match Nat.beq c 0 with | true => some ([0, 8], [2]) | false => none)
def bad_S0 (s : ByteArray) (p : Nat) : St := { fr := frOf [(0, .str s), (8, .ptr 0 0)] 25 0, bx := [.iter s p] }
noncomputable def bad_B0 : Code := codeAt (bodyOf Tryd.f116) [1, 0, 1, 0, 0]
noncomputable def bad_K0 {α : Type} (F : Nat) (s : ByteArray)  (k : AV → List Box2 → Option α) : Ex → St → Option α := contAt env TU1 noInl bad_hv F (bodyOf Tryd.f116) [1, 0, 1, 0] 0 (endOf env Tryd.f116 (fun r bx => k r []))
noncomputable def bad_L0 {α : Type} (F n : Nat) (s : ByteArray) (p : Nat) (k : AV → List Box2 → Option α) : Option α := loopH 1 (some [0, 8]) (some [2]) (fun s k => runC env TU1 noInl bad_hv F bad_B0 0 s k) n (bad_S0 s p) (bad_K0 F  s k)
theorem bad_in {α : Type} (F : Nat) (s : ByteArray) (k : AV → List Box2 → Option α) : runF env TU1 noInl bad_hv F Tryd.f116 [.str s] [] (fun r bx => k r []) =
    (bad_L0 F F s 0 k) := by kernel_rfl
theorem bad_step0 {α : Type} (F n : Nat) (s : ByteArray) (p : Nat) (k : AV → List Box2 → Option α) : bad_L0 F (n + 1)  s p k =
    bif decide (p < ByteArray.size s) then bif (((Utf8.decode s p).1 : Nat) : Int) != 65533 then (bad_L0 F n s (Nat.add p (Utf8.decode s p).2) k) else bif decide (((p : Nat) : Int) ≤ (((ByteArray.size s) : Nat) : Int)) && decide ((((ByteArray.size s) : Nat) : Int) ≤ (((ByteArray.size s) : Nat) : Int)) then bif (((Lib.decodeGo (ByteArray.extract s (Int.toNat (((p : Nat) : Int))) (Int.toNat ((((ByteArray.size s) : Nat) : Int))))).2 : Nat) : Int) == 1 then k (AV.int IntKind.i64 (((p : Nat) : Int))) [] else (bad_L0 F n s (Nat.add p (Utf8.decode s p).2) k) else none else k (AV.int IntKind.i64 (-1)) [] := by kernel_rfl
theorem get_ext (s : ByteArray) (p j : Nat) : (s.extract p s.size).get! j = s.get! (p + j) := by
  have e : ∀ (t : ByteArray) i, t.get! i = t.data.toList.getD i 0 := by
    intro t i
    simp only [ByteArray.get!, List.getD_eq_getElem?_getD, Array.getElem?_toList]
    rw [Array.getElem!_eq_getD, Array.getD_eq_getD_getElem?]
    rfl
  rw [e, e, ByteArray.data_extract, Array.toList_extract]
  simp only [List.getD_eq_getElem?_getD]
  have hs : s.data.toList.length ≤ s.size := by simp
  rw [List.extract_eq_drop_take', List.take_of_length_le hs, List.getElem?_drop]
theorem dec_tail (s : ByteArray) (p : Nat) (h : p < s.size) : Go.Lib.decodeGo (s.extract p s.size) = Utf8.decode s p := by
  have h0 : (s.extract p s.size).size = s.size - p := by simp
  unfold Go.Lib.decodeGo
  rw [if_neg (by omega), dec_at, dec_at]
  unfold bt8
  rw [h0, get_ext, get_ext, get_ext, get_ext]
  simp
theorem bad_loop {α : Type} (F : Nat) (s : ByteArray) (k : AV → List Box2 → Option α) : ∀ (n p : Nat), s.size ≤ p + n →
    bad_L0 F (n + 1) s p k = k (.int .i64 (badL s (n + 1) p)) []
  | 0, p, h => by
    rw [bad_step0, badL, cond_neg (by omega), cond_neg (by omega)]
  | n + 1, p, h => by
    rw [bad_step0, badL]
    by_cases hp : p < s.size
    · have ih := bad_loop F s k n (p + (Utf8.decode s p).2) (by have := dec_width s p; omega)
      have hx : (decide (((p : Nat) : Int) ≤ (((ByteArray.size s) : Nat) : Int)) && decide ((((ByteArray.size s) : Nat) : Int) ≤ (((ByteArray.size s) : Nat) : Int))) = true := by simp; omega
      have hd : Go.Lib.decodeGo (ByteArray.extract s (Int.toNat (((p : Nat) : Int))) (Int.toNat ((((ByteArray.size s) : Nat) : Int)))) = Utf8.decode s p := by
        rw [Int.toNat_natCast, Int.toNat_natCast]; exact dec_tail s p hp
      rw [cond_pos hp, cond_pos hp, hx, hd, cond_true]
      show (bif _ then bad_L0 F (n + 1) s (p + (Utf8.decode s p).2) k else bif _ then _ else bad_L0 F (n + 1) s (p + (Utf8.decode s p).2) k) = _
      rw [ih]
      unfold noRune
      have e1 : ((((Utf8.decode s p).1 : Nat) : Int) != 65533) = !((Utf8.decode s p).1 == 65533) := by
        rw [bne]; congr 1; rw [Bool.eq_iff_iff]; simp; omega
      have e2 : ((((Utf8.decode s p).2 : Nat) : Int) == 1) = ((Utf8.decode s p).2 == 1) := by rw [Bool.eq_iff_iff]; simp; omega
      rw [e1, e2]
      cases ((Utf8.decode s p).1 == 65533) <;> cases ((Utf8.decode s p).2 == 1) <;> rfl
    · rw [cond_neg hp, cond_neg hp]
def badV (s : ByteArray) : Int := badL s (s.size + 1) 0
def badSp : List AV → List (Bool × AV)
  | [.str s] => [(true, .int .i64 (badV s))]
  | _ => []
theorem bad_ok : PureOK Tryd.prog env 116 badSp := by
  refine PureOK.of_reads envOK tokU1 noInl_ok fn_bad (hv := bad_hv) (fun args r h => ?_)
  unfold badSp at h
  split at h
  · rename_i s
    cases h
    exact ⟨_, s.size + 1, fun _ _ h => h, (bad_in (s.size + 1) s (fun r _ => some r)).trans (bad_loop _ s _ s.size 0 (by omega))⟩
  · cases h
def TU2 : FuncId → Option CSpec := tab [(116, badSp)]
theorem tokU2 : TOK Tryd.prog env TU2 := tok_tab mixed ⟨bad_ok, trivial⟩
theorem fn_whole : FnOK Tryd.prog 112 Tryd.f112 := ⟨by kernel_rfl, by kernel_rfl, by kernel_rfl⟩
def whole_hv : Keeps := fun _ => none
theorem whole_in {α : Type} (F : Nat) (s : ByteArray) (k : AV → List Box2 → Option α) : runF env TU2 noInl whole_hv F Tryd.f112 [.str s] [] (fun r bx => k r []) =
    k (AV.bool (decide (badV s < 0))) [] := by kernel_rfl
def wholeSp : List AV → List (Bool × AV)
  | [.str s] => [(true, .bool (decide (badV s < 0)))]
  | _ => []
theorem whole_ok : PureOK Tryd.prog env 112 wholeSp := by
  refine PureOK.of_reads envOK tokU2 noInl_ok fn_whole (hv := whole_hv) (fun args r h => ?_)
  unfold wholeSp at h
  split at h
  · rename_i s
    cases h
    exact ⟨_, 0, fun _ _ h => h, whole_in 0 s (fun r _ => some r)⟩
  · cases h
theorem fn_plain : FnOK Tryd.prog 114 Tryd.f114 := ⟨by kernel_rfl, by kernel_rfl, by kernel_rfl⟩
def plain_hv : Keeps := fun _ => none
theorem plain_in {α : Type} (F : Nat) (r : Int) (k : AV → List Box2 → Option α) : runF env T0 noInl plain_hv F Tryd.f114 [.int .i32 r] [] (fun r bx => k r []) =
    bif decide (r ≥ 97) then bif decide (r ≤ 122) then k (AV.bool true) [] else bif decide (r ≥ 65) then bif decide (r ≤ 90) then k (AV.bool true) [] else bif decide (r ≥ 48) then bif decide (r ≤ 57) then k (AV.bool true) [] else bif r == 45 then k (AV.bool true) [] else bif r == 95 then k (AV.bool true) [] else bif r == 46 then k (AV.bool true) [] else bif r == 58 then k (AV.bool true) [] else bif decide (r ≥ 161) then k (AV.bool (r != 65533)) [] else k (AV.bool false) [] else bif r == 45 then k (AV.bool true) [] else bif r == 95 then k (AV.bool true) [] else bif r == 46 then k (AV.bool true) [] else bif r == 58 then k (AV.bool true) [] else bif decide (r ≥ 161) then k (AV.bool (r != 65533)) [] else k (AV.bool false) [] else bif decide (r ≥ 48) then bif decide (r ≤ 57) then k (AV.bool true) [] else bif r == 45 then k (AV.bool true) [] else bif r == 95 then k (AV.bool true) [] else bif r == 46 then k (AV.bool true) [] else bif r == 58 then k (AV.bool true) [] else bif decide (r ≥ 161) then k (AV.bool (r != 65533)) [] else k (AV.bool false) [] else bif r == 45 then k (AV.bool true) [] else bif r == 95 then k (AV.bool true) [] else bif r == 46 then k (AV.bool true) [] else bif r == 58 then k (AV.bool true) [] else bif decide (r ≥ 161) then k (AV.bool (r != 65533)) [] else k (AV.bool false) [] else bif decide (r ≥ 65) then bif decide (r ≤ 90) then k (AV.bool true) [] else bif decide (r ≥ 48) then bif decide (r ≤ 57) then k (AV.bool true) [] else bif r == 45 then k (AV.bool true) [] else bif r == 95 then k (AV.bool true) [] else bif r == 46 then k (AV.bool true) [] else bif r == 58 then k (AV.bool true) [] else bif decide (r ≥ 161) then k (AV.bool (r != 65533)) [] else k (AV.bool false) [] else bif r == 45 then k (AV.bool true) [] else bif r == 95 then k (AV.bool true) [] else bif r == 46 then k (AV.bool true) [] else bif r == 58 then k (AV.bool true) [] else bif decide (r ≥ 161) then k (AV.bool (r != 65533)) [] else k (AV.bool false) [] else bif decide (r ≥ 48) then bif decide (r ≤ 57) then k (AV.bool true) [] else bif r == 45 then k (AV.bool true) [] else bif r == 95 then k (AV.bool true) [] else bif r == 46 then k (AV.bool true) [] else bif r == 58 then k (AV.bool true) [] else bif decide (r ≥ 161) then k (AV.bool (r != 65533)) [] else k (AV.bool false) [] else bif r == 45 then k (AV.bool true) [] else bif r == 95 then k (AV.bool true) [] else bif r == 46 then k (AV.bool true) [] else bif r == 58 then k (AV.bool true) [] else bif decide (r ≥ 161) then k (AV.bool (r != 65533)) [] else k (AV.bool false) [] := by kernel_rfl
theorem fn_val1 : FnOK Tryd.prog 115 Tryd.f115 := ⟨by kernel_rfl, by kernel_rfl, by kernel_rfl⟩
def val1_hv : Keeps := fun _ => none
theorem val1_in {α : Type} (F : Nat) (r : Int) (k : AV → List Box2 → Option α) : runF env T0 noInl val1_hv F Tryd.f115 [.int .i32 r] [] (fun r bx => k r []) =
    bif decide (r ≥ 32) then k (AV.bool (r != 127)) [] else k (AV.bool false) [] := by kernel_rfl
def plainB (r : Int) : Bool := decide (r ≥ 97) && decide (r ≤ 122) || (decide (r ≥ 65) && decide (r ≤ 90) || (decide (r ≥ 48) && decide (r ≤ 57) || (r == 45 || (r == 95 || (r == 46 || (r == 58 || decide (r ≥ 161) && (r != 65533)))))))
def valRB (r : Int) : Bool := decide (r ≥ 32) && (r != 127)
def plainSp : List AV → List (Bool × AV)
  | [.int .i32 r] => [(true, .bool (plainB r))]
  | _ => []
def val1Sp : List AV → List (Bool × AV)
  | [.int .i32 r] => [(true, .bool (valRB r))]
  | _ => []
theorem plain_ok : PureOK Tryd.prog env 114 plainSp := by
  refine PureOK.of_reads envOK tok0 noInl_ok fn_plain (hv := plain_hv) (fun args r h => ?_)
  unfold plainSp at h
  split at h
  · rename_i x
    cases h
    refine ⟨_, 0, fun _ _ h => h, (plain_in 0 x (fun r _ => some r)).trans ?_⟩
    simp only [cond_andL]
    unfold plainB
    cases (decide (x ≥ 97) && decide (x ≤ 122)) <;> cases (decide (x ≥ 65) && decide (x ≤ 90)) <;> cases (decide (x ≥ 48) && decide (x ≤ 57)) <;> cases (x == 45) <;> cases (x == 95) <;> cases (x == 46) <;> cases (x == 58) <;> cases (decide (x ≥ 161)) <;> rfl
  · cases h
theorem val1_ok : PureOK Tryd.prog env 115 val1Sp := by
  refine PureOK.of_reads envOK tok0 noInl_ok fn_val1 (hv := val1_hv) (fun args r h => ?_)
  unfold val1Sp at h
  split at h
  · rename_i x
    cases h
    refine ⟨_, 0, fun _ _ h => h, (val1_in 0 x (fun r _ => some r)).trans ?_⟩
    unfold valRB
    cases (decide (x ≥ 32)) <;> rfl
  · cases h
def TU3 : FuncId → Option CSpec := tab [(114, plainSp), (115, val1Sp)]
theorem tokU3 : TOK Tryd.prog env TU3 := tok_tab mixed ⟨plain_ok, val1_ok, trivial⟩
theorem fn_allP : FnOK Tryd.prog 113 Tryd.f113 := ⟨by kernel_rfl, by kernel_rfl, by kernel_rfl⟩
def allP_hv : Keeps := fun c => (match Nat.beq c 0 with | true => some ([1, 8], [4]) | false => none)
def allP_S0 (s : ByteArray) (p : Nat) : St := { fr := frOf [(1, .fn 114 []), (8, .ptr 0 0)] 16 0, bx := [.iter s p] }
noncomputable def allP_B0 : Code := codeAt (bodyOf Tryd.f113) [1, 0, 1, 0, 0]
noncomputable def allP_K0 {α : Type} (F : Nat) (s : ByteArray)  (k : AV → List Box2 → Option α) : Ex → St → Option α := contAt env TU3 noInl allP_hv F (bodyOf Tryd.f113) [1, 0, 1, 0] 0 (endOf env Tryd.f113 (fun r bx => k r []))
noncomputable def allP_L0 {α : Type} (F n : Nat) (s : ByteArray) (p : Nat) (k : AV → List Box2 → Option α) : Option α := loopH 1 (some [1, 8]) (some [4]) (fun s k => runC env TU3 noInl allP_hv F allP_B0 0 s k) n (allP_S0 s p) (allP_K0 F  s k)
theorem allP_in {α : Type} (F : Nat) (s : ByteArray) (k : AV → List Box2 → Option α) : runF env TU3 noInl allP_hv F Tryd.f113 [.str s, .fn 114 []] [] (fun r bx => k r []) =
    (allP_L0 F F s 0 k) := by kernel_rfl
theorem allP_step0 {α : Type} (F n : Nat) (s : ByteArray) (p : Nat) (k : AV → List Box2 → Option α) : allP_L0 F (n + 1)  s p k =
    bif decide (p < ByteArray.size s) then bif !plainB ((((Utf8.decode s p).1 : Nat) : Int)) then k (AV.bool false) [] else (allP_L0 F n s (Nat.add p (Utf8.decode s p).2) k) else k (AV.bool true) [] := by kernel_rfl
theorem fn_allV : FnOK Tryd.prog 113 Tryd.f113 := ⟨by kernel_rfl, by kernel_rfl, by kernel_rfl⟩
def allV_hv : Keeps := fun c => (match Nat.beq c 0 with | true => some ([1, 8], [4]) | false => none)
def allV_S0 (s : ByteArray) (p : Nat) : St := { fr := frOf [(1, .fn 115 []), (8, .ptr 0 0)] 16 0, bx := [.iter s p] }
noncomputable def allV_B0 : Code := codeAt (bodyOf Tryd.f113) [1, 0, 1, 0, 0]
noncomputable def allV_K0 {α : Type} (F : Nat) (s : ByteArray)  (k : AV → List Box2 → Option α) : Ex → St → Option α := contAt env TU3 noInl allV_hv F (bodyOf Tryd.f113) [1, 0, 1, 0] 0 (endOf env Tryd.f113 (fun r bx => k r []))
noncomputable def allV_L0 {α : Type} (F n : Nat) (s : ByteArray) (p : Nat) (k : AV → List Box2 → Option α) : Option α := loopH 1 (some [1, 8]) (some [4]) (fun s k => runC env TU3 noInl allV_hv F allV_B0 0 s k) n (allV_S0 s p) (allV_K0 F  s k)
theorem allV_in {α : Type} (F : Nat) (s : ByteArray) (k : AV → List Box2 → Option α) : runF env TU3 noInl allV_hv F Tryd.f113 [.str s, .fn 115 []] [] (fun r bx => k r []) =
    (allV_L0 F F s 0 k) := by kernel_rfl
theorem allV_step0 {α : Type} (F n : Nat) (s : ByteArray) (p : Nat) (k : AV → List Box2 → Option α) : allV_L0 F (n + 1)  s p k =
    bif decide (p < ByteArray.size s) then bif !valRB ((((Utf8.decode s p).1 : Nat) : Int)) then k (AV.bool false) [] else (allV_L0 F n s (Nat.add p (Utf8.decode s p).2) k) else k (AV.bool true) [] := by kernel_rfl
end Go.Proofs.YtleamcddhlacfaaDoor.V
