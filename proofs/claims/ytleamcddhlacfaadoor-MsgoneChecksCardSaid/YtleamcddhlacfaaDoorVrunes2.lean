/- Which texts may be keys, and values: the program's functions, second half; the document's. No condition. -/
import Derived.Test.YtleamcddhlacfaaDoorVrunes
set_option maxRecDepth 100000
set_option linter.unusedVariables false
set_option linter.unusedSimpArgs false
namespace Go.Proofs.YtleamcddhlacfaaDoor.V
open Go Go.Proofs.AbsV
def qP (n : Nat) : Bool := plainB (n : Int)
def qV (n : Nat) : Bool := valRB (n : Int)
theorem qV_low : LowQ qV := ⟨fun n h => by unfold qV valRB; simp; omega⟩
theorem allP_loop {α : Type} (F : Nat) (s : ByteArray) (k : AV → List Box2 → Option α) : ∀ (n p : Nat), s.size ≤ p + n → allP_L0 F (n + 1) s p k = k (.bool (allL qP s (n + 1) p)) []
  | 0, p, h => by rw [allP_step0, allL, cond_neg (by omega), cond_neg (by omega)]
  | n + 1, p, h => by
    rw [allP_step0, allL]
    by_cases hp : p < s.size
    · have ih := allP_loop F s k n (p + (Utf8.decode s p).2) (by have := dec_width s p; omega)
      rw [cond_pos hp, cond_pos hp]
      show (bif !qP (Utf8.decode s p).1 then k (.bool false) [] else allP_L0 F (n + 1) s (p + (Utf8.decode s p).2) k) = _
      rw [ih]
      cases qP (Utf8.decode s p).1 <;> rfl
    · rw [cond_neg hp, cond_neg hp]
theorem allV_loop {α : Type} (F : Nat) (s : ByteArray) (k : AV → List Box2 → Option α) : ∀ (n p : Nat), s.size ≤ p + n → allV_L0 F (n + 1) s p k = k (.bool (allL qV s (n + 1) p)) []
  | 0, p, h => by rw [allV_step0, allL, cond_neg (by omega), cond_neg (by omega)]
  | n + 1, p, h => by
    rw [allV_step0, allL]
    by_cases hp : p < s.size
    · have ih := allV_loop F s k n (p + (Utf8.decode s p).2) (by have := dec_width s p; omega)
      rw [cond_pos hp, cond_pos hp]
      show (bif !qV (Utf8.decode s p).1 then k (.bool false) [] else allV_L0 F (n + 1) s (p + (Utf8.decode s p).2) k) = _
      rw [ih]
      cases qV (Utf8.decode s p).1 <;> rfl
    · rw [cond_neg hp, cond_neg hp]
def allPV (s : ByteArray) : Bool := allL qP s (s.size + 1) 0
def allVV (s : ByteArray) : Bool := allL qV s (s.size + 1) 0
def allSp : List AV → List (Bool × AV)
  | [.str s, .fn f []] => [(Nat.beq f 114, .bool (allPV s)), (Nat.beq f 115, .bool (allVV s))]
  | _ => []
theorem all_ok : PureOK Tryd.prog env 113 allSp := by
  refine ⟨⟨_, fn_allP⟩, fun args r hr hp C w cargs hstab hgl hargs => ?_⟩
  have hr0 := hr
  unfold allSp at hr
  split at hr
  · rename_i s f
    cases hb : Nat.beq f 114 with
    | true =>
      have e := Nat.eq_of_beq_eq_true hb
      subst e
      cases hr
      refine (PureOK.of_reads envOK tokU3 noInl_ok fn_allP (hv := allP_hv) (sp := fun l => match l with | [.str s, .fn f []] => [(Nat.beq f 114, .bool (allPV s))] | _ => []) (fun args r h => ?_)).ok _ _ rfl rfl C w cargs hstab hgl hargs
      split at h
      · rename_i s f
        obtain ⟨g, e⟩ := sel_one h
        have e2 := Nat.eq_of_beq_eq_true g
        subst e2; subst e
        exact ⟨_, s.size + 1, fun _ _ h => h, (allP_in (s.size + 1) s (fun r _ => some r)).trans (allP_loop _ s _ s.size 0 (by omega))⟩
      · cases h
    | false =>
      rw [hb] at hr
      obtain ⟨g, e⟩ := sel_one (show sel [(Nat.beq f 115, AV.bool (allVV s))] = some r from hr)
      have e2 := Nat.eq_of_beq_eq_true g
      subst e2; subst e
      refine (PureOK.of_reads envOK tokU3 noInl_ok fn_allV (hv := allV_hv) (sp := fun l => match l with | [.str s, .fn f []] => [(Nat.beq f 115, .bool (allVV s))] | _ => []) (fun args r h => ?_)).ok _ _ rfl rfl C w cargs hstab hgl hargs
      split at h
      · rename_i s f
        obtain ⟨g, e⟩ := sel_one h
        have e2 := Nat.eq_of_beq_eq_true g
        subst e2; subst e
        exact ⟨_, s.size + 1, fun _ _ h => h, (allV_in (s.size + 1) s (fun r _ => some r)).trans (allV_loop _ s _ s.size 0 (by omega))⟩
      · cases h
  · cases hr
def TU4 : FuncId → Option CSpec := tab [(112, wholeSp), (113, allSp)]
theorem tokU4 : TOK Tryd.prog env TU4 := tok_tab mixed ⟨whole_ok, all_ok, trivial⟩
theorem fn_rkey : FnOK Tryd.prog 104 Tryd.f104 := ⟨by kernel_rfl, by kernel_rfl, by kernel_rfl⟩
def rkey_hv : Keeps := fun _ => none
theorem rkey_in {α : Type} (F : Nat) (s : ByteArray) (k : AV → List Box2 → Option α) : runF env TU4 noInl rkey_hv F Tryd.f104 [.str s] [] (fun r bx => k r []) =
    bif !ByteArray.toList s == ByteArray.toList { data := { toList := [] } } then bif decide ((((ByteArray.size s) : Nat) : Int) ≤ 24) then bif decide (badV s < 0) then k (AV.bool (allPV s)) [] else k (AV.bool false) [] else k (AV.bool false) [] else k (AV.bool false) [] := by kernel_rfl
theorem fn_rval : FnOK Tryd.prog 106 Tryd.f106 := ⟨by kernel_rfl, by kernel_rfl, by kernel_rfl⟩
def rval_hv : Keeps := fun _ => none
theorem rval_in {α : Type} (F : Nat) (s : ByteArray) (k : AV → List Box2 → Option α) : runF env TU4 noInl rval_hv F Tryd.f106 [.str s] [] (fun r bx => k r []) =
    bif decide ((((ByteArray.size s) : Nat) : Int) ≤ 48) then bif decide (badV s < 0) then k (AV.bool (allVV s)) [] else k (AV.bool false) [] else k (AV.bool false) [] := by kernel_rfl
theorem fn_size : FnOK Tryd.prog 93 Tryd.f93 := ⟨by kernel_rfl, by kernel_rfl, by kernel_rfl⟩
def size_hv : Keeps := fun c => (match Nat.beq c 1 with | true => some ([0, 1, 7, 8, 9, 10], [4, 5, 7, 8, 9]) | false => none)
def size_S0 (s : ByteArray) (i : Int) (v7 : Int) (low : Int) (v : Int) (v10 : Int) : St := { fr := frOf [(0, .str s), (1, .int .i64 i), (7, .int .i64 v7), (8, .int .i64 low), (9, .int .i64 v), (10, .int .i64 v10)] 92 0, bx := [] }
noncomputable def size_B0 : Code := codeAt (bodyOf Tryd.f93) [1, 1, 1, 1, 1, 0, 1, 0, 0]
noncomputable def size_K0 {α : Type} (F : Nat) (s : ByteArray) (i : Int)  (k : AV → List Box2 → Option α) : Ex → St → Option α := contAt env T0 noInl size_hv F (bodyOf Tryd.f93) [1, 1, 1, 1, 1, 0, 1, 0] 0 (endOf env Tryd.f93 (fun r bx => k r []))
noncomputable def size_L0 {α : Type} (F n : Nat) (s : ByteArray) (i : Int) (v7 : Int) (low : Int) (v : Int) (v10 : Int) (k : AV → List Box2 → Option α) : Option α := loopH 0 (some [0, 1, 7, 8, 9, 10]) (some [4, 5, 7, 8, 9]) (fun s k => runC env T0 noInl size_hv F size_B0 1 s k) n (size_S0 s i v7 low v v10) (size_K0 F  s i k)
theorem size_in {α : Type} (F : Nat) (s : ByteArray) (i : Int) (k : AV → List Box2 → Option α) : runF env T0 noInl size_hv F Tryd.f93 [.str s, .int .i64 i] [] (fun r bx => k r []) =
    bif decide (0 ≤ i) && decide (i < (((ByteArray.size s) : Nat) : Int)) then bif decide (IntKind.wrap IntKind.i64 (btA s (Int.toNat i)) < 128) then k (AV.tup [AV.int IntKind.i64 1, AV.int IntKind.i64 (IntKind.wrap IntKind.i64 (btA s (Int.toNat i)))]) [] else bif decide (IntKind.wrap IntKind.i64 (btA s (Int.toNat i)) ≥ 194) then bif decide (IntKind.wrap IntKind.i64 (btA s (Int.toNat i)) ≤ 223) then bif decide (IntKind.wrap IntKind.i64 (Int.add i 2) > (((ByteArray.size s) : Nat) : Int)) then k (AV.tup [AV.int IntKind.i64 0, AV.int IntKind.i64 0]) [] else (size_L0 F F s i 2 128 (IntKind.wrap IntKind.i64 (Int.sub (IntKind.wrap IntKind.i64 (btA s (Int.toNat i))) 192)) 1 k) else bif decide (IntKind.wrap IntKind.i64 (btA s (Int.toNat i)) ≥ 224) then bif decide (IntKind.wrap IntKind.i64 (btA s (Int.toNat i)) ≤ 239) then bif decide (IntKind.wrap IntKind.i64 (Int.add i 3) > (((ByteArray.size s) : Nat) : Int)) then k (AV.tup [AV.int IntKind.i64 0, AV.int IntKind.i64 0]) [] else (size_L0 F F s i 3 2048 (IntKind.wrap IntKind.i64 (Int.sub (IntKind.wrap IntKind.i64 (btA s (Int.toNat i))) 224)) 1 k) else bif decide (IntKind.wrap IntKind.i64 (btA s (Int.toNat i)) ≥ 240) then bif decide (IntKind.wrap IntKind.i64 (btA s (Int.toNat i)) ≤ 244) then bif decide (IntKind.wrap IntKind.i64 (Int.add i 4) > (((ByteArray.size s) : Nat) : Int)) then k (AV.tup [AV.int IntKind.i64 0, AV.int IntKind.i64 0]) [] else (size_L0 F F s i 4 65536 (IntKind.wrap IntKind.i64 (Int.sub (IntKind.wrap IntKind.i64 (btA s (Int.toNat i))) 240)) 1 k) else k (AV.tup [AV.int IntKind.i64 0, AV.int IntKind.i64 0]) [] else k (AV.tup [AV.int IntKind.i64 0, AV.int IntKind.i64 0]) [] else bif decide (IntKind.wrap IntKind.i64 (btA s (Int.toNat i)) ≥ 240) then bif decide (IntKind.wrap IntKind.i64 (btA s (Int.toNat i)) ≤ 244) then bif decide (IntKind.wrap IntKind.i64 (Int.add i 4) > (((ByteArray.size s) : Nat) : Int)) then k (AV.tup [AV.int IntKind.i64 0, AV.int IntKind.i64 0]) [] else (size_L0 F F s i 4 65536 (IntKind.wrap IntKind.i64 (Int.sub (IntKind.wrap IntKind.i64 (btA s (Int.toNat i))) 240)) 1 k) else k (AV.tup [AV.int IntKind.i64 0, AV.int IntKind.i64 0]) [] else k (AV.tup [AV.int IntKind.i64 0, AV.int IntKind.i64 0]) [] else bif decide (IntKind.wrap IntKind.i64 (btA s (Int.toNat i)) ≥ 224) then bif decide (IntKind.wrap IntKind.i64 (btA s (Int.toNat i)) ≤ 239) then bif decide (IntKind.wrap IntKind.i64 (Int.add i 3) > (((ByteArray.size s) : Nat) : Int)) then k (AV.tup [AV.int IntKind.i64 0, AV.int IntKind.i64 0]) [] else (size_L0 F F s i 3 2048 (IntKind.wrap IntKind.i64 (Int.sub (IntKind.wrap IntKind.i64 (btA s (Int.toNat i))) 224)) 1 k) else bif decide (IntKind.wrap IntKind.i64 (btA s (Int.toNat i)) ≥ 240) then bif decide (IntKind.wrap IntKind.i64 (btA s (Int.toNat i)) ≤ 244) then bif decide (IntKind.wrap IntKind.i64 (Int.add i 4) > (((ByteArray.size s) : Nat) : Int)) then k (AV.tup [AV.int IntKind.i64 0, AV.int IntKind.i64 0]) [] else (size_L0 F F s i 4 65536 (IntKind.wrap IntKind.i64 (Int.sub (IntKind.wrap IntKind.i64 (btA s (Int.toNat i))) 240)) 1 k) else k (AV.tup [AV.int IntKind.i64 0, AV.int IntKind.i64 0]) [] else k (AV.tup [AV.int IntKind.i64 0, AV.int IntKind.i64 0]) [] else bif decide (IntKind.wrap IntKind.i64 (btA s (Int.toNat i)) ≥ 240) then bif decide (IntKind.wrap IntKind.i64 (btA s (Int.toNat i)) ≤ 244) then bif decide (IntKind.wrap IntKind.i64 (Int.add i 4) > (((ByteArray.size s) : Nat) : Int)) then k (AV.tup [AV.int IntKind.i64 0, AV.int IntKind.i64 0]) [] else (size_L0 F F s i 4 65536 (IntKind.wrap IntKind.i64 (Int.sub (IntKind.wrap IntKind.i64 (btA s (Int.toNat i))) 240)) 1 k) else k (AV.tup [AV.int IntKind.i64 0, AV.int IntKind.i64 0]) [] else k (AV.tup [AV.int IntKind.i64 0, AV.int IntKind.i64 0]) [] else none := by kernel_rfl
theorem size_step0 {α : Type} (F n : Nat) (s : ByteArray) (i : Int) (v7 : Int) (low : Int) (v : Int) (v10 : Int) (k : AV → List Box2 → Option α) : size_L0 F (n + 1)  s i v7 low v v10 k =
    bif decide (v10 < v7) then bif decide (0 ≤ IntKind.wrap IntKind.i64 (Int.add i v10)) && decide (IntKind.wrap IntKind.i64 (Int.add i v10) < (((ByteArray.size s) : Nat) : Int)) then bif !decide (IntKind.wrap IntKind.i64 (btA s (Int.toNat (IntKind.wrap IntKind.i64 (Int.add i v10)))) < 128) then bif decide (IntKind.wrap IntKind.i64 (btA s (Int.toNat (IntKind.wrap IntKind.i64 (Int.add i v10)))) > 191) then k (AV.tup [AV.int IntKind.i64 0, AV.int IntKind.i64 0]) [] else (size_L0 F n s i v7 low (IntKind.wrap IntKind.i64 (Int.sub (IntKind.wrap IntKind.i64 (Int.add (IntKind.wrap IntKind.i64 (Int.mul 64 v)) (IntKind.wrap IntKind.i64 (btA s (Int.toNat (IntKind.wrap IntKind.i64 (Int.add i v10))))))) 128)) (IntKind.wrap IntKind.i64 (Int.add v10 1)) k) else k (AV.tup [AV.int IntKind.i64 0, AV.int IntKind.i64 0]) [] else none else bif !decide (v < low) then bif !decide (v > 1114111) then bif decide (v ≥ 55296) then bif decide (v ≤ 57343) then k (AV.tup [AV.int IntKind.i64 0, AV.int IntKind.i64 0]) [] else k (AV.tup [AV.int IntKind.i64 v7, AV.int IntKind.i64 v]) [] else k (AV.tup [AV.int IntKind.i64 v7, AV.int IntKind.i64 v]) [] else k (AV.tup [AV.int IntKind.i64 0, AV.int IntKind.i64 0]) [] else k (AV.tup [AV.int IntKind.i64 0, AV.int IntKind.i64 0]) [] := by kernel_rfl
abbrev plainL : ByteArray := ⟨#[97, 98, 99, 100, 101, 102, 103, 104, 105, 106, 107, 108, 109, 110, 111, 112, 113, 114, 115, 116, 117, 118, 119, 120, 121, 122, 65, 66, 67, 68, 69, 70, 71, 72, 73, 74, 75, 76, 77, 78, 79, 80, 81, 82, 83, 84, 85, 86, 87, 88, 89, 90, 48, 49, 50, 51, 52, 53, 54, 55, 56, 57, 45, 95, 46, 58]⟩
theorem fn_rplain : FnOK Tryd.prog 94 Tryd.f94 := ⟨by kernel_rfl, by kernel_rfl, by kernel_rfl⟩
def rplain_hv : Keeps := fun c => (match Nat.beq c 0 with | true => some ([0, 3, 4], [0, 2]) | false => none)
def rplain_S0 (r : Int) (i : Int) : St := { fr := frOf [(0, .int .i64 r), (3, .str plainL), (4, .int .i64 i)] 23 0, bx := [] }
noncomputable def rplain_B0 : Code := codeAt (bodyOf Tryd.f94) [1, 1, 0, 1, 0, 0]
noncomputable def rplain_K0 {α : Type} (F : Nat) (r : Int)  (k : AV → List Box2 → Option α) : Ex → St → Option α := contAt env T0 noInl rplain_hv F (bodyOf Tryd.f94) [1, 1, 0, 1, 0] 0 (endOf env Tryd.f94 (fun r bx => k r []))
noncomputable def rplain_L0 {α : Type} (F n : Nat) (r : Int) (i : Int) (k : AV → List Box2 → Option α) : Option α := loopH 0 (some [0, 3, 4]) (some [0, 2]) (fun s k => runC env T0 noInl rplain_hv F rplain_B0 0 s k) n (rplain_S0 r i) (rplain_K0 F  r k)
theorem rplain_in {α : Type} (F : Nat) (r : Int) (k : AV → List Box2 → Option α) : runF env T0 noInl rplain_hv F Tryd.f94 [.int .i64 r] [] (fun r bx => k r []) =
    (rplain_L0 F F r 0 k) := by kernel_rfl
theorem rplain_step0 {α : Type} (F n : Nat) (r : Int) (i : Int) (k : AV → List Box2 → Option α) : rplain_L0 F (n + 1)  r i k =
    bif decide (i < 66) then bif decide (0 ≤ i) && decide (i < 66) then bif IntKind.wrap IntKind.i64 (btA plainL (Int.toNat i)) == r then k (AV.bool true) [] else (rplain_L0 F n r (IntKind.wrap IntKind.i64 (Int.add i 1)) k) else none else bif decide (r ≥ 161) then k (AV.bool (r != 65533)) [] else k (AV.bool false) [] := by kernel_rfl
end Go.Proofs.YtleamcddhlacfaaDoor.V
