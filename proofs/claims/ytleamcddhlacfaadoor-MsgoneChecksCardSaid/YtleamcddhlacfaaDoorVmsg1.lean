/- Ballots, versions, kinds' fields: contracts; the ranges of a message. No condition. -/
import Derived.Test.YtleamcddhlacfaaDoorVmsg0
set_option maxRecDepth 100000
set_option linter.unusedVariables false
set_option linter.unusedSimpArgs false
namespace Go.Proofs.YtleamcddhlacfaaDoor.V
open Go Go.Proofs.AbsV
def nodeB (x : Int) : Bool := decide (x ≥ 1) && decide (x ≤ 9)
def nodeSp : List AV → List (Bool × AV)
  | [.int .i64 x] => [(true, .bool (nodeB x))]
  | _ => []
theorem bnode_ok : PureOK Tryd.prog env 72 nodeSp := by
  refine PureOK.of_reads envOK tok0 noInl_ok fn_bnode (hv := bnode_hv) (fun args r h => ?_)
  unfold nodeSp at h
  split at h
  · rename_i x
    cases h
    refine ⟨_, 0, fun _ _ h => h, (bnode_in 0 x (fun r _ => some r)).trans ?_⟩
    exact cond_kf (fun r _ => some r) _ _ []
  · cases h
theorem rnode_ok : PureOK Tryd.prog env 53 nodeSp := by
  refine PureOK.of_reads envOK tok0 noInl_ok fn_rnode (hv := rnode_hv) (fun args r h => ?_)
  unfold nodeSp at h
  split at h
  · rename_i x
    cases h
    refine ⟨_, 0, fun _ _ h => h, (rnode_in 0 x (fun r _ => some r)).trans ?_⟩
    exact cond_kf (fun r _ => some r) _ _ []
  · cases h
def vmB (x : Int) : Bool := x == 1 || x == 2
def vmaySp : List AV → List (Bool × AV)
  | [.int .i64 x] => [(true, .bool (vmB x))]
  | _ => []
theorem vmay_ok : PureOK Tryd.prog env 55 vmaySp := by
  refine PureOK.of_reads envOK tok0 noInl_ok fn_vmay (hv := vmay_hv) (fun args r h => ?_)
  unfold vmaySp at h
  split at h
  · rename_i x
    cases h
    refine ⟨_, 0, fun _ _ h => h, (vmay_in 0 x (fun r _ => some r)).trans ?_⟩
    unfold vmB
    cases (x == 1) <;> cases (x == 2) <;> rfl
  · cases h
/-- The fields of a kind of messages. -/
def fM (x : Int) : Int := bif x == 1 then 8 else bif x == 2 then 8 else bif x == 3 then 3 else bif x == 6 then 3 else bif x == 4 then 23 else bif x == 5 then 17 else bif x == 7 then 1 else bif x == 8 then 5 else bif x == 9 then 2 else bif x == 10 then 20 else bif x == 11 then 32 else 0
theorem cond_ki (c : Bool) (a b : Int) : some (AV.int .i64 (cond c a b)) = cond c (some (AV.int .i64 a)) (some (AV.int .i64 b)) := by cases c <;> rfl
def fMSp : List AV → List (Bool × AV)
  | [.int .i64 x] => [(true, .int .i64 (fM x))]
  | _ => []
theorem mfields_ok : PureOK Tryd.prog env 23 fMSp := by
  refine PureOK.of_reads envOK tok0 noInl_ok fn_mfields (hv := mfields_hv) (fun args r h => ?_)
  unfold fMSp at h
  split at h
  · rename_i x
    cases h
    refine ⟨_, 0, fun _ _ h => h, (mfields_in 0 x (fun r _ => some r)).trans ?_⟩
    simp only [fM, cond_ki]
  · cases h
/-- The fields of a kind of commands; is there such a kind? -/
def fC (x : Int) : Int := bif x == 1 then 0 else bif x == 6 then 0 else bif x == 2 then 11 else bif x == 3 then 3 else bif x == 4 then 3 else bif x == 5 then 15 else bif x == 7 then 16 else bif x == 8 then 16 else 0
def isC (x : Int) : Bool := x == 1 || (x == 6 || (x == 2 || (x == 3 || (x == 4 || (x == 5 || (x == 7 || x == 8))))))
def fCSp : List AV → List (Bool × AV)
  | [.int .i64 x] => [(true, .tup [.int .i64 (fC x), .bool (isC x)])]
  | _ => []
theorem cfields_ok : PureOK Tryd.prog env 90 fCSp := by
  refine PureOK.of_reads envOK tok0 noInl_ok fn_cfields (hv := cfields_hv) (fun args r h => ?_)
  unfold fCSp at h
  split at h
  · rename_i x
    cases h
    refine ⟨_, 0, fun _ _ h => h, (cfields_in 0 x (fun r _ => some r)).trans ?_⟩
    unfold fC isC
    cases (x == 1)
    · cases (x == 6)
      · cases (x == 2)
        · cases (x == 3)
          · cases (x == 4)
            · cases (x == 5)
              · cases (x == 7)
                · cases (x == 8) <;> rfl
                · rfl
              · rfl
            · rfl
          · rfl
        · rfl
      · rfl
    · rfl
  · cases h
/-- May a ballot be? -/
def bmB (x y : Int) : Bool := x == 0 && y == 0 || (decide (x ≥ 1) && (decide (x ≤ 4294967296) && nodeB y))
def bmSp : List AV → List (Bool × AV)
  | [.agg [.int .i64 x, .int .i64 y]] => [(true, .bool (bmB x y))]
  | _ => []
def TM1 : FuncId → Option CSpec := tab [(72, nodeSp)]
theorem tokM1 : TOK Tryd.prog env TM1 := tok_tab mixed ⟨bnode_ok, trivial⟩
theorem fn_bmay : FnOK Tryd.prog 54 Tryd.f54 := ⟨by kernel_rfl, by kernel_rfl, by kernel_rfl⟩
def bmay_hv : Keeps := fun _ => none
theorem bmay_in {α : Type} (F : Nat) (x y : Int) (k : AV → List Box2 → Option α) : runF env TM1 noInl bmay_hv F Tryd.f54 [.agg [.int .i64 x, .int .i64 y]] [] (fun r bx => k r []) =
    bif !(x == 0 && (y == 0 && true)) then bif decide (x ≥ 1) then bif decide (x ≤ 4294967296) then k (AV.bool (nodeB y)) [] else k (AV.bool false) [] else k (AV.bool false) [] else k (AV.bool true) [] := by kernel_rfl
theorem bmay_ok : PureOK Tryd.prog env 54 bmSp := by
  refine PureOK.of_reads envOK tokM1 noInl_ok fn_bmay (hv := bmay_hv) (fun args r h => ?_)
  unfold bmSp at h
  split at h
  · rename_i x y
    cases h
    refine ⟨_, 0, fun _ _ h => h, (bmay_in 0 x y (fun r _ => some r)).trans ?_⟩
    unfold bmB
    cases (x == 0) <;> cases (y == 0) <;> cases (decide (x ≥ 1)) <;> cases (decide (x ≤ 4294967296)) <;> rfl
  · cases h
theorem rbmay_ok : PureOK Tryd.prog env 57 bmSp := by
  refine PureOK.of_reads envOK tok0 noInl_ok fn_rbmay (hv := rbmay_hv) (fun args r h => ?_)
  unfold bmSp at h
  split at h
  · rename_i x y
    cases h
    refine ⟨_, 0, fun _ _ h => h, (rbmay_in 0 x y (fun r _ => some r)).trans ?_⟩
    unfold bmB nodeB
    cases (x == 0) <;> cases (y == 0) <;> cases (decide (x ≥ 1)) <;> cases (decide (x ≤ 4294967296)) <;> cases (decide (y ≥ 1)) <;> rfl
  · cases h
def TM2 : FuncId → Option CSpec := tab [(57, bmSp)]
theorem tokM2 : TOK Tryd.prog env TM2 := tok_tab mixed ⟨rbmay_ok, trivial⟩
theorem fn_rballot : FnOK Tryd.prog 30 Tryd.f30 := ⟨by kernel_rfl, by kernel_rfl, by kernel_rfl⟩
def rballot_hv : Keeps := fun _ => none
theorem rballot_in {α : Type} (F : Nat) (x y : Int) (k : AV → List Box2 → Option α) : runF env TM2 noInl rballot_hv F Tryd.f30 [.agg [.int .i64 x, .int .i64 y]] [] (fun r bx => k r []) =
    bif bmB x y then k (AV.bool (decide (x > 0))) [] else k (AV.bool false) [] := by kernel_rfl
/-- A ballot that is somebody's. -/
def balB (x y : Int) : Bool := bmB x y && decide (x > 0)
def balSp : List AV → List (Bool × AV)
  | [.agg [.int .i64 x, .int .i64 y]] => [(true, .bool (balB x y))]
  | _ => []
theorem rballot_ok : PureOK Tryd.prog env 30 balSp := by
  refine PureOK.of_reads envOK tokM2 noInl_ok fn_rballot (hv := rballot_hv) (fun args r h => ?_)
  unfold balSp at h
  split at h
  · rename_i x y
    cases h
    refine ⟨_, 0, fun _ _ h => h, (rballot_in 0 x y (fun r _ => some r)).trans ?_⟩
    unfold balB
    cases bmB x y <;> rfl
  · cases h
def ownB (x : Int) : Bool := decide (x ≥ 2) && decide (x ≤ 5)
def memB (x : Int) : Bool := x == 7 || x == 8
def ownSp : List AV → List (Bool × AV)
  | [.int .i64 x] => [(true, .bool (ownB x))]
  | _ => []
def memSp : List AV → List (Bool × AV)
  | [.int .i64 x] => [(true, .bool (memB x))]
  | _ => []
theorem owned_ok : PureOK Tryd.prog env 69 ownSp := by
  refine PureOK.of_reads envOK tok0 noInl_ok fn_owned (hv := owned_hv) (fun args r h => ?_)
  unfold ownSp at h
  split at h
  · rename_i x
    cases h
    refine ⟨_, 0, fun _ _ h => h, (owned_in 0 x (fun r _ => some r)).trans ?_⟩
    exact cond_kf (fun r _ => some r) _ _ []
  · cases h
theorem member_ok : PureOK Tryd.prog env 71 memSp := by
  refine PureOK.of_reads envOK tok0 noInl_ok fn_member (hv := member_hv) (fun args r h => ?_)
  unfold memSp at h
  split at h
  · rename_i x
    cases h
    refine ⟨_, 0, fun _ _ h => h, (member_in 0 x (fun r _ => some r)).trans ?_⟩
    unfold memB
    cases (x == 7) <;> rfl
  · cases h
/-! ### Letters of kinds -/
def isK (x : Int) : Bool := decide (x ≥ 1) && decide (x ≤ 11)
def letS (x : Int) : ByteArray := bif isK x then letAt x.toNat else ⟨#[]⟩
def letSp : List AV → List (Bool × AV)
  | [.int .i64 x] => [(true, .str (letS x))]
  | _ => []
theorem letters_ok : PureOK Tryd.prog env 28 letSp := by
  refine PureOK.of_reads envOK tok0 noInl_ok fn_letters (hv := fun _ => none) (fun args r h => ?_)
  unfold letSp at h
  split at h
  · rename_i x
    cases h
    refine ⟨_, 0, fun _ _ h => h, (letters_in x (fun r _ => some r)).trans ?_⟩
    by_cases h1 : x < 1
    · have hk : isK x = false := by unfold isK; simp; omega
      rw [decide_eq_true h1, Bool.not_true, cond_false]
      show _ = some (AV.str (bif isK x then letAt x.toNat else ⟨#[]⟩))
      rw [hk, cond_false]
    · rw [decide_eq_false h1, Bool.not_false, cond_true]
      show _ = some (AV.str (bif isK x then letAt x.toNat else ⟨#[]⟩))
      by_cases h2 : x > 11
      · have hk : isK x = false := by unfold isK; simp; omega
        rw [cond_pos h2, hk, cond_false]
      · have hk : isK x = true := by unfold isK; simp; omega
        rw [cond_neg h2, hk, decide_eq_true (show 0 ≤ x by omega), decide_eq_true (show x < 12 by omega)]
        rfl
  · cases h
def TM3 : FuncId → Option CSpec := tab [(28, letSp)]
theorem tokM3 : TOK Tryd.prog env TM3 := tok_tab mixed ⟨letters_ok, trivial⟩
theorem fn_rhas : FnOK Tryd.prog 29 Tryd.f29 := ⟨by kernel_rfl, by kernel_rfl, by kernel_rfl⟩
def rhas_hv : Keeps := fun c => (match Nat.beq c 0 with | true => some ([1, 5, 6], [4]) | false => none)
def rhas_S0 (x : Int) (c : Int) (i : Int) : St := { fr := frOf [(1, .int .u8 c), (5, .str (letS x)), (6, .int .i64 i)] 20 0, bx := [] }
noncomputable def rhas_B0 : Code := codeAt (bodyOf Tryd.f29) [1, 1, 0, 1, 0, 0]
noncomputable def rhas_K0 {α : Type} (F : Nat) (x : Int) (c : Int)  (k : AV → List Box2 → Option α) : Ex → St → Option α := contAt env TM3 noInl rhas_hv F (bodyOf Tryd.f29) [1, 1, 0, 1, 0] 0 (endOf env Tryd.f29 (fun r bx => k r []))
noncomputable def rhas_L0 {α : Type} (F n : Nat) (x : Int) (c : Int) (i : Int) (k : AV → List Box2 → Option α) : Option α := loopH 0 (some [1, 5, 6]) (some [4]) (fun s k => runC env TM3 noInl rhas_hv F rhas_B0 0 s k) n (rhas_S0 x c i) (rhas_K0 F  x c k)
theorem rhas_in {α : Type} (F : Nat) (x : Int) (c : Int) (k : AV → List Box2 → Option α) : runF env TM3 noInl rhas_hv F Tryd.f29 [.int .i64 x, .int .u8 c] [] (fun r bx => k r []) =
    (rhas_L0 F F x c 0 k) := by kernel_rfl
theorem rhas_step0 {α : Type} (F n : Nat) (x : Int) (c : Int) (i : Int) (k : AV → List Box2 → Option α) : rhas_L0 F (n + 1)  x c i k =
    bif decide (i < (((ByteArray.size (letS x)) : Nat) : Int)) then bif decide (0 ≤ i) && decide (i < (((ByteArray.size (letS x)) : Nat) : Int)) then bif btA (letS x) (Int.toNat i) == c then k (AV.bool true) [] else (rhas_L0 F n x c (IntKind.wrap IntKind.i64 (Int.add i 1)) k) else none else k (AV.bool false) [] := by kernel_rfl
def TM4 : FuncId → Option CSpec := tab [(54, bmSp), (55, vmaySp), (53, nodeSp)]
theorem tokM4 : TOK Tryd.prog env TM4 := tok_tab mixed ⟨bmay_ok, vmay_ok, rnode_ok, trivial⟩
abbrev CT : Ty := .pair (.int .i64) (.pair (.int .i64) (.pair (.int .i64) (.pair .str (.pair .str (.pair .str (.pair (.int .i64) .unit))))))
abbrev BT : Ty := .pair (.int .i64) (.pair (.int .i64) .unit)
abbrev ET : Ty := .pair (.int .i64) (.pair BT (.pair CT .unit))
abbrev MT : Ty := .pair (.int .i64) (.pair (.int .i64) (.pair (.int .i64) (.pair BT (.pair (.int .i64) (.pair (.int .i64) (.pair (.int .i64) (.pair (.sl ET) (.pair (.sl B) .unit))))))))
abbrev MTa := Int × Int × Int × (Int × Int × Unit) × Int × Int × Int × List (Int × (Int × Int × Unit) × (Int × Int × Int × ByteArray × ByteArray × ByteArray × Int × Unit) × Unit) × List Int × Unit
theorem fn_ranges : FnOK Tryd.prog 24 Tryd.f24 := ⟨by kernel_rfl, by kernel_rfl, by kernel_rfl⟩
def ranges_hv : Keeps := fun _ => none
theorem ranges_in {α : Type} (F : Nat) (kd fr to br bn ix cm vs : Int) (es : List ET.den) (im : List Int) (f : Int) (k : AV → List Box2 → Option α) : runF env TM4 noInl ranges_hv F Tryd.f24 [.agg [.int .i64 kd, .int .i64 fr, .int .i64 to, .int .i64 br, .int .i64 bn, .int .i64 ix, .int .i64 cm, .int .i64 vs, .sl ET es none none, .sl B im none none], .int .i64 f] [] (fun r bx => k r []) =
    bif !nodeB fr then k (AV.bool false) [] else bif !nodeB to then k (AV.bool false) [] else bif fr == to then k (AV.bool false) [] else bif andI IntKind.i64 f 1 != 0 then bif !!bmB br bn then bif br == 0 && (bn == 0 && true) then k (AV.bool false) [] else bif andI IntKind.i64 f 2 != 0 then bif !decide (ix < 1) then bif decide (ix > 4294967296) then k (AV.bool false) [] else bif andI IntKind.i64 f 4 != 0 then bif !decide (cm < 0) then bif decide (cm > 4294967296) then k (AV.bool false) [] else bif !andI IntKind.i64 f 8 == 0 then k (AV.bool (vmB vs)) [] else k (AV.bool true) [] else k (AV.bool false) [] else bif !andI IntKind.i64 f 8 == 0 then k (AV.bool (vmB vs)) [] else k (AV.bool true) [] else k (AV.bool false) [] else bif andI IntKind.i64 f 4 != 0 then bif !decide (cm < 0) then bif decide (cm > 4294967296) then k (AV.bool false) [] else bif !andI IntKind.i64 f 8 == 0 then k (AV.bool (vmB vs)) [] else k (AV.bool true) [] else k (AV.bool false) [] else bif !andI IntKind.i64 f 8 == 0 then k (AV.bool (vmB vs)) [] else k (AV.bool true) [] else k (AV.bool false) [] else bif andI IntKind.i64 f 2 != 0 then bif !decide (ix < 1) then bif decide (ix > 4294967296) then k (AV.bool false) [] else bif andI IntKind.i64 f 4 != 0 then bif !decide (cm < 0) then bif decide (cm > 4294967296) then k (AV.bool false) [] else bif !andI IntKind.i64 f 8 == 0 then k (AV.bool (vmB vs)) [] else k (AV.bool true) [] else k (AV.bool false) [] else bif !andI IntKind.i64 f 8 == 0 then k (AV.bool (vmB vs)) [] else k (AV.bool true) [] else k (AV.bool false) [] else bif andI IntKind.i64 f 4 != 0 then bif !decide (cm < 0) then bif decide (cm > 4294967296) then k (AV.bool false) [] else bif !andI IntKind.i64 f 8 == 0 then k (AV.bool (vmB vs)) [] else k (AV.bool true) [] else k (AV.bool false) [] else bif !andI IntKind.i64 f 8 == 0 then k (AV.bool (vmB vs)) [] else k (AV.bool true) [] := by kernel_rfl
theorem fn_others : FnOK Tryd.prog 26 Tryd.f26 := ⟨by kernel_rfl, by kernel_rfl, by kernel_rfl⟩
def others_hv : Keeps := fun _ => none
theorem others_in {α : Type} (F : Nat) (kd fr to br bn ix cm vs : Int) (es : List ET.den) (im : List Int) (f : Int) (k : AV → List Box2 → Option α) : runF env T0 noInl others_hv F Tryd.f26 [.agg [.int .i64 kd, .int .i64 fr, .int .i64 to, .int .i64 br, .int .i64 bn, .int .i64 ix, .int .i64 cm, .int .i64 vs, .sl ET es none none, .sl B im none none], .int .i64 f] [] (fun r bx => k r []) =
    bif andI IntKind.i64 f 1 == 0 then bif !(br == 0 && (bn == 0 && true)) then k (AV.bool true) [] else bif andI IntKind.i64 f 2 == 0 then bif ix != 0 then k (AV.bool true) [] else bif andI IntKind.i64 f 4 == 0 then bif cm != 0 then k (AV.bool true) [] else bif andI IntKind.i64 f 8 == 0 then bif vs != 0 then k (AV.bool true) [] else bif andI IntKind.i64 f 16 == 0 then bif decide ((((List.length es) : Nat) : Int) > 0) then k (AV.bool true) [] else bif andI IntKind.i64 f 32 == 0 then bif decide ((((List.length im) : Nat) : Int) > 0) then k (AV.bool true) [] else k (AV.bool false) [] else k (AV.bool false) [] else bif andI IntKind.i64 f 32 == 0 then bif decide ((((List.length im) : Nat) : Int) > 0) then k (AV.bool true) [] else k (AV.bool false) [] else k (AV.bool false) [] else bif andI IntKind.i64 f 16 == 0 then bif decide ((((List.length es) : Nat) : Int) > 0) then k (AV.bool true) [] else bif andI IntKind.i64 f 32 == 0 then bif decide ((((List.length im) : Nat) : Int) > 0) then k (AV.bool true) [] else k (AV.bool false) [] else k (AV.bool false) [] else bif andI IntKind.i64 f 32 == 0 then bif decide ((((List.length im) : Nat) : Int) > 0) then k (AV.bool true) [] else k (AV.bool false) [] else k (AV.bool false) [] else bif andI IntKind.i64 f 8 == 0 then bif vs != 0 then k (AV.bool true) [] else bif andI IntKind.i64 f 16 == 0 then bif decide ((((List.length es) : Nat) : Int) > 0) then k (AV.bool true) [] else bif andI IntKind.i64 f 32 == 0 then bif decide ((((List.length im) : Nat) : Int) > 0) then k (AV.bool true) [] else k (AV.bool false) [] else k (AV.bool false) [] else bif andI IntKind.i64 f 32 == 0 then bif decide ((((List.length im) : Nat) : Int) > 0) then k (AV.bool true) [] else k (AV.bool false) [] else k (AV.bool false) [] else bif andI IntKind.i64 f 16 == 0 then bif decide ((((List.length es) : Nat) : Int) > 0) then k (AV.bool true) [] else bif andI IntKind.i64 f 32 == 0 then bif decide ((((List.length im) : Nat) : Int) > 0) then k (AV.bool true) [] else k (AV.bool false) [] else k (AV.bool false) [] else bif andI IntKind.i64 f 32 == 0 then bif decide ((((List.length im) : Nat) : Int) > 0) then k (AV.bool true) [] else k (AV.bool false) [] else k (AV.bool false) [] else bif andI IntKind.i64 f 4 == 0 then bif cm != 0 then k (AV.bool true) [] else bif andI IntKind.i64 f 8 == 0 then bif vs != 0 then k (AV.bool true) [] else bif andI IntKind.i64 f 16 == 0 then bif decide ((((List.length es) : Nat) : Int) > 0) then k (AV.bool true) [] else bif andI IntKind.i64 f 32 == 0 then bif decide ((((List.length im) : Nat) : Int) > 0) then k (AV.bool true) [] else k (AV.bool false) [] else k (AV.bool false) [] else bif andI IntKind.i64 f 32 == 0 then bif decide ((((List.length im) : Nat) : Int) > 0) then k (AV.bool true) [] else k (AV.bool false) [] else k (AV.bool false) [] else bif andI IntKind.i64 f 16 == 0 then bif decide ((((List.length es) : Nat) : Int) > 0) then k (AV.bool true) [] else bif andI IntKind.i64 f 32 == 0 then bif decide ((((List.length im) : Nat) : Int) > 0) then k (AV.bool true) [] else k (AV.bool false) [] else k (AV.bool false) [] else bif andI IntKind.i64 f 32 == 0 then bif decide ((((List.length im) : Nat) : Int) > 0) then k (AV.bool true) [] else k (AV.bool false) [] else k (AV.bool false) [] else bif andI IntKind.i64 f 8 == 0 then bif vs != 0 then k (AV.bool true) [] else bif andI IntKind.i64 f 16 == 0 then bif decide ((((List.length es) : Nat) : Int) > 0) then k (AV.bool true) [] else bif andI IntKind.i64 f 32 == 0 then bif decide ((((List.length im) : Nat) : Int) > 0) then k (AV.bool true) [] else k (AV.bool false) [] else k (AV.bool false) [] else bif andI IntKind.i64 f 32 == 0 then bif decide ((((List.length im) : Nat) : Int) > 0) then k (AV.bool true) [] else k (AV.bool false) [] else k (AV.bool false) [] else bif andI IntKind.i64 f 16 == 0 then bif decide ((((List.length es) : Nat) : Int) > 0) then k (AV.bool true) [] else bif andI IntKind.i64 f 32 == 0 then bif decide ((((List.length im) : Nat) : Int) > 0) then k (AV.bool true) [] else k (AV.bool false) [] else k (AV.bool false) [] else bif andI IntKind.i64 f 32 == 0 then bif decide ((((List.length im) : Nat) : Int) > 0) then k (AV.bool true) [] else k (AV.bool false) [] else k (AV.bool false) [] else bif andI IntKind.i64 f 2 == 0 then bif ix != 0 then k (AV.bool true) [] else bif andI IntKind.i64 f 4 == 0 then bif cm != 0 then k (AV.bool true) [] else bif andI IntKind.i64 f 8 == 0 then bif vs != 0 then k (AV.bool true) [] else bif andI IntKind.i64 f 16 == 0 then bif decide ((((List.length es) : Nat) : Int) > 0) then k (AV.bool true) [] else bif andI IntKind.i64 f 32 == 0 then bif decide ((((List.length im) : Nat) : Int) > 0) then k (AV.bool true) [] else k (AV.bool false) [] else k (AV.bool false) [] else bif andI IntKind.i64 f 32 == 0 then bif decide ((((List.length im) : Nat) : Int) > 0) then k (AV.bool true) [] else k (AV.bool false) [] else k (AV.bool false) [] else bif andI IntKind.i64 f 16 == 0 then bif decide ((((List.length es) : Nat) : Int) > 0) then k (AV.bool true) [] else bif andI IntKind.i64 f 32 == 0 then bif decide ((((List.length im) : Nat) : Int) > 0) then k (AV.bool true) [] else k (AV.bool false) [] else k (AV.bool false) [] else bif andI IntKind.i64 f 32 == 0 then bif decide ((((List.length im) : Nat) : Int) > 0) then k (AV.bool true) [] else k (AV.bool false) [] else k (AV.bool false) [] else bif andI IntKind.i64 f 8 == 0 then bif vs != 0 then k (AV.bool true) [] else bif andI IntKind.i64 f 16 == 0 then bif decide ((((List.length es) : Nat) : Int) > 0) then k (AV.bool true) [] else bif andI IntKind.i64 f 32 == 0 then bif decide ((((List.length im) : Nat) : Int) > 0) then k (AV.bool true) [] else k (AV.bool false) [] else k (AV.bool false) [] else bif andI IntKind.i64 f 32 == 0 then bif decide ((((List.length im) : Nat) : Int) > 0) then k (AV.bool true) [] else k (AV.bool false) [] else k (AV.bool false) [] else bif andI IntKind.i64 f 16 == 0 then bif decide ((((List.length es) : Nat) : Int) > 0) then k (AV.bool true) [] else bif andI IntKind.i64 f 32 == 0 then bif decide ((((List.length im) : Nat) : Int) > 0) then k (AV.bool true) [] else k (AV.bool false) [] else k (AV.bool false) [] else bif andI IntKind.i64 f 32 == 0 then bif decide ((((List.length im) : Nat) : Int) > 0) then k (AV.bool true) [] else k (AV.bool false) [] else k (AV.bool false) [] else bif andI IntKind.i64 f 4 == 0 then bif cm != 0 then k (AV.bool true) [] else bif andI IntKind.i64 f 8 == 0 then bif vs != 0 then k (AV.bool true) [] else bif andI IntKind.i64 f 16 == 0 then bif decide ((((List.length es) : Nat) : Int) > 0) then k (AV.bool true) [] else bif andI IntKind.i64 f 32 == 0 then bif decide ((((List.length im) : Nat) : Int) > 0) then k (AV.bool true) [] else k (AV.bool false) [] else k (AV.bool false) [] else bif andI IntKind.i64 f 32 == 0 then bif decide ((((List.length im) : Nat) : Int) > 0) then k (AV.bool true) [] else k (AV.bool false) [] else k (AV.bool false) [] else bif andI IntKind.i64 f 16 == 0 then bif decide ((((List.length es) : Nat) : Int) > 0) then k (AV.bool true) [] else bif andI IntKind.i64 f 32 == 0 then bif decide ((((List.length im) : Nat) : Int) > 0) then k (AV.bool true) [] else k (AV.bool false) [] else k (AV.bool false) [] else bif andI IntKind.i64 f 32 == 0 then bif decide ((((List.length im) : Nat) : Int) > 0) then k (AV.bool true) [] else k (AV.bool false) [] else k (AV.bool false) [] else bif andI IntKind.i64 f 8 == 0 then bif vs != 0 then k (AV.bool true) [] else bif andI IntKind.i64 f 16 == 0 then bif decide ((((List.length es) : Nat) : Int) > 0) then k (AV.bool true) [] else bif andI IntKind.i64 f 32 == 0 then bif decide ((((List.length im) : Nat) : Int) > 0) then k (AV.bool true) [] else k (AV.bool false) [] else k (AV.bool false) [] else bif andI IntKind.i64 f 32 == 0 then bif decide ((((List.length im) : Nat) : Int) > 0) then k (AV.bool true) [] else k (AV.bool false) [] else k (AV.bool false) [] else bif andI IntKind.i64 f 16 == 0 then bif decide ((((List.length es) : Nat) : Int) > 0) then k (AV.bool true) [] else bif andI IntKind.i64 f 32 == 0 then bif decide ((((List.length im) : Nat) : Int) > 0) then k (AV.bool true) [] else k (AV.bool false) [] else k (AV.bool false) [] else bif andI IntKind.i64 f 32 == 0 then bif decide ((((List.length im) : Nat) : Int) > 0) then k (AV.bool true) [] else k (AV.bool false) [] else k (AV.bool false) [] := by kernel_rfl
theorem fn_maccept : FnOK Tryd.prog 27 Tryd.f27 := ⟨by kernel_rfl, by kernel_rfl, by kernel_rfl⟩
def maccept_hv : Keeps := fun _ => none
theorem maccept_in {α : Type} (F : Nat) (kd fr to br bn ix cm vs : Int) (es : List ET.den) (im : List Int) (k : AV → List Box2 → Option α) : runF env T0 noInl maccept_hv F Tryd.f27 [.agg [.int .i64 kd, .int .i64 fr, .int .i64 to, .int .i64 br, .int .i64 bn, .int .i64 ix, .int .i64 cm, .int .i64 vs, .sl ET es none none, .sl B im none none]] [] (fun r bx => k r []) =
    bif (((List.length es) : Nat) : Int) == 1 then bif decide (0 < (((List.length es) : Nat) : Int)) then k (AV.bool (dI (rdD ET es 0).2.1.1 == br && (dI (rdD ET es 0).2.1.2.1 == bn && true))) [] else none else k (AV.bool false) [] := by kernel_rfl
end Go.Proofs.YtleamcddhlacfaaDoor.V
