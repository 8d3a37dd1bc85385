/- Frames as functions of data: what is put. No condition. -/
import Derived.Test.YtopbldbgnpeelaaDoorVcrc
set_option maxRecDepth 100000
set_option linter.unusedVariables false
set_option linter.unusedSimpArgs false
namespace Go.Proofs.YtopbldbgnpeelaaDoor.V
open Go Go.Proofs.AbsV
abbrev num (n : Int) : List Int := putL 9 (if 0 > n then 0 else n)
/-! ### frame.sum, frame.may -/
def le4 (s : Int) : List Int := [IntKind.u8.wrap s, IntKind.u8.wrap (shrI .u32 s 8), IntKind.u8.wrap (shrI .u32 s 16), IntKind.u8.wrap (shrI .u32 s 24)]
def fsumSp : List AV → List (Bool × AV)
  | [y] => match bytesIn y with
    | some xs => [(decide (xs.length ≤ 4611686018427387904), .sl B (le4 (crcI 0 xs)) (some false) (some (0, 5)))]
    | none => []
  | _ => []
theorem fsum_ok : PureOK Tryd.prog env 20 fsumSp := by
  refine PureOK.of_reads envOK tokC3 noInl_ok fn_fsum (hv := fsum_hv) (fun args r h => ?_)
  unfold fsumSp at h
  split at h
  · rename_i y
    split at h
    · rename_i xs hx
      obtain ⟨hg, he⟩ := sel_one h
      simp only [decide_eq_true_eq] at hg
      subst he
      refine ⟨_, 0, .bytes hx .nil, (fsum_in 0 xs (fun r _ => some r)).trans ?_⟩
      rw [cond_pos hg]
      rfl
    · cases h
  · cases h
def mayI (n : Int) : Int := bif decide (n ≤ 0) then 3 else bif decide (n > 65536) then 2 else 0
def mayFSp : List AV → List (Bool × AV)
  | [.int .i64 n] => [(true, .int .i64 (mayI n))]
  | _ => []
theorem mayF_ok : PureOK Tryd.prog env 17 mayFSp := by
  refine PureOK.of_reads envOK tok0 noInl_ok fn_may (hv := may_hv) (fun args r h => ?_)
  unfold mayFSp at h
  split at h
  · rename_i n
    cases h
    refine ⟨_, 0, fun _ _ h => h, (may_in 0 n (fun r _ => some r)).trans ?_⟩
    unfold mayI
    cases decide (n ≤ 0) <;> cases decide (n > 65536) <;> rfl
  · cases h
/-! ### slices.Concat -/
def TF1 : FuncId → Option CSpec := tab [(29, growSp)]
theorem tokF1 : TOK Tryd.prog env TF1 := tok_tab mixed ⟨grow_ok, trivial⟩
theorem fn_cat : FnOK Tryd.prog 18 Tryd.f18 := ⟨by kernel_rfl, by kernel_rfl, by kernel_rfl⟩
def cat_hv : Keeps := fun c => (match Nat.beq c 0 with | true => some ([0, 3, 9, 10, 11], [0, 3]) | false => (match Nat.beq c 2 with | true => some ([6, 25, 26, 27], [6]) | false => none))
def cat_S0 (xss : List (List Int)) (size : Int) (v10 : Int) (v11 : Int) : St := { fr := frOf [(0, .sl (.sl B) xss none none), (3, .int .i64 size), (9, .sl (.sl B) xss none none), (10, .int .i64 v10), (11, .int .i64 v11)] 36 0, bx := [] }
noncomputable def cat_B0 : Code := codeAt (bodyOf Tryd.f18) [1, 1, 0, 1, 0, 0]
noncomputable def cat_K0 {α : Type} (F : Nat) (xss : List (List Int))  (k : AV → List Box2 → Option α) : Ex → St → Option α := contAt env TF1 noInl cat_hv F (bodyOf Tryd.f18) [1, 1, 0, 1, 0] 0 (endOf env Tryd.f18 (fun r bx => k r []))
noncomputable def cat_L0 {α : Type} (F n : Nat) (xss : List (List Int)) (size : Int) (v10 : Int) (v11 : Int) (k : AV → List Box2 → Option α) : Option α := loopH 0 (some [0, 3, 9, 10, 11]) (some [0, 3]) (fun s k => runC env TF1 noInl cat_hv F cat_B0 0 s k) n (cat_S0 xss size v10 v11) (cat_K0 F  xss k)
def cat_S1 (xss : List (List Int)) (acc : List Int) (v26 : Int) (v27 : Int) : St := { fr := frOf [(6, .sl B acc none (some (0, 5))), (25, .sl (.sl B) xss none none), (26, .int .i64 v26), (27, .int .i64 v27)] 36 0, bx := [] }
noncomputable def cat_B1 : Code := codeAt (bodyOf Tryd.f18) [1, 1, 1, 1, 0, 1, 0, 0]
noncomputable def cat_K1 {α : Type} (F : Nat) (xss : List (List Int))  (k : AV → List Box2 → Option α) : Ex → St → Option α := contAt env TF1 noInl cat_hv F (bodyOf Tryd.f18) [1, 1, 1, 1, 0, 1, 0] 0 (endOf env Tryd.f18 (fun r bx => k r []))
noncomputable def cat_L1 {α : Type} (F n : Nat) (xss : List (List Int)) (acc : List Int) (v26 : Int) (v27 : Int) (k : AV → List Box2 → Option α) : Option α := loopH 0 (some [6, 25, 26, 27]) (some [6]) (fun s k => runC env TF1 noInl cat_hv F cat_B1 2 s k) n (cat_S1 xss acc v26 v27) (cat_K1 F  xss k)
theorem cat_in {α : Type} (F : Nat) (xss : List (List Int)) (k : AV → List Box2 → Option α) : runF env TF1 noInl cat_hv F Tryd.f18 [.sl (.sl B) xss none none] [] (fun r bx => k r []) =
    (cat_L0 F F xss 0 (((List.length xss) : Nat) : Int) 0 k) := by kernel_rfl
theorem cat_step0 {α : Type} (F n : Nat) (xss : List (List Int)) (size : Int) (v10 : Int) (v11 : Int) (k : AV → List Box2 → Option α) : cat_L0 F (n + 1)  xss size v10 v11 k =
    bif decide (v11 < v10) then bif decide (0 ≤ v11) && decide (v11 < (((List.length xss) : Nat) : Int)) then bif decide (IntKind.wrap IntKind.i64 (Int.add size ((((List.length (dL (rdD (Ty.sl (Ty.int IntKind.u8)) xss (Int.toNat v11)))) : Nat) : Int))) < 0) then none else (cat_L0 F n xss (IntKind.wrap IntKind.i64 (Int.add size (((List.length (dL (rdD (Ty.sl (Ty.int IntKind.u8)) xss (Int.toNat v11)))) : Nat) : Int))) v10 (IntKind.wrap IntKind.i64 (Int.add v11 1)) k) else none else bif decide (0 ≤ size) && decide (size ≤ 140737488355328) then (cat_L1 F F xss [] (((List.length xss) : Nat) : Int) 0 k) else none := by kernel_rfl
theorem cat_step1 {α : Type} (F n : Nat) (xss : List (List Int)) (acc : List Int) (v26 : Int) (v27 : Int) (k : AV → List Box2 → Option α) : cat_L1 F (n + 1)  xss acc v26 v27 k =
    bif decide (v27 < v26) then bif decide (0 ≤ v27) && decide (v27 < (((List.length xss) : Nat) : Int)) then bif decide (Nat.add 0 (Nat.add (List.length acc) (List.length (dL (rdD (Ty.sl (Ty.int IntKind.u8)) xss (Int.toNat v27))))) ≤ 140737488355328) then (cat_L1 F n xss (List.append acc (dL (rdD (Ty.sl (Ty.int IntKind.u8)) xss (Int.toNat v27)))) v26 (IntKind.wrap IntKind.i64 (Int.add v27 1)) k) else none else none else k (AV.sl (Ty.int IntKind.u8) acc none (some (0, 5))) [] := by kernel_rfl
def total : List (List Int) → Nat
  | [] => 0
  | x :: r => x.length + total r
theorem rd_sl {xss : List (List Int)} {i : Nat} (h : i < xss.length) : dL (rdD (Ty.sl (Ty.int IntKind.u8)) xss (Int.toNat (i : Int))) = xss[i] := by
  show List.getD (α := List Int) xss (i : Int).toNat [] = xss[i]
  rw [Int.toNat_natCast, List.getD_eq_getElem?_getD, List.getElem?_eq_getElem h]
  rfl
theorem total_drop {xss : List (List Int)} {i : Nat} (h : i < xss.length) : total (xss.drop i) = xss[i].length + total (xss.drop (i + 1)) := by
  rw [List.drop_eq_getElem_cons h]
  rfl
theorem cat_loop1 {α : Type} (F : Nat) (xss : List (List Int)) (hx : xss.length ≤ 4611686018427387904) (k : AV → List Box2 → Option α) : ∀ (n i : Nat) (acc : List Int), i + n = xss.length → acc.length + total (xss.drop i) ≤ 140737488355328 →
    cat_L1 F (n + 1) xss acc ((xss.length : Nat) : Int) (i : Int) k = k (.sl B (acc ++ (xss.drop i).flatten) none (some (0, 5))) []
  | 0, i, acc, h, ht => by
    rw [cat_step1, cond_neg (by omega), List.drop_eq_nil_of_le (by omega)]
    simp
  | n + 1, i, acc, h, ht => by
    have hi : i < xss.length := by omega
    rw [total_drop hi] at ht
    have e1 : ∀ m n : Nat, Nat.add 0 (Nat.add m n) = 0 + (m + n) := fun _ _ => rfl
    rw [cat_step1, cond_pos (by omega), in_range hi, cond_true, step_i (by omega), rd_sl hi, e1, cond_pos (by omega), cat_loop1 F xss hx k n (i + 1) _ (by omega) (by
      show (acc ++ xss[i]).length + _ ≤ _
      rw [List.length_append]; omega), List.drop_eq_getElem_cons hi]
    show k (.sl B ((acc ++ xss[i]) ++ (xss.drop (i + 1)).flatten : List Int) none (some (0, 5))) [] = _
    rw [List.append_assoc]
    rfl
theorem cat_loop0 {α : Type} (xss : List (List Int)) (hx : xss.length ≤ 4611686018427387904) (ht : total xss ≤ 140737488355328) (k : AV → List Box2 → Option α) : ∀ (n i size : Nat), i + n = xss.length → size + total (xss.drop i) = total xss →
    cat_L0 (xss.length + 1) (n + 1) xss (size : Int) ((xss.length : Nat) : Int) (i : Int) k = k (.sl B xss.flatten none (some (0, 5))) []
  | 0, i, size, h, hs => by
    have hd : xss.drop i = [] := List.drop_eq_nil_of_le (by omega)
    rw [hd] at hs
    have hz : total [] = 0 := rfl
    rw [cat_step0, cond_neg (by omega), decide_eq_true (show 0 ≤ (size : Int) by omega), decide_eq_true (show (size : Int) ≤ 140737488355328 by omega)]
    have := cat_loop1 (xss.length + 1) xss hx k xss.length 0 [] (by omega) (by simpa using ht)
    simp only [Bool.and_self, cond_true]
    exact this
  | n + 1, i, size, h, hs => by
    have hi : i < xss.length := by omega
    rw [total_drop hi] at hs
    have hw : IntKind.i64.wrap (Int.add (size : Int) ((xss[i].length : Nat) : Int)) = ((size + xss[i].length : Nat) : Int) := by
      show IntKind.i64.wrap ((size : Int) + ((xss[i].length : Nat) : Int)) = _
      rw [IntWalk.i64_in _ (by omega)]; omega
    rw [cat_step0, cond_pos (by omega), in_range hi, cond_true, step_i (by omega), rd_sl hi, hw, cond_neg (by omega)]
    exact cat_loop0 xss hx ht k n (i + 1) _ (by omega) (by omega)
def listsIn (y : AV) : Option (List (List Int)) := srcOf (.sl B) y
def catSp : List AV → List (Bool × AV)
  | [y] => match listsIn y with
    | some xss => [(decide (xss.length ≤ 4611686018427387904) && decide (total xss ≤ 140737488355328), .sl B xss.flatten none (some (0, 5)))]
    | none => []
  | _ => []
theorem cat_ok : PureOK Tryd.prog env 18 catSp := by
  refine PureOK.of_reads envOK tokF1 noInl_ok fn_cat (hv := cat_hv) (fun args r h => ?_)
  unfold catSp at h
  split at h
  · rename_i y
    split at h
    · rename_i xss hx
      obtain ⟨hg, he⟩ := sel_one h
      simp only [Bool.and_eq_true, decide_eq_true_eq] at hg
      subst he
      refine ⟨_, xss.length + 1, .src (τ := .sl B) hx .nil, ?_⟩
      exact (cat_in _ xss (fun r _ => some r)).trans (cat_loop0 xss hg.1 hg.2 (fun r _ => some r) xss.length 0 0 (Nat.zero_add _) (by rw [List.drop_zero, Nat.zero_add]))
    · cases h
  · cases h
end Go.Proofs.YtopbldbgnpeelaaDoor.V
