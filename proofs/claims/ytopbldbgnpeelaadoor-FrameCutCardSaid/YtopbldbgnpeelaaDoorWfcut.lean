/- The law FrameCut as a plain law. No condition. -/
import Derived.Test.YtopbldbgnpeelaaDoorVcut
set_option maxRecDepth 100000
set_option linter.unusedVariables false
set_option linter.unusedSimpArgs false
namespace Go.Proofs.YtopbldbgnpeelaaDoor.V
open Go Go.Proofs.AbsV
def addR (b body : List Int) (own : Option (Nat × TypeId)) : List (Bool × AV) := [(mayI ((body.length : Nat) : Int) != 0, .tup [.nilsl, .int .i64 (mayI ((body.length : Nat) : Int))]), (Nat.ble b.length 1000000000000, .tup [.sl B (b ++ frameOf body) none own, .int .i64 0])]
def faddNSp : List AV → List (Bool × AV)
  | [x, y] => match bytesIn x, bytesIn y with
    | some b, some body => addR b body none
    | _, _ => []
  | _ => []
theorem addR_weak {b body : List Int} {own : Option (Nat × TypeId)} {r : AV} (h : sel (addR b body none) = some r) : ∃ r0, sel (addR b body own) = some r0 ∧ ptrsB 0 r0 = true ∧ ∀ c v, Rep c r0 v → Rep c r v := by
  unfold addR at h ⊢
  cases hm : (mayI ((body.length : Nat) : Int) != 0) with
  | true =>
    rw [hm] at h
    cases h
    exact ⟨_, rfl, rfl, fun c v hv => hv⟩
  | false =>
    rw [hm] at h
    obtain ⟨hg, he⟩ := sel_one (show sel [(Nat.ble b.length 1000000000000, AV.tup [AV.sl B (b ++ frameOf body) none none, AV.int .i64 0])] = some r from h)
    subst he
    rw [hg]
    exact ⟨_, rfl, rfl, fun c v hv => rep_tup_weak hv⟩
theorem faddN_ok : PureOK Tryd.prog env 8 faddNSp := by
  refine PureOK.weakenR fadd_ok (fun args r h => ?_)
  unfold faddNSp at h
  split at h
  · rename_i x y
    split at h
    · rename_i b body hx hy
      have e : faddSp [x, y] = addR b body (some (3, 5)) := by
        show (match bytesIn x, bytesIn y with
          | some b, some body => addR b body (some (3, 5))
          | _, _ => []) = _
        rw [hx, hy]
      rw [e]
      exact addR_weak h
    · cases h
  · cases h
def TW3 : FuncId → Option CSpec := tab [(8, faddNSp), (14, scanSp), (16, listsSp), (7, awakeSp03)]
theorem tokW3 : TOK Tryd.prog env TW3 := tok_tab mixed ⟨faddN_ok, scan_ok, lists_ok, awake03_ok, trivial⟩
theorem fn_wcut : FnOK Tryd.prog 6 Tryd.f6 := ⟨by kernel_rfl, by kernel_rfl, by kernel_rfl⟩
def wcut_hv : Keeps := fun c => (match Nat.beq c 0 with | true => some ([0, 1, 5, 6, 7, 8], [1, 4, 5, 6, 7]) | false => none)
def wcut_S0 (l : List (List Int)) (m : Int) (b : List Int) (want : List (List Int)) (v7 : Int) (i : Int) : St := { fr := frOf [(0, .sl BB l none none), (1, .int .i64 m), (5, .sl B b none none), (6, .sl BB want none (some (1, 22))), (7, .int .i64 v7), (8, .int .i64 i)] 95 0, bx := [] }
def wcut_S0n (l : List (List Int)) (m : Int) (v7 : Int) (i : Int) : St := { fr := frOf [(0, .sl BB l none none), (1, .int .i64 m), (5, .nilsl), (6, .nilsl), (7, .int .i64 v7), (8, .int .i64 i)] 95 0, bx := [] }
def wcut_S0m (l : List (List Int)) (m : Int) (b : List Int)  (v7 : Int) (i : Int) : St := { fr := frOf [(0, .sl BB l none none), (1, .int .i64 m), (5, .sl B b none none), (6, .nilsl), (7, .int .i64 v7), (8, .int .i64 i)] 95 0, bx := [] }
noncomputable def wcut_B0 : Code := codeAt (bodyOf Tryd.f6) [1, 1, 1, 1, 1, 0, 1, 0, 0]
noncomputable def wcut_K0 {α : Type} (F : Nat) (l : List (List Int)) (m : Int)  (k : AV → List Box2 → Option α) : Ex → St → Option α := contAt env TW3 noInl wcut_hv F (bodyOf Tryd.f6) [1, 1, 1, 1, 1, 0, 1, 0] 0 (endOf env Tryd.f6 (fun r bx => k r []))
noncomputable def wcut_L0 {α : Type} (F n : Nat) (l : List (List Int)) (m : Int) (b : List Int) (want : List (List Int)) (v7 : Int) (i : Int) (k : AV → List Box2 → Option α) : Option α := loopH 0 (some [0, 1, 5, 6, 7, 8]) (some [1, 4, 5, 6, 7]) (fun s k => runC env TW3 noInl wcut_hv F wcut_B0 0 s k) n (wcut_S0 l m b want v7 i) (wcut_K0 F  l m k)
noncomputable def wcut_L0n {α : Type} (F n : Nat) (l : List (List Int)) (m : Int) (v7 : Int) (i : Int) (k : AV → List Box2 → Option α) : Option α := loopH 0 (some [0, 1, 5, 6, 7, 8]) (some [1, 4, 5, 6, 7]) (fun s k => runC env TW3 noInl wcut_hv F wcut_B0 0 s k) n (wcut_S0n l m v7 i) (wcut_K0 F  l m k)
noncomputable def wcut_L0m {α : Type} (F n : Nat) (l : List (List Int)) (m : Int) (b : List Int)  (v7 : Int) (i : Int) (k : AV → List Box2 → Option α) : Option α := loopH 0 (some [0, 1, 5, 6, 7, 8]) (some [1, 4, 5, 6, 7]) (fun s k => runC env TW3 noInl wcut_hv F wcut_B0 0 s k) n (wcut_S0m l m b v7 i) (wcut_K0 F  l m k)
theorem wcut_in {α : Type} (F : Nat) (l : List (List Int)) (m : Int) (k : AV → List Box2 → Option α) : runF env TW3 noInl wcut_hv F Tryd.f6 [.sl BB l none none, .int .i64 m] [] (fun r bx => k r []) =
    bif decide ((((List.length l) : Nat) : Int) > 30) then k (AV.bool true) [] else (wcut_L0n F F l m 0 0 k) := by kernel_rfl
theorem wcut_step0 {α : Type} (F n : Nat) (l : List (List Int)) (m : Int) (b : List Int) (want : List (List Int)) (v7 : Int) (i : Int) (k : AV → List Box2 → Option α) : wcut_L0 F (n + 1)  l m b want v7 i k =
    bif decide (i < (((List.length l) : Nat) : Int)) then bif decide (0 ≤ i) && decide (i < (((List.length l) : Nat) : Int)) then bif decide ((((List.length (dL (rdD (Ty.sl (Ty.int IntKind.u8)) l (Int.toNat i)))) : Nat) : Int) > 300) then k (AV.bool true) [] else bif decide (0 ≤ i) && decide (i < (((List.length l) : Nat) : Int)) then bif (((List.length (dL (rdD (Ty.sl (Ty.int IntKind.u8)) l (Int.toNat i)))) : Nat) : Int) == 0 then (wcut_L0 F n l m b want v7 (IntKind.wrap IntKind.i64 (Int.add i 1)) k) else bif decide (0 ≤ i) && decide (i < (((List.length l) : Nat) : Int)) then bif mayI ((((List.length (dL (rdD (Ty.sl (Ty.int IntKind.u8)) l (Int.toNat i)))) : Nat) : Int)) != 0 then bif !mayI ((((List.length (dL (rdD (Ty.sl (Ty.int IntKind.u8)) l (Int.toNat i)))) : Nat) : Int)) != 0 then k (AV.bool false) [] else k (AV.bool false) [] else bif Nat.ble (List.length b) 1000000000000 then bif decide ((((List.length (List.append b (frameOf (dL (rdD (Ty.sl (Ty.int IntKind.u8)) l (Int.toNat i)))))) : Nat) : Int) ≤ (((List.length b) : Nat) : Int)) then k (AV.bool false) [] else bif decide ((((List.length (List.append b (frameOf (dL (rdD (Ty.sl (Ty.int IntKind.u8)) l (Int.toNat i)))))) : Nat) : Int) ≤ m) then bif decide (0 ≤ i) && decide (i < (((List.length l) : Nat) : Int)) then bif decide ((List.length want + 1) * 24 ≤ 140737488355328) then (wcut_L0 F n l m (List.append b (frameOf (dL (rdD (Ty.sl (Ty.int IntKind.u8)) l (Int.toNat i))))) (List.append want [dL (rdD (Ty.sl (Ty.int IntKind.u8)) l (Int.toNat i))]) (((List.length (List.append b (frameOf (dL (rdD (Ty.sl (Ty.int IntKind.u8)) l (Int.toNat i)))))) : Nat) : Int) (IntKind.wrap IntKind.i64 (Int.add i 1)) k) else none else none else (wcut_L0 F n l m (List.append b (frameOf (dL (rdD (Ty.sl (Ty.int IntKind.u8)) l (Int.toNat i))))) want v7 (IntKind.wrap IntKind.i64 (Int.add i 1)) k) else none else none else none else none else bif !decide (m < 0) then bif decide (m > (((List.length b) : Nat) : Int)) then k (AV.bool true) [] else bif decide (0 ≤ m) && decide (m ≤ (((List.length b) : Nat) : Int)) then bif nxG (List.take (Int.toNat (Int.sub m 0)) b) then bif listsG (scanB (List.take (Int.toNat (Int.sub m 0)) b)).1 then bif (scanB (List.take (Int.toNat (Int.sub m 0)) b)).1 == want then bif (scanB (List.take (Int.toNat (Int.sub m 0)) b)).2 == v7 then k (AV.bool true) [] else k (AV.bool false) [] else k (AV.bool false) [] else none else none else none else k (AV.bool true) [] := by kernel_rfl
theorem wcut_step0n {α : Type} (F n : Nat) (l : List (List Int)) (m : Int) (v7 : Int) (i : Int) (k : AV → List Box2 → Option α) : wcut_L0n F (n + 1)  l m v7 i k =
    bif decide (i < (((List.length l) : Nat) : Int)) then bif decide (0 ≤ i) && decide (i < (((List.length l) : Nat) : Int)) then bif decide ((((List.length (dL (rdD (Ty.sl (Ty.int IntKind.u8)) l (Int.toNat i)))) : Nat) : Int) > 300) then k (AV.bool true) [] else bif decide (0 ≤ i) && decide (i < (((List.length l) : Nat) : Int)) then bif (((List.length (dL (rdD (Ty.sl (Ty.int IntKind.u8)) l (Int.toNat i)))) : Nat) : Int) == 0 then (wcut_L0n F n l m v7 (IntKind.wrap IntKind.i64 (Int.add i 1)) k) else bif decide (0 ≤ i) && decide (i < (((List.length l) : Nat) : Int)) then bif mayI ((((List.length (dL (rdD (Ty.sl (Ty.int IntKind.u8)) l (Int.toNat i)))) : Nat) : Int)) != 0 then bif !mayI ((((List.length (dL (rdD (Ty.sl (Ty.int IntKind.u8)) l (Int.toNat i)))) : Nat) : Int)) != 0 then k (AV.bool false) [] else k (AV.bool false) [] else bif decide ((((List.length (frameOf (dL (rdD (Ty.sl (Ty.int IntKind.u8)) l (Int.toNat i))))) : Nat) : Int) ≤ 0) then k (AV.bool false) [] else bif decide ((((List.length (frameOf (dL (rdD (Ty.sl (Ty.int IntKind.u8)) l (Int.toNat i))))) : Nat) : Int) ≤ m) then bif decide (0 ≤ i) && decide (i < (((List.length l) : Nat) : Int)) then (wcut_L0 F n l m (frameOf (dL (rdD (Ty.sl (Ty.int IntKind.u8)) l (Int.toNat i)))) [dL (rdD (Ty.sl (Ty.int IntKind.u8)) l (Int.toNat i))] (((List.length (frameOf (dL (rdD (Ty.sl (Ty.int IntKind.u8)) l (Int.toNat i))))) : Nat) : Int) (IntKind.wrap IntKind.i64 (Int.add i 1)) k) else none else (wcut_L0m F n l m (frameOf (dL (rdD (Ty.sl (Ty.int IntKind.u8)) l (Int.toNat i)))) v7 (IntKind.wrap IntKind.i64 (Int.add i 1)) k) else none else none else none else bif !decide (m < 0) then bif decide (m > 0) then k (AV.bool true) [] else bif decide (0 ≤ m) && decide (m ≤ 0) then bif 0 == v7 then k (AV.bool true) [] else k (AV.bool false) [] else none else k (AV.bool true) [] := by kernel_rfl
theorem wcut_step0m {α : Type} (F n : Nat) (l : List (List Int)) (m : Int) (b : List Int)  (v7 : Int) (i : Int) (k : AV → List Box2 → Option α) : wcut_L0m F (n + 1)  l m b v7 i k =
    bif decide (i < (((List.length l) : Nat) : Int)) then bif decide (0 ≤ i) && decide (i < (((List.length l) : Nat) : Int)) then bif decide ((((List.length (dL (rdD (Ty.sl (Ty.int IntKind.u8)) l (Int.toNat i)))) : Nat) : Int) > 300) then k (AV.bool true) [] else bif decide (0 ≤ i) && decide (i < (((List.length l) : Nat) : Int)) then bif (((List.length (dL (rdD (Ty.sl (Ty.int IntKind.u8)) l (Int.toNat i)))) : Nat) : Int) == 0 then (wcut_L0m F n l m b v7 (IntKind.wrap IntKind.i64 (Int.add i 1)) k) else bif decide (0 ≤ i) && decide (i < (((List.length l) : Nat) : Int)) then bif mayI ((((List.length (dL (rdD (Ty.sl (Ty.int IntKind.u8)) l (Int.toNat i)))) : Nat) : Int)) != 0 then bif !mayI ((((List.length (dL (rdD (Ty.sl (Ty.int IntKind.u8)) l (Int.toNat i)))) : Nat) : Int)) != 0 then k (AV.bool false) [] else k (AV.bool false) [] else bif Nat.ble (List.length b) 1000000000000 then bif decide ((((List.length (List.append b (frameOf (dL (rdD (Ty.sl (Ty.int IntKind.u8)) l (Int.toNat i)))))) : Nat) : Int) ≤ (((List.length b) : Nat) : Int)) then k (AV.bool false) [] else bif decide ((((List.length (List.append b (frameOf (dL (rdD (Ty.sl (Ty.int IntKind.u8)) l (Int.toNat i)))))) : Nat) : Int) ≤ m) then bif decide (0 ≤ i) && decide (i < (((List.length l) : Nat) : Int)) then (wcut_L0 F n l m (List.append b (frameOf (dL (rdD (Ty.sl (Ty.int IntKind.u8)) l (Int.toNat i))))) [dL (rdD (Ty.sl (Ty.int IntKind.u8)) l (Int.toNat i))] (((List.length (List.append b (frameOf (dL (rdD (Ty.sl (Ty.int IntKind.u8)) l (Int.toNat i)))))) : Nat) : Int) (IntKind.wrap IntKind.i64 (Int.add i 1)) k) else none else (wcut_L0m F n l m (List.append b (frameOf (dL (rdD (Ty.sl (Ty.int IntKind.u8)) l (Int.toNat i))))) v7 (IntKind.wrap IntKind.i64 (Int.add i 1)) k) else none else none else none else none else bif !decide (m < 0) then bif decide (m > (((List.length b) : Nat) : Int)) then k (AV.bool true) [] else bif decide (0 ≤ m) && decide (m ≤ (((List.length b) : Nat) : Int)) then bif nxG (List.take (Int.toNat (Int.sub m 0)) b) then bif listsG (scanB (List.take (Int.toNat (Int.sub m 0)) b)).1 then bif (scanB (List.take (Int.toNat (Int.sub m 0)) b)).1 == [] then bif (scanB (List.take (Int.toNat (Int.sub m 0)) b)).2 == v7 then k (AV.bool true) [] else k (AV.bool false) [] else k (AV.bool false) [] else none else none else none else k (AV.bool true) [] := by kernel_rfl
/-! ### What has been laid, and what of it is whole -/
structure CutInv (m : Int) (b : List Int) (want : List (List Int)) (a : Int) : Prop where
  good : ∀ x ∈ want, GoodW x
  ha : a = (((frames want).length : Nat) : Int)
  hle : want = [] ∨ (((frames want).length : Nat) : Int) ≤ m
  ht : b = frames want ∨ ∃ x rest, b = frames want ++ (frameOf x ++ rest) ∧ GoodW x ∧ m < ((((frames want).length + (frameOf x).length) : Nat) : Int)
theorem CutInv.nil (m : Int) : CutInv m [] [] 0 := ⟨(fun x hx => by cases hx), rfl, .inl rfl, .inl rfl⟩
theorem CutInv.more {m : Int} {b : List Int} {want : List (List Int)} {a : Int} (h : CutInv m b want a) {x : List Int} (hx : GoodW x) (hm : (((b ++ frameOf x).length : Nat) : Int) ≤ m) :
    CutInv m (b ++ frameOf x) (want ++ [x]) (((b ++ frameOf x).length : Nat) : Int) := by
  have hb : b = frames want := by
    rcases h.ht with hb | ⟨y, rest, hb, hy, hlt⟩
    · exact hb
    · rw [hb] at hm
      simp only [List.length_append] at hm
      omega
  have e : frames (want ++ [x]) = b ++ frameOf x := by
    rw [frames_append, hb]
    show frames want ++ (frameOf x ++ []) = _
    rw [List.append_nil]
  refine ⟨fun y hy => ?_, by rw [e], .inr (by rw [e]; exact hm), .inl e.symm⟩
  rcases List.mem_append.1 hy with hy | hy
  · exact h.good y hy
  · rw [List.mem_singleton.1 hy]; exact hx
theorem CutInv.rest {m : Int} {b : List Int} {want : List (List Int)} {a : Int} (h : CutInv m b want a) {x : List Int} (hx : GoodW x) (hm : ¬ (((b ++ frameOf x).length : Nat) : Int) ≤ m) : CutInv m (b ++ frameOf x) want a := by
  refine ⟨h.good, h.ha, h.hle, .inr ?_⟩
  rcases h.ht with hb | ⟨y, rest, hb, hy, hlt⟩
  · refine ⟨x, [], by rw [hb, List.append_nil], hx, ?_⟩
    rw [hb, List.length_append] at hm
    omega
  · exact ⟨y, rest ++ frameOf x, by rw [hb]; simp only [List.append_assoc], hy, hlt⟩
theorem cut_end {m : Int} {b : List Int} {want : List (List Int)} {a : Int} (h : CutInv m b want a) (h0 : 0 ≤ m) (h1 : m ≤ ((b.length : Nat) : Int)) (hl : b.length ≤ 10000) :
    nxG (List.take (Int.toNat (Int.sub m 0)) b) = true ∧ listsG (scanB (List.take (Int.toNat (Int.sub m 0)) b)).1 = true ∧ scanB (List.take (Int.toNat (Int.sub m 0)) b) = (want, a) := by
  have e0 : Int.toNat (Int.sub m 0) = m.toNat := by
    show (m - 0).toNat = _
    rw [Int.sub_zero]
  obtain ⟨n, rfl⟩ : ∃ n : Nat, m = (n : Int) := ⟨m.toNat, by omega⟩
  rw [e0, Int.toNat_natCast]
  have hw : (frames want).length ≤ n := by
    rcases h.hle with h2 | h2
    · rw [h2]; exact Nat.zero_le _
    · omega
  have hlt : (b.take n).length ≤ 10000 := by rw [List.length_take]; omega
  have key : ∃ t, b.take n = frames want ++ t ∧ (t = [] ∨ ∃ x r, GoodW x ∧ r < (frameOf x).length ∧ t = (frameOf x).take r) := by
    rcases h.ht with hb | ⟨x, rest, hb, hx, hlt⟩
    · refine ⟨[], ?_, .inl rfl⟩
      rw [hb, List.append_nil, List.take_of_length_le hw]
    · refine ⟨(frameOf x).take (n - (frames want).length), ?_, .inr ⟨x, n - (frames want).length, hx, by omega, rfl⟩⟩
      rw [hb, List.take_append, List.take_of_length_le hw, List.take_append, show n - (frames want).length - (frameOf x).length = 0 by omega, List.take_zero, List.append_nil]
  obtain ⟨t, e, ht⟩ := key
  rw [e] at hlt ⊢
  obtain ⟨hb, hs⟩ := scan_cut want t h.good (by omega) ht
  refine ⟨?_, scanB_G hb (by omega), by rw [hs, h.ha]⟩
  unfold nxG
  rw [ble_yes (by omega), isBytesB_of hb]
  rfl
noncomputable def wcutV {α : Type} (v F n : Nat) (l : List (List Int)) (m : Int) (b : List Int) (want : List (List Int)) (a i : Int) (k : AV → List Box2 → Option α) : Option α :=
  match v with
  | 0 => wcut_L0n F n l m a i k
  | 1 => wcut_L0m F n l m b a i k
  | _ => wcut_L0 F n l m b want a i k
theorem wcut_loop {α : Type} (F : Nat) (l : List (List Int)) (m : Int) (hB : ∀ x ∈ l, isBytes x) (hl : l.length ≤ 30) (k : AV → List Box2 → Option α) : ∀ (n v : Nat) (b : List Int) (want : List (List Int)) (a : Int) (i : Nat), CutInv m b want a →
    (v = 0 → b = [] ∧ want = []) → (v = 1 → want = []) → v ≤ 2 → b.length ≤ 320 * i → want.length ≤ i → i + n = l.length → wcutV v F (n + 1) l m b want a (i : Int) k = k (.bool true) [] := by
  intro n
  induction n with
  | zero =>
    intro v b want a i h hv0 hv1 hv2 hb hw hi
    obtain rfl | rfl | rfl : v = 0 ∨ v = 1 ∨ v = 2 := by omega
    · obtain ⟨rfl, rfl⟩ := hv0 rfl
      show wcut_L0n F (0 + 1) l m a (i : Int) k = _
      have ha : a = 0 := h.ha
      rw [wcut_step0n, cond_neg (show ¬ (i : Int) < ((l.length : Nat) : Int) by omega), ha]
      by_cases h0 : m < 0
      · rw [decide_eq_true h0]; rfl
      · rw [decide_eq_false h0, Bool.not_false, cond_true]
        by_cases h1 : m > 0
        · rw [cond_pos h1]
        · rw [cond_neg h1, show (decide (0 ≤ m) && decide (m ≤ 0)) = true by simp; omega, cond_true]
          rfl
    · obtain rfl := hv1 rfl
      show wcut_L0m F (0 + 1) l m b a (i : Int) k = _
      rw [wcut_step0m, cond_neg (show ¬ (i : Int) < ((l.length : Nat) : Int) by omega)]
      by_cases h0 : m < 0
      · rw [decide_eq_true h0]; rfl
      · rw [decide_eq_false h0, Bool.not_false, cond_true]
        by_cases h1 : m > ((b.length : Nat) : Int)
        · rw [cond_pos h1]
        · obtain ⟨q1, q2, q3⟩ := cut_end h (by omega) (by omega) (by omega)
          rw [cond_neg h1, show (decide (0 ≤ m) && decide (m ≤ ((b.length : Nat) : Int))) = true by simp; omega, cond_true, q1, cond_true, q2, cond_true, q3]
          show (bif (([] : List (List Int)) == []) then bif a == a then k (AV.bool true) [] else k (AV.bool false) [] else k (AV.bool false) []) = _
          rw [beq_self_eq_true, beq_self_eq_true]
          rfl
    · show wcut_L0 F (0 + 1) l m b want a (i : Int) k = _
      rw [wcut_step0, cond_neg (show ¬ (i : Int) < ((l.length : Nat) : Int) by omega)]
      by_cases h0 : m < 0
      · rw [decide_eq_true h0]; rfl
      · rw [decide_eq_false h0, Bool.not_false, cond_true]
        by_cases h1 : m > ((b.length : Nat) : Int)
        · rw [cond_pos h1]
        · obtain ⟨q1, q2, q3⟩ := cut_end h (by omega) (by omega) (by omega)
          rw [cond_neg h1, show (decide (0 ≤ m) && decide (m ≤ ((b.length : Nat) : Int))) = true by simp; omega, cond_true, q1, cond_true, q2, cond_true, q3]
          show (bif want == want then bif a == a then k (AV.bool true) [] else k (AV.bool false) [] else k (AV.bool false) []) = _
          rw [beq_self_eq_true, beq_self_eq_true]
          rfl
  | succ n ih =>
    intro v b want a i h hv0 hv1 hv2 hb hw hi
    have hi' : i < l.length := by omega
    obtain rfl | rfl | rfl : v = 0 ∨ v = 1 ∨ v = 2 := by omega
    · obtain ⟨rfl, rfl⟩ := hv0 rfl
      show wcut_L0n F (n + 1 + 1) l m a (i : Int) k = _
      rw [wcut_step0n, cond_pos (show (i : Int) < ((l.length : Nat) : Int) by omega), in_range hi', rd_sl hi', step_i (show i ≤ 4611686018427387904 by omega)]
      simp only [cond_true]
      by_cases g1 : ((l[i].length : Nat) : Int) > 300
      · rw [cond_pos g1]
      · rw [cond_neg g1]
        by_cases g2 : l[i].length = 0
        · rw [show (((l[i].length : Nat) : Int) == 0) = true by rw [g2]; rfl, cond_true]
          exact ih 0 [] [] a (i + 1) h (fun _ => ⟨rfl, rfl⟩) (fun _ => rfl) (by omega) (by simp) (by simp) (by omega)
        · have hx : GoodW l[i] := ⟨hB _ (List.getElem_mem hi'), by omega, by omega⟩
          have hs := frame_short hx.hi
          rw [show (((l[i].length : Nat) : Int) == 0) = false by rw [beq_eq_false_iff_ne]; omega, cond_false, good_small hx.lo hx.hi, show ((0 : Int) != 0) = false from rfl, cond_false]
          rw [cond_neg (show ¬ (((frameOf l[i]).length : Nat) : Int) ≤ 0 by omega)]
          by_cases g3 : (((frameOf l[i]).length : Nat) : Int) ≤ m
          · rw [cond_pos g3]
            exact ih 2 (frameOf l[i]) [l[i]] _ (i + 1) (h.more hx g3) (fun q => by cases q) (fun q => by cases q) (Nat.le_refl _) (by omega) (by simp) (by omega)
          · rw [cond_neg g3]
            exact ih 1 (frameOf l[i]) [] _ (i + 1) (h.rest hx g3) (fun q => by cases q) (fun _ => rfl) (by omega) (by omega) (by simp) (by omega)
    · obtain rfl := hv1 rfl
      show wcut_L0m F (n + 1 + 1) l m b a (i : Int) k = _
      rw [wcut_step0m, cond_pos (show (i : Int) < ((l.length : Nat) : Int) by omega), in_range hi', rd_sl hi', step_i (show i ≤ 4611686018427387904 by omega)]
      simp only [cond_true]
      by_cases g1 : ((l[i].length : Nat) : Int) > 300
      · rw [cond_pos g1]
      · rw [cond_neg g1]
        by_cases g2 : l[i].length = 0
        · rw [show (((l[i].length : Nat) : Int) == 0) = true by rw [g2]; rfl, cond_true]
          exact ih 1 b [] a (i + 1) h (fun q => by cases q) (fun _ => rfl) (by omega) (by omega) (by simp) (by omega)
        · have hx : GoodW l[i] := ⟨hB _ (List.getElem_mem hi'), by omega, by omega⟩
          have hs := frame_short hx.hi
          rw [show (((l[i].length : Nat) : Int) == 0) = false by rw [beq_eq_false_iff_ne]; omega, cond_false, good_small hx.lo hx.hi, show ((0 : Int) != 0) = false from rfl, cond_false]
          have ea : (List.append b (frameOf l[i])).length = b.length + (frameOf l[i]).length := List.length_append
          rw [ble_yes (show b.length ≤ 1000000000000 by omega), cond_true, cond_neg (show ¬ (((List.append b (frameOf l[i])).length : Nat) : Int) ≤ ((b.length : Nat) : Int) by rw [ea]; omega)]
          by_cases g3 : (((List.append b (frameOf l[i])).length : Nat) : Int) ≤ m
          · rw [cond_pos g3]
            exact ih 2 (b ++ frameOf l[i]) [l[i]] _ (i + 1) (h.more hx g3) (fun q => by cases q) (fun q => by cases q) (Nat.le_refl _) (by rw [List.length_append]; omega) (by simp) (by omega)
          · rw [cond_neg g3]
            exact ih 1 (b ++ frameOf l[i]) [] _ (i + 1) (h.rest hx g3) (fun q => by cases q) (fun _ => rfl) (by omega) (by rw [List.length_append]; omega) (by simp) (by omega)
    · show wcut_L0 F (n + 1 + 1) l m b want a (i : Int) k = _
      rw [wcut_step0, cond_pos (show (i : Int) < ((l.length : Nat) : Int) by omega), in_range hi', rd_sl hi', step_i (show i ≤ 4611686018427387904 by omega)]
      simp only [cond_true]
      by_cases g1 : ((l[i].length : Nat) : Int) > 300
      · rw [cond_pos g1]
      · rw [cond_neg g1]
        by_cases g2 : l[i].length = 0
        · rw [show (((l[i].length : Nat) : Int) == 0) = true by rw [g2]; rfl, cond_true]
          exact ih 2 b want a (i + 1) h (fun q => by cases q) (fun q => by cases q) (by omega) (by omega) (by omega) (by omega)
        · have hx : GoodW l[i] := ⟨hB _ (List.getElem_mem hi'), by omega, by omega⟩
          have hs := frame_short hx.hi
          rw [show (((l[i].length : Nat) : Int) == 0) = false by rw [beq_eq_false_iff_ne]; omega, cond_false, good_small hx.lo hx.hi, show ((0 : Int) != 0) = false from rfl, cond_false]
          have ea : (List.append b (frameOf l[i])).length = b.length + (frameOf l[i]).length := List.length_append
          rw [ble_yes (show b.length ≤ 1000000000000 by omega), cond_true, cond_neg (show ¬ (((List.append b (frameOf l[i])).length : Nat) : Int) ≤ ((b.length : Nat) : Int) by rw [ea]; omega)]
          by_cases g3 : (((List.append b (frameOf l[i])).length : Nat) : Int) ≤ m
          · rw [cond_pos g3, cond_pos (show (want.length + 1) * 24 ≤ 140737488355328 by omega)]
            exact ih 2 (b ++ frameOf l[i]) (want ++ [l[i]]) _ (i + 1) (h.more hx g3) (fun q => by cases q) (fun q => by cases q) (Nat.le_refl _) (by rw [List.length_append]; omega) (by rw [List.length_append, List.length_singleton]; omega) (by omega)
          · rw [cond_neg g3]
            exact ih 2 (b ++ frameOf l[i]) want _ (i + 1) (h.rest hx g3) (fun q => by cases q) (fun q => by cases q) (Nat.le_refl _) (by rw [List.length_append]; omega) (by omega) (by omega)
theorem wcut_run {α : Type} (l : List (List Int)) (m : Int) (hB : ∀ x ∈ l, isBytes x) (k : AV → List Box2 → Option α) : runF env TW3 noInl wcut_hv (l.length + 1) Tryd.f6 [.sl BB l none none, .int .i64 m] [] (fun r bx => k r []) = k (.bool true) [] := by
  rw [wcut_in]
  by_cases h : ((l.length : Nat) : Int) > 30
  · rw [cond_pos h]
  · rw [cond_neg h]
    exact wcut_loop (l.length + 1) l m hB (by omega) k l.length 0 [] [] 0 0 (CutInv.nil m) (fun _ => ⟨rfl, rfl⟩) (fun _ => rfl) (by omega) (by simp) (by simp) (by omega)
def allBytes (l : List (List Int)) : Bool := l.all isBytesB
def frameCutSp : List AV → List (Bool × AV)
  | [x, .int .i64 m] => match srcL x with
    | some l => [(allBytes l, .bool true)]
    | none => []
  | _ => []
theorem frameCut_ok : PureOK Tryd.prog env 6 frameCutSp := by
  refine PureOK.of_reads envOK tokW3 noInl_ok fn_wcut (hv := wcut_hv) (fun args r h => ?_)
  unfold frameCutSp at h
  split at h
  · rename_i x m
    split at h
    · rename_i l hx
      obtain ⟨hg, he⟩ := sel_one h
      subst he
      refine ⟨_, l.length + 1, Reads.src (τ := BB) hx (.same .nil), wcut_run l m (fun x hx' => isBytes_of (List.all_eq_true.1 hg x hx')) (fun r _ => some r)⟩
    · cases h
  · cases h
theorem frameCut_true (d : DenL ([(false, Ty.sl (.sl (.int .u8))), (false, Ty.int .i64)].map (·.2))) (h : WfL _ d) : sel (frameCutSp (argsA [(false, Ty.sl (.sl (.int .u8))), (false, Ty.int .i64)] d)) = some (.bool true) := by
  obtain ⟨l, m, u⟩ := d
  have hb : allBytes l = true := by
    refine List.all_eq_true.2 (fun x hx => ?_)
    obtain ⟨i, hi, rfl⟩ := List.getElem_of_mem hx
    exact wf_bytes (h.1.2 i hi)
  exact sel_yes hb
end Go.Proofs.YtopbldbgnpeelaaDoor.V
