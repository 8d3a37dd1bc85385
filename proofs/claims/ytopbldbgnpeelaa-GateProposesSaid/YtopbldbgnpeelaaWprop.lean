/- The law GateProposes as a plain law. No condition. -/
import Derived.Test.YtopbldbgnpeelaaVpropb
set_option maxRecDepth 100000
set_option linter.unusedVariables false
set_option linter.unusedSimpArgs false
namespace Go.Proofs.Ytopbldbgnpeelaa.V
open Go Go.Proofs.AbsV
/-! ### gate.New, with the law's numbers in a box -/
def newQ : QSpec
  | [.int .i64 a, .int .i64 b], [.cells Tt [.int .i64 x, .int .i64 y, .int .i64 z]] => [(!(isB a && mayB b), (.nilp, [.cells Tt [.int .i64 x, .int .i64 y, .int .i64 z]])), (true, (.ptr 1 0, [.cells Tt [.int .i64 x, .int .i64 y, .int .i64 z], .cells 62 (tbl a b (upd (fun _ => 0) a.toNat b))]))]
  | _, _ => []
theorem fn_new : FnOK Try.prog 26 Try.f26 := ⟨by kernel_rfl, by kernel_rfl, by kernel_rfl⟩
def new_hv : Keeps := fun _ => none
theorem new_in {α : Type} (F : Nat) (a b x y z : Int) (Tt : TypeId) (k : AV → List Box2 → Option α) : runF env T9 noInl new_hv F Try.f26 [.int .i64 a, .int .i64 b] [.cells Tt [.int .i64 x, .int .i64 y, .int .i64 z]] (fun r bx => k r bx) =
    bif !!isB a then bif !mayB b then k AV.nilp [Box2.cells Tt [AV.int IntKind.i64 x, AV.int IntKind.i64 y, AV.int IntKind.i64 z]] else bif decide (a = 0) then k (AV.ptr 1 0) [Box2.cells Tt [AV.int IntKind.i64 x, AV.int IntKind.i64 y, AV.int IntKind.i64 z], Box2.cells 62 [AV.int IntKind.i64 a, AV.int IntKind.i64 b, AV.int IntKind.i64 b, AV.int IntKind.i64 0, AV.int IntKind.i64 0, AV.int IntKind.i64 0, AV.int IntKind.i64 0, AV.int IntKind.i64 0, AV.int IntKind.i64 0, AV.int IntKind.i64 0, AV.int IntKind.i64 0, AV.int IntKind.i64 0]] else bif decide (a = 1) then k (AV.ptr 1 0) [Box2.cells Tt [AV.int IntKind.i64 x, AV.int IntKind.i64 y, AV.int IntKind.i64 z], Box2.cells 62 [AV.int IntKind.i64 a, AV.int IntKind.i64 b, AV.int IntKind.i64 0, AV.int IntKind.i64 b, AV.int IntKind.i64 0, AV.int IntKind.i64 0, AV.int IntKind.i64 0, AV.int IntKind.i64 0, AV.int IntKind.i64 0, AV.int IntKind.i64 0, AV.int IntKind.i64 0, AV.int IntKind.i64 0]] else bif decide (a = 2) then k (AV.ptr 1 0) [Box2.cells Tt [AV.int IntKind.i64 x, AV.int IntKind.i64 y, AV.int IntKind.i64 z], Box2.cells 62 [AV.int IntKind.i64 a, AV.int IntKind.i64 b, AV.int IntKind.i64 0, AV.int IntKind.i64 0, AV.int IntKind.i64 b, AV.int IntKind.i64 0, AV.int IntKind.i64 0, AV.int IntKind.i64 0, AV.int IntKind.i64 0, AV.int IntKind.i64 0, AV.int IntKind.i64 0, AV.int IntKind.i64 0]] else bif decide (a = 3) then k (AV.ptr 1 0) [Box2.cells Tt [AV.int IntKind.i64 x, AV.int IntKind.i64 y, AV.int IntKind.i64 z], Box2.cells 62 [AV.int IntKind.i64 a, AV.int IntKind.i64 b, AV.int IntKind.i64 0, AV.int IntKind.i64 0, AV.int IntKind.i64 0, AV.int IntKind.i64 b, AV.int IntKind.i64 0, AV.int IntKind.i64 0, AV.int IntKind.i64 0, AV.int IntKind.i64 0, AV.int IntKind.i64 0, AV.int IntKind.i64 0]] else bif decide (a = 4) then k (AV.ptr 1 0) [Box2.cells Tt [AV.int IntKind.i64 x, AV.int IntKind.i64 y, AV.int IntKind.i64 z], Box2.cells 62 [AV.int IntKind.i64 a, AV.int IntKind.i64 b, AV.int IntKind.i64 0, AV.int IntKind.i64 0, AV.int IntKind.i64 0, AV.int IntKind.i64 0, AV.int IntKind.i64 b, AV.int IntKind.i64 0, AV.int IntKind.i64 0, AV.int IntKind.i64 0, AV.int IntKind.i64 0, AV.int IntKind.i64 0]] else bif decide (a = 5) then k (AV.ptr 1 0) [Box2.cells Tt [AV.int IntKind.i64 x, AV.int IntKind.i64 y, AV.int IntKind.i64 z], Box2.cells 62 [AV.int IntKind.i64 a, AV.int IntKind.i64 b, AV.int IntKind.i64 0, AV.int IntKind.i64 0, AV.int IntKind.i64 0, AV.int IntKind.i64 0, AV.int IntKind.i64 0, AV.int IntKind.i64 b, AV.int IntKind.i64 0, AV.int IntKind.i64 0, AV.int IntKind.i64 0, AV.int IntKind.i64 0]] else bif decide (a = 6) then k (AV.ptr 1 0) [Box2.cells Tt [AV.int IntKind.i64 x, AV.int IntKind.i64 y, AV.int IntKind.i64 z], Box2.cells 62 [AV.int IntKind.i64 a, AV.int IntKind.i64 b, AV.int IntKind.i64 0, AV.int IntKind.i64 0, AV.int IntKind.i64 0, AV.int IntKind.i64 0, AV.int IntKind.i64 0, AV.int IntKind.i64 0, AV.int IntKind.i64 b, AV.int IntKind.i64 0, AV.int IntKind.i64 0, AV.int IntKind.i64 0]] else bif decide (a = 7) then k (AV.ptr 1 0) [Box2.cells Tt [AV.int IntKind.i64 x, AV.int IntKind.i64 y, AV.int IntKind.i64 z], Box2.cells 62 [AV.int IntKind.i64 a, AV.int IntKind.i64 b, AV.int IntKind.i64 0, AV.int IntKind.i64 0, AV.int IntKind.i64 0, AV.int IntKind.i64 0, AV.int IntKind.i64 0, AV.int IntKind.i64 0, AV.int IntKind.i64 0, AV.int IntKind.i64 b, AV.int IntKind.i64 0, AV.int IntKind.i64 0]] else bif decide (a = 8) then k (AV.ptr 1 0) [Box2.cells Tt [AV.int IntKind.i64 x, AV.int IntKind.i64 y, AV.int IntKind.i64 z], Box2.cells 62 [AV.int IntKind.i64 a, AV.int IntKind.i64 b, AV.int IntKind.i64 0, AV.int IntKind.i64 0, AV.int IntKind.i64 0, AV.int IntKind.i64 0, AV.int IntKind.i64 0, AV.int IntKind.i64 0, AV.int IntKind.i64 0, AV.int IntKind.i64 0, AV.int IntKind.i64 b, AV.int IntKind.i64 0]] else bif decide (a = 9) then k (AV.ptr 1 0) [Box2.cells Tt [AV.int IntKind.i64 x, AV.int IntKind.i64 y, AV.int IntKind.i64 z], Box2.cells 62 [AV.int IntKind.i64 a, AV.int IntKind.i64 b, AV.int IntKind.i64 0, AV.int IntKind.i64 0, AV.int IntKind.i64 0, AV.int IntKind.i64 0, AV.int IntKind.i64 0, AV.int IntKind.i64 0, AV.int IntKind.i64 0, AV.int IntKind.i64 0, AV.int IntKind.i64 0, AV.int IntKind.i64 b]] else none else k AV.nilp [Box2.cells Tt [AV.int IntKind.i64 x, AV.int IntKind.i64 y, AV.int IntKind.i64 z]] := by kernel_rfl
theorem new_q : QOK Try.prog env 26 newQ := by
  refine QOK.of_run envOK tok9 noInl_ok fn_new (hv := new_hv) (fun args bx r bx' h => ?_)
  unfold newQ at h
  split at h
  · rename_i a b Tt x y z
    refine ⟨_, 0, .refl _, (new_in 0 a b x y z Tt (fun r bx => some (r, bx))).trans ?_⟩
    cases ha : isB a with
    | false =>
      simp only [ha, Bool.false_and, Bool.not_false, sel, cond_true, Option.some.injEq, Prod.mk.injEq] at h
      obtain ⟨rfl, rfl⟩ := h
      rfl
    | true =>
      cases hb : mayB b with
      | false =>
        simp only [ha, hb, Bool.and_false, Bool.not_false, sel, cond_true, Option.some.injEq, Prod.mk.injEq] at h
        obtain ⟨rfl, rfl⟩ := h
        rfl
      | true =>
        simp only [ha, hb, Bool.and_true, Bool.not_true, sel, cond_true, cond_false, Option.some.injEq, Prod.mk.injEq] at h
        obtain ⟨rfl, rfl⟩ := h
        obtain ⟨i, rfl, h1, h2⟩ := isB_range ha
        match i, h1, h2 with
        | 1, _, _ => rfl
        | 2, _, _ => rfl
        | 3, _, _ => rfl
        | 4, _, _ => rfl
        | 5, _, _ => rfl
        | 6, _, _ => rfl
        | 7, _, _ => rfl
        | 8, _, _ => rfl
        | 9, _, _ => rfl
  · cases h
/-! ### The law's run -/
def T16 : FuncId → Option CSpec := tabG [(25, .pure awakeSp36), (26, .inl), (32, .bor propSp propNil), (27, .bor sawSp sawNil), (29, .bor supSp (fun _ => [])), (33, .pure rsupSp)]
theorem tok16 : TOK Try.prog env T16 := tok_tabG mixed ⟨awake36_ok, trivial, ⟨prop_bor, prop_pure⟩, ⟨saw_bor, saw_pure⟩, ⟨sup_bor, sup_nil⟩, rsup_ok, trivial⟩
noncomputable def winl {α : Type} : Inl α := inlT [(26, newQ)] noInl
theorem winl_ok {α : Type} : InlOK Try.prog env (winl : Inl α) := inlT_ok noInl_ok ⟨new_q, trivial⟩
theorem fn_pro : FnOK Try.prog 9 Try.f9 := ⟨by kernel_rfl, by kernel_rfl, by kernel_rfl⟩
def pro_hv : Keeps := fun c => (match Nat.beq c 0 with | true => some ([1, 2, 3, 7, 9], [1, 2, 3, 7]) | false => none)
def pro_S0 (a b c : Int) (seen : Pairs) (ms : List Int) (f : Nat → Int) (i : Int) : St := { fr := frOf [(1, .sl twoT seen none none), (2, .sl (.int .i64) ms none none), (3, .ptr 0 0), (7, .ptr 1 0), (9, .int .i64 i)] 108 0, bx := [.cells 47 [.int .i64 a, .int .i64 b, .int .i64 c], .cells 62 (tbl a b f)] }
noncomputable def pro_B0 : Code := codeAt (bodyOf Try.f9) [1, 1, 1, 1, 1, 0, 1, 0, 0]
noncomputable def pro_K0 {α : Type} (F : Nat) (a b c : Int) (seen : Pairs) (ms : List Int)  (k : AV → List Box2 → Option α) : Ex → St → Option α := contAt env T16 winl pro_hv F (bodyOf Try.f9) [1, 1, 1, 1, 1, 0, 1, 0] 0 (endOf env Try.f9 (fun r bx => k r []))
noncomputable def pro_L0 {α : Type} (F n : Nat) (a b c : Int) (seen : Pairs) (ms : List Int) (f : Nat → Int) (i : Int) (k : AV → List Box2 → Option α) : Option α := loopH 2 (some [1, 2, 3, 7, 9]) (some [1, 2, 3, 7]) (fun s k => runC env T16 winl pro_hv F pro_B0 0 s k) n (pro_S0 a b c seen ms f i) (pro_K0 F  a b c seen ms k)
theorem pro_in {α : Type} (F : Nat) (a b c : Int) (seen : Pairs) (ms : List Int) (k : AV → List Box2 → Option α) : runF env T16 winl pro_hv F Try.f9 [.agg [.int .i64 a, .int .i64 b, .int .i64 c], .sl twoT seen none none, .sl (.int .i64) ms none none] [] (fun r bx => k r []) =
    bif !decide ((((List.length seen) : Nat) : Int) > 60) then bif decide ((((List.length ms) : Nat) : Int) > 60) then k (AV.bool true) [] else bif !(isB a && mayB b) then k (AV.bool true) [] else bif decide (List.length ms ≤ 4611686018427387904) then bif b != 2 then bif propV b c (ten (upd (fun x ↦ 0) (Int.toNat a) b 0) (upd (fun x ↦ 0) (Int.toNat a) b 1) (upd (fun x ↦ 0) (Int.toNat a) b 2) (upd (fun x ↦ 0) (Int.toNat a) b 3) (upd (fun x ↦ 0) (Int.toNat a) b 4) (upd (fun x ↦ 0) (Int.toNat a) b 5) (upd (fun x ↦ 0) (Int.toNat a) b 6) (upd (fun x ↦ 0) (Int.toNat a) b 7) (upd (fun x ↦ 0) (Int.toNat a) b 8) (upd (fun x ↦ 0) (Int.toNat a) b 9)) ms == 8 then k (AV.bool true) [] else k (AV.bool false) [] else (pro_L0 F F a b c seen ms (upd (fun x ↦ 0) (Int.toNat a) b) 0 k) else none else k (AV.bool true) [] := by kernel_rfl
theorem pro_step0 {α : Type} (F n : Nat) (a b c : Int) (seen : Pairs) (ms : List Int) (f : Nat → Int) (i : Int) (k : AV → List Box2 → Option α) : pro_L0 F (n + 1)  a b c seen ms f i k =
    bif decide (i < (((List.length seen) : Nat) : Int)) then bif decide (0 ≤ i) && decide (i < (((List.length seen) : Nat) : Int)) then bif decide (0 ≤ i) && decide (i < (((List.length seen) : Nat) : Int)) then (pro_L0 F n a b c seen ms (sawF (norm10 f) a (rdD (Ty.pair (Ty.int IntKind.i64) (Ty.pair (Ty.int IntKind.i64) Ty.unit)) seen (Int.toNat i)).1 (Prod.snd (rdD (Ty.pair (Ty.int IntKind.i64) (Ty.pair (Ty.int IntKind.i64) Ty.unit)) seen (Int.toNat i))).1) (IntKind.wrap IntKind.i64 (Int.add i 1)) k) else none else none else bif decide (List.length seen ≤ 4611686018427387904) && decide (List.length ms ≤ 4611686018427387904) then bif decide (List.length ms ≤ 4611686018427387904) then bif decide (List.length ms ≤ 4611686018427387904) then bif !supB (norm10 f) ms == refSup a b seen ms then k (AV.bool false) [] else bif c != 0 then bif propV b c (norm10 f) ms == 12 then k (AV.bool true) [] else k (AV.bool false) [] else bif (((List.length ms) : Nat) : Int) == 0 then bif propV b c (norm10 f) ms == 16 then k (AV.bool true) [] else k (AV.bool false) [] else bif !refSup a b seen ms then bif propV b c (norm10 f) ms == 14 then k (AV.bool true) [] else k (AV.bool false) [] else bif propV b c (norm10 f) ms == 0 then k (AV.bool true) [] else k (AV.bool false) [] else none else none else none := by kernel_rfl
/-! ### The plain law -/
theorem allGe_congr {g h : Int → Int} (e : ∀ x, g x = h x) : ∀ xs, allGe g xs = allGe h xs
  | [] => rfl
  | x :: r => by simp only [allGe, e x, allGe_congr e r]
theorem pro_end {α : Type} (a c : Int) (seen : Pairs) (ms : List Int) (f : Nat → Int) (hf : ∀ of, bestV f of = refBestV a 2 of seen) (k : Bool → Option α) :
    (bif !supB (norm10 f) ms == refSup a 2 seen ms then k false else bif c != 0 then bif propV 2 c (norm10 f) ms == 12 then k true else k false else bif ((ms.length : Nat) : Int) == 0 then bif propV 2 c (norm10 f) ms == 16 then k true else k false else bif !refSup a 2 seen ms then bif propV 2 c (norm10 f) ms == 14 then k true else k false else bif propV 2 c (norm10 f) ms == 0 then k true else k false) = k true := by
  have hs : supB f ms = refSup a 2 seen ms := by
    rw [supB_all]
    unfold refSup
    rw [Bool.and_comm, allGe_congr hf]
  unfold propV
  rw [supB_norm, hs, beq_self_eq_true]
  unfold bne
  cases (c == 0) with
  | false => rfl
  | true =>
    by_cases h3 : ms.length = 0
    · rw [decide_eq_true h3, show (((ms.length : Nat) : Int) == 0) = true by simp [h3]]; rfl
    · rw [decide_eq_false h3, show (((ms.length : Nat) : Int) == 0) = false by rw [beq_eq_false_iff_ne]; omega]
      cases refSup a 2 seen ms <;> rfl
theorem pro_loop {α : Type} (F : Nat) (a c : Int) (seen : Pairs) (ms : List Int) (hb : seen.length ≤ 60) (hm : ms.length ≤ 60) (k : AV → List Box2 → Option α) : ∀ (n i : Nat) (f : Nat → Int), i + n = seen.length → (∀ of, bestV f of = (seen.take i).foldl (bestStep a of) (bif of == a then 2 else 0)) →
    pro_L0 F (n + 1) a 2 c seen ms f i k = k (.bool true) []
  | 0, i, f, h, hf => by
    have ht : seen.take i = seen := List.take_of_length_le (by omega)
    rw [pro_step0, cond_neg (by omega), decide_eq_true (show seen.length ≤ 4611686018427387904 by omega), decide_eq_true (show ms.length ≤ 4611686018427387904 by omega)]
    rw [ht] at hf
    exact pro_end a c seen ms f hf (fun b => k (.bool b) [])
  | n + 1, i, f, h, hf => by
    have hx : i < seen.length := by omega
    have hg : (decide (0 ≤ (i : Int)) && decide ((i : Int) < ((seen.length : Nat) : Int))) = true := by simp; omega
    have hw : IntKind.i64.wrap (Int.add (i : Int) 1) = ((i + 1 : Nat) : Int) := by
      show IntKind.i64.wrap ((i : Int) + 1) = _
      rw [IntWalk.i64_in _ (by omega)]; omega
    have hp : rdD (Ty.pair (Ty.int IntKind.i64) (Ty.pair (Ty.int IntKind.i64) Ty.unit)) seen (Int.toNat (i : Int)) = seen[i] := pairAt_eq hx
    rw [pro_step0, cond_pos (by omega), hg, hw, hp]
    simp only [cond_true]
    refine pro_loop F a c seen ms hb hm k n (i + 1) _ (by omega) (fun of => ?_)
    show bestV (sawF (norm10 f) a seen[i].1 seen[i].2.1) of = _
    rw [bestV_saw, bestV_norm, hf, List.take_succ_eq_append_getElem hx, List.foldl_append]
    rfl
theorem best_new {p : Nat} (h1 : 1 ≤ p) (h2 : p ≤ 9) (b of : Int) : bestV (upd (fun _ => 0) p b) of = bif of == (p : Int) then b else 0 := by
  have ha : isB (p : Int) = true := by unfold isB; simp; omega
  unfold bestV
  cases ho : isB of with
  | false =>
    have hne : (of == (p : Int)) = false := by
      rw [beq_eq_false_iff_ne]
      intro e
      rw [e, ha] at ho
      cases ho
    rw [hne]; rfl
  | true =>
    obtain ⟨q, rfl, h3, h4⟩ := isB_range ho
    simp only [cond_true, Int.toNat_natCast, upd]
    by_cases he : q = p
    · subst he
      rw [Nat.beq_refl, beq_self_eq_true]; rfl
    · have hb : Nat.beq q p = false := by
        cases hh : Nat.beq q p with
        | false => rfl
        | true => exact absurd (Nat.eq_of_beq_eq_true hh) he
      have hb2 : ((q : Int) == (p : Int)) = false := by rw [beq_eq_false_iff_ne]; omega
      rw [hb, hb2]; rfl
theorem gateProposes_run {α : Type} (a b c : Int) (seen : Pairs) (ms : List Int) (k : AV → List Box2 → Option α) :
    runF env T16 winl pro_hv (seen.length + 1) Try.f9 [.agg [.int .i64 a, .int .i64 b, .int .i64 c], .sl twoT seen none none, .sl (.int .i64) ms none none] [] (fun r bx => k r []) = k (.bool true) [] := by
  rw [pro_in]
  by_cases hs : ((seen.length : Nat) : Int) > 60
  · rw [decide_eq_true hs]; rfl
  · rw [decide_eq_false hs]
    by_cases hm : ((ms.length : Nat) : Int) > 60
    · rw [decide_eq_true hm]; rfl
    · rw [decide_eq_false hm]
      cases ha : isB a with
      | false => rfl
      | true =>
        cases hb : mayB b with
        | false => rfl
        | true =>
          rw [decide_eq_true (show ms.length ≤ 4611686018427387904 by omega)]
          simp only [Bool.not_false, Bool.not_true, Bool.and_true, cond_true, cond_false]
          by_cases h2 : b = 2
          · subst h2
            obtain ⟨p, rfl, h1, h2⟩ := isB_range ha
            rw [show ((2 : Int) != 2) = false from rfl, cond_false]
            refine pro_loop _ _ c seen ms (by omega) (by omega) k seen.length 0 _ (by omega) (fun of => ?_)
            rw [Int.toNat_natCast]
            exact best_new h1 h2 2 of
          · have hb2 : (b != 2) = true := by rw [bne, beq_eq_false_iff_ne.2 h2]; rfl
            have hp : ∀ f, propV b c f ms = 8 := fun f => by
              unfold propV
              rw [beq_eq_false_iff_ne.2 h2]; rfl
            rw [hb2, hp]; rfl
def gateProposesSp : List AV → List (Bool × AV)
  | [.agg [.int .i64 a, .int .i64 b, .int .i64 c], .sl (.pair (.int .i64) (.pair (.int .i64) .unit)) seen none none, .sl (.int .i64) ms none none] => [(true, .bool true)]
  | _ => []
theorem gateProposes_ok : PureOK Try.prog env 9 gateProposesSp := by
  refine PureOK.of_reads envOK tok16 winl_ok fn_pro (hv := pro_hv) (fun args r h => ?_)
  unfold gateProposesSp at h
  split at h
  · rename_i a b c seen ms
    cases h
    exact ⟨_, _, fun _ _ h => h, gateProposes_run a b c seen ms (fun r _ => some r)⟩
  · cases h
abbrev threeT : Ty := .pair (.int .i64) (.pair (.int .i64) (.pair (.int .i64) .unit))
theorem gateProposes_true (d : DenL ([(true, threeT), (false, Ty.sl twoT), (false, Ty.sl (Ty.int .i64))].map (·.2))) (h : WfL _ d) : sel (gateProposesSp (argsA [(true, threeT), (false, Ty.sl twoT), (false, Ty.sl (Ty.int .i64))] d)) = some (.bool true) := rfl
end Go.Proofs.Ytopbldbgnpeelaa.V
