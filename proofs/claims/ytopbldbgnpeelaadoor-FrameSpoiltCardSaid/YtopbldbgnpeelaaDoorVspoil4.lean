/- FrameSpoilt up to its loop, and where it looks at nothing. No condition. -/
import Derived.Test.YtopbldbgnpeelaaDoorVpre
import Derived.Test.YtopbldbgnpeelaaDoorWaw03
import Derived.Test.YtopbldbgnpeelaaDoorVnext4
set_option maxRecDepth 100000
set_option linter.unusedVariables false
set_option linter.unusedSimpArgs false
namespace Go.Proofs.YtopbldbgnpeelaaDoor.V
open Go Go.Proofs.AbsV
def TPa : FuncId → Option CSpec := tab [(7, awakeSp03)]
theorem tokPa : TOK Tryd.prog env TPa := tok_tab mixed ⟨awake03_ok, trivial⟩
theorem fn_wspA : FnOK Tryd.prog 4 Tryd.f4 := ⟨by kernel_rfl, by kernel_rfl, by kernel_rfl⟩
def wspA_hv : Keeps := fun c => (match Nat.beq c 0 with | true => some ([1, 5, 7, 9, 10], [7]) | false => none)
def wspA_S0 (w : List Int) (a x0 x1 x2 x3 : Int) (b : List Int) (head : Int) (i : Int) : St := { fr := frOf [(1, .int .i64 a), (5, .ptr 0 0), (7, .sl B b none none), (9, .int .i64 head), (10, .int .i64 i)] 108 0, bx := [.cells 30 [.int .u8 x0, .int .u8 x1, .int .u8 x2, .int .u8 x3]] }
noncomputable def wspA_B0 : Code := codeAt (bodyOf Tryd.f4) [1, 1, 1, 1, 1, 0, 1, 0, 0]
noncomputable def wspA_K0 {α : Type} (F : Nat) (w : List Int) (a x0 x1 x2 x3 : Int)  (k : AV → List Box2 → Option α) : Ex → St → Option α := contAt env TPa noInl wspA_hv F (bodyOf Tryd.f4) [1, 1, 1, 1, 1, 0, 1, 0] 0 (endOf env Tryd.f4 (fun r bx => k r []))
noncomputable def wspA_L0 {α : Type} (F n : Nat) (w : List Int) (a x0 x1 x2 x3 : Int) (b : List Int) (head : Int) (i : Int) (k : AV → List Box2 → Option α) : Option α := loopH 1 (some [1, 5, 7, 9, 10]) (some [7]) (fun s k => runC env TPa noInl wspA_hv F wspA_B0 0 s k) n (wspA_S0 w a x0 x1 x2 x3 b head i) (wspA_K0 F  w a x0 x1 x2 x3 k)
theorem wspA_in {α : Type} (F : Nat) (w : List Int) (a x0 x1 x2 x3 : Int) (k : AV → List Box2 → Option α) : runF env TPa noInl wspA_hv F Tryd.f4 [.sl B w none none, .int .i64 a, .agg [.int .u8 x0, .int .u8 x1, .int .u8 x2, .int .u8 x3]] [] (fun r bx => k r []) =
    bif !(((List.length w) : Nat) : Int) == 0 then bif !decide ((((List.length w) : Nat) : Int) > 300) then bif !decide (a < 0) then bif !decide (a ≥ (((List.length w) : Nat) : Int)) then bif !decide (IntKind.wrap IntKind.i64 (Int.add a 4) > (((List.length w) : Nat) : Int)) then bif x0 == 0 && (x1 == 0 && (x2 == 0 && (x3 == 0 && true))) then k (AV.bool true) [] else none else k (AV.bool true) [] else k (AV.bool true) [] else k (AV.bool true) [] else k (AV.bool true) [] else k (AV.bool true) [] := by kernel_rfl
theorem wspA_step0 {α : Type} (F n : Nat) (w : List Int) (a x0 x1 x2 x3 : Int) (b : List Int) (head : Int) (i : Int) (k : AV → List Box2 → Option α) : wspA_L0 F (n + 1)  w a x0 x1 x2 x3 b head i k =
    bif decide (i < IntKind.wrap IntKind.i64 (Int.add (IntKind.wrap IntKind.i64 (Int.add head a)) 4)) then bif decide (0 ≤ i) && decide (i < (((List.length b) : Nat) : Int)) then bif decide (IntKind.wrap IntKind.i64 (Int.sub (IntKind.wrap IntKind.i64 (Int.sub i head)) a) = 0) then bif decide (0 ≤ i) && decide (i < (((List.length b) : Nat) : Int)) then none else none else bif decide (IntKind.wrap IntKind.i64 (Int.sub (IntKind.wrap IntKind.i64 (Int.sub i head)) a) = 1) then bif decide (0 ≤ i) && decide (i < (((List.length b) : Nat) : Int)) then none else none else bif decide (IntKind.wrap IntKind.i64 (Int.sub (IntKind.wrap IntKind.i64 (Int.sub i head)) a) = 2) then bif decide (0 ≤ i) && decide (i < (((List.length b) : Nat) : Int)) then none else none else bif decide (IntKind.wrap IntKind.i64 (Int.sub (IntKind.wrap IntKind.i64 (Int.sub i head)) a) = 3) then bif decide (0 ≤ i) && decide (i < (((List.length b) : Nat) : Int)) then none else none else none else none else none := by kernel_rfl
def TPq : FuncId → Option CSpec := tab [(8, faddSp)]
theorem tokPq : TOK Tryd.prog env TPq := tok_tab mixed ⟨fadd_ok, trivial⟩
def prS (s : St) : AV × AV × AV × AV × AV × Nat × List Box2 := (s.fr.getD 1 .any, s.fr.getD 5 .any, s.fr.getD 7 .any, s.fr.getD 9 .any, s.fr.getD 10 .any, s.fr.length, s.bx)
def s0q (w : List Int) (a x0 x1 x2 x3 : Int) : St := ⟨[.sl B w none none, .int .i64 a, .agg [.int .u8 x0, .int .u8 x1, .int .u8 x2, .int .u8 x3]] ++ List.replicate 105 undefA, []⟩
abbrev xBox (x0 x1 x2 x3 : Int) : List Box2 := [.cells 30 [.int .u8 x0, .int .u8 x1, .int .u8 x2, .int .u8 x3]]
theorem pre_in (w : List Int) (a x0 x1 x2 x3 : Int) : preC env TPq noInl (fun _ => none) 0 (bodyOf Tryd.f4) [1,1,1,1,1,0,1] 0 (s0q w a x0 x1 x2 x3) (fun s => some (prS s)) =
    bif !(((w.length : Nat) : Int) == 0) then bif !decide (((w.length : Nat) : Int) > 300) then bif !decide (a < 0) then bif !decide (a ≥ ((w.length : Nat) : Int)) then bif !decide (IntKind.i64.wrap (Int.add a 4) > ((w.length : Nat) : Int)) then
      bif x0 == 0 && (x1 == 0 && (x2 == 0 && (x3 == 0 && true))) then none
      else bif mayI ((w.length : Nat) : Int) != 0 then
        bif !(mayI ((w.length : Nat) : Int) != 0) then
          bif !decide (IntKind.i64.wrap (Int.sub (IntKind.i64.wrap (Int.sub 0 ((w.length : Nat) : Int))) 4) < 1) then
            bif decide (IntKind.i64.wrap (Int.add (IntKind.i64.wrap (Int.add (IntKind.i64.wrap (Int.sub (IntKind.i64.wrap (Int.sub 0 ((w.length : Nat) : Int))) 4)) a)) 4) > 0) then none
            else some (.int .i64 a, .ptr 0 0, .nilsl, .int .i64 (IntKind.i64.wrap (Int.sub (IntKind.i64.wrap (Int.sub 0 ((w.length : Nat) : Int))) 4)), .int .i64 (IntKind.i64.wrap (Int.add (IntKind.i64.wrap (Int.sub (IntKind.i64.wrap (Int.sub 0 ((w.length : Nat) : Int))) 4)) a)), 108, xBox x0 x1 x2 x3)
          else none
        else none
      else
        bif !decide (IntKind.i64.wrap (Int.sub (IntKind.i64.wrap (Int.sub (((frameOf w).length : Nat) : Int) ((w.length : Nat) : Int))) 4) < 1) then
          bif decide (IntKind.i64.wrap (Int.add (IntKind.i64.wrap (Int.add (IntKind.i64.wrap (Int.sub (IntKind.i64.wrap (Int.sub (((frameOf w).length : Nat) : Int) ((w.length : Nat) : Int))) 4)) a)) 4) > (((frameOf w).length : Nat) : Int)) then none
          else some (.int .i64 a, .ptr 0 0, .sl B (frameOf w) none (some (3, 5)), .int .i64 (IntKind.i64.wrap (Int.sub (IntKind.i64.wrap (Int.sub (((frameOf w).length : Nat) : Int) ((w.length : Nat) : Int))) 4)), .int .i64 (IntKind.i64.wrap (Int.add (IntKind.i64.wrap (Int.sub (IntKind.i64.wrap (Int.sub (((frameOf w).length : Nat) : Int) ((w.length : Nat) : Int))) 4)) a)), 108, xBox x0 x1 x2 x3)
        else none
    else none else none else none else none else none := by kernel_rfl
/-- The inputs that the law looks at. -/
structure SpIn (w : List Int) (a : Nat) (x0 x1 x2 x3 : Int) : Prop where
  l1 : 1 ≤ w.length
  l2 : w.length ≤ 300
  al : a + 4 ≤ w.length
  nz : ¬ (x0 = 0 ∧ x1 = 0 ∧ x2 = 0 ∧ x3 = 0)
def hdL (w : List Int) : Nat := (putL 9 ((w.length : Nat) : Int)).length
theorem frame_len (w : List Int) : (frameOf w).length = hdL w + w.length + 4 := by
  unfold frameOf hdL
  simp only [List.length_append]
  show _ + (w.length + 4) = _
  omega
theorem hdL_pos (w : List Int) : 1 ≤ hdL w := by
  unfold hdL
  unfold putL
  split <;> simp
theorem hdL_le (w : List Int) : hdL w ≤ 10 := putL_length 9 _
theorem pre_run (w : List Int) (a : Nat) (x0 x1 x2 x3 : Int) (h : SpIn w a x0 x1 x2 x3) : preC env TPq noInl (fun _ => none) 0 (bodyOf Tryd.f4) [1,1,1,1,1,0,1] 0 (s0q w (a : Int) x0 x1 x2 x3) (fun s => some (prS s)) =
    some (.int .i64 (a : Int), .ptr 0 0, .sl B (frameOf w) none (some (3, 5)), .int .i64 ((hdL w : Nat) : Int), .int .i64 ((hdL w + a : Nat) : Int), 108, xBox x0 x1 x2 x3) := by
  have h1 := h.l1
  have h2 := h.l2
  have h3 := h.al
  have hp := hdL_pos w
  have hq := hdL_le w
  rw [pre_in, frame_len]
  have c1 : (((w.length : Nat) : Int) == 0) = false := by rw [beq_eq_false_iff_ne]; omega
  have w1 : IntKind.i64.wrap (Int.add (a : Int) 4) = ((a + 4 : Nat) : Int) := by
    show IntKind.i64.wrap ((a : Int) + 4) = _
    rw [IntWalk.i64_in _ (by omega)]; omega
  have w2 : IntKind.i64.wrap (Int.sub ((hdL w + w.length + 4 : Nat) : Int) ((w.length : Nat) : Int)) = ((hdL w + 4 : Nat) : Int) := by
    show IntKind.i64.wrap (((hdL w + w.length + 4 : Nat) : Int) - ((w.length : Nat) : Int)) = _
    rw [IntWalk.i64_in _ (by omega)]; omega
  have w3 : IntKind.i64.wrap (Int.sub ((hdL w + 4 : Nat) : Int) 4) = ((hdL w : Nat) : Int) := by
    show IntKind.i64.wrap (((hdL w + 4 : Nat) : Int) - 4) = _
    rw [IntWalk.i64_in _ (by omega)]; omega
  have w4 : IntKind.i64.wrap (Int.add ((hdL w : Nat) : Int) (a : Int)) = ((hdL w + a : Nat) : Int) := by
    show IntKind.i64.wrap (((hdL w : Nat) : Int) + (a : Int)) = _
    rw [IntWalk.i64_in _ (by omega)]; omega
  have w5 : IntKind.i64.wrap (Int.add ((hdL w + a : Nat) : Int) 4) = ((hdL w + a + 4 : Nat) : Int) := by
    show IntKind.i64.wrap (((hdL w + a : Nat) : Int) + 4) = _
    rw [IntWalk.i64_in _ (by omega)]; omega
  have c2 : (x0 == 0 && (x1 == 0 && (x2 == 0 && (x3 == 0 && true)))) = false := by
    rw [Bool.eq_false_iff]
    intro e
    simp only [Bool.and_eq_true, beq_iff_eq, and_true] at e
    exact h.nz e
  have c3 : (mayI ((w.length : Nat) : Int) != 0) = false := by
    unfold mayI
    rw [cond_neg (by omega), cond_neg (by omega)]
    rfl
  rw [c1, w1, w2, w3, w4, w5, c2, c3, decide_eq_false (show ¬ ((w.length : Nat) : Int) > 300 by omega), decide_eq_false (show ¬ (a : Int) < 0 by omega), decide_eq_false (show ¬ (a : Int) ≥ ((w.length : Nat) : Int) by omega),
    decide_eq_false (show ¬ ((a + 4 : Nat) : Int) > ((w.length : Nat) : Int) by omega), decide_eq_false (show ¬ ((hdL w : Nat) : Int) < 1 by omega), decide_eq_false (show ¬ ((hdL w + a + 4 : Nat) : Int) > ((hdL w + w.length + 4 : Nat) : Int) by omega)]
  rfl
end Go.Proofs.YtopbldbgnpeelaaDoor.V
