/- frame.Next and the document's answer alike. No condition. -/
import Derived.Test.YtopbldbgnpeelaaDoorVnext2
set_option maxRecDepth 100000
set_option linter.unusedVariables false
set_option linter.unusedSimpArgs false
namespace Go.Proofs.YtopbldbgnpeelaaDoor.V
open Go Go.Proofs.AbsV
theorem gt_ok {b : List Int} (hb : isBytes b) (hx : b.length ≤ 4611686018427387904) {a : Int} (h : (gt b a).2.2 = 0) :
    ∃ an m fm : Nat, a = (an : Int) ∧ gt b a = ((m : Int), (fm : Int), 0) ∧ an < fm ∧ fm ≤ b.length ∧ m < 9223372036854775808 ∧ (b.drop an).take (fm - an) = putL 9 (m : Int) := by
  unfold gt at h ⊢
  by_cases hc : a < 0 ∨ a > ((b.length : Nat) : Int)
  · rw [if_pos hc] at h
    exact absurd h (by decide)
  · rw [if_neg hc] at h ⊢
    obtain ⟨an, rfl⟩ : ∃ n : Nat, a = (n : Int) := ⟨a.toNat, by omega⟩
    rw [Int.toNat_natCast] at h ⊢
    obtain ⟨m, fm, e1, e2, e3, e4, e5, e6⟩ := getL_enc hb hx an 9 0 0 (by omega) (by decide) (by omega) (by omega) h
    refine ⟨an, m, fm, rfl, ?_, e2, e3, by omega, e6⟩
    refine Eq.trans e1 ?_
    congr 2
    omega
theorem gt_err {b : List Int} (a : Int) (h : (gt b a).2.2 ≠ 0) : True := trivial
def nxBody (b : List Int) (a : Int) : List Int := (b.drop (gt b a).2.1.toNat).take (gt b a).1.toNat
def nxE (b : List Int) (a : Int) : Int :=
  bif (gt b a).2.2 != 0 then (gt b a).2.2
  else bif mayI (gt b a).1 != 0 then mayI (gt b a).1
  else bif decide (((b.length : Nat) : Int) - (gt b a).2.1 < (gt b a).1 + 4) then 1
  else bif !((b.drop ((gt b a).2.1.toNat + (gt b a).1.toNat)).take 4 == le4 (crcI 0 (nxBody b a))) then 4 else 0
def nxEnd (b : List Int) (a : Int) : Int := (gt b a).2.1 + (gt b a).1 + 4
def nxR (b : List Int) (a : Int) (own : Option (Nat × TypeId)) : AV := bif nxE b a != 0 then .tup [.nilsl, .int .i64 0, .int .i64 (nxE b a)] else .tup [.sl B (nxBody b a) none own, .int .i64 (nxEnd b a), .int .i64 0]
theorem next_run {α : Type} (F : Nat) (b : List Int) (a : Int) (hb : isBytes b) (hx : b.length ≤ 1000000000000) (k : AV → List Box2 → Option α) : runF env TN1 noInl next_hv F Tryd.f12 [.sl B b none none, .int .i64 a] [] (fun r bx => k r []) = k (nxR b a (some (0, 5))) [] := by
  rw [next_in, ble_yes (show b.length ≤ 4611686018427387904 by omega), cond_true]
  unfold nxR nxE
  by_cases he : (gt b a).2.2 = 0
  · obtain ⟨an, m, fm, rfl, hgt, h1, h2, h3, h4⟩ := gt_ok hb (by omega) he
    unfold nxBody nxEnd
    rw [hgt]
    simp only [bne_self_eq_false, cond_false, Int.toNat_natCast]
    cases hm : (mayI (m : Int) != 0) with
    | true => simp only [cond_true, hm]
    | false =>
      have hl := mayI_zero hm
      have w1 : IntKind.i64.wrap (Int.sub ((b.length : Nat) : Int) (fm : Int)) = ((b.length : Nat) : Int) - (fm : Int) := by
        show IntKind.i64.wrap (((b.length : Nat) : Int) - (fm : Int)) = _
        exact IntWalk.i64_in _ (by omega)
      have w2 : IntKind.i64.wrap (Int.add (m : Int) 4) = (m : Int) + 4 := by
        show IntKind.i64.wrap ((m : Int) + 4) = _
        exact IntWalk.i64_in _ (by omega)
      have w3 : IntKind.i64.wrap (Int.add (fm : Int) (m : Int)) = ((fm + m : Nat) : Int) := by
        show IntKind.i64.wrap ((fm : Int) + (m : Int)) = _
        rw [IntWalk.i64_in _ (by omega)]; omega
      have w4 : IntKind.i64.wrap (Int.add ((fm + m : Nat) : Int) 4) = ((fm + m + 4 : Nat) : Int) := by
        show IntKind.i64.wrap (((fm + m : Nat) : Int) + 4) = _
        rw [IntWalk.i64_in _ (by omega)]; omega
      rw [w1, w2, w3, w4]
      simp only [cond_false]
      by_cases hs : ((b.length : Nat) : Int) - (fm : Int) < (m : Int) + 4
      · rw [cond_pos hs, cond_pos hs]; rfl
      · rw [cond_neg hs, cond_neg hs]
        have g1 : (decide (0 ≤ (fm : Int)) && (decide ((fm : Int) ≤ ((fm + m : Nat) : Int)) && decide (((fm + m : Nat) : Int) ≤ ((b.length : Nat) : Int)))) = true := by simp; omega
        have g2 : (decide (0 ≤ ((fm + m : Nat) : Int)) && (decide (((fm + m : Nat) : Int) ≤ ((fm + m + 4 : Nat) : Int)) && decide (((fm + m + 4 : Nat) : Int) ≤ ((b.length : Nat) : Int)))) = true := by simp; omega
        have t1 : Int.toNat (Int.sub ((fm + m : Nat) : Int) (fm : Int)) = m := by
          show Int.toNat (((fm + m : Nat) : Int) - (fm : Int)) = m
          omega
        have t2 : Int.toNat (Int.sub ((fm + m + 4 : Nat) : Int) ((fm + m : Nat) : Int)) = 4 := by
          show Int.toNat (((fm + m + 4 : Nat) : Int) - ((fm + m : Nat) : Int)) = 4
          omega
        have l1 : (List.take m (List.drop fm b)).length ≤ 1000000000000 := by rw [List.length_take, List.length_drop]; omega
        have l2 : (List.take 4 (List.drop (fm + m) b)).length ≤ 1000000000000 := by rw [List.length_take, List.length_drop]; omega
        rw [g1, g2, t1, t2, cond_true, cond_true, cond_pos (show (List.take m (List.drop fm b)).length ≤ 4611686018427387904 by omega), Int.toNat_natCast, ble_yes (show (List.take 4 (List.drop (fm + m) b)).length ≤ 4611686018427387904 by omega), ble_yes (show (List.take m (List.drop fm b)).length ≤ 140737488355328 by omega), cond_true, cond_true]
        cases (List.take 4 (List.drop (fm + m) b) == le4 (crcI 0 (List.take m (List.drop fm b)))) with
        | false => rfl
        | true =>
          show k (.tup [.sl B (List.take m (List.drop fm b)) none (some (0, 5)), .int .i64 ((fm + m + 4 : Nat) : Int), .int .i64 0]) [] = k (.tup [.sl B (List.take m (List.drop fm b)) none (some (0, 5)), .int .i64 ((fm : Int) + (m : Int) + 4), .int .i64 0]) []
          rw [show ((fm + m + 4 : Nat) : Int) = (fm : Int) + (m : Int) + 4 by omega]
  · have hne : ((gt b a).2.2 != 0) = true := by rw [bne, beq_eq_false_iff_ne.2 he]; rfl
    simp only [hne, cond_true]
theorem beq_append (p x y : List Int) : (p ++ x == p ++ y) = (x == y) := by
  rw [Bool.eq_iff_iff, beq_iff_eq, beq_iff_eq, List.append_cancel_left_eq]
theorem beq_append_len {p q x y : List Int} (h : p = q) : (p ++ x == q ++ y) = (x == y) := by rw [h]; exact beq_append q x y
theorem frame_check {b : List Int} (hb : isBytes b) {an fm m : Nat} (h1 : an ≤ fm) (h2 : fm + m + 4 ≤ b.length) (h4 : (b.drop an).take (fm - an) = putL 9 (m : Int)) :
    (refFrame ((b.drop fm).take m) == (b.drop an).take (fm + m + 4 - an)) = ((b.drop (fm + m)).take 4 == le4 (crcI 0 ((b.drop fm).take m))) := by
  have hbody : isBytes ((b.drop fm).take m) := fun c hc => hb c (List.mem_of_mem_drop (List.mem_of_mem_take hc))
  have hlen : ((b.drop fm).take m).length = m := by rw [List.length_take, List.length_drop]; omega
  have e : (b.drop an).take (fm + m + 4 - an) = putL 9 (m : Int) ++ ((b.drop fm).take m ++ (b.drop (fm + m)).take 4) := by
    rw [show fm + m + 4 - an = (fm - an) + (m + 4) by omega, List.take_add, h4, List.drop_drop, show an + (fm - an) = fm by omega, List.take_add, List.drop_drop]
  rw [refFrame_eq hbody, e]
  unfold frameOf
  rw [hlen, beq_append, beq_append]
  rw [Bool.eq_iff_iff, beq_iff_eq, beq_iff_eq]
  exact ⟨fun h => h.symm, fun h => h.symm⟩
def TR1 : FuncId → Option CSpec := tab [(27, rgetSp), (11, rfrSp), (10, sameNSp)]
theorem tokR1 : TOK Tryd.prog env TR1 := tok_tab mixed ⟨rget_ok, rfr_ok, sameN_ok, trivial⟩
theorem fn_rnext : FnOK Tryd.prog 13 Tryd.f13 := ⟨by kernel_rfl, by kernel_rfl, by kernel_rfl⟩
def rnext_hv : Keeps := fun _ => none
theorem rnext_in {α : Type} (F : Nat) (b : List Int) (a : Int) (k : AV → List Box2 → Option α) : runF env TR1 noInl rnext_hv F Tryd.f13 [.sl B b none none, .int .i64 a] [] (fun r bx => k r []) =
    bif isBytesB b && Nat.ble (List.length b) 4611686018427387904 then bif (gt b a).2.2 != 0 then k (AV.tup [AV.nilsl, AV.int IntKind.i64 0, AV.int IntKind.i64 (gt b a).2.2]) [] else bif (gt b a).1 == 0 then k (AV.tup [AV.nilsl, AV.int IntKind.i64 0, AV.int IntKind.i64 3]) [] else bif decide ((gt b a).1 > 65536) then k (AV.tup [AV.nilsl, AV.int IntKind.i64 0, AV.int IntKind.i64 2]) [] else bif decide (IntKind.wrap IntKind.i64 (Int.add (IntKind.wrap IntKind.i64 (Int.add (gt b a).2.1 (gt b a).1)) 4) > (((List.length b) : Nat) : Int)) then k (AV.tup [AV.nilsl, AV.int IntKind.i64 0, AV.int IntKind.i64 1]) [] else bif decide (0 ≤ (gt b a).2.1) && (decide ((gt b a).2.1 ≤ IntKind.wrap IntKind.i64 (Int.add (gt b a).2.1 (gt b a).1)) && decide (IntKind.wrap IntKind.i64 (Int.add (gt b a).2.1 (gt b a).1) ≤ (((List.length b) : Nat) : Int))) then bif Nat.ble (List.length (List.take (Int.toNat (Int.sub (IntKind.wrap IntKind.i64 (Int.add (gt b a).2.1 (gt b a).1)) (gt b a).2.1)) (List.drop (Int.toNat (gt b a).2.1) b))) 1000000000000 then bif decide (0 ≤ a) && (decide (a ≤ IntKind.wrap IntKind.i64 (Int.add (IntKind.wrap IntKind.i64 (Int.add (gt b a).2.1 (gt b a).1)) 4)) && decide (IntKind.wrap IntKind.i64 (Int.add (IntKind.wrap IntKind.i64 (Int.add (gt b a).2.1 (gt b a).1)) 4) ≤ (((List.length b) : Nat) : Int))) then bif Nat.ble (List.length (refFrame (List.take (Int.toNat (Int.sub (IntKind.wrap IntKind.i64 (Int.add (gt b a).2.1 (gt b a).1)) (gt b a).2.1)) (List.drop (Int.toNat (gt b a).2.1) b)))) 4611686018427387904 then bif !refFrame (List.take (Int.toNat (Int.sub (IntKind.wrap IntKind.i64 (Int.add (gt b a).2.1 (gt b a).1)) (gt b a).2.1)) (List.drop (Int.toNat (gt b a).2.1) b)) == List.take (Int.toNat (Int.sub (IntKind.wrap IntKind.i64 (Int.add (IntKind.wrap IntKind.i64 (Int.add (gt b a).2.1 (gt b a).1)) 4)) a)) (List.drop (Int.toNat a) b) then k (AV.tup [AV.nilsl, AV.int IntKind.i64 0, AV.int IntKind.i64 4]) [] else bif decide (0 ≤ (gt b a).2.1) && (decide ((gt b a).2.1 ≤ IntKind.wrap IntKind.i64 (Int.add (gt b a).2.1 (gt b a).1)) && decide (IntKind.wrap IntKind.i64 (Int.add (gt b a).2.1 (gt b a).1) ≤ (((List.length b) : Nat) : Int))) then k (AV.tup [AV.sl (Ty.int IntKind.u8) (List.take (Int.toNat (Int.sub (IntKind.wrap IntKind.i64 (Int.add (gt b a).2.1 (gt b a).1)) (gt b a).2.1)) (List.drop (Int.toNat (gt b a).2.1) b)) none none, AV.int IntKind.i64 (IntKind.wrap IntKind.i64 (Int.add (IntKind.wrap IntKind.i64 (Int.add (gt b a).2.1 (gt b a).1)) 4)), AV.int IntKind.i64 0]) [] else none else none else none else none else none else none := by kernel_rfl
theorem mayI_of {m : Nat} : mayI (m : Int) = bif ((m : Int) == 0) then 3 else bif decide ((m : Int) > 65536) then 2 else 0 := by
  unfold mayI
  by_cases h : m = 0
  · subst h; rfl
  · rw [cond_neg (by omega), show ((m : Int) == 0) = false by rw [beq_eq_false_iff_ne]; omega]
    rfl
theorem rnext_run {α : Type} (F : Nat) (b : List Int) (a : Int) (hb : isBytes b) (hx : b.length ≤ 1000000000000) (k : AV → List Box2 → Option α) : runF env TR1 noInl rnext_hv F Tryd.f13 [.sl B b none none, .int .i64 a] [] (fun r bx => k r []) = k (nxR b a none) [] := by
  have hbb : isBytesB b = true := List.all_eq_true.2 (fun c hc => by have := hb c hc; simpa using this)
  rw [rnext_in, hbb, ble_yes (show b.length ≤ 4611686018427387904 by omega), Bool.and_self, cond_true]
  unfold nxR nxE
  by_cases he : (gt b a).2.2 = 0
  · obtain ⟨an, m, fm, rfl, hgt, h1, h2, h3, h4⟩ := gt_ok hb (by omega) he
    unfold nxBody nxEnd
    rw [hgt]
    simp only [bne_self_eq_false, cond_false, Int.toNat_natCast]
    rw [mayI_of]
    by_cases hm0 : m = 0
    · subst hm0; rfl
    · rw [show ((m : Int) == 0) = false by rw [beq_eq_false_iff_ne]; omega]
      by_cases hm1 : (m : Int) > 65536
      · rw [decide_eq_true hm1]; rfl
      · rw [decide_eq_false hm1]
        have w3 : IntKind.i64.wrap (Int.add (fm : Int) (m : Int)) = ((fm + m : Nat) : Int) := by
          show IntKind.i64.wrap ((fm : Int) + (m : Int)) = _
          rw [IntWalk.i64_in _ (by omega)]; omega
        have w4 : IntKind.i64.wrap (Int.add ((fm + m : Nat) : Int) 4) = ((fm + m + 4 : Nat) : Int) := by
          show IntKind.i64.wrap (((fm + m : Nat) : Int) + 4) = _
          rw [IntWalk.i64_in _ (by omega)]; omega
        rw [w3, w4]
        simp only [cond_false, bne_self_eq_false]
        by_cases hs : ((b.length : Nat) : Int) - (fm : Int) < (m : Int) + 4
        · rw [cond_pos hs, cond_pos (by omega)]; rfl
        · have g1 : (decide (0 ≤ (fm : Int)) && (decide ((fm : Int) ≤ ((fm + m : Nat) : Int)) && decide (((fm + m : Nat) : Int) ≤ ((b.length : Nat) : Int)))) = true := by simp; omega
          have g2 : (decide (0 ≤ (an : Int)) && (decide ((an : Int) ≤ ((fm + m + 4 : Nat) : Int)) && decide (((fm + m + 4 : Nat) : Int) ≤ ((b.length : Nat) : Int)))) = true := by simp; omega
          have t1 : Int.toNat (Int.sub ((fm + m : Nat) : Int) (fm : Int)) = m := by
            show Int.toNat (((fm + m : Nat) : Int) - (fm : Int)) = m
            omega
          have t2 : Int.toNat (Int.sub ((fm + m + 4 : Nat) : Int) (an : Int)) = fm + m + 4 - an := by
            show Int.toNat (((fm + m + 4 : Nat) : Int) - (an : Int)) = _
            omega
          have l1 : (List.take m (List.drop fm b)).length = m := by rw [List.length_take, List.length_drop]; omega
          have hbody : isBytes (List.take m (List.drop fm b)) := fun c hc => hb c (List.mem_of_mem_drop (List.mem_of_mem_take hc))
          have hp := putL_length 9 (m : Int)
          have l3 : (refFrame (List.take m (List.drop fm b))).length ≤ 4611686018427387904 := by
            rw [refFrame_eq hbody]
            unfold frameOf
            rw [List.length_append, List.length_append, l1]
            have : (le4 (crcI 0 (List.take m (List.drop fm b)))).length = 4 := rfl
            omega
          rw [cond_neg hs, cond_neg (by omega), g1, cond_true, t1, ble_yes (show (List.take m (List.drop fm b)).length ≤ 1000000000000 by omega), cond_true, g2, cond_true, t2, ble_yes l3, cond_true, frame_check hb (by omega) (by omega) h4]
          cases (List.take 4 (List.drop (fm + m) b) == le4 (crcI 0 (List.take m (List.drop fm b)))) with
          | false => rfl
          | true =>
            show k (.tup [.sl B (List.take m (List.drop fm b)) none none, .int .i64 ((fm + m + 4 : Nat) : Int), .int .i64 0]) [] = k (.tup [.sl B (List.take m (List.drop fm b)) none none, .int .i64 ((fm : Int) + (m : Int) + 4), .int .i64 0]) []
            rw [show ((fm + m + 4 : Nat) : Int) = (fm : Int) + (m : Int) + 4 by omega]
  · have hne : ((gt b a).2.2 != 0) = true := by rw [bne, beq_eq_false_iff_ne.2 he]; rfl
    simp only [hne, cond_true]
end Go.Proofs.YtopbldbgnpeelaaDoor.V
