/- The law GateSees as a plain law. No condition. -/
import Derived.Test.YtopbldbgnpeelaaVseen
set_option maxRecDepth 100000
set_option linter.unusedVariables false
set_option linter.unusedSimpArgs false
namespace Go.Proofs.Ytopbldbgnpeelaa.V
open Go Go.Proofs.AbsV
theorem fnGateSees : FnOK Try.prog 8 Try.f8 := ⟨by kernel_rfl, by kernel_rfl, by kernel_rfl⟩
def T11 : FuncId → Option CSpec := tabG [(25, .pure awakeSp36), (26, .inl), (38, .pure isSp), (16, .pure maySp), (27, .bor sawSp sawNil), (28, .bor bestSp bestNil),
  (29, .inl), (39, .inl), (40, .inl), (42, .inl), (30, .pure countsSp), (31, .pure refBestSp)]
theorem tok11 : TOK Try.prog env T11 := tok_tabG mixed ⟨awake36_ok, trivial, is_ok, may_ok, ⟨saw_bor, saw_pure⟩, ⟨best_bor, best_pure⟩, trivial, trivial, trivial, trivial, counts_ok, refBest_ok, trivial⟩
noncomputable def sinl : Inl AV := inlD env T11 (fnsOf gfns) (fun _ => allKept) 12 6
theorem sinl_ok : InlOK Try.prog env sinl := inlD_ok envOK tok11 (fnsOf_ok gfns_ok) 6
def sKeep : Keeps := fun c => match Nat.beq c 0 with
  | true => some ([1,2,3,7,8], [1,2,3,6,7])
  | false => none
def seesS (a ver of : Int) (xs : Pairs) (f : Nat → Int) (i : Int) : St := { fr := frOf [(1, .sl twoT xs none none), (2, .int .i64 of), (3, .ptr 0 0), (7, .ptr 1 0), (8, .int .i64 i)] 117 0, bx := [.cells 38 [.int .i64 a, .int .i64 ver], .cells 62 (tbl a ver f)] }
noncomputable def seesBody : Code := codeAt (bodyOf Try.f8) [1,1,1,1,0,1,0,0]
noncomputable def seesLoop (F n : Nat) (s : St) (k : Ex → St → Option AV) : Option AV := loopH 2 (some [1,2,3,7,8]) (some [1,2,3,6,7]) (fun s k => runC env T11 sinl sKeep F seesBody 0 s k) n s k
noncomputable def seesK (F : Nat) (k : AV → List Box2 → Option AV) : Ex → St → Option AV := contAt env T11 sinl sKeep F (bodyOf Try.f8) [1,1,1,1,0,1,0] 0 (endOf env Try.f8 k)
def norm10 (f : Nat → Int) : Nat → Int := ten (f 0) (f 1) (f 2) (f 3) (f 4) (f 5) (f 6) (f 7) (f 8) (f 9)
theorem sees_step (a ver of i : Int) (xs : Pairs) (f : Nat → Int) (F n : Nat) (k : AV → Option AV) : seesLoop F (n + 1) (seesS a ver of xs f i) (seesK F (fun r bx => k r)) =
    bif decide (i < (xs.length : Int)) then
      bif inR xs i then bif inR xs i then bif inR xs i then bif inR xs i then
        bif !(!(sawB a (pairAt xs i).1 (pairAt xs i).2.1 == cntB a (pairAt xs i).1 (pairAt xs i).2.1)) then
          bif inR xs i then
            bif decide (bestV (norm10 (sawF (norm10 f) a (pairAt xs i).1 (pairAt xs i).2.1)) (pairAt xs i).1 < bestV (norm10 f) (pairAt xs i).1) then k (.bool false)
            else seesLoop F n (seesS a ver of xs (sawF (norm10 f) a (pairAt xs i).1 (pairAt xs i).2.1) (IntKind.i64.wrap (i.add 1))) (seesK F (fun r bx => k r))
          else none
        else k (.bool false)
      else none else none else none else none
    else bif decide (xs.length ≤ 4611686018427387904) then
      bif bestV (norm10 f) of == refBestV a ver of xs then k (.bool true) else k (.bool false)
    else none := by kernel_rfl
/-! ### The plain law -/
theorem norm10_at {f : Nat → Int} {i : Nat} (h : i ≤ 9) : norm10 f i = f i := by
  unfold norm10
  match i, h with
  | 0, _ => rfl
  | 1, _ => rfl
  | 2, _ => rfl
  | 3, _ => rfl
  | 4, _ => rfl
  | 5, _ => rfl
  | 6, _ => rfl
  | 7, _ => rfl
  | 8, _ => rfl
  | 9, _ => rfl
theorem bestV_norm (f : Nat → Int) (j : Int) : bestV (norm10 f) j = bestV f j := by
  unfold bestV
  cases hj : isB j with
  | false => rfl
  | true =>
    obtain ⟨i, rfl, h1, h2⟩ := isB_range hj
    simp only [cond_true, Int.toNat_natCast, norm10_at h2]
theorem bestV_saw (f : Nat → Int) (a of : Int) (p : Int × (Int × Unit)) : bestV (sawF f a p.1 p.2.1) of = bestStep a of (bestV f of) p := by
  unfold bestV sawF bestStep
  have hsc : sawB a p.1 p.2.1 = cntB a p.1 p.2.1 := rfl
  rw [hsc]
  cases hc : cntB a p.1 p.2.1 with
  | false => simp
  | true =>
    have hp : isB p.1 = true := by
      unfold cntB at hc
      simp at hc
      exact hc.1
    obtain ⟨i, hi, h1, h2⟩ := isB_range hp
    rw [hi]
    cases ho : isB of with
    | false =>
      have hne : ((i : Int) == of) = false := by
        rw [beq_eq_false_iff_ne]
        intro e
        rw [← e, ← hi, hp] at ho
        cases ho
      simp [hne]
    | true =>
      obtain ⟨q, rfl, h3, h4⟩ := isB_range ho
      simp only [cond_true, Int.toNat_natCast, Bool.true_and, upd]
      by_cases he : i = q
      · subst he
        have : Nat.beq i i = true := Nat.beq_refl i
        rw [this]
        simp only [beq_self_eq_true, Bool.true_and]
        by_cases hg : p.2.1 > f i
        · rw [if_pos hg, decide_eq_true hg]; rfl
        · rw [if_neg hg, decide_eq_false hg]; rfl
      · have hb : Nat.beq q i = false := by
          cases hh : Nat.beq q i with
          | false => rfl
          | true => exact absurd (Nat.eq_of_beq_eq_true hh).symm he
        have hb2 : ((i : Int) == (q : Int)) = false := by rw [beq_eq_false_iff_ne]; omega
        rw [hb, hb2]; rfl
theorem bestStep_ge (a of m : Int) (p : Int × (Int × Unit)) : m ≤ bestStep a of m p := by
  unfold bestStep
  cases cntB a p.1 p.2.1 with
  | false => simp
  | true =>
    cases (p.1 == of) with
    | false => simp
    | true =>
      by_cases h : p.2.1 > m
      · rw [decide_eq_true h]
        show m ≤ p.2.1
        omega
      · rw [decide_eq_false h]
        show m ≤ m
        omega
theorem sees_loop (F : Nat) (a ver of : Int) (xs : Pairs) (hb : xs.length ≤ 60) (k : AV → Option AV) : ∀ (n i : Nat) (f : Nat → Int), i + n = xs.length → bestV f of = (xs.take i).foldl (bestStep a of) (bif of == a then ver else 0) →
    seesLoop F (n + 1) (seesS a ver of xs f i) (seesK F (fun r bx => k r)) = k (.bool true)
  | 0, i, f, h, hf => by
    have ht : xs.take i = xs := List.take_of_length_le (by omega)
    rw [ht] at hf
    rw [sees_step, cond_neg (by omega), cond_pos (by omega), bestV_norm, hf]
    unfold refBestV
    rw [beq_self_eq_true, cond_true]
  | n + 1, i, f, h, hf => by
    have hx : i < xs.length := by omega
    have hg : inR xs (i : Int) = true := by unfold inR; simp; omega
    have hw : IntKind.i64.wrap (Int.add (i : Int) 1) = ((i + 1 : Nat) : Int) := by
      show IntKind.i64.wrap ((i : Int) + 1) = _
      rw [IntWalk.i64_in _ (by omega)]; omega
    have hsc : sawB a xs[i].1 xs[i].2.1 = cntB a xs[i].1 xs[i].2.1 := rfl
    have hge := bestStep_ge a xs[i].1 (bestV (norm10 f) xs[i].1) xs[i]
    rw [sees_step, cond_pos (by omega), hg, hw, pairAt_eq hx, hsc, beq_self_eq_true]
    simp only [Bool.not_true, Bool.not_false, cond_true]
    rw [cond_neg (by rw [bestV_norm, bestV_saw]; omega)]
    refine sees_loop F a ver of xs hb k n (i + 1) _ (by omega) ?_
    rw [bestV_saw, bestV_norm, hf, List.take_succ_eq_append_getElem hx, List.foldl_append]
    rfl
noncomputable def seesNil (F : Nat) (a ver of : Int) (xs : Pairs) (k : AV → Option AV) : Option AV :=
  bif !decide (a < 1) then bif !decide (a > 9) then bif !decide (ver < 1) then bif decide (ver > 2) then k (.bool true)
    else loopH 1 (some [1,2,3,7,8]) (some [1,2,3,6,7]) (fun s k => runC env T11 sinl sKeep F seesBody 0 s k) F { fr := frOf [(1, .sl twoT xs none none), (2, .int .i64 of), (3, .ptr 0 0), (7, .nilp), (8, .int .i64 0)] 117 0, bx := [.cells 38 [.int .i64 a, .int .i64 ver]] } (seesK F (fun r bx => k r))
  else k (.bool true) else k (.bool true) else k (.bool true)
theorem sees_in (a ver of : Int) (xs : Pairs) (F : Nat) (k : AV → Option AV) : runF env T11 sinl sKeep F Try.f8 [.agg [.int .i64 a, .int .i64 ver], .sl twoT xs none none, .int .i64 of] [] (fun r bx => k r) =
    bif decide ((xs.length : Int) > 60) then k (.bool true)
    else bif !(!isB a) then
      bif !mayB ver then seesNil F a ver of xs k
      else ixC a (fun p => bif !decide (a < 1) then bif !decide (a > 9) then bif !decide (ver < 1) then bif decide (ver > 2) then k (.bool false)
          else seesLoop F F (seesS a ver of xs (upd (fun _ => 0) p ver) 0) (seesK F (fun r bx => k r))
        else k (.bool false) else k (.bool false) else k (.bool false)) 10 0
    else seesNil F a ver of xs k := by kernel_rfl
theorem seesNil_eq (F : Nat) (a ver of : Int) (xs : Pairs) (k : AV → Option AV) (h : a < 1 ∨ a > 9 ∨ ver < 1 ∨ ver > 2) : seesNil F a ver of xs k = k (.bool true) := by
  unfold seesNil
  by_cases h1 : a < 1
  · rw [decide_eq_true h1]; rfl
  · rw [decide_eq_false h1]
    by_cases h2 : a > 9
    · rw [decide_eq_true h2]; rfl
    · rw [decide_eq_false h2]
      by_cases h3 : ver < 1
      · rw [decide_eq_true h3]; rfl
      · rw [decide_eq_false h3]
        have h4 : ver > 2 := by omega
        rw [decide_eq_true h4]; rfl
theorem gateSees_run (a ver of : Int) (xs : Pairs) (k : AV → Option AV) : runF env T11 sinl sKeep (xs.length + 1) Try.f8 [.agg [.int .i64 a, .int .i64 ver], .sl twoT xs none none, .int .i64 of] [] (fun r bx => k r) = k (.bool true) := by
  rw [sees_in]
  by_cases hl : (xs.length : Int) > 60
  · rw [cond_pos hl]
  · rw [cond_neg hl]
    cases ha : isB a with
    | false =>
      simp only [Bool.not_false, Bool.not_true, cond_false]
      refine seesNil_eq _ a ver of xs k ?_
      unfold isB at ha
      simp at ha
      omega
    | true =>
      simp only [Bool.not_false, Bool.not_true, cond_true]
      cases hv : mayB ver with
      | false =>
        simp only [Bool.not_false, cond_true]
        refine seesNil_eq _ a ver of xs k ?_
        unfold mayB at hv
        simp at hv
        omega
      | true =>
        simp only [Bool.not_true, cond_false]
        obtain ⟨p, rfl, h1, h2⟩ := isB_range ha
        unfold mayB at hv
        simp at hv
        rw [ixC_at 10 0 p (by omega) (by omega), decide_eq_false (show ¬ ((p : Int) < 1) by omega), decide_eq_false (show ¬ ((p : Int) > 9) by omega), decide_eq_false (show ¬ (ver < 1) by omega), decide_eq_false (show ¬ (ver > 2) by omega)]
        simp only [Bool.not_false, cond_true, cond_false]
        refine sees_loop _ _ ver of xs (by omega) k xs.length 0 _ (by omega) ?_
        simp only [List.take_zero, List.foldl_nil]
        unfold bestV
        cases ho : isB of with
        | false =>
          have hne : (of == (p : Int)) = false := by
            rw [beq_eq_false_iff_ne]
            intro e
            rw [e, ha] at ho
            cases ho
          rw [hne]; rfl
        | true =>
          obtain ⟨q, rfl, h3, h4⟩ := isB_range ho
          simp only [cond_true, Int.toNat_natCast, upd]
          by_cases he : q = p
          · subst he
            have : Nat.beq q q = true := Nat.beq_refl q
            rw [this, beq_self_eq_true]; rfl
          · have hb : Nat.beq q p = false := by
              cases hh : Nat.beq q p with
              | false => rfl
              | true => exact absurd (Nat.eq_of_beq_eq_true hh) he
            have hb2 : ((q : Int) == (p : Int)) = false := by rw [beq_eq_false_iff_ne]; omega
            rw [hb, hb2]; rfl
end Go.Proofs.Ytopbldbgnpeelaa.V
