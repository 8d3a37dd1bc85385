/- The gate's Propose, and the document's Support, as functions of data. No condition. -/
import Derived.Test.YtopbldbgnpeelaaVprop
set_option maxRecDepth 100000
set_option linter.unusedVariables false
set_option linter.unusedSimpArgs false
namespace Go.Proofs.Ytopbldbgnpeelaa.V
open Go Go.Proofs.AbsV
theorem prop_eq {α : Type} (b act : Int) (f : Nat → Int) (xs : List Int) (k : Int → Option α) (n : Option α) :
    (bif b != 2 then k 8 else bif act != 0 then k 12 else bif ((xs.length : Nat) : Int) == 0 then k 16 else bif !decide (cntV (norm10 f) 2 < 1) then bif true then bif !supB (norm10 f) xs then k 14 else k 0 else n else k 14) = k (propV b act f xs) := by
  have hc : cntV (norm10 f) 2 = cntV f 2 := cntR_norm f 2 10 0 0
  rw [hc, supB_norm]
  unfold propV bne
  cases (b == 2) with
  | false => rfl
  | true =>
    cases (act == 0) with
    | false => rfl
    | true =>
      simp only [Bool.not_true, cond_false]
      by_cases h3 : xs.length = 0
      · rw [decide_eq_true h3, show (((xs.length : Nat) : Int) == 0) = true by simp [h3]]; rfl
      · rw [decide_eq_false h3, show (((xs.length : Nat) : Int) == 0) = false by rw [beq_eq_false_iff_ne]; omega]
        simp only [cond_false, cond_true]
        cases hs : supB f xs with
        | false => cases decide (cntV f 2 < 1) <;> rfl
        | true =>
          have := sup_cnt hs
          rw [decide_eq_false (show ¬ (cntV f 2 < 1) by omega)]
          rfl
theorem prop_bor : BorOK Try.prog env 32 propSp := by
  refine BorOK.of_runR envOK tok14 fn_prop (hv := prop_hv) (fun l rest r l' h Tt => ?_)
  unfold propSp at h
  split at h
  · rename_i l act y
    split at h
    · rename_i xs a b f hx hl
      by_cases hb : xs.length ≤ 4611686018427387904
      · rw [decide_eq_true hb] at h
        cases h
        rw [tblIn_some hl]
        refine ⟨noInl, 0, _, noInl_ok, .same (.src (τ := .int .i64) hx .nil), (prop_in 0 act xs a b f Tt (fun r bx => some (r, bx))).trans ?_⟩
        rw [decide_eq_true hb]
        exact prop_eq b act f xs (fun e => some (AV.int .i64 e, [Box2.cells Tt (tbl a b f)])) none
      · rw [decide_eq_false hb] at h; cases h
    · cases h
  · cases h
/-! ### The document's -/
def refSup (node ver : Int) (seen : Pairs) (xs : List Int) : Bool := allGe (fun of => refBestV node ver of seen) xs && decide ((xs.length : Int) > 0)
theorem rsup_loop {α : Type} (F : Nat) (node ver : Int) (seen : Pairs) (hs : seen.length ≤ 4611686018427387904) (xs : List Int) (hb : xs.length ≤ 4611686018427387904) (k : AV → List Box2 → Option α) : ∀ (n i : Nat), i + n = xs.length →
    rsup_L0 F (n + 1) node ver seen xs (i : Int) k = k (.bool (allGe (fun of => refBestV node ver of seen) (xs.drop i) && decide ((xs.length : Int) > 0))) []
  | 0, i, h => by
    rw [rsup_step0, cond_neg (by omega), List.drop_eq_nil_of_le (by omega)]
    rfl
  | n + 1, i, h => by
    have hx : i < xs.length := by omega
    have hw : IntKind.i64.wrap (Int.add (i : Int) 1) = ((i + 1 : Nat) : Int) := by
      show IntKind.i64.wrap ((i : Int) + 1) = _
      rw [IntWalk.i64_in _ (by omega)]; omega
    rw [rsup_step0, cond_pos (by omega), decide_eq_true (show (0 : Int) ≤ (i : Int) by omega), decide_eq_true (show (i : Int) < ((xs.length : Nat) : Int) by omega), hw, getD_int hx, List.drop_eq_getElem_cons hx, decide_eq_true hs]
    simp only [Bool.and_self, cond_true, allGe]
    rw [rsup_loop F node ver seen hs xs hb k n (i + 1) (by omega)]
    by_cases hg : refBestV node ver xs[i] seen < 2
    · rw [cond_pos hg, cond_pos hg]; rfl
    · rw [cond_neg hg, cond_neg hg]
def rsupSp : List AV → List (Bool × AV)
  | [.int .i64 node, .int .i64 ver, y, z] => match pairsIn y, intsIn z with
    | some seen, some xs => [(decide (seen.length ≤ 4611686018427387904) && decide (xs.length ≤ 4611686018427387904), .bool (refSup node ver seen xs))]
    | _, _ => []
  | _ => []
theorem rsup_ok : PureOK Try.prog env 33 rsupSp := by
  refine PureOK.of_reads envOK tok15 noInl_ok fn_rsup (hv := rsup_hv) (fun args r h => ?_)
  unfold rsupSp at h
  split at h
  · rename_i node ver y z
    split at h
    · rename_i seen xs hx hz
      obtain ⟨hg, he⟩ := sel_one h
      simp only [Bool.and_eq_true, decide_eq_true_eq] at hg
      subst he
      refine ⟨_, xs.length + 1, .same (.same (.src (τ := twoT) hx (.src (τ := .int .i64) hz .nil))), ?_⟩
      exact (rsup_in (xs.length + 1) node ver seen xs (fun r bx => some r)).trans (rsup_loop (xs.length + 1) node ver seen hg.1 xs hg.2 (fun r bx => some r) xs.length 0 (by omega))
    · cases h
  · cases h
end Go.Proofs.Ytopbldbgnpeelaa.V
