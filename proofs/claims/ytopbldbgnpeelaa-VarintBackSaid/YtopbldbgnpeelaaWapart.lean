/- The law VarintApart as a plain law: no number's words are the head of another's. No condition. -/
import Derived.Test.YtopbldbgnpeelaaWvarint
set_option maxRecDepth 100000
set_option linter.unusedVariables false
namespace Go.Proofs.Ytopbldbgnpeelaa.V
open Go Go.Proofs.AbsV
theorem fnVarintApart : FnOK Try.prog 6 Try.f6 := ⟨by kernel_rfl, by kernel_rfl, by kernel_rfl⟩
theorem varintApart_in (F : Nat) (a b : Int) (k : AV → List Box2 → Option AV) : runF env T4 noInl (keep [] []) F Try.f6 [.int .i64 a, .int .i64 b] [] k =
    bif !decide (a < 0) then
      bif decide (b < 0) then k (.bool true) []
      else
        bif decide (a < 9223372036854775808) then
          bif decide (b < 9223372036854775808) then
            bif !(((num a).length : Int) == 0) then
              bif ((num b).length : Int) == 0 then k (.bool false) []
              else
                bif decide (((num a).length : Int) ≤ ((num b).length : Int)) then
                  bif decide (((num a).length : Int) ≤ ((num b).length : Int)) then
                    bif decide ((num a).length ≤ 4611686018427387904) then
                      bif (num a == List.take (((num a).length : Int).sub 0).toNat (num b)) == (a == b) then k (.bool true) [] else k (.bool false) []
                    else none
                  else none
                else bif false == (a == b) then k (.bool true) [] else k (.bool false) []
            else k (.bool false) []
          else none
        else none
    else k (.bool true) [] := by kernel_rfl
theorem orb {m : Int} (h : 0 ≤ m) : orI .u8 (IntKind.u8.wrap m) 128 = 128 + m % 128 := by
  rw [IntKind.wrap_u8]
  have := or128 ⟨(m % 256).toNat, by omega⟩
  simp only at this
  rw [show ((m % 256).toNat : Int) = m % 256 by omega] at this
  rw [this]; omega
theorem putL_ne (f : Nat) (m : Int) : 1 ≤ (putL f m).length := by
  cases f with
  | zero => simp [putL]
  | succ f =>
    by_cases h : m ≥ 128
    · rw [putL_pos h]; simp
    · rw [putL_neg h]; simp
theorem putL_prefix : ∀ (f : Nat) (a b : Int), 0 ≤ a → 0 ≤ b → a < 128 ^ (f + 1) → b < 128 ^ (f + 1) → putL f a = (putL f b).take (putL f a).length → a = b
  | 0, a, b, ha, hb, ha', hb', h => by
    simp only [putL, List.length_singleton, List.take_succ_cons, List.take_zero, List.cons.injEq, and_true] at h
    rw [IntWalk.u8_in _ (by omega), IntWalk.u8_in _ (by omega)] at h
    exact h
  | f + 1, a, b, ha, hb, ha', hb', h => by
    by_cases h1 : a ≥ 128
    · rw [putL_pos h1] at h
      by_cases h2 : b ≥ 128
      · rw [putL_pos h2, List.length_cons, List.take_succ_cons] at h
        obtain ⟨h3, h4⟩ := List.cons.inj h
        rw [orb ha, orb hb] at h3
        have := putL_prefix f _ _ (by rw [shr7]; omega) (by rw [shr7]; omega) (by rw [shr7, Int.pow_succ] at *; omega) (by rw [shr7, Int.pow_succ] at *; omega) h4
        rw [shr7, shr7] at this
        omega
      · rw [putL_neg h2, List.length_cons, List.take_succ_cons] at h
        obtain ⟨h3, h4⟩ := List.cons.inj h
        rw [orb ha, IntWalk.u8_in _ (by omega)] at h3
        omega
    · rw [putL_neg h1] at h
      by_cases h2 : b ≥ 128
      · rw [putL_pos h2, List.length_singleton, List.take_succ_cons] at h
        obtain ⟨h3, h4⟩ := List.cons.inj h
        rw [orb hb, IntWalk.u8_in _ (by omega)] at h3
        omega
      · rw [putL_neg h2, List.length_singleton, List.take_succ_cons] at h
        obtain ⟨h3, h4⟩ := List.cons.inj h
        rw [IntWalk.u8_in _ (by omega), IntWalk.u8_in _ (by omega)] at h3
        exact h3
theorem varintApart_run (a b : Int) (ha : a < 9223372036854775808) (hb : b < 9223372036854775808) (k : AV → List Box2 → Option AV) : runF env T4 noInl (keep [] []) 0 Try.f6 [.int .i64 a, .int .i64 b] [] k = k (.bool true) [] := by
  rw [varintApart_in]
  by_cases ha0 : a < 0
  · rw [decide_eq_true ha0]; rfl
  · rw [decide_eq_false ha0, Bool.not_false, cond_true]
    by_cases hb0 : b < 0
    · rw [cond_pos hb0]
    · have hp : (128 : Int) ^ (9 + 1) = 1180591620717411303424 := by decide
      have na : num a = putL 9 a := by show putL 9 (if 0 > a then 0 else a) = _; rw [if_neg (by omega)]
      have nb : num b = putL 9 b := by show putL 9 (if 0 > b then 0 else b) = _; rw [if_neg (by omega)]
      rw [na, nb]
      have la := putL_ne 9 a
      have lb := putL_ne 9 b
      have la' := putL_length 9 a
      have z1 : (((putL 9 a).length : Int) == 0) = false := by rw [beq_eq_false_iff_ne]; omega
      have z2 : (((putL 9 b).length : Int) == 0) = false := by rw [beq_eq_false_iff_ne]; omega
      rw [cond_neg hb0, cond_pos ha, cond_pos hb, z1, Bool.not_false, cond_true, z2, cond_false]
      by_cases hl : ((putL 9 a).length : Int) ≤ ((putL 9 b).length : Int)
      · have e : (((putL 9 a).length : Int).sub 0).toNat = (putL 9 a).length := by
          show ((putL 9 a).length - (0 : Int)).toNat = _
          omega
        have key : (putL 9 a == List.take (putL 9 a).length (putL 9 b)) = (a == b) := by
          by_cases he : a = b
          · subst he
            rw [List.take_length]; simp
          · rw [beq_eq_false_iff_ne.2 he, beq_eq_false_iff_ne]
            exact fun h => he (putL_prefix 9 a b (by omega) (by omega) (by rw [hp]; omega) (by rw [hp]; omega) h)
        rw [cond_pos hl, cond_pos hl, cond_pos (by omega), e, key, beq_self_eq_true, cond_true]
      · have hne : (a == b) = false := by
          rw [beq_eq_false_iff_ne]
          intro e; subst e; omega
        rw [cond_neg hl, hne]; rfl
def varintApartSp : List AV → List (Bool × AV)
  | [.int .i64 a, .int .i64 b] => [(decide (a < 9223372036854775808) && decide (b < 9223372036854775808), .bool true)]
  | _ => []
theorem varintApart_ok : PureOK Try.prog env 6 varintApartSp := by
  refine PureOK.of_reads envOK tok4 noInl_ok fnVarintApart (hv := keep [] []) (fun args r h => ?_)
  unfold varintApartSp at h
  split at h
  · rename_i a b
    cases hb : (decide (a < 9223372036854775808) && decide (b < 9223372036854775808)) with
    | false => rw [hb] at h; cases h
    | true =>
      rw [hb] at h
      simp only [sel, cond_true, Option.some.injEq] at h
      subst h
      simp only [Bool.and_eq_true, decide_eq_true_eq] at hb
      exact ⟨_, 0, fun _ _ h => h, varintApart_run a b hb.1 hb.2 _⟩
  · cases h
theorem varintApart_true (d : DenL ([(false, Ty.int .i64), (false, Ty.int .i64)].map (·.2))) (h : WfL _ d) : sel (varintApartSp (argsA [(false, Ty.int .i64), (false, Ty.int .i64)] d)) = some (.bool true) := by
  obtain ⟨a, b, u⟩ := d
  have key : ∀ a b : Int, a < 9223372036854775808 → b < 9223372036854775808 → sel (varintApartSp [.int .i64 a, .int .i64 b]) = some (.bool true) := fun a b h1 h2 => sel_one (by rw [decide_eq_true h1, decide_eq_true h2]; rfl)
  exact key a b (wf_i64 h.1).2 (wf_i64 h.2.1).2
end Go.Proofs.Ytopbldbgnpeelaa.V
