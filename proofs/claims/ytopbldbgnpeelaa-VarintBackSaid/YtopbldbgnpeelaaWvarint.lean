/- The laws VarintBytes and VarintApart as plain laws. No condition. -/
import Derived.Test.YtopbldbgnpeelaaVaw
import Derived.Test.YtopbldbgnpeelaaAh
set_option maxRecDepth 100000
set_option linter.unusedVariables false
namespace Go.Proofs.Ytopbldbgnpeelaa.V
open Go Go.Proofs.AbsV
theorem gl0 (C : Stab) : GlOK env C := fun g k tab h => by cases h

/-! ### VarintBytes -/
theorem fnVarintBytes : FnOK Try.prog 5 Try.f5 := ⟨by kernel_rfl, by kernel_rfl, by kernel_rfl⟩
abbrev num (n : Int) : List Int := putL 9 (if 0 > n then 0 else n)
theorem varintBytes_in (F : Nat) (xs : List Int) (n : Int) (k : AV → List Box2 → Option AV) : runF env T4 noInl (keep [] []) F Try.f5 [.sl B xs none none, .int .i64 n] [] k =
    bif decide ((xs.length : Int) > 500) then k (.bool true) []
    else
      bif decide (Nat.add 0 (Nat.add 0 xs.length) ≤ 140737488355328) then
        bif decide (n < 9223372036854775808) then
          bif decide (Nat.add 0 (xs.length.add (num n).length) ≤ 140737488355328) then
            bif decide (xs.length ≤ 1000000000000) && decide (n < 9223372036854775808) then
              bif decide ((xs.append (num n)).length ≤ 4611686018427387904) then
                bif xs.append (num n) == xs.append (num n) then
                  bif decide (n < 9223372036854775808) then
                    bif decide (n < 9223372036854775808) then
                      bif ((num n).length : Int) == ((num n).length : Int) then k (.bool true) []
                      else k (.bool false) []
                    else none
                  else none
                else k (.bool false) []
              else none
            else none
          else none
        else none
      else none := by kernel_rfl
def varintBytesSp : List AV → List (Bool × AV)
  | [.sl (.int .u8) xs none none, .int .i64 n] => [(decide (n < 9223372036854775808), .bool true)]
  | _ => []
theorem varintBytes_run (xs : List Int) (n : Int) (hn : n < 9223372036854775808) (k : AV → List Box2 → Option AV) : runF env T4 noInl (keep [] []) 0 Try.f5 [.sl B xs none none, .int .i64 n] [] k = k (.bool true) [] := by
  rw [varintBytes_in]
  by_cases hl : (xs.length : Int) > 500
  · rw [cond_pos hl]
  · have hp : (num n).length ≤ 10 := putL_length 9 (if 0 > n then 0 else n)
    have e1 : (xs.append (num n)).length = xs.length + (num n).length := List.length_append
    have e2 : Nat.add 0 (xs.length.add (num n).length) = 0 + (xs.length + (num n).length) := rfl
    have e3 : Nat.add 0 (Nat.add 0 xs.length) = 0 + (0 + xs.length) := rfl
    rw [cond_neg hl, e3, cond_pos (by omega), cond_pos hn, e2, cond_pos (by omega), decide_eq_true (show xs.length ≤ 1000000000000 by omega), decide_eq_true hn, e1, Bool.true_and, cond_true, cond_pos (by omega), beq_self_eq_true, cond_true, beq_self_eq_true]
    rfl
theorem varintBytes_ok : PureOK Try.prog env 5 varintBytesSp := by
  refine PureOK.of_reads envOK tok4 noInl_ok fnVarintBytes (hv := keep [] []) (fun args r h => ?_)
  unfold varintBytesSp at h
  split at h
  · rename_i xs n
    by_cases hn : n < 9223372036854775808
    · rw [decide_eq_true hn] at h
      simp only [sel, cond_true, Option.some.injEq] at h
      subst h
      exact ⟨_, 0, fun _ _ h => h, varintBytes_run xs n hn _⟩
    · rw [decide_eq_false hn] at h; cases h
  · cases h
theorem wf_i64 {n : Int} (h : WfD (.int .i64) n) : -9223372036854775808 ≤ n ∧ n < 9223372036854775808 := by
  have h : (Lit.int .i64 n).wf = true := h
  simp [Lit.wf, show IntKind.i64.min = -9223372036854775808 from rfl] at h
  omega
theorem sel_one {g : Bool} {x : AV} (h : g = true) : sel [(g, x)] = some x := by subst h; rfl
theorem varintBytes_true (d : DenL ([(false, Ty.sl (.int .u8)), (false, Ty.int .i64)].map (·.2))) (h : WfL _ d) : sel (varintBytesSp (argsA [(false, Ty.sl (.int .u8)), (false, Ty.int .i64)] d)) = some (.bool true) := by
  obtain ⟨xs, n, u⟩ := d
  have key : ∀ m : Int, m < 9223372036854775808 → sel (varintBytesSp [.sl (.int .u8) xs none none, .int .i64 m]) = some (.bool true) := fun m hm => sel_one (decide_eq_true hm)
  exact key n (wf_i64 h.2.1).2
end Go.Proofs.Ytopbldbgnpeelaa.V
