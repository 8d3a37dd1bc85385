/- frame.Scan's iterator: the frames that are whole. No condition. -/
import Derived.Test.YtopbldbgnpeelaaDoorVscan
set_option maxRecDepth 100000
set_option linter.unusedVariables false
set_option linter.unusedSimpArgs false
namespace Go.Proofs.YtopbldbgnpeelaaDoor.V
open Go Go.Proofs.AbsV Go.RowKit Go.Shelf
attribute [local go_sem] Oper.semAt_some
def intOf' : Value → Int
  | .int _ n => n
  | _ => 0
set_option maxHeartbeats 1000000 in
theorem whole1_in {C0 : Stab} {w0 : World} {b : List Int} {l D m2 : Nat} {rec : Loop} {c : Ctx} {W : World} (h : MidC C0 w0 b l D m2 rec [] 0 c W) (hrec : RecOK rec D) (hb : isBytes b) (hx : b.length ≤ 1000000000000) (n : Nat) (hn : 1 ≤ n) :
    CallsIn Fence.wide n Tryd.prog 32 #[.func (.yield l) #[] #[], .pointer (some ⟨m2, 0, none⟩)] W fun e W' => (∃ v, e = .returned v) ∧ ∃ c', MidC C0 w0 b l D m2 rec (scanB b).1 (scanB b).2 c' W' := by
  refine callsIn_of_wp Tryd.func32 rfl trivial ?_ rfl
  simp only [Tryd.ntmps32, List.size_toArray, List.length_cons, List.length_nil, Nat.reduceAdd, Nat.reduceSub, Array.replicate_succ, Array.replicate_zero, List.push_toArray, List.append_toArray, List.nil_append, List.cons_append]
  gi_wp2
  gi_loopw [3] (fun p wr => ∃ (k : Nat) (out : List (List Int)) (a : Int) (c : Ctx), p = .int .i64 a ∧ MidC C0 w0 b l D m2 rec out a c wr ∧ ((out.length : Nat) : Int) ≤ a ∧ a ≤ ((b.length : Nat) : Int) ∧ ((b.length : Nat) : Int) ≤ a + k ∧ scanB b = scanL b (k + 1) out a)
    (fun p wr => b.length - (intOf' p).toNat)
  case atStart => exact ⟨b.length, [], 0, c, rfl, h, by simp, by omega, by omega, rfl⟩
  case round =>
    obtain ⟨k, out, a, c1, rfl, hm, h1, h2, h3, h4⟩ := hrel
    obtain ⟨bv, hcell, hbv⟩ := hm.cell2
    have hN := mid_next hm hb hx hbv a
    gi_wp2_with (refine ⟨trivial, ?_⟩; gi_at_call 12; refine (callsIn_wide.2 hN).mono ?_; rintro e W1 ⟨v, c2, rfl, hm2, (⟨he, rfl⟩ | ⟨he, y, rfl, hy⟩)⟩)
    · have hne : (nxE b a != 0) = true := by rw [bne, beq_eq_false_iff_ne.2 he]; rfl
      have hs : scanB b = (out, a) := by rw [h4]; unfold scanL; rw [hne, cond_true]
      refine ⟨fun f q => (by cases q), ?_⟩
      rw [hne]
      gi_wp2
      refine bodyPost_ret (results_none rfl _ _ _) rfl ?_
      rw [hs]
      exact ⟨⟨_, rfl⟩, c2, hm2⟩
    · have hne : (nxE b a != 0) = false := by rw [he]; rfl
      obtain ⟨g1, g2, g3, _⟩ := nx_more hb hx hne
      obtain ⟨k', rfl⟩ : ∃ k', k = k' + 1 := ⟨k - 1, by omega⟩
      have hs : scanB b = scanL b (k' + 1) (out ++ [nxBody b a]) (nxEnd b a) := by rw [h4]; rw [scanL, hne, cond_false]
      have hyr : (Instr.yield l #[.int .i64 (nxEnd b a), y]).run Tryd.prog W1 = .ok (.round l rec.fn ((rec.tmps.setIfInBounds 10 (.int .i64 (nxEnd b a))).setIfInBounds 11 y) scA scB) W1 := by
        rw [run_yield hm2.L (by rw [hrec.ps]; rfl), hrec.ps, hrec.asg, hrec.bo]
        simp
      rw [hyr, Oper.uponIn_round]
      refine ⟨fun _ => hn, (mid_round hm2 hrec (by omega) hy (nxEnd b a) (n - 1)).mono ?_⟩
      rintro e W2 ⟨rfl, c3, hm3⟩
      gi_wp2
      go_roundw
      case rel => exact ⟨k', out ++ [nxBody b a], nxEnd b a, c3, rfl, hm3, by rw [List.length_append]; simp; omega, g3, by omega, hs⟩
      case measure => simp [intOf']; omega
end Go.Proofs.YtopbldbgnpeelaaDoor.V
