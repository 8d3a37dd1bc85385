/- slices.Grow at no slice: a new row with room, claimed. No condition. -/
import Derived.Test.YtopbldbgnpeelaaDoorVput
import Derived.Lib.AppendZeros
import Derived.Lib.Walk
import Derived.WalkKit
import Derived.Tactics
import Derived.Tactics2
import Derived.StillTactics
import Derived.RegionTactic
import Derived.LoopTactic
set_option linter.unusedVariables false
set_option linter.unusedSimpArgs false
namespace Go.Proofs.YtopbldbgnpeelaaDoor.V
open Go Go.Proofs.AbsV Go.RowKit
theorem fnGrow : FnOK Tryd.prog 29 Tryd.f29 := ⟨by kernel_rfl, by kernel_rfl, by kernel_rfl⟩
theorem infoB : (Tryd.prog.info? 5).map (fun i => (i.zero, i.size, i.bytes)) = some (some (.int .u8 0), 1, 1) := by kernel_rfl
set_option maxRecDepth 100000 in
theorem grow_zero (w : World) : Calls Tryd.prog 29 #[.slice none 0 0, .int .i64 0] w fun e w' => e = .returned (.slice none 0 0) ∧ w' = w := by
  go_enter Tryd.func29, Tryd.ntmps29
  go_wp2
  go_ret
  exact ⟨rfl, rfl⟩
set_option maxHeartbeats 4000000 in
set_option maxRecDepth 100000 in
theorem grow_more (n : Nat) (h0 : 0 < n) (hn : n ≤ 140737488355328) (w : World) : Calls Tryd.prog 29 #[.slice none 0 0, .int .i64 n] w fun e w' => ∃ cap Z, e = .returned (.slice (some ⟨w.heap.size, 0, none⟩) 0 cap) ∧ w' = w.drew.alloc (.cells Z 5) ∧ Z.size = cap ∧ 0 < cap ∧ cap ≤ maxLen := by
  obtain ⟨i0, hi, hz0, hz1, hz2⟩ := info_parts infoB
  have happ := Lib.run_append_nil_zeros (P := Tryd.prog) w 22 3 22 5 i0 (.int .u8 0) .i64 .i64 Tryd.underlying22 Tryd.underlying3 hi hz0 n (by omega) (by omega) (by omega) (by rw [hz2]; omega)
  generalize hcap : grownCap w n 0 5 = cap2 at happ
  have hcapge : n ≤ cap2 := by rw [← hcap]; exact grownCap_ge w _ 0 _
  have hcaple : cap2 ≤ maxLen := by rw [← hcap]; exact grownCap_le_maxLen w _ 0 _ (by unfold maxLen; omega)
  generalize hZ : (Builtin.zeroCells (Value.int .u8 0).cells n ++ Builtin.zeroCells (Value.int .u8 0).cells (cap2 - n)) = Z at happ
  have hZs : Z.size = cap2 := by rw [← hZ]; simp [size_zeroCells, Value.cells]; omega
  clear hcap hZ
  have h1 : ¬ ((n : Int) < 0) := by omega
  have h3 : wrap64 ((n : Int) - 0) = (n : Int) := by unfold wrap64; omega
  have h4 : (n : Int) > 0 := by omega
  go_enter Tryd.func29, Tryd.ntmps29
  go_wp2_with (at_builtin; refine Lib.wpList_append_run _ rfl _ _ _ _ rfl _ _ rfl rfl _ _ happ ?_)
  all_goals (go_ret; first | exact ⟨cap2, Z, rfl, rfl, hZs, by omega, hcaple⟩ | exact ⟨cap2, rfl, Z, rfl, hZs, by omega, hcaple⟩ | trace_state)
/-- slices.Grow of nothing, as a function of data: an empty slice that may be appended to. -/
def growSp : List AV → List (Bool × AV)
  | [.nilsl, .int .i64 n] => [(decide (0 ≤ n) && decide (n ≤ 140737488355328), .sl B [] none (some (0, 5)))]
  | _ => []
theorem grow_ok : PureOK Tryd.prog env 29 growSp := by
  refine ⟨⟨_, fnGrow⟩, fun args r hr hp C w cargs hstab hgl hargs => ?_⟩
  have hg : AbsV.Good (ctx0 C) w [] := ⟨hstab, (fun i B hi => by simp at hi), (fun i j k hi => by simp at hi), (fun j T s v ht => by cases ht), (fun j T s a n cap i ht => by cases ht), (fun j T s a n cap j' T' s' a' n' cap' ht => by cases ht)⟩
  unfold growSp at hr
  split at hr
  · rename_i n
    obtain ⟨hgd, he⟩ := sel_one hr
    simp only [Bool.and_eq_true, decide_eq_true_eq] at hgd
    subst he
    simp only [RepL, Rep] at hargs
    obtain ⟨v0, r0, hv0, rfl, v1, r1, rfl, rfl, rfl⟩ := hargs
    obtain ⟨m, rfl⟩ : ∃ m : Nat, n = (m : Int) := ⟨n.toNat, by omega⟩
    have hc : cargs = #[.slice none 0 0, .int .i64 m] := by
      obtain ⟨l⟩ := cargs
      simp only at hv0
      rw [hv0]
    subst hc
    by_cases hm : m = 0
    · subst hm
      refine (grow_zero w).mono fun e w' hh => ?_
      obtain ⟨rfl, rfl⟩ := hh
      obtain ⟨h1, h2⟩ := hg.addTok (j := 0) (T := 5) (sz := 1) (v := .slice none 0 0) (.inl rfl) (fun B hB => by cases hB)
      refine ⟨_, _, rfl, ?_, h1, h2 0⟩
      exact ⟨none, 0, 0, rfl, ⟨rfl, Nat.le_refl _, fun _ => rfl, by omega, fun i hi => by simp at hi⟩, trivial, by simp [OwnOK, Ctx.addTok]; rfl⟩
    · refine (grow_more m (by omega) (by omega) w).mono fun e w' hh => ?_
      obtain ⟨cap, Z, rfl, rfl, hZ, hc0, hcl⟩ := hh
      obtain ⟨h1, h2⟩ := hg.addRow (w' := w.drew.alloc (.cells Z 5)) (j := 0) (T := 5) (sz := 1) (n := 0) (cap := cap) (k := w.heap.size) (cells := []) (cur := Z)
        (.inl (Nat.le_refl _)) rfl rfl rfl (by show w.heap.size ≤ (w.heap.push _).size; rw [Array.size_push]; omega) (fun b' hb' _ => heap_alloc_lt (w := w.drew) hb') (heap_alloc_new w.drew _) (by omega) hc0 hcl (by omega) (by omega) rfl (by simp)
        (fun o u hcu => by have := hg.lt hcu; omega) (fun B hB => by cases hB)
      refine ⟨_, _, rfl, ?_, h1, h2⟩
      exact ⟨some ⟨w.heap.size, 0, none⟩, 0, cap, rfl, ⟨rfl, by omega, (fun h => by cases h), by omega, (fun i hi => by simp at hi)⟩, trivial, by simp [OwnOK, Ctx.addRow]; rfl⟩
  · cases hr
end Go.Proofs.YtopbldbgnpeelaaDoor.V
