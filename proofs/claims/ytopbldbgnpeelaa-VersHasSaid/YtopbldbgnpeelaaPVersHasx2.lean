-- PRINTED BY print.sh 35421559b90ae4d0a3588c463048766b98c2df88dd9212a6774a882060cdf62d: not written by this session
import Derived.Test.YtopbldbgnpeelaaPVersHasx0
import Derived.Test.YtopbldbgnpeelaaPVersHasx1
namespace Go.Proofs.Ytopbldbgnpeelaa.PVersHas
open Go.RowKit Go.Proofs.YtopbldbgnpeelaaW.PrintWords Go.Proofs.YtopbldbgnpeelaaW.PrintLast Go.Proofs.YtopbldbgnpeelaaW.PrintMore
attribute [local go_sem] max2_int min2_int max_two min_two max_three min_three max_four min_four   -- for this text's walks alone
set_option linter.unusedVariables false
set_option linter.unusedSimpArgs false

/-! ### changeoverlaw07_VersHas: function 4 -/
mutual
def changeoverlaw07_VersHas.j0 : Nat → Int → Int → Int → Int → Bool → Option (Bool)
  | 0, _, _, _, _, _ => none
  | k + 1, x0, x1, x2, x7, x8 => (vers_May.f x0).bind fun t110 => (if x0 = 1 then (if (t110 != true) = true then (changeoverlaw07_VersHas.j1 k x0 x1 x2 x7 x8 true) else ((vers_Has.f k x0 x2).bind fun t111 => ((changeoverref07_Has.f x0 x2).bind fun t112 => (if (t111 != t112) = true then (changeoverlaw07_VersHas.j1 k x0 x1 x2 x7 x8 true) else ((vers_Has.f k x1 x2).bind fun t113 => ((changeoverref07_Has.f x1 x2).bind fun t114 => (changeoverlaw07_VersHas.j1 k x0 x1 x2 x7 x8 (t113 != t114)))))))) else (if (t110 != (x0 == 2)) = true then (changeoverlaw07_VersHas.j1 k x0 x1 x2 x7 x8 true) else ((vers_Has.f k x0 x2).bind fun t115 => ((changeoverref07_Has.f x0 x2).bind fun t116 => (if (t115 != t116) = true then (changeoverlaw07_VersHas.j1 k x0 x1 x2 x7 x8 true) else ((vers_Has.f k x1 x2).bind fun t117 => ((changeoverref07_Has.f x1 x2).bind fun t118 => (changeoverlaw07_VersHas.j1 k x0 x1 x2 x7 x8 (t117 != t118)))))))))
def changeoverlaw07_VersHas.j1 : Nat → Int → Int → Int → Int → Bool → Bool → Option (Bool)
  | 0, _, _, _, _, _, _ => none
  | k + 1, x0, x1, x2, x7, x8, x52 => if x52 = true then (some false) else (if x8 = true then (if x7 = x0 then (if x7 ≤ x0 then (if x7 ≤ x1 then ((vers_Has.f k x7 x2).bind fun t120 => ((changeoverref07_Has.f x0 x2).bind fun t121 => (if t121 = true then ((changeoverref07_Has.f x1 x2).bind fun t122 => (if (t120 == t122) = true then ((changeoverlaw07_awake.f k).bind fun t123 => (some t123)) else (some false))) else (if (t120 == false) = true then ((changeoverlaw07_awake.f k).bind fun t124 => (some t124)) else (some false))))) else (some false)) else (some false)) else (if x7 = x1 then (if x7 ≤ x0 then (if x7 ≤ x1 then ((vers_Has.f k x7 x2).bind fun t125 => ((changeoverref07_Has.f x0 x2).bind fun t126 => (if t126 = true then ((changeoverref07_Has.f x1 x2).bind fun t127 => (if (t125 == t127) = true then ((changeoverlaw07_awake.f k).bind fun t128 => (some t128)) else (some false))) else (if (t125 == false) = true then ((changeoverlaw07_awake.f k).bind fun t129 => (some t129)) else (some false))))) else (some false)) else (some false)) else (some false))) else (if x7 = 0 then ((changeoverlaw07_awake.f k).bind fun t119 => (some t119)) else (some false)))
end
def changeoverlaw07_VersHas.f (k : Nat) (a0 : Int) (a1 : Int) (a2 : Int) : Option (Bool) := (vers_Least.f a0 a1).bind fun t109 => (if a0 ≥ 1 then (if a0 ≤ 2 then (if a1 ≥ 1 then (changeoverlaw07_VersHas.j0 k a0 a1 a2 t109 (decide (a1 ≤ 2))) else (changeoverlaw07_VersHas.j0 k a0 a1 a2 t109 false)) else (changeoverlaw07_VersHas.j0 k a0 a1 a2 t109 false)) else (changeoverlaw07_VersHas.j0 k a0 a1 a2 t109 false))
theorem changeoverlaw07_VersHas.mono_l : ∀ k, (∀ y0 y1 y2 y3 y4, LeO (changeoverlaw07_VersHas.j0 k y0 y1 y2 y3 y4) (changeoverlaw07_VersHas.j0 (k + 1) y0 y1 y2 y3 y4)) ∧ (∀ y0 y1 y2 y3 y4 y5, LeO (changeoverlaw07_VersHas.j1 k y0 y1 y2 y3 y4 y5) (changeoverlaw07_VersHas.j1 (k + 1) y0 y1 y2 y3 y4 y5))
  | 0 => ⟨fun _ _ _ _ _ r h => by simp [changeoverlaw07_VersHas.j0] at h, fun _ _ _ _ _ _ r h => by simp [changeoverlaw07_VersHas.j1] at h⟩
  | k + 1 => by
    obtain ⟨ih0, ih1⟩ := changeoverlaw07_VersHas.mono_l k
    refine ⟨?_, ?_⟩
    · intro y0 y1 y2 y3 y4
      unfold changeoverlaw07_VersHas.j0
      repeat' first
      | (with_reducible exact ih0 _ _ _ _ _)
      | (with_reducible exact ih1 _ _ _ _ _ _)
      | (with_reducible exact changeoverlaw07_awake.mono _)
      | (with_reducible exact vers_Has.mono _ _ _)
      | (with_reducible exact LeO.refl _)
      | (with_reducible exact LeO.none _)
      | (with_reducible refine LeO.ite ?_ ?_)
      | (with_reducible refine LeO.bind ?_ (fun _ => ?_))
      | exact ih0 _ _ _ _ _
      | exact ih1 _ _ _ _ _ _
      | exact changeoverlaw07_awake.mono _
      | exact vers_Has.mono _ _ _
      | exact LeO.none _
      | refine LeO.ite ?_ ?_
      | refine LeO.bind ?_ (fun _ => ?_)
    · intro y0 y1 y2 y3 y4 y5
      unfold changeoverlaw07_VersHas.j1
      repeat' first
      | (with_reducible exact ih0 _ _ _ _ _)
      | (with_reducible exact ih1 _ _ _ _ _ _)
      | (with_reducible exact changeoverlaw07_awake.mono _)
      | (with_reducible exact vers_Has.mono _ _ _)
      | (with_reducible exact LeO.refl _)
      | (with_reducible exact LeO.none _)
      | (with_reducible refine LeO.ite ?_ ?_)
      | (with_reducible refine LeO.bind ?_ (fun _ => ?_))
      | exact ih0 _ _ _ _ _
      | exact ih1 _ _ _ _ _ _
      | exact changeoverlaw07_awake.mono _
      | exact vers_Has.mono _ _ _
      | exact LeO.none _
      | refine LeO.ite ?_ ?_
      | refine LeO.bind ?_ (fun _ => ?_)
theorem changeoverlaw07_VersHas.mono : ∀ a0 a1 a2 k, LeO (changeoverlaw07_VersHas.f k a0 a1 a2) (changeoverlaw07_VersHas.f (k + 1) a0 a1 a2) := by
  intro a0 a1 a2 k
  obtain ⟨ih0, ih1⟩ := changeoverlaw07_VersHas.mono_l k
  unfold changeoverlaw07_VersHas.f
  repeat' first
      | (with_reducible exact ih0 _ _ _ _ _)
      | (with_reducible exact ih1 _ _ _ _ _ _)
      | (with_reducible exact changeoverlaw07_awake.mono _)
      | (with_reducible exact vers_Has.mono _ _ _)
      | (with_reducible exact LeO.refl _)
      | (with_reducible exact LeO.none _)
      | (with_reducible refine LeO.ite ?_ ?_)
      | (with_reducible refine LeO.bind ?_ (fun _ => ?_))
      | exact ih0 _ _ _ _ _
      | exact ih1 _ _ _ _ _ _
      | exact changeoverlaw07_awake.mono _
      | exact vers_Has.mono _ _ _
      | exact LeO.none _
      | refine LeO.ite ?_ ?_
      | refine LeO.bind ?_ (fun _ => ?_)
set_option maxHeartbeats 8000000 in
set_option maxRecDepth 100000 in
theorem changeoverlaw07_VersHas.calls (k : Nat) (a0 : Int) (a1 : Int) (a2 : Int) (r : Bool) (w : World) (h : changeoverlaw07_VersHas.f k a0 a1 a2 = some r) :
    Calls Try.prog 4 #[.int .i64 a0, .int .i64 a1, .int .i64 a2] w fun e w' => e = .returned (.bool r) ∧ Below w.heap.size w w' := by
  have HB := Aside0.mk (Below.refl w.heap.size w)
  have H : ((vers_Least.f a0 a1).bind fun t109 => (if a0 ≥ 1 then (if a0 ≤ 2 then (if a1 ≥ 1 then (changeoverlaw07_VersHas.j0 k a0 a1 a2 t109 (decide (a1 ≤ 2))) else (changeoverlaw07_VersHas.j0 k a0 a1 a2 t109 false)) else (changeoverlaw07_VersHas.j0 k a0 a1 a2 t109 false)) else (changeoverlaw07_VersHas.j0 k a0 a1 a2 t109 false))) = some r := h
  clear h
  replace H := Option.bind_eq_some_iff.mp H
  obtain ⟨t109, A40, H⟩ := H
  replace H : (if a0 ≥ 1 then (if a0 ≤ 2 then (if a1 ≥ 1 then (changeoverlaw07_VersHas.j0 k a0 a1 a2 t109 (decide (a1 ≤ 2))) else (changeoverlaw07_VersHas.j0 k a0 a1 a2 t109 false)) else (changeoverlaw07_VersHas.j0 k a0 a1 a2 t109 false)) else (changeoverlaw07_VersHas.j0 k a0 a1 a2 t109 false)) = some r := H
  have A4 := Aside0.mk A40
  clear A40
  have HC5 := Aside0.mk H
  clear H
  go_enter Try.func4, Try.ntmps4
  go_upto_region 2 with (first | ((with_reducible refine gate_callee (f := 15) rfl ?_); refine goesL_ (some 11) rfl rfl Try.func15 (by kernel_rfl) rfl #[.int .i64 a0, .int .i64 a1] rfl (by (try simp only [List.map_toArray, List.map_cons, List.map_nil]); first | done | rfl | (simp only [List.length_drop, List.length_take]; rfl)) ?_; (with_reducible refine (vers_Least.calls a0 a1 t109 _ A4.out).mono ?_); rintro e w6 ⟨rfl, hb⟩; refine ⟨_, rfl, ?_⟩; have n0_ := Aside0.mk (below_step (by repeat (first | (with_reducible first | exact HB.out | apply below_alloc | apply pw_below_drewN | apply below_drew1) | exact HB.out)) hb); clear HB; have HB := n0_; clear n0_; (try clear hb); (try clear hb2); (try clear hk); (try clear hi)))
  (try simp only [Act.put, List.setIfInBounds_toArray, List.set_cons_zero, List.set_cons_succ])
  go_cut [8] (fun v8 wc => ∃ (kq : Nat) (x8_4 : Bool), v8 = .bool x8_4 ∧ Aside0 (changeoverlaw07_VersHas.j0 kq a0 a1 a2 t109 x8_4 = some r) ∧ Aside0 (kq ≤ k) ∧ Aside0 (Below w.heap.size w wc))
  case first =>
    have H := HC5.out
    clear HC5
    by_cases c7 : a0 ≥ 1
    · rw [if_pos c7] at H
      have c7b0 : decide (1 ≤ a0) = true := decide_eq_true c7
      clear c7
      (first | rw [c7b0] | (simp only [i64_w, i32_w]; rw [c7b0]) | skip)
      by_cases c8 : a0 ≤ 2
      · rw [if_pos c8] at H
        have c8b0 : decide (a0 ≤ 2) = true := decide_eq_true c8
        clear c8
        by_cases c9 : a1 ≥ 1
        · rw [if_pos c9] at H
          have c9b0 : decide (1 ≤ a1) = true := decide_eq_true c9
          clear c9
          have H' := Aside0.mk H
          clear H
          go_wp2
          go_meet
          case rel => exact ⟨_, (decide (a1 ≤ 2)), (by first | rfl | (simp; done) | (simp [*]; done)), H', ⟨by first | omega | exact Nat.le_refl _⟩, ⟨by repeat (first | (with_reducible first | exact HB.out | apply below_alloc | apply pw_below_drewN | apply below_drew1) | exact HB.out)⟩⟩
        · rw [if_neg c9] at H
          have c9b0 : decide (1 ≤ a1) = false := decide_eq_false c9
          clear c9
          have H' := Aside0.mk H
          clear H
          go_wp2
          go_meet
          case rel => exact ⟨_, (false), (by first | rfl | (simp; done) | (simp [*]; done)), H', ⟨by first | omega | exact Nat.le_refl _⟩, ⟨by repeat (first | (with_reducible first | exact HB.out | apply below_alloc | apply pw_below_drewN | apply below_drew1) | exact HB.out)⟩⟩
      · rw [if_neg c8] at H
        have c8b0 : decide (a0 ≤ 2) = false := decide_eq_false c8
        clear c8
        have H' := Aside0.mk H
        clear H
        go_wp2
        go_meet
        case rel => exact ⟨_, (false), (by first | rfl | (simp; done) | (simp [*]; done)), H', ⟨by first | omega | exact Nat.le_refl _⟩, ⟨by repeat (first | (with_reducible first | exact HB.out | apply below_alloc | apply pw_below_drewN | apply below_drew1) | exact HB.out)⟩⟩
    · rw [if_neg c7] at H
      have c7b0 : decide (1 ≤ a0) = false := decide_eq_false c7
      clear c7
      (first | rw [c7b0] | (simp only [i64_w, i32_w]; rw [c7b0]) | skip)
      have H' := Aside0.mk H
      clear H
      go_wp2
      go_meet
      case rel => exact ⟨_, (false), (by first | rfl | (simp; done) | (simp [*]; done)), H', ⟨by first | omega | exact Nat.le_refl _⟩, ⟨by repeat (first | (with_reducible first | exact HB.out | apply below_alloc | apply pw_below_drewN | apply below_drew1) | exact HB.out)⟩⟩
  case rest =>
    clear HC5
    try clear c1
    try clear p2
    try clear c4
    try clear c7
    try clear c7b0
    try clear c8
    try clear c8b0
    try clear c9
    try clear c9b0
    obtain ⟨kq, x8_4, rfl, HA, HJ4, HB⟩ := hcut
    cases kq with
    | zero => exact absurd HA.out (by simp [changeoverlaw07_VersHas.j0])
    | succ kj4 =>
      have H := HA.out
      clear HA
      simp only [changeoverlaw07_VersHas.j0] at H
      have HC10 := Aside0.mk H
      clear H
      go_upto_region 3 with (fail)
      go_cut [52] (fun v52 wc => ∃ (kq : Nat) (x52_9 : Bool), v52 = .bool x52_9 ∧ Aside0 (changeoverlaw07_VersHas.j1 kq a0 a1 a2 t109 x8_4 x52_9 = some r) ∧ Aside0 (kq ≤ kj4) ∧ Aside0 (Below w.heap.size w wc))
      case first =>
        have H := HC10.out
        clear HC10
        replace H := Option.bind_eq_some_iff.mp H
        obtain ⟨t110, A110, H⟩ := H
        replace H : (if a0 = 1 then (if (t110 != true) = true then (changeoverlaw07_VersHas.j1 kj4 a0 a1 a2 t109 x8_4 true) else ((vers_Has.f kj4 a0 a2).bind fun t111 => ((changeoverref07_Has.f a0 a2).bind fun t112 => (if (t111 != t112) = true then (changeoverlaw07_VersHas.j1 kj4 a0 a1 a2 t109 x8_4 true) else ((vers_Has.f kj4 a1 a2).bind fun t113 => ((changeoverref07_Has.f a1 a2).bind fun t114 => (changeoverlaw07_VersHas.j1 kj4 a0 a1 a2 t109 x8_4 (t113 != t114)))))))) else (if (t110 != (a0 == 2)) = true then (changeoverlaw07_VersHas.j1 kj4 a0 a1 a2 t109 x8_4 true) else ((vers_Has.f kj4 a0 a2).bind fun t115 => ((changeoverref07_Has.f a0 a2).bind fun t116 => (if (t115 != t116) = true then (changeoverlaw07_VersHas.j1 kj4 a0 a1 a2 t109 x8_4 true) else ((vers_Has.f kj4 a1 a2).bind fun t117 => ((changeoverref07_Has.f a1 a2).bind fun t118 => (changeoverlaw07_VersHas.j1 kj4 a0 a1 a2 t109 x8_4 (t117 != t118))))))))) = some r := H
        have A11 := Aside0.mk A110
        clear A110
        by_cases c12 : a0 = 1
        · rw [if_pos c12] at H
          have c12b0 : (a0 == 1) = true := beq_iff_eq.mpr c12
          have c12b1 : (a0 != 1) = false := bne_eq_false_iff_eq.mpr c12
          clear c12
          (first | rw [c12b0] | (simp only [i64_w, i32_w]; rw [c12b0]) | skip)
          by_cases c13 : (t110 != true) = true
          · rw [if_pos c13] at H
            have c13b0 : (t110 != true) = true := c13
            (try (have c13b1 : decide (t110 = true) = false := by simpa using c13))
            (try (have c13b2 : (t110 == true) = false := by simpa using c13))
            (try (have c13b3 : ¬ (t110 = true) := by simpa using c13))
            clear c13
            have H' := Aside0.mk H
            clear H
            go_wp2_with (first | ((with_reducible refine gate_callee (f := 16) rfl ?_); refine goesL_ (some 27) rfl rfl Try.func16 (by kernel_rfl) rfl #[.int .i64 a0] rfl (by (try simp only [List.map_toArray, List.map_cons, List.map_nil]); first | done | rfl | (simp only [List.length_drop, List.length_take]; rfl)) ?_; (with_reducible refine (vers_May.calls a0 t110 _ A11.out).mono ?_); rintro e w' ⟨rfl, ⟨nd, rfl⟩⟩; refine ⟨_, rfl, ?_⟩))
            go_meet
            case rel => exact ⟨_, (true), (by first | rfl | (simp; done) | (simp [*]; done)), H', ⟨by have := HJ4.out; first | omega | exact Nat.le_refl _⟩, ⟨by repeat (first | (with_reducible first | exact HB.out | apply below_alloc | apply pw_below_drewN | apply below_drew1) | exact HB.out)⟩⟩
          · rw [if_neg c13] at H
            have c13b0 : (t110 != true) = false := by simpa using c13
            (try (have c13b1 : decide (t110 = true) = true := by simpa using c13))
            (try (have c13b2 : (t110 == true) = true := by simpa using c13))
            clear c13
            replace H := Option.bind_eq_some_iff.mp H
            obtain ⟨t111, A140, H⟩ := H
            replace H : ((changeoverref07_Has.f a0 a2).bind fun t112 => (if (t111 != t112) = true then (changeoverlaw07_VersHas.j1 kj4 a0 a1 a2 t109 x8_4 true) else ((vers_Has.f kj4 a1 a2).bind fun t113 => ((changeoverref07_Has.f a1 a2).bind fun t114 => (changeoverlaw07_VersHas.j1 kj4 a0 a1 a2 t109 x8_4 (t113 != t114)))))) = some r := H
            have A14 := Aside0.mk A140
            clear A140
            replace H := Option.bind_eq_some_iff.mp H
            obtain ⟨t112, A150, H⟩ := H
            replace H : (if (t111 != t112) = true then (changeoverlaw07_VersHas.j1 kj4 a0 a1 a2 t109 x8_4 true) else ((vers_Has.f kj4 a1 a2).bind fun t113 => ((changeoverref07_Has.f a1 a2).bind fun t114 => (changeoverlaw07_VersHas.j1 kj4 a0 a1 a2 t109 x8_4 (t113 != t114))))) = some r := H
            have A15 := Aside0.mk A150
            clear A150
            by_cases c16 : (t111 != t112) = true
            · rw [if_pos c16] at H
              have c16b0 : (t111 != t112) = true := c16
              (try (have c16b1 : decide (t111 = t112) = false := by simpa using c16))
              (try (have c16b2 : (t111 == t112) = false := by simpa using c16))
              (try (have c16b3 : ¬ (t111 = t112) := by simpa using c16))
              clear c16
              have H' := Aside0.mk H
              clear H
              go_wp2_with (first | ((with_reducible refine gate_callee (f := 16) rfl ?_); refine goesL_ (some 27) rfl rfl Try.func16 (by kernel_rfl) rfl #[.int .i64 a0] rfl (by (try simp only [List.map_toArray, List.map_cons, List.map_nil]); first | done | rfl | (simp only [List.length_drop, List.length_take]; rfl)) ?_; (with_reducible refine (vers_May.calls a0 t110 _ A11.out).mono ?_); rintro e w' ⟨rfl, ⟨nd, rfl⟩⟩; refine ⟨_, rfl, ?_⟩) | (go_at_call 17; (with_reducible refine (vers_Has.calls kj4 a0 a2 t111 _ A14.out).mono ?_); rintro e w' ⟨rfl, ⟨nd, rfl⟩⟩) | (go_at_call 18; (with_reducible refine (changeoverref07_Has.calls a0 a2 t112 _ A15.out).mono ?_); rintro e w' ⟨rfl, ⟨nd, rfl⟩⟩))
              go_meet
              case rel => exact ⟨_, (true), (by first | rfl | (simp; done) | (simp [*]; done)), H', ⟨by have := HJ4.out; first | omega | exact Nat.le_refl _⟩, ⟨by repeat (first | (with_reducible first | exact HB.out | apply below_alloc | apply pw_below_drewN | apply below_drew1) | exact HB.out)⟩⟩
            · rw [if_neg c16] at H
              have c16b0 : (t111 != t112) = false := by simpa using c16
              (try (have c16b1 : decide (t111 = t112) = true := by simpa using c16))
              (try (have c16b2 : (t111 == t112) = true := by simpa using c16))
              clear c16
              replace H := Option.bind_eq_some_iff.mp H
              obtain ⟨t113, A170, H⟩ := H
              replace H : ((changeoverref07_Has.f a1 a2).bind fun t114 => (changeoverlaw07_VersHas.j1 kj4 a0 a1 a2 t109 x8_4 (t113 != t114))) = some r := H
              have A17 := Aside0.mk A170
              clear A170
              replace H := Option.bind_eq_some_iff.mp H
              obtain ⟨t114, A180, H⟩ := H
              replace H : (changeoverlaw07_VersHas.j1 kj4 a0 a1 a2 t109 x8_4 (t113 != t114)) = some r := H
              have A18 := Aside0.mk A180
              clear A180
              have H' := Aside0.mk H
              clear H
              go_wp2_with (first | ((with_reducible refine gate_callee (f := 16) rfl ?_); refine goesL_ (some 27) rfl rfl Try.func16 (by kernel_rfl) rfl #[.int .i64 a0] rfl (by (try simp only [List.map_toArray, List.map_cons, List.map_nil]); first | done | rfl | (simp only [List.length_drop, List.length_take]; rfl)) ?_; (with_reducible refine (vers_May.calls a0 t110 _ A11.out).mono ?_); rintro e w' ⟨rfl, ⟨nd, rfl⟩⟩; refine ⟨_, rfl, ?_⟩) | (go_at_call 17; (with_reducible refine (vers_Has.calls kj4 a0 a2 t111 _ A14.out).mono ?_); rintro e w' ⟨rfl, ⟨nd, rfl⟩⟩) | (go_at_call 18; (with_reducible refine (changeoverref07_Has.calls a0 a2 t112 _ A15.out).mono ?_); rintro e w' ⟨rfl, ⟨nd, rfl⟩⟩) | (go_at_call 17; (with_reducible refine (vers_Has.calls kj4 a1 a2 t113 _ A17.out).mono ?_); rintro e w' ⟨rfl, ⟨nd, rfl⟩⟩) | (go_at_call 18; (with_reducible refine (changeoverref07_Has.calls a1 a2 t114 _ A18.out).mono ?_); rintro e w' ⟨rfl, ⟨nd, rfl⟩⟩))
              go_meet
              case rel => exact ⟨_, ((t113 != t114)), (by first | rfl | (simp; done) | (simp [*]; done)), H', ⟨by have := HJ4.out; first | omega | exact Nat.le_refl _⟩, ⟨by repeat (first | (with_reducible first | exact HB.out | apply below_alloc | apply pw_below_drewN | apply below_drew1) | exact HB.out)⟩⟩
        · rw [if_neg c12] at H
          have c12b0 : (a0 == 1) = false := beq_eq_false_iff_ne.mpr c12
          have c12b1 : (a0 != 1) = true := bne_iff_ne.mpr c12
          (first | rw [c12b0] | (simp only [i64_w, i32_w]; rw [c12b0]) | skip)
          by_cases c19 : (t110 != (a0 == 2)) = true
          · rw [if_pos c19] at H
            have c19b0 : (t110 != (a0 == 2)) = true := c19
            (try (have c19b1 : decide (t110 = (a0 == 2)) = false := by simpa using c19))
            (try (have c19b2 : (t110 == (a0 == 2)) = false := by simpa using c19))
            (try (have c19b3 : ¬ (t110 = (a0 == 2)) := by simpa using c19))
            clear c19
            have H' := Aside0.mk H
            clear H
            go_wp2_with (first | ((with_reducible refine gate_callee (f := 16) rfl ?_); refine goesL_ (some 27) rfl rfl Try.func16 (by kernel_rfl) rfl #[.int .i64 a0] rfl (by (try simp only [List.map_toArray, List.map_cons, List.map_nil]); first | done | rfl | (simp only [List.length_drop, List.length_take]; rfl)) ?_; (with_reducible refine (vers_May.calls a0 t110 _ A11.out).mono ?_); rintro e w' ⟨rfl, ⟨nd, rfl⟩⟩; refine ⟨_, rfl, ?_⟩))
            go_meet
            case rel => exact ⟨_, (true), (by first | rfl | (simp; done) | (simp [*]; done)), H', ⟨by have := HJ4.out; first | omega | exact Nat.le_refl _⟩, ⟨by repeat (first | (with_reducible first | exact HB.out | apply below_alloc | apply pw_below_drewN | apply below_drew1) | exact HB.out)⟩⟩
          · rw [if_neg c19] at H
            have c19b0 : (t110 != (a0 == 2)) = false := by simpa using c19
            (try (have c19b1 : decide (t110 = (a0 == 2)) = true := by simpa using c19))
            (try (have c19b2 : (t110 == (a0 == 2)) = true := by simpa using c19))
            clear c19
            replace H := Option.bind_eq_some_iff.mp H
            obtain ⟨t115, A200, H⟩ := H
            replace H : ((changeoverref07_Has.f a0 a2).bind fun t116 => (if (t115 != t116) = true then (changeoverlaw07_VersHas.j1 kj4 a0 a1 a2 t109 x8_4 true) else ((vers_Has.f kj4 a1 a2).bind fun t117 => ((changeoverref07_Has.f a1 a2).bind fun t118 => (changeoverlaw07_VersHas.j1 kj4 a0 a1 a2 t109 x8_4 (t117 != t118)))))) = some r := H
            have A20 := Aside0.mk A200
            clear A200
            replace H := Option.bind_eq_some_iff.mp H
            obtain ⟨t116, A210, H⟩ := H
            replace H : (if (t115 != t116) = true then (changeoverlaw07_VersHas.j1 kj4 a0 a1 a2 t109 x8_4 true) else ((vers_Has.f kj4 a1 a2).bind fun t117 => ((changeoverref07_Has.f a1 a2).bind fun t118 => (changeoverlaw07_VersHas.j1 kj4 a0 a1 a2 t109 x8_4 (t117 != t118))))) = some r := H
            have A21 := Aside0.mk A210
            clear A210
            by_cases c22 : (t115 != t116) = true
            · rw [if_pos c22] at H
              have c22b0 : (t115 != t116) = true := c22
              (try (have c22b1 : decide (t115 = t116) = false := by simpa using c22))
              (try (have c22b2 : (t115 == t116) = false := by simpa using c22))
              (try (have c22b3 : ¬ (t115 = t116) := by simpa using c22))
              clear c22
              have H' := Aside0.mk H
              clear H
              go_wp2_with (first | ((with_reducible refine gate_callee (f := 16) rfl ?_); refine goesL_ (some 27) rfl rfl Try.func16 (by kernel_rfl) rfl #[.int .i64 a0] rfl (by (try simp only [List.map_toArray, List.map_cons, List.map_nil]); first | done | rfl | (simp only [List.length_drop, List.length_take]; rfl)) ?_; (with_reducible refine (vers_May.calls a0 t110 _ A11.out).mono ?_); rintro e w' ⟨rfl, ⟨nd, rfl⟩⟩; refine ⟨_, rfl, ?_⟩) | (go_at_call 17; (with_reducible refine (vers_Has.calls kj4 a0 a2 t115 _ A20.out).mono ?_); rintro e w' ⟨rfl, ⟨nd, rfl⟩⟩) | (go_at_call 18; (with_reducible refine (changeoverref07_Has.calls a0 a2 t116 _ A21.out).mono ?_); rintro e w' ⟨rfl, ⟨nd, rfl⟩⟩))
              go_meet
              case rel => exact ⟨_, (true), (by first | rfl | (simp; done) | (simp [*]; done)), H', ⟨by have := HJ4.out; first | omega | exact Nat.le_refl _⟩, ⟨by repeat (first | (with_reducible first | exact HB.out | apply below_alloc | apply pw_below_drewN | apply below_drew1) | exact HB.out)⟩⟩
            · rw [if_neg c22] at H
              have c22b0 : (t115 != t116) = false := by simpa using c22
              (try (have c22b1 : decide (t115 = t116) = true := by simpa using c22))
              (try (have c22b2 : (t115 == t116) = true := by simpa using c22))
              clear c22
              replace H := Option.bind_eq_some_iff.mp H
              obtain ⟨t117, A230, H⟩ := H
              replace H : ((changeoverref07_Has.f a1 a2).bind fun t118 => (changeoverlaw07_VersHas.j1 kj4 a0 a1 a2 t109 x8_4 (t117 != t118))) = some r := H
              have A23 := Aside0.mk A230
              clear A230
              replace H := Option.bind_eq_some_iff.mp H
              obtain ⟨t118, A240, H⟩ := H
              replace H : (changeoverlaw07_VersHas.j1 kj4 a0 a1 a2 t109 x8_4 (t117 != t118)) = some r := H
              have A24 := Aside0.mk A240
              clear A240
              have H' := Aside0.mk H
              clear H
              go_wp2_with (first | ((with_reducible refine gate_callee (f := 16) rfl ?_); refine goesL_ (some 27) rfl rfl Try.func16 (by kernel_rfl) rfl #[.int .i64 a0] rfl (by (try simp only [List.map_toArray, List.map_cons, List.map_nil]); first | done | rfl | (simp only [List.length_drop, List.length_take]; rfl)) ?_; (with_reducible refine (vers_May.calls a0 t110 _ A11.out).mono ?_); rintro e w' ⟨rfl, ⟨nd, rfl⟩⟩; refine ⟨_, rfl, ?_⟩) | (go_at_call 17; (with_reducible refine (vers_Has.calls kj4 a0 a2 t115 _ A20.out).mono ?_); rintro e w' ⟨rfl, ⟨nd, rfl⟩⟩) | (go_at_call 18; (with_reducible refine (changeoverref07_Has.calls a0 a2 t116 _ A21.out).mono ?_); rintro e w' ⟨rfl, ⟨nd, rfl⟩⟩) | (go_at_call 17; (with_reducible refine (vers_Has.calls kj4 a1 a2 t117 _ A23.out).mono ?_); rintro e w' ⟨rfl, ⟨nd, rfl⟩⟩) | (go_at_call 18; (with_reducible refine (changeoverref07_Has.calls a1 a2 t118 _ A24.out).mono ?_); rintro e w' ⟨rfl, ⟨nd, rfl⟩⟩))
              go_meet
              case rel => exact ⟨_, ((t117 != t118)), (by first | rfl | (simp; done) | (simp [*]; done)), H', ⟨by have := HJ4.out; first | omega | exact Nat.le_refl _⟩, ⟨by repeat (first | (with_reducible first | exact HB.out | apply below_alloc | apply pw_below_drewN | apply below_drew1) | exact HB.out)⟩⟩
      case rest =>
        clear HC10
        try clear c1
        try clear c2
        try clear p2
        try clear c4
        try clear c7
        try clear c7b0
        try clear c8
        try clear c8b0
        try clear c9
        try clear c9b0
        try clear c12
        try clear c12b0
        try clear c12b1
        try clear c13
        try clear c13b0
        try clear c13b1
        try clear c13b2
        try clear c15
        try clear c16
        try clear c16b0
        try clear c16b1
        try clear c16b2
        try clear c19
        try clear c19b0
        try clear c19b1
        try clear c19b2
        try clear c22
        try clear c22b0
        try clear c22b1
        try clear c22b2
        try clear p2
        obtain ⟨kq, x52_9, rfl, HA, HJ9, HB⟩ := hcut
        cases kq with
        | zero => exact absurd HA.out (by simp [changeoverlaw07_VersHas.j1])
        | succ kj9 =>
          have H := HA.out
          clear HA
          simp only [changeoverlaw07_VersHas.j1] at H
          by_cases c25 : x52_9 = true
          · subst c25
            have H1 : (some false) = some r := by rw [if_pos rfl] at H; exact H
            clear H
            have H := H1
            clear H1
            obtain rfl := Option.some.inj H
            go_wp2
            go_ret
            exact ⟨by first | rfl | (simp [errW_none, errW_some] <;> rfl) | (simp [*, errW_none, errW_some] <;> rfl), by repeat (first | (with_reducible first | exact HB.out | apply below_alloc | apply pw_below_drewN | apply below_drew1) | exact HB.out)⟩
          · replace c25 := Bool.eq_false_iff.mpr c25
            subst c25
            have H1 : (if x8_4 = true then (if t109 = a0 then (if t109 ≤ a0 then (if t109 ≤ a1 then ((vers_Has.f kj9 t109 a2).bind fun t120 => ((changeoverref07_Has.f a0 a2).bind fun t121 => (if t121 = true then ((changeoverref07_Has.f a1 a2).bind fun t122 => (if (t120 == t122) = true then ((changeoverlaw07_awake.f kj9).bind fun t123 => (some t123)) else (some false))) else (if (t120 == false) = true then ((changeoverlaw07_awake.f kj9).bind fun t124 => (some t124)) else (some false))))) else (some false)) else (some false)) else (if t109 = a1 then (if t109 ≤ a0 then (if t109 ≤ a1 then ((vers_Has.f kj9 t109 a2).bind fun t125 => ((changeoverref07_Has.f a0 a2).bind fun t126 => (if t126 = true then ((changeoverref07_Has.f a1 a2).bind fun t127 => (if (t125 == t127) = true then ((changeoverlaw07_awake.f kj9).bind fun t128 => (some t128)) else (some false))) else (if (t125 == false) = true then ((changeoverlaw07_awake.f kj9).bind fun t129 => (some t129)) else (some false))))) else (some false)) else (some false)) else (some false))) else (if t109 = 0 then ((changeoverlaw07_awake.f kj9).bind fun t119 => (some t119)) else (some false))) = some r := by rw [if_neg (show ¬ (false = true) by decide)] at H; exact H
            clear H
            have H := H1
            clear H1
            by_cases c26 : x8_4 = true
            · subst c26
              have H1 : (if t109 = a0 then (if t109 ≤ a0 then (if t109 ≤ a1 then ((vers_Has.f kj9 t109 a2).bind fun t120 => ((changeoverref07_Has.f a0 a2).bind fun t121 => (if t121 = true then ((changeoverref07_Has.f a1 a2).bind fun t122 => (if (t120 == t122) = true then ((changeoverlaw07_awake.f kj9).bind fun t123 => (some t123)) else (some false))) else (if (t120 == false) = true then ((changeoverlaw07_awake.f kj9).bind fun t124 => (some t124)) else (some false))))) else (some false)) else (some false)) else (if t109 = a1 then (if t109 ≤ a0 then (if t109 ≤ a1 then ((vers_Has.f kj9 t109 a2).bind fun t125 => ((changeoverref07_Has.f a0 a2).bind fun t126 => (if t126 = true then ((changeoverref07_Has.f a1 a2).bind fun t127 => (if (t125 == t127) = true then ((changeoverlaw07_awake.f kj9).bind fun t128 => (some t128)) else (some false))) else (if (t125 == false) = true then ((changeoverlaw07_awake.f kj9).bind fun t129 => (some t129)) else (some false))))) else (some false)) else (some false)) else (some false))) = some r := by rw [if_pos rfl] at H; exact H
              clear H
              have H := H1
              clear H1
              by_cases c27 : t109 = a0
              · rw [if_pos c27] at H
                have c27b0 : (t109 == a0) = true := beq_iff_eq.mpr c27
                have c27b1 : (t109 != a0) = false := bne_eq_false_iff_eq.mpr c27
                clear c27
                by_cases c28 : t109 ≤ a0
                · rw [if_pos c28] at H
                  have c28b0 : decide (t109 ≤ a0) = true := decide_eq_true c28
                  clear c28
                  by_cases c29 : t109 ≤ a1
                  · rw [if_pos c29] at H
                    have c29b0 : decide (t109 ≤ a1) = true := decide_eq_true c29
                    clear c29
                    replace H := Option.bind_eq_some_iff.mp H
                    obtain ⟨t120, A300, H⟩ := H
                    replace H : ((changeoverref07_Has.f a0 a2).bind fun t121 => (if t121 = true then ((changeoverref07_Has.f a1 a2).bind fun t122 => (if (t120 == t122) = true then ((changeoverlaw07_awake.f kj9).bind fun t123 => (some t123)) else (some false))) else (if (t120 == false) = true then ((changeoverlaw07_awake.f kj9).bind fun t124 => (some t124)) else (some false)))) = some r := H
                    have A30 := Aside0.mk A300
                    clear A300
                    replace H := Option.bind_eq_some_iff.mp H
                    obtain ⟨t121, A310, H⟩ := H
                    replace H : (if t121 = true then ((changeoverref07_Has.f a1 a2).bind fun t122 => (if (t120 == t122) = true then ((changeoverlaw07_awake.f kj9).bind fun t123 => (some t123)) else (some false))) else (if (t120 == false) = true then ((changeoverlaw07_awake.f kj9).bind fun t124 => (some t124)) else (some false))) = some r := H
                    have A31 := Aside0.mk A310
                    clear A310
                    by_cases c32 : t121 = true
                    · subst c32
                      have H1 : ((changeoverref07_Has.f a1 a2).bind fun t122 => (if (t120 == t122) = true then ((changeoverlaw07_awake.f kj9).bind fun t123 => (some t123)) else (some false))) = some r := by rw [if_pos rfl] at H; exact H
                      clear H
                      have H := H1
                      clear H1
                      replace H := Option.bind_eq_some_iff.mp H
                      obtain ⟨t122, A330, H⟩ := H
                      replace H : (if (t120 == t122) = true then ((changeoverlaw07_awake.f kj9).bind fun t123 => (some t123)) else (some false)) = some r := H
                      have A33 := Aside0.mk A330
                      clear A330
                      by_cases c34 : (t120 == t122) = true
                      · rw [if_pos c34] at H
                        have c34b0 : (t120 == t122) = true := c34
                        (try (have c34b1 : decide (t120 = t122) = true := by simpa using c34))
                        (try (have c34b2 : (t120 == t122) = true := by simpa using c34))
                        clear c34
                        replace H := Option.bind_eq_some_iff.mp H
                        obtain ⟨t123, A350, H⟩ := H
                        replace H : (some t123) = some r := H
                        have A35 := Aside0.mk A350
                        clear A350
                        obtain rfl := Option.some.inj H
                        go_wp2_with (first | (go_at_call 17; (with_reducible refine (vers_Has.calls kj9 t109 a2 t120 _ A30.out).mono ?_); rintro e w' ⟨rfl, ⟨nd, rfl⟩⟩) | (go_at_call 18; (with_reducible refine (changeoverref07_Has.calls a0 a2 true _ A31.out).mono ?_); rintro e w' ⟨rfl, ⟨nd, rfl⟩⟩) | (go_at_call 18; (with_reducible refine (changeoverref07_Has.calls a1 a2 t122 _ A33.out).mono ?_); rintro e w' ⟨rfl, ⟨nd, rfl⟩⟩) | (go_at_call 14; (with_reducible refine (changeoverlaw07_awake.calls kj9  t123 _ A35.out).mono ?_); rintro e w36 ⟨rfl, hb⟩; have n0_ := Aside0.mk (below_step (by repeat (first | (with_reducible first | exact HB.out | apply below_alloc | apply pw_below_drewN | apply below_drew1) | exact HB.out)) hb); clear HB; have HB := n0_; clear n0_; (try clear hb); (try clear hb2); (try clear hk); (try clear hi)))
                        go_ret
                        exact ⟨by first | rfl | (simp [errW_none, errW_some] <;> rfl) | (simp [*, errW_none, errW_some] <;> rfl), by repeat (first | (with_reducible first | exact HB.out | apply below_alloc | apply pw_below_drewN | apply below_drew1) | exact HB.out)⟩
                      · rw [if_neg c34] at H
                        have c34b0 : (t120 == t122) = false := by simpa using c34
                        (try (have c34b1 : decide (t120 = t122) = false := by simpa using c34))
                        (try (have c34b2 : (t120 == t122) = false := by simpa using c34))
                        (try (have c34b3 : ¬ (t120 = t122) := by simpa using c34))
                        clear c34
                        obtain rfl := Option.some.inj H
                        go_wp2_with (first | (go_at_call 17; (with_reducible refine (vers_Has.calls kj9 t109 a2 t120 _ A30.out).mono ?_); rintro e w' ⟨rfl, ⟨nd, rfl⟩⟩) | (go_at_call 18; (with_reducible refine (changeoverref07_Has.calls a0 a2 true _ A31.out).mono ?_); rintro e w' ⟨rfl, ⟨nd, rfl⟩⟩) | (go_at_call 18; (with_reducible refine (changeoverref07_Has.calls a1 a2 t122 _ A33.out).mono ?_); rintro e w' ⟨rfl, ⟨nd, rfl⟩⟩))
                        go_ret
                        exact ⟨by first | rfl | (simp [errW_none, errW_some] <;> rfl) | (simp [*, errW_none, errW_some] <;> rfl), by repeat (first | (with_reducible first | exact HB.out | apply below_alloc | apply pw_below_drewN | apply below_drew1) | exact HB.out)⟩
                    · replace c32 := Bool.eq_false_iff.mpr c32
                      subst c32
                      have H1 : (if (t120 == false) = true then ((changeoverlaw07_awake.f kj9).bind fun t124 => (some t124)) else (some false)) = some r := by rw [if_neg (show ¬ (false = true) by decide)] at H; exact H
                      clear H
                      have H := H1
                      clear H1
                      by_cases c37 : (t120 == false) = true
                      · rw [if_pos c37] at H
                        have c37b0 : (t120 == false) = true := c37
                        (try (have c37b1 : decide (t120 = false) = true := by simpa using c37))
                        (try (have c37b2 : (t120 == false) = true := by simpa using c37))
                        clear c37
                        replace H := Option.bind_eq_some_iff.mp H
                        obtain ⟨t124, A380, H⟩ := H
                        replace H : (some t124) = some r := H
                        have A38 := Aside0.mk A380
                        clear A380
                        obtain rfl := Option.some.inj H
                        go_wp2_with (first | (go_at_call 17; (with_reducible refine (vers_Has.calls kj9 t109 a2 t120 _ A30.out).mono ?_); rintro e w' ⟨rfl, ⟨nd, rfl⟩⟩) | (go_at_call 18; (with_reducible refine (changeoverref07_Has.calls a0 a2 false _ A31.out).mono ?_); rintro e w' ⟨rfl, ⟨nd, rfl⟩⟩) | (go_at_call 14; (with_reducible refine (changeoverlaw07_awake.calls kj9  t124 _ A38.out).mono ?_); rintro e w39 ⟨rfl, hb⟩; have n0_ := Aside0.mk (below_step (by repeat (first | (with_reducible first | exact HB.out | apply below_alloc | apply pw_below_drewN | apply below_drew1) | exact HB.out)) hb); clear HB; have HB := n0_; clear n0_; (try clear hb); (try clear hb2); (try clear hk); (try clear hi)))
                        go_ret
                        exact ⟨by first | rfl | (simp [errW_none, errW_some] <;> rfl) | (simp [*, errW_none, errW_some] <;> rfl), by repeat (first | (with_reducible first | exact HB.out | apply below_alloc | apply pw_below_drewN | apply below_drew1) | exact HB.out)⟩
                      · rw [if_neg c37] at H
                        have c37b0 : (t120 == false) = false := by simpa using c37
                        (try (have c37b1 : decide (t120 = false) = false := by simpa using c37))
                        (try (have c37b2 : (t120 == false) = false := by simpa using c37))
                        (try (have c37b3 : ¬ (t120 = false) := by simpa using c37))
                        clear c37
                        obtain rfl := Option.some.inj H
                        go_wp2_with (first | (go_at_call 17; (with_reducible refine (vers_Has.calls kj9 t109 a2 t120 _ A30.out).mono ?_); rintro e w' ⟨rfl, ⟨nd, rfl⟩⟩) | (go_at_call 18; (with_reducible refine (changeoverref07_Has.calls a0 a2 false _ A31.out).mono ?_); rintro e w' ⟨rfl, ⟨nd, rfl⟩⟩))
                        go_ret
                        exact ⟨by first | rfl | (simp [errW_none, errW_some] <;> rfl) | (simp [*, errW_none, errW_some] <;> rfl), by repeat (first | (with_reducible first | exact HB.out | apply below_alloc | apply pw_below_drewN | apply below_drew1) | exact HB.out)⟩
                  · rw [if_neg c29] at H
                    have c29b0 : decide (t109 ≤ a1) = false := decide_eq_false c29
                    clear c29
                    obtain rfl := Option.some.inj H
                    go_wp2
                    go_ret
                    exact ⟨by first | rfl | (simp [errW_none, errW_some] <;> rfl) | (simp [*, errW_none, errW_some] <;> rfl), by repeat (first | (with_reducible first | exact HB.out | apply below_alloc | apply pw_below_drewN | apply below_drew1) | exact HB.out)⟩
                · rw [if_neg c28] at H
                  have c28b0 : decide (t109 ≤ a0) = false := decide_eq_false c28
                  clear c28
                  obtain rfl := Option.some.inj H
                  go_wp2
                  go_ret
                  exact ⟨by first | rfl | (simp [errW_none, errW_some] <;> rfl) | (simp [*, errW_none, errW_some] <;> rfl), by repeat (first | (with_reducible first | exact HB.out | apply below_alloc | apply pw_below_drewN | apply below_drew1) | exact HB.out)⟩
              · rw [if_neg c27] at H
                have c27b0 : (t109 == a0) = false := beq_eq_false_iff_ne.mpr c27
                have c27b1 : (t109 != a0) = true := bne_iff_ne.mpr c27
                by_cases c40 : t109 = a1
                · rw [if_pos c40] at H
                  have c40b0 : (t109 == a1) = true := beq_iff_eq.mpr c40
                  have c40b1 : (t109 != a1) = false := bne_eq_false_iff_eq.mpr c40
                  clear c40
                  by_cases c41 : t109 ≤ a0
                  · rw [if_pos c41] at H
                    have c41b0 : decide (t109 ≤ a0) = true := decide_eq_true c41
                    clear c41
                    by_cases c42 : t109 ≤ a1
                    · rw [if_pos c42] at H
                      have c42b0 : decide (t109 ≤ a1) = true := decide_eq_true c42
                      clear c42
                      replace H := Option.bind_eq_some_iff.mp H
                      obtain ⟨t125, A430, H⟩ := H
                      replace H : ((changeoverref07_Has.f a0 a2).bind fun t126 => (if t126 = true then ((changeoverref07_Has.f a1 a2).bind fun t127 => (if (t125 == t127) = true then ((changeoverlaw07_awake.f kj9).bind fun t128 => (some t128)) else (some false))) else (if (t125 == false) = true then ((changeoverlaw07_awake.f kj9).bind fun t129 => (some t129)) else (some false)))) = some r := H
                      have A43 := Aside0.mk A430
                      clear A430
                      replace H := Option.bind_eq_some_iff.mp H
                      obtain ⟨t126, A440, H⟩ := H
                      replace H : (if t126 = true then ((changeoverref07_Has.f a1 a2).bind fun t127 => (if (t125 == t127) = true then ((changeoverlaw07_awake.f kj9).bind fun t128 => (some t128)) else (some false))) else (if (t125 == false) = true then ((changeoverlaw07_awake.f kj9).bind fun t129 => (some t129)) else (some false))) = some r := H
                      have A44 := Aside0.mk A440
                      clear A440
                      by_cases c45 : t126 = true
                      · subst c45
                        have H1 : ((changeoverref07_Has.f a1 a2).bind fun t127 => (if (t125 == t127) = true then ((changeoverlaw07_awake.f kj9).bind fun t128 => (some t128)) else (some false))) = some r := by rw [if_pos rfl] at H; exact H
                        clear H
                        have H := H1
                        clear H1
                        replace H := Option.bind_eq_some_iff.mp H
                        obtain ⟨t127, A460, H⟩ := H
                        replace H : (if (t125 == t127) = true then ((changeoverlaw07_awake.f kj9).bind fun t128 => (some t128)) else (some false)) = some r := H
                        have A46 := Aside0.mk A460
                        clear A460
                        by_cases c47 : (t125 == t127) = true
                        · rw [if_pos c47] at H
                          have c47b0 : (t125 == t127) = true := c47
                          (try (have c47b1 : decide (t125 = t127) = true := by simpa using c47))
                          (try (have c47b2 : (t125 == t127) = true := by simpa using c47))
                          clear c47
                          replace H := Option.bind_eq_some_iff.mp H
                          obtain ⟨t128, A480, H⟩ := H
                          replace H : (some t128) = some r := H
                          have A48 := Aside0.mk A480
                          clear A480
                          obtain rfl := Option.some.inj H
                          go_wp2_with (first | (go_at_call 17; (with_reducible refine (vers_Has.calls kj9 t109 a2 t125 _ A43.out).mono ?_); rintro e w' ⟨rfl, ⟨nd, rfl⟩⟩) | (go_at_call 18; (with_reducible refine (changeoverref07_Has.calls a0 a2 true _ A44.out).mono ?_); rintro e w' ⟨rfl, ⟨nd, rfl⟩⟩) | (go_at_call 18; (with_reducible refine (changeoverref07_Has.calls a1 a2 t127 _ A46.out).mono ?_); rintro e w' ⟨rfl, ⟨nd, rfl⟩⟩) | (go_at_call 14; (with_reducible refine (changeoverlaw07_awake.calls kj9  t128 _ A48.out).mono ?_); rintro e w49 ⟨rfl, hb⟩; have n0_ := Aside0.mk (below_step (by repeat (first | (with_reducible first | exact HB.out | apply below_alloc | apply pw_below_drewN | apply below_drew1) | exact HB.out)) hb); clear HB; have HB := n0_; clear n0_; (try clear hb); (try clear hb2); (try clear hk); (try clear hi)))
                          go_ret
                          exact ⟨by first | rfl | (simp [errW_none, errW_some] <;> rfl) | (simp [*, errW_none, errW_some] <;> rfl), by repeat (first | (with_reducible first | exact HB.out | apply below_alloc | apply pw_below_drewN | apply below_drew1) | exact HB.out)⟩
                        · rw [if_neg c47] at H
                          have c47b0 : (t125 == t127) = false := by simpa using c47
                          (try (have c47b1 : decide (t125 = t127) = false := by simpa using c47))
                          (try (have c47b2 : (t125 == t127) = false := by simpa using c47))
                          (try (have c47b3 : ¬ (t125 = t127) := by simpa using c47))
                          clear c47
                          obtain rfl := Option.some.inj H
                          go_wp2_with (first | (go_at_call 17; (with_reducible refine (vers_Has.calls kj9 t109 a2 t125 _ A43.out).mono ?_); rintro e w' ⟨rfl, ⟨nd, rfl⟩⟩) | (go_at_call 18; (with_reducible refine (changeoverref07_Has.calls a0 a2 true _ A44.out).mono ?_); rintro e w' ⟨rfl, ⟨nd, rfl⟩⟩) | (go_at_call 18; (with_reducible refine (changeoverref07_Has.calls a1 a2 t127 _ A46.out).mono ?_); rintro e w' ⟨rfl, ⟨nd, rfl⟩⟩))
                          go_ret
                          exact ⟨by first | rfl | (simp [errW_none, errW_some] <;> rfl) | (simp [*, errW_none, errW_some] <;> rfl), by repeat (first | (with_reducible first | exact HB.out | apply below_alloc | apply pw_below_drewN | apply below_drew1) | exact HB.out)⟩
                      · replace c45 := Bool.eq_false_iff.mpr c45
                        subst c45
                        have H1 : (if (t125 == false) = true then ((changeoverlaw07_awake.f kj9).bind fun t129 => (some t129)) else (some false)) = some r := by rw [if_neg (show ¬ (false = true) by decide)] at H; exact H
                        clear H
                        have H := H1
                        clear H1
                        by_cases c50 : (t125 == false) = true
                        · rw [if_pos c50] at H
                          have c50b0 : (t125 == false) = true := c50
                          (try (have c50b1 : decide (t125 = false) = true := by simpa using c50))
                          (try (have c50b2 : (t125 == false) = true := by simpa using c50))
                          clear c50
                          replace H := Option.bind_eq_some_iff.mp H
                          obtain ⟨t129, A510, H⟩ := H
                          replace H : (some t129) = some r := H
                          have A51 := Aside0.mk A510
                          clear A510
                          obtain rfl := Option.some.inj H
                          go_wp2_with (first | (go_at_call 17; (with_reducible refine (vers_Has.calls kj9 t109 a2 t125 _ A43.out).mono ?_); rintro e w' ⟨rfl, ⟨nd, rfl⟩⟩) | (go_at_call 18; (with_reducible refine (changeoverref07_Has.calls a0 a2 false _ A44.out).mono ?_); rintro e w' ⟨rfl, ⟨nd, rfl⟩⟩) | (go_at_call 14; (with_reducible refine (changeoverlaw07_awake.calls kj9  t129 _ A51.out).mono ?_); rintro e w52 ⟨rfl, hb⟩; have n0_ := Aside0.mk (below_step (by repeat (first | (with_reducible first | exact HB.out | apply below_alloc | apply pw_below_drewN | apply below_drew1) | exact HB.out)) hb); clear HB; have HB := n0_; clear n0_; (try clear hb); (try clear hb2); (try clear hk); (try clear hi)))
                          go_ret
                          exact ⟨by first | rfl | (simp [errW_none, errW_some] <;> rfl) | (simp [*, errW_none, errW_some] <;> rfl), by repeat (first | (with_reducible first | exact HB.out | apply below_alloc | apply pw_below_drewN | apply below_drew1) | exact HB.out)⟩
                        · rw [if_neg c50] at H
                          have c50b0 : (t125 == false) = false := by simpa using c50
                          (try (have c50b1 : decide (t125 = false) = false := by simpa using c50))
                          (try (have c50b2 : (t125 == false) = false := by simpa using c50))
                          (try (have c50b3 : ¬ (t125 = false) := by simpa using c50))
                          clear c50
                          obtain rfl := Option.some.inj H
                          go_wp2_with (first | (go_at_call 17; (with_reducible refine (vers_Has.calls kj9 t109 a2 t125 _ A43.out).mono ?_); rintro e w' ⟨rfl, ⟨nd, rfl⟩⟩) | (go_at_call 18; (with_reducible refine (changeoverref07_Has.calls a0 a2 false _ A44.out).mono ?_); rintro e w' ⟨rfl, ⟨nd, rfl⟩⟩))
                          go_ret
                          exact ⟨by first | rfl | (simp [errW_none, errW_some] <;> rfl) | (simp [*, errW_none, errW_some] <;> rfl), by repeat (first | (with_reducible first | exact HB.out | apply below_alloc | apply pw_below_drewN | apply below_drew1) | exact HB.out)⟩
                    · rw [if_neg c42] at H
                      have c42b0 : decide (t109 ≤ a1) = false := decide_eq_false c42
                      clear c42
                      obtain rfl := Option.some.inj H
                      go_wp2
                      go_ret
                      exact ⟨by first | rfl | (simp [errW_none, errW_some] <;> rfl) | (simp [*, errW_none, errW_some] <;> rfl), by repeat (first | (with_reducible first | exact HB.out | apply below_alloc | apply pw_below_drewN | apply below_drew1) | exact HB.out)⟩
                  · rw [if_neg c41] at H
                    have c41b0 : decide (t109 ≤ a0) = false := decide_eq_false c41
                    clear c41
                    obtain rfl := Option.some.inj H
                    go_wp2
                    go_ret
                    exact ⟨by first | rfl | (simp [errW_none, errW_some] <;> rfl) | (simp [*, errW_none, errW_some] <;> rfl), by repeat (first | (with_reducible first | exact HB.out | apply below_alloc | apply pw_below_drewN | apply below_drew1) | exact HB.out)⟩
                · rw [if_neg c40] at H
                  have c40b0 : (t109 == a1) = false := beq_eq_false_iff_ne.mpr c40
                  have c40b1 : (t109 != a1) = true := bne_iff_ne.mpr c40
                  obtain rfl := Option.some.inj H
                  go_wp2
                  go_ret
                  exact ⟨by first | rfl | (simp [errW_none, errW_some] <;> rfl) | (simp [*, errW_none, errW_some] <;> rfl), by repeat (first | (with_reducible first | exact HB.out | apply below_alloc | apply pw_below_drewN | apply below_drew1) | exact HB.out)⟩
            · replace c26 := Bool.eq_false_iff.mpr c26
              subst c26
              have H1 : (if t109 = 0 then ((changeoverlaw07_awake.f kj9).bind fun t119 => (some t119)) else (some false)) = some r := by rw [if_neg (show ¬ (false = true) by decide)] at H; exact H
              clear H
              have H := H1
              clear H1
              by_cases c53 : t109 = 0
              · rw [if_pos c53] at H
                have c53b0 : (t109 == 0) = true := beq_iff_eq.mpr c53
                have c53b1 : (t109 != 0) = false := bne_eq_false_iff_eq.mpr c53
                clear c53
                replace H := Option.bind_eq_some_iff.mp H
                obtain ⟨t119, A540, H⟩ := H
                replace H : (some t119) = some r := H
                have A54 := Aside0.mk A540
                clear A540
                obtain rfl := Option.some.inj H
                go_wp2_with (first | (go_at_call 14; (with_reducible refine (changeoverlaw07_awake.calls kj9  t119 _ A54.out).mono ?_); rintro e w55 ⟨rfl, hb⟩; have n0_ := Aside0.mk (below_step (by repeat (first | (with_reducible first | exact HB.out | apply below_alloc | apply pw_below_drewN | apply below_drew1) | exact HB.out)) hb); clear HB; have HB := n0_; clear n0_; (try clear hb); (try clear hb2); (try clear hk); (try clear hi)))
                go_ret
                exact ⟨by first | rfl | (simp [errW_none, errW_some] <;> rfl) | (simp [*, errW_none, errW_some] <;> rfl), by repeat (first | (with_reducible first | exact HB.out | apply below_alloc | apply pw_below_drewN | apply below_drew1) | exact HB.out)⟩
              · rw [if_neg c53] at H
                have c53b0 : (t109 == 0) = false := beq_eq_false_iff_ne.mpr c53
                have c53b1 : (t109 != 0) = true := bne_iff_ne.mpr c53
                obtain rfl := Option.some.inj H
                go_wp2
                go_ret
                exact ⟨by first | rfl | (simp [errW_none, errW_some] <;> rfl) | (simp [*, errW_none, errW_some] <;> rfl), by repeat (first | (with_reducible first | exact HB.out | apply below_alloc | apply pw_below_drewN | apply below_drew1) | exact HB.out)⟩

/-- THE ONE PURE STATEMENT of changeoverlaw07_VersHas: yours. -/
def changeoverlaw07_VersHas.Pure : Prop := ∀ (a0 : Int) (a1 : Int) (a2 : Int), (Lit.int .i64 a0).wf = true → (Lit.int .i64 a1).wf = true → (Lit.int .i64 a2).wf = true → ∃ k, changeoverlaw07_VersHas.f k a0 a1 a2 = some true
theorem changeoverlaw07_VersHas.walk (P : changeoverlaw07_VersHas.Pure) (a0 : Int) (a1 : Int) (a2 : Int) (w : World) (w0 : (Lit.int .i64 a0).wf = true) (w1 : (Lit.int .i64 a1).wf = true) (w2 : (Lit.int .i64 a2).wf = true) :
    Calls Try.prog 4 #[.int .i64 a0, .int .i64 a1, .int .i64 a2] w fun e w' => e = .returned (.bool true) ∧ Below w.heap.size w w' := by
  obtain ⟨k, h⟩ := P a0 a1 a2 w0 w1 w2
  refine (changeoverlaw07_VersHas.calls k a0 a1 a2 true w h).mono ?_
  rintro e w' ⟨rfl, hd⟩
  exact ⟨rfl, hd⟩

end Go.Proofs.Ytopbldbgnpeelaa.PVersHas
