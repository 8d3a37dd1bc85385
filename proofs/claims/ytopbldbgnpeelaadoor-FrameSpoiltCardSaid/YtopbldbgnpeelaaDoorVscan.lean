/- frame.Scan: a range over the frames that are whole. No condition. -/
import Derived.Test.YtopbldbgnpeelaaDoorVlists
import Derived.Test.YtopbldbgnpeelaaDoorVrange
import Derived.Shelf.Abstract
import Derived.Shelf.RegionOpen
import Derived.WalkKit
import Derived.OwnWalkIn
import Derived.TacticsInMore
import Derived.LoopNIn
import Derived.LoopIn
set_option maxRecDepth 100000
set_option linter.unusedVariables false
set_option linter.unusedSimpArgs false
namespace Go.Proofs.YtopbldbgnpeelaaDoor.V
open Go Go.Proofs.AbsV Go.RowKit Go.Shelf
attribute [local go_sem] Oper.semAt_some
/-! ### The code -/
def rfA : Code → Code
  | .rangeFunc _ _ a _ => a
  | _ => .skip
def rfB : Code → Code
  | .rangeFunc _ _ _ b => b
  | _ => .skip
def rgOps : Code → Array Oper
  | .region _ ops _ => ops
  | _ => #[]
noncomputable def scRF : Code := codeAt (bodyOf Tryd.f14) [1,1,1,0,1,0]
noncomputable def scA : Code := rfA scRF
noncomputable def scB : Code := rfB scRF
noncomputable def o4 : Array Oper := rgOps (codeAt scA [0])
noncomputable def o5 : Array Oper := rgOps (codeAt scA [1])
noncomputable def o6 : Array Oper := rgOps (codeAt scB [0,0])
noncomputable def o7 : Array Oper := rgOps (codeAt scB [0,1])
theorem scRF_eq : scRF = .rangeFunc (.tmp 9) #[10, 11] scA scB := by kernel_rfl
theorem scA_eq : scA = .seq (.region 4 o4 false) (.region 5 o5 false) := by kernel_rfl
theorem scB_eq : scB = .block 1 (.seq (.region 6 o6 false) (.region 7 o7 false)) := by kernel_rfl
/-- What out holds when these have come. -/
def OutAV (out : List (List Int)) (ov : AV) : Prop := (out = [] ∧ ov = .nilsl) ∨ ov = .sl BB out none (some (1, 22))
def frM (e v : AV) : List AV := frOf [(4, .ptr 0 0), (5, .ptr 1 0), (10, e), (11, v)] 19 0
def bxM (b : List Int) (ov : AV) (at' : Int) : List Box2 := [.cells 34 [ov], .cells 3 [.int .i64 at'], .cells 22 [.sl B b none none]]
abbrev frA (e : Int) (body : List Int) : List AV := ((frM (.int .i64 e) (.sl B body none none)).set 6 (.int .i64 e)).set 7 (.sl B body none none)
abbrev fr6 (e : Int) (body : List Int) (x12 x14 x15 : AV) : List AV := ((((frA e body).set 12 x12).set 13 (.sl B body none none)).set 14 x14).set 15 x15
theorem run_a4 (b : List Int) (ov : AV) (at' e : Int) (body : List Int) : runR env o4.toList ⟨frM (.int .i64 e) (.sl B body none none), bxM b ov at'⟩ = some ⟨(frM (.int .i64 e) (.sl B body none none)).set 6 (.int .i64 e), bxM b ov at'⟩ := by kernel_rfl
theorem run_a5 (b : List Int) (ov : AV) (at' e : Int) (body : List Int) : runR env o5.toList ⟨(frM (.int .i64 e) (.sl B body none none)).set 6 (.int .i64 e), bxM b ov at'⟩ = some ⟨frA e body, bxM b ov at'⟩ := by kernel_rfl
theorem run_b6n (b : List Int) (at' e : Int) (body : List Int) : runR env o6.toList ⟨frA e body, bxM b .nilsl at'⟩ =
    some ⟨fr6 e body .nilsl (.sl BB [body] (some false) (some (0, 22))) (.sl BB [body] none (some (1, 22))), bxM b (.sl BB [body] none (some (1, 22))) at'⟩ := by kernel_rfl
theorem run_b6s (b : List Int) (out : List (List Int)) (at' e : Int) (body : List Int) : runR env o6.toList ⟨frA e body, bxM b (.sl BB out none (some (1, 22))) at'⟩ =
    cond (decide ((out.length + 1) * 24 ≤ 140737488355328)) (some ⟨fr6 e body (.sl BB out none none) (.sl BB [body] (some false) (some (2, 22))) (.sl BB (out ++ [body]) none (some (1, 22))), bxM b (.sl BB (out ++ [body]) none (some (1, 22))) at'⟩) none := by kernel_rfl
theorem run_b7 (b : List Int) (ov x12 x14 x15 : AV) (at' e : Int) (body : List Int) : runR env o7.toList ⟨fr6 e body x12 x14 x15, bxM b ov at'⟩ = some ⟨(fr6 e body x12 x14 x15).set 16 (.int .i64 e), bxM b ov e⟩ := by kernel_rfl
theorem run_b6 (b : List Int) (out : List (List Int)) (ov : AV) (at' e : Int) (body : List Int) (ho : OutAV out ov) (hl : out.length ≤ 1000000000000) : ∃ x12 x14 x15 ov', OutAV (out ++ [body]) ov' ∧ runR env o6.toList ⟨frA e body, bxM b ov at'⟩ = some ⟨fr6 e body x12 x14 x15, bxM b ov' at'⟩ := by
  rcases ho with ⟨rfl, rfl⟩ | rfl
  · exact ⟨_, _, _, _, .inr rfl, run_b6n b at' e body⟩
  · have h := run_b6s b out at' e body
    rw [decide_eq_true (show (out.length + 1) * 24 ≤ 140737488355328 by omega), cond_true] at h
    exact ⟨_, _, _, _, .inr rfl, h⟩
/-! ### Between two rounds -/
structure MidC (C0 : Stab) (w0 : World) (b : List Int) (l D m2 : Nat) (rec : Loop) (out : List (List Int)) (at' : Int) (c : Ctx) (W : World) : Prop where
  sr : ∃ ov, OutAV out ov ∧ SR env c W ⟨frM .any .any, bxM b ov at'⟩ ⟨rec.tmps, []⟩
  ext : Ext 0 (ctx0 C0) w0 c W
  nl : ¬ c.ow l
  nd : ¬ c.ow D
  L : W.heap[l]? = some (.loop rec)
  K : W.heap[D]? = some (.deferred (some []))
  mu2 : c.mu 2 = some m2
  l0 : w0.heap.size ≤ l
  d0 : w0.heap.size ≤ D
structure RecOK (rec : Loop) (D : Nat) : Prop where
  st : rec.state = .ready
  pe : rec.pending = none
  ps : rec.params = #[10, 11]
  asg : rec.assign = scA
  bo : rec.body = scB
  sz : rec.tmps.size = 19
theorem frM_mono {c c' : Ctx} {vs : List Value} (hC : CLe c.C c'.C) (hm : ∀ i k, i < 3 → c.mu i = some k → c'.mu i = some k) (h : RepL c (frM .any .any) vs) : RepL c' (frM .any .any) vs :=
  repL_mono (c := c) (c' := c') hC (p := fun i => i < 3) (q := fun _ => False) (fun i hi k hk => hm i k hi hk) (fun _ h => h.elim) _ _
    (show okInL (fun i => i < 3) (fun _ => False) (frM .any .any) from ⟨trivial, trivial, trivial, trivial, (show 0 < 3 by decide), (show 1 < 3 by decide), trivial, trivial, trivial, trivial, trivial, trivial, trivial, trivial, trivial, trivial, trivial, trivial, trivial, trivial⟩) h
theorem MidC.cell2 {C0 : Stab} {w0 : World} {b : List Int} {l D m2 : Nat} {rec : Loop} {out : List (List Int)} {at' : Int} {c : Ctx} {W : World} (h : MidC C0 w0 b l D m2 rec out at' c W) :
    ∃ bv, W.cell? ⟨m2, 0, none⟩ = some bv ∧ Rep (ctx0 c.C) (.sl B b none none) bv := by
  obtain ⟨ov, ho, hsr⟩ := h.sr
  obtain ⟨k, h1, _, ⟨arr, ha, hr⟩, _⟩ := hsr.good.box 2 (.cells 22 [.sl B b none none]) rfl
  rw [h.mu2] at h1
  cases h1
  obtain ⟨v, r, e, hv, rfl⟩ := hr
  obtain ⟨al⟩ := arr
  simp only at e
  subst e
  exact ⟨v, by simp [World.cell?, ha], hv⟩
theorem mid_next {C0 : Stab} {w0 : World} {b : List Int} {l D m2 : Nat} {rec : Loop} {out : List (List Int)} {at' : Int} {c : Ctx} {W : World} (h : MidC C0 w0 b l D m2 rec out at' c W) (hb : isBytes b) (hx : b.length ≤ 1000000000000)
    {bv : Value} (hbv : Rep (ctx0 c.C) (.sl B b none none) bv) (a : Int) : Calls Tryd.prog 12 #[bv, .int .i64 a] W fun e W' => ∃ v c', e = .returned v ∧ MidC C0 w0 b l D m2 rec out at' c' W' ∧
      ((nxE b a ≠ 0 ∧ v = .tuple #[.slice none 0 0, .int .i64 0, .int .i64 (nxE b a)]) ∨
       (nxE b a = 0 ∧ ∃ y, v = .tuple #[y, .int .i64 (nxEnd b a), .int .i64 0] ∧ Rep c' (.sl B (nxBody b a) none none) y)) := by
  obtain ⟨ov, ho, hsr⟩ := h.sr
  have hg : nxG b = true := by unfold nxG; rw [ble_yes hx, isBytesB_of hb]; rfl
  by_cases he : nxE b a = 0
  · have hsel : sel (nxSp (some (0, 5)) [.sl B b none none, .int .i64 a]) = some (.tup [.sl B (nxBody b a) none (some (0, 5)), .int .i64 (nxEnd b a), .int .i64 0]) := by
      show sel [(nxG b && (nxE b a != 0), AV.tup [.nilsl, .int .i64 0, .int .i64 (nxE b a)]), (nxG b, .tup [.sl B (nxBody b a) none (some (0, 5)), .int .i64 (nxEnd b a), .int .i64 0])] = _
      rw [hg, he]
      rfl
    refine (next_ok.ok _ _ hsel rfl c.C W #[bv, .int .i64 a] hsr.good.stab hsr.gl ⟨bv, _, rfl, hbv, _, _, rfl, rfl, rfl⟩).mono fun e W' hh => ?_
    obtain ⟨v, c', rfl, g1, g2, g3⟩ := hh
    obtain ⟨g4, g5⟩ := hsr.adopt g2 g3
    have hrep := rep_shift (c := c') (c' := c.adopt c' (St.maxTok ⟨frM .any .any, bxM b ov at'⟩)) (m := St.maxTok ⟨frM .any .any, bxM b ov at'⟩) rfl (fun i => by simp only [Ctx.adopt]; rw [if_neg (by omega)]; congr 1; omega) _ _ (okFalse (x := .tup [.sl B (nxBody b a) none (some (0, 5)), .int .i64 (nxEnd b a), .int .i64 0]) rfl) g1
    obtain ⟨vs, rfl, y, _, e1, ⟨A, n, cap, h1, h2, h3, _⟩, z, _, rfl, rfl, z', _, rfl, rfl, rfl⟩ := hrep
    obtain ⟨vl⟩ := vs
    simp only at e1
    subst e1
    exact ⟨_, _, rfl, ⟨⟨ov, ho, g4⟩, h.ext.trans (Nat.zero_le _) g5, fun q => h.nl (g5.ow l (heap_lt h.L) q), fun q => h.nd (g5.ow D (heap_lt h.K) q), (g5.keep l (heap_lt h.L) h.nl).1.trans h.L, (g5.keep D (heap_lt h.K) h.nd).1.trans h.K, h.mu2, h.l0, h.d0⟩,
      .inr ⟨he, y, rfl, A, n, cap, h1, h2, h3, trivial⟩⟩
  · have hsel : sel (nxSp (some (0, 5)) [.sl B b none none, .int .i64 a]) = some (.tup [.nilsl, .int .i64 0, .int .i64 (nxE b a)]) := by
      show sel [(nxG b && (nxE b a != 0), AV.tup [.nilsl, .int .i64 0, .int .i64 (nxE b a)]), (nxG b, .tup [.sl B (nxBody b a) none (some (0, 5)), .int .i64 (nxEnd b a), .int .i64 0])] = _
      rw [hg, show (nxE b a != 0) = true by rw [bne, beq_eq_false_iff_ne.2 he]; rfl]
      rfl
    refine (next_ok.ok _ _ hsel rfl c.C W #[bv, .int .i64 a] hsr.good.stab hsr.gl ⟨bv, _, rfl, hbv, _, _, rfl, rfl, rfl⟩).mono fun e W' hh => ?_
    obtain ⟨v, c', rfl, g1, g2, g3⟩ := hh
    obtain ⟨g4, g5⟩ := hsr.adopt g2 g3
    obtain ⟨vs, rfl, y, _, e1, rfl, z, _, rfl, rfl, z', _, rfl, rfl, rfl⟩ := g1
    obtain ⟨vl⟩ := vs
    simp only at e1
    subst e1
    exact ⟨_, _, rfl, ⟨⟨ov, ho, g4⟩, h.ext.trans (Nat.zero_le _) g5, fun q => h.nl (g5.ow l (heap_lt h.L) q), fun q => h.nd (g5.ow D (heap_lt h.K) q), (g5.keep l (heap_lt h.L) h.nl).1.trans h.L, (g5.keep D (heap_lt h.K) h.nd).1.trans h.K, h.mu2, h.l0, h.d0⟩,
      .inl ⟨he, rfl⟩⟩
theorem mid_round {C0 : Stab} {w0 : World} {b : List Int} {l D m2 : Nat} {rec : Loop} {out : List (List Int)} {at' : Int} {c : Ctx} {W : World} (h : MidC C0 w0 b l D m2 rec out at' c W) (hrec : RecOK rec D) (hl : out.length ≤ 1000000000000)
    {body : List Int} {y : Value} (hv : Rep c (.sl B body none none) y) (e : Int) (n : Nat) :
    RoundIn Fence.wide n Tryd.prog l rec.fn ((rec.tmps.setIfInBounds 10 (.int .i64 e)).setIfInBounds 11 y) scA scB W fun e' W' => e' = .returned (.bool true) ∧ ∃ c', MidC C0 w0 b l D m2 rec (out ++ [body]) e c' W' := by
  obtain ⟨ov, ho, hsr⟩ := h.sr
  have hDl : D ≠ l := fun q => by have h1 := h.K; rw [q, h.L] at h1; cases h1
  have s0 : SR env c W ⟨frM (.int .i64 e) (.sl B body none none), bxM b ov at'⟩ ⟨(rec.tmps.setIfInBounds 10 (.int .i64 e)).setIfInBounds 11 y, []⟩ := (hsr.put (d := some 10) (r := .int .i64 e) (v := .int .i64 e) rfl).put (d := some 11) hv
  obtain ⟨x12, x14, x15, ov', ho', hr6⟩ := run_b6 b out ov at' e body ho hl
  refine roundIn_of_wpIn trivial ?_
  rw [scA_eq]
  refine wpIn_seq (wpIn_region_list (runR_ok envOK (fun _ => trivial) _ c W _ _ _ s0 (run_a4 b ov at' e body) (fun c1 w1 a1 q1 d1 e1 _ => ?_)))
  refine wpIn_region_list (runR_ok envOK (fun _ => trivial) _ c1 w1 _ _ _ q1 (run_a5 b ov at' e body) (fun c2 w2 a2 q2 d2 e2 _ => ?_))
  have E1 : Ext 3 c W c2 w2 := Ext.trans (Nat.le_refl 3) e1 e2
  have nl2 : ¬ c2.ow l := fun q => h.nl (E1.ow l (heap_lt h.L) q)
  have nd2 : ¬ c2.ow D := fun q => h.nd (E1.ow D (heap_lt h.K) q)
  have hL2 : w2.heap[l]? = some (.loop rec) := (E1.keep l (heap_lt h.L) h.nl).1.trans h.L
  have hK2 : w2.heap[D]? = some (.deferred (some [])) := (E1.keep D (heap_lt h.K) h.nd).1.trans h.K
  refine ⟨_, run_beginRound hL2 hrec.st, ?_⟩
  obtain ⟨w3, hw3⟩ : ∃ w3, w2.putObj l (.loop { rec with state := .busy }) = w3 := ⟨_, rfl⟩
  have q3 : SR env c2 w3 ⟨frA e body, bxM b ov at'⟩ a2 := by rw [← hw3]; exact q2.putOther hL2 rfl (fun _ _ q => by cases q)
  have hL3 : w3.heap[l]? = some (.loop { rec with state := .busy }) := by rw [← hw3]; exact World.putObj_heap_same (heap_lt hL2)
  have hK3 : w3.heap[D]? = some (.deferred (some [])) := by rw [← hw3]; exact (World.putObj_heap_other hDl).trans hK2
  have X3 : Ext 0 (ctx0 C0) w0 c2 w3 := by rw [← hw3]; exact (h.ext.trans (Nat.zero_le _) E1).putNew h.l0
  rw [hw3, scB_eq]
  refine wpIn_block (wpIn_seq (wpIn_region_list (runR_ok envOK (fun _ => trivial) _ c2 w3 _ _ _ q3 hr6 (fun c4 w4 a4 q4 d4 e4 _ => ?_))))
  refine wpIn_region_list (runR_ok envOK (fun _ => trivial) _ c4 w4 _ _ _ q4 (run_b7 b ov' x12 x14 x15 at' e body) (fun c5 w5 a5 q5 d5 e5 _ => ?_))
  have E2 : Ext 3 c2 w3 c5 w5 := Ext.trans (Nat.le_refl 3) e4 e5
  have hL5 : w5.heap[l]? = some (.loop { rec with state := .busy }) := (E2.keep l (heap_lt hL3) nl2).1.trans hL3
  have hK5 : w5.heap[D]? = some (.deferred (some [])) := (E2.keep D (heap_lt hK3) nd2).1.trans hK3
  have hre : ({ ({ rec with state := .busy } : Loop) with state := .ready, pending := none } : Loop) = rec := by
    have h1 := hrec.st; have h2 := hrec.pe
    cases rec
    simp only at h1 h2
    subst h1; subst h2
    rfl
  have hend := run_endRound (P := Tryd.prog) none hL5
  have hend' : (Instr.endRound l none).run Tryd.prog w5 = .ok (.bool true) (w5.putObj l (.loop rec)) := by
    rw [hend]
    show Result.ok (Value.bool true) (w5.putObj l (.loop { ({ rec with state := .busy } : Loop) with state := .ready, pending := none })) = _
    rw [hre]
  refine ⟨_, _, hend', rfl, c5, ⟨ov', ho', ?_⟩, (X3.trans (Nat.zero_le _) E2).putNew h.l0, fun q => nl2 (E2.ow l (heap_lt hL3) q), fun q => nd2 (E2.ow D (heap_lt hK3) q), World.putObj_heap_same (heap_lt hL5), (World.putObj_heap_other hDl).trans hK5, E2.mu 2 _ (by decide) (E1.mu 2 _ (by decide) h.mu2), h.l0, h.d0⟩
  have q6 := q5.putOther (y := .loop rec) hL5 rfl (fun _ _ q => by cases q)
  exact ⟨q6.good, frM_mono (E1.cle.trans E2.cle) (fun i k hi hk => E2.mu i k hi (E1.mu i k hi hk)) hsr.fr, q6.gl⟩
end Go.Proofs.YtopbldbgnpeelaaDoor.V
