/- frame.Scan as a function of data. No condition. -/
import Derived.Test.YtopbldbgnpeelaaDoorVscan2
set_option maxRecDepth 100000
set_option linter.unusedVariables false
set_option linter.unusedSimpArgs false
namespace Go.Proofs.YtopbldbgnpeelaaDoor.V
open Go Go.Proofs.AbsV Go.RowKit Go.Shelf
attribute [local go_sem] Oper.semAt_some
noncomputable def sk (p : List Nat) : Code := codeAt (bodyOf Tryd.f14) p
theorem sc_body : Tryd.f14.body = some (.seq (sk [0]) (.seq (sk [1,0]) (.seq (sk [1,1,0]) (.seq (.seq (sk [1,1,1,0,0]) (.block 0 scRF)) (.seq (sk [1,1,1,1,0]) .ret))))) := by kernel_rfl
theorem sk8 : sk [1,1,1,1,0] = .region 8 #[{ dst := some 17, op := Go.Op.load 34 (Go.Operand.tmp 4), type := 34, pos := "frame.go:90", after := #[], guard := none },
    { dst := some 18, op := Go.Op.load 3 (Go.Operand.tmp 5), type := 3, pos := "frame.go:90", after := #[{ on := 2, ground := Go.Ground.gcOnly Go.Departure.lateStores }], guard := none },
    { dst := some 2, op := Go.Op.assign (Go.Operand.tmp 17), type := 34, pos := "frame.go:90", after := #[{ on := 0, ground := Go.Ground.data }, { on := 0, ground := Go.Ground.phase }, { on := 1, ground := Go.Ground.textOnly Go.Departure.lateStores }], guard := none },
    { dst := some 3, op := Go.Op.assign (Go.Operand.tmp 18), type := 3, pos := "frame.go:90", after := #[{ on := 1, ground := Go.Ground.data }, { on := 2, ground := Go.Ground.chain }, { on := 0, ground := Go.Ground.phase }, { on := 1, ground := Go.Ground.phase }, { on := 2, ground := Go.Ground.phase }], guard := none }] true := by kernel_rfl
theorem fn_wh1 : FnOK Tryd.prog 32 Tryd.f32 := ⟨by kernel_rfl, by kernel_rfl, by kernel_rfl⟩
theorem repL_at {c : Ctx} : ∀ (i : Nat) (l : List AV) (vs : List Value), RepL c l vs → ∀ x, l[i]? = some x → ∃ v, vs[i]? = some v ∧ Rep c x v
  | i, [], vs, h, x, hx => by simp at hx
  | 0, y :: l, vs, h, x, hx => by
    obtain ⟨v, r, rfl, hv, hr⟩ := h
    simp at hx
    subst hx
    exact ⟨v, rfl, hv⟩
  | i + 1, y :: l, vs, h, x, hx => by
    obtain ⟨v, r, rfl, hv, hr⟩ := h
    simpa using repL_at i l r hr x (by simpa using hx)
theorem fn_scan : FnOK Tryd.prog 14 Tryd.f14 := ⟨by kernel_rfl, by kernel_rfl, by kernel_rfl⟩
noncomputable def whfns : List (FuncId × Func) := [(28, Tryd.f28)]
theorem whfns_ok : ∀ f fn, fnsOf whfns f = some fn → FnOK Tryd.prog f fn := fnsOf_ok ⟨⟨by kernel_rfl, by kernel_rfl, by kernel_rfl⟩, trivial⟩
def TWh : FuncId → Option CSpec := tabG [(28, .inl)]
theorem tokWh : TOK Tryd.prog env TWh := tok_tabG mixed ⟨trivial, trivial⟩
def allKept' : Keeps := fun _ => none
noncomputable def whinl : Inl St := inlD env TWh (fnsOf whfns) (fun _ => allKept') 12 2
theorem whinl_ok : InlOK Tryd.prog env whinl := inlD_ok envOK tokWh whfns_ok 2
def kS (e : Ex) (s : St) : Option St := match e with | .normal => some s | _ => none
def frP (b : List Int) (x2 x3 x4 x5 x8 x9 : AV) : List AV := frOf [(0, .sl B b none none), (2, x2), (3, x3), (4, x4), (5, x5), (8, x8), (9, x9)] 19 0
theorem run_p0 (b : List Int) : runC env TWh whinl allKept' 12 (sk [0]) 0 ⟨frP b .any .any .any .any .any .any, []⟩ kS = some ⟨frP b .nilsl (.int .i64 0) .any .any .any .any, []⟩ := by kernel_rfl
theorem run_p1 (b : List Int) : runC env TWh whinl allKept' 12 (sk [1,0]) 0 ⟨frP b .nilsl (.int .i64 0) .any .any .any .any, []⟩ kS = some ⟨frP b .nilsl (.int .i64 0) (.ptr 0 0) .any .any .any, [.cells 34 [.nilsl]]⟩ := by kernel_rfl
theorem run_p2 (b : List Int) : runC env TWh whinl allKept' 12 (sk [1,1,0]) 0 ⟨frP b .nilsl (.int .i64 0) (.ptr 0 0) .any .any .any, [.cells 34 [.nilsl]]⟩ kS = some ⟨frP b .nilsl (.int .i64 0) (.ptr 0 0) (.ptr 1 0) .any .any, [.cells 34 [.nilsl], .cells 3 [.int .i64 0]]⟩ := by kernel_rfl
theorem run_p3 (b : List Int) : runC env TWh whinl allKept' 12 (sk [1,1,1,0,0]) 0 ⟨frP b .nilsl (.int .i64 0) (.ptr 0 0) (.ptr 1 0) .any .any, [.cells 34 [.nilsl], .cells 3 [.int .i64 0]]⟩ kS =
    some ⟨frP b .nilsl (.int .i64 0) (.ptr 0 0) (.ptr 1 0) (.sl B b none none) (.fn 32 [.ptr 2 0]), bxM b .nilsl 0⟩ := by kernel_rfl
/-! ### What may be turned lies in memory -/
def Ctx.bound (c : Ctx) (n : Nat) : Ctx := { c with ow := fun k => c.ow k ∧ k < n }
theorem repL_bound {c : Ctx} {n : Nat} (l : List AV) (vs : List Value) (h : RepL c l vs) : RepL (Ctx.bound c n) l vs :=
  repL_mono (c := c) (c' := Ctx.bound c n) (CLe.refl _) (p := fun _ => True) (q := fun _ => True) (fun _ _ _ h => h) (fun _ _ => rfl) _ _ (okInL_all _) h
theorem Good.bound {c : Ctx} {w : World} {bx : List Box2} (h : AbsV.Good c w bx) : AbsV.Good (Ctx.bound c w.heap.size) w bx := by
  refine ⟨h.stab, fun i B hi => ?_, h.inj, fun j T s v ht => ?_, h.tbox, h.tinj⟩
  · obtain ⟨k, h1, h2, h3, h4⟩ := h.box i B hi
    exact ⟨k, h1, ⟨h2, h3.lt⟩, h3.move rfl (fun vs hr => repL_bound _ _ hr), h4⟩
  · rcases h.tok j T s v ht with g1 | g1 | ⟨g, n, cap, cur, g1, g2, g3, g4⟩
    · exact .inl g1
    · exact .inr (.inl g1)
    · exact .inr (.inr ⟨g, n, cap, cur, g1, ⟨g2, heap_lt g3⟩, g3, g4⟩)
theorem Ext.bound {nb : Nat} {c c' : Ctx} {w w' : World} (h : Ext nb c w c' w') : Ext nb c w (Ctx.bound c' w'.heap.size) w' :=
  ⟨h.os, h.tape, h.output, h.size, h.keep, fun b hb ho => h.ow b hb ho.1, h.cle, h.mu⟩
theorem cell_of {c : Ctx} {w : World} {k : Nat} {T : TypeId} {x : AV} (h : BoxOK c w k (.cells T [x])) : ∃ v, w.cell? ⟨k, 0, none⟩ = some v ∧ Rep c x v := by
  obtain ⟨arr, ha, v, r, e, hv, rfl⟩ := h
  obtain ⟨al⟩ := arr
  simp only at e
  subst e
  exact ⟨v, by simp [World.cell?, ha], hv⟩
set_option maxHeartbeats 2000000 in
theorem scan_ok : PureOK Tryd.prog env 14 scanSp := by
  refine ⟨⟨_, fn_scan⟩, fun args r hr hp C w cargs hstab hgl hargs => ?_⟩
  obtain ⟨x, b, rfl, hx, hb, hl, hg, rfl⟩ := scanSp_sel hr
  obtain ⟨bv, _, e0, hbv, rfl⟩ := Reads.bytes hx .nil C _ hargs
  obtain ⟨cl⟩ := cargs
  simp only at e0
  subst e0
  have hg0 : AbsV.Good (ctx0 C) w [] := ⟨hstab, (fun i B hi => by simp at hi), (fun i j k hi => by simp at hi), (fun j T s v ht => by cases ht), (fun j T s a n cap i ht => by cases ht), (fun j T s a n cap j' T' s' a' n' cap' ht => by cases ht)⟩
  refine (callsIn_wide (n := 3)).1 ?_
  refine callsIn_of_wp_marks fn_scan.at_ sc_body trivial ?_ rfl
  have s0 : SR env (ctx0 C) w ⟨frP b .any .any .any .any .any .any, []⟩ ⟨(#[bv] : Array Value) ++ Array.replicate (Tryd.f14.ntmps - (#[bv] : Array Value).size) undef, []⟩ :=
    ⟨hg0, ⟨bv, _, rfl, hbv, undef, _, rfl, trivial, undef, _, rfl, trivial, undef, _, rfl, trivial, undef, _, rfl, trivial, undef, _, rfl, trivial, undef, _, rfl, trivial, undef, _, rfl, trivial, undef, _, rfl, trivial, undef, _, rfl, trivial,
      undef, _, rfl, trivial, undef, _, rfl, trivial, undef, _, rfl, trivial, undef, _, rfl, trivial, undef, _, rfl, trivial, undef, _, rfl, trivial, undef, _, rfl, trivial, undef, _, rfl, trivial, undef, _, rfl, trivial, rfl⟩, hgl⟩
  refine seqM envOK tokWh whinl_ok s0 rfl (run_p0 b) (fun c1 w1 a1 q1 d1 e1 _ => ?_)
  refine seqM envOK tokWh whinl_ok q1 d1 (run_p1 b) (fun c2 w2 a2 q2 d2 e2 _ => ?_)
  refine seqM envOK tokWh whinl_ok q2 d2 (run_p2 b) (fun c3 w3 a3 q3 d3 e3 _ => ?_)
  refine wpIn_seq (seqM envOK tokWh whinl_ok q3 d3 (run_p3 b) (fun c4 w4 a4 q4 d4 e4 _ => ?_))
  have X4 : Ext 0 (ctx0 C) w c4 w4 := ((e1.trans (Nat.zero_le _) e2).trans (Nat.zero_le _) e3).trans (Nat.zero_le _) e4
  have hfr := q4.fr
  obtain ⟨⟨tl⟩, df⟩ := a4
  simp only at d4 hfr
  subst d4
  obtain ⟨v0, _, t0, h0, v1, _, rfl, h1, v2, _, rfl, h2, v3, _, rfl, h3, v4, _, rfl, h4, v5, _, rfl, h5, v6, _, rfl, h6, v7, _, rfl, h7, v8, _, rfl, h8, v9, _, rfl, h9, v10, _, rfl, h10, v11, _, rfl, h11, v12, _, rfl, h12, v13, _, rfl, h13, v14, _, rfl, h14, v15, _, rfl, h15, v16, _, rfl, h16, v17, _, rfl, h17, v18, _, rfl, h18, rfl⟩ := hfr
  subst t0
  obtain ⟨k0, m0, rfl⟩ := h4
  obtain ⟨k1, m1, rfl⟩ := h5
  obtain ⟨⟨vsl⟩, rfl, p9, _, e9, ⟨k2, m2, rfl⟩, rfl⟩ := h9
  simp only at e9
  subst e9
  refine wpIn_block ?_
  rw [scRF_eq]
  refine wpIn_rangeFunc ?_
  intro fn hfn
  obtain ⟨rec, hrec⟩ : ∃ rec : Loop, rec = { state := .ready, pending := none, fn, tmps := ([v0, v1, v2, v3, (.pointer (some ⟨k0, 0, none⟩)), (.pointer (some ⟨k1, 0, none⟩)), v6, v7, v8, (.func (.func 32) #[] #[.pointer (some ⟨k2, 0, none⟩)]), v10, v11, v12, v13, v14, v15, v16, v17, v18] : List Value).toArray, params := #[10, 11], assign := scA, body := scB, defers := w4.heap.size } := ⟨_, rfl⟩
  have hro : RecOK rec w4.heap.size := by rw [hrec]; exact ⟨rfl, rfl, rfl, rfl, rfl, rfl⟩
  obtain ⟨W1, hW1⟩ : ∃ W1, (w4.alloc (.deferred (some []))).alloc (.loop rec) = W1 := ⟨_, rfl⟩
  have hs1 : (w4.alloc (.deferred (some []))).heap.size = w4.heap.size + 1 := by simp
  have hL1 : W1.heap[w4.heap.size + 1]? = some (.loop rec) := by
    rw [← hW1]; have := World.alloc_heap_new (w4.alloc (.deferred (some []))) (.loop rec); rwa [hs1] at this
  have hK1 : W1.heap[w4.heap.size]? = some (.deferred (some [])) := by
    rw [← hW1]; exact (heap_alloc_lt (by rw [hs1]; omega)).trans (World.alloc_heap_new w4 _)
  have hgb := Good.bound q4.good
  have ha1 := hgb.allocAny (.deferred (some []))
  have ha2 := ha1.1.allocAny (.loop rec)
  rw [hW1] at ha2
  have X1 : Ext 0 (ctx0 C) w (Ctx.bound c4 w4.heap.size) W1 := ((Ext.bound X4).trans (Nat.zero_le _) (ha1.2 0)).trans (Nat.zero_le _) (ha2.2 0)
  have hM : MidC C w b (w4.heap.size + 1) w4.heap.size k2 rec [] 0 (Ctx.bound c4 w4.heap.size) W1 := by
    refine ⟨⟨.nilsl, .inl ⟨rfl, rfl⟩, ha2.1, ?_, q4.gl⟩, X1, fun q => by have := q.2; omega, fun q => by have := q.2; omega, hL1, hK1, m2, by have := X4.size; omega, X4.size⟩
    refine repL_bound _ _ ?_
    rw [hrec]
    exact repL_havoc (nb := 3) (keep := some [4, 5]) 0 _ _ q4.fr
  refine ⟨w4.heap.size + 1, [{ target := .collected w4.heap.size, args := #[] }], W1, { target := .fn (.func 32) #[.pointer (some ⟨k2, 0, none⟩)], args := #[.func (.yield (w4.heap.size + 1)) #[] #[]] }, W1, 32,
    #[.func (.yield (w4.heap.size + 1)) #[] #[]] ++ #[.pointer (some ⟨k2, 0, none⟩)], W1, ?_, ?_, ?_, ?_, fun _ => by omega, ?_⟩
  · rw [← hW1, hrec]; exact run_enterLoop_outer _ _ _ _ _
  · simp [resolve, go_sem]
  · intro f' hf'; trivial
  · simp [invoke, go_sem, run_callFunc fn_wh1]
  · refine CallsIn.mono (whole1_in hM hro hb hl 2 (by omega)) ?_
    rintro e W2 ⟨⟨v, rfl⟩, c', hm⟩
    obtain ⟨ov, ho, hsr⟩ := hm.sr
    have hend := run_endLoop (P := Tryd.prog) hm.L (by rw [hro.st]; simp)
    have hs3 := hsr.putOther (y := .loop { rec with state := .exhausted }) hm.L rfl (fun _ _ q => by cases q)
    obtain ⟨W3, hW3⟩ : ∃ W3, W2.putObj (w4.heap.size + 1) (.loop { rec with state := .exhausted }) = W3 := ⟨_, rfl⟩
    rw [hW3] at hend hs3
    rw [hro.pe] at hend
    have X3 : Ext 0 (ctx0 C) w c' W3 := by rw [← hW3]; exact hm.ext.putNew hm.l0
    have hK3 : W3.heap[w4.heap.size]? = some (.deferred (some [])) := by rw [← hW3]; exact (World.putObj_heap_other (by omega)).trans hm.K
    obtain ⟨b0, n0, _, B0, _⟩ := hs3.good.box 0 _ rfl
    obtain ⟨b1, n1, _, B1, _⟩ := hs3.good.box 1 _ rfl
    obtain ⟨vo, hc0, hvo⟩ := cell_of B0
    obtain ⟨va, hc1, rfl⟩ := cell_of B1
    obtain ⟨p4, g4, ⟨bk4, mm4, rfl⟩⟩ := repL_at 4 _ _ hsr.fr (.ptr 0 0) rfl
    obtain ⟨p5, g5, ⟨bk5, mm5, rfl⟩⟩ := repL_at 5 _ _ hsr.fr (.ptr 1 0) rfl
    have f0 : b0 = k0 := by
      rw [hrec] at g4
      rw [n0] at mm4
      cases mm4
      simpa using g4.symm
    have f1 : b1 = k1 := by
      rw [hrec] at g5
      rw [n1] at mm5
      cases mm5
      simpa using g5.symm
    subst f0
    subst f1
    refine ⟨none, W3, hend, ?_⟩
    show Code.wpIn Fence.wide 3 Tryd.prog (.seq (sk [1,1,1,1,0]) .ret) _ { tmps := #[v0, v1, v2, v3, .pointer (some ⟨b0, 0, none⟩), .pointer (some ⟨b1, 0, none⟩), v6, v7, v8, .func (.func 32) #[] #[.pointer (some ⟨k2, 0, none⟩)], v10, v11, v12, v13, v14, v15, v16, v17, v18], defers := [{ target := .collected w4.heap.size, args := #[] }] } W3
    rw [sk8]
    have hfin : ∀ v, v = Value.tuple #[vo, .int .i64 (scanB b).2] → ∀ w5, w5 = (W3.drew).putObj w4.heap.size (.deferred none) → ∃ v' c'', Ending.returned v = .returned v' ∧ Rep c'' (.tup [.sl BB (scanB b).1 none none, .int .i64 (scanB b).2]) v' ∧ AbsV.Good c'' w5 [] ∧ Ext 0 (ctx0 C) w c'' w5 := by
      rintro v rfl w5 rfl
      refine ⟨_, c', rfl, ⟨_, rfl, vo, _, rfl, ?_, _, _, rfl, rfl, rfl⟩, ?_, ?_⟩
      · rcases ho with ⟨e1, rfl⟩ | rfl
        · rw [e1]
          cases hvo
          exact ⟨none, 0, 0, rfl, ⟨rfl, Nat.le_refl _, fun _ => rfl, by omega, fun i hi => absurd hi (Nat.not_lt_zero i)⟩, trivial, trivial⟩
        · obtain ⟨A, n, cap, g1, g2, g3, _⟩ := hvo
          exact ⟨A, n, cap, g1, g2, g3, trivial⟩
      · exact (hs3.good.take 0).drew.putOther (l := w4.heap.size) (x := .deferred (some [])) hK3 rfl (fun _ _ q => by cases q)
      · exact (X3.trans (Nat.zero_le 0) (Ext.drew 0 c' W3)).putNew hm.d0
    gi_wp2
    gi_region
    gi_wp2
    have hK4 : (W3.drew).heap[w4.heap.size]? = some (.deferred (some [])) := hK3
    refine ⟨by simp, .inl ⟨_, _, rfl, run_takeDeferred hK4, ?_⟩⟩
    exact ⟨_, results_tmp2 (t := 2) (u := 3) rfl _ _ _, hfin _ rfl _ rfl⟩
end Go.Proofs.YtopbldbgnpeelaaDoor.V
