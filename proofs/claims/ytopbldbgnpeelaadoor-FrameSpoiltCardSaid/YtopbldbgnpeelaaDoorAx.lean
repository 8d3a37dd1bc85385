/- All operations but calls: on plain values as in the machine. No condition. -/
import Derived.Test.YtopbldbgnpeelaaDoorAu
set_option linter.unusedVariables false
set_option linter.unusedSimpArgs false
namespace Go.Proofs.AbsV
open Go

/-! ### Operations that turn nothing, together -/
theorem opV_ok {P : Program} {E : Env} (hE : EnvOK P E) {c : Ctx} {w : World} {s : St} {a : Act} (h : SR E c w s a) {o : Oper} {r : AV} (hr : sel (opV E s o) = some r) :
    ∃ v, (execOp a.eval o).run P w = .ok (.value v) w ∧ Rep c r v := by
  unfold opV at hr
  split at hr
  · rename_i x ho
    obtain ⟨_, rfl⟩ := sel_one hr
    exact ⟨_, by simp [execOp, ho], h.ev x⟩
  · rename_i x ho
    obtain ⟨_, rfl⟩ := sel_one hr
    exact ⟨_, by simp [execOp, ho], h.ev x⟩
  · rename_i x y z ho
    split at hr
    · rename_i g hg
      have hx := h.ev x
      rw [hg] at hx
      simp only [Rep] at hx
      rcases sel_cons hr with ⟨h1, h2⟩ | ⟨h1, h2⟩
      · simp only at h1 h2; subst h1; subst h2
        exact ⟨_, by simp [execOp, ho, hx, asBool], h.ev y⟩
      · simp only at h1; subst h1
        obtain ⟨_, rfl⟩ := sel_one h2
        exact ⟨_, by simp [execOp, ho, hx, asBool], h.ev z⟩
    · cases hr
  · rename_i t parts ho
    obtain ⟨u, hu, hru⟩ := buildA_ok hE (w := w) (vs := parts.map fun p => (p.1, a.eval p.2)) (by simpa using repP_evs h.fr parts.toList) hr
    refine ⟨u, ?_, hru⟩
    simp only [execOp, ho]
    exact value_run hu
  · rename_i t x ho
    obtain ⟨u, hu, hru⟩ := loadA_ok hE h.gl h.good (h.ev x) hr
    exact ⟨u, by simp only [execOp, ho]; exact value_run hu, hru⟩
  · rename_i x ho
    have hx := h.ev x
    split at hr
    · rename_i hv
      obtain ⟨_, rfl⟩ := sel_one hr
      rw [hv] at hx
      have hx' := hx
      simp only [Rep] at hx'
      obtain ⟨k, _, he⟩ := hx'
      exact ⟨a.eval x, by simp [execOp, ho, he], hx⟩
    · rename_i hv
      obtain ⟨_, rfl⟩ := sel_one hr
      rw [hv] at hx
      have hx' := hx
      simp only [Rep] at hx'
      obtain ⟨_, _, vs, b, o', _, _, he, _⟩ := hx'
      exact ⟨a.eval x, by simp [execOp, ho, he], hx⟩
    · rename_i hv
      obtain ⟨_, rfl⟩ := sel_one hr
      rw [hv] at hx
      have hx' := hx
      simp only [Rep] at hx'
      obtain ⟨_, b, o', he, _⟩ := hx'
      exact ⟨a.eval x, by simp [execOp, ho, he], hx⟩
    · rename_i hv
      obtain ⟨_, rfl⟩ := sel_one hr
      rw [hv] at hx
      have hx' := hx
      simp only [Rep] at hx'
      exact ⟨a.eval x, by simp [execOp, ho, hx'], hx⟩
    · rename_i hv
      obtain ⟨_, rfl⟩ := sel_one hr
      rw [hv] at hx
      have hx' := hx
      simp only [Rep] at hx'
      obtain ⟨vs, he, _⟩ := hx'
      exact ⟨a.eval x, by simp [execOp, ho, he], hx⟩
    · cases hr
  · rename_i op t x y _ ho
    obtain ⟨u, hu, hru⟩ := binA_ok hE (w := w) (xo := x) (yo := y) (h.ev x) (h.ev y) hr
    exact ⟨u, by simp only [execOp, ho]; exact value_run hu, hru⟩
  · rename_i op _ x ho
    obtain ⟨u, hu, hru⟩ := unA_ok (P := P) (w := w) (h.ev x) hr
    exact ⟨u, by simp only [execOp, ho]; exact value_run hu, hru⟩
  · rename_i src dst x ho
    obtain ⟨u, hu, hru⟩ := convA_ok hE (w := w) (h.ev x) hr
    exact ⟨u, by simp only [execOp, ho]; exact value_run hu, hru⟩
  · rename_i t x ho
    split at hr
    · rename_i i hi
      have hti := hE t i hi
      obtain ⟨d, h1, h2⟩ := hti.und
      have hx := h.ev x
      split at hr
      · cases hr
      · cases hr
      · rename_i hk1 hk2
        obtain ⟨_, rfl⟩ := sel_one hr
        refine ⟨.iface t (a.eval x), ?_, _, rfl, hx⟩
        simp only [execOp, ho]
        refine value_run ?_
        simp only [Instr.makeInterface, Sem.run_bind, run_underlying h1, Result.andThen_ok]
        cases d <;> first | rfl | (exfalso; cases hk : i.k <;> rw [hk] at h2 <;> simp [TK.is] at h2 <;> simp_all)
    · cases hr
  · rename_i f first captured ho
    split at hr
    · rename_i he
      obtain ⟨_, rfl⟩ := sel_one hr
      have : first = #[] := by
        have : first.toList = [] := by simpa using he
        exact Array.toList_eq_nil_iff.1 this
      subst this
      refine ⟨.func (.func f) #[] (captured.map a.eval), by simp [execOp, ho, Instr.makeFunc], _, rfl, ?_⟩
      simpa using repL_evs h.fr captured.toList
    · cases hr
  · rename_i t x f ho
    obtain ⟨u, hu, hru⟩ := fieldAddrA_ok hE (w := w) (h.ev x) hr
    exact ⟨u, by simp only [execOp, ho]; exact value_run hu, hru⟩
  · rename_i t x f ho
    obtain ⟨u, hu, hru⟩ := fieldA_ok hE (w := w) (h.ev x) hr
    exact ⟨u, by simp only [execOp, ho]; exact value_run hu, hru⟩
  · rename_i t x i ho
    obtain ⟨u, hu, hru⟩ := indexAddrA_ok hE (w := w) (h.ev x) (h.ev i) hr
    exact ⟨u, by simp only [execOp, ho]; exact value_run hu, hru⟩
  · rename_i t x i ho
    obtain ⟨u, hu, hru⟩ := indexA_ok hE (w := w) (h.ev x) (h.ev i) hr
    exact ⟨u, by simp only [execOp, ho]; exact value_run hu, hru⟩
  · rename_i x i ho
    obtain ⟨u, hu, hru⟩ := extractA_ok (P := P) (w := w) (h.ev x) hr
    exact ⟨u, by simp only [execOp, ho]; exact value_run hu, hru⟩
  · rename_i x xt asserted ok ho
    unfold assertA at hr
    split at hr
    · rename_i i hi
      have hti := hE _ i hi
      obtain ⟨d, h1, h2⟩ := hti.und
      have hx := h.ev x
      split at hr
      · cases hr
      · cases hr
      · rename_i hk1 hk2
        have hnot : ∀ ms, d ≠ .interface ms := fun ms e => by
          subst e
          cases hk : i.k <;> rw [hk] at h2 <;> simp [TK.is] at h2 <;> simp_all
        split at hr
        · rename_i t v hv
          rw [hv] at hx
          simp only [Rep] at hx
          obtain ⟨y, hy, hyr⟩ := hx
          split at hr
          · rename_i ht
            have ht := Nat.eq_of_beq_eq_true ht
            subst ht
            obtain ⟨_, rfl⟩ := sel_one hr
            cases ok
            · refine ⟨y, ?_, hyr⟩
              simp only [execOp, ho]
              refine value_run ?_
              simp only [Instr.typeAssert, Sem.run_bind, run_underlying h1, Result.andThen_ok, hy]
              cases d <;> first | simp | exact absurd rfl (hnot _)
            · refine ⟨.tuple #[y, .bool true], ?_, _, rfl, ⟨_, _, rfl, hyr, _, _, rfl, rfl, rfl⟩⟩
              simp only [execOp, ho]
              refine value_run ?_
              simp only [Instr.typeAssert, Sem.run_bind, run_underlying h1, Result.andThen_ok, hy]
              cases d <;> first | simp | exact absurd rfl (hnot _)
          · rename_i ht
            have ht : t ≠ asserted := by
              intro e; subst e; simp at ht
            split at hr
            · rename_i hok
              subst hok
              obtain ⟨z, hz, hzr, hzs, hza, hzo⟩ := hti.run_zero w
              have hrun : ∀ zv, (zeroValue asserted).run P w = .ok zv w → (execOp a.eval o).run P w = .ok (.value (.tuple #[zv, .bool false])) w := fun zv hzv => by
                simp only [execOp, ho]
                refine value_run ?_
                simp only [Instr.typeAssert, Sem.run_bind, run_underlying h1, Result.andThen_ok, hy]
                cases d <;> first | simp [ht, hzv] | exact absurd rfl (hnot _)
              split at hr
              · rename_i ha
                obtain ⟨_, rfl⟩ := sel_one hr
                obtain ⟨cs, rfl⟩ := hza ha
                exact ⟨_, hrun _ hz, _, rfl, ⟨_, _, rfl, ⟨cs, rfl, hzr c⟩, _, _, rfl, rfl, rfl⟩⟩
              · rename_i ha
                split at hr
                · rename_i zv hzv
                  obtain ⟨_, rfl⟩ := sel_one hr
                  have hone := hzo (by simpa using ha)
                  have hzc := hzr c
                  rw [hzv] at hzc
                  simp only [RepL] at hzc
                  obtain ⟨u, r0, he, hu, rfl⟩ := hzc
                  have : z = u := by
                    cases z <;> simp [Value.oneCell'] at hone <;> simp [Value.cells] at he <;> exact he
                  subst this
                  exact ⟨_, hrun _ hz, _, rfl, ⟨_, _, rfl, hu, _, _, rfl, rfl, rfl⟩⟩
                · cases hr
            · cases hr
        · cases hr
    · cases hr
  · cases hr

theorem builtinV_ok {P : Program} {E : Env} (hE : EnvOK P E) {c : Ctx} {w : World} {b : Builtin} {ts : Array TypeId} {ty : TypeId} {cs : Array Bool} {xs : List AV} {args : Array Value} {r : AV} (hx : RepL c xs args.toList)
    (hr : sel (builtinV E b ts.toList xs) = some r) : ∃ v, (builtin b ts ty cs args).run P w = .ok (.value v) w ∧ Rep c r v := by
  unfold builtinV at hr
  split at hr
  · rename_i t ts' x xs' hts
    split at hr
    · rename_i i hi
      have hti := hE t i hi
      obtain ⟨d, h1, h2⟩ := hti.und
      simp only [RepL] at hx
      obtain ⟨v, r', hargs, hv, _⟩ := hx
      have ht0 : ts[0]? = some t := by
        have : ts.toList[0]? = some t := by rw [hts]; rfl
        simpa using this
      have ha0 : args[0]? = some v := by
        have : args.toList[0]? = some v := by rw [hargs]; rfl
        simpa using this
      split at hr
      · rename_i hk
        rw [hk] at h2; obtain rfl := TK.is_slice h2
        obtain ⟨A, n, cap, rfl, rfl⟩ := lenA_ok hv hr
        exact ⟨_, by simp [builtin, Builtin.len_, ht0, ha0, run_underlying h1, goInt], rfl⟩
      · rename_i hk
        rw [hk] at h2; obtain rfl := TK.is_str h2
        split at hr
        · obtain ⟨_, rfl⟩ := sel_one hr
          simp only [Rep] at hv; subst hv
          exact ⟨_, by simp [builtin, Builtin.len_, ht0, ha0, run_underlying h1, goInt], rfl⟩
        · cases hr
      · rename_i n e hk
        rw [hk] at h2; obtain rfl := TK.is_array h2
        obtain ⟨_, rfl⟩ := sel_one hr
        exact ⟨_, by simp [builtin, Builtin.len_, ht0, ha0, run_underlying h1, goInt], rfl⟩
      · cases hr
    · cases hr
  · rename_i x r' _
    simp only [RepL] at hx
    obtain ⟨v, rr, hargs, hv, hrr⟩ := hx
    obtain ⟨z, hz, hrz⟩ := maxA_ok (P := P) (w := w) _ _ _ _ _ hv hrr hr
    refine ⟨z, ?_, hrz⟩
    simp only [builtin]
    exact value_run (by simp only [Builtin.max_, hargs]; exact hz)
  · rename_i x r' _
    simp only [RepL] at hx
    obtain ⟨v, rr, hargs, hv, hrr⟩ := hx
    obtain ⟨z, hz, hrz⟩ := minA_ok (P := P) (w := w) _ _ _ _ _ hv hrr hr
    refine ⟨z, ?_, hrz⟩
    simp only [builtin]
    exact value_run (by simp only [Builtin.min_, hargs]; exact hz)
  · cases hr

/-! ### A new block that nobody owns; its cells known -/
def Ctx.addCells (c : Ctx) (k : Nat) (cells : List Value) : Ctx := { c with C := fun b o => if b = k then cells[o]? else c.C b o }
theorem Good.addCells {c : Ctx} {w w' : World} {bx : List Box2} (h : Good c w bx) {T : TypeId} {fz : Nat × Nat} {k : Nat} {cells : List Value} {cur : Array Value} (hk : w.heap.size ≤ k)
    (hos : w'.os = w.os) (htape : w'.tape = w.tape) (hout : w'.output = w.output) (hsize : w.heap.size ≤ w'.heap.size)
    (hother : ∀ b, b < w.heap.size → w'.heap[b]? = w.heap[b]?) (hrow : w'.heap[k]? = some (.cells cur T fz)) (hpre : cur.toList.take cells.length = cells) :
    Good (c.addCells k cells) w' bx ∧ ∀ nb, Ext nb c w (c.addCells k cells) w' := by
  have hnone : ∀ o u, c.C k o = some u → False := fun o u hu => by have := h.lt hu; omega
  have hcle : CLe c.C (c.addCells k cells).C := ⟨fun b o u hc => by
    simp only [Ctx.addCells]
    rw [if_neg (fun e => by subst e; exact hnone _ _ hc)]; exact hc⟩
  refine ⟨⟨?_, ?_, h.inj, ?_, h.tbox, h.tinj⟩, fun nb => ⟨hos, htape, hout, hsize, fun b hb ho => ⟨hother b hb, fun o => by simp only [Ctx.addCells]; rw [if_neg (by omega)]⟩, fun _ _ h => h, hcle, fun _ _ _ h => h⟩⟩
  · intro b o v hc
    simp only [Ctx.addCells] at hc
    by_cases hb : b = k
    · subst hb
      rw [if_pos rfl] at hc
      simp only [World.cell?, hrow, Option.isSome_none, Bool.false_eq_true, if_false]
      have : (cur.toList.take cells.length)[o]? = some v := by rw [hpre]; exact hc
      rw [List.getElem?_take] at this
      split at this
      · simpa using this
      · cases this
    · rw [if_neg hb] at hc
      have hlt := h.lt hc
      have := h.stab b o v hc
      simp only [World.cell?] at this ⊢
      rw [hother b hlt]; exact this
  · intro i B hi
    obtain ⟨m, h1, h2, h3, h4⟩ := h.box i B hi
    refine ⟨m, h1, h2, BoxOK.move (c := c) (w := w) (hother m h3.lt) (fun vs hr => ?_) h3, fun o => ?_⟩
    · exact repL_mono (c := c) (c' := c.addCells k cells) hcle (p := fun _ => True) (q := fun _ => True) (fun b _ k' hk' => hk') (fun _ _ => rfl) _ _ (okInL_all _) hr
    · simp only [Ctx.addCells]; rw [if_neg (by have := h3.lt; omega)]; exact h4 o
  · intro j T' s v ht
    rcases h.tok j T' s v ht with g1 | g1 | ⟨g, n, cap, cr, g1, g2, g3, g4, g5, g6, g7, g8, g9⟩
    · exact .inl g1
    · exact .inr (.inl g1)
    · refine .inr (.inr ⟨g, n, cap, cr, g1, g2, (hother g (heap_lt g3)).trans g3, g4, g5, g6, g7, g8, fun o ho => ?_⟩)
      simp only [Ctx.addCells]; rw [if_neg (by have := heap_lt g3; omega)]; exact g9 o ho
theorem addCells_repL {c : Ctx} {k : Nat} {cells : List Value} (hcle : CLe c.C (c.addCells k cells).C) (l : List AV) (vs : List Value) (h : RepL c l vs) : RepL (c.addCells k cells) l vs :=
  repL_mono (c := c) (c' := c.addCells k cells) hcle (p := fun _ => True) (q := fun _ => True) (fun b _ k' hk' => hk') (fun _ _ => rfl) _ _ (okInL_all _) h
theorem Good.allocAny {c : Ctx} {w : World} {bx : List Box2} (h : Good c w bx) (o : Obj) : Good c (w.alloc o) bx ∧ ∀ nb, Ext nb c w c (w.alloc o) := by
  refine ⟨⟨?_, ?_, h.inj, ?_, h.tbox, h.tinj⟩, fun nb => ⟨rfl, rfl, rfl, by simp, fun b hb ho => ⟨heap_alloc_lt hb, fun _ => rfl⟩, fun _ _ h => h, CLe.refl _, fun _ _ _ h => h⟩⟩
  · intro b o' v hc
    rw [World.cell?_alloc_lt _ _ _ (h.lt hc)]
    exact h.stab b o' v hc
  · intro i B hi
    obtain ⟨m, h1, h2, h3, h4⟩ := h.box i B hi
    exact ⟨m, h1, h2, h3.move (heap_alloc_lt h3.lt) (fun _ hr => hr), h4⟩
  · intro j T' s v ht
    rcases h.tok j T' s v ht with g1 | g1 | ⟨g, n, cap, cr, g1, g2, g3, g4⟩
    · exact .inl g1
    · exact .inr (.inl g1)
    · exact .inr (.inr ⟨g, n, cap, cr, g1, g2, alloc_keeps g3, g4⟩)

/-- What an operation does to the machine and to the plain state. -/
def Does (P : Program) (E : Env) (c : Ctx) (w : World) (s : St) (a : Act) (o : Oper) (r : AV) (s' : St) : Prop :=
  ∃ v w' c', ((execOp a.eval o).run P w = .ok (.value v) w' ∨ ((execOp a.eval o).run P w = .ok .skip w' ∧ v = undef)) ∧ Rep c' r v ∧ SR E c' w' s' a ∧ Ext s.bx.length c w c' w' ∧ s.bx.length ≤ s'.bx.length

theorem newBoxA_ok {E : Env} {c : Ctx} {w : World} {s s' : St} {a : Act} (h : SR E c w s a) {B : Box2} {o : Obj} {r : AV}
    (hB : ∀ c' : Ctx, (∀ vs, RepL c B.vals vs → RepL c' B.vals vs) → BoxOK c' (w.alloc o) w.heap.size B) (hr : sel (newBoxA s B) = some (r, s')) :
    ∃ c', Rep c' r (.pointer (some ⟨w.heap.size, 0, none⟩)) ∧ SR E c' (w.alloc o) s' a ∧ Ext s.bx.length c w c' (w.alloc o) ∧ s.bx.length ≤ s'.bx.length := by
  unfold newBoxA at hr
  simp only at hr
  split at hr
  · rename_i hp
    simp only [Bool.and_eq_true] at hp
    obtain ⟨_, he⟩ := sel_one hr
    simp only [Prod.mk.injEq] at he
    obtain ⟨rfl, rfl⟩ := he
    have hin : boxesIn (fun b => b < s.bx.length) (fun _ => True) (s.bx ++ [B]) := by
      intro B' hB'
      rcases List.mem_append.1 hB' with hb | hb
      · exact boxesIn_ptrs hp.2.1 B' hb
      · simp at hb; subst hb; exact okInL_ptrs _ hp.2.2
    obtain ⟨g1, g2⟩ := h.good.addBox B o hB hin
    exact ⟨_, ⟨w.heap.size, by simp [Ctx.addBox], rfl⟩, ⟨g1, addBox_repL _ _ (okInL_ptrs _ hp.1) h.fr, h.gl.mono g2.cle⟩, g2, by simp⟩
  · cases hr
end Go.Proofs.AbsV
