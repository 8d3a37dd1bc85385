/- Runs: what the machine of plain values comes to, the program's code comes to. No condition but those told in each statement. -/
import Derived.Test.YtopbldbgnpeelaaDoorAo
import Derived.LoopN
import Derived.Scope
set_option linter.unusedVariables false
set_option linter.unusedSimpArgs false
namespace Go.Proofs.AbsV
open Go

/-! ### Code -/
def toExit : Ex → Exit
  | .normal => .normal
  | .exit id => .exit id
  | .ret => .ret
theorem Good.take {c : Ctx} {w : World} {bx : List Box2} (h : Good c w bx) (n : Nat) : Good c w (bx.take n) := by
  refine ⟨h.stab, fun i B hi => ?_, fun i j k hi hj => h.inj i j k ?_ ?_, h.tok, fun j T s a m cap i ht hc hi => h.tbox j T s a m cap i ht hc ?_, h.tinj⟩
  · rw [List.getElem?_take] at hi
    split at hi
    · exact h.box i B hi
    · cases hi
  · simp at hi; omega
  · simp at hj; omega
  · simp at hi; omega
theorem rep_weaken {c : Ctx} : ∀ (x : AV) (v : Value), Rep c x v → Rep c (weaken x) v := by
  intro x v h
  cases x <;> try exact h
  simp only [weaken, Rep] at h ⊢
  obtain ⟨A, n, cap, h1, h2, _, h4⟩ := h
  exact ⟨A, n, cap, h1, h2, trivial, h4⟩
theorem repL_havoc {c : Ctx} {nb : Nat} {keep : Option (List Nat)} : ∀ (i : Nat) (l : List AV) (vs : List Value), RepL c l vs → RepL c (havocL nb keep i l) vs
  | _, [], vs, h => h
  | i, x :: l, vs, h => by
    simp only [RepL] at h
    obtain ⟨v, r, rfl, hx, hr⟩ := h
    refine ⟨v, r, rfl, ?_, repL_havoc (i + 1) l r hr⟩
    split
    · exact hx
    · split
      · exact rep_weaken x v hx
      · trivial
theorem head_ok {E : Env} {c : Ctx} {w : World} {s s1 : St} {a : Act} {nb : Nat} {keep : Option (List Nat)} (h : SR E c w s a) (hb : nb ≤ s.bx.length) (hh : head nb keep s = some s1) : SR E c w s1 a ∧ nb ≤ s1.bx.length := by
  unfold head at hh
  split at hh
  · cases hh; exact ⟨h, hb⟩
  · split at hh
    · cases hh
      exact ⟨⟨h.good.take nb, repL_havoc 0 _ _ h.fr, h.gl⟩, by simp; omega⟩
    · cases hh
theorem noGoto_of {Q : Exit → Act → World → Prop} {e : Ex} {a : Act} {w : World} (h : Q (toExit e) a w) : Exit.noGoto Q (toExit e) a w := by cases e <;> exact h

/-- The rounds of a loop. -/
theorem loopH_ok {α : Type} {P : Program} {E : Env} {code : Code} {body : St → (Ex → St → Option α) → Option α} {nb : Nat} {kh ke : Option (List Nat)}
    (hbody : ∀ (s : St) (k : Ex → St → Option α) (x : α), body s k = some x → ∀ (c : Ctx) (w : World) (a : Act) (Q : Exit → Act → World → Prop), SR E c w s a → a.defers = [] →
      (∀ e' s' c' w' a', SR E c' w' s' a' → a'.defers = [] → Ext s.bx.length c w c' w' → s.bx.length ≤ s'.bx.length → k e' s' = some x → Q (toExit e') a' w') → code.wp P Q a w) :
    ∀ (n : Nat) (s : St) (k : Ex → St → Option α) (x : α), loopH nb kh ke body n s k = some x → ∀ (c : Ctx) (w : World) (a : Act) (Q : Exit → Act → World → Prop), SR E c w s a → a.defers = [] → nb ≤ s.bx.length →
      (∀ e' s' c' w' a', SR E c' w' s' a' → a'.defers = [] → Ext nb c w c' w' → nb ≤ s'.bx.length → k e' s' = some x → Q (toExit e') a' w') → Code.rounds P code Q n a w
  | 0, s, k, x, hr, c, w, a, Q, h, hd, hb, hQ => by simp [loopH] at hr
  | n + 1, s, k, x, hr, c, w, a, Q, h, hd, hb, hQ => by
    rw [rounds_succ]
    simp only [loopH] at hr
    refine hbody s _ x hr c w a _ h hd (fun e' s' c' w' a' q1 q2 q3 q4 q5 => ?_)
    cases e' with
    | normal =>
      simp only at q5
      split at q5
      · rename_i s2 hs2
        obtain ⟨h1, h2⟩ := head_ok q1 (Nat.le_trans hb q4) hs2
        exact loopH_ok hbody n s2 k x q5 c' w' a' Q h1 q2 h2 (fun e2 s3 c3 w3 a3 r1 r2 r3 r4 r5 => hQ e2 s3 c3 w3 a3 r1 r2 ((q3.weaken hb).trans (Nat.le_refl _) r3) r4 r5)
      · cases q5
    | exit id =>
      simp only at q5
      split at q5
      · rename_i s2 hs2
        obtain ⟨h1, h2⟩ := head_ok q1 (Nat.le_trans hb q4) hs2
        exact hQ (.exit id) s2 c' w' a' h1 q2 (q3.weaken hb) h2 q5
      · cases q5
    | ret =>
      simp only at q5
      split at q5
      · rename_i s2 hs2
        obtain ⟨h1, h2⟩ := head_ok q1 (Nat.le_trans hb q4) hs2
        exact hQ .ret s2 c' w' a' h1 q2 (q3.weaken hb) h2 q5
      · cases q5

theorem SR.setO {E : Env} {c : Ctx} {w : World} {s : St} {a : Act} (h : SR E c w s a) {x : Operand} {b : Bool} (hb : a.eval x = .bool b) : SR E c w (s.setO x b) a := by
  cases x with
  | tmp t => exact h.setB (by simp only [Rep]; exact hb)
  | const v => exact h
  | global g => exact h
  | func f => exact h
theorem setO_bx (s : St) (x : Operand) (b : Bool) : (s.setO x b).bx = s.bx := by cases x <;> rfl

theorem runC_ok {α : Type} {P : Program} {E : Env} (hE : EnvOK P E) {T : FuncId → Option CSpec} (hT : TOK P E T) {inl : Inl α} (hI : InlOK P E inl) {hv : Keeps} {fuel : Nat} :
    ∀ (code : Code) (cur : Nat) (s : St) (k : Ex → St → Option α) (x : α), runC E T inl hv fuel code cur s k = some x → ∀ (c : Ctx) (w : World) (a : Act) (Q : Exit → Act → World → Prop), SR E c w s a → a.defers = [] →
      (∀ e' s' c' w' a', SR E c' w' s' a' → a'.defers = [] → Ext s.bx.length c w c' w' → s.bx.length ≤ s'.bx.length → k e' s' = some x → Q (toExit e') a' w') → code.wp P Q a w
  | .skip, cur, s, k, x, hr, c, w, a, Q, h, hd, hQ => wp_skip (hQ .normal s c w a h hd (Ext.refl _ _ _) (Nat.le_refl _) hr)
  | .region id ops false, cur, s, k, x, hr, c, w, a, Q, h, hd, hQ => by
    simp only [runC] at hr
    exact wp_region_list (runOps_ok hE hT hI ops.toList c w s a h hd hr (fun c' w' s' a' q1 q2 q3 q4 q5 => hQ .normal s' c' w' a' q1 q2 q3 q4 q5))
  | .region id ops true, cur, s, k, x, hr, c, w, a, Q, h, hd, hQ => by
    simp only [runC] at hr
    exact runD_ok hE hT h hd hr (fun c' w' s' a' q1 q2 q3 q4 q5 => hQ .normal s' c' w' a' q1 q2 q3 q4 q5)
  | .seq c1 c2, cur, s, k, x, hr, c, w, a, Q, h, hd, hQ => by
    simp only [runC] at hr
    refine wp_seq (runC_ok hE hT hI c1 cur s _ x hr c w a _ h hd (fun e' s' c' w' a' q1 q2 q3 q4 q5 => ?_))
    cases e' with
    | normal => exact runC_ok hE hT hI c2 cur s' k x q5 c' w' a' Q q1 q2 (fun e2 s2 c2 w2 a2 r1 r2 r3 r4 r5 => hQ e2 s2 c2 w2 a2 r1 r2 (q3.trans q4 r3) (Nat.le_trans q4 r4) r5)
    | exit id => exact hQ (.exit id) s' c' w' a' q1 q2 q3 q4 q5
    | ret => exact hQ .ret s' c' w' a' q1 q2 q3 q4 q5
  | .cond y c1 c2, cur, s, k, x, hr, c, w, a, Q, h, hd, hQ => by
    simp only [runC] at hr
    split at hr
    · rename_i g hg
      have hy := h.ev y
      rw [hg] at hy
      simp only [Rep] at hy
      refine wp_cond hy ?_
      cases g with
      | true =>
        rw [if_pos rfl]
        refine runC_ok hE hT hI c1 cur _ k x hr c w a Q (h.setO hy) hd (fun e' s' c' w' a' q1 q2 q3 q4 q5 => ?_)
        rw [setO_bx] at q3 q4
        exact hQ e' s' c' w' a' q1 q2 q3 q4 q5
      | false =>
        rw [if_neg (by simp)]
        refine runC_ok hE hT hI c2 cur _ k x hr c w a Q (h.setO hy) hd (fun e' s' c' w' a' q1 q2 q3 q4 q5 => ?_)
        rw [setO_bx] at q3 q4
        exact hQ e' s' c' w' a' q1 q2 q3 q4 q5
    · cases hr
  | .block id c1, cur, s, k, x, hr, c, w, a, Q, h, hd, hQ => by
    simp only [runC] at hr
    refine wp_block (runC_ok hE hT hI c1 id s _ x hr c w a _ h hd (fun e' s' c' w' a' q1 q2 q3 q4 q5 => ?_))
    cases e' with
    | normal => exact hQ .normal s' c' w' a' q1 q2 q3 q4 q5
    | exit id' =>
      simp only at q5
      simp only [toExit, Exit.inBlock]
      split at q5
      · rename_i hb
        rw [if_pos (Nat.eq_of_beq_eq_true hb)]
        exact hQ .normal s' c' w' a' q1 q2 q3 q4 q5
      · rename_i hb
        rw [if_neg (fun e => hb (by rw [e]; exact Nat.beq_refl _))]
        exact hQ (.exit id') s' c' w' a' q1 q2 q3 q4 q5
    | ret => exact hQ .ret s' c' w' a' q1 q2 q3 q4 q5
  | .loop c1, cur, s, k, x, hr, c, w, a, Q, h, hd, hQ => by
    simp only [runC] at hr
    split at hr
    · rename_i s1 hs1
      obtain ⟨h1, h2⟩ := head_ok h (Nat.le_refl _) hs1
      exact wp_loop_rounds fuel (loopH_ok (fun s k x hb c w a Q h hd hQ => runC_ok hE hT hI c1 cur s k x hb c w a Q h hd hQ) fuel s1 k x hr c w a Q h1 hd h2 hQ)
    · cases hr
  | .exit id, cur, s, k, x, hr, c, w, a, Q, h, hd, hQ => wp_exit (hQ (.exit id) s c w a h hd (Ext.refl _ _ _) (Nat.le_refl _) hr)
  | .scope c1, cur, s, k, x, hr, c, w, a, Q, h, hd, hQ => by
    simp only [runC] at hr
    exact wp_scope_straight (runC_ok hE hT hI c1 cur s k x hr c w a _ h hd (fun e' s' c' w' a' q1 q2 q3 q4 q5 => noGoto_of (hQ e' s' c' w' a' q1 q2 q3 q4 q5)))
  | .label l, cur, s, k, x, hr, c, w, a, Q, h, hd, hQ => wp_label (hQ .normal s c w a h hd (Ext.refl _ _ _) (Nat.le_refl _) hr)
  | .ret, cur, s, k, x, hr, c, w, a, Q, h, hd, hQ => wp_ret (hQ .ret s c w a h hd (Ext.refl _ _ _) (Nat.le_refl _) hr)
  | .goto l, cur, s, k, x, hr, c, w, a, Q, h, hd, hQ => by simp [runC] at hr
  | .rangeFunc _ _ _ _, cur, s, k, x, hr, c, w, a, Q, h, hd, hQ => by simp [runC] at hr
  | .refuse _, cur, s, k, x, hr, c, w, a, Q, h, hd, hQ => by simp [runC] at hr

/-! ### Functions -/
theorem resOne_ok {P : Program} {E : Env} (hE : EnvOK P E) {c : Ctx} {w : World} {s : St} {a : Act} (h : SR E c w s a) {r : ResultVar} {y : AV} (hy : resOne E s r = some y) :
    ∃ v, (match r with | .tmp t => pure (a.tmps.getD t undef) | .cell b t => (do loadVar t (← asAddr (a.tmps.getD b undef))) : Sem Value).run P w = .ok v w ∧ Rep c y v := by
  have hget : ∀ t, Rep c (s.fr.getD t .any) (a.tmps.getD t undef) := fun t => by
    have := h.fr.getD t undef
    have hv : a.tmps.toList.getD t undef = a.tmps.getD t undef := by simp [List.getD_eq_getElem?_getD, Array.getD_eq_getD_getElem?]
    rwa [hv] at this
  cases r with
  | tmp t =>
    simp only [resOne, Option.some.injEq] at hy
    subst hy
    exact ⟨_, rfl, hget t⟩
  | cell b t =>
    simp only [resOne] at hy
    obtain ⟨u, hu, hru⟩ := loadA_ok hE h.gl h.good (hget b) hy
    refine ⟨u, ?_, hru⟩
    unfold Instr.loadAt at hu
    simp only [Sem.run_bind] at hu ⊢
    cases hv : a.tmps.getD b undef with
    | pointer p =>
      rw [hv] at hu
      cases p with
      | none => simp [Instr.sureAddr] at hu
      | some ad => simpa [Instr.sureAddr, asAddr] using hu
    | _ => rw [hv] at hu; simp [Instr.sureAddr] at hu
theorem resL_ok {P : Program} {E : Env} (hE : EnvOK P E) {c : Ctx} {w : World} {s : St} {a : Act} (h : SR E c w s a) : ∀ (rs : List ResultVar) (l : List AV), resL E s rs = some l →
    ∃ vs, (rs.mapM (m := Sem) fun | .tmp t => pure (a.tmps.getD t undef) | .cell b t => do loadVar t (← asAddr (a.tmps.getD b undef))).run P w = .ok vs w ∧ RepL c l vs
  | [], l, hl => by
    simp only [resL, Option.some.injEq] at hl
    subst hl
    exact ⟨[], rfl, rfl⟩
  | r :: rs, l, hl => by
    simp only [resL] at hl
    split at hl
    · rename_i y ys hy hys
      cases hl
      obtain ⟨v, hv, hrv⟩ := resOne_ok hE h hy
      obtain ⟨vs, hvs, hrvs⟩ := resL_ok hE h rs ys hys
      refine ⟨v :: vs, ?_, v, vs, rfl, hrv, hrvs⟩
      simp only [List.mapM_cons, Sem.run_bind, hv, Result.andThen_ok, hvs, Sem.run_pure]
    · cases hl
theorem results_ok {P : Program} {E : Env} (hE : EnvOK P E) {c : Ctx} {w : World} {s : St} {a : Act} (h : SR E c w s a) {fn : Func} {r : AV} (hr : resA E s fn.results.toList = some r) : ∃ v, (results fn a.tmps).run P w = .ok v w ∧ Rep c r v := by
  have hrun : ∀ vs, (fn.results.toList.mapM (m := Sem) fun | .tmp t => pure (a.tmps.getD t undef) | .cell b t => do loadVar t (← asAddr (a.tmps.getD b undef))).run P w = .ok vs w →
      (results fn a.tmps).run P w = .ok (if h : vs.toArray.size = 1 then vs.toArray[0] else .tuple vs.toArray) w := fun vs hvs => by
    have hm : (fn.results.mapM (m := Sem) fun | .tmp t => pure (a.tmps.getD t undef) | .cell b t => do loadVar t (← asAddr (a.tmps.getD b undef))).run P w = .ok vs.toArray w := by
      rw [← Array.toArray_toList (xs := fn.results), List.mapM_toArray]
      simp only [Sem.run_map, hvs, Result.andThen_ok]
    unfold results
    simp only [Sem.run_bind, Sem.run_pure]
    exact (congrArg (fun z => Result.andThen z _) hm).trans rfl
  unfold resA at hr
  split at hr
  · rename_i x hx
    cases hr
    obtain ⟨vs, hvs, hl⟩ := resL_ok hE h _ _ hx
    simp only [RepL] at hl
    obtain ⟨v, _, rfl, hv, rfl⟩ := hl
    exact ⟨v, hrun _ hvs, hv⟩
  · rename_i l hne hl0
    cases hr
    obtain ⟨vs, hvs, hl⟩ := resL_ok hE h _ _ hl0
    have hlen := hl.length
    refine ⟨.tuple vs.toArray, ?_, vs.toArray, rfl, by simpa using hl⟩
    rw [hrun _ hvs, dif_neg]
    intro h1
    have h1 : vs.length = 1 := by simpa using h1
    rw [hlen] at h1
    match l, h1 with
    | [x], _ => exact hne x rfl
  · cases hr

theorem repL_undefs (c : Ctx) : ∀ n, RepL c (List.replicate n undefA) (List.replicate n undef)
  | 0 => rfl
  | n + 1 => ⟨_, _, rfl, rep_undef c, repL_undefs c n⟩
/-- A function that the machine of plain values runs is called so. -/
theorem runF_ok {α : Type} {P : Program} {E : Env} (hE : EnvOK P E) {T : FuncId → Option CSpec} (hT : TOK P E T) {inl : Inl α} (hI : InlOK P E inl) {hv : Keeps} {fuel : Nat} {f : FuncId} {fn : Func} (hfn : FnOK P f fn) {args : List AV} {bx : List Box2} {k : AV → List Box2 → Option α} {x : α}
    (hr : runF E T inl hv fuel fn args bx k = some x) (c : Ctx) (w : World) (cargs : Array Value) (hg : Good c w bx) (hgl : GlOK E c.C) (hargs : RepL c args cargs.toList) :
    Calls P f cargs w (fun e w' => ∃ v r bx' c', e = .returned v ∧ k r bx' = some x ∧ Good c' w' bx' ∧ Rep c' r v ∧ Ext bx.length c w c' w' ∧ bx.length ≤ bx'.length) := by
  unfold runF at hr
  split at hr
  · cases hr
  · rename_i code hb
    refine calls_of_wp hfn.at_ hb ?_
    have hlen := hargs.length
    refine runC_ok hE hT hI code 0 _ _ x hr c w _ _ ⟨hg, ?_, hgl⟩ rfl (fun e' s' c' w' a' q1 q2 q3 q4 q5 => ?_)
    · have := hargs.append (repL_undefs c (fn.ntmps - args.length))
      simp only [Array.length_toList] at hlen
      rw [show (cargs ++ Array.replicate (fn.ntmps - cargs.size) undef).toList = cargs.toList ++ List.replicate (fn.ntmps - args.length) undef by rw [hlen]; simp]
      exact this
    · cases e' with
      | exit id => cases q5
      | normal =>
        simp only at q5
        split at q5
        · rename_i r hres
          obtain ⟨v, hv, hrv⟩ := results_ok hE q1 hres
          exact ⟨q2, v, hv, v, r, s'.bx, c', rfl, q5, q1.good, hrv, q3, q4⟩
        · cases q5
      | ret =>
        simp only at q5
        split at q5
        · rename_i r hres
          obtain ⟨v, hv, hrv⟩ := results_ok hE q1 hres
          exact ⟨q2, v, hv, v, r, s'.bx, c', rfl, q5, q1.good, hrv, q3, q4⟩
        · cases q5
theorem inlNone_ok {α : Type} {P : Program} {E : Env} : InlOK P E (fun _ _ _ _ => none : Inl α) := fun f args bx k x h => by cases h
theorem inlD_ok {α : Type} {P : Program} {E : Env} (hE : EnvOK P E) {T : FuncId → Option CSpec} (hT : TOK P E T) {fns : FuncId → Option Func} (hF : ∀ f fn, fns f = some fn → FnOK P f fn) {hv : FuncId → Keeps} {fuel : Nat} :
    ∀ d, InlOK P E (inlD (α := α) E T fns hv fuel d)
  | 0 => inlNone_ok
  | d + 1 => fun f args bx k x h => by
    simp only [inlD] at h
    split at h
    · rename_i fn hfn
      exact ⟨⟨fn, hF f fn hfn⟩, fun c w cargs hg hgl hargs => runF_ok hE hT (inlD_ok hE hT hF d) (hF f fn hfn) h c w cargs hg hgl hargs⟩
    · cases h

/-- A function of data, out of its run: it makes no box that it hands back. -/
theorem PureOK.of_run {P : Program} {E : Env} (hE : EnvOK P E) {T : FuncId → Option CSpec} (hT : TOK P E T) {inl : Inl AV} (hI : InlOK P E inl) {f : FuncId} {fn : Func} (hfn : FnOK P f fn) {hv : Keeps} {sp : List AV → List (Bool × AV)}
    (h : ∀ args r, sel (sp args) = some r → ∃ fuel, runF E T inl hv fuel fn (stripL args) [] (fun r bx => some r) = some r) : PureOK P E f sp := by
  refine ⟨⟨fn, hfn⟩, fun args r hr hp C w cargs hstab hgl hargs => ?_⟩
  obtain ⟨fuel, hrun⟩ := h args r hr
  have hg : Good (ctx0 C) w [] := ⟨hstab, (fun i B hi => by simp at hi), (fun i j k hi => by simp at hi), (fun j T s v ht => by cases ht), (fun j T s a n cap i ht => by cases ht), (fun j T s a n cap j' T' s' a' n' cap' ht => by cases ht)⟩
  refine (runF_ok hE hT hI hfn hrun (ctx0 C) w cargs hg hgl (repL_strip _ _ hargs)).mono fun e w' hh => ?_
  obtain ⟨v, r', bx', c', rfl, g1, g2, g3, g4, g5⟩ := hh
  cases g1
  refine ⟨v, c', rfl, g3, ?_, g4⟩
  have := g2.take 0
  simpa using this
end Go.Proofs.AbsV
