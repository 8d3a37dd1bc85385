/- Calls and regions: what the machine of plain values comes to, the program's code comes to. No condition but those told in each statement. -/
import Derived.Test.YtopbldbgnpeelaaDoorAy
import Derived.LoopN
import Derived.Scope
set_option linter.unusedVariables false
set_option linter.unusedSimpArgs false
namespace Go.Proofs.AbsV
open Go

def ctx0 (C : Stab) : Ctx := ⟨C, fun _ => none, fun _ => none, fun _ => False⟩
/-- A function that the machine enters. -/
structure FnOK (P : Program) (f : FuncId) (fn : Func) : Prop where
  at_ : P.funcs[f]? = some fn
  body : fn.body.isNone = false
  name : (fn.name == "runtime.NumGoroutine") = false
/-- A function of data: called in whatever memory it answers this, and what was there stays. -/
structure PureOK (P : Program) (E : Env) (f : FuncId) (sp : List AV → List (Bool × AV)) : Prop where
  fn : ∃ fn, FnOK P f fn
  ok : ∀ (args : List AV) (r : AV), sel (sp args) = some r → ptrsB 0 r = true → ∀ (C : Stab) (w : World) (cargs : Array Value), (∀ b o v, C b o = some v → w.cell? ⟨b, o, none⟩ = some v) → GlOK E C → RepL (ctx0 C) args cargs.toList →
    Calls P f cargs w (fun e w' => ∃ v c', e = .returned v ∧ Rep c' r v ∧ Good c' w' [] ∧ Ext 0 (ctx0 C) w c' w')
/-- A context in which one box is known. -/
def ctxB (C : Stab) (k : Nat) : Ctx := ⟨C, fun i => if i = 0 then some k else none, fun _ => none, fun b => b = k⟩
/-- A function that is handed a pointer to a box: what it answers, and what is in the box then; all else stays. -/
structure BorOK (P : Program) (E : Env) (f : FuncId) (sp : List AV → List AV → List (Bool × AV × List AV)) : Prop where
  fn : ∃ fn, FnOK P f fn
  ok : ∀ (l rest : List AV) (r : AV) (l' : List AV), sel (sp l rest) = some (r, l') → ptrsB 0 r = true → ptrsBL 0 l' = true → ∀ (C : Stab) (w : World) (Tt : TypeId) (blk : Nat) (crest : List Value), GlOK E C → Good (ctxB C blk) w [.cells Tt l] → RepL (ctxB C blk) rest crest →
    Calls P f (.pointer (some ⟨blk, 0, none⟩) :: crest).toArray w (fun e w' => ∃ v c', e = .returned v ∧ Rep c' r v ∧ Good c' w' [.cells Tt l'] ∧ Ext 1 (ctxB C blk) w c' w')
structure TOK (P : Program) (E : Env) (T : FuncId → Option CSpec) : Prop where
  mixed : P.follows .mixedOrders = true
  at_ : ∀ f sp, T f = some (.pure sp) → PureOK P E f sp
  bor : ∀ f sp spn, T f = some (.bor sp spn) → BorOK P E f sp ∧ PureOK P E f spn
/-- Functions that are run within others. -/
def InlOK {α : Type} (P : Program) (E : Env) (inl : Inl α) : Prop := ∀ f args bx (k : AV → List Box2 → Option α) x, inl f args bx k = some x → (∃ fn, FnOK P f fn) ∧
  ∀ (c : Ctx) (w : World) (cargs : Array Value), Good c w bx → GlOK E c.C → RepL c args cargs.toList →
    Calls P f cargs w (fun e w' => ∃ v r bx' c', e = .returned v ∧ k r bx' = some x ∧ Good c' w' bx' ∧ Rep c' r v ∧ Ext bx.length c w c' w' ∧ bx.length ≤ bx'.length)

mutual
theorem strip_strip : ∀ x : AV, strip (strip x) = strip x
  | .any => rfl
  | .int _ _ => rfl
  | .bool _ => rfl
  | .str _ => rfl
  | .nilsl => rfl
  | .sl e xs nl own => rfl
  | .agg l => by simp only [strip, stripL_strip l]
  | .ptr b off => rfl
  | .nilp => rfl
  | .epin e xs i off => rfl
  | .glob _ _ => rfl
  | .fn f l => by simp only [strip, stripL_strip l]
  | .nilfn => rfl
  | .iface t x => by simp only [strip, strip_strip x]
  | .niliface => rfl
  | .tup l => by simp only [strip, stripL_strip l]
  | .asl sz l => by simp only [strip, stripL_strip l]
  | .apin sz l off => by simp only [strip, stripL_strip l]
theorem stripL_strip : ∀ l : List AV, stripL (stripL l) = stripL l
  | [] => rfl
  | x :: l => by simp only [stripL, strip_strip x, stripL_strip l]
end
theorem okInL_stripF {p q : Nat → Prop} (l : List AV) (h : okInL p (fun _ => True) l) : okInL p q (stripL l) := okInL_strip l h

/-! ### What a function of data hands back -/
mutual
theorem rep_shift {c c' : Ctx} {m : Nat} (hC : c'.C = c.C) (hq : ∀ i, c'.tk (m + i) = c.tk i) : ∀ (x : AV) (v : Value), okIn (fun _ => False) (fun _ => True) x → Rep c x v → Rep c' (shiftTok m x) v
  | .any, v, _, _ => trivial
  | .int _ _, v, _, h => h
  | .bool _, v, _, h => h
  | .str _, v, _, h => h
  | .nilsl, v, _, h => h
  | .sl e xs nl own, v, _, h => by
    simp only [Rep, shiftTok] at h ⊢
    obtain ⟨A, n, cap, rfl, hs, hn, hw⟩ := h
    refine ⟨A, n, cap, rfl, by rw [hC]; exact hs, hn, ?_⟩
    cases own with
    | none => trivial
    | some p => simp only [OwnOK] at hw ⊢; rw [hq]; exact hw
  | .agg l, v, ho, h => by
    simp only [Rep, shiftTok] at h ⊢
    obtain ⟨vs, rfl, hl⟩ := h
    exact ⟨vs, rfl, repL_shift hC hq l _ ho hl⟩
  | .ptr b off, v, ho, h => ho.elim
  | .nilp, v, _, h => h
  | .epin e xs i off, v, _, h => by
    simp only [Rep, shiftTok] at h ⊢
    rw [hC]; exact h
  | .glob _ _, v, _, h => h
  | .fn f l, v, ho, h => by
    simp only [Rep, shiftTok] at h ⊢
    obtain ⟨vs, rfl, hl⟩ := h
    exact ⟨vs, rfl, repL_shift hC hq l _ ho hl⟩
  | .nilfn, v, _, h => h
  | .iface t x, v, ho, h => by
    simp only [Rep, shiftTok] at h ⊢
    obtain ⟨y, rfl, hy⟩ := h
    exact ⟨y, rfl, rep_shift hC hq x _ ho hy⟩
  | .niliface, v, _, h => h
  | .tup l, v, ho, h => by
    simp only [Rep, shiftTok] at h ⊢
    obtain ⟨vs, rfl, hl⟩ := h
    exact ⟨vs, rfl, repL_shift hC hq l _ ho hl⟩
  | .asl sz l, v, ho, h => by
    simp only [Rep, shiftTok] at h ⊢
    obtain ⟨b, o, n, cap, rfl, h1, h2, vs, hl, hc⟩ := h
    exact ⟨b, o, n, cap, rfl, by rw [shiftTokL_length]; exact h1, h2, vs, repL_shift hC hq l _ ho hl, by rw [hC]; exact hc⟩
  | .apin sz l off, v, ho, h => by
    simp only [Rep, shiftTok] at h ⊢
    obtain ⟨h1, b, o, rfl, vs, hl, hc⟩ := h
    exact ⟨by rw [shiftTokL_length]; exact h1, b, o, rfl, vs, repL_shift hC hq l _ ho hl, by rw [hC]; exact hc⟩
theorem repL_shift {c c' : Ctx} {m : Nat} (hC : c'.C = c.C) (hq : ∀ i, c'.tk (m + i) = c.tk i) : ∀ (l : List AV) (vs : List Value), okInL (fun _ => False) (fun _ => True) l → RepL c l vs → RepL c' (shiftTokL m l) vs
  | [], vs, _, h => h
  | x :: l, vs, ho, h => by
    simp only [RepL, shiftTokL] at h ⊢
    obtain ⟨v, r, rfl, hx, hr⟩ := h
    exact ⟨v, r, rfl, rep_shift hC hq x _ ho.1 hx, repL_shift hC hq l _ ho.2 hr⟩
theorem shiftTokL_length {m : Nat} : ∀ l : List AV, (shiftTokL m l).length = l.length
  | [] => rfl
  | x :: l => by simp [shiftTokL, shiftTokL_length l]
end
def Ctx.adopt (c c' : Ctx) (m : Nat) : Ctx := ⟨c'.C, c.mu, fun i => if i < m then c.tk i else c'.tk (i - m), fun b => c.ow b ∨ c'.ow b⟩
theorem okFalse {x : AV} (h : ptrsB 0 x = true) : okIn (fun _ => False) (fun _ => True) x := okIn_imp (fun i hi => absurd hi (Nat.not_lt_zero i)) (fun _ h => h) _ (okIn_ptrs _ h)
theorem okFalseL {l : List AV} (h : ptrsBL 0 l = true) : okInL (fun _ => False) (fun _ => True) l := okInL_imp (fun i hi => absurd hi (Nat.not_lt_zero i)) (fun _ h => h) _ (okInL_ptrs _ h)
theorem SR.adopt {E : Env} {c c' : Ctx} {w w' : World} {s : St} {a : Act} (h : SR E c w s a) (hg : Good c' w' []) (he : Ext 0 (ctx0 c.C) w c' w') :
    SR E (c.adopt c' s.maxTok) w' s a ∧ Ext s.bx.length c w (c.adopt c' s.maxTok) w' := by
  have hkeep : ∀ b, b < w.heap.size → w'.heap[b]? = w.heap[b]? ∧ ∀ o, c'.C b o = c.C b o := fun b hb => he.keep b hb (fun h => h)
  have hnow : ∀ b, c'.ow b → w.heap.size ≤ b := fun b hb => by
    rcases Nat.lt_or_ge b w.heap.size with h | h
    · exact (he.ow b h hb).elim
    · exact h
  have hrow : ∀ j T s' a' n cap, c.tk j = some (T, s', .slice (some a') n cap) → 0 < cap → a'.block < w.heap.size := fun j T s' a' n cap ht hc => by
    rcases h.good.tok j T s' _ ht with g1 | ⟨_, g1⟩ | ⟨g, n', cap', cur, g1, _, g3, _⟩
    · cases g1
    · injection g1 with _ _ g1; omega
    · injection g1 with g1 _ _; injection g1 with g1; subst g1; exact heap_lt g3
  have hrow' : ∀ j T s' a' n cap, c'.tk j = some (T, s', .slice (some a') n cap) → 0 < cap → w.heap.size ≤ a'.block := fun j T s' a' n cap ht hc => by
    rcases hg.tok j T s' _ ht with g1 | ⟨_, g1⟩ | ⟨g, n', cap', cur, g1, g2, g3, _⟩
    · cases g1
    · injection g1 with _ _ g1; omega
    · injection g1 with g1 _ _; injection g1 with g1; subst g1; exact hnow _ g2
  have hmono : ∀ l vs, okInL (fun _ => True) (fun j => j < s.maxTok) l → RepL c l vs → RepL (c.adopt c' s.maxTok) l vs := fun l vs ho hl =>
    repL_mono (c := c) (c' := c.adopt c' s.maxTok) he.cle (p := fun _ => True) (fun _ _ _ hk => hk) (fun i hi => by simp only [Ctx.adopt]; rw [if_pos hi]) l vs ho hl
  refine ⟨⟨⟨?_, ?_, h.good.inj, ?_, ?_, ?_⟩, ?_, h.gl.mono he.cle⟩, ⟨he.os, he.tape, he.output, he.size, fun b hb ho => hkeep b hb, ?_, he.cle, fun _ _ _ hk => hk⟩⟩
  · exact hg.stab
  · intro i B hi
    obtain ⟨k, h1, h2, h3, h4⟩ := h.good.box i B hi
    refine ⟨k, h1, .inl h2, BoxOK.move (c := c) (w := w) (hkeep k h3.lt).1 (fun vs hr => ?_) h3, fun o => ((hkeep k h3.lt).2 o).trans (h4 o)⟩
    exact hmono _ _ (boxesIn_max (m := s.maxTok) (Nat.le_max_right _ _) B (List.mem_of_getElem? hi)) hr
  · intro j T s' v ht
    simp only [Ctx.adopt] at ht
    by_cases hj : j < s.maxTok
    · rw [if_pos hj] at ht
      rcases h.good.tok j T s' v ht with g1 | g1 | ⟨g, n, cap, cur, g1, g2, g3, g4, g5, g6, g7, g8, g9⟩
      · exact .inl g1
      · exact .inr (.inl g1)
      · exact .inr (.inr ⟨g, n, cap, cur, g1, .inl g2, (hkeep g (heap_lt g3)).1.trans g3, g4, g5, g6, g7, g8, fun o ho => ((hkeep g (heap_lt g3)).2 o).trans (g9 o ho)⟩)
    · rw [if_neg hj] at ht
      rcases hg.tok _ T s' v ht with g1 | g1 | ⟨g, n, cap, cur, g1, g2, g3, g4⟩
      · exact .inl g1
      · exact .inr (.inl g1)
      · exact .inr (.inr ⟨g, n, cap, cur, g1, .inr g2, g3, g4⟩)
  · intro j T s' a' n cap i ht hc hi
    simp only [Ctx.adopt] at ht ⊢
    by_cases hj : j < s.maxTok
    · rw [if_pos hj] at ht
      exact h.good.tbox j T s' a' n cap i ht hc hi
    · rw [if_neg hj] at ht
      intro hm
      obtain ⟨k, h1, _, h3, _⟩ := h.good.box i s.bx[i] (by simp [hi])
      rw [h1] at hm; cases hm
      have := hrow' _ T s' a' n cap ht hc
      have := h3.lt
      omega
  · intro j T s' a' n cap j' T' s'' a'' n' cap' h1 h2 hc1 hc2 hb
    simp only [Ctx.adopt] at h1 h2
    by_cases hj : j < s.maxTok
    · rw [if_pos hj] at h1
      by_cases hj' : j' < s.maxTok
      · rw [if_pos hj'] at h2
        exact h.good.tinj j T s' a' n cap j' T' s'' a'' n' cap' h1 h2 hc1 hc2 hb
      · rw [if_neg hj'] at h2
        have := hrow _ T s' a' n cap h1 hc1
        have := hrow' _ T' s'' a'' n' cap' h2 hc2
        omega
    · rw [if_neg hj] at h1
      by_cases hj' : j' < s.maxTok
      · rw [if_pos hj'] at h2
        have := hrow' _ T s' a' n cap h1 hc1
        have := hrow _ T' s'' a'' n' cap' h2 hc2
        omega
      · rw [if_neg hj'] at h2
        have := hg.tinj _ T s' a' n cap _ T' s'' a'' n' cap' h1 h2 hc1 hc2 hb
        omega
  · exact hmono _ _ (okInL_max (m := s.maxTok) _ (okInL_all _) (Nat.le_max_left _ _)) h.fr
  · intro b hb ho
    rcases ho with ho | ho
    · exact ho
    · have := hnow b ho; omega

theorem BoxOK.recell {c c' : Ctx} {w : World} {k : Nat} {Tt : TypeId} {l l' : List AV} (h : BoxOK c w k (.cells Tt l)) (hr : ∀ vs, RepL c l vs → RepL c' l' vs) : BoxOK c' w k (.cells Tt l') := by
  obtain ⟨arr, h, hl⟩ := h
  exact ⟨arr, h, hr _ hl⟩
theorem boxArg_some {l : List AV} {b : Nat} {rest : List AV} (h : boxArg l = some (b, rest)) : l = .ptr b 0 :: rest := by
  unfold boxArg at h
  split at h
  · cases h; rfl
  · cases h
theorem SR.borrow {E : Env} {c c' : Ctx} {w w' : World} {s : St} {a : Act} (h : SR E c w s a) {b blk : Nat} {Tt : TypeId} {l l' : List AV} (hb : s.bx[b]? = some (.cells Tt l)) (hblk : c.mu b = some blk) (hp : okInL (fun _ => False) (fun _ => True) l')
    (hg : Good c' w' [.cells Tt l']) (he : Ext 1 (ctxB c.C blk) w c' w') :
    SR E (c.adopt c' s.maxTok) w' { s with bx := s.bx.set b (.cells Tt (stripL l')) } a ∧ Ext s.bx.length c w (c.adopt c' s.maxTok) w' := by
  have hbl : b < s.bx.length := (List.getElem?_eq_some_iff.1 hb).1
  obtain ⟨blk0, m1, m2, m3, m4⟩ := h.good.box b _ hb
  rw [hblk] at m1; cases m1
  have hmu0 : c'.mu 0 = some blk := he.mu 0 blk (by omega) (by simp [ctxB])
  have hkeep : ∀ k, k < w.heap.size → k ≠ blk → w'.heap[k]? = w.heap[k]? ∧ ∀ o, c'.C k o = c.C k o := fun k hk hne => he.keep k hk (fun h => hne h)
  have hnow : ∀ k, c'.ow k → w.heap.size ≤ k ∨ k = blk := fun k hk => by
    rcases Nat.lt_or_ge k w.heap.size with h | h
    · exact .inr (he.ow k h hk)
    · exact .inl h
  have hrow : ∀ j T s' a' n cap, c.tk j = some (T, s', .slice (some a') n cap) → 0 < cap → a'.block < w.heap.size ∧ a'.block ≠ blk := fun j T s' a' n cap ht hc => by
    refine ⟨?_, fun e => h.good.tbox j T s' a' n cap b ht hc hbl (by rw [hblk, e])⟩
    rcases h.good.tok j T s' _ ht with g1 | ⟨_, g1⟩ | ⟨g, n', cap', cur, g1, _, g3, _⟩
    · cases g1
    · injection g1 with _ _ g1; omega
    · injection g1 with g1 _ _; injection g1 with g1; subst g1; exact heap_lt g3
  have hrow' : ∀ j T s' a' n cap, c'.tk j = some (T, s', .slice (some a') n cap) → 0 < cap → w.heap.size ≤ a'.block ∧ a'.block ≠ blk := fun j T s' a' n cap ht hc => by
    have hne : a'.block ≠ blk := fun e => hg.tbox j T s' a' n cap 0 ht hc (by simp) (by rw [hmu0, e])
    refine ⟨?_, hne⟩
    rcases hg.tok j T s' _ ht with g1 | ⟨_, g1⟩ | ⟨g, n', cap', cur, g1, g2, g3, _⟩
    · cases g1
    · injection g1 with _ _ g1; omega
    · injection g1 with g1 _ _; injection g1 with g1; subst g1; exact (hnow _ g2).resolve_right hne
  have hmono : ∀ l vs, okInL (fun _ => True) (fun j => j < s.maxTok) l → RepL c l vs → RepL (c.adopt c' s.maxTok) l vs := fun l vs ho hl =>
    repL_mono (c := c) (c' := c.adopt c' s.maxTok) he.cle (p := fun _ => True) (fun _ _ _ hk => hk) (fun i hi => by simp only [Ctx.adopt]; rw [if_pos hi]) l vs ho hl
  have hshift : ∀ vs, RepL c' l' vs → RepL (c.adopt c' s.maxTok) (stripL l') vs := fun vs hv =>
    repL_mono (c := c') (c' := c.adopt c' s.maxTok) (CLe.refl _) (p := fun _ => False) (q := fun _ => False) (fun _ h => h.elim) (fun _ h => h.elim) _ _ (okInL_strip _ hp) (repL_strip _ _ hv)
  refine ⟨⟨⟨?_, ?_, ?_, ?_, ?_, ?_⟩, ?_, h.gl.mono he.cle⟩, ⟨he.os, he.tape, he.output, he.size, fun k hk ho => hkeep k hk (fun e => ho (e ▸ m2)), ?_, he.cle, fun _ _ _ hk => hk⟩⟩
  · exact hg.stab
  · intro i B hi
    simp only at hi
    by_cases hib : i = b
    · subst hib
      rw [List.getElem?_set_self hbl] at hi
      cases hi
      obtain ⟨k, q1, q2, q3, q4⟩ := hg.box 0 _ rfl
      rw [hmu0] at q1; cases q1
      refine ⟨blk, hblk, .inl m2, ?_, q4⟩
      exact BoxOK.recell q3 hshift
    · rw [List.getElem?_set_ne (fun e => hib e.symm)] at hi
      obtain ⟨k, h1, h2, h3, h4⟩ := h.good.box i B hi
      have hne : k ≠ blk := fun e => hib (h.good.inj i b k ((List.getElem?_eq_some_iff.1 hi).1) hbl h1 (e ▸ hblk))
      refine ⟨k, h1, .inl h2, BoxOK.move (c := c) (w := w) (hkeep k h3.lt hne).1 (fun vs hr => ?_) h3, fun o => ((hkeep k h3.lt hne).2 o).trans (h4 o)⟩
      exact hmono _ _ (boxesIn_max (m := s.maxTok) (Nat.le_max_right _ _) B (List.mem_of_getElem? hi)) hr
  · intro i j k hi hj
    simp only [List.length_set] at hi hj
    exact h.good.inj i j k hi hj
  · intro j T s' v ht
    simp only [Ctx.adopt] at ht
    by_cases hj : j < s.maxTok
    · rw [if_pos hj] at ht
      rcases h.good.tok j T s' v ht with g1 | g1 | ⟨g, n, cap, cur, g1, g2, g3, g4, g5, g6, g7, g8, g9⟩
      · exact .inl g1
      · exact .inr (.inl g1)
      · have hgb : g ≠ blk := by
          subst g1
          exact (hrow j T s' _ n cap ht g5).2
        exact .inr (.inr ⟨g, n, cap, cur, g1, .inl g2, (hkeep g (heap_lt g3) hgb).1.trans g3, g4, g5, g6, g7, g8, fun o ho => ((hkeep g (heap_lt g3) hgb).2 o).trans (g9 o ho)⟩)
    · rw [if_neg hj] at ht
      rcases hg.tok _ T s' v ht with g1 | g1 | ⟨g, n, cap, cur, g1, g2, g3, g4⟩
      · exact .inl g1
      · exact .inr (.inl g1)
      · exact .inr (.inr ⟨g, n, cap, cur, g1, .inr g2, g3, g4⟩)
  · intro j T s' a' n cap i ht hc hi
    simp only [Ctx.adopt, List.length_set] at ht hi ⊢
    by_cases hj : j < s.maxTok
    · rw [if_pos hj] at ht
      exact h.good.tbox j T s' a' n cap i ht hc hi
    · rw [if_neg hj] at ht
      intro hm
      obtain ⟨k, h1, _, h3, _⟩ := h.good.box i s.bx[i] (by simp [hi])
      rw [h1] at hm; cases hm
      have := hrow' _ T s' a' n cap ht hc
      have := h3.lt
      omega
  · intro j T s' a' n cap j' T' s'' a'' n' cap' h1 h2 hc1 hc2 hb'
    simp only [Ctx.adopt] at h1 h2
    by_cases hj : j < s.maxTok
    · rw [if_pos hj] at h1
      by_cases hj' : j' < s.maxTok
      · rw [if_pos hj'] at h2
        exact h.good.tinj j T s' a' n cap j' T' s'' a'' n' cap' h1 h2 hc1 hc2 hb'
      · rw [if_neg hj'] at h2
        have := hrow _ T s' a' n cap h1 hc1
        have := hrow' _ T' s'' a'' n' cap' h2 hc2
        omega
    · rw [if_neg hj] at h1
      by_cases hj' : j' < s.maxTok
      · rw [if_pos hj'] at h2
        have := hrow' _ T s' a' n cap h1 hc1
        have := hrow _ T' s'' a'' n' cap' h2 hc2
        omega
      · rw [if_neg hj'] at h2
        have := hg.tinj _ T s' a' n cap _ T' s'' a'' n' cap' h1 h2 hc1 hc2 hb'
        omega
  · exact hmono _ _ (okInL_max (m := s.maxTok) _ (okInL_all _) (Nat.le_max_left _ _)) h.fr
  · intro k hk ho
    rcases ho with ho | ho
    · exact ho
    · rcases hnow k ho with h1 | h1
      · omega
      · exact h1 ▸ m2

/-! ### Calls -/
theorem run_callFunc {P : Program} {f : FuncId} {fn : Func} (h : FnOK P f fn) (args : Array Value) (w : World) : (callFunc f args).run P w = .ok (.enter f args) w := by
  have hn : ¬ fn.name = "runtime.NumGoroutine" := by simpa using h.name
  have hb : ¬ fn.body = none := fun e => by have := h.body; rw [e] at this; cases this
  simp [callFunc, h.at_, hn, hb]
/-- An operation that is wanted, and what comes behind it. -/
theorem opK_ok {α : Type} {P : Program} {E : Env} (hE : EnvOK P E) {T : FuncId → Option CSpec} (hT : TOK P E T) {inl : Inl α} (hI : InlOK P E inl) {c : Ctx} {w : World} {s : St} {a : Act} (h : SR E c w s a) {o : Oper} {k : AV → St → Option α} {x : α}
    (hr : opK E T inl s o k = some x) {K : Act → World → Prop} {Q : Exit → Act → World → Prop}
    (hK : ∀ r s' v c' w', Rep c' r v → SR E c' w' s' a → Ext s.bx.length c w c' w' → s.bx.length ≤ s'.bx.length → k r s' = some x → K (a.put o.dst v) w') : o.wp P a w K Q := by
  unfold opK at hr
  split at hr
  · rename_i xo args types ho
    split at hr
    · rename_i f cap hf
      have hx := h.ev xo
      rw [hf] at hx
      simp only [Rep] at hx
      obtain ⟨vs, hv, hcap⟩ := hx
      have hargs : RepL c (args.toList.map (ev s) ++ cap) (args.map a.eval ++ vs).toList := by
        simpa using (repL_evs h.fr args.toList).append hcap
      have hexec : ∀ fn, FnOK P f fn → (execOp a.eval o).run P w = .ok (.enter f (args.map a.eval ++ vs)) w := fun fn hfn => by
        simp only [execOp, ho, resolve, hv, Deferred.ofValue, Sem.run_bind, Sem.run_pure, Result.andThen_ok, invoke]
        rw [show (#[] ++ args.map a.eval) = args.map a.eval by simp]
        exact run_callFunc hfn _ w
      have pureCase : ∀ sp, PureOK P E f sp → pureK sp s (args.toList.map (ev s) ++ cap) k = some x → o.wp P a w K Q := by
        intro sp hpo hr
        unfold pureK at hr
        split at hr
        · rename_i hp0
          rw [pick_sel] at hr
          obtain ⟨r, hr1, hr2⟩ := Option.bind_eq_some_iff.1 hr
          split at hr2
          · rename_i hpr
            obtain ⟨fn, hfn⟩ := hpo.fn
            unfold Oper.wp
            rw [hexec fn hfn, Oper.upon_enter]
            have hargs0 : RepL (ctx0 c.C) (stripL (args.toList.map (ev s) ++ cap)) (args.map a.eval ++ vs).toList :=
              repL_mono (c := c) (c' := ctx0 c.C) (CLe.refl _) (p := fun _ => False) (q := fun _ => False) (fun _ h => h.elim) (fun _ h => h.elim) _ _ (by
                have h1 := okFalseL hp0
                have h2 := okInL_strip (p := fun _ => False) (q := fun _ => False) _ h1
                rwa [stripL_strip] at h2) (repL_strip _ _ hargs)
            refine (hpo.ok _ r hr1 hpr c.C w _ h.good.stab h.gl hargs0).mono fun e w' hh => ?_
            obtain ⟨v, c', rfl, g1, g2, g3⟩ := hh
            obtain ⟨g4, g5⟩ := h.adopt g2 g3
            exact hK _ _ v _ w' (rep_shift (c := c') (c' := c.adopt c' s.maxTok) rfl (fun i => by simp only [Ctx.adopt]; rw [if_neg (by omega)]; congr 1; omega) _ _ (okFalse hpr) g1) g4 g5 (Nat.le_refl _) hr2
          · cases hr2
        · cases hr
      unfold callK at hr
      split at hr
      · rename_i sp hsp
        exact pureCase sp (hT.at_ f sp hsp) hr
      · split at hr
        · rename_i hpf
          obtain ⟨⟨fn, hfn⟩, hcall⟩ := hI _ _ _ _ _ hr
          unfold Oper.wp
          rw [hexec fn hfn, Oper.upon_enter]
          have hargs' := repL_strip _ _ hargs
          refine (hcall c w _ h.good h.gl hargs').mono fun e w' hh => ?_
          obtain ⟨v, r, bx', c', rfl, g1, g2, g3, g4, g5⟩ := hh
          refine hK r _ v c' w' g3 ⟨g2, ?_, h.gl.mono g4.cle⟩ g4 g5 g1
          exact repL_mono (c := c) (c' := c') g4.cle (p := fun b => b < s.bx.length) (q := fun _ => False) (fun b hb k hk => g4.mu b k hb hk) (fun _ h => h.elim) _ _ (okInL_stripF _ (okInL_ptrs _ hpf)) (repL_strip _ _ h.fr)
        · cases hr
      · rename_i sp spn hsp
        split at hr
        · rename_i b rest hbr0
          have hbr : args.toList.map (ev s) ++ cap = .ptr b 0 :: rest := boxArg_some hbr0
          split at hr
          · rename_i Tt l hbx
            split at hr
            · rename_i hpl
              simp only [Bool.and_eq_true] at hpl
              rw [pick_sel] at hr
              obtain ⟨p, hp1, hp2⟩ := Option.bind_eq_some_iff.1 hr
              split at hp2
              · rename_i hpp
                simp only [Bool.and_eq_true] at hpp
                have hbo := (hT.bor f sp spn hsp).1
                obtain ⟨fn, hfn⟩ := hbo.fn
                obtain ⟨blk, m1, m2, m3, m4⟩ := h.good.box b _ hbx
                rw [hbr] at hargs
                obtain ⟨v0, crest, hca, hv0, hrest⟩ := hargs
                obtain ⟨blk', n1, rfl⟩ := hv0
                rw [m1] at n1; cases n1
                have hplain : ∀ l vs, ptrsBL 0 (stripL l) = true → RepL c l vs → RepL (ctxB c.C blk) (stripL l) vs := fun l vs hpl hl =>
                  repL_mono (c := c) (c' := ctxB c.C blk) (CLe.refl _) (p := fun _ => False) (q := fun _ => False) (fun _ h => h.elim) (fun _ h => h.elim) _ _ (by
                    have h1 := okFalseL hpl
                    have h2 := okInL_strip (p := fun _ => False) (q := fun _ => False) _ h1
                    rwa [stripL_strip] at h2) (repL_strip _ _ hl)
                have hgood : Good (ctxB c.C blk) w [.cells Tt (stripL l)] := by
                  refine ⟨h.good.stab, ?_, ?_, (fun j T s v ht => by cases ht), (fun j T s a n cap i ht => by cases ht), (fun j T s a n cap j' T' s' a' n' cap' ht => by cases ht)⟩
                  · intro i B hi
                    cases i with
                    | zero =>
                      cases hi
                      exact ⟨blk, rfl, rfl, BoxOK.recell m3 (fun vs hv => hplain l vs hpl.2 hv), m4⟩
                    | succ i => simp at hi
                  · intro i j k hi hj
                    simp at hi hj; omega
                unfold Oper.wp
                have hcargs : (args.map a.eval ++ vs) = (.pointer (some ⟨blk, 0, none⟩) :: crest).toArray := by
                  rw [← hca]
                rw [hexec fn hfn, Oper.upon_enter, hcargs]
                refine (hbo.ok _ _ p.1 p.2 hp1 hpp.1 hpp.2 c.C w Tt blk crest h.gl hgood (hplain rest crest hpl.1 hrest)).mono fun e w' hh => ?_
                obtain ⟨v, c', rfl, g1, g2, g3⟩ := hh
                obtain ⟨g4, g5⟩ := h.borrow hbx m1 (okFalseL hpp.2) g2 g3
                exact hK _ _ v _ w' (rep_shift (c := c') (c' := c.adopt c' s.maxTok) rfl (fun i => by simp only [Ctx.adopt]; rw [if_neg (by omega)]; congr 1; omega) _ _ (okFalse hpp.1) g1) g4 g5 (by simp) hp2
              · cases hp2
            · cases hr
          · cases hr
        · exact pureCase spn (hT.bor f sp spn hsp).2 hr
      · cases hr
    · cases hr
  · rw [pick_sel] at hr
    obtain ⟨p, hp, hp2⟩ := Option.bind_eq_some_iff.1 hr
    obtain ⟨v, w', c', hrun, g1, g2, g3, g4⟩ := opM_ok hE h (r := p.1) (s' := p.2) hp
    have := hK p.1 p.2 v c' w' g1 g2 g3 g4 hp2
    unfold Oper.wp
    rcases hrun with hrun | ⟨hrun, rfl⟩
    · rw [hrun]; exact this
    · rw [hrun]; exact this

theorem opK2_ok {α : Type} {P : Program} {E : Env} (hE : EnvOK P E) {T : FuncId → Option CSpec} (hT : TOK P E T) {inl : Inl α} (hI : InlOK P E inl) {c : Ctx} {w : World} {s : St} {a : Act} (h : SR E c w s a) {o : Oper} {k : AV → St → Option α} {x : α}
    (hr : opK2 E T inl s o k = some x) {K : Act → World → Prop} {Q : Exit → Act → World → Prop}
    (hK : ∀ r s' v c' w', Rep c' r v → SR E c' w' s' a → Ext s.bx.length c w c' w' → s.bx.length ≤ s'.bx.length → k r s' = some x → K (a.put o.dst v) w') : o.wp P a w K Q := by
  unfold opK2 at hr
  split at hr
  · rename_i src dst y ho
    rw [pick_sel] at hr
    obtain ⟨p, hp, hp2⟩ := Option.bind_eq_some_iff.1 hr
    rcases sel_or hp with hp | hp
    · obtain ⟨v, w', c', hrun, g1, g2, g3, g4⟩ := opM_ok hE h (r := p.1) (s' := p.2) hp
      have := hK p.1 p.2 v c' w' g1 g2 g3 g4 hp2
      unfold Oper.wp
      rcases hrun with hrun | ⟨hrun, rfl⟩
      · rw [hrun]; exact this
      · rw [hrun]; exact this
    · obtain ⟨v, w', c', hrun, g1, g2, g3, g4⟩ := convSame_ok hE h (h.ev y) (r := p.1) (s' := p.2) hp
      have := hK p.1 p.2 v c' w' g1 g2 g3 g4 hp2
      unfold Oper.wp
      have hex : (execOp a.eval o).run P w = .ok (.value v) w' := by
        simp only [execOp, ho]
        exact value_run hrun
      rw [hex]; exact this
  · exact opK_ok hE hT hI h hr hK

/-! ### Regions -/
theorem guard_wanted {c : Ctx} {s : St} {a : Act} {E : Env} {w : World} (h : SR E c w s a) {ops : Array Oper} {j : Nat} {want : Bool} {g : Option (Bool × Tmp)} (hg : guardA ops.toList s j = some g) :
    match g with
    | some (b, t) => (Region.wanted { dst := none, op := .alloc 0, type := 0, pos := "", after := #[], guard := some (j, want) } (yielded ops a.tmps) = (cond want b (!b))) ∧ Rep c (.bool b) (a.tmps.getD t undef)
    | none => Region.wanted { dst := none, op := .alloc 0, type := 0, pos := "", after := #[], guard := some (j, want) } (yielded ops a.tmps) = false := by
  unfold guardA at hg
  split at hg
  · rename_i o ho
    split at hg
    · rename_i t ht
      have ho' : ops[j]? = some o := by simpa using ho
      have hrep := h.fr.getD t undef
      have hv : a.tmps.toList.getD t undef = a.tmps.getD t undef := by simp [List.getD_eq_getElem?_getD, Array.getD_eq_getD_getElem?]
      rw [hv] at hrep
      split at hg
      · rename_i b hb
        cases hg
        rw [hb] at hrep
        refine ⟨?_, hrep⟩
        simp only [Rep] at hrep
        have : a.tmps[t]? = some (.bool b) := by
          rw [Array.getD_eq_getD_getElem?] at hrep
          cases hx : a.tmps[t]? with
          | none => rw [hx] at hrep; simp [undef] at hrep
          | some v => rw [hx] at hrep; simp at hrep; rw [hrep]
        simp only [Region.wanted, yielded, ho', Option.bind_some, ht, this]
        cases want <;> cases b <;> rfl
      · rename_i hb
        cases hg
        rw [hb] at hrep
        simp only [Rep, RepL] at hrep
        obtain ⟨vs, hvs, hvl⟩ := hrep
        simp only [Region.wanted, yielded, ho', Option.bind_some, ht]
        cases hx : a.tmps[t]? with
        | none => rfl
        | some v =>
          rw [Array.getD_eq_getD_getElem?, hx] at hvs
          simp at hvs
          subst hvs
          rfl
      · cases hg
    · cases hg
  · cases hg
theorem wanted_guard {o o' : Oper} (h : o.guard = o'.guard) (y : Nat → Option Bool) : Region.wanted o y = Region.wanted o' y := by simp only [Region.wanted, h]
theorem SR.setB {E : Env} {c : Ctx} {w : World} {s : St} {a : Act} (h : SR E c w s a) {t : Tmp} {b : Bool} (hb : Rep c (.bool b) (a.tmps.getD t undef)) : SR E c w (s.setB t b) a := by
  refine ⟨h.good, ?_, h.gl⟩
  have := h.fr.set t hb
  have hself : a.tmps.toList.set t (a.tmps.getD t undef) = a.tmps.toList := by
    by_cases ht : t < a.tmps.toList.length
    · have he : a.tmps.getD t undef = a.tmps.toList[t] := by simp at ht; simp [Array.getD_eq_getD_getElem?, Array.getElem?_eq_getElem ht]
      rw [he, List.set_getElem_self]
    · exact List.set_eq_of_length_le (Nat.le_of_not_lt ht)
  rw [hself] at this
  exact this
theorem SR.put {E : Env} {c : Ctx} {w : World} {s : St} {a : Act} (h : SR E c w s a) {d : Option Tmp} {r : AV} {v : Value} (hr : Rep c r v) : SR E c w (s.put d r) (a.put d v) := by
  cases d with
  | none => exact h
  | some t =>
    refine ⟨h.good, ?_, h.gl⟩
    have := h.fr.set t hr
    simpa [St.put, Act.put] using this
theorem put_defers (a : Act) (d : Option Tmp) (v : Value) : (a.put d v).defers = a.defers := by cases d <;> rfl
theorem put_bx (s : St) (d : Option Tmp) (v : AV) : (s.put d v).bx = s.bx := by cases d <;> rfl

theorem runOps_ok {α : Type} {P : Program} {E : Env} (hE : EnvOK P E) {T : FuncId → Option CSpec} (hT : TOK P E T) {inl : Inl α} (hI : InlOK P E inl) {ops : Array Oper} {k : St → Option α} {x : α} {Q : Exit → Act → World → Prop} :
    ∀ (l : List Oper) (c : Ctx) (w : World) (s : St) (a : Act), SR E c w s a → a.defers = [] → runOps E T inl ops.toList l s k = some x →
    (∀ c' w' s' a', SR E c' w' s' a' → a'.defers = [] → Ext s.bx.length c w c' w' → s.bx.length ≤ s'.bx.length → k s' = some x → Q .normal a' w') → wpList P ops Q l a w
  | [], c, w, s, a, h, hd, hr, hQ => hQ c w s a h hd (Ext.refl _ _ _) (Nat.le_refl _) hr
  | o :: r, c, w, s, a, h, hd, hr, hQ => by
    -- what comes behind a wanted operation
    have hnext : ∀ s1 : St, s1.bx = s.bx → SR E c w s1 a → opK2 E T inl s1 o (fun v s' => runOps E T inl ops.toList r (s'.put o.dst v) k) = some x → o.wp P a w (wpList P ops Q r) Q := by
      intro s1 hb1 h1 hr1
      refine opK2_ok hE hT hI h1 hr1 (fun rr s' v c' w' g1 g2 g3 g4 g5 => ?_)
      rw [hb1] at g3 g4
      refine runOps_ok hE hT hI r c' w' _ _ (g2.put g1) (by rw [put_defers]; exact hd) g5 (fun c2 w2 s2 a2 q1 q2 q3 q4 q5 => ?_)
      rw [put_bx] at q3 q4
      exact hQ c2 w2 s2 a2 q1 q2 (g3.trans g4 q3) (Nat.le_trans g4 q4) q5
    have hskip : ∀ s1 : St, s1.bx = s.bx → SR E c w s1 a → runOps E T inl ops.toList r (s1.put o.dst undefA) k = some x → wpList P ops Q r (a.put o.dst undef) w := by
      intro s1 hb1 h1 hr1
      refine runOps_ok hE hT hI r c w _ _ (h1.put (rep_undef c)) (by rw [put_defers]; exact hd) hr1 (fun c2 w2 s2 a2 q1 q2 q3 q4 q5 => ?_)
      rw [put_bx, hb1] at q3 q4
      exact hQ c2 w2 s2 a2 q1 q2 q3 q4 q5
    unfold wpList
    simp only [runOps] at hr
    split at hr
    · rename_i hg
      rw [if_pos (by simp [Region.wanted, hg])]
      exact .inl (hnext s rfl h hr)
    · rename_i j want hg
      split at hr
      · rename_i b t hga
        have hgw := guard_wanted h (want := want) hga
        simp only at hgw
        rw [wanted_guard (o' := { dst := none, op := .alloc 0, type := 0, pos := "", after := #[], guard := some (j, want) }) hg, hgw.1]
        cases hc : cond want b (!b) with
        | true =>
          rw [hc] at hr
          have hbw : b = want := by cases want <;> cases b <;> simp_all
          subst hbw
          rw [if_pos rfl]
          exact .inl (hnext (s.setB t b) rfl (h.setB hgw.2) hr)
        | false =>
          rw [hc] at hr
          have hbw : b = !want := by cases want <;> cases b <;> simp_all
          rw [if_neg (by simp)]
          exact hskip (s.setB t (!want)) rfl (h.setB (by rw [← hbw]; exact hgw.2)) hr
      · rename_i hga
        have hgw := guard_wanted h (want := want) hga
        simp only at hgw
        rw [wanted_guard (o' := { dst := none, op := .alloc 0, type := 0, pos := "", after := #[], guard := some (j, want) }) hg, hgw, if_neg (by simp)]
        exact hskip s rfl h hr
      · cases hr
end Go.Proofs.AbsV
