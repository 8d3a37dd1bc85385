/- The world beside a context: boxes, rows that are claimed, and what a step may turn. No condition. -/
import Derived.Test.YtopbldbgnpeelaaDoorAv
set_option linter.unusedVariables false
set_option linter.unusedSimpArgs false
namespace Go.Proofs.AbsV
open Go

/-- Something in memory that only this call may turn. -/
inductive Box2 where
  | cells (T : TypeId) (l : List AV)
  | iter (s : ByteArray) (pos : Nat)

def Box2.vals : Box2 → List AV
  | .cells _ l => l
  | .iter _ _ => []

def BoxOK (c : Ctx) (w : World) (k : Nat) : Box2 → Prop
  | .cells T l => ∃ arr, w.heap[k]? = some (.cells arr T (0, 0)) ∧ RepL c l arr.toList
  | .iter s p => w.heap[k]? = some (.stringIter s p)

def TokOK (c : Ctx) (w : World) (T : TypeId) (sz : Nat) (v : Value) : Prop :=
  v = .slice none 0 0 ∨ (∃ a, v = .slice (some a) 0 0) ∨
  ∃ g n cap cur, v = .slice (some ⟨g, 0, none⟩) n cap ∧ c.ow g ∧ w.heap[g]? = some (.cells cur T (0, 0)) ∧ n ≤ cap ∧ 0 < cap ∧ cap ≤ maxLen ∧ cur.size = cap * sz ∧ 0 < sz ∧ ∀ o, n * sz ≤ o → c.C g o = none

structure Good (c : Ctx) (w : World) (bx : List Box2) : Prop where
  stab : ∀ b o v, c.C b o = some v → w.cell? ⟨b, o, none⟩ = some v
  box : ∀ i B, bx[i]? = some B → ∃ k, c.mu i = some k ∧ c.ow k ∧ BoxOK c w k B ∧ ∀ o, c.C k o = none
  inj : ∀ i j k, i < bx.length → j < bx.length → c.mu i = some k → c.mu j = some k → i = j
  tok : ∀ j T s v, c.tk j = some (T, s, v) → TokOK c w T s v
  tbox : ∀ j T s a n cap i, c.tk j = some (T, s, .slice (some a) n cap) → 0 < cap → i < bx.length → c.mu i ≠ some a.block
  tinj : ∀ j T s a n cap j' T' s' a' n' cap', c.tk j = some (T, s, .slice (some a) n cap) → c.tk j' = some (T', s', .slice (some a') n' cap') → 0 < cap → 0 < cap' → a.block = a'.block → j = j'

structure Ext (nb : Nat) (c : Ctx) (w : World) (c' : Ctx) (w' : World) : Prop where
  os : w'.os = w.os
  tape : w'.tape = w.tape
  output : w'.output = w.output
  size : w.heap.size ≤ w'.heap.size
  keep : ∀ b, b < w.heap.size → ¬ c.ow b → w'.heap[b]? = w.heap[b]? ∧ ∀ o, c'.C b o = c.C b o
  ow : ∀ b, b < w.heap.size → c'.ow b → c.ow b
  cle : CLe c.C c'.C
  mu : ∀ i k, i < nb → c.mu i = some k → c'.mu i = some k

theorem Ext.refl (nb : Nat) (c : Ctx) (w : World) : Ext nb c w c w := ⟨rfl, rfl, rfl, Nat.le_refl _, fun _ _ _ => ⟨rfl, fun _ => rfl⟩, fun _ _ h => h, CLe.refl _, fun _ _ _ h => h⟩
theorem Ext.trans {nb nb' : Nat} {c c1 c2 : Ctx} {w w1 w2 : World} (hn : nb ≤ nb') (h : Ext nb c w c1 w1) (h' : Ext nb' c1 w1 c2 w2) : Ext nb c w c2 w2 :=
  ⟨h'.os.trans h.os, h'.tape.trans h.tape, h'.output.trans h.output, Nat.le_trans h.size h'.size,
   fun b hb ho => by
    have h1 := h.keep b hb ho
    have h2 := h'.keep b (Nat.lt_of_lt_of_le hb h.size) (fun x => ho (h.ow b hb x))
    exact ⟨h2.1.trans h1.1, fun o => (h2.2 o).trans (h1.2 o)⟩,
   fun b hb ho => h.ow b hb (h'.ow b (Nat.lt_of_lt_of_le hb h.size) ho),
   h.cle.trans h'.cle, fun i k hi hk => h'.mu i k (Nat.lt_of_lt_of_le hi hn) (h.mu i k hi hk)⟩
theorem Ext.weaken {nb nb' : Nat} {c c1 : Ctx} {w w1 : World} (hn : nb ≤ nb') (h : Ext nb' c w c1 w1) : Ext nb c w c1 w1 :=
  ⟨h.os, h.tape, h.output, h.size, h.keep, h.ow, h.cle, fun i k hi hk => h.mu i k (Nat.lt_of_lt_of_le hi hn) hk⟩

/-! ### Worlds that part in what was drawn alone -/
theorem Good.drew {c : Ctx} {w : World} {bx : List Box2} (h : Good c w bx) : Good c w.drew bx :=
  ⟨h.stab, h.box, h.inj, h.tok, h.tbox, h.tinj⟩
theorem Ext.drew (nb : Nat) (c : Ctx) (w : World) : Ext nb c w c w.drew :=
  ⟨rfl, rfl, rfl, Nat.le_refl _, fun _ _ _ => ⟨rfl, fun _ => rfl⟩, fun _ _ h => h, CLe.refl _, fun _ _ _ h => h⟩

/-! ### A cell that was there lies below the end of memory -/
theorem Good.lt {c : Ctx} {w : World} {bx : List Box2} (h : Good c w bx) {b o : Nat} {v : Value} (hc : c.C b o = some v) : b < w.heap.size :=
  World.block_lt_of_cell? w ⟨b, o, none⟩ (h.stab b o v hc)
theorem heap_lt {w : World} {b : Nat} {o : Obj} (h : w.heap[b]? = some o) : b < w.heap.size := (Array.getElem?_eq_some_iff.1 h).1
theorem heap_alloc_lt {w : World} {o : Obj} {b : Nat} (h : b < w.heap.size) : (w.alloc o).heap[b]? = w.heap[b]? := by
  simp only [World.alloc, Array.getElem?_push]
  rw [if_neg (by omega)]
theorem heap_alloc_new (w : World) (o : Obj) : (w.alloc o).heap[w.heap.size]? = some o := by
  show (w.heap.push o)[w.heap.size]? = some o
  simp
theorem alloc_keeps {w : World} {o x : Obj} {b : Nat} (h : w.heap[b]? = some x) : (w.alloc o).heap[b]? = some x := by
  rw [heap_alloc_lt (heap_lt h)]; exact h

theorem BoxOK.lt {c : Ctx} {w : World} {k : Nat} {B : Box2} (h : BoxOK c w k B) : k < w.heap.size := by
  cases B with
  | cells T l => obtain ⟨arr, h, _⟩ := h; exact heap_lt h
  | iter s p => exact heap_lt h
theorem BoxOK.move {c c' : Ctx} {w w' : World} {k : Nat} {B : Box2} (hk : w'.heap[k]? = w.heap[k]?) (hr : ∀ vs, RepL c B.vals vs → RepL c' B.vals vs) (h : BoxOK c w k B) : BoxOK c' w' k B := by
  cases B with
  | cells T l => obtain ⟨arr, h, hl⟩ := h; exact ⟨arr, hk.trans h, hr _ hl⟩
  | iter s p => exact hk.trans h

/-- What all boxes hold is well within the boxes that there are. -/
def boxesIn (p q : Nat → Prop) (bx : List Box2) : Prop := ∀ B ∈ bx, okInL p q B.vals

/-! ### A new box -/
def Ctx.addBox (c : Ctx) (n k : Nat) : Ctx := { c with mu := fun i => if i = n then some k else c.mu i, ow := fun b => c.ow b ∨ b = k }

theorem addBox_repL {c : Ctx} {n k : Nat} (l : List AV) (vs : List Value) (ho : okInL (fun b => b < n) (fun _ => True) l) (h : RepL c l vs) : RepL (c.addBox n k) l vs :=
  repL_mono (c := c) (c' := c.addBox n k) (CLe.refl c.C) (p := fun b => b < n) (fun b hb k' hk' => by simp only [Ctx.addBox]; rw [if_neg (by omega)]; exact hk') (fun j _ => rfl) l vs ho h

theorem Good.addBox {c : Ctx} {w : World} {bx : List Box2} (h : Good c w bx) (B : Box2) (o : Obj)
    (hB : ∀ c' : Ctx, (∀ vs, RepL c B.vals vs → RepL c' B.vals vs) → BoxOK c' (w.alloc o) w.heap.size B)
    (hin : boxesIn (fun b => b < bx.length) (fun _ => True) (bx ++ [B])) :
    Good (c.addBox bx.length w.heap.size) (w.alloc o) (bx ++ [B]) ∧ Ext bx.length c w (c.addBox bx.length w.heap.size) (w.alloc o) := by
  have hnew : ∀ i k, i < bx.length → c.mu i = some k → k < w.heap.size := fun i k hi hk => by
    obtain ⟨k', h1, _, h2, _⟩ := h.box i bx[i] (by simp [hi])
    rw [h1] at hk; cases hk; exact h2.lt
  have hnC : ∀ o', c.C w.heap.size o' = none := fun o' => by
    cases hc : c.C w.heap.size o' with
    | none => rfl
    | some v => exact absurd (h.lt hc) (Nat.lt_irrefl _)
  refine ⟨⟨?_, ?_, ?_, ?_, ?_, ?_⟩, ⟨rfl, rfl, rfl, by simp, ?_, ?_, CLe.refl _, ?_⟩⟩
  · intro b o' v hc
    have hc : c.C b o' = some v := hc
    rw [World.cell?_alloc_lt _ _ _ (h.lt hc)]
    exact h.stab b o' v hc
  · intro i B' hi
    by_cases hlt : i < bx.length
    · rw [List.getElem?_append_left hlt] at hi
      obtain ⟨k, h1, h2, h3, h4⟩ := h.box i B' hi
      refine ⟨k, ?_, .inl h2, h3.move (heap_alloc_lt h3.lt) (fun vs hr => addBox_repL _ _ (hin B' (List.mem_append_left _ (List.mem_of_getElem? hi))) hr), h4⟩
      simp only [Ctx.addBox]; rw [if_neg (by omega)]; exact h1
    · have hib : i = bx.length := by
        have := (List.getElem?_eq_some_iff.1 hi).1
        simp at this; omega
      subst hib
      have hBB : B' = B := by simpa using hi.symm
      subst hBB
      refine ⟨w.heap.size, by simp [Ctx.addBox], .inr rfl, hB _ (fun vs hr => addBox_repL _ _ (hin B' (by simp)) hr), fun o' => hnC o'⟩
  · intro i j k hi hj h1 h2
    simp only [Ctx.addBox] at h1 h2
    simp only [List.length_append, List.length_singleton] at hi hj
    by_cases hi' : i = bx.length
    · by_cases hj' : j = bx.length
      · omega
      · rw [if_pos hi'] at h1; rw [if_neg hj'] at h2
        have := hnew j k (by omega) h2
        simp at h1; omega
    · by_cases hj' : j = bx.length
      · rw [if_neg hi'] at h1; rw [if_pos hj'] at h2
        have := hnew i k (by omega) h1
        simp at h2; omega
      · rw [if_neg hi'] at h1; rw [if_neg hj'] at h2
        exact h.inj i j k (by omega) (by omega) h1 h2
  · intro j T s v ht
    rcases h.tok j T s v ht with h1 | h1 | ⟨g, n, cap, cur, h1, h2, h3, h4⟩
    · exact .inl h1
    · exact .inr (.inl h1)
    · exact .inr (.inr ⟨g, n, cap, cur, h1, .inl h2, alloc_keeps h3, h4⟩)
  · intro j T s a n cap i ht hc hi
    simp only [Ctx.addBox]
    by_cases hi' : i = bx.length
    · rw [if_pos hi']
      rcases h.tok j T s _ ht with h1 | ⟨a', h1⟩ | ⟨g, n', cap', cur, h1, h2, h3, h4⟩
      · cases h1
      · injection h1 with _ _ h1; omega
      · injection h1 with h1 _ _
        injection h1 with h1
        have := heap_lt h3
        subst h1
        simp; omega
    · rw [if_neg hi']
      exact h.tbox j T s a n cap i ht hc (by simp at hi; omega)
  · exact h.tinj
  · intro b hb ho
    exact ⟨heap_alloc_lt hb, fun _ => rfl⟩
  · intro b hb ho
    rcases ho with ho | ho
    · exact ho
    · omega
  · intro i k hi hk
    simp only [Ctx.addBox]; rw [if_neg (by omega)]; exact hk

/-! ### A store into a box -/
theorem setCells_heap (w : World) (k : Nat) (arr : Array Value) (T : TypeId) (off : Nat) (v : Value) (h : w.heap[k]? = some (.cells arr T (0, 0))) :
    (w.setCell ⟨k, off, none⟩ v).heap[k]? = some (.cells (arr.setIfInBounds off v) T (0, 0)) ∧ ∀ b, b ≠ k → (w.setCell ⟨k, off, none⟩ v).heap[b]? = w.heap[b]? := by
  constructor
  · simp only [World.setCell, Array.getElem?_modify, if_true, h, Option.map_some]; rfl
  · intro b hb
    simp only [World.setCell, Array.getElem?_modify]
    rw [if_neg (fun e => hb e.symm)]

/-- Only block k was turned, the claims and the rest stand. -/
theorem Good.setBox {c : Ctx} {w w' : World} {bx : List Box2} (h : Good c w bx) {i k : Nat} {B' : Box2} (hi : i < bx.length) (hk : c.mu i = some k)
    (hs : w'.heap.size = w.heap.size) (hother : ∀ b, b ≠ k → w'.heap[b]? = w.heap[b]?) (hB : BoxOK c w' k B') : Good c w' (bx.set i B') := by
  have hbox := h.box i bx[i] (by simp [hi])
  obtain ⟨k0, h1, h2, h3, h4⟩ := hbox
  rw [hk] at h1; cases h1
  refine ⟨?_, ?_, ?_, ?_, ?_, h.tinj⟩
  · intro b o v hc
    have hne : b ≠ k := fun e => by subst e; rw [h4] at hc; cases hc
    have := h.stab b o v hc
    simp only [World.cell?] at this ⊢
    rw [hother b hne]; exact this
  · intro j B hj
    by_cases hij : i = j
    · subst hij
      rw [List.getElem?_set_self (by simpa using hi)] at hj
      cases hj
      exact ⟨k, hk, h2, hB, h4⟩
    · rw [List.getElem?_set_ne hij] at hj
      obtain ⟨k', g1, g2, g3, g4⟩ := h.box j B hj
      have hne : k' ≠ k := fun e => by
        subst e
        exact hij (h.inj i j k' hi (List.getElem?_eq_some_iff.1 hj).1 hk g1)
      exact ⟨k', g1, g2, g3.move (hother k' hne) (fun _ hr => hr), g4⟩
  · intro a b e ha hb h1 h2
    exact h.inj a b e (by simpa using ha) (by simpa using hb) h1 h2
  · intro j T s v ht
    rcases h.tok j T s v ht with g1 | g1 | ⟨g, n, cap, cur, g1, g2, g3, g4⟩
    · exact .inl g1
    · exact .inr (.inl g1)
    · refine .inr (.inr ⟨g, n, cap, cur, g1, g2, ?_, g4⟩)
      have hne : g ≠ k := fun e => by
        subst e
        subst g1
        exact h.tbox j T s _ n cap i ht g4.2.1 hi hk
      rw [hother g hne]; exact g3
  · intro j T s a n cap i' ht hc hi'
    exact h.tbox j T s a n cap i' ht hc (by simpa using hi')

theorem Ext.setBox {nb : Nat} {c : Ctx} {w w' : World} {k : Nat} (hos : w'.os = w.os) (htape : w'.tape = w.tape) (hout : w'.output = w.output) (hs : w'.heap.size = w.heap.size) (hk : c.ow k)
    (hother : ∀ b, b ≠ k → w'.heap[b]? = w.heap[b]?) : Ext nb c w c w' :=
  ⟨hos, htape, hout, by omega, fun b hb ho => ⟨hother b (fun e => ho (e ▸ hk)), fun _ => rfl⟩, fun _ _ h => h, CLe.refl _, fun _ _ _ h => h⟩

/-! ### A new row, claimed -/
/-- The context with a row of block k claimed by j: its first cells are known. -/
def Ctx.addRow (c : Ctx) (j : Nat) (T : TypeId) (sz : Nat) (v : Value) (k : Nat) (cells : List Value) : Ctx :=
  { c with C := fun b o => if b = k then cells[o]? else c.C b o, tk := fun i => if i = j then some (T, sz, v) else c.tk i, ow := fun b => c.ow b ∨ b = k }

theorem addRow_cle {c : Ctx} {j : Nat} {T : TypeId} {sz : Nat} {v : Value} {k : Nat} {cells : List Value} (hk : ∀ o u, c.C k o = some u → cells[o]? = some u) : CLe c.C (c.addRow j T sz v k cells).C :=
  ⟨fun b o u hc => by
    simp only [Ctx.addRow]
    by_cases hb : b = k
    · subst hb; rw [if_pos rfl]; exact hk o u hc
    · rw [if_neg hb]; exact hc⟩

/-- A row in block k (new, or the one that j claimed) is claimed by j from now on. -/
theorem Good.addRow {c : Ctx} {w w' : World} {bx : List Box2} (h : Good c w bx) {j : Nat} {T : TypeId} {sz n cap k : Nat} {cells : List Value} {cur : Array Value}
    (hnew : w.heap.size ≤ k ∨ (∃ T' s' a n' cap', c.tk j = some (T', s', .slice (some a) n' cap') ∧ 0 < cap' ∧ a.block = k))
    (hos : w'.os = w.os) (htape : w'.tape = w.tape) (hout : w'.output = w.output) (hsize : w.heap.size ≤ w'.heap.size)
    (hother : ∀ b, b < w.heap.size → b ≠ k → w'.heap[b]? = w.heap[b]?)
    (hrow : w'.heap[k]? = some (.cells cur T (0, 0))) (hn : n ≤ cap) (hc0 : 0 < cap) (hcap : cap ≤ maxLen) (hcs : cur.size = cap * sz) (hsz : 0 < sz) (hcl : cells.length = n * sz) (hpre : cur.toList.take (n * sz) = cells)
    (hold : ∀ o u, c.C k o = some u → cells[o]? = some u)
    (hq : boxesIn (fun _ => True) (fun i => i ≠ j) bx) :
    Good (c.addRow j T sz (.slice (some ⟨k, 0, none⟩) n cap) k cells) w' bx ∧ Ext bx.length c w (c.addRow j T sz (.slice (some ⟨k, 0, none⟩) n cap) k cells) w' := by
  have hcle := addRow_cle (c := c) (j := j) (T := T) (sz := sz) (v := .slice (some ⟨k, 0, none⟩) n cap) hold
  have hboxk : ∀ i m, i < bx.length → c.mu i = some m → m ≠ k := fun i m hi hm e => by
    subst e
    rcases hnew with hk | ⟨T', s', a, n', cap', ht, hc', ha⟩
    · obtain ⟨k', h1, _, h2, _⟩ := h.box i bx[i] (by simp [hi])
      rw [h1] at hm; cases hm
      have := h2.lt; omega
    · exact h.tbox j T' s' a n' cap' i ht hc' hi (by rw [ha]; exact hm)
  have hkow : c.ow k ∨ w.heap.size ≤ k := by
    rcases hnew with hk | ⟨T', s', a, n', cap', ht, hc', ha⟩
    · exact .inr hk
    · rcases h.tok j _ _ _ ht with g1 | ⟨a', g1⟩ | ⟨g, m, cp, cr, g1, g2, _⟩
      · cases g1
      · injection g1 with _ _ g1; omega
      · injection g1 with g1 _ _; injection g1 with g1; subst g1; exact .inl (by rw [← ha]; exact g2)
  refine ⟨⟨?_, ?_, ?_, ?_, ?_, ?_⟩, ⟨hos, htape, hout, hsize, ?_, ?_, hcle, fun i m _ hm => hm⟩⟩
  · intro b o v hc
    simp only [Ctx.addRow] at hc
    by_cases hb : b = k
    · subst hb
      rw [if_pos rfl] at hc
      simp only [World.cell?, hrow, Option.isSome_none, Bool.false_eq_true, if_false]
      have : (cur.toList.take (n * sz))[o]? = some v := by rw [hpre]; exact hc
      rw [List.getElem?_take] at this
      split at this
      · simpa using this
      · cases this
    · rw [if_neg hb] at hc
      have hlt := h.lt hc
      have := h.stab b o v hc
      simp only [World.cell?] at this ⊢
      rw [hother b hlt hb]; exact this
  · intro i B hi
    obtain ⟨m, h1, h2, h3, h4⟩ := h.box i B hi
    have hib := (List.getElem?_eq_some_iff.1 hi).1
    have hmk := hboxk i m hib h1
    refine ⟨m, h1, .inl h2, h3.move (hother m h3.lt hmk) (fun vs hr => ?_), fun o => ?_⟩
    · exact repL_mono hcle (p := fun _ => True) (q := fun i => i ≠ j) (fun b _ k' hk' => hk') (fun i' hi' => by simp only [Ctx.addRow]; rw [if_neg hi']) _ _ (hq B (List.mem_of_getElem? hi)) hr
    · simp only [Ctx.addRow]; rw [if_neg hmk]; exact h4 o
  · exact h.inj
  · intro i T' s' v ht
    simp only [Ctx.addRow] at ht
    by_cases hij : i = j
    · rw [if_pos hij] at ht
      simp only [Option.some.injEq, Prod.mk.injEq] at ht
      obtain ⟨rfl, rfl, rfl⟩ := ht
      refine .inr (.inr ⟨k, n, cap, cur, rfl, .inr rfl, hrow, hn, hc0, hcap, hcs, hsz, fun o ho => ?_⟩)
      simp only [Ctx.addRow, if_true]
      exact List.getElem?_eq_none (by omega)
    · rw [if_neg hij] at ht
      rcases h.tok i T' s' v ht with g1 | g1 | ⟨g, m, cp, cr, g1, g2, g3, g4, g5, g6, g7, g8, g9⟩
      · exact .inl g1
      · exact .inr (.inl g1)
      · have hgk : g ≠ k := fun e => by
          subst e
          rcases hnew with hk | ⟨T2, s2, a, n2, cap2, ht2, hc2, ha⟩
          · have := heap_lt g3; omega
          · subst g1
            exact hij (h.tinj i T' s' _ m cp j T2 s2 a n2 cap2 ht ht2 g5 hc2 ha.symm)
        refine .inr (.inr ⟨g, m, cp, cr, g1, .inl g2, ?_, g4, g5, g6, g7, g8, fun o ho => ?_⟩)
        · rw [hother g (heap_lt g3) hgk]; exact g3
        · simp only [Ctx.addRow]; rw [if_neg hgk]; exact g9 o ho
  · intro i T' s' a n' cap' i' ht hc' hi'
    simp only [Ctx.addRow] at ht ⊢
    by_cases hij : i = j
    · rw [if_pos hij] at ht
      simp only [Option.some.injEq, Prod.mk.injEq] at ht
      obtain ⟨_, _, he⟩ := ht
      injection he with he _ _
      injection he with he
      subst he
      exact fun hm => hboxk i' k hi' hm rfl
    · rw [if_neg hij] at ht
      exact h.tbox i T' s' a n' cap' i' ht hc' hi'
  · intro i T1 s1 a1 n1 c1 i' T2 s2 a2 n2 c2 h1 h2 hc1 hc2 hb
    have key : ∀ i T1 s1 a1 n1 c1, i ≠ j → c.tk i = some (T1, s1, .slice (some a1) n1 c1) → 0 < c1 → a1.block ≠ k := by
      intro i T1 s1 a1 n1 c1 hij ht hc1 e
      rcases hnew with hk | ⟨T', s', a, n', cap', ht', hc', ha⟩
      · rcases h.tok i T1 s1 _ ht with g1 | ⟨a', g1⟩ | ⟨g, m, cp, cr, g1, g2, g3, _⟩
        · cases g1
        · injection g1 with _ _ g1; omega
        · injection g1 with g1 _ _; injection g1 with g1; subst g1
          have := heap_lt g3; simp at e; omega
      · exact hij (h.tinj i T1 s1 a1 n1 c1 j T' s' a n' cap' ht ht' hc1 hc' (e.trans ha.symm))
    simp only [Ctx.addRow] at h1 h2
    by_cases hij : i = j
    · by_cases hij' : i' = j
      · omega
      · rw [if_pos hij] at h1; rw [if_neg hij'] at h2
        simp only [Option.some.injEq, Prod.mk.injEq] at h1
        obtain ⟨_, _, he⟩ := h1
        injection he with he _ _
        injection he with he
        subst he
        exact absurd hb.symm (key i' T2 s2 a2 n2 c2 hij' h2 hc2)
    · by_cases hij' : i' = j
      · rw [if_neg hij] at h1; rw [if_pos hij'] at h2
        simp only [Option.some.injEq, Prod.mk.injEq] at h2
        obtain ⟨_, _, he⟩ := h2
        injection he with he _ _
        injection he with he
        subst he
        exact absurd hb (key i T1 s1 a1 n1 c1 hij h1 hc1)
      · rw [if_neg hij] at h1; rw [if_neg hij'] at h2
        exact h.tinj i T1 s1 a1 n1 c1 i' T2 s2 a2 n2 c2 h1 h2 hc1 hc2 hb
  · intro b hb ho
    have hbk : b ≠ k := fun e => by
      subst e
      rcases hkow with hk | hk
      · exact ho hk
      · omega
    exact ⟨hother b hb hbk, fun o => by simp only [Ctx.addRow]; rw [if_neg hbk]⟩
  · intro b hb ho
    rcases ho with ho | ho
    · exact ho
    · subst ho
      rcases hkow with hk | hk
      · exact hk
      · omega

/-- A claim on an empty slice without a row. -/
def Ctx.addTok (c : Ctx) (j : Nat) (T : TypeId) (sz : Nat) (v : Value) : Ctx := { c with tk := fun i => if i = j then some (T, sz, v) else c.tk i }
theorem Good.addTok {c : Ctx} {w : World} {bx : List Box2} (h : Good c w bx) {j : Nat} {T : TypeId} {sz : Nat} {v : Value} (hv : v = .slice none 0 0 ∨ ∃ a, v = .slice (some a) 0 0)
    (hq : boxesIn (fun _ => True) (fun i => i ≠ j) bx) : Good (c.addTok j T sz v) w bx ∧ ∀ nb, Ext nb c w (c.addTok j T sz v) w := by
  refine ⟨⟨h.stab, ?_, h.inj, ?_, ?_, ?_⟩, fun nb => ⟨rfl, rfl, rfl, Nat.le_refl _, fun _ _ _ => ⟨rfl, fun _ => rfl⟩, fun _ _ h => h, CLe.refl _, fun _ _ _ h => h⟩⟩
  · intro i B hi
    obtain ⟨m, h1, h2, h3, h4⟩ := h.box i B hi
    exact ⟨m, h1, h2, BoxOK.move (c := c) (w := w) rfl (fun vs hr => repL_mono (c := c) (c' := c.addTok j T sz v) (CLe.refl c.C) (p := fun _ => True) (q := fun i => i ≠ j) (fun b _ k' hk' => hk') (fun i' hi' => by simp only [Ctx.addTok]; rw [if_neg hi']) _ _ (hq B (List.mem_of_getElem? hi)) hr) h3, h4⟩
  · intro i T' s' u ht
    simp only [Ctx.addTok] at ht
    by_cases hij : i = j
    · rw [if_pos hij] at ht
      simp only [Option.some.injEq, Prod.mk.injEq] at ht
      obtain ⟨rfl, rfl, rfl⟩ := ht
      rcases hv with hv | hv
      · exact .inl hv
      · exact .inr (.inl hv)
    · rw [if_neg hij] at ht
      exact h.tok i T' s' u ht
  · intro i T' s' a n cap i' ht hc hi'
    simp only [Ctx.addTok] at ht
    by_cases hij : i = j
    · rw [if_pos hij] at ht
      simp only [Option.some.injEq, Prod.mk.injEq] at ht
      obtain ⟨_, _, rfl⟩ := ht
      rcases hv with hv | ⟨_, hv⟩
      · cases hv
      · injection hv with _ _ hv; omega
    · rw [if_neg hij] at ht
      exact h.tbox i T' s' a n cap i' ht hc hi'
  · intro i T1 s1 a1 n1 c1 i' T2 s2 a2 n2 c2 h1 h2 hc1 hc2 hb
    simp only [Ctx.addTok] at h1 h2
    by_cases hij : i = j
    · rw [if_pos hij] at h1
      simp only [Option.some.injEq, Prod.mk.injEq] at h1
      obtain ⟨_, _, rfl⟩ := h1
      rcases hv with hv | ⟨_, hv⟩
      · cases hv
      · injection hv with _ _ hv; omega
    · by_cases hij' : i' = j
      · rw [if_pos hij'] at h2
        simp only [Option.some.injEq, Prod.mk.injEq] at h2
        obtain ⟨_, _, rfl⟩ := h2
        rcases hv with hv | ⟨_, hv⟩
        · cases hv
        · injection hv with _ _ hv; omega
      · rw [if_neg hij] at h1; rw [if_neg hij'] at h2
        exact h.tinj i T1 s1 a1 n1 c1 i' T2 s2 a2 n2 c2 h1 h2 hc1 hc2 hb
end Go.Proofs.AbsV
