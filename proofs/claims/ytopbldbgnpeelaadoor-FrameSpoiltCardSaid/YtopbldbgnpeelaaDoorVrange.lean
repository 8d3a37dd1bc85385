/- A range over a function: the operations of a round on the machine of plain values; the loop's record among the boxes. No condition. -/
import Derived.Test.YtopbldbgnpeelaaDoorAc
import Derived.RangeFuncNested
import Derived.RangeFuncBound
import Derived.RangeFuncCalls
import Derived.RangeFuncLeaves
import Derived.RangeFuncRecord
import Derived.TacticsInMore
set_option linter.unusedVariables false
set_option linter.unusedSimpArgs false
namespace Go.Proofs.AbsV
open Go
def isDefer : Op → Bool
  | .defer _ => true
  | _ => false
/-- The operations of a region, none guarded, none a call of a function. -/
def runR (E : Env) : List Oper → St → Option St
  | [], s => some s
  | o :: r, s => match o.guard with
    | none => match isDefer o.op with
      | true => none
      | false => pick (opM E s o) fun p => runR E r (p.2.put o.dst p.1)
    | some _ => none
theorem runR_ok {P : Program} {E : Env} (hE : EnvOK P E) {F : Fence} (hF : ∀ f, F.fn f) {n : Nat} {ops : Array Oper} {Q : Exit → Act → World → Prop} :
    ∀ (l : List Oper) (c : Ctx) (w : World) (s x : St) (a : Act), SR E c w s a → runR E l s = some x →
    (∀ c' w' a', SR E c' w' x a' → a'.defers = a.defers → Ext s.bx.length c w c' w' → s.bx.length ≤ x.bx.length → Q .normal a' w') → wpListIn F n P ops Q l a w
  | [], c, w, s, x, a, h, hr, hQ => by
    cases hr
    exact hQ c w a h rfl (Ext.refl _ _ _) (Nat.le_refl _)
  | o :: r, c, w, s, x, a, h, hr, hQ => by
    simp only [runR] at hr
    split at hr
    · rename_i hg
      split at hr
      · cases hr
      · rename_i hd
        rw [pick_sel] at hr
        obtain ⟨p, hp, hr⟩ := Option.bind_eq_some_iff.1 hr
        obtain ⟨v, w', c', hrun, g1, g2, g3, g4⟩ := opM_ok hE h (r := p.1) (s' := p.2) hp
        have hnd : ∀ c, o.op ≠ .defer c := fun c e => by rw [e] at hd; cases hd
        have hnext : wpListIn F n P ops Q r (a.put o.dst v) w' := by
          refine runR_ok hE hF r c' w' _ x _ (g2.put g1) hr (fun c2 w2 a2 q1 q2 q3 q4 => ?_)
          rw [put_bx] at q3 q4
          exact hQ c2 w2 a2 q1 (q2.trans (put_defers _ _ _)) (g3.trans g4 q3) (Nat.le_trans g4 q4)
        unfold wpListIn
        rw [if_pos (by simp [Region.wanted, hg])]
        refine ⟨fun f _ => hF f, ?_⟩
        rw [Oper.semAt_eq _ _ _ hnd]
        rcases hrun with hrun | ⟨hrun, rfl⟩
        · rw [hrun, Oper.uponIn_value]; exact hnext
        · rw [hrun, Oper.uponIn_skip]; exact hnext
    · cases hr
/-! ### Blocks that hold no cells -/
theorem cell_none_of {w : World} {l o : Nat} {x : Obj} (h : w.heap[l]? = some x) (hx : x.isCells = false) : w.cell? ⟨l, o, none⟩ = none := by
  cases x <;> simp_all [World.cell?, Obj.isCells]
theorem Good.putOther {c : Ctx} {w : World} {bx : List Box2} (h : Good c w bx) {l : Nat} {x y : Obj} (hl : w.heap[l]? = some x) (hx : x.isCells = false) (hni : ∀ s p, x ≠ .stringIter s p) : Good c (w.putObj l y) bx := by
  have hne : ∀ b o v, w.cell? ⟨b, o, none⟩ = some v → b ≠ l := fun b o v hc e => by rw [e, cell_none_of hl hx] at hc; cases hc
  have hcell : ∀ (b : Nat) (arr : Array Value) (T : TypeId) fz, w.heap[b]? = some (.cells arr T fz) → b ≠ l := fun b arr T fz hc e => by rw [e, hl] at hc; cases hc; simp [Obj.isCells] at hx
  refine ⟨fun b o v hc => ?_, fun i B hi => ?_, h.inj, fun j T s v ht => ?_, h.tbox, h.tinj⟩
  · have h1 := h.stab b o v hc
    exact (World.cell?_of_block (World.putObj_heap_other (hne b o v h1))).trans h1
  · obtain ⟨k, h1, h2, h3, h4⟩ := h.box i B hi
    refine ⟨k, h1, h2, ?_, h4⟩
    have hk : k ≠ l := by
      cases B with
      | cells T cs => obtain ⟨arr, g, _⟩ := h3; exact hcell k arr T _ g
      | iter s p => intro e; have h5 : w.heap[k]? = some (.stringIter s p) := h3; rw [e, hl] at h5; exact hni s p (Option.some.inj h5)
    exact h3.move (World.putObj_heap_other hk) (fun vs hr => hr)
  · rcases h.tok j T s v ht with g1 | g1 | ⟨g, n, cap, cur, g1, g2, g3, g4⟩
    · exact .inl g1
    · exact .inr (.inl g1)
    · exact .inr (.inr ⟨g, n, cap, cur, g1, g2, (World.putObj_heap_other (hcell g cur T _ g3)).trans g3, g4⟩)
theorem SR.putOther {E : Env} {c : Ctx} {w : World} {s : St} {a : Act} (h : SR E c w s a) {l : Nat} {x y : Obj} (hl : w.heap[l]? = some x) (hx : x.isCells = false) (hni : ∀ s p, x ≠ .stringIter s p) : SR E c (w.putObj l y) s a :=
  ⟨h.good.putOther hl hx hni, h.fr, h.gl⟩
theorem put_os {w : World} {l : Nat} {y : Obj} : (w.putObj l y).os = w.os ∧ (w.putObj l y).tape = w.tape ∧ (w.putObj l y).output = w.output := ⟨rfl, rfl, rfl⟩
/-- A block laid since the beginning may turn. -/
theorem Ext.putNew {nb : Nat} {c c' : Ctx} {w w' : World} {l : Nat} {y : Obj} (h : Ext nb c w c' w') (hl : w.heap.size ≤ l) : Ext nb c w c' (w'.putObj l y) :=
  ⟨h.os, h.tape, h.output, by rw [World.putObj_size]; exact h.size, fun b hb ho => ⟨(World.putObj_heap_other (by omega)).trans (h.keep b hb ho).1, (h.keep b hb ho).2⟩, h.ow, h.cle, h.mu⟩
/-- Code that the machine walks, ahead of other code. -/
theorem seqM {P : Program} {E : Env} (hE : EnvOK P E) {T : FuncId → Option CSpec} (hT : TOK P E T) {inl : Inl St} (hI : InlOK P E inl) {hv : Keeps} {fuel n : Nat} {code rest : Code} {s x : St} {c : Ctx} {w : World} {a : Act} {Q : Exit → Act → World → Prop}
    (h : SR E c w s a) (hd : a.defers = []) (hr : runC E T inl hv fuel code 0 s (fun e s => match e with | .normal => some s | _ => none) = some x)
    (hQ : ∀ c' w' a', SR E c' w' x a' → a'.defers = [] → Ext s.bx.length c w c' w' → s.bx.length ≤ x.bx.length → rest.wpIn Fence.wide n P Q a' w') : (Code.seq code rest).wpIn Fence.wide n P Q a w := by
  refine wpIn_seq (wpIn_wide.2 (runC_ok hE hT hI code 0 s _ x hr c w a _ h hd (fun e' s' c' w' a' q1 q2 q3 q4 q5 => ?_)))
  cases e' with
  | normal => cases q5; exact hQ c' w' a' q1 q2 q3 q4
  | exit id => cases q5
  | ret => cases q5
end Go.Proofs.AbsV
