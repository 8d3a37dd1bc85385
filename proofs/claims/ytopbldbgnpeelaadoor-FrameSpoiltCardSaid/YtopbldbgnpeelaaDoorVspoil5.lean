/- FrameSpoilt's loop: the four rounds, and what the row holds behind them. No condition. -/
import Derived.Test.YtopbldbgnpeelaaDoorVspoil3
import Derived.Test.YtopbldbgnpeelaaDoorVspoil4
import Derived.Test.YtopbldbgnpeelaaDoorVspoil0
set_option maxRecDepth 100000
set_option linter.unusedVariables false
set_option linter.unusedSimpArgs false
namespace Go.Proofs.YtopbldbgnpeelaaDoor.V
open Go Go.Proofs.AbsV Go.RowKit
/-! ### Worlds in which one row alone was turned -/
structure WI (W0 W : World) (g : Nat) (cur : Array Value) (T : TypeId) : Prop where
  os : W.os = W0.os
  tape : W.tape = W0.tape
  output : W.output = W0.output
  size : W.heap.size = W0.heap.size
  row : W.heap[g]? = some (.cells cur T (0, 0))
  other : ∀ b, b ≠ g → W.heap[b]? = W0.heap[b]?
theorem WI.step {W0 W : World} {g : Nat} {cur : Array Value} {T : TypeId} (h : WI W0 W g cur T) (off : Nat) (v : Value) : WI W0 ((W.setCell ⟨g, off, none⟩ v).drew) g (cur.setIfInBounds off v) T := by
  have h1 := setCells_heap W g cur T off v h.row
  refine ⟨h.os, h.tape, h.output, ?_, h1.1, fun b hb => (h1.2 b hb).trans (h.other b hb)⟩
  show (W.setCell ⟨g, off, none⟩ v).heap.size = _
  rw [← h.size]
  simp [World.setCell]
theorem WI.cell {W0 W : World} {g : Nat} {cur : Array Value} {T : TypeId} (h : WI W0 W g cur T) {i : Nat} {v : Value} (hi : cur[i]? = some v) : W.cell? ⟨g, i, none⟩ = some v := by
  simp [World.cell?, h.row, hi]
theorem WI.frozen {W0 W : World} {g : Nat} {cur : Array Value} {T : TypeId} (h : WI W0 W g cur T) (i : Nat) : W.frozen? ⟨g, i, none⟩ = false := by
  simp [World.frozen?, h.row]
theorem WI.cellO {W0 W : World} {g : Nat} {cur : Array Value} {T : TypeId} (h : WI W0 W g cur T) {k : Nat} (hk : k ≠ g) (o : Nat) : W.cell? ⟨k, o, none⟩ = W0.cell? ⟨k, o, none⟩ := by
  simp [World.cell?, h.other k hk]
/-! ### Bytes in a row -/
def RowIs (cur : Array Value) (b : List Int) : Prop := ∀ i (h : i < b.length), cur[i]? = some (.int .u8 b[i])
theorem RowIs.set {cur : Array Value} {b : List Int} (h : RowIs cur b) (o : Nat) (v : Int) (ho : o < b.length) : RowIs (cur.setIfInBounds o (.int .u8 v)) (b.set o v) := by
  intro i hi
  rw [List.length_set] at hi
  have hs : ∀ j, j < b.length → j < cur.size := fun j hj => by
    have := h j hj
    exact (Array.getElem?_eq_some_iff.1 this).1
  by_cases e : o = i
  · subst e
    rw [Array.getElem?_setIfInBounds_self_of_lt (hs o ho)]
    simp
  · rw [Array.getElem?_setIfInBounds_ne e, h i hi]
    simp [List.getElem_set_ne e]
theorem xor8 {a b : Nat} (ha : a < 256) (hb : b < 256) : bits BinOp.xor IntKind.u8 (a : Int) (b : Int) = ((a ^^^ b : Nat) : Int) := by
  show xorI .u8 (a : Int) (b : Int) = _
  unfold xorI
  show IntKind.u8.wrap (((BitVec.ofInt 8 (a : Int) ^^^ BitVec.ofInt 8 (b : Int)).toNat : Nat) : Int) = _
  rw [BitVec.toNat_xor, BitVec.ofInt_natCast, BitVec.ofInt_natCast, BitVec.toNat_ofNat, BitVec.toNat_ofNat, Nat.mod_eq_of_lt (show a < 2 ^ 8 by omega), Nat.mod_eq_of_lt (show b < 2 ^ 8 by omega), IntKind.wrap_u8]
  have := Nat.xor_lt_two_pow (n := 8) (x := a) (y := b) (by omega) (by omega)
  omega
theorem wrap_in (x : Int) (h0 : -1000000000000 ≤ x) (h1 : x ≤ 1000000000000) : wrap64 x = x := by unfold wrap64; omega
theorem sp_w0 (hd a : Nat) (h : hd + a ≤ 1000000) : wrap64 (wrap64 ((hd : Int) + (a : Int)) + 4) = ((hd + a + 4 : Nat) : Int) := by
  rw [wrap_in ((hd : Int) + (a : Int)) (by omega) (by omega), wrap_in _ (by omega) (by omega)]; omega
theorem sp_j0 (hd a : Nat) (h : hd + a ≤ 1000000) : IntKind.i64.wrap (IntKind.i64.wrap (((hd + a : Nat) : Int) - (hd : Int)) - (a : Int)) = ((0 : Nat) : Int) := by
  rw [IntWalk.i64_in (((hd + a : Nat) : Int) - (hd : Int)) (by omega), IntWalk.i64_in _ (by omega)]
  omega
theorem sp_i0 (hd a : Nat) (h : hd + a ≤ 1000000) : IntKind.i64.wrap (((hd + a : Nat) : Int) + 1) = ((hd + a + 1 : Nat) : Int) := by
  rw [IntWalk.i64_in _ (by omega)]
  omega
theorem sp_j1 (hd a : Nat) (h : hd + a ≤ 1000000) : IntKind.i64.wrap (IntKind.i64.wrap (((hd + a + 1 : Nat) : Int) - (hd : Int)) - (a : Int)) = ((1 : Nat) : Int) := by
  rw [IntWalk.i64_in (((hd + a + 1 : Nat) : Int) - (hd : Int)) (by omega), IntWalk.i64_in _ (by omega)]
  omega
theorem sp_i1 (hd a : Nat) (h : hd + a ≤ 1000000) : IntKind.i64.wrap (((hd + a + 1 : Nat) : Int) + 1) = ((hd + a + 1 + 1 : Nat) : Int) := by
  rw [IntWalk.i64_in _ (by omega)]
  omega
theorem sp_j2 (hd a : Nat) (h : hd + a ≤ 1000000) : IntKind.i64.wrap (IntKind.i64.wrap (((hd + a + 2 : Nat) : Int) - (hd : Int)) - (a : Int)) = ((2 : Nat) : Int) := by
  rw [IntWalk.i64_in (((hd + a + 2 : Nat) : Int) - (hd : Int)) (by omega), IntWalk.i64_in _ (by omega)]
  omega
theorem sp_i2 (hd a : Nat) (h : hd + a ≤ 1000000) : IntKind.i64.wrap (((hd + a + 2 : Nat) : Int) + 1) = ((hd + a + 2 + 1 : Nat) : Int) := by
  rw [IntWalk.i64_in _ (by omega)]
  omega
theorem sp_j3 (hd a : Nat) (h : hd + a ≤ 1000000) : IntKind.i64.wrap (IntKind.i64.wrap (((hd + a + 3 : Nat) : Int) - (hd : Int)) - (a : Int)) = ((3 : Nat) : Int) := by
  rw [IntWalk.i64_in (((hd + a + 3 : Nat) : Int) - (hd : Int)) (by omega), IntWalk.i64_in _ (by omega)]
  omega
theorem sp_i3 (hd a : Nat) (h : hd + a ≤ 1000000) : IntKind.i64.wrap (((hd + a + 3 : Nat) : Int) + 1) = ((hd + a + 3 + 1 : Nat) : Int) := by
  rw [IntWalk.i64_in _ (by omega)]
  omega
/-! ### The rounds -/
set_option maxHeartbeats 2000000 in
theorem spoil_loop (W0 W : World) (T : TypeId) (cur : Array Value) (b : List Int) (t : Array Value) (Q : Exit → Act → World → Prop) (g k0 n cap a hd : Nat) (x0 x1 x2 x3 y0 y1 y2 y3 : Nat)
    (hF : FrI t g k0 n cap a hd (hd + a)) (hW : WI W0 W g cur T) (hr : RowIs cur b) (hn : n = b.length) (hl : hd + a + 4 ≤ b.length) (hbig : b.length ≤ 1000000) (hk : k0 ≠ g)
    (e0 : b[hd + a]? = some (y0 : Int)) (e1 : b[hd + a + 1]? = some (y1 : Int)) (e2 : b[hd + a + 2]? = some (y2 : Int)) (e3 : b[hd + a + 3]? = some (y3 : Int))
    (z0 : W0.cell? ⟨k0, 0, none⟩ = some (.int .u8 (x0 : Int))) (z1 : W0.cell? ⟨k0, 1, none⟩ = some (.int .u8 (x1 : Int))) (z2 : W0.cell? ⟨k0, 2, none⟩ = some (.int .u8 (x2 : Int))) (z3 : W0.cell? ⟨k0, 3, none⟩ = some (.int .u8 (x3 : Int)))
    (hx : x0 < 256 ∧ x1 < 256 ∧ x2 < 256 ∧ x3 < 256) (hy : y0 < 256 ∧ y1 < 256 ∧ y2 < 256 ∧ y3 < 256)
    (hK : ∀ t' W' cur', FrI t' g k0 n cap a hd (hd + a + 4) → WI W0 W' g cur' T →
      RowIs cur' ((((b.set (hd + a) ((y0 ^^^ x0 : Nat) : Int)).set (hd + a + 1) ((y1 ^^^ x1 : Nat) : Int)).set (hd + a + 2) ((y2 ^^^ x2 : Nat) : Int)).set (hd + a + 3) ((y3 ^^^ x3 : Nat) : Int)) → Q (.exit 0) ⟨t', []⟩ W') :
    (Code.loop LB).wpIn Fence.wide 3 Tryd.prog Q ⟨t, []⟩ W := by
  obtain ⟨hx0, hx1, hx2, hx3⟩ := hx
  obtain ⟨hy0, hy1, hy2, hy3⟩ := hy
  have hq : hd + a ≤ 1000000 := by omega
  have rd : ∀ {cur : Array Value} {b' : List Int} {o : Nat} {y : Int}, RowIs cur b' → b'[o]? = some y → cur[o]? = some (.int .u8 y) := by
    intro cur b' o y h1 h2
    obtain ⟨h3, h4⟩ := List.getElem?_eq_some_iff.1 h2
    rw [← h4]; exact h1 o h3
  refine wpIn_loop_rounds 5 ?_
  rw [roundsIn_succ]
  refine round_more W t _ g k0 n cap a hd (hd + a) 0 y0 x0 hF (by omega) (by omega) (hW.cell (rd hr e0)) (hW.frozen _) ((hW.cellO hk 0).trans z0) (sp_w0 hd a hq) (sp_j0 hd a hq) (by omega) (sp_i0 hd a hq) (fun t1 hF1 => ?_)
  show Code.roundsIn Fence.wide 3 Tryd.prog LB Q 4 _ _
  rw [xor8 hy0 hx0]
  have hW1 := hW.step (hd + a) (.int .u8 ((y0 ^^^ x0 : Nat) : Int))
  have hr1 := hr.set (hd + a) ((y0 ^^^ x0 : Nat) : Int) (by omega)
  rw [roundsIn_succ]
  refine round_more _ t1 _ g k0 n cap a hd (hd + a + 1) 1 y1 x1 hF1 (by omega) (by omega) (hW1.cell (rd hr1 (by rw [List.getElem?_set_ne (by omega)]; exact e1))) (hW1.frozen _) ((hW1.cellO hk 1).trans z1) (sp_w0 hd a hq) (sp_j1 hd a hq) (by omega) (sp_i1 hd a hq) (fun t2 hF2 => ?_)
  show Code.roundsIn Fence.wide 3 Tryd.prog LB Q 3 _ _
  rw [xor8 hy1 hx1]
  have hW2 := hW1.step (hd + a + 1) (.int .u8 ((y1 ^^^ x1 : Nat) : Int))
  have hr2 := hr1.set (hd + a + 1) ((y1 ^^^ x1 : Nat) : Int) (by simp; omega)
  rw [roundsIn_succ]
  refine round_more _ t2 _ g k0 n cap a hd (hd + a + 2) 2 y2 x2 hF2 (by omega) (by omega) (hW2.cell (rd hr2 (by rw [List.getElem?_set_ne (by omega), List.getElem?_set_ne (by omega)]; exact e2))) (hW2.frozen _) ((hW2.cellO hk 2).trans z2) (sp_w0 hd a hq) (sp_j2 hd a hq) (by omega) (sp_i2 hd a hq) (fun t3 hF3 => ?_)
  show Code.roundsIn Fence.wide 3 Tryd.prog LB Q 2 _ _
  rw [xor8 hy2 hx2]
  have hW3 := hW2.step (hd + a + 2) (.int .u8 ((y2 ^^^ x2 : Nat) : Int))
  have hr3 := hr2.set (hd + a + 2) ((y2 ^^^ x2 : Nat) : Int) (by simp; omega)
  rw [roundsIn_succ]
  refine round_more _ t3 _ g k0 n cap a hd (hd + a + 3) 3 y3 x3 hF3 (by omega) (by omega) (hW3.cell (rd hr3 (by rw [List.getElem?_set_ne (by omega), List.getElem?_set_ne (by omega), List.getElem?_set_ne (by omega)]; exact e3))) (hW3.frozen _) ((hW3.cellO hk 3).trans z3) (sp_w0 hd a hq) (sp_j3 hd a hq) (by omega) (sp_i3 hd a hq) (fun t4 hF4 => ?_)
  show Code.roundsIn Fence.wide 3 Tryd.prog LB Q 1 _ _
  rw [xor8 hy3 hx3]
  have hW4 := hW3.step (hd + a + 3) (.int .u8 ((y3 ^^^ x3 : Nat) : Int))
  have hr4 := hr3.set (hd + a + 3) ((y3 ^^^ x3 : Nat) : Int) (by simp; omega)
  rw [roundsIn_succ]
  exact round_end _ t4 _ g k0 n cap a hd (hd + a + 4) hF4 (by omega) (sp_w0 hd a hq) (fun t5 hF5 => hK t5 _ _ hF5 hW4 hr4)
/-! ### The bytes that are others -/
theorem spoilt_parts (w : List Int) (a : Nat) (ha : a + 4 ≤ w.length) : ∃ l c0 c1 c2 c3 m, w = l ++ (c0 :: c1 :: c2 :: c3 :: m) ∧ l.length = a := by
  refine ⟨w.take a, w[a], w[a + 1], w[a + 2], w[a + 3], w.drop (a + 4), ?_, by simp; omega⟩
  conv => lhs; rw [← List.take_append_drop a w]
  rw [List.drop_eq_getElem_cons (by omega), List.drop_eq_getElem_cons (by omega), List.drop_eq_getElem_cons (by omega), List.drop_eq_getElem_cons (by omega)]
theorem set4 (p l m : List Int) (c0 c1 c2 c3 v0 v1 v2 v3 : Int) (s : List Int) (o : Nat) (ho : o = p.length + l.length) :
    ((((p ++ ((l ++ (c0 :: c1 :: c2 :: c3 :: m)) ++ s)).set o v0).set (o + 1) v1).set (o + 2) v2).set (o + 3) v3 = p ++ ((l ++ (v0 :: v1 :: v2 :: v3 :: m)) ++ s) := by
  subst ho
  have e : ∀ (x0 x1 x2 x3 : Int), p ++ ((l ++ (x0 :: x1 :: x2 :: x3 :: m)) ++ s) = (p ++ l) ++ (x0 :: x1 :: x2 :: x3 :: (m ++ s)) := by intros; simp
  rw [e, e]
  have hl : (p ++ l).length = p.length + l.length := by simp
  rw [← hl]
  generalize p ++ l = q
  rw [List.set_append_right _ _ (by omega), List.set_append_right _ _ (by omega), List.set_append_right _ _ (by omega), List.set_append_right _ _ (by omega)]
  simp
end Go.Proofs.YtopbldbgnpeelaaDoor.V
