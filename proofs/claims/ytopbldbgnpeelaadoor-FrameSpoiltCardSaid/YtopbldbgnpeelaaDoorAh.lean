/- From a statement's row to plain values: what comes in reads as data; what was there stays. No condition. -/
import Derived.Test.YtopbldbgnpeelaaDoorAz
import Derived.ProofKit
import Derived.OpenShut
import Derived.ChangeOld
import Derived.SizedLaws
set_option linter.unusedVariables false
set_option linter.unusedSimpArgs false
namespace Go.Proofs.AbsV
open Go Go.RowKit Go.ChangeShapes Go.WideShapes Go.ChangeAt

/-! ### A type and its data -/
inductive TQ | t (t : TypeId) (τ : Ty) | fs (off : Nat) (l : List Field) (τ : Ty) | es (n : Nat) (e : TypeId) (τ : Ty)
def tyQ (P : Program) : (fuel : Nat) → TQ → Bool
  | 0, _ => false
  | f + 1, .t t τ => Nat.beq (P.cellsOf t) τ.size && (match P.underlying t, τ with
    | some .bool, .bool => true
    | some (.int k), .int k' => decide (k = k')
    | some .string, .str => true
    | some (.slice e), .sl σ => tyQ P f (.t e σ) && Nat.blt 0 σ.size
    | some (.struct fs), τ => tyQ P f (.fs 0 fs.toList τ)
    | some (.array n e), τ => tyQ P f (.es n e τ)
    | _, _ => false)
  | _ + 1, .fs _ [] .unit => true
  | f + 1, .fs off (fd :: r) (.pair a b) => Nat.beq fd.offset off && (tyQ P f (.t fd.type a) && tyQ P f (.fs (off + a.size) r b))
  | _ + 1, .fs _ _ _ => false
  | _ + 1, .es 0 _ .unit => true
  | f + 1, .es (n + 1) e (.pair a b) => tyQ P f (.t e a) && tyQ P f (.es n e b)
  | _ + 1, .es _ _ _ => false
def tyIs (P : Program) (f : Nat) (t : TypeId) (τ : Ty) : Bool := tyQ P f (.t t τ)
def fieldsTy (P : Program) (f off : Nat) (l : List Field) (τ : Ty) : Bool := tyQ P f (.fs off l τ)
def elemsTy (P : Program) (f n : Nat) (e : TypeId) (τ : Ty) : Bool := tyQ P f (.es n e τ)
/-- Numbers within their kinds, texts and lists within memory. -/
def WfD : (t : Ty) → t.den → Prop
  | .int k, n => (Lit.int k n).wf = true
  | .bool, _ => True
  | .str, s => s.size ≤ 9223372036854775807
  | .unit, _ => True
  | .pair a b, d => WfD a d.1 ∧ WfD b d.2
  | .sl e, xs => List.length (α := e.den) xs ≤ 9223372036854775807 ∧ ∀ i (h : i < List.length (α := e.den) xs), WfD e (List.get (α := e.den) xs ⟨i, h⟩)
def heapC (W : World) : Stab := fun b o => W.cell? ⟨b, o, none⟩
theorem tyIs_zero (P : Program) (t : TypeId) (τ : Ty) : tyIs P 0 t τ = false := rfl
theorem tyIs_succ (P : Program) (f : Nat) (t : TypeId) (τ : Ty) : tyIs P (f + 1) t τ = (Nat.beq (P.cellsOf t) τ.size && (match P.underlying t, τ with
    | some .bool, .bool => true
    | some (.int k), .int k' => decide (k = k')
    | some .string, .str => true
    | some (.slice e), .sl σ => tyIs P f e σ && Nat.blt 0 σ.size
    | some (.struct fs), τ => fieldsTy P f 0 fs.toList τ
    | some (.array n e), τ => elemsTy P f n e τ
    | _, _ => false)) := rfl
theorem tyIs_size {P : Program} {f : Nat} {t : TypeId} {τ : Ty} (h : tyIs P f t τ = true) : P.cellsOf t = τ.size := by
  cases f with
  | zero => cases h
  | succ f => rw [tyIs_succ, Bool.and_eq_true] at h; exact Nat.eq_of_beq_eq_true h.1
theorem fieldsTy_nil {P : Program} {f off : Nat} {τ : Ty} (h : fieldsTy P (f + 1) off [] τ = true) : τ = .unit := by
  cases τ <;> first | rfl | cases h
theorem fieldsTy_cons {P : Program} {f off : Nat} {fd : Field} {r : List Field} {τ : Ty} (h : fieldsTy P (f + 1) off (fd :: r) τ = true) : ∃ a b, τ = .pair a b ∧ fd.offset = off ∧ tyIs P f fd.type a = true ∧ fieldsTy P f (off + a.size) r b = true := by
  cases τ <;> first | (cases h; done) | skip
  rename_i a b
  have h : (Nat.beq fd.offset off && (tyIs P f fd.type a && fieldsTy P f (off + a.size) r b)) = true := h
  simp only [Bool.and_eq_true] at h
  exact ⟨a, b, rfl, Nat.eq_of_beq_eq_true h.1, h.2.1, h.2.2⟩
theorem elemsTy_nil {P : Program} {f : Nat} {e : TypeId} {τ : Ty} (h : elemsTy P (f + 1) 0 e τ = true) : τ = .unit := by
  cases τ <;> first | rfl | cases h
theorem elemsTy_cons {P : Program} {f n : Nat} {e : TypeId} {τ : Ty} (h : elemsTy P (f + 1) (n + 1) e τ = true) : ∃ a b, τ = .pair a b ∧ tyIs P f e a = true ∧ elemsTy P f n e b = true := by
  cases τ <;> first | (cases h; done) | skip
  rename_i a b
  have h : (tyIs P f e a && elemsTy P f n e b) = true := h
  simp only [Bool.and_eq_true] at h
  exact ⟨a, b, rfl, h⟩
theorem cells?_get {W : World} {base : Nat} {a : Addr} {n : Nat} {cs : List Value} (h : W.cells? base a n = some cs) : cs.length = n ∧ ∀ j (hj : j < cs.length), W.cell? (a.add j) = some cs[j] := by
  unfold World.cells? at h
  split at h
  · have hl : cs.length = n := by have := mapM_some_length h; simp at this; omega
    refine ⟨hl, fun j hj => ?_⟩
    have h1 : (List.range n)[j]? = some j := by rw [List.getElem?_range (by omega)]
    have := mapM_some_get h j j h1
    rw [this, List.getElem?_eq_getElem hj]
  · cases h
theorem spot_none {W : World} {a : Addr} {v : Value} (h : W.cell? a = some v) : a.spot = none := by
  unfold World.cell? at h
  split at h
  · split at h
    · cases h
    · rename_i hs
      cases ha : a.spot with
      | none => rfl
      | some x => rw [ha] at hs; simp at hs
  · cases h
theorem addr_eta {a : Addr} (h : a.spot = none) : a = ⟨a.block, a.off, none⟩ := by cases a; simp at h; subst h; rfl

mutual
theorem trod_rep {H : Type} {enc : TypeId × Value → H} {P : Program} {W : World} {sp : Nat → Bool} {held : Bool} : ∀ (f : Nat) (t : TypeId) (τ : Ty), tyIs P f t τ = true → ∀ (m : Nat) (cs : List Value) (d : DataW H × List MemPlace), DataW.trod enc P W 0 sp held m t cs = some d →
    ∃ x : τ.den, RepD (heapC W) τ x cs ∧ WfD τ x
  | 0, t, τ, h, m, cs, d, hd => by cases h
  | f + 1, t, τ, h, m, cs, d, hd => by
    have hsz := tyIs_size h
    rw [tyIs_succ, Bool.and_eq_true] at h
    replace h := h.2
    cases hu : P.underlying t with
    | none => rw [hu] at h; cases h
    | some u =>
      rw [hu] at h
      cases u with
      | bool =>
        cases τ <;> first | (cases h; done) | skip
        obtain ⟨b, rfl, _⟩ := DataW.trod_bool hu hd
        exact ⟨b, rfl, trivial⟩
      | int k =>
        cases τ <;> first | (cases h; done) | skip
        rename_i k'
        have hk : k = k' := by simpa using h
        subst hk
        obtain ⟨n, rfl, _, hw⟩ := DataW.trod_int hu hd
        exact ⟨n, rfl, hw⟩
      | string =>
        cases τ <;> first | (cases h; done) | skip
        obtain ⟨s, rfl, _, hw⟩ := DataW.trod_string hu hd
        exact ⟨s, rfl, by simpa [WfD, maxLen] using hw⟩
      | slice e =>
        cases τ <;> first | (cases h; done) | skip
        rename_i σ
        simp only [Bool.and_eq_true, Nat.blt_eq] at h
        have hse : P.cellsOf e = σ.size := tyIs_size h.1
        rcases DataW.trod_slice hu hd with ⟨rfl, _⟩ | ⟨a, len, cap, elems, rest, n, _, rfl, _, _, hlc, hcm, hel, helems, _⟩
        · exact ⟨[], ⟨none, 0, 0, rfl, rfl, Nat.le_refl _, fun _ => rfl, by omega, fun i hi => by simp at hi⟩, by simp, fun i hi => by simp at hi⟩
        · have hlen : len ≤ 9223372036854775807 := by simp only [maxLen] at hcm; omega
          have key : ∀ i, i < len → ∃ (x : σ.den) (vs : List Value), RepD (heapC W) σ x vs ∧ WfD σ x ∧ vs.length = σ.size ∧ ∀ j (hj : j < vs.length), W.cell? ((a.add (i * P.cellsOf e)).add j) = some vs[j] := fun i hi => by
            have h1 := helems i hi
            rw [List.getElem?_eq_getElem (by omega)] at h1
            obtain ⟨vs, h2, h3⟩ := Option.bind_eq_some_iff.1 h1
            obtain ⟨x, hx, hw⟩ := trod_rep f e σ h.1 n vs _ h3
            obtain ⟨h4, h5⟩ := cells?_get h2
            exact ⟨x, vs, hx, hw, by rw [h4, hse], h5⟩
          obtain ⟨xs, hxl, hxs⟩ : ∃ xs : List σ.den, xs.length = len ∧ ∀ i (hi : i < xs.length), ∃ vs, RepD (heapC W) σ xs[i] vs ∧ WfD σ xs[i] ∧ vs.length = σ.size ∧ ∀ j (hj : j < vs.length), W.cell? ((a.add (i * P.cellsOf e)).add j) = some vs[j] := by
            clear helems hel hlc
            have : ∀ n, n ≤ len → ∃ xs : List σ.den, xs.length = n ∧ ∀ i (hi : i < xs.length), ∃ vs, RepD (heapC W) σ xs[i] vs ∧ WfD σ xs[i] ∧ vs.length = σ.size ∧ ∀ j (hj : j < vs.length), W.cell? ((a.add (i * P.cellsOf e)).add j) = some vs[j] := by
              intro n
              induction n with
              | zero => exact fun _ => ⟨[], rfl, fun i hi => by simp at hi⟩
              | succ n ih =>
                intro hn
                obtain ⟨xs, hl, hx⟩ := ih (by omega)
                obtain ⟨x, vs, h1, h2, h3, h4⟩ := key n (by omega)
                refine ⟨xs ++ [x], by simp [hl], fun i hi => ?_⟩
                by_cases hin : i < xs.length
                · rw [List.getElem_append_left hin]; exact hx i hin
                · simp at hi
                  have : i = n := by omega
                  subst this
                  rw [List.getElem_append_right (by omega)]
                  simp [hl]
                  exact ⟨vs, h1, h2, h3, by simpa using h4⟩
            exact this len (Nat.le_refl _)
          refine ⟨xs, ⟨some a, len, cap, rfl, hxl.symm, hlc, fun h => by (cases h), hlen, fun i hi => ?_⟩, by rw [hxl]; exact hlen, fun i hi => ?_⟩
          · obtain ⟨vs, h1, h2, h3, h4⟩ := hxs i hi
            refine ⟨vs, h1, h3, a.block, a.off, ?_, fun j hj => ?_⟩
            · have h5 := h4 0 (by omega)
              have h6 := spot_none h5
              rw [← addr_eta]
              -- the first element's address is the slice's own
              obtain ⟨vs0, g1, g2, g3, g4⟩ := hxs 0 (by omega)
              have g5 := g4 0 (by omega)
              simp only [Nat.zero_mul] at g5
              have : (a.add 0).add 0 = a := by simp [Addr.add]
              rw [this] at g5
              exact spot_none g5
            · have h5 := h4 j hj
              obtain ⟨vs0, g1, g2, g3, g4⟩ := hxs 0 (by omega)
              have g5 := g4 0 (by omega)
              simp only [Nat.zero_mul] at g5
              have : (a.add 0).add 0 = a := by simp [Addr.add]
              rw [this] at g5
              rw [addr_eta (spot_none g5), addr_add, addr_add, hse] at h5
              exact h5
          · obtain ⟨vs, h1, h2, h3, h4⟩ := hxs i hi
            exact h2
      | struct fs =>
        have h : fieldsTy P f 0 fs.toList τ = true := by cases τ <;> exact h
        obtain ⟨xs, n, _, _, hcl, hxl, hf⟩ := DataW.trod_struct hu hd
        have := fields_rep (enc := enc) (W := W) (sp := sp) (held := held) f 0 fs.toList τ h n cs (by rw [hcl, hsz]; omega) (fun i fd hfd => by
          have h1 := hf i fd (by simpa using hfd)
          rw [List.getElem?_eq_getElem (by have := (List.getElem?_eq_some_iff.1 hfd).1; simp at this; omega)] at h1
          exact ⟨_, h1⟩)
        simpa using this
      | array n e =>
        have h : elemsTy P f n e τ = true := by cases τ <;> exact h
        obtain ⟨xs, m', _, _, hcl, hxl, hf⟩ := DataW.trod_array hu hd
        have := elems_rep (enc := enc) (W := W) (sp := sp) (held := held) f n e τ h m' 0 cs (by rw [hcl, hsz]; omega) (fun i hi => by
          have h1 := hf i hi
          rw [List.getElem?_eq_getElem (by omega)] at h1
          exact ⟨_, by simpa using h1⟩)
        simpa using this
      | _ => cases τ <;> cases h
theorem fields_rep {H : Type} {enc : TypeId × Value → H} {P : Program} {W : World} {sp : Nat → Bool} {held : Bool} : ∀ (f off : Nat) (fs : List Field) (τ : Ty), fieldsTy P f off fs τ = true → ∀ (m : Nat) (cs : List Value), cs.length = off + τ.size →
    (∀ (i : Nat) (fd : Field), fs[i]? = some fd → ∃ d, DataW.trod enc P W 0 sp held m fd.type ((cs.drop fd.offset).take (P.cellsOf fd.type)) = some d) → ∃ x : τ.den, RepD (heapC W) τ x (cs.drop off) ∧ WfD τ x
  | 0, off, fs, τ, h, m, cs, hl, hd => by cases h
  | f + 1, off, [], τ, h, m, cs, hl, hd => by
    obtain rfl := fieldsTy_nil h
    refine ⟨(), ?_, trivial⟩
    simp only [RepD]
    exact List.drop_eq_nil_of_le (by rw [hl]; simp [Ty.size])
  | f + 1, off, fd :: fs, τ, h, m, cs, hl, hd => by
    obtain ⟨a, b, rfl, h1, h2, h3⟩ := fieldsTy_cons h
    simp only [Ty.size] at hl
    obtain ⟨d, hd0⟩ := hd 0 fd rfl
    have hca : P.cellsOf fd.type = a.size := tyIs_size h2
    obtain ⟨x, hx, hwx⟩ := trod_rep f fd.type a h2 m _ d hd0
    obtain ⟨y, hy, hwy⟩ := fields_rep f (off + a.size) fs b h3 m cs (by rw [hl]; omega) (fun i fd' hfd => hd (i + 1) fd' (by simpa using hfd))
    refine ⟨(x, y), ⟨(cs.drop off).take a.size, cs.drop (off + a.size), ?_, ?_, hy⟩, hwx, hwy⟩
    · rw [← List.drop_drop, List.take_append_drop]
    · rw [h1, hca] at hx; exact hx
theorem elems_rep {H : Type} {enc : TypeId × Value → H} {P : Program} {W : World} {sp : Nat → Bool} {held : Bool} : ∀ (f n : Nat) (e : TypeId) (τ : Ty), elemsTy P f n e τ = true → ∀ (m off : Nat) (cs : List Value), cs.length = off + τ.size →
    (∀ (i : Nat), i < n → ∃ d, DataW.trod enc P W 0 sp held m e ((cs.drop (off + i * P.cellsOf e)).take (P.cellsOf e)) = some d) → ∃ x : τ.den, RepD (heapC W) τ x (cs.drop off) ∧ WfD τ x
  | 0, n, e, τ, h, m, off, cs, hl, hd => by cases h
  | f + 1, 0, e, τ, h, m, off, cs, hl, hd => by
    obtain rfl := elemsTy_nil h
    refine ⟨(), ?_, trivial⟩
    simp only [RepD]
    exact List.drop_eq_nil_of_le (by rw [hl]; simp [Ty.size])
  | f + 1, n + 1, e, τ, h, m, off, cs, hl, hd => by
    obtain ⟨a, b, rfl, h2, h3⟩ := elemsTy_cons h
    simp only [Ty.size] at hl
    obtain ⟨d, hd0⟩ := hd 0 (by omega)
    have hca : P.cellsOf e = a.size := tyIs_size h2
    obtain ⟨x, hx, hwx⟩ := trod_rep f e a h2 m _ d hd0
    obtain ⟨y, hy, hwy⟩ := elems_rep f n e b h3 m (off + a.size) cs (by rw [hl]; omega) (fun i hi => by
      obtain ⟨d', hd'⟩ := hd (i + 1) (by omega)
      refine ⟨d', ?_⟩
      rw [← hd']
      congr 3
      rw [Nat.add_mul, Nat.one_mul, hca]; omega)
    refine ⟨(x, y), ⟨(cs.drop off).take a.size, cs.drop (off + a.size), ?_, ?_, hy⟩, hwx, hwy⟩
    · rw [← List.drop_drop, List.take_append_drop]
    · simp only [Nat.zero_mul, Nat.add_zero, hca] at hx; exact hx
end

/-! ### Arguments -/
def DenL : List Ty → Type
  | [] => Unit
  | τ :: r => τ.den × DenL r
def WfL : (l : List Ty) → DenL l → Prop
  | [], _ => True
  | τ :: r, d => WfD τ d.1 ∧ WfL r d.2
/-- An argument out of its cells: a struct or an array is one, else the one cell. -/
def argA (g : Bool) (l : List AV) : AV := cond g (.agg l) (match l with | [x] => x | _ => .any)
def argsA : (ts : List (Bool × Ty)) → DenL (ts.map (·.2)) → List AV
  | [], _ => []
  | t :: r, d => argA t.1 (flat t.2 d.1) :: argsA r d.2
def argsTy (P : Program) : List TypeId → List (Bool × Ty) → Bool
  | [], [] => true
  | t :: ts, p :: r => tyIs P 40 t p.2 && ((match P.underlying t with | some (.struct _) | some (.array _ _) => p.1 | some _ => !p.1 && Nat.beq p.2.size 1 | none => false) && argsTy P ts r)
  | _, _ => false
theorem args_rep {H : Type} {enc : TypeId × Value → H} {P : Program} {W : World} {sp : Nat → Bool} {held : Bool} {base : Nat} : ∀ (ts : List TypeId) (τs : List (Bool × Ty)) (vs : List Value) (ds : List (DataW H)) (ps : List MemPlace), argsTy P ts τs = true →
    DataW.TrodAll enc P W 0 sp held ts vs ds ps → (∀ (j : Nat) t v, ts[j]? = some t → vs[j]? = some v → Value.okWide P W .any base t v) → ∃ d : DenL (τs.map (·.2)), WfL (τs.map (·.2)) d ∧ RepL (ctx0 (heapC W)) (argsA τs d) vs
  | [], [], [], [], ps, _, _, _ => ⟨(), trivial, rfl⟩
  | [], [], _ :: _, _, ps, _, h, _ => by cases h
  | [], [], [], _ :: _, ps, _, h, _ => by cases h
  | [], _ :: _, _, _, ps, h, _, _ => by cases h
  | _ :: _, [], _, _, ps, h, _, _ => by cases h
  | _ :: _, _ :: _, [], _, ps, _, h, _ => by cases h
  | _ :: _, _ :: _, _ :: _, [], ps, _, h, _ => by cases h
  | t :: ts, p :: r, v :: vs, d :: ds, ps, h, hA, hval => by
    simp only [argsTy, Bool.and_eq_true] at h
    obtain ⟨h1, h2, h3⟩ := h
    obtain ⟨p1, q1, ⟨m, hd⟩, hrest, _⟩ := hA
    obtain ⟨x, hx, hw⟩ := trod_rep 40 t p.2 h1 m _ _ hd
    obtain ⟨y, hwy, hy⟩ := args_rep ts r vs ds q1 h3 hrest (fun j t' v' h4 h5 => hval (j + 1) t' v' (by simpa using h4) (by simpa using h5))
    refine ⟨(x, y), ⟨hw, hwy⟩, v, vs, rfl, ?_, hy⟩
    have hok := hval 0 t v rfl rfl
    have hrep := repL_flat (ctx0 (heapC W)) p.2 x _ hx
    cases hu : P.underlying t with
    | none => rw [hu] at h2; cases h2
    | some u =>
      rw [hu] at h2
      have agg : p.1 = true → (∃ cs, v = .agg cs) → Rep (ctx0 (heapC W)) (argA p.1 (flat p.2 x)) v := fun hp ⟨cs, hv⟩ => by
        subst hv
        rw [hp]
        exact ⟨cs, rfl, hrep⟩
      have one : p.1 = false → p.2.size = 1 → v.cells = #[v] → Rep (ctx0 (heapC W)) (argA p.1 (flat p.2 x)) v := fun hp hs hv => by
        rw [hp]
        have hl := flat_length p.2 x
        rw [hs] at hl
        rw [hv] at hrep
        match hfl : flat p.2 x, hl with
        | [y], _ =>
          rw [hfl] at hrep
          simp only [RepL] at hrep
          obtain ⟨u, r', he, hu', _⟩ := hrep
          simp only [List.cons.injEq] at he
          rw [← he.1] at hu'
          exact hu'
      cases u with
      | struct fs => exact agg h2 (by obtain ⟨cs, hv, _⟩ := okWide_struct hu hok; exact ⟨cs, hv⟩)
      | array n e => exact agg h2 (by unfold Value.okWide at hok; rw [hu] at hok; obtain ⟨cs, hv, _⟩ := hok; exact ⟨cs, hv⟩)
      | int k => simp only [Bool.and_eq_true, Nat.beq_eq, Bool.not_eq_true'] at h2; exact one h2.1 h2.2 (by obtain ⟨n, rfl⟩ := okWide_int hu hok; rfl)
      | bool => simp only [Bool.and_eq_true, Nat.beq_eq, Bool.not_eq_true'] at h2; exact one h2.1 h2.2 (by obtain ⟨n, rfl⟩ := okWide_bool hu hok; rfl)
      | string => simp only [Bool.and_eq_true, Nat.beq_eq, Bool.not_eq_true'] at h2; exact one h2.1 h2.2 (by obtain ⟨n, rfl⟩ := okWide_string hu hok; rfl)
      | slice e => simp only [Bool.and_eq_true, Nat.beq_eq, Bool.not_eq_true'] at h2; exact one h2.1 h2.2 (by obtain ⟨a, n, c, rfl⟩ := okWide_slice hu hok; rfl)
      | _ => exfalso; rw [show (40 : Nat) = 39 + 1 from rfl, tyIs_succ, hu, Bool.and_eq_true] at h1; cases h1.2

/-- What came in reads behind the call as it did before. -/
theorem args_below {H : Type} {enc : TypeId × Value → H} {P : Program} (hl : laidOutB P = true) {W W' : World} (hb : Below W.heap.size W W') : ∀ (ts : List TypeId) (vs : List Value) (ds : List (DataW H)) (ps : List MemPlace),
    (ts.all fun t => P.readableRec t && decide (t < P.types.size)) = true → DataW.TrodAll enc P W 0 (fun _ => true) true ts vs ds ps → (∀ x ∈ ps, x.block < W.heap.size) → DataW.TrodAll enc P W' 0 (fun b => decide (b < W.heap.size)) true ts vs ds ps
  | [], [], [], ps, _, h, _ => h
  | [], _ :: _, _, ps, _, h, _ => h.elim
  | [], [], _ :: _, ps, _, h, _ => h.elim
  | _ :: _, [], _, ps, _, h, _ => h.elim
  | _ :: _, _ :: _, [], ps, _, h, _ => h.elim
  | t :: ts, v :: vs, d :: ds, ps, hr, h, hlt => by
    obtain ⟨p, q, h1, h2, rfl⟩ := h
    simp only [List.all_cons, Bool.and_eq_true, decide_eq_true_eq] at hr
    exact ⟨p, q, Below.trod hl hr.1.1 hr.1.2 h1 hb (fun x hx => hlt x (by simp [hx])), args_below hl hb ts vs ds q hr.2 h2 (fun x hx => hlt x (by simp [hx])), rfl⟩

/-- A statement's function, called with data: it answers true, and what was there stays. -/
theorem law_calls {P : Program} {E : Env} {f : FuncId} {sp : List AV → List (Bool × AV)} (h : PureOK P E f sp) {W : World} (hgl : GlOK E (heapC W)) {args : List AV} {cargs : Array Value} (ha : RepL (ctx0 (heapC W)) args cargs.toList) (hs : sel (sp args) = some (.bool true)) :
    Calls P f cargs W (fun e w' => e = .returned (.bool true) ∧ Below W.heap.size W w') := by
  refine (h.ok args _ hs rfl (heapC W) W cargs (fun b o v hb => hb) hgl ha).mono fun e w' hh => ?_
  obtain ⟨v, c', rfl, hv, _, he⟩ := hh
  simp only [Rep] at hv
  subst hv
  exact ⟨rfl, he.os, he.tape, he.output, he.size, fun k hk => (he.keep k hk (fun h => h)).1⟩
theorem wf_i64 {n : Int} (h : WfD (.int .i64) n) : -9223372036854775808 ≤ n ∧ n < 9223372036854775808 := by
  have h : (Lit.int .i64 n).wf = true := h
  simp [Lit.wf, show IntKind.i64.min = -9223372036854775808 from rfl] at h
  omega
theorem sel_yes {g : Bool} {x : AV} (h : g = true) : sel [(g, x)] = some x := by subst h; rfl
end Go.Proofs.AbsV
