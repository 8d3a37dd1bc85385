/- All operations but calls, together: on plain values as in the machine. No condition. -/
import Derived.Test.YtopbldbgnpeelaaDoorAx
set_option linter.unusedVariables false
set_option linter.unusedSimpArgs false
namespace Go.Proofs.AbsV
open Go

theorem Does.of_value {P : Program} {E : Env} {c : Ctx} {w : World} {s : St} {a : Act} (h : SR E c w s a) {o : Oper} {r : AV} {v : Value} (hv : (execOp a.eval o).run P w = .ok (.value v) w) (hr : Rep c r v) : Does P E c w s a o r s :=
  ⟨v, w, c, .inl hv, hr, h, Ext.refl _ _ _, Nat.le_refl _⟩
theorem SR.drew {E : Env} {c : Ctx} {w : World} {s : St} {a : Act} (h : SR E c w s a) : SR E c w.drew s a := ⟨h.good.drew, h.fr, h.gl⟩

/-! ### Stores -/
theorem one_ok {c : Ctx} {x : AV} {v : Value} (hx : Rep c x v) (h : oneA x = true) : v.oneCell' = true := by
  cases x <;> simp only [oneA] at h <;> try (cases h; done)
  case int => simp only [Rep] at hx; subst hx; rfl
  case bool => simp only [Rep] at hx; subst hx; rfl
  case str => simp only [Rep] at hx; subst hx; rfl
  case nilsl => simp only [Rep] at hx; subst hx; rfl
  case nilp => simp only [Rep] at hx; subst hx; rfl
  case glob => simp only [Rep] at hx; subst hx; rfl
  case nilfn => simp only [Rep] at hx; subst hx; rfl
  case niliface => simp only [Rep] at hx; subst hx; rfl
  case sl => simp only [Rep] at hx; obtain ⟨A, n, cap, rfl, _⟩ := hx; rfl
  case ptr => simp only [Rep] at hx; obtain ⟨k, _, rfl⟩ := hx; rfl
  case epin => simp only [Rep] at hx; obtain ⟨_, _, vs, b, o, _, _, rfl, _⟩ := hx; rfl
  case fn => simp only [Rep] at hx; obtain ⟨vs, rfl, _⟩ := hx; rfl
  case iface => simp only [Rep] at hx; obtain ⟨y, rfl, _⟩ := hx; rfl
  case asl => simp only [Rep] at hx; obtain ⟨b, o, n, cap, rfl, _⟩ := hx; rfl
  case apin => simp only [Rep] at hx; obtain ⟨_, b, o, rfl, _⟩ := hx; rfl
theorem ones_ok {c : Ctx} : ∀ (l : List AV) (vs : List Value), RepL c l vs → allOne l = true → ∀ v ∈ vs, v.oneCell' = true
  | [], vs, h, _, v, hv => by simp only [RepL] at h; subst h; simp at hv
  | x :: l, vs, h, ho, v, hv => by
    simp only [RepL] at h
    obtain ⟨u, r, rfl, hu, hr⟩ := h
    simp only [allOne, Bool.and_eq_true] at ho
    rcases List.mem_cons.1 hv with rfl | hv
    · exact one_ok hu ho.1
    · exact ones_ok l r hr ho.2 v hv
theorem storeA_ok {P : Program} {E : Env} (hE : EnvOK P E) {c : Ctx} {w : World} {s s' : St} {a : Act} (h : SR E c w s a) {t : TypeId} {x y r : AV} {v u : Value} (hx : Rep c x v) (hy : Rep c y u) (hr : sel (storeA E s t x y) = some (r, s')) :
    ∃ w', (Instr.storeAt t v u).run P w = .ok () w' ∧ Rep c r undef ∧ SR E c w' s' a ∧ Ext s.bx.length c w c w' ∧ s.bx.length ≤ s'.bx.length := by
  unfold storeA at hr
  split at hr
  · rename_i i b off vs hi hvs
    split at hr
    · rename_i T l hb
      split at hr
      · rename_i hsz
        simp only [Bool.and_eq_true, Nat.beq_eq, Nat.ble_eq] at hsz
        obtain ⟨_, he⟩ := sel_one hr
        simp only [Prod.mk.injEq] at he
        obtain ⟨rfl, rfl⟩ := he
        have hcl := cells?_ok hy hvs
        have hlen := hcl.length
        simp only [Array.length_toList] at hlen
        simp only [Rep] at hx
        obtain ⟨k, hk, rfl⟩ := hx
        obtain ⟨k', h1, h2, ⟨arr, h3, h4⟩, h5⟩ := h.good.box b _ hb
        rw [hk] at h1; cases h1
        have hal := h4.length
        simp only [Array.length_toList] at hal
        have hst := run_storeCells_at (P := P) k off T u.cells.toList 0 arr w h3 (by simp only [Array.length_toList]; omega) (ones_ok _ _ hcl hsz.2.2)
        simp only [Nat.add_zero] at hst
        have hrun : (Instr.storeAt t (.pointer (some ⟨k, off, none⟩)) u).run P w = .ok () (w.setRow k (arr.toList.take off ++ u.cells.toList ++ arr.toList.drop (off + u.cells.toList.length)).toArray) := by
          simp only [Instr.storeAt, Instr.sureAddr, storeVar, Sem.run_bind, Sem.run_pure, Result.andThen_ok, (hE t i hi).run_size]
          rw [if_neg (by omega)]
          exact hst
        have hgood : Good c (w.setRow k (arr.toList.take off ++ u.cells.toList ++ arr.toList.drop (off + u.cells.toList.length)).toArray) (s.bx.set b (.cells T (putCells l off vs))) := by
          refine h.good.setBox (i := b) (k := k) (List.getElem?_eq_some_iff.1 hb).1 hk (by simp) (fun b' hb' => setRow_other w k b' _ hb') ?_
          refine ⟨_, setRow_heap w k arr _ T (0, 0) h3, ?_⟩
          have := repL_put (off := off) h4 hcl
          simpa using this
        exact ⟨_, hrun, rep_undef c, ⟨hgood, h.fr, h.gl⟩, Ext.setBox rfl rfl rfl (by simp) h2 (fun b' hb' => setRow_other w k b' _ hb'), by simp⟩
      · cases hr
    · cases hr
  · cases hr

/-! ### Rows put together -/
theorem repN_length {α : Type} (l : List α) : ∀ n, (repN l n).length = n * l.length
  | 0 => by simp [repN]
  | n + 1 => by simp [repN, repN_length l n, Nat.add_mul, Nat.add_comm]
theorem repN_get {α : Type} (l : List α) : ∀ n i, i < n * l.length → (repN l n)[i]? = l[i % l.length]?
  | 0, i, h => by simp at h
  | n + 1, i, h => by
    simp only [repN]
    by_cases hi : i < l.length
    · rw [List.getElem?_append_left hi, Nat.mod_eq_of_lt hi]
    · have h' : i - l.length < n * l.length := by
        have : (n + 1) * l.length = n * l.length + l.length := by rw [Nat.add_mul, Nat.one_mul]
        omega
      rw [List.getElem?_append_right (by omega), repN_get l n _ h', Nat.mod_eq_sub_mod (a := i) (by omega)]
theorem repL_repN {c : Ctx} {l : List AV} {vs : List Value} (h : RepL c l vs) : ∀ n, RepL c (repN l n) (repN vs n)
  | 0 => rfl
  | n + 1 => h.append (repL_repN h n)
theorem zeros_repN (z : Array Value) (n : Nat) (hz : 0 < z.size) : ((Array.range (n * z.size)).map (z[· % z.size]!)).toList = repN z.toList n := by
  apply List.ext_getElem?
  intro i
  by_cases hi : i < n * z.size
  · rw [repN_get _ _ _ (by simpa using hi)]
    have hm : i % z.size < z.size := Nat.mod_lt _ hz
    simp [hi, Array.getElem?_range, hm]
  · rw [List.getElem?_eq_none (by simpa using hi), List.getElem?_eq_none (by rw [repN_length]; simpa using hi)]
theorem unflN_row {c : Ctx} {τ : Ty} : ∀ (n : Nat) (l : List AV) (vs : List Value) (xs : List τ.den), RepL c l vs → unflN τ n l = some xs → RowOf (RepD c.C τ) τ.size xs vs ∧ xs.length = n
  | 0, l, vs, xs, h, hu => by
    simp only [unflN] at hu
    split at hu
    · cases hu
      simp only [RepL] at h; subst h
      exact ⟨rfl, rfl⟩
    · cases hu
  | n + 1, l, vs, xs, h, hu => by
    simp only [unflN] at hu
    split at hu
    · rename_i p hp
      split at hu
      · rename_i ys hys
        cases hu
        obtain ⟨v1, v2, rfl, hd, hr⟩ := repD_unfl c τ l vs h p.1 p.2 (by rw [hp])
        obtain ⟨h1, h2⟩ := unflN_row n p.2 v2 ys hr hys
        exact ⟨⟨v1, v2, rfl, hd, RepD.length τ _ _ hd, h1⟩, by simp [h2]⟩
      · cases hu
    · cases hu
theorem putCells_length (l : List AV) (off : Nat) (vs : List AV) (h : off + vs.length ≤ l.length) : (putCells l off vs).length = l.length := by
  simp [putCells]; omega
theorem fillA_length {place : Nat → Option (Nat × Nat)} : ∀ (parts : List (Nat × AV)) (cells r : List AV), fillA place cells parts = some r → r.length = cells.length
  | [], cells, r, h => by simp only [fillA, Option.some.injEq] at h; rw [h]
  | p :: parts, cells, r, h => by
    simp only [fillA] at h
    split at h
    · cases h
    · split at h
      · cases h
      · split at h
        · rename_i hsz
          simp only [Bool.and_eq_true, Nat.beq_eq, Nat.ble_eq] at hsz
          rw [fillA_length parts _ r h, putCells_length _ _ _ hsz.2]
        · cases h
theorem buildSlice_run {P : Program} {w : World} {t e : TypeId} {ei : TI} (ht : P.underlying t = some (.slice e)) (he : TIok P e ei) (hsz : 0 < ei.size) {len : Nat} (hlen : len * ei.size ≤ 16777216) {c : Ctx} {parts : List (Nat × AV)} {vs : Array (Nat × Value)} {l : List AV}
    (hp : RepP c parts vs.toList) (hf : fillA (fun i => some (i * ei.size, ei.size)) (repN ei.zero len) parts = some l) :
    ∃ ws, (Instr.buildSlice t len vs).run P w = .ok (.slice (some ⟨w.heap.size, 0, none⟩) len len) (w.alloc (.cells ws e)) ∧ RepL c l ws.toList ∧ ws.size = l.length := by
  obtain ⟨z, hz, hzr, hzs, _⟩ := he.run_zero w
  have hcells : ∃ zs : Array Value, ((len * ei.size = 0 → zs = #[]) ∧ (¬ len * ei.size = 0 → zs = z.cells)) ∧ ((Array.range (len * ei.size)).map (zs[· % zs.size]!)).toList = repN z.cells.toList len := by
    by_cases h0 : len * ei.size = 0
    · refine ⟨#[], ⟨fun _ => rfl, fun h => absurd h0 h⟩, ?_⟩
      rw [h0]
      have : len = 0 := by
        rcases Nat.mul_eq_zero.1 h0 with h | h
        · exact h
        · omega
      subst this
      simp [repN]
    · refine ⟨z.cells, ⟨fun h => absurd h h0, fun _ => rfl⟩, ?_⟩
      rw [← hzs]
      exact zeros_repN _ _ (by omega)
  obtain ⟨zs, hzs1, hzs2⟩ := hcells
  obtain ⟨ws, hw1, hw2⟩ := fillA_ok (c := c) (place' := fun i => some (i * ei.size, ei.size)) (fun i q hq => hq) parts vs.toList (repN ei.zero len) ((Array.range (len * ei.size)).map (zs[· % zs.size]!)) l hp (by rw [hzs2]; exact repL_repN (hzr c) len) hf
  refine ⟨ws, ?_, hw2, by have := hw2.length; simpa using this⟩
  have hle : ¬ (len * ei.size > 2 ^ 24) := by omega
  simp only [Instr.buildSlice, Sem.run_bind, run_underlying ht, Result.andThen_ok, he.run_size]
  rw [if_neg hle]
  by_cases h0 : len * ei.size = 0
  · rw [if_pos h0]
    have := hzs1.1 h0
    subst this
    simp only [Sem.run_bind, Sem.run_pure, Result.andThen_ok]
    rw [hw1]
    simp only [newRow, Sem.run_bind, run_newObj, Sem.run_pure, Result.andThen_ok, World.alloc_eq]
  · rw [if_neg h0]
    have := hzs1.2 h0
    subst this
    simp only [Sem.run_bind, Sem.run_pure, Result.andThen_ok, hz]
    rw [hw1]
    simp only [newRow, Sem.run_bind, run_newObj, Sem.run_pure, Result.andThen_ok, World.alloc_eq]
theorem maxTok_ne {s : St} : boxesIn (fun _ => True) (fun j => j ≠ s.maxTok) s.bx := by
  intro B hB
  exact okInL_imp (fun _ _ => trivial) (fun i hi => Nat.ne_of_lt hi) _ (boxesIn_max (m := s.maxTok) (Nat.le_max_right _ _) B hB)
theorem maxTok_fr {s : St} : okInL (fun _ => True) (fun j => j ≠ s.maxTok) s.fr :=
  okInL_imp (fun _ _ => trivial) (fun i hi => Nat.ne_of_lt hi) _ (okInL_max (m := s.maxTok) _ (okInL_all _) (Nat.le_max_left _ _))
theorem buildSliceA_ok {P : Program} {E : Env} (hE : EnvOK P E) {c : Ctx} {w : World} {s s' : St} {a : Act} (h : SR E c w s a) {t : TypeId} {len : Nat} {parts : List (Nat × AV)} {vs : Array (Nat × Value)} {r : AV} (hp : RepP c parts vs.toList)
    (hr : sel (buildSliceA E s t len parts) = some (r, s')) :
    ∃ v w' c', (Instr.buildSlice t len vs).run P w = .ok v w' ∧ Rep c' r v ∧ SR E c' w' s' a ∧ Ext s.bx.length c w c' w' ∧ s.bx.length ≤ s'.bx.length := by
  unfold buildSliceA at hr
  split at hr
  · rename_i e sz by' ze ty hi
    obtain ⟨d, h1, h2⟩ := (hE t _ hi).und
    obtain rfl := TK.is_slice h2
    split at hr
    · rename_i ei hei
      have hte := hE e ei hei
      split at hr
      · rename_i hsz
        simp only [Bool.and_eq_true, Nat.ble_eq, Nat.blt_eq] at hsz
        split at hr
        · rename_i l hl
          obtain ⟨ws, hrun, hw, hws⟩ := buildSlice_run (w := w) h1 hte hsz.2 hsz.1 hp hl
          split at hr
          · rename_i τ hτ
            split at hr
            · rename_i hs
              have hs := Nat.eq_of_beq_eq_true hs
              split at hr
              · rename_i xs hxs
                obtain ⟨_, he⟩ := sel_one hr
                simp only [Prod.mk.injEq] at he
                obtain ⟨rfl, hss⟩ := he
                obtain rfl : s = s' := hss.symm
                obtain ⟨hrow, hxl⟩ := unflN_row len l ws.toList xs hw hxs
                have hwl : ws.size = len * τ.size := by have := hrow.length; rw [hxl] at this; simpa using this
                by_cases h0 : len = 0
                · subst h0
                  obtain rfl : xs = [] := List.eq_nil_of_length_eq_zero hxl
                  obtain ⟨g1, g2⟩ := h.good.allocAny (.cells ws e)
                  obtain ⟨g3, g4⟩ := g1.addTok (j := s.maxTok) (T := e) (sz := τ.size) (v := .slice (some ⟨w.heap.size, 0, none⟩) 0 0) (.inr ⟨_, rfl⟩) maxTok_ne
                  refine ⟨_, _, _, hrun, ⟨some ⟨w.heap.size, 0, none⟩, 0, 0, rfl, ⟨rfl, Nat.le_refl _, fun _ => rfl, by omega, fun i hi => by simp at hi⟩, rfl, by simp [OwnOK, Ctx.addTok]⟩,
                    ⟨g3, repL_mono (c := c) (c' := c.addTok s.maxTok e τ.size (.slice (some ⟨w.heap.size, 0, none⟩) 0 0)) (CLe.refl c.C) (fun b _ k' hk' => hk') (fun i hi => by simp only [Ctx.addTok]; rw [if_neg hi]) _ _ maxTok_fr h.fr, h.gl⟩, (g2 _).trans (Nat.le_refl _) (g4 _), Nat.le_refl _⟩
                · have hlen2 : len ≤ 16777216 := by
                    have : len * 1 ≤ len * ei.size := Nat.mul_le_mul_left _ hsz.2
                    omega
                  obtain ⟨g1, g2⟩ := h.good.addRow (w' := w.alloc (.cells ws e)) (j := s.maxTok) (T := e) (sz := τ.size) (n := len) (cap := len) (k := w.heap.size) (cells := ws.toList) (cur := ws) (.inl (Nat.le_refl _)) rfl rfl rfl (by simp)
                    (fun b hb _ => heap_alloc_lt hb) (heap_alloc_new w _) (Nat.le_refl _) (by omega) (by simp only [maxLen]; omega) hwl (by omega) (by rw [Array.length_toList]; exact hwl) (by rw [← hwl, ← Array.length_toList]; exact List.take_length) (fun o u hu => by have := h.good.lt hu; omega) maxTok_ne
                  refine ⟨_, _, _, hrun, ⟨some ⟨w.heap.size, 0, none⟩, len, len, rfl, ?_, rfl, by simp [OwnOK, Ctx.addRow]⟩, ⟨g1, repL_mono (c := c) (c' := c.addRow s.maxTok e τ.size (.slice (some ⟨w.heap.size, 0, none⟩) len len) w.heap.size ws.toList) g2.cle (fun b _ k' hk' => hk') (fun i hi => by simp only [Ctx.addRow]; rw [if_neg hi]) _ _ maxTok_fr h.fr, h.gl.mono g2.cle⟩, g2, Nat.le_refl _⟩
                  have := SlOK.ofRow (C := (c.addRow s.maxTok e τ.size (.slice (some ⟨w.heap.size, 0, none⟩) len len) w.heap.size ws.toList).C) (b := w.heap.size) (o := 0) (cap := len) (hrow.mono (fun x v hx => RepD.mono g2.cle τ x v hx)) (fun i hi => by
                    simp only [Ctx.addRow, if_true, Nat.zero_add]
                    exact List.getElem?_eq_getElem hi) (by omega) (by omega)
                  rw [hxl] at this
                  exact this
              · cases hr
            · cases hr
          · split at hr
            · obtain ⟨_, he⟩ := sel_one hr
              simp only [Prod.mk.injEq] at he
              obtain ⟨rfl, hss⟩ := he
              obtain rfl : s = s' := hss.symm
              obtain ⟨g1, g2⟩ := h.good.addCells (w' := w.alloc (.cells ws e)) (k := w.heap.size) (cells := ws.toList) (cur := ws) (Nat.le_refl _) rfl rfl rfl (by simp) (fun b hb => heap_alloc_lt hb) (heap_alloc_new w _) List.take_length
              have hcle := (g2 0).cle
              have hll : l.length = len * ei.size := by
                have := fillA_length _ _ _ hl
                rw [this, repN_length]
                obtain ⟨z, _, hzr, hzs, _⟩ := hte.run_zero w
                have hz := (hzr c).length
                simp only [Array.length_toList] at hz
                rw [← hz, hzs]
              refine ⟨_, _, _, hrun, ⟨w.heap.size, 0, len, len, rfl, by rw [stripL_length]; exact hll.symm, Nat.le_refl _, ws.toList, repL_strip _ _ (addCells_repL hcle _ _ hw), fun j hj => ?_⟩, ⟨g1, addCells_repL hcle _ _ h.fr, h.gl.mono hcle⟩, g2 _, Nat.le_refl _⟩
              simp only [Ctx.addCells, if_true, Nat.zero_add]
              exact List.getElem?_eq_getElem hj
            · cases hr
        · cases hr
      · cases hr
    · cases hr
  · cases hr

/-! ### Parts of slices and texts -/
theorem boundA_ok {c : Ctx} {x : Option AV} {v : Option Value} {d i : Int} (hx : match x, v with | none, none => True | some x, some v => Rep c x v | _, _ => False) (h : boundA x d = some i) :
    (x = none ∧ v = none ∧ i = d) ∨ ∃ k, v = some (.int k i) := by
  unfold boundA at h
  split at h
  · cases h
    cases v with
    | none => exact .inl ⟨rfl, rfl, rfl⟩
    | some v => exact hx.elim
  · rename_i k n
    cases h
    cases v with
    | none => exact hx.elim
    | some v => simp only [Rep] at hx; subst hx; exact .inr ⟨k, rfl⟩
  · cases h
theorem run_bound {P : Program} {w : World} {k : IntKind} {i : Int} {y : Nat} {code : BoundsCode} (h0 : 0 ≤ i) (h1 : i ≤ (y : Int)) : (Instr.sliceBound (.int k i) y code).run P w = .ok i.toNat w := by
  simp [Instr.sliceBound, asIntOf, h0, h1]
/-- The two bounds, told or not. -/
theorem run_bounds {P : Program} {w : World} {isS : Bool} {len cap : Nat} {lo hi : Option Value} {l h : Int} (hlo : (lo = none ∧ l = 0) ∨ ∃ k, lo = some (.int k l)) (hhi : (hi = none ∧ h = (len : Int)) ∨ ∃ k, hi = some (.int k h))
    (h0 : 0 ≤ l) (h1 : l ≤ h) (h2 : h ≤ (len : Int)) (h3 : len ≤ cap) : (Instr.sliceBounds isS len cap lo hi none).run P w = .ok (l.toNat, h.toNat, cap) w := by
  have h4 : h ≤ (cap : Int) := by omega
  have hl : ∀ (code : BoundsCode) (k : IntKind), (Instr.sliceBound (.int k l) h.toNat code).run P w = .ok l.toNat w := fun code k => run_bound h0 (by omega)
  have hh : ∀ (code : BoundsCode) (k : IntKind), (Instr.sliceBound (.int k h) cap code).run P w = .ok h.toNat w := fun code k => run_bound (by omega) h4
  have hl2 : ∀ (code : BoundsCode) (k : IntKind), h = (len : Int) → (Instr.sliceBound (.int k l) len code).run P w = .ok l.toNat w := fun code k e => run_bound h0 (by omega)
  rcases hlo with ⟨rfl, rfl⟩ | ⟨k, rfl⟩ <;> rcases hhi with ⟨rfl, rfl⟩ | ⟨k', rfl⟩
  · simp [Instr.sliceBounds]
  · simp [Instr.sliceBounds, hh]
  · simp [Instr.sliceBounds, hl2]
  · simp [Instr.sliceBounds, hh, hl]
theorem sliceA_ok {P : Program} {E : Env} (hE : EnvOK P E) {c : Ctx} {w : World} {s s' : St} {t : TypeId} {x : AV} {lo hi mx : Option AV} {v : Value} {vlo vhi vmx : Option Value} {r : AV} (hx : Rep c x v)
    (hlo : match lo, vlo with | none, none => True | some x, some v => Rep c x v | _, _ => False) (hhi : match hi, vhi with | none, none => True | some x, some v => Rep c x v | _, _ => False) (hmx : mx = none → vmx = none)
    (hr : sel (sliceA E s t x lo hi mx) = some (r, s')) : ∃ u, (Instr.sliceAt t v vlo vhi vmx).run P w = .ok u w ∧ Rep c r u ∧ s' = s := by
  unfold sliceA at hr
  split at hr
  · rename_i sz by' ze ty b hi'
    obtain ⟨d, h1, h2⟩ := (hE t _ hi').und
    obtain rfl := TK.is_str h2
    obtain rfl := hmx rfl
    split at hr
    · rename_i l h hl hh
      obtain ⟨hg, he⟩ := sel_one hr
      simp only [Prod.mk.injEq] at he
      obtain ⟨rfl, rfl⟩ := he
      simp only [Bool.and_eq_true, decide_eq_true_eq] at hg
      simp only [Rep] at hx
      subst hx
      have hb := run_bounds (P := P) (w := w) (isS := false) (len := b.size) (cap := b.size) (lo := vlo) (hi := vhi) (l := l) (h := h)
        (by rcases boundA_ok hlo hl with ⟨_, e1, e2⟩ | h; exact .inl ⟨e1, e2⟩; exact .inr h) (by rcases boundA_ok hhi hh with ⟨_, e1, e2⟩ | h; exact .inl ⟨e1, e2⟩; exact .inr h) hg.1 hg.2.1 hg.2.2 (Nat.le_refl _)
      refine ⟨.string (b.extract l.toNat h.toNat), ?_, rfl, rfl⟩
      simp [Instr.sliceAt, run_underlying h1, Instr.slice, hb]
    · cases hr
  · rename_i e sz by' ze ty τ xs nl own hi'
    obtain ⟨d, h1, h2⟩ := (hE t _ hi').und
    obtain rfl := TK.is_slice h2
    obtain rfl := hmx rfl
    split at hr
    · rename_i ei hei
      have hte := hE e ei hei
      split at hr
      · rename_i hs
        have hs := Nat.eq_of_beq_eq_true hs
        split at hr
        · rename_i l h hl hh
          obtain ⟨hg, he⟩ := sel_one hr
          simp only [Prod.mk.injEq] at he
          obtain ⟨rfl, rfl⟩ := he
          simp only [Bool.and_eq_true, decide_eq_true_eq] at hg
          simp only [Rep] at hx
          obtain ⟨A, n, cap, rfl, hsl, hn, _⟩ := hx
          obtain ⟨g1, g2, g3, g4, g5⟩ := hsl
          have hb := run_bounds (P := P) (w := w) (isS := true) (len := n) (cap := cap) (lo := vlo) (hi := vhi) (l := l) (h := h)
            (by rcases boundA_ok hlo hl with ⟨_, e1, e2⟩ | h; exact .inl ⟨e1, e2⟩; exact .inr h) (by rcases boundA_ok hhi hh with ⟨_, e1, e2⟩ | h; exact .inl ⟨e1, by rw [g1]; exact e2⟩; exact .inr h) hg.1 hg.2.1 (by rw [g1]; exact hg.2.2) g2
          refine ⟨.slice (if cap = l.toNat then A else A.map (·.add (l.toNat * ei.size))) (h.toNat - l.toNat) (cap - l.toNat), ?_, ?_, rfl⟩
          · simp [Instr.sliceAt, run_underlying h1, Instr.slice, hb, hte.run_size]
          · have hlen : ((xs.drop l.toNat).take (h - l).toNat).length = h.toNat - l.toNat := by
              rw [List.length_take, List.length_drop]; omega
            refine ⟨_, _, _, rfl, ⟨hlen.symm, by omega, fun hA => ?_, by omega, fun i hi => ?_⟩, ?_, trivial⟩
            · split at hA
              · have := g3 hA; omega
              · cases A with
                | none => have := g3 rfl; omega
                | some a => simp at hA
            · rw [hlen] at hi
              have hlt : l.toNat + i < xs.length := by omega
              obtain ⟨vs, hd, hvl, b, o, rfl, hc⟩ := g5 (l.toNat + i) hlt
              have hne : cap ≠ l.toNat := by omega
              refine ⟨vs, ?_, hvl, b, o + l.toNat * ei.size, ?_, fun j hj => ?_⟩
              · simpa using hd
              · rw [if_neg hne]
                simp [addr_add]
              · rw [← hc j hj]
                congr 1
                rw [hs, Nat.add_mul]; omega
            · cases nl with
              | none => trivial
              | some b =>
                simp only [NlOK] at hn ⊢
                split
                · exact hn
                · rw [← hn]; cases A <;> rfl
        · cases hr
      · cases hr
    · cases hr
  · rename_i e sz by' ze ty hi'
    obtain ⟨d, h1, h2⟩ := (hE t _ hi').und
    obtain rfl := TK.is_slice h2
    obtain rfl := hmx rfl
    split at hr
    · rename_i ei hei
      have hte := hE e ei hei
      split at hr
      · rename_i l h hl hh
        obtain ⟨hg, he⟩ := sel_one hr
        simp only [Prod.mk.injEq] at he
        obtain ⟨rfl, rfl⟩ := he
        simp only [Bool.and_eq_true, decide_eq_true_eq] at hg
        simp only [Rep] at hx
        subst hx
        have hb := run_bounds (P := P) (w := w) (isS := true) (len := 0) (cap := 0) (lo := vlo) (hi := vhi) (l := l) (h := h)
          (by rcases boundA_ok hlo hl with ⟨_, e1, e2⟩ | h; exact .inl ⟨e1, e2⟩; exact .inr h) (by rcases boundA_ok hhi hh with ⟨_, e1, e2⟩ | h; exact .inl ⟨e1, e2⟩; exact .inr h) hg.1 hg.2.1 hg.2.2 (Nat.le_refl _)
        have el : l.toNat = 0 := by omega
        have eh : h.toNat = 0 := by omega
        refine ⟨.slice none 0 0, ?_, rfl, rfl⟩
        simp [Instr.sliceAt, run_underlying h1, Instr.slice, hb, hte.run_size, el, eh]
      · cases hr
    · cases hr
  · cases hr

/-! ### Texts, rune by rune -/
theorem nextA_ok {P : Program} {E : Env} {c : Ctx} {w : World} {s s' : St} {a : Act} (h : SR E c w s a) {ty : TypeId} {x r : AV} {v : Value} (hx : Rep c x v) (hr : sel (nextA E s x) = some (r, s')) :
    ∃ u w', (Instr.next v true ty).run P w = .ok u w' ∧ Rep c r u ∧ SR E c w' s' a ∧ Ext s.bx.length c w c w' ∧ s.bx.length ≤ s'.bx.length := by
  unfold nextA at hr
  split at hr
  · rename_i b
    split at hr
    · rename_i t p hb
      simp only [Rep] at hx
      obtain ⟨k, hk, rfl⟩ := hx
      obtain ⟨k', h1, h2, h3, h4⟩ := h.good.box b _ hb
      rw [hk] at h1; cases h1
      simp only [BoxOK] at h3
      rcases sel_cons hr with ⟨g1, g2⟩ | ⟨g1, g2⟩
      · simp only [decide_eq_true_eq] at g1
        simp only [Prod.mk.injEq] at g2
        obtain ⟨rfl, rfl⟩ := g2
        have hother : ∀ b', b' ≠ k → ({ w with heap := w.heap.setIfInBounds k (.stringIter t (p + (Utf8.decode t p).2)) } : World).heap[b']? = w.heap[b']? := fun b' hb' => by
          show (w.heap.setIfInBounds k _)[b']? = _
          rw [Array.getElem?_setIfInBounds_ne (fun e => hb' e.symm)]
        refine ⟨.tuple #[.bool true, goInt p, .int .i32 (Utf8.decode t p).1], { w with heap := w.heap.setIfInBounds k (.stringIter t (p + (Utf8.decode t p).2)) }, ?_, ⟨_, rfl, _, _, rfl, rfl, _, _, rfl, rfl, _, _, rfl, rfl, rfl⟩, ⟨?_, h.fr, h.gl⟩, ?_, by simp⟩
        · simp [Instr.next, getObj, setObj, Sem.run, h3, g1]
        · refine h.good.setBox (i := b) (k := k) (List.getElem?_eq_some_iff.1 hb).1 hk (by simp) hother ?_
          show (w.heap.setIfInBounds k _)[k]? = _
          rw [Array.getElem?_setIfInBounds_self_of_lt (heap_lt h3)]
        · exact Ext.setBox rfl rfl rfl (by simp) h2 hother
      · simp only [decide_eq_false_iff_not] at g1
        obtain ⟨_, he⟩ := sel_one g2
        simp only [Prod.mk.injEq] at he
        obtain ⟨rfl, hss⟩ := he
        obtain rfl : s = s' := hss.symm
        refine ⟨.tuple #[.bool false], w, ?_, ⟨_, rfl, _, _, rfl, rfl, rfl⟩, h, Ext.refl _ _ _, Nat.le_refl _⟩
        simp [Instr.next, getObj, Sem.run, h3, g1]
    · cases hr
  · cases hr

theorem SlOK.ofRow2 {α : Type} {C : Stab} {R : α → List Value → Prop} {sz : Nat} {xs : List α} {vs : List Value} {b o n cap : Nat} (hr : RowOf R sz xs vs) (hc : ∀ j (hj : j < vs.length), C b (o + j) = some vs[j])
    (hn : n = xs.length) (hcap : n ≤ cap) (hm : n ≤ 9223372036854775807) : SlOK C R sz xs (some ⟨b, o, none⟩) n cap := by
  subst hn
  exact SlOK.ofRow hr hc hcap hm
theorem repL_bytes {c : Ctx} : ∀ (l : List UInt8), RowOf (RepD c.C (.int .u8)) 1 (l.map fun b => (b.toNat : Int)) (l.map fun b => Value.int .u8 b.toNat)
  | [] => rfl
  | b :: l => ⟨[.int .u8 b.toNat], _, rfl, rfl, rfl, repL_bytes l⟩
theorem RowOf.bytes {C : Stab} : ∀ {xs : List Int} {vs : List Value}, RowOf (RepD C (.int .u8)) 1 xs vs → vs = xs.map (Value.int .u8)
  | [], vs, h => h
  | x :: xs, vs, h => by
    simp only [RowOf] at h
    obtain ⟨v, r, rfl, hx, _, hr⟩ := h
    simp only [RepD] at hx
    subst hx
    rw [RowOf.bytes hr]
    rfl

theorem bytesRow_take (b : ByteArray) (cap : Nat) : (bytesRow b cap).toList.take (b.data.toList.map fun b => Value.int .u8 b.toNat).length = b.data.toList.map fun b => Value.int .u8 b.toNat := by
  simp [bytesRow]
theorem bytes_cells {w : World} {b o n : Nat} {xs : List Int} {vs : List Value} (hn : n = xs.length) (hvs : vs = xs.map (Value.int .u8)) (h : ∀ j (hj : j < vs.length), w.cell? ⟨b, o + j, none⟩ = some vs[j]) :
    ∀ i, i < n → w.cell? ⟨b, o + i, none⟩ = some (.int .u8 (xs.getD i 0)) := by
  intro i hi
  subst hvs
  rw [h i (by simp; omega)]
  have hlt : i < xs.length := by omega
  simp [List.getD_eq_getElem?_getD, List.getElem?_eq_getElem hlt]
theorem appendA_ok {P : Program} {E : Env} (hE : EnvOK P E) {c : Ctx} {w : World} {s s' : St} {a : Act} (h : SR E c w s a) {t ty : TypeId} {x y r : AV} {v u : Value} (hx : Rep c x v) (hy : Rep c y u) (hr : sel (appendA E s t x y) = some (r, s')) :
    ∃ z w' c', (Builtin.append_ #[t, t] ty #[v, u]).run P w = .ok z w' ∧ Rep c' r z ∧ SR E c' w' s' a ∧ Ext s.bx.length c w c' w' ∧ s.bx.length ≤ s'.bx.length := by
  unfold appendA at hr
  split at hr
  · rename_i e sz by' ze tyo hi
    obtain ⟨d, h1, h2⟩ := (hE t _ hi).und
    obtain rfl := TK.is_slice h2
    split at hr
    · rename_i ei hei
      have hte := hE e ei hei
      split at hr
      · rename_i τ hτ
        split at hr
        · rename_i hs
          simp only [Bool.and_eq_true, Nat.beq_eq, Nat.blt_eq] at hs
          split at hr
          · rename_i ys hys
            -- what comes behind
            have hY : ∃ B m c0, u = .slice B m c0 ∧ SlOK c.C (RepD c.C τ) τ.size ys B m c0 := by
              unfold srcOf at hys
              split at hys
              · rename_i τ' zs nl own
                split at hys
                · rename_i hq
                  subst hq
                  cases hys
                  simp only [Rep] at hy
                  obtain ⟨B, m, c0, rfl, hsl, _⟩ := hy
                  exact ⟨B, m, c0, rfl, hsl⟩
                · cases hys
              · cases hys
                simp only [Rep] at hy
                subst hy
                exact ⟨none, 0, 0, rfl, rfl, Nat.le_refl _, fun _ => rfl, by omega, fun i hi => by simp at hi⟩
              · cases hys
            obtain ⟨B, m, c0, rfl, hsl⟩ := hY
            split at hr
            · rename_i τ' xs nl p
              split at hr
              · rename_i hq
                subst hq
                split at hr
                · rename_i hp
                  have hp := Nat.eq_of_beq_eq_true hp
                  obtain ⟨hg, he⟩ := sel_one hr
                  simp only [decide_eq_true_eq] at hg
                  simp only [Prod.mk.injEq] at he
                  obtain ⟨rfl, rfl⟩ := he
                  simp only [Rep] at hx
                  obtain ⟨A, n, cap, rfl, hslx, _, how⟩ := hx
                  simp only [OwnOK] at how
                  obtain ⟨z, w', c', hrun, g1, g2, g3, g4, g5⟩ := append_claim (P := P) (h.good.scrub p.1) (ty := ty) h1 hte hs.1 hs.2.1 hs.2.2 (j := p.1) hslx (.inl (by rw [how, hp])) hsl hg (boxesIn_scrub _ _)
                  rw [scrubB_length] at g2
                  refine ⟨z, w', c', hrun, ?_, ⟨g1, ?_, h.gl.mono g2.cle⟩, g2, by simp [scrubB_length]⟩
                  · rw [← hp] at g5
                    exact g5
                  · exact repL_mono (c := c) (c' := c') g2.cle (p := fun _ => True) (q := fun i => i ≠ p.1) (fun b _ k hk => by rw [g4]; exact hk) g3 _ _ (okInL_scrub _ _ (okInL_all _)) (repL_scrub _ _ _ h.fr)
                · cases hr
              · cases hr
            · obtain ⟨hg, he⟩ := sel_one hr
              simp only [decide_eq_true_eq] at hg
              simp only [Prod.mk.injEq] at he
              obtain ⟨rfl, hss⟩ := he
              obtain rfl : s = s' := hss.symm
              simp only [Rep] at hx
              subst hx
              have hnil : SlOK c.C (RepD c.C τ) τ.size ([] : List τ.den) none 0 0 := ⟨rfl, Nat.le_refl _, fun _ => rfl, by omega, fun i hi => by simp at hi⟩
              obtain ⟨z, w', c', hrun, g1, g2, g3, g4, g5⟩ := append_claim (P := P) h.good (ty := ty) h1 hte hs.1 hs.2.1 hs.2.2 (j := s.maxTok) hnil (.inr ⟨rfl, rfl, rfl, rfl⟩) hsl (by simpa using hg) maxTok_ne
              refine ⟨z, w', c', hrun, by simpa using g5, ⟨g1, ?_, h.gl.mono g2.cle⟩, g2, Nat.le_refl _⟩
              exact repL_mono (c := c) (c' := c') g2.cle (p := fun _ => True) (q := fun i => i ≠ s.maxTok) (fun b _ k hk => by rw [g4]; exact hk) g3 _ _ maxTok_fr h.fr
            · cases hr
          · cases hr
        · cases hr
      · cases hr
    · cases hr
  · cases hr
theorem sel_or {β : Type} : ∀ {l m : List (Bool × β)} {z : β}, sel (l ++ m) = some z → sel l = some z ∨ sel m = some z
  | [], m, z, h => .inr h
  | (g, b) :: l, m, z, h => by
    cases g with
    | true => exact .inl h
    | false => exact sel_or (l := l) h
/-- A claim is let go: its row was marked. -/
def Ctx.dropTok (c : Ctx) (j : Nat) : Ctx := { c with tk := fun i => if i = j then none else c.tk i }
theorem dropTok_tk {c : Ctx} {j i : Nat} {x : TypeId × Nat × Value} (h : (c.dropTok j).tk i = some x) : i ≠ j ∧ c.tk i = some x := by
  simp only [Ctx.dropTok] at h
  by_cases hi : i = j
  · rw [if_pos hi] at h; cases h
  · rw [if_neg hi] at h; exact ⟨hi, h⟩
theorem dropTok_repL {c : Ctx} {j : Nat} (l : List AV) (vs : List Value) (ho : okInL (fun _ => True) (fun i => i ≠ j) l) (h : RepL c l vs) : RepL (c.dropTok j) l vs :=
  repL_mono (c := c) (c' := c.dropTok j) (CLe.refl c.C) (p := fun _ => True) (q := fun i => i ≠ j) (fun b _ k hk => hk) (fun i hi => by simp only [Ctx.dropTok]; rw [if_neg hi]) l vs ho h
theorem Good.dropTok {c : Ctx} {w w' : World} {bx : List Box2} (h : Good c w bx) {j k : Nat} {T : TypeId} {sz n cap : Nat} (ht : c.tk j = some (T, sz, .slice (some ⟨k, 0, none⟩) n cap)) (hc : 0 < cap)
    (hcell : ∀ b o, w'.cell? ⟨b, o, none⟩ = w.cell? ⟨b, o, none⟩) (hother : ∀ b, b ≠ k → w'.heap[b]? = w.heap[b]?) (hq : boxesIn (fun _ => True) (fun i => i ≠ j) bx) : Good (c.dropTok j) w' bx := by
  refine ⟨?_, ?_, h.inj, ?_, ?_, ?_⟩
  · intro b o v hv
    rw [hcell]
    exact h.stab b o v hv
  · intro i B hi
    obtain ⟨m, h1, h2, h3, h4⟩ := h.box i B hi
    have hmk : m ≠ k := fun e => h.tbox j T sz _ n cap i ht hc (List.getElem?_eq_some_iff.1 hi).1 (by rw [h1, e])
    exact ⟨m, h1, h2, h3.move (hother m hmk) (fun vs hr => dropTok_repL _ _ (hq B (List.mem_of_getElem? hi)) hr), h4⟩
  · intro i T' s' v hv
    obtain ⟨hij, hv⟩ := dropTok_tk hv
    rcases h.tok i T' s' v hv with g1 | g1 | ⟨g, m, cp, cr, g1, g2, g3, g4, g5, g6⟩
    · exact .inl g1
    · exact .inr (.inl g1)
    · subst g1
      have hgk : g ≠ k := fun e => hij (h.tinj i T' s' _ m cp j T sz _ n cap hv ht g5 hc e)
      exact .inr (.inr ⟨g, m, cp, cr, rfl, g2, by rw [hother g hgk]; exact g3, g4, g5, g6⟩)
  · intro i T' s' a m cp i' hv hc' hi'
    exact h.tbox i T' s' a m cp i' (dropTok_tk hv).2 hc' hi'
  · intro i T1 s1 a1 n1 c1 i' T2 s2 a2 n2 c2 h1 h2 hc1 hc2 hb
    exact h.tinj i T1 s1 a1 n1 c1 i' T2 s2 a2 n2 c2 (dropTok_tk h1).2 (dropTok_tk h2).2 hc1 hc2 hb
theorem freeze_other {w : World} {a : Addr} {n b : Nat} (h : b ≠ a.block) : (w.freeze a n).heap[b]? = w.heap[b]? := by
  unfold World.freeze
  split
  · rfl
  · simp only [Array.getElem?_modify]
    rw [if_neg (fun e => h e.symm)]
theorem freeze_cell {w : World} {a : Addr} {n b o : Nat} : (w.freeze a n).cell? ⟨b, o, none⟩ = w.cell? ⟨b, o, none⟩ := by
  unfold World.freeze
  split
  · rfl
  · simp only [World.cell?, Array.getElem?_modify]
    by_cases hb : a.block = b
    · rw [if_pos hb]
      cases hh : w.heap[b]? with
      | none => rfl
      | some ob => cases ob <;> rfl
    · rw [if_neg hb]
theorem convSame_ok {P : Program} {E : Env} (hE : EnvOK P E) {c : Ctx} {w : World} {s s' : St} {a : Act} (h : SR E c w s a) {src dst : TypeId} {x r : AV} {v : Value} (hx : Rep c x v) (hr : sel (convSame E s src dst x) = some (r, s')) :
    ∃ z w' c', (convert src dst v).run P w = .ok z w' ∧ Rep c' r z ∧ SR E c' w' s' a ∧ Ext s.bx.length c w c' w' ∧ s.bx.length ≤ s'.bx.length := by
  unfold convSame at hr
  split at hr
  · rename_i e sz by' ze ty xs p hd
    split at hr
    · rename_i sz3 by3 z3 ty3 y ys he
      split at hr
      · rename_i hsd
        obtain ⟨_, hrr⟩ := sel_one hr
        simp only [Prod.mk.injEq] at hrr
        obtain ⟨rfl, rfl⟩ := hrr
        have hsd := Nat.eq_of_beq_eq_true hsd
        subst hsd
        obtain ⟨d2, u2, k2⟩ := (hE src _ hd).und
        obtain ⟨d3, u3, k3⟩ := (hE e _ he).und
        obtain rfl := TK.is_slice k2
        obtain rfl := TK.is_int k3
        simp only [Rep] at hx
        obtain ⟨A, n, cap, rfl, hsl, hnl, how⟩ := hx
        simp only [OwnOK] at how
        have hn : n = ys.length + 1 := hsl.1
        have hncap := hsl.2.1
        rcases h.good.tok p.1 _ _ _ how with g1 | ⟨a', g1⟩ | ⟨g, m, cp, cr, g1, g2, g3, g4, g5, g6⟩
        · injection g1 with _ g1 _; omega
        · injection g1 with _ g1 _; omega
        · injection g1 with g1 g1' g1''
          subst g1; subst g1'; subst g1''
          have hrun : (convert src src (.slice (some ⟨g, 0, none⟩) n cap)).run P w = .ok (.slice (some ⟨g, 0, none⟩) n cap) (w.freeze { block := g, off := cr.size } 1) := by
            have hsh : w.shape? g = some (p.2, cr.size) := by simp only [World.shape?, g3]
            simp [convert, run_underlying u2, run_underlying u3, markStringish, hsh]
          have hcl : ∀ b o, (w.freeze { block := g, off := cr.size } 1).cell? ⟨b, o, none⟩ = w.cell? ⟨b, o, none⟩ := fun b o => freeze_cell
          have hot : ∀ b, b ≠ g → (w.freeze { block := g, off := cr.size } 1).heap[b]? = w.heap[b]? := fun b hb => freeze_other hb
          have hG := (h.good.scrub p.1).dropTok how g5 hcl hot (boxesIn_scrub _ _)
          have hext : Ext s.bx.length c w (c.dropTok p.1) (w.freeze { block := g, off := cr.size } 1) :=
            ⟨by unfold World.freeze; rfl, by unfold World.freeze; rfl, by unfold World.freeze; rfl, by unfold World.freeze; simp, fun b hb ho => ⟨hot b (fun e => ho (e ▸ g2)), fun _ => rfl⟩, fun _ _ h => h, CLe.refl _, fun _ _ _ h => h⟩
          refine ⟨_, _, c.dropTok p.1, hrun, ⟨some ⟨g, 0, none⟩, n, cap, rfl, hsl, hnl, trivial⟩, ⟨hG, dropTok_repL _ _ (okInL_scrub _ _ (okInL_all _)) (repL_scrub _ _ _ h.fr), h.gl⟩, hext, by simp [scrubB_length]⟩
      · cases hr
    · cases hr
  · cases hr
theorem opM_ok {P : Program} {E : Env} (hE : EnvOK P E) {c : Ctx} {w : World} {s s' : St} {a : Act} (h : SR E c w s a) {o : Oper} {r : AV} (hr : sel (opM E s o) = some (r, s')) : Does P E c w s a o r s' := by
  have plain : ∀ l : List (Bool × AV), (∀ r, sel l = some r → ∃ v, (execOp a.eval o).run P w = .ok (.value v) w ∧ Rep c r v) → sel (l.map fun p => (p.1, p.2, s)) = some (r, s') → Does P E c w s a o r s' := by
    intro l hl hs
    obtain ⟨y, hy, he⟩ := sel_map (f := fun v => (v, s)) l hs
    simp only [Prod.mk.injEq] at he
    obtain ⟨rfl, hss⟩ := he
    obtain rfl : s = s' := hss.symm
    obtain ⟨v, hv, hrv⟩ := hl _ hy
    exact Does.of_value h hv hrv
  unfold opM at hr
  split at hr
  · rename_i t ho
    split at hr
    · rename_i i hi
      obtain ⟨z, hz, hzr, hzs, _⟩ := (hE t i hi).run_zero w
      obtain ⟨c', h1, h2, h3, h4⟩ := newBoxA_ok h (B := .cells t i.zero) (o := .cells z.cells t) (fun c' hc' => ⟨z.cells, heap_alloc_new w _, hc' _ (hzr c)⟩) hr
      refine ⟨_, _, c', .inl ?_, h1, h2, h3, h4⟩
      simp [execOp, ho, Instr.alloc, hz, newVar, newRow, World.alloc_eq]
    · cases hr
  · rename_i t x ho
    split at hr
    · rename_i l hl
      have hcl := cells?_ok (h.ev x) hl
      obtain ⟨c', h1, h2, h3, h4⟩ := newBoxA_ok h (B := .cells t l) (o := .cells (a.eval x).cells t) (fun c' hc' => ⟨_, heap_alloc_new w _, hc' _ hcl⟩) hr
      refine ⟨_, _, c', .inl ?_, h1, h2, h3, h4⟩
      simp [execOp, ho, Instr.box, newVar, newRow, World.alloc_eq]
    · cases hr
  · rename_i t len parts ho
    obtain ⟨v, w', c', h1, h2, h3, h4, h5⟩ := buildSliceA_ok hE h (vs := parts.map fun p => (p.1, a.eval p.2)) (by simpa using repP_evs h.fr parts.toList) hr
    refine ⟨v, w', c', .inl ?_, h2, h3, h4, h5⟩
    simp only [execOp, ho]
    exact value_run h1
  · rename_i t x y ho
    obtain ⟨w', h1, h2, h3, h4, h5⟩ := storeA_ok hE h (h.ev x) (h.ev y) hr
    refine ⟨undef, w', c, .inr ⟨?_, rfl⟩, h2, h3, h4, h5⟩
    simp [execOp, ho, h1]
  · rename_i src dst x ho
    split at hr
    · rename_i sz1 by1 z1 ty1 e sz2 by2 z2 ty2 b hs hd hb
      split at hr
      · rename_i sz3 by3 z3 ty3 he
        obtain ⟨hg, hrr⟩ := sel_one hr
        simp only [decide_eq_true_eq] at hg
        simp only [Prod.mk.injEq] at hrr
        obtain ⟨rfl, hss⟩ := hrr
        obtain rfl : s = s' := hss.symm
        obtain ⟨d1, u1, k1⟩ := (hE src _ hs).und
        obtain ⟨d2, u2, k2⟩ := (hE dst _ hd).und
        obtain ⟨d3, u3, k3⟩ := (hE e _ he).und
        obtain rfl := TK.is_str k1
        obtain rfl := TK.is_slice k2
        obtain rfl := TK.is_int k3
        have hx := h.ev x
        rw [hb] at hx
        simp only [Rep] at hx
        have hrun := run_bytes_of_string (P := P) w src dst e b u1 u2 u3
        have hge := grownCap_ge w b.size 0 e
        have hsz : b.data.toList.length = b.size := Array.length_toList
        obtain ⟨g1, g2⟩ := h.good.addCells (w' := w.drew.alloc (.cells (bytesRow b (grownCap w b.size 0 e)) e ((bytesRow b (grownCap w b.size 0 e)).size, (bytesRow b (grownCap w b.size 0 e)).size + 1))) (k := w.heap.size) (cells := b.data.toList.map fun b => Value.int .u8 b.toNat)
          (Nat.le_refl _) rfl rfl rfl (by show w.heap.size ≤ (w.heap.push _).size; rw [Array.size_push]; omega) (fun b' hb' => heap_alloc_lt (w := w.drew) hb') (heap_alloc_new w.drew _) (bytesRow_take b _)
        have hcle := (g2 0).cle
        refine ⟨_, _, _, .inl ?_, ⟨some ⟨w.heap.size, 0, none⟩, b.size, grownCap w b.size 0 e, rfl, ?_, rfl, trivial⟩, ⟨g1, addCells_repL hcle _ _ h.fr, h.gl.mono hcle⟩, g2 _, Nat.le_refl _⟩
        · simp only [execOp, ho, hx]
          exact value_run hrun
        · exact SlOK.ofRow2 (repL_bytes (c := c.addCells w.heap.size (b.data.toList.map fun b => Value.int .u8 b.toNat)) b.data.toList) (fun i hi => by
            simp only [Ctx.addCells, if_true, Nat.zero_add]
            exact List.getElem?_eq_getElem hi) (by
              have : (bytesOf b).length = b.size := by simp only [bytesOf, List.length_map]; exact hsz
              exact this.symm) hge (by omega)
      · cases hr
    · rename_i e sz1 by1 z1 ty1 sz2 by2 z2 ty2 xs nl own hs hd hb
      split at hr
      · rename_i sz3 by3 z3 ty3 he
        obtain ⟨hg, hrr⟩ := sel_one hr
        simp only [Prod.mk.injEq] at hrr
        obtain ⟨rfl, hss⟩ := hrr
        obtain rfl : s = s' := hss.symm
        obtain ⟨d1, u1, k1⟩ := (hE src _ hs).und
        obtain ⟨d2, u2, k2⟩ := (hE dst _ hd).und
        obtain ⟨d3, u3, k3⟩ := (hE e _ he).und
        obtain rfl := TK.is_slice k1
        obtain rfl := TK.is_str k2
        obtain rfl := TK.is_int k3
        have hx := h.ev x
        rw [hb] at hx
        simp only [Rep] at hx
        obtain ⟨A, n, cap, hv, hsl, _, _⟩ := hx
        refine Does.of_value h (v := .string (strOfNums xs)) ?_ rfl
        simp only [execOp, ho, hv]
        refine value_run ?_
        cases hA : A with
        | none =>
          subst hA
          have h1 := hsl.2.2.1 rfl
          have h2 := hsl.2.1
          have : xs = [] := List.eq_nil_of_length_eq_zero (by have := hsl.1; omega)
          subst this
          rw [run_convert_bytes_string w src dst e none n cap u1 u3 u2]
          rfl
        | some ad =>
          subst hA
          by_cases hn : n = 0
          · have hxs : xs = [] := List.eq_nil_of_length_eq_zero (by have := hsl.1; omega)
            subst hxs; subst hn
            rw [run_convert_bytes_string w src dst e (some ad) 0 cap u1 u3 u2]
            have := run_bytesToString (P := P) w ad 0 cap [] (by simp [loadCells, loadCellsFrom])
            rw [this]
            rfl
          · obtain ⟨_, _, _, b, o', hB, _⟩ := hsl.2.2.2.2 0 (by have := hsl.1; omega)
            injection hB with hB
            subst hB
            obtain ⟨vs, hrow, hc⟩ := hsl.row
            exact run_convert_bytes_arg (P := P) w src e u1 u3 b o' n cap xs hsl.1.symm (bytes_cells hsl.1 (RowOf.bytes (C := c.C) hrow) (fun i hi => h.good.stab _ _ _ (hc i hi))) dst u2
      · cases hr
    · rename_i e sz1 by1 z1 ty1 sz2 by2 z2 ty2 hs hd hb
      split at hr
      · rename_i sz3 by3 z3 ty3 he
        obtain ⟨hg, hrr⟩ := sel_one hr
        simp only [Prod.mk.injEq] at hrr
        obtain ⟨rfl, hss⟩ := hrr
        obtain rfl : s = s' := hss.symm
        obtain ⟨d1, u1, k1⟩ := (hE src _ hs).und
        obtain ⟨d2, u2, k2⟩ := (hE dst _ hd).und
        obtain ⟨d3, u3, k3⟩ := (hE e _ he).und
        obtain rfl := TK.is_slice k1
        obtain rfl := TK.is_str k2
        obtain rfl := TK.is_int k3
        have hx := h.ev x
        rw [hb] at hx
        simp only [Rep] at hx
        refine Does.of_value h (v := .string ByteArray.empty) ?_ rfl
        simp only [execOp, ho, hx]
        refine value_run ?_
        rw [run_convert_bytes_string w src dst e none 0 0 u1 u3 u2]
        rfl
      · cases hr
    · refine plain _ (fun r hr => ?_) hr
      obtain ⟨u, hu, hru⟩ := convA_ok hE (w := w) (h.ev x) hr
      exact ⟨u, by simp only [execOp, ho]; exact value_run hu, hru⟩
  · rename_i t x lo hi mx ho
    have hopt : ∀ y : Option Operand, match y.map (ev s), y.map a.eval with | none, none => True | some x, some v => Rep c x v | _, _ => False := fun y => by
      cases y with
      | none => trivial
      | some y => exact h.ev y
    obtain ⟨u, hu, hru, hss⟩ := sliceA_ok hE (w := w) (h.ev x) (hopt lo) (hopt hi) (vmx := mx.map a.eval) (fun e => by cases mx with | none => rfl | some y => cases e) hr
    obtain rfl : s = s' := hss.symm
    exact Does.of_value h (by simp only [execOp, ho]; exact value_run hu) hru
  · rename_i t x ho
    split at hr
    · rename_i sz by' ze ty b hi hb
      obtain ⟨d, h1, h2⟩ := (hE t _ hi).und
      obtain rfl := TK.is_str h2
      have hx := h.ev x
      rw [hb] at hx
      simp only [Rep] at hx
      obtain ⟨c', g1, g2, g3, g4⟩ := newBoxA_ok h (B := .iter b 0) (o := .stringIter b 0) (fun c' hc' => heap_alloc_new w _) hr
      refine ⟨_, _, c', .inl ?_, g1, g2, g3, g4⟩
      simp only [execOp, ho, hx]
      refine value_run ?_
      simp [Instr.range, run_underlying h1, World.alloc_eq]
    · cases hr
  · rename_i x ho
    obtain ⟨u, w', h1, h2, h3, h4, h5⟩ := nextA_ok (P := P) h (ty := o.type) (h.ev x) hr
    refine ⟨u, w', c, .inl ?_, h2, h3, h4, h5⟩
    simp only [execOp, ho]
    exact value_run h1
  · rename_i b args types ho
    split at hr
    · rename_i q hq
      split at hr
      · rename_i hb
        have hb := Nat.eq_of_beq_eq_true hb
        unfold appendOf at hq
        split at hq
        · rename_i t t' x y hts hxs
          cases hq
          simp only at hb hr
          subst hb
          obtain ⟨z, w', c', g1, g2, g3, g4, g5⟩ := appendA_ok hE h (ty := o.type) (h.ev x) (h.ev y) hr
          refine ⟨z, w', c', .inl ?_, g2, g3, g4, g5⟩
          have e1 : types = #[t, t] := by rw [← Array.toArray_toList (xs := types), hts]
          have e2 : args = #[x, y] := by rw [← Array.toArray_toList (xs := args), hxs]
          subst e1; subst e2
          have em : (#[x, y] : Array Operand).map a.eval = #[a.eval x, a.eval y] := by simp
          simp only [execOp, ho, resolve, Sem.run_bind, Sem.run_pure, Result.andThen_ok, invoke, builtin]
          rw [em, g1]
          rfl
        · cases hq
      · cases hr
    · refine plain _ (fun r hr => ?_) hr
      obtain ⟨v, hv, hrv⟩ := builtinV_ok hE (w := w) (b := b) (ts := types) (ty := o.type) (cs := args.map fun | .const _ => true | _ => false) (xs := args.toList.map (ev s)) (args := args.map a.eval) (by simpa using repL_evs h.fr args.toList) hr
      refine ⟨v, ?_, hrv⟩
      simp only [execOp, ho, resolve, Sem.run_bind, Sem.run_pure, Result.andThen_ok, invoke]
      exact hv
  · exact plain _ (fun r hr => opV_ok hE h hr) hr
end Go.Proofs.AbsV
