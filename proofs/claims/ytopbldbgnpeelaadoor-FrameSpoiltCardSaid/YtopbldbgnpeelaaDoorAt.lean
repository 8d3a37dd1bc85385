/- What turns nothing, the second part: parts, sums, comparisons, conversions, builtins. No condition. -/
import Derived.Test.YtopbldbgnpeelaaDoorAs
set_option linter.unusedVariables false
set_option linter.unusedSimpArgs false
namespace Go.Proofs.AbsV
open Go

theorem partA_ok {P : Program} {i : TI} {t : TypeId} (hti : TIok P t i) {c : Ctx} {w : World} {l : List AV} {cs : Array Value} {off : Nat} {r : AV} (hl : RepL c (l.drop off) (cs.toList.drop off)) (h : sel (partA i (l.drop off)) = some r) :
    ∃ u, (part t cs off).run P w = .ok u w ∧ Rep c r u := by
  unfold partA at h
  split at h
  · rename_i ha
    split at h
    · rename_i hsz
      obtain ⟨_, rfl⟩ := sel_one h
      simp only [Nat.ble_eq] at hsz
      refine ⟨.agg (cs.extract off (off + i.size)), by simp [part, hti.run_isAgg, ha, hti.run_size], _, rfl, ?_⟩
      have := hl.take i.size
      simpa [List.extract_eq_take_drop] using this
    · cases h
  · rename_i ha
    have ha' : i.k.agg = false := by simpa using ha
    split at h
    · cases h
    · rename_i x l' hx
      obtain ⟨_, rfl⟩ := sel_one h
      rw [hx] at hl
      simp only [RepL] at hl
      obtain ⟨u, r', he, hu, _⟩ := hl
      refine ⟨u, ?_, hu⟩
      have : cs[off]? = some u := by
        have h0 : (cs.toList.drop off)[0]? = some u := by rw [he]; rfl
        simpa using h0
      simp [part, hti.run_isAgg, ha', this]
theorem fieldA_ok {P : Program} {E : Env} (hE : EnvOK P E) {c : Ctx} {w : World} {t : TypeId} {f : Nat} {x r : AV} {v : Value} (hx : Rep c x v) (h : sel (fieldA E t x f) = some r) :
    ∃ u, (Instr.field t v f).run P w = .ok u w ∧ Rep c r u := by
  unfold fieldA at h
  split at h
  · rename_i fs sz by' ze ty l hi
    have hti := hE t _ hi
    split at h
    · rename_i o ft hf
      split at h
      · rename_i i hft
        simp only [Rep] at hx
        obtain ⟨cs, rfl, hl⟩ := hx
        obtain ⟨d, h1, h2⟩ := hti.und
        obtain ⟨fds, rfl, hfs⟩ := TK.is_struct h2
        obtain ⟨fd, hfd, rfl, rfl⟩ := fieldsAre_get hfs f o ft hf
        have hfd' : fds[f]? = some fd := by simpa using hfd
        obtain ⟨u, hu, hr⟩ := partA_ok (w := w) (hE _ i hft) (hl.drop fd.offset) h
        exact ⟨u, by simp [Instr.field, run_underlying h1, hfd', asAgg, hu], hr⟩
      · cases h
    · cases h
  · cases h
theorem btA_at {s : ByteArray} {i : Nat} (h : i < s.size) : btA s i = (s[i].toNat : Int) := by simp [btA, getElem?_pos s i h]
theorem indexA_ok {P : Program} {E : Env} (hE : EnvOK P E) {c : Ctx} {w : World} {t : TypeId} {x y r : AV} {v u : Value} (hx : Rep c x v) (hy : Rep c y u) (h : sel (indexA E t x y) = some r) :
    ∃ z, (Instr.index t v u).run P w = .ok z w ∧ Rep c r z := by
  unfold indexA at h
  split at h
  · rename_i k i
    simp only [Rep] at hy
    subst hy
    split at h
    · rename_i n e sz by' ze ty l hi
      have hti := hE t _ hi
      obtain ⟨d, h1, h2⟩ := hti.und
      obtain rfl := TK.is_array h2
      split at h
      · rename_i ei hei
        have hte := hE e ei hei
        obtain ⟨m, _, hm, rfl, hsel⟩ := sel_waysL _ _ h
        simp only [Rep] at hx
        obtain ⟨cs, rfl, hl⟩ := hx
        obtain ⟨z, hz, hr⟩ := partA_ok (w := w) hte (hl.drop (m * ei.size)) hsel
        have hmn : m < n := by omega
        exact ⟨z, by simp [Instr.index, asIntOf, run_underlying h1, hte.run_size, hmn, hz], hr⟩
      · cases h
    · rename_i sz by' ze ty s hi
      have hti := hE t _ hi
      obtain ⟨d, h1, h2⟩ := hti.und
      obtain rfl := TK.is_str h2
      obtain ⟨hg, rfl⟩ := sel_one h
      simp only [Bool.and_eq_true, decide_eq_true_eq] at hg
      simp only [Rep] at hx
      subst hx
      have hlt : i.toNat < s.size := by omega
      refine ⟨.int .u8 (btA s i.toNat), ?_, rfl⟩
      simp [Instr.index, asIntOf, run_underlying h1, hg.1, getElem?_pos s i.toNat hlt, btA_at hlt]
    · cases h
  · cases h

/-! ### A struct, an array, put together -/
theorem fold_put (off : Nat) : ∀ (vs : List Value) (k : Nat) (cells : Array Value), off + k + vs.length ≤ cells.size →
    ((vs.zipIdx k).foldl (fun cs p => cs.setIfInBounds (off + p.2) p.1) cells).toList = cells.toList.take (off + k) ++ vs ++ cells.toList.drop (off + k + vs.length)
  | [], k, cells, h => by simp
  | v :: vs, k, cells, h => by
    simp only [List.length_cons] at h
    simp only [List.zipIdx_cons, List.foldl_cons]
    rw [fold_put off vs (k + 1) _ (by simp; omega)]
    have hlt : off + k < cells.toList.length := by simp; omega
    have hlen : (cells.toList.set (off + k) v).length = cells.size := by simp
    have e1 : off + (k + 1) = off + k + 1 := by omega
    simp only [Array.toList_setIfInBounds, e1, List.length_cons]
    have h1 : (cells.toList.set (off + k) v).take (off + k + 1) = cells.toList.take (off + k) ++ [v] := by
      rw [List.take_set, List.take_succ_eq_append_getElem hlt, List.set_append_right _ _ (by simp; omega)]
      congr 1
      simp [Nat.min_eq_left (show off + k ≤ cells.size by omega)]
    have h2 : (cells.toList.set (off + k) v).drop (off + k + 1 + vs.length) = cells.toList.drop (off + k + (vs.length + 1)) := by
      rw [List.drop_set_of_lt (by omega)]
      congr 1
      omega
    rw [h1, h2]
    simp
theorem cells?_ok {c : Ctx} {x : AV} {v : Value} {l : List AV} (hx : Rep c x v) (h : x.cells? = some l) : RepL c l v.cells.toList := by
  cases x <;> simp only [AV.cells?] at h <;> try (cases h; done)
  case agg l0 =>
    cases h
    simp only [Rep] at hx
    obtain ⟨vs, rfl, hl⟩ := hx
    exact hl
  all_goals (cases h)
  case int => simp only [Rep] at hx; subst hx; exact ⟨_, _, rfl, rfl, rfl⟩
  case bool => simp only [Rep] at hx; subst hx; exact ⟨_, _, rfl, rfl, rfl⟩
  case str => simp only [Rep] at hx; subst hx; exact ⟨_, _, rfl, rfl, rfl⟩
  case nilsl => simp only [Rep] at hx; subst hx; exact ⟨_, _, rfl, rfl, rfl⟩
  case nilp => simp only [Rep] at hx; subst hx; exact ⟨_, _, rfl, rfl, rfl⟩
  case glob => simp only [Rep] at hx; subst hx; exact ⟨_, _, rfl, rfl, rfl⟩
  case nilfn => simp only [Rep] at hx; subst hx; exact ⟨_, _, rfl, rfl, rfl⟩
  case niliface => simp only [Rep] at hx; subst hx; exact ⟨_, _, rfl, rfl, rfl⟩
  case sl => have hx' := hx; simp only [Rep] at hx; obtain ⟨A, n, cap, rfl, _⟩ := hx; exact ⟨_, _, rfl, hx', rfl⟩
  case ptr => have hx' := hx; simp only [Rep] at hx; obtain ⟨k, _, rfl⟩ := hx; exact ⟨_, _, rfl, hx', rfl⟩
  case epin => have hx' := hx; simp only [Rep] at hx; obtain ⟨_, _, vs, b, o, _, _, rfl, _⟩ := hx; exact ⟨_, _, rfl, hx', rfl⟩
  case fn => have hx' := hx; simp only [Rep] at hx; obtain ⟨vs, rfl, _⟩ := hx; exact ⟨_, _, rfl, hx', rfl⟩
  case iface => have hx' := hx; simp only [Rep] at hx; obtain ⟨y, rfl, _⟩ := hx; exact ⟨_, _, rfl, hx', rfl⟩
  case tup => have hx' := hx; simp only [Rep] at hx; obtain ⟨vs, rfl, _⟩ := hx; exact ⟨_, _, rfl, hx', rfl⟩
  case asl => have hx' := hx; simp only [Rep] at hx; obtain ⟨b, o, n, cap, rfl, _⟩ := hx; exact ⟨_, _, rfl, hx', rfl⟩
  case apin => have hx' := hx; simp only [Rep] at hx; obtain ⟨_, b, o, rfl, _⟩ := hx; exact ⟨_, _, rfl, hx', rfl⟩
theorem repL_put {c : Ctx} {l vs : List AV} {us ws : List Value} {off : Nat} (hl : RepL c l us) (hv : RepL c vs ws) : RepL c (putCells l off vs) (us.take off ++ ws ++ us.drop (off + ws.length)) := by
  unfold putCells
  rw [show vs.length = ws.length from hv.length.symm]
  exact ((hl.take off).append hv).append (hl.drop _)
/-- Parts, beside their values. -/
def RepP (c : Ctx) : List (Nat × AV) → List (Nat × Value) → Prop
  | [], vs => vs = []
  | p :: l, vs => ∃ v r, vs = (p.1, v) :: r ∧ Rep c p.2 v ∧ RepP c l r
theorem fillA_ok {c : Ctx} {place place' : Nat → Option (Nat × Nat)} (hp : ∀ i q, place i = some q → place' i = some q) : ∀ (parts : List (Nat × AV)) (vs : List (Nat × Value)) (cells : List AV) (us : Array Value) (r : List AV),
    RepP c parts vs → RepL c cells us.toList → fillA place cells parts = some r → ∃ ws, Instr.fill place' us vs = some ws ∧ RepL c r ws.toList
  | [], vs, cells, us, r, h, hl, hf => by
    simp only [RepP] at h
    subst h
    simp only [fillA, Option.some.injEq] at hf
    subst hf
    exact ⟨us, rfl, hl⟩
  | p :: parts, vs, cells, us, r, h, hl, hf => by
    simp only [RepP] at h
    obtain ⟨v, vs', rfl, hv, hr⟩ := h
    simp only [fillA] at hf
    split at hf
    · cases hf
    · rename_i q hq
      split at hf
      · cases hf
      · rename_i ls hls
        split at hf
        · rename_i hsz
          simp only [Bool.and_eq_true, Nat.beq_eq, Nat.ble_eq] at hsz
          have hcl := cells?_ok hv hls
          have hlen := hcl.length
          have hlen2 := hl.length
          simp only [Array.length_toList] at hlen hlen2
          have hput := repL_put (off := q.1) hl hcl
          have hfold := fold_put q.1 v.cells.toList 0 us (by simp only [Array.length_toList, Nat.add_zero]; omega)
          simp only [Nat.add_zero] at hfold
          have hfold' : (v.cells.zipIdx.foldl (fun cs (x : Value × Nat) => cs.setIfInBounds (q.1 + x.2) x.1) us).toList = us.toList.take q.1 ++ v.cells.toList ++ us.toList.drop (q.1 + v.cells.toList.length) := by
            rw [← hfold, ← Array.foldl_toList]
            simp
          obtain ⟨ws, h1, h2⟩ := fillA_ok hp parts vs' _ (v.cells.zipIdx.foldl (fun cs (x : Value × Nat) => cs.setIfInBounds (q.1 + x.2) x.1) us) r hr (by rw [hfold']; exact hput) hf
          refine ⟨ws, ?_, h2⟩
          simp only [Instr.fill, hp _ _ hq]
          rw [if_neg (by simp; omega)]
          exact h1
        · cases hf
theorem repP_evs {c : Ctx} {s : St} {a : Act} (h : RepL c s.fr a.tmps.toList) : ∀ l : List (Nat × Operand), RepP c (l.map fun p => (p.1, ev s p.2)) (l.map fun p => (p.1, a.eval p.2))
  | [] => rfl
  | p :: l => ⟨_, _, rfl, rep_ev h p.2, repP_evs h l⟩
theorem placesOf_ok {P : Program} {E : Env} (hE : EnvOK P E) {w : World} : ∀ (fs : List (Nat × TypeId)) (fds : List Field) (pl : List (Nat × Nat)), fieldsAre fs fds = true → placesOf E fs = some pl →
    (fds.mapM (m := Sem) fun f => do pure (f.offset, ← sizeOf f.type)).run P w = .ok pl w
  | [], [], pl, _, h => by simp only [placesOf, Option.some.injEq] at h; subst h; simp
  | [], _ :: _, pl, h, _ => by simp [fieldsAre] at h
  | _ :: _, [], pl, h, _ => by simp [fieldsAre] at h
  | f :: fs, fd :: fds, pl, h, hp => by
    simp only [fieldsAre, Bool.and_eq_true, Nat.beq_eq] at h
    simp only [placesOf] at hp
    split at hp
    · rename_i i l hi hl
      cases hp
      have ih := placesOf_ok hE (w := w) fs fds l h.2.2 hl
      have hs := (hE _ i hi).run_size (w := w)
      rw [h.2.1] at hs
      simp only [List.mapM_cons, Sem.run_bind, hs, Result.andThen_ok, ih, Sem.run_pure, h.1]
    · cases hp
theorem TIok.run_zero {P : Program} {t : TypeId} {i : TI} (h : TIok P t i) (w : World) : ∃ z, (zeroValue t).run P w = .ok z w ∧ (∀ c, RepL c i.zero z.cells.toList) ∧ z.cells.size = i.size ∧ (i.k.agg = true → ∃ cs, z = .agg cs) ∧ (i.k.agg = false → z.oneCell' = true) := by
  obtain ⟨inf, z, h1, h2, h3, h4, h5, h6, h7, h8⟩ := h.info
  exact ⟨z, by simp [zeroValue, run_typeInfo h1, h4], fun c => repL_zero _ _ h5, h6, h7, h8⟩
theorem buildA_ok {P : Program} {E : Env} (hE : EnvOK P E) {c : Ctx} {w : World} {t : TypeId} {parts : List (Nat × AV)} {vs : Array (Nat × Value)} {r : AV} (hp : RepP c parts vs.toList) (h : sel (buildA E t parts) = some r) :
    ∃ u, (Instr.build t vs).run P w = .ok u w ∧ Rep c r u := by
  unfold buildA at h
  split at h
  · rename_i fs sz by' ze ty hi
    have hti := hE t _ hi
    split at h
    · rename_i pl hpl
      split at h
      · rename_i l hl
        obtain ⟨_, rfl⟩ := sel_one h
        obtain ⟨d, h1, h2⟩ := hti.und
        obtain ⟨fds, rfl, hfs⟩ := TK.is_struct h2
        obtain ⟨z, hz, hzr, _⟩ := hti.run_zero w
        obtain ⟨ws, hw1, hw2⟩ := fillA_ok (place' := fun i => pl.toArray[i]?) (fun i q hq => by simpa using hq) parts vs.toList _ z.cells l hp (hzr c) hl
        refine ⟨.agg ws, ?_, ws, rfl, hw2⟩
        have hm := placesOf_ok hE (w := w) fs fds.toList pl hfs hpl
        have hm' : (fds.mapM (m := Sem) fun f => do pure (f.offset, ← sizeOf f.type)).run P w = .ok pl.toArray w := by
          rw [← Array.toArray_toList (xs := fds), List.mapM_toArray]
          simp only [Sem.run_map, hm, Result.andThen_ok]
        simp only [Instr.build, Sem.run_bind, hz, Result.andThen_ok, run_underlying h1, hm']
        rw [hw1]
        rfl
      · cases h
    · cases h
  · rename_i n e sz by' ze ty hi
    have hti := hE t _ hi
    split at h
    · rename_i ei hei
      split at h
      · rename_i l hl
        obtain ⟨_, rfl⟩ := sel_one h
        obtain ⟨d, h1, h2⟩ := hti.und
        obtain rfl := TK.is_array h2
        obtain ⟨z, hz, hzr, _⟩ := hti.run_zero w
        obtain ⟨ws, hw1, hw2⟩ := fillA_ok (place' := fun i => some (i * ei.size, ei.size)) (fun i q hq => hq) parts vs.toList _ z.cells l hp (hzr c) hl
        refine ⟨.agg ws, ?_, ws, rfl, hw2⟩
        simp only [Instr.build, Sem.run_bind, hz, Result.andThen_ok, run_underlying h1, (hE e ei hei).run_size]
        rw [hw1]
        rfl
      · cases h
    · cases h
  · cases h

/-! ### Sums and comparisons -/
theorem intOp_ok {P : Program} {w : World} {c : Ctx} {op : BinOp} {k : IntKind} {x y : Int} {t : TypeId} {r : AV} (h : sel (intOp op k x y) = some r) :
    ∃ u, (binOp op t (.int k x) (.int k y)).run P w = .ok u w ∧ Rep c r u := by
  cases op <;> simp only [intOp] at h <;> first
    | (exact (sel_nil h).elim)
    | (obtain ⟨hg, rfl⟩ := sel_one h
       first
         | (refine ⟨_, ?_, rfl⟩; simp [binOp, Op.intArith]; done)
         | (refine ⟨_, ?_, rfl⟩; simp at hg; simp [binOp, Op.intDiv, hg]; done)
         | (refine ⟨_, ?_, rfl⟩; simp [binOp, Op.intBits, andI, orI, xorI, andNotI]; done)
         | (refine ⟨_, ?_, rfl⟩; simp [binOp, Op.intCmp]; done))
theorem shl_ok {P : Program} {w : World} {c : Ctx} {k yk : IntKind} {x y : Int} {t : TypeId} (h : 0 ≤ y) : (binOp .shl t (.int k x) (.int yk y)).run P w = .ok (.int k (shlI k x y)) w := by
  have : ¬ y < 0 := by omega
  simp [binOp, Op.shift, this, shlI]
theorem shr_ok {P : Program} {w : World} {c : Ctx} {k yk : IntKind} {x y : Int} {t : TypeId} (h : 0 ≤ y) : (binOp .shr t (.int k x) (.int yk y)).run P w = .ok (.int k (shrI k x y)) w := by
  have : ¬ y < 0 := by omega
  simp [binOp, Op.shift, this, shrI]
theorem strOp_ok {P : Program} {w : World} {c : Ctx} {op : BinOp} {x y : ByteArray} {t : TypeId} {r : AV} (h : sel (strOp op x y) = some r) :
    ∃ u, (binOp op t (.string x) (.string y)).run P w = .ok u w ∧ Rep c r u := by
  cases op <;> simp only [strOp] at h <;> first
    | (exact (sel_nil h).elim)
    | (obtain ⟨hg, rfl⟩ := sel_one h
       first
         | (refine ⟨_, ?_, rfl⟩; simp at hg
            have h1 : ¬ (((x.size + y.size : Nat) : Int) > IntKind.i64.max) := by
              have : IntKind.i64.max = 9223372036854775807 := by decide
              omega
            simp only [binOp, Op.stringOp, if_neg h1, Sem.run_pure]; done)
         | (refine ⟨_, ?_, rfl⟩; simp [binOp, Op.stringOp]; done))
theorem eqGuard_plain {P : Program} {w : World} {op : BinOp} {t : TypeId} {x y : Operand} {a b : Value} (h : ∀ l l', ¬ (a = .agg l ∧ b = .agg l')) (h' : ¬ (a = .nilIface ∧ b = .nilIface)) :
    (eqGuard op t x y a b).run P w = .ok () w := by
  unfold eqGuard
  cases op <;> (try rfl)
  all_goals (cases a <;> cases b <;> first | rfl | exact absurd ⟨rfl, rfl⟩ h' | exact absurd ⟨rfl, rfl⟩ (h _ _))
theorem depth_eq : Op.maxDepth = 9999 + 1 := rfl
theorem equal_eq (t : TypeId) (x y : Value) : Op.equal t x y = Op.equalIn (9999 + 1) t x y := by unfold Op.equal; rw [depth_eq]
theorem eqA_ok {P : Program} {w : World} {c : Ctx} {t : TypeId} {i : TI} (hti : TIok P t i) {x y : AV} {v u : Value} {b : Bool} (hx : Rep c x v) (hy : Rep c y u) (h : eqA i.k x y = some b) :
    (∀ d, (Op.equalIn (d + 1) t v u).run P w = .ok b w) ∧ (∀ op, binOp op t v u = match op with | .eql => (do pure (.bool (← Op.equal t v u))) | .neq => (do pure (.bool (!(← Op.equal t v u)))) | op => binOp op t v u) ∧ (∀ l l', ¬ (v = .agg l ∧ u = .agg l')) ∧ ¬ (v = .nilIface ∧ u = .nilIface) := by
  obtain ⟨d, h1, h2⟩ := hti.und
  unfold eqA at h
  split at h
  all_goals (try (cases h; done))
  · rename_i hk
    cases h
    rw [hk] at h2; obtain rfl := TK.is_bool h2
    simp only [Rep] at hx hy; subst hx; subst hy
    refine ⟨fun dp => ?_, (fun op => by cases op <;> rfl), (fun _ _ h => by cases h.1), (fun h => by cases h.1)⟩
    simp [Op.equalIn, run_underlying h1]
  · rename_i hk
    cases h
    rw [hk] at h2; obtain rfl := TK.is_ptr h2
    simp only [Rep] at hx hy; subst hx; subst hy
    refine ⟨fun dp => ?_, (fun op => by cases op <;> rfl), (fun _ _ h => by cases h.1), (fun h => by cases h.1)⟩
    simp [Op.equalIn, run_underlying h1]
  · rename_i hk
    cases h
    rw [hk] at h2; obtain rfl := TK.is_ptr h2
    simp only [Rep] at hx hy; subst hx; obtain ⟨k, _, rfl⟩ := hy
    refine ⟨fun dp => ?_, (fun op => by cases op <;> rfl), (fun _ _ h => by cases h.1), (fun h => by cases h.1)⟩
    simp [Op.equalIn, run_underlying h1]
  · rename_i hk
    cases h
    rw [hk] at h2; obtain rfl := TK.is_ptr h2
    simp only [Rep] at hx hy; subst hy; obtain ⟨k, _, rfl⟩ := hx
    refine ⟨fun dp => ?_, (fun op => by cases op <;> rfl), (fun _ _ h => by cases h.1), (fun h => by cases h.1)⟩
    simp [Op.equalIn, run_underlying h1]
  · rename_i hk
    cases h
    rw [hk] at h2; obtain rfl := TK.is_slice h2
    simp only [Rep] at hx hy; subst hy; obtain ⟨A, n, cap, rfl, _, hn, _⟩ := hx
    simp only [NlOK] at hn
    refine ⟨fun dp => ?_, (fun op => by cases op <;> rfl), (fun _ _ h => by cases h.1), (fun h => by cases h.1)⟩
    cases A with
    | none => simp at hn; subst hn; simp [Op.equalIn, run_underlying h1]
    | some a => simp at hn; subst hn; simp [Op.equalIn, run_underlying h1]
  · rename_i hk
    cases h
    rw [hk] at h2; obtain rfl := TK.is_slice h2
    simp only [Rep] at hx hy; subst hx; subst hy
    refine ⟨fun dp => ?_, (fun op => by cases op <;> rfl), (fun _ _ h => by cases h.1), (fun h => by cases h.1)⟩
    simp [Op.equalIn, run_underlying h1]
  · rename_i hk
    cases h
    rw [hk] at h2; obtain ⟨a1, b1, c1, rfl⟩ := TK.is_func h2
    simp only [Rep] at hx hy; subst hx; subst hy
    refine ⟨fun dp => ?_, (fun op => by cases op <;> rfl), (fun _ _ h => by cases h.1), (fun h => by cases h.1)⟩
    simp [Op.equalIn, run_underlying h1]
  · rename_i hk
    cases h
    rw [hk] at h2; obtain ⟨a1, b1, c1, rfl⟩ := TK.is_func h2
    simp only [Rep] at hx hy; subst hy; obtain ⟨vs, rfl, _⟩ := hx
    refine ⟨fun dp => ?_, (fun op => by cases op <;> rfl), (fun _ _ h => by cases h.1), (fun h => by cases h.1)⟩
    simp [Op.equalIn, run_underlying h1]
  · rename_i hk
    cases h
    rw [hk] at h2; obtain ⟨ms, rfl⟩ := TK.is_iface h2
    simp only [Rep] at hx hy; subst hx; obtain ⟨z, rfl, _⟩ := hy
    refine ⟨fun dp => ?_, (fun op => by cases op <;> rfl), (fun _ _ h => by cases h.1), (fun h => by cases h.2)⟩
    simp [Op.equalIn, run_underlying h1]
  · rename_i hk
    cases h
    rw [hk] at h2; obtain ⟨ms, rfl⟩ := TK.is_iface h2
    simp only [Rep] at hx hy; subst hy; obtain ⟨z, rfl, _⟩ := hx
    refine ⟨fun dp => ?_, (fun op => by cases op <;> rfl), (fun _ _ h => by cases h.1), (fun h => by cases h.1)⟩
    simp [Op.equalIn, run_underlying h1]
theorem eqA_agg {P : Program} {w : World} {c : Ctx} {t : TypeId} {i : TI} (hti : TIok P t i) (hag : i.k.agg = true) {τ : Ty} (hτ : i.ty = some τ) (hfl : flatB τ = true) {l m : List AV} {vs us : Array Value} (hl : RepL c l vs.toList) (hm : RepL c m us.toList) {d1 d2 : τ.den}
    (h1 : unfl τ l = some (d1, [])) (h2 : unfl τ m = some (d2, [])) {op : BinOp} {xo yo : Operand} :
    (Op.equalIn (9999 + 1) t (.agg vs) (.agg us)).run P w = .ok (eqD τ d1 d2) w ∧ (eqGuard op t xo yo (.agg vs) (.agg us)).run P w = .ok () w := by
  obtain ⟨v1, v2, e1, r1, q1⟩ := repD_unfl c τ l _ hl _ _ h1
  obtain ⟨u1, u2, e2, r2, q2⟩ := repD_unfl c τ m _ hm _ _ h2
  simp only [RepL] at q1 q2
  subst q1; subst q2
  rw [List.append_nil] at e1 e2
  have hq := hti.eqok τ hτ hag hfl
  unfold eqT at hq
  simp only [Bool.and_eq_true, Bool.not_eq_true'] at hq
  obtain ⟨d, hu, hk⟩ := hti.und
  have ha : aggT P t = true := by
    unfold aggT
    rw [hu]
    cases hkk : i.k <;> rw [hkk] at hag hk <;> cases d <;> first | rfl | (simp [TK.agg] at hag; done) | (simp [TK.is] at hk; done)
  have h := eqQ_t (P := P) (C := c.C) (w := w) 40 t τ hq.1 (9999 + 1) (by omega) d1 d2 v1 u1 r1 r2
  have ev : valOf P t v1 = .agg vs := by
    simp only [valOf, ha, cond_true]
    rw [← e1]
  have eu : valOf P t u1 = .agg us := by
    simp only [valOf, ha, cond_true]
    rw [← e2]
  rw [ev, eu] at h
  refine ⟨h, ?_⟩
  unfold eqGuard
  cases op <;> simp [run_program, hq.2]
theorem binA_ok {P : Program} {E : Env} (hE : EnvOK P E) {w : World} {c : Ctx} {op : BinOp} {t : TypeId} {xo yo : Operand} {x y r : AV} {v u : Value} (hx : Rep c x v) (hy : Rep c y u) (h : sel (binA E op t x y) = some r) :
    ∃ z, (do eqGuard op t xo yo v u; binOp op t v u : Sem Value).run P w = .ok z w ∧ Rep c r z := by
  unfold binA at h
  split at h
  · rename_i k a k' b
    simp only [Rep] at hx hy; subst hx; subst hy
    have hgd : (eqGuard op t xo yo (.int k a) (.int k' b)).run P w = .ok () w := eqGuard_plain (fun _ _ h => by cases h.1) (fun h => by cases h.1)
    split at h
    · obtain ⟨hg, rfl⟩ := sel_one h
      exact ⟨_, by simp only [Sem.run_bind, hgd, Result.andThen_ok]; exact shl_ok (c := c) (by simpa using hg), rfl⟩
    · obtain ⟨hg, rfl⟩ := sel_one h
      exact ⟨_, by simp only [Sem.run_bind, hgd, Result.andThen_ok]; exact shr_ok (c := c) (by simpa using hg), rfl⟩
    · split at h
      · rename_i hk
        subst hk
        obtain ⟨z, hz, hr⟩ := intOp_ok (P := P) (w := w) (c := c) (t := t) h
        exact ⟨z, by simp only [Sem.run_bind, hgd, Result.andThen_ok]; exact hz, hr⟩
      · cases h
  · rename_i a b
    simp only [Rep] at hx hy; subst hx; subst hy
    have hgd : (eqGuard op t xo yo (.string a) (.string b)).run P w = .ok () w := eqGuard_plain (fun _ _ h => by cases h.1) (fun h => by cases h.1)
    obtain ⟨z, hz, hr⟩ := strOp_ok (P := P) (w := w) (c := c) (t := t) h
    exact ⟨z, by simp only [Sem.run_bind, hgd, Result.andThen_ok]; exact hz, hr⟩
  · split at h
    · rename_i i hi
      split at h
      · rename_i b hb
        obtain ⟨h1, h2, h3, h4⟩ := eqA_ok (w := w) (hE t i hi) hx hy hb
        have hgd : (eqGuard op t xo yo v u).run P w = .ok () w := eqGuard_plain h3 h4
        cases op <;> simp only [eqOp] at h <;> first
          | exact (sel_nil h).elim
          | (obtain ⟨_, rfl⟩ := sel_one h
             refine ⟨_, ?_, rfl⟩
             rw [h2]
             simp only [Sem.run_bind, hgd, Result.andThen_ok, equal_eq, h1 9999, Sem.run_pure])
      · split at h
        · rename_i τ l m hτ _ _ _
          split at h
          · rename_i hag
            rw [Bool.and_eq_true] at hag
            split at h
            · rename_i d1 d2 hd1 hd2
              simp only [Rep] at hx hy
              obtain ⟨vs, rfl, hvs⟩ := hx
              obtain ⟨us, rfl, hus⟩ := hy
              obtain ⟨h1, h2⟩ := eqA_agg (w := w) (op := op) (xo := xo) (yo := yo) (hE t i hi) hag.1 hτ hag.2 hvs hus hd1 hd2
              cases op <;> simp only [eqOp] at h <;> first
                | exact (sel_nil h).elim
                | (obtain ⟨_, rfl⟩ := sel_one h
                   exact ⟨_, by simp only [Sem.run_bind, h2, Result.andThen_ok, binOp, equal_eq, h1, Sem.run_pure], rfl⟩)
            · cases h
          · cases h
        · cases h
    · cases h
theorem unA_ok {P : Program} {w : World} {c : Ctx} {op : UnOp} {x r : AV} {v : Value} (hx : Rep c x v) (h : sel (unA op x) = some r) : ∃ z, (Op.unary op v).run P w = .ok z w ∧ Rep c r z := by
  unfold unA at h
  split at h
  · obtain ⟨_, rfl⟩ := sel_one h
    simp only [Rep] at hx; subst hx
    exact ⟨_, by simp [Op.unary, Op.intArith], rfl⟩
  · obtain ⟨_, rfl⟩ := sel_one h
    simp only [Rep] at hx; subst hx
    exact ⟨_, by simp [Op.unary, Op.intBits, xorI], rfl⟩
  · obtain ⟨_, rfl⟩ := sel_one h
    simp only [Rep] at hx; subst hx
    exact ⟨_, by simp [Op.unary], rfl⟩
  · cases h
theorem convA_ok {P : Program} {E : Env} (hE : EnvOK P E) {w : World} {c : Ctx} {src dst : TypeId} {x r : AV} {v : Value} (hx : Rep c x v) (h : sel (convA E src dst x) = some r) : ∃ z, (convert src dst v).run P w = .ok z w ∧ Rep c r z := by
  unfold convA at h
  split at h
  · rename_i i k sz by' ze ty k' n hs hd
    obtain ⟨_, rfl⟩ := sel_one h
    simp only [Rep] at hx; subst hx
    obtain ⟨d, h1, h2⟩ := (hE _ _ hs).und
    obtain ⟨d', h1', h2'⟩ := (hE _ _ hd).und
    obtain rfl := TK.is_int h2'
    exact ⟨_, by simp [convert, run_underlying h1, run_underlying h1', Conv.intToInt], rfl⟩
  · rename_i i sz by' ze ty s hs hd
    obtain ⟨_, rfl⟩ := sel_one h
    simp only [Rep] at hx; subst hx
    obtain ⟨d, h1, h2⟩ := (hE _ _ hs).und
    obtain ⟨d', h1', h2'⟩ := (hE _ _ hd).und
    obtain rfl := TK.is_str h2'
    exact ⟨_, by simp [convert, run_underlying h1, run_underlying h1'], rfl⟩
  · cases h
theorem extractA_ok {P : Program} {w : World} {c : Ctx} {x r : AV} {v : Value} {i : Nat} (hx : Rep c x v) (h : sel (extractA x i) = some r) : ∃ z, (Instr.extract v i).run P w = .ok z w ∧ Rep c r z := by
  unfold extractA at h
  split at h
  · rename_i l
    split at h
    · rename_i y hy
      obtain ⟨_, rfl⟩ := sel_one h
      simp only [Rep] at hx
      obtain ⟨vs, rfl, hl⟩ := hx
      obtain ⟨hi, he⟩ := List.getElem?_eq_some_iff.1 hy
      have hi' : i < vs.toList.length := by rw [hl.length]; exact hi
      have := hl.get i hi hi'
      rw [he] at this
      have hv : vs[i]? = some vs.toList[i] := by simp at hi'; simp [Array.getElem?_eq_getElem hi']
      exact ⟨_, by simp only [Instr.extract, hv, Sem.run_pure], this⟩
    · cases h
  · cases h
theorem lenA_ok {c : Ctx} {x r : AV} {v : Value} (hx : Rep c x v) (h : sel (lenA x) = some r) :
    ∃ A n cap, v = .slice A n cap ∧ r = .int .i64 (n : Int) := by
  unfold lenA at h
  split at h
  · obtain ⟨_, rfl⟩ := sel_one h
    simp only [Rep] at hx
    obtain ⟨A, n, cap, rfl, hs, _⟩ := hx
    exact ⟨A, n, cap, rfl, by rw [hs.1]⟩
  · obtain ⟨_, rfl⟩ := sel_one h
    simp only [Rep] at hx; subst hx
    exact ⟨_, _, _, rfl, rfl⟩
  · rename_i sz l
    split at h
    · rename_i hsz
      obtain ⟨_, rfl⟩ := sel_one h
      simp only [Rep] at hx
      obtain ⟨b, o, n, cap, rfl, hn, _⟩ := hx
      simp only [Nat.blt_eq] at hsz
      refine ⟨_, _, _, rfl, ?_⟩
      rw [← hn, Nat.mul_div_cancel _ hsz]
    · cases h
  · cases h
theorem maxA_ok {P : Program} {w : World} {c : Ctx} : ∀ (l : List AV) (x r : AV) (v : Value) (vs : List Value), Rep c x v → RepL c l vs → sel (maxA x l) = some r → ∃ z, (vs.foldlM Builtin.max2 v).run P w = .ok z w ∧ Rep c r z
  | [], x, r, v, vs, hx, hl, h => by
    simp only [RepL] at hl; subst hl
    cases x <;> simp only [maxA] at h <;> first | exact (sel_nil h).elim | skip
    obtain ⟨_, rfl⟩ := sel_one h
    exact ⟨v, rfl, hx⟩
  | y :: l, x, r, v, vs, hx, hl, h => by
    simp only [RepL] at hl
    obtain ⟨u, vs', rfl, hu, hr⟩ := hl
    cases x <;> cases y <;> simp only [maxA] at h <;> first | exact (sel_nil h).elim | skip
    rename_i k a k' b
    split at h
    · rename_i hk
      simp only [Rep] at hx hu; subst hx; subst hu
      obtain ⟨z, hz, hrz⟩ := maxA_ok (P := P) (w := w) l (.int k (if b > a then b else a)) r (.int k (if b > a then b else a)) vs' (by simp only [Rep]) hr h
      exact ⟨z, by simp [List.foldlM_cons, Builtin.max2, hz], hrz⟩
    · exact (sel_nil h).elim
theorem minA_ok {P : Program} {w : World} {c : Ctx} : ∀ (l : List AV) (x r : AV) (v : Value) (vs : List Value), Rep c x v → RepL c l vs → sel (minA x l) = some r → ∃ z, (vs.foldlM Builtin.min2 v).run P w = .ok z w ∧ Rep c r z
  | [], x, r, v, vs, hx, hl, h => by
    simp only [RepL] at hl; subst hl
    cases x <;> simp only [minA] at h <;> first | exact (sel_nil h).elim | skip
    obtain ⟨_, rfl⟩ := sel_one h
    exact ⟨v, rfl, hx⟩
  | y :: l, x, r, v, vs, hx, hl, h => by
    simp only [RepL] at hl
    obtain ⟨u, vs', rfl, hu, hr⟩ := hl
    cases x <;> cases y <;> simp only [minA] at h <;> first | exact (sel_nil h).elim | skip
    rename_i k a k' b
    split at h
    · rename_i hk
      simp only [Rep] at hx hu; subst hx; subst hu
      obtain ⟨z, hz, hrz⟩ := minA_ok (P := P) (w := w) l (.int k (if b < a then b else a)) r (.int k (if b < a then b else a)) vs' (by simp only [Rep]) hr h
      exact ⟨z, by simp [List.foldlM_cons, Builtin.min2, hz], hrz⟩
    · exact (sel_nil h).elim
end Go.Proofs.AbsV
