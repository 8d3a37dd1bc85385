/- What turns nothing: each operation on plain values is what the machine's operation comes to. No condition. -/
import Derived.Test.YtopbldbgnpeelaaDoorEv
set_option linter.unusedVariables false
set_option linter.unusedSimpArgs false
namespace Go.Proofs.AbsV
open Go

/-! ### Operands -/
theorem rep_ofVal1 {c : Ctx} : ∀ v : Value, Rep c (ofVal1 v) v := by
  intro v
  unfold ofVal1
  split
  all_goals try rfl
  all_goals try trivial
  · rename_i n cp
    split
    · rename_i h
      simp only [Bool.and_eq_true, Nat.beq_eq] at h
      obtain ⟨rfl, rfl⟩ := h
      rfl
    · trivial
theorem repL_ofVal1 {c : Ctx} : ∀ l : List Value, RepL c (l.map ofVal1) l
  | [] => rfl
  | v :: l => ⟨v, l, rfl, rep_ofVal1 v, repL_ofVal1 l⟩
theorem rep_ofVal {c : Ctx} : ∀ v : Value, Rep c (ofVal v) v := by
  intro v
  unfold ofVal
  split
  · exact ⟨_, rfl, repL_ofVal1 _⟩
  · exact ⟨_, rfl, rep_ofVal1 _⟩
  · split
    · rename_i cs h
      refine ⟨cs, rfl, ?_⟩
      simpa [RepL] using h
    · trivial
  · exact rep_ofVal1 _
theorem rep_undef (c : Ctx) : Rep c undefA undef := ⟨#[], rfl, rfl⟩
theorem rep_ev {c : Ctx} {s : St} {a : Act} (h : RepL c s.fr a.tmps.toList) (x : Operand) : Rep c (ev s x) (a.eval x) := by
  cases x with
  | tmp t =>
    have := h.getD t undef
    simpa [ev, Act.eval, List.getD_eq_getElem?_getD, Array.getD_eq_getD_getElem?] using this
  | const v => exact rep_ofVal v
  | global g => rfl
  | func f => exact ⟨#[], rfl, rfl⟩
theorem repL_evs {c : Ctx} {s : St} {a : Act} (h : RepL c s.fr a.tmps.toList) : ∀ l : List Operand, RepL c (l.map (ev s)) (l.map a.eval)
  | [] => rfl
  | x :: l => ⟨_, _, rfl, rep_ev h x, repL_evs h l⟩

theorem value_run {P : Program} {w w' : World} {x : Sem Value} {v : Value} (h : x.run P w = .ok v w') : (do pure (Next.value (← x)) : Sem Next).run P w = .ok (.value v) w' := by
  simp [h]

/-! ### Ways -/
theorem sel_one {β : Type} {g : Bool} {x r : β} (h : sel [(g, x)] = some r) : g = true ∧ r = x := by
  cases g
  · simp [sel] at h
  · simpa [sel, eq_comm] using h
theorem sel_nil {β : Type} {r : β} (h : sel ([] : List (Bool × β)) = some r) : False := by simp [sel] at h
theorem sel_cons {β : Type} {p : Bool × β} {l : List (Bool × β)} {r : β} (h : sel (p :: l) = some r) : (p.1 = true ∧ r = p.2) ∨ (p.1 = false ∧ sel l = some r) := by
  obtain ⟨g, x⟩ := p
  cases g
  · exact .inr ⟨rfl, by simpa [sel] using h⟩
  · exact .inl ⟨rfl, by simpa [sel, eq_comm] using h⟩
theorem sel_map {β γ : Type} {f : β → γ} : ∀ (l : List (Bool × β)) {r : γ}, sel (l.map fun p => (p.1, f p.2)) = some r → ∃ x, sel l = some x ∧ r = f x
  | [], r, h => by simp [sel] at h
  | (g, x) :: l, r, h => by
    cases g
    · obtain ⟨y, hy, e⟩ := sel_map l (r := r) (by simpa [sel] using h)
      exact ⟨y, by simpa [sel] using hy, e⟩
    · exact ⟨x, rfl, by simpa [sel, eq_comm] using h⟩
theorem sel_ways {β : Type} {i : Int} {mk : Nat → β} : ∀ (n j : Nat) {r : β}, sel (ways i mk n j) = some r → ∃ m, j ≤ m ∧ m < j + n ∧ i = (m : Int) ∧ r = mk m
  | 0, j, r, h => by simp [ways, sel] at h
  | n + 1, j, r, h => by
    rcases sel_cons h with ⟨h1, h2⟩ | ⟨_, h2⟩
    · exact ⟨j, Nat.le_refl _, by omega, by simpa using h1, h2⟩
    · obtain ⟨m, h3, h4, h5, h6⟩ := sel_ways n (j + 1) h2
      exact ⟨m, by omega, by omega, h5, h6⟩
theorem sel_append {β : Type} : ∀ (l l' : List (Bool × β)) {r : β}, sel (l ++ l') = some r → sel l = some r ∨ sel l' = some r
  | [], l', r, h => .inr h
  | (g, x) :: l, l', r, h => by
    cases g
    · rcases sel_append l l' (r := r) (by simpa [sel] using h) with h1 | h1
      · exact .inl (by simpa [sel] using h1)
      · exact .inr h1
    · exact .inl (by simpa [sel] using h)
theorem sel_guard {β : Type} {g : Bool} : ∀ (l : List (Bool × β)) {r : β}, sel (l.map fun p => (g && p.1, p.2)) = some r → g = true ∧ sel l = some r
  | [], r, h => by simp [sel] at h
  | (b, x) :: l, r, h => by
    cases g
    · have := sel_guard (g := false) l (r := r) (by simpa [sel] using h)
      exact absurd this.1 (by simp)
    · cases b
      · obtain ⟨_, h2⟩ := sel_guard (g := true) l (r := r) (by simpa [sel] using h)
        exact ⟨rfl, by simpa [sel] using h2⟩
      · exact ⟨rfl, by simpa [sel] using h⟩
theorem sel_waysL {β : Type} {i : Int} {mk : Nat → List (Bool × β)} : ∀ (n j : Nat) {r : β}, sel (waysL i mk n j) = some r → ∃ m, j ≤ m ∧ m < j + n ∧ i = (m : Int) ∧ sel (mk m) = some r
  | 0, j, r, h => by simp [waysL, sel] at h
  | n + 1, j, r, h => by
    rcases sel_append _ _ h with h1 | h1
    · obtain ⟨h2, h3⟩ := sel_guard _ h1
      exact ⟨j, Nat.le_refl _, by omega, by simpa using h2, h3⟩
    · obtain ⟨m, h3, h4, h5, h6⟩ := sel_waysL n (j + 1) h1
      exact ⟨m, by omega, by omega, h5, h6⟩

/-! ### Types -/
section types
variable {P : Program} {E : Env} {w : World}
theorem run_underlying {t : TypeId} {d : TypeDesc} (h : P.underlying t = some d) : (underlying t).run P w = .ok d w := by simp [underlying, h]
theorem run_typeInfo {t : TypeId} {i : TypeInfo} (h : P.info? t = some i) : (typeInfo t).run P w = .ok i w := by simp [typeInfo, h]
theorem TIok.run_size {t : TypeId} {i : TI} (h : TIok P t i) : (sizeOf t).run P w = .ok i.size w := by
  obtain ⟨inf, z, h1, h2, _⟩ := h.info
  simp [sizeOf, run_typeInfo h1, h2]
theorem TK.is_slice {d : TypeDesc} {e : TypeId} (h : (TK.slice e).is d = true) : d = .slice e := by
  cases d <;> simp [TK.is] at h
  subst h; rfl
theorem TK.is_int {d : TypeDesc} {k : IntKind} (h : (TK.int k).is d = true) : d = .int k := by
  cases d <;> simp [TK.is] at h
  subst h; rfl
theorem TK.is_str {d : TypeDesc} (h : TK.str.is d = true) : d = .string := by cases d <;> simp [TK.is] at h; rfl
theorem TK.is_bool {d : TypeDesc} (h : TK.bool.is d = true) : d = .bool := by cases d <;> simp [TK.is] at h; rfl
theorem TK.is_ptr {d : TypeDesc} {e : TypeId} (h : (TK.ptr e).is d = true) : d = .pointer e := by
  cases d <;> simp [TK.is] at h
  subst h; rfl
theorem TK.is_array {d : TypeDesc} {n : Nat} {e : TypeId} (h : (TK.array n e).is d = true) : d = .array n e := by
  cases d <;> simp [TK.is] at h
  obtain ⟨rfl, rfl⟩ := h; rfl
theorem TK.is_iface {d : TypeDesc} (h : TK.iface.is d = true) : ∃ ms, d = .interface ms := by cases d <;> simp [TK.is] at h; exact ⟨_, rfl⟩
theorem TK.is_func {d : TypeDesc} (h : TK.func.is d = true) : ∃ a b v, d = .func a b v := by cases d <;> simp [TK.is] at h; exact ⟨_, _, _, rfl⟩
theorem TK.is_struct {d : TypeDesc} {fs : List (Nat × TypeId)} (h : (TK.struct fs).is d = true) : ∃ fds, d = .struct fds ∧ fieldsAre fs fds.toList = true := by
  cases d <;> simp [TK.is] at h
  exact ⟨_, rfl, h⟩
theorem fieldsAre_get : ∀ {fs : List (Nat × TypeId)} {fds : List Field}, fieldsAre fs fds = true → ∀ (j : Nat) o t, fs[j]? = some (o, t) → ∃ f, fds[j]? = some f ∧ f.offset = o ∧ f.type = t
  | [], [], _, j, o, t, h => by simp at h
  | [], _ :: _, h, _, _, _, _ => by simp [fieldsAre] at h
  | _ :: _, [], h, _, _, _, _ => by simp [fieldsAre] at h
  | p :: r, f :: fds, h, j, o, t, hj => by
    simp only [fieldsAre, Bool.and_eq_true, Nat.beq_eq] at h
    cases j with
    | zero =>
      simp only [List.getElem?_cons_zero, Option.some.injEq] at hj
      subst hj
      exact ⟨f, rfl, h.1.symm, h.2.1.symm⟩
    | succ j => exact fieldsAre_get h.2.2 j o t (by simpa using hj)
theorem TIok.run_isAgg {t : TypeId} {i : TI} (h : TIok P t i) : (isAgg t).run P w = .ok i.k.agg w := by
  obtain ⟨d, h1, h2⟩ := h.und
  simp only [isAgg, Sem.run_bind, run_underlying h1, Result.andThen_ok]
  cases hk : i.k <;> rw [hk] at h2 <;> cases d <;> simp [TK.is] at h2 <;> simp [TK.agg]
end types

/-! ### Addresses and loads -/
theorem addr_add (b o n : Nat) : (⟨b, o, none⟩ : Addr).add n = ⟨b, o + n, none⟩ := by
  unfold Addr.add
  split
  · rename_i h; subst h; rfl
  · rfl
theorem repL_drop_cells {c : Ctx} {l : List AV} {vs : List Value} (h : RepL c l vs) (n : Nat) : RepL c (l.drop n) (vs.drop n) := h.drop n
/-- The cells from an address on, and that they are there. -/
theorem cellsAt_ok {E : Env} {c : Ctx} {w : World} {s : St} (hg : Good c w s.bx) {x : AV} {v : Value} (hx : Rep c x v) {l : List AV} (hl : cellsAt E s x = some l) :
    ∃ b o vs, v = .pointer (some ⟨b, o, none⟩) ∧ RepL c l vs ∧ ∀ j (hj : j < vs.length), w.cell? ⟨b, o + j, none⟩ = some vs[j] := by
  cases x <;> simp only [cellsAt] at hl <;> try (cases hl; done)
  · rename_i b off
    split at hl
    · rename_i T l0 hb
      cases hl
      simp only [Rep] at hx
      obtain ⟨k, hk, rfl⟩ := hx
      obtain ⟨k', h1, _, ⟨arr, h3, h4⟩, _⟩ := hg.box b _ hb
      rw [hk] at h1; cases h1
      refine ⟨k, off, arr.toList.drop off, rfl, h4.drop off, fun j hj => ?_⟩
      simp only [World.cell?, h3]
      simp only [List.length_drop, Array.length_toList] at hj
      simp [List.getElem_drop, Array.getElem?_eq_getElem (show off + j < arr.size by omega)]
    · cases hl
  · rename_i e xs i off
    cases hl
    simp only [Rep] at hx
    obtain ⟨ho, hi, vs, b, o, hd, hlen, rfl, hc⟩ := hx
    have hrd : rdD e xs i = xs[i] := by simp [rdD, List.getD_eq_getElem?_getD, List.getElem?_eq_getElem hi]
    refine ⟨b, o + off, vs.drop off, rfl, ?_, fun j hj => ?_⟩
    · rw [hrd]; exact (repL_flat c e _ _ hd).drop off
    · have := hg.stab _ _ _ (hc (off + j) (by simp at hj; omega))
      rw [Nat.add_assoc]
      simpa [List.getElem_drop] using this
  · rename_i sz l0 off
    cases hl
    simp only [Rep] at hx
    obtain ⟨ho, b, o, rfl, vs, hr, hc⟩ := hx
    refine ⟨b, o + off, vs.drop off, rfl, hr.drop off, fun j hj => ?_⟩
    have := hg.stab _ _ _ (hc (off + j) (by simp at hj; omega))
    rw [Nat.add_assoc]
    simpa [List.getElem_drop] using this
theorem run_loadCells_at {P : Program} {w : World} (b o : Nat) (vs : List Value) (n : Nat) (hn : n ≤ vs.length) (h : ∀ j (hj : j < vs.length), w.cell? ⟨b, o + j, none⟩ = some vs[j]) :
    (loadCells ⟨b, o, none⟩ n).run P w = .ok (vs.take n).toArray w := by
  have := run_loadCells_list (P := P) (w := w) ⟨b, o, none⟩ (vs.take n) (fun j v hj => by
    have hj' := (List.getElem?_eq_some_iff.1 hj)
    obtain ⟨h1, h2⟩ := hj'
    rw [addr_add]
    simp only [List.length_take] at h1
    rw [h j (by omega), ← h2, List.getElem_take])
  rw [List.length_take, Nat.min_eq_left hn] at this
  exact this
def GlOK (E : Env) (C : Stab) : Prop := ∀ g k tab, E.gl g = some (k, tab) → ∀ j, j < tab.length → C g j = some (.int k (tab.getD j 0))
theorem GlOK.mono {E : Env} {C C' : Stab} (h : GlOK E C) (hc : CLe C C') : GlOK E C' := fun g k tab hg j hj => hc.out _ _ _ (h g k tab hg j hj)

theorem loadA_ok {P : Program} {E : Env} (hE : EnvOK P E) {c : Ctx} {w : World} {s : St} (hgl : GlOK E c.C) (hg : Good c w s.bx) {t : TypeId} {x r : AV} {v : Value} (hx : Rep c x v) (h : sel (loadA E s t x) = some r) :
    ∃ u, (Instr.loadAt t v).run P w = .ok u w ∧ Rep c r u := by
  unfold loadA at h
  split at h
  · cases h
  · rename_i i hi
    have hti := hE t i hi
    split at h
    · rename_i g off
      split at h
      · rename_i k tab hgt
        split at h
        · cases h
        · rename_i ha
          obtain ⟨h1, rfl⟩ := sel_one h
          simp only [Rep] at hx
          subst hx
          have hc := hg.stab _ _ _ (hgl g k tab hgt off (by simpa using h1))
          refine ⟨_, ?_, rfl⟩
          have ha' : i.k.agg = false := by simpa using ha
          simp [Instr.loadAt, Instr.sureAddr, loadVar, hti.run_isAgg, ha', hc]
      · cases h
    · rename_i x _
      split at h
      · cases h
      · rename_i l hl
        obtain ⟨b, o, vs, rfl, hr, hc⟩ := cellsAt_ok hg hx hl
        split at h
        · rename_i ha
          split at h
          · rename_i hsz
            obtain ⟨_, rfl⟩ := sel_one h
            simp only [Bool.and_eq_true, Nat.ble_eq, Nat.blt_eq] at hsz
            refine ⟨.agg (vs.take i.size).toArray, ?_, _, rfl, by simpa using hr.take i.size⟩
            have := run_loadCells_at (P := P) b o vs i.size (by rw [hr.length]; exact hsz.1) hc
            simp [Instr.loadAt, Instr.sureAddr, loadVar, hti.run_isAgg, ha, hti.run_size, this]
          · cases h
        · rename_i ha
          have ha' : i.k.agg = false := by simpa using ha
          split at h
          · cases h
          · rename_i y l'
            obtain ⟨_, rfl⟩ := sel_one h
            simp only [RepL] at hr
            obtain ⟨u, r', rfl, hu, _⟩ := hr
            have := hc 0 (by simp)
            refine ⟨u, ?_, hu⟩
            simp only [Nat.add_zero, List.getElem_cons_zero] at this
            simp [Instr.loadAt, Instr.sureAddr, loadVar, hti.run_isAgg, ha', this]

theorem moveBy_ok {c : Ctx} {x y : AV} {v : Value} {n : Nat} (hx : Rep c x v) (h : moveBy x n = some y) : ∃ b o, v = .pointer (some ⟨b, o, none⟩) ∧ Rep c y (.pointer (some ⟨b, o + n, none⟩)) := by
  cases x <;> simp only [moveBy] at h <;> try (cases h; done)
  · cases h
    simp only [Rep] at hx
    obtain ⟨k, hk, rfl⟩ := hx
    exact ⟨k, _, rfl, k, hk, rfl⟩
  · rename_i e xs i off
    split at h
    · rename_i hlt
      cases h
      simp only [Rep] at hx
      obtain ⟨ho, hi, vs, b, o, hd, hlen, rfl, hc⟩ := hx
      simp only [Nat.blt_eq] at hlt
      exact ⟨b, o + off, rfl, hlt, hi, vs, b, o, hd, hlen, by rw [Nat.add_assoc], hc⟩
    · cases h
  · cases h
    simp only [Rep] at hx
    subst hx
    exact ⟨_, _, rfl, rfl⟩
  · split at h
    · rename_i hle
      cases h
      simp only [Rep] at hx
      obtain ⟨ho, b, o, rfl, vs, hr, hc⟩ := hx
      simp only [Nat.ble_eq] at hle
      exact ⟨b, _, rfl, hle, b, o, by rw [Nat.add_assoc], vs, hr, hc⟩
    · cases h
theorem fieldAddrA_ok {P : Program} {E : Env} (hE : EnvOK P E) {c : Ctx} {w : World} {t : TypeId} {f : Nat} {x r : AV} {v : Value} (hx : Rep c x v) (h : sel (fieldAddrA E t x f) = some r) :
    ∃ u, (Instr.fieldAt t v f).run P w = .ok u w ∧ Rep c r u := by
  unfold fieldAddrA at h
  split at h
  · rename_i fs sz by' ze ty hi
    have hti := hE t _ hi
    split at h
    · rename_i o ft hf
      split at h
      · rename_i i hft
        split at h
        · cases h
        · rename_i hz
          have hfi := hE ft i hft
          cases hm : moveBy x o with
          | none => rw [hm] at h; cases h
          | some y =>
            rw [hm] at h
            obtain ⟨_, rfl⟩ := sel_one h
            obtain ⟨b, off, rfl, hy⟩ := moveBy_ok hx hm
            obtain ⟨d, h1, h2⟩ := hti.und
            obtain ⟨fds, rfl, hfs⟩ := TK.is_struct h2
            obtain ⟨fd, hfd, rfl, rfl⟩ := fieldsAre_get hfs f o ft hf
            refine ⟨_, ?_, hy⟩
            have hfd' : fds[f]? = some fd := by simpa using hfd
            have hz' : i.size ≠ 0 := by simpa using hz
            simp [Instr.fieldAt, run_underlying h1, hfd', Instr.sureAddr, fieldPlace, hfi.run_size, hz', addr_add]
      · cases h
    · cases h
  · cases h
theorem SlOK.at_ {c : Ctx} {e : Ty} {xs : List e.den} {A : Option Addr} {n cap : Nat} (h : SlOK c.C (RepD c.C e) e.size xs A n cap) (hs : 0 < e.size) (i : Nat) (hi : i < xs.length) :
    ∃ b o, A = some ⟨b, o, none⟩ ∧ Rep c (.epin e xs i 0) (.pointer (some ⟨b, o + i * e.size, none⟩)) := by
  obtain ⟨_, _, _, _, h5⟩ := h
  obtain ⟨vs, hd, hl, b, o, hA, hc⟩ := h5 i hi
  exact ⟨b, o, hA, hs, hi, vs, b, o + i * e.size, hd, hl, by simp, hc⟩
theorem indexAddrA_ok {P : Program} {E : Env} (hE : EnvOK P E) {c : Ctx} {w : World} {t : TypeId} {x y r : AV} {v u : Value} (hx : Rep c x v) (hy : Rep c y u) (h : sel (indexAddrA E t x y) = some r) :
    ∃ z, (Instr.indexAt t v u).run P w = .ok z w ∧ Rep c r z := by
  unfold indexAddrA at h
  split at h
  · rename_i k i
    simp only [Rep] at hy
    subst hy
    split at h
    · rename_i e sz by' ze ty hi
      have hti := hE t _ hi
      obtain ⟨d, h1, h2⟩ := hti.und
      obtain rfl := TK.is_slice h2
      split at h
      · rename_i ei hei
        have hte := hE e ei hei
        split at h
        · rename_i τ xs nl own
          split at h
          · rename_i hsz
            simp only [Bool.and_eq_true, Nat.beq_eq, Nat.blt_eq] at hsz
            obtain ⟨hg, rfl⟩ := sel_one h
            simp only [Bool.and_eq_true, decide_eq_true_eq] at hg
            simp only [Rep] at hx
            obtain ⟨A, n, cap, rfl, hs, _, _⟩ := hx
            have hn := hs.1
            obtain ⟨b, o, rfl, hr⟩ := hs.at_ hsz.2 i.toNat (by omega)
            refine ⟨_, ?_, hr⟩
            have hlt : 0 ≤ i ∧ i < (n : Int) := ⟨hg.1, by omega⟩
            simp [Instr.indexAt, asIntOf, run_underlying h1, hte.run_size, hlt, addr_add, hsz.1]
          · cases h
        · rename_i sz' l
          split at h
          · rename_i hsz
            simp only [Bool.and_eq_true, Nat.beq_eq, Nat.blt_eq] at hsz
            obtain ⟨m, _, hm, rfl, rfl⟩ := sel_ways _ _ h
            simp only [Rep] at hx
            obtain ⟨b, o, n, cap, rfl, hn, _, vs, hr, hc⟩ := hx
            have hmn : m < n := by
              have : l.length / sz' = n := by rw [← hn]; exact Nat.mul_div_cancel _ hsz.2
              omega
            have hlt : (0 : Int) ≤ (m : Int) ∧ (m : Int) < (n : Int) := ⟨by omega, by omega⟩
            refine ⟨.pointer (some ⟨b, o + m * sz', none⟩), ?_, ?_⟩
            · simp [Instr.indexAt, asIntOf, run_underlying h1, hte.run_size, hlt, addr_add, hsz.1, hmn]
            · refine ⟨?_, b, o, rfl, vs, hr, hc⟩
              rw [← hn]; exact Nat.mul_le_mul_right _ (by omega)
          · cases h
        · cases h
      · cases h
    · rename_i n e sz by' ze ty hi
      have hti := hE t _ hi
      obtain ⟨d, h1, h2⟩ := hti.und
      obtain rfl := TK.is_array h2
      split at h
      · rename_i ei hei
        have hte := hE e ei hei
        split at h
        · rename_i b off
          obtain ⟨m, _, hm, rfl, rfl⟩ := sel_ways _ _ h
          simp only [Rep] at hx
          obtain ⟨k, hk, rfl⟩ := hx
          have hlt : (0 : Int) ≤ (m : Int) ∧ (m : Int) < (n : Int) := ⟨by omega, by omega⟩
          refine ⟨.pointer (some ⟨k, off + m * ei.size, none⟩), ?_, k, hk, rfl⟩
          have hmn : m < n := by omega
          simp [Instr.indexAt, asIntOf, run_underlying h1, hte.run_size, addr_add, Instr.sureAddr, hmn]
        · rename_i sz' l off
          split at h
          · rename_i hle
            simp only [Nat.ble_eq] at hle
            obtain ⟨m, _, hm, rfl, rfl⟩ := sel_ways _ _ h
            simp only [Rep] at hx
            obtain ⟨ho, b, o, rfl, vs, hr, hc⟩ := hx
            have hmn : m < n := by omega
            refine ⟨.pointer (some ⟨b, o + off + m * ei.size, none⟩), ?_, ?_, b, o, ?_, vs, hr, hc⟩
            · simp [Instr.indexAt, asIntOf, run_underlying h1, hte.run_size, addr_add, Instr.sureAddr, hmn]
            · have : m * ei.size ≤ n * ei.size := Nat.mul_le_mul_right _ (by omega)
              omega
            · rw [Nat.add_assoc]
          · cases h
        · rename_i g off
          obtain ⟨hg, rfl⟩ := sel_one h
          simp only [Bool.and_eq_true, decide_eq_true_eq] at hg
          simp only [Rep] at hx
          subst hx
          refine ⟨.pointer (some ⟨g, off + i.toNat * ei.size, none⟩), ?_, rfl⟩
          simp [Instr.indexAt, asIntOf, run_underlying h1, hte.run_size, addr_add, Instr.sureAddr, hg]
        · rename_i e' xs i0 off
          split at h
          · rename_i hle
            simp only [Bool.and_eq_true, Nat.ble_eq, Nat.blt_eq] at hle
            obtain ⟨m, _, hm, rfl, rfl⟩ := sel_ways _ _ h
            simp only [Rep] at hx
            obtain ⟨ho, hlt0, vs, b, o, hr, hvl, rfl, hc⟩ := hx
            have hmn : m < n := by omega
            refine ⟨.pointer (some ⟨b, o + off + m * ei.size, none⟩), ?_, ?_, hlt0, vs, b, o, hr, hvl, ?_, hc⟩
            · simp [Instr.indexAt, asIntOf, run_underlying h1, hte.run_size, addr_add, Instr.sureAddr, hmn]
            · have h3 : (m + 1) * ei.size ≤ n * ei.size := Nat.mul_le_mul_right _ (by omega)
              rw [Nat.succ_mul] at h3
              omega
            · rw [Nat.add_assoc]
          · cases h
        · cases h
      · cases h
    · cases h
  · cases h
end Go.Proofs.AbsV
