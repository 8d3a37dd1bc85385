/- What makes and turns memory: each operation on plain values is what the machine's operation comes to. No condition. -/
import Derived.Test.YtopbldbgnpeelaaDoorAt
import Derived.Maps.AppendAt
import Derived.ArgAppend
set_option linter.unusedVariables false
set_option linter.unusedSimpArgs false
namespace Go.Proofs.AbsV
open Go

/-! ### Rows of data -/
def RowOf {α : Type} (R : α → List Value → Prop) (sz : Nat) : List α → List Value → Prop
  | [], vs => vs = []
  | x :: xs, vs => ∃ v r, vs = v ++ r ∧ R x v ∧ v.length = sz ∧ RowOf R sz xs r
theorem RowOf.length {α : Type} {R : α → List Value → Prop} {sz : Nat} : ∀ {xs : List α} {vs : List Value}, RowOf R sz xs vs → vs.length = xs.length * sz
  | [], vs, h => by simp only [RowOf] at h; subst h; simp
  | x :: xs, vs, h => by
    simp only [RowOf] at h
    obtain ⟨v, r, rfl, _, hl, hr⟩ := h
    simp [hl, RowOf.length hr, Nat.add_mul, Nat.add_comm]
theorem RowOf.append {α : Type} {R : α → List Value → Prop} {sz : Nat} : ∀ {xs ys : List α} {vs us : List Value}, RowOf R sz xs vs → RowOf R sz ys us → RowOf R sz (xs ++ ys) (vs ++ us)
  | [], ys, vs, us, h, h' => by simp only [RowOf] at h; subst h; exact h'
  | x :: xs, ys, vs, us, h, h' => by
    simp only [RowOf] at h
    obtain ⟨v, r, rfl, hx, hl, hr⟩ := h
    exact ⟨v, r ++ us, by simp, hx, hl, RowOf.append hr h'⟩
theorem RowOf.get {α : Type} {R : α → List Value → Prop} {sz : Nat} : ∀ {xs : List α} {vs : List Value}, RowOf R sz xs vs → ∀ i (h : i < xs.length), ∃ v, R xs[i] v ∧ v.length = sz ∧ ∀ j, j < sz → vs[i * sz + j]? = v[j]?
  | [], vs, _, i, h => by simp at h
  | x :: xs, vs, h, i, hi => by
    simp only [RowOf] at h
    obtain ⟨v, r, rfl, hx, hl, hr⟩ := h
    cases i with
    | zero => exact ⟨v, hx, hl, fun j hj => by rw [Nat.zero_mul, Nat.zero_add, List.getElem?_append_left (by omega)]⟩
    | succ i =>
      obtain ⟨u, h1, h2, h3⟩ := RowOf.get hr i (by simpa using hi)
      refine ⟨u, h1, h2, fun j hj => ?_⟩
      rw [← h3 j hj, Nat.add_mul, Nat.one_mul, List.getElem?_append_right (by omega)]
      congr 1
      omega
theorem RowOf.mono {α : Type} {R R' : α → List Value → Prop} (hR : ∀ x v, R x v → R' x v) {sz : Nat} : ∀ {xs : List α} {vs : List Value}, RowOf R sz xs vs → RowOf R' sz xs vs
  | [], vs, h => h
  | x :: xs, vs, h => by
    simp only [RowOf] at h ⊢
    obtain ⟨v, r, rfl, hx, hl, hr⟩ := h
    exact ⟨v, r, rfl, hR _ _ hx, hl, RowOf.mono hR hr⟩
theorem SlOK.tail {α : Type} {C : Stab} {R : α → List Value → Prop} {sz : Nat} {x : α} {xs : List α} {b o n cap : Nat} (h : SlOK C R sz (x :: xs) (some ⟨b, o, none⟩) n cap) :
    SlOK C R sz xs (some ⟨b, o + sz, none⟩) (n - 1) (cap - 1) := by
  obtain ⟨h1, h2, h3, h4, h5⟩ := h
  simp only [List.length_cons] at h1
  refine ⟨by omega, by omega, fun h => by (cases h), by omega, fun i hi => ?_⟩
  obtain ⟨vs, hr, hl, b', o', hA, hc⟩ := h5 (i + 1) (by simp; omega)
  injection hA with hA
  injection hA with hb ho
  subst hb; subst ho
  refine ⟨vs, hr, hl, b, o + sz, rfl, fun j hj => ?_⟩
  rw [← hc j hj]
  congr 1
  rw [Nat.add_mul]; omega
theorem SlOK.row {α : Type} {C : Stab} {R : α → List Value → Prop} {sz : Nat} : ∀ {xs : List α} {b o n cap : Nat}, SlOK C R sz xs (some ⟨b, o, none⟩) n cap →
    ∃ vs, RowOf R sz xs vs ∧ ∀ j (hj : j < vs.length), C b (o + j) = some vs[j]
  | [], b, o, n, cap, _ => ⟨[], rfl, fun j hj => by simp at hj⟩
  | x :: xs, b, o, n, cap, h => by
    obtain ⟨vs, hr, hc⟩ := SlOK.row h.tail
    obtain ⟨_, _, _, _, h5⟩ := h
    obtain ⟨v, hx, hl, b', o', hA, hcv⟩ := h5 0 (by simp)
    injection hA with hA
    injection hA with hb ho
    subst hb; subst ho
    refine ⟨v ++ vs, ⟨v, vs, rfl, hx, hl, hr⟩, fun j hj => ?_⟩
    by_cases hjv : j < v.length
    · rw [List.getElem_append_left hjv, ← hcv j hjv]; simp
    · rw [List.getElem_append_right (by omega)]
      simp only [List.length_append] at hj
      rw [← hc (j - v.length) (by omega)]
      congr 1
      omega
theorem SlOK.ofRow {α : Type} {C : Stab} {R : α → List Value → Prop} {sz : Nat} {xs : List α} {vs : List Value} {b o cap : Nat} (hr : RowOf R sz xs vs) (hc : ∀ j (hj : j < vs.length), C b (o + j) = some vs[j])
    (hcap : xs.length ≤ cap) (hm : xs.length ≤ 9223372036854775807) : SlOK C R sz xs (some ⟨b, o, none⟩) xs.length cap := by
  refine ⟨rfl, hcap, fun h => by (cases h), hm, fun i hi => ?_⟩
  obtain ⟨v, h1, h2, h3⟩ := hr.get i hi
  refine ⟨v, h1, h2, b, o, rfl, fun j hj => ?_⟩
  have := h3 j (by omega)
  rw [List.getElem?_eq_getElem hj] at this
  obtain ⟨hlt, he⟩ := List.getElem?_eq_some_iff.1 this
  rw [← he, ← hc _ hlt]
  congr 1
  omega
theorem repD_one {C : Stab} : ∀ (t : Ty) (d : t.den) (vs : List Value), RepD C t d vs → ∀ u ∈ vs, u.oneCell' = true
  | .int _, _, _, h, u, hu => by simp only [RepD] at h; subst h; simp at hu; subst hu; rfl
  | .bool, _, _, h, u, hu => by simp only [RepD] at h; subst h; simp at hu; subst hu; rfl
  | .str, _, _, h, u, hu => by simp only [RepD] at h; subst h; simp at hu; subst hu; rfl
  | .unit, _, _, h, u, hu => by simp only [RepD] at h; subst h; simp at hu
  | .pair a b, d, vs, h, u, hu => by
    simp only [RepD] at h
    obtain ⟨v1, v2, rfl, h1, h2⟩ := h
    rcases List.mem_append.1 hu with hu | hu
    · exact repD_one a _ _ h1 u hu
    · exact repD_one b _ _ h2 u hu
  | .sl e, xs, vs, h, u, hu => by
    simp only [RepD] at h
    obtain ⟨A, n, cap, rfl, _⟩ := h
    simp at hu; subst hu; rfl
theorem RowOf.one {C : Stab} {e : Ty} : ∀ {xs : List e.den} {vs : List Value}, RowOf (RepD C e) e.size xs vs → ∀ u ∈ vs, u.oneCell' = true
  | [], vs, h, u, hu => by simp only [RowOf] at h; subst h; simp at hu
  | x :: xs, vs, h, u, hu => by
    simp only [RowOf] at h
    obtain ⟨v, r, rfl, hx, hl, hr⟩ := h
    rcases List.mem_append.1 hu with hu | hu
    · exact repD_one e _ _ hx u hu
    · exact RowOf.one hr u hu

/-! ### What is in boxes -/
mutual
theorem okIn_imp {p q p' q' : Nat → Prop} (hp : ∀ i, p i → p' i) (hq : ∀ i, q i → q' i) : ∀ (x : AV), okIn p q x → okIn p' q' x
  | .any, _ => trivial
  | .int _ _, _ => trivial
  | .bool _, _ => trivial
  | .str _, _ => trivial
  | .nilsl, _ => trivial
  | .sl e xs nl own, h => by
    cases own with
    | none => trivial
    | some i => exact hq _ h
  | .agg l, h => okInL_imp hp hq l h
  | .ptr b off, h => hp _ h
  | .nilp, _ => trivial
  | .epin e xs i off, _ => trivial
  | .glob _ _, _ => trivial
  | .fn f l, h => okInL_imp hp hq l h
  | .nilfn, _ => trivial
  | .iface t x, h => okIn_imp hp hq x h
  | .niliface, _ => trivial
  | .tup l, h => okInL_imp hp hq l h
  | .asl sz l, h => okInL_imp hp hq l h
  | .apin sz l off, h => okInL_imp hp hq l h
theorem okInL_imp {p q p' q' : Nat → Prop} (hp : ∀ i, p i → p' i) (hq : ∀ i, q i → q' i) : ∀ (l : List AV), okInL p q l → okInL p' q' l
  | [], _ => trivial
  | x :: l, h => ⟨okIn_imp hp hq x h.1, okInL_imp hp hq l h.2⟩
end
theorem boxesIn_ptrs {nb : Nat} : ∀ {bx : List Box2}, ptrsBB nb bx = true → boxesIn (fun b => b < nb) (fun _ => True) bx
  | [], _, B, hB => by simp at hB
  | B :: r, h, B', hB' => by
    simp only [ptrsBB, Bool.and_eq_true] at h
    rcases List.mem_cons.1 hB' with rfl | hB'
    · exact okInL_ptrs _ h.1
    · exact boxesIn_ptrs h.2 B' hB'
theorem boxesIn_max {m : Nat} : ∀ {bx : List Box2}, maxTokB bx ≤ m → boxesIn (fun _ => True) (fun j => j < m) bx
  | [], _, B, hB => by simp at hB
  | B :: r, h, B', hB' => by
    simp only [maxTokB] at h
    rcases List.mem_cons.1 hB' with rfl | hB'
    · exact okInL_max _ (okInL_all _) (Nat.le_trans (Nat.le_max_left _ _) h)
    · exact boxesIn_max (Nat.le_trans (Nat.le_max_right _ _) h) B' hB'
def scrub1 (j : Nat) : Box2 → Box2
  | .cells T l => .cells T (scrubL j l)
  | .iter s p => .iter s p
theorem scrubB_map (j : Nat) : ∀ bx, scrubB j bx = bx.map (scrub1 j)
  | [] => rfl
  | B :: r => by cases B <;> simp [scrubB, scrub1, scrubB_map j r]
theorem scrub1_vals (j : Nat) (B : Box2) : (scrub1 j B).vals = scrubL j B.vals := by cases B <;> rfl
theorem boxesIn_scrub (j : Nat) (bx : List Box2) : boxesIn (fun _ => True) (fun i => i ≠ j) (scrubB j bx) := by
  intro B hB
  rw [scrubB_map] at hB
  obtain ⟨B0, _, rfl⟩ := List.mem_map.1 hB
  rw [scrub1_vals]
  exact okInL_scrub j _ (okInL_all _)
theorem Good.mapBoxes {c : Ctx} {w : World} {bx : List Box2} (h : Good c w bx) (f : Box2 → Box2) (hf : ∀ k B, BoxOK c w k B → BoxOK c w k (f B)) : Good c w (bx.map f) := by
  refine ⟨h.stab, fun i B hi => ?_, fun i j k hi hj => h.inj i j k (by simpa using hi) (by simpa using hj), h.tok, fun j T s a n cap i ht hc hi => h.tbox j T s a n cap i ht hc (by simpa using hi), h.tinj⟩
  rw [List.getElem?_map] at hi
  cases hb : bx[i]? with
  | none => rw [hb] at hi; cases hi
  | some B0 =>
    rw [hb] at hi
    cases hi
    obtain ⟨k, h1, h2, h3, h4⟩ := h.box i B0 hb
    exact ⟨k, h1, h2, hf k B0 h3, h4⟩
theorem Good.scrub {c : Ctx} {w : World} {bx : List Box2} (h : Good c w bx) (j : Nat) : Good c w (scrubB j bx) := by
  rw [scrubB_map]
  refine h.mapBoxes _ fun k B hB => ?_
  cases B with
  | cells T l => obtain ⟨arr, h1, h2⟩ := hB; exact ⟨arr, h1, repL_scrub j _ _ h2⟩
  | iter s p => exact hB
theorem scrubB_length (j : Nat) (bx : List Box2) : (scrubB j bx).length = bx.length := by rw [scrubB_map]; simp

/-! ### The state of a run -/
structure SR (E : Env) (c : Ctx) (w : World) (s : St) (a : Act) : Prop where
  good : Good c w s.bx
  fr : RepL c s.fr a.tmps.toList
  gl : GlOK E c.C
theorem SR.ev {E : Env} {c : Ctx} {w : World} {s : St} {a : Act} (h : SR E c w s a) (x : Operand) : Rep c (ev s x) (a.eval x) := rep_ev h.fr x

/-- A claim's value: append does nothing, or a row is claimed. -/
theorem append_nothing {P : Program} {w : World} {t ty e : TypeId} {ei : TI} (ht : P.underlying t = some (.slice e)) (he : TIok P e ei) {A : Option Addr} {n cap : Nat} {B : Option Addr} {c0 : Nat} (hn : n ≤ cap) :
    (Builtin.append_ #[t, t] ty #[.slice A n cap, .slice B 0 c0]).run P w = .ok (.slice A n cap) w := by
  have hf : (Builtin.firstCells ei.size 0 (.slice B 0 c0)).run P w = .ok #[] w := by
    cases B with
    | none => simp [Builtin.firstCells]
    | some a => simp [Builtin.firstCells, loadCells, loadCellsFrom]
  cases A with
  | none => simp [Builtin.append_, run_underlying ht, he.run_size, Builtin.lenOf, hn, hf]
  | some a => simp [Builtin.append_, run_underlying ht, he.run_size, Builtin.lenOf, hn, hf, storeCells]

theorem ownsRow_form {w : World} {base : Nat} {e : TypeId} {size : Nat} {v : Value} {n : Nat} {xs : List Value} (h : w.ownsRow base e size v n xs) (hn : 0 < n) :
    ∃ g cap cur, v = .slice (some ⟨g, 0, none⟩) n cap ∧ base ≤ g ∧ w.heap[g]? = some (.cells cur e (0, 0)) ∧ n ≤ cap ∧ cap ≤ maxLen ∧ cur.size = cap * size ∧ cur.toList.take (n * size) = xs ∧ xs.length = n * size := by
  obtain ⟨hl, h⟩ := h
  rcases h with ⟨_, h⟩ | ⟨g, cap, cur, h1, h2, h3, h4, h5, h6, h7⟩
  · omega
  · exact ⟨g, cap, cur, h1, h2, h3, h4, h5, h6, h7, hl⟩

/-- Data behind a claimed row, or behind nothing. -/
theorem append_claim {P : Program} {c : Ctx} {w : World} {bx : List Box2} (hg : Good c w bx) {t ty e : TypeId} {ei : TI} (ht : P.underlying t = some (.slice e)) (he : TIok P e ei) {τ : Ty} (hτ : ei.size = τ.size) (hsz : 0 < τ.size) (hby : 0 < ei.bytes)
    {xs ys : List τ.den} {j : Nat} {A : Option Addr} {n cap : Nat} (hx : SlOK c.C (RepD c.C τ) τ.size xs A n cap) (hclaim : c.tk j = some (e, τ.size, .slice A n cap) ∨ (A = none ∧ xs = [] ∧ n = 0 ∧ cap = 0))
    {B : Option Addr} {m c0 : Nat} (hy : SlOK c.C (RepD c.C τ) τ.size ys B m c0) (hroom : (xs.length + ys.length) * ei.bytes ≤ 140737488355328)
    (hq : boxesIn (fun _ => True) (fun i => i ≠ j) bx) :
    ∃ v' w' c', (Builtin.append_ #[t, t] ty #[.slice A n cap, .slice B m c0]).run P w = .ok v' w' ∧ Good c' w' bx ∧ Ext bx.length c w c' w' ∧ (∀ i, i ≠ j → c'.tk i = c.tk i) ∧ c'.mu = c.mu ∧
      Rep c' (.sl τ (xs ++ ys) none (some (j, e))) v' := by
  have hn := hx.1
  have hm := hy.1
  have hle : xs.length + ys.length ≤ 140737488355328 := Nat.le_trans (Nat.le_mul_of_pos_right _ hby) hroom
  by_cases hm0 : m = 0
  · subst hm0
    obtain rfl : ys = [] := List.eq_nil_of_length_eq_zero hm.symm
    have hr := append_nothing (w := w) (ty := ty) (A := A) (B := B) (c0 := c0) ht he hx.2.1
    rcases hclaim with hcl | ⟨rfl, rfl, rfl, rfl⟩
    · exact ⟨_, w, c, hr, hg, Ext.refl _ _ _, fun _ _ => rfl, rfl, A, n, cap, rfl, by rw [List.append_nil]; exact hx, trivial, hcl⟩
    · obtain ⟨g1, g2⟩ := hg.addTok (j := j) (T := e) (sz := τ.size) (v := .slice none 0 0) (.inl rfl) hq
      exact ⟨_, w, _, hr, g1, g2 _, (fun i hi => by simp only [Ctx.addTok]; rw [if_neg hi]), rfl, none, 0, 0, rfl, by simp only [List.append_nil]; exact hx, trivial, by simp [OwnOK, Ctx.addTok]⟩
  · -- something comes behind
    obtain ⟨inf, z, hi1, hi2, hi3, hi4, hi5, hi6, _⟩ := he.info
    obtain ⟨bB, oB, rfl⟩ : ∃ b o, B = some ⟨b, o, none⟩ := by
      obtain ⟨_, _, _, b, o, hB, _⟩ := hy.2.2.2.2 0 (by omega)
      exact ⟨b, o, hB⟩
    obtain ⟨news, hrow, hcells⟩ := hy.row
    have hlnews : news.length = m * τ.size := by rw [hrow.length, hm]
    have hnewc : ∀ i u, news[i]? = some u → w.cell? ((⟨bB, oB, none⟩ : Addr).add i) = some u := fun i u hu => by
      obtain ⟨hi, rfl⟩ := List.getElem?_eq_some_iff.1 hu
      rw [addr_add]
      exact hg.stab _ _ _ (hcells i hi)
    have hone := hrow.one
    have h63 : n + m ≤ maxLen := by simp only [maxLen]; omega
    have hbytes : (n + m) * ei.bytes ≤ 140737488355328 := by rw [hn, hm]; exact hroom
    -- whatever the way: the row, and what stood there
    suffices H : ∃ v' w' k cap' cur olds, (Builtin.append_ #[t, t] ty #[.slice A n cap, .slice (some ⟨bB, oB, none⟩) m c0]).run P w = .ok v' w' ∧ v' = .slice (some ⟨k, 0, none⟩) (n + m) cap' ∧
        (w.heap.size ≤ k ∨ (∃ T' s' a n' cap2, c.tk j = some (T', s', .slice (some a) n' cap2) ∧ 0 < cap2 ∧ a.block = k)) ∧ w'.os = w.os ∧ w'.tape = w.tape ∧ w'.output = w.output ∧ w.heap.size ≤ w'.heap.size ∧
        (∀ b, b < w.heap.size → b ≠ k → w'.heap[b]? = w.heap[b]?) ∧ w'.heap[k]? = some (.cells cur e (0, 0)) ∧ n + m ≤ cap' ∧ cap' ≤ maxLen ∧ cur.size = cap' * τ.size ∧ cur.toList.take ((n + m) * τ.size) = olds ++ news ∧
        RowOf (RepD c.C τ) τ.size xs olds ∧ (∀ o u, c.C k o = some u → (olds ++ news)[o]? = some u) by
      obtain ⟨v', w', k, cap', cur, olds, hr, rfl, hnew, hos, htape, hout, hsize, hother, hrowk, hcap, hcm, hcs, hpre, holds, hold⟩ := H
      have hlall : (olds ++ news).length = (n + m) * τ.size := by rw [List.length_append, holds.length, hlnews, ← hn, Nat.add_mul]
      obtain ⟨g1, g2⟩ := hg.addRow (n := n + m) (cap := cap') hnew hos htape hout hsize hother hrowk hcap (by omega) hcm hcs hsz hlall hpre hold hq
      refine ⟨_, w', _, hr, g1, g2, (fun i hi => by simp only [Ctx.addRow]; rw [if_neg hi]), rfl, some ⟨k, 0, none⟩, n + m, cap', rfl, ?_, trivial, by simp [OwnOK, Ctx.addRow]⟩
      have hrow2 : RowOf (RepD (c.addRow j e τ.size (.slice (some ⟨k, 0, none⟩) (n + m) cap') k (olds ++ news)).C τ) τ.size (xs ++ ys) (olds ++ news) :=
        (holds.append hrow).mono (fun x v hx => RepD.mono g2.cle τ x v hx)
      have := SlOK.ofRow (C := (c.addRow j e τ.size (.slice (some ⟨k, 0, none⟩) (n + m) cap') k (olds ++ news)).C) (b := k) (o := 0) (cap := cap') hrow2 (fun i hi => by
        simp only [Ctx.addRow, if_true, Nat.zero_add]
        exact List.getElem?_eq_getElem hi) (by simp; omega) (by simp; omega)
      rw [List.length_append, ← hn, ← hm] at this
      exact this
    -- the ways
    have hCnew : ∀ k, w.heap.size ≤ k → ∀ o u, c.C k o = some u → False := fun k hk o u hu => by have := hg.lt hu; omega
    have viaNew : ∀ olds v' w', (Builtin.append_ #[t, t] ty #[.slice A n cap, .slice (some ⟨bB, oB, none⟩) m c0]).run P w = .ok v' w' → w'.ownsRow w.heap.size e τ.size v' (n + m) (olds ++ news) → w.grownBy w' none → RowOf (RepD c.C τ) τ.size xs olds →
        ∃ v' w' k cap' cur olds, (Builtin.append_ #[t, t] ty #[.slice A n cap, .slice (some ⟨bB, oB, none⟩) m c0]).run P w = .ok v' w' ∧ v' = .slice (some ⟨k, 0, none⟩) (n + m) cap' ∧
        (w.heap.size ≤ k ∨ (∃ T' s' a n' cap2, c.tk j = some (T', s', .slice (some a) n' cap2) ∧ 0 < cap2 ∧ a.block = k)) ∧ w'.os = w.os ∧ w'.tape = w.tape ∧ w'.output = w.output ∧ w.heap.size ≤ w'.heap.size ∧
        (∀ b, b < w.heap.size → b ≠ k → w'.heap[b]? = w.heap[b]?) ∧ w'.heap[k]? = some (.cells cur e (0, 0)) ∧ n + m ≤ cap' ∧ cap' ≤ maxLen ∧ cur.size = cap' * τ.size ∧ cur.toList.take ((n + m) * τ.size) = olds ++ news ∧
        RowOf (RepD c.C τ) τ.size xs olds ∧ (∀ o u, c.C k o = some u → (olds ++ news)[o]? = some u) := by
      intro olds v' w' hr hown hgrow holds
      obtain ⟨g, cap', cur, rfl, h2, h3, h4, h5, h6, h7, h8⟩ := ownsRow_form hown (by omega)
      exact ⟨_, w', g, cap', cur, olds, hr, rfl, .inl h2, hgrow.os, hgrow.tape, hgrow.output, hgrow.size, fun b hb _ => hgrow.block b hb (by simp), h3, h4, h5, h6, h7, holds, fun o u hu => (hCnew g h2 o u hu).elim⟩
    have hnil : A = none → n = 0 ∧ cap = 0 ∧ xs = [] := fun h => by
      have h1 := hx.2.2.1 h
      have h2 := hx.2.1
      exact ⟨by omega, h1, List.eq_nil_of_length_eq_zero (by omega)⟩
    cases hA : A with
    | none =>
      obtain ⟨rfl, rfl, rfl⟩ := hnil hA
      subst hA
      obtain ⟨v', w', hr, hown', hgrow, _⟩ := run_append_own (P := P) (w := w) w.heap.size t ty e inf z τ.size ei.bytes ht hi1 hi4 (hi2.trans hτ) hi3 (hi6.trans hτ) hsz (.slice none 0 0) 0 [] (World.ownsRow_nil w _ e τ.size) ⟨bB, oB, none⟩ m c0 news hlnews hnewc hone h63 hbytes (Nat.le_refl _)
      exact viaNew [] v' w' hr hown' hgrow rfl
    | some a =>
      subst hA
      have holds : ∃ olds : List Value, RowOf (RepD c.C τ) τ.size xs olds ∧ (∀ i u, olds[i]? = some u → w.cell? (a.add i) = some u) ∧ (∀ i (hi : i < olds.length), a.spot = none → c.C a.block (a.off + i) = some olds[i]) := by
        by_cases hn0 : n = 0
        · have : xs = [] := List.eq_nil_of_length_eq_zero (by omega)
          subst this
          exact ⟨[], rfl, fun i u hu => by simp at hu, fun i hi => by simp at hi⟩
        · obtain ⟨_, _, _, b, o, hB, _⟩ := hx.2.2.2.2 0 (by omega)
          injection hB with hB
          subst hB
          obtain ⟨olds, hr, hc⟩ := hx.row
          refine ⟨olds, hr, fun i u hu => ?_, fun i hi _ => hc i hi⟩
          obtain ⟨hi, rfl⟩ := List.getElem?_eq_some_iff.1 hu
          rw [addr_add]
          exact hg.stab _ _ _ (hc i hi)
      obtain ⟨olds, hro, hoc, hoC⟩ := holds
      have hol : olds.length = n * τ.size := by rw [hro.length, hn]
      by_cases hroom2 : n + m ≤ cap
      · -- there is room: the claimed row itself
        rcases hclaim with hcl | ⟨h, _⟩
        · rcases hg.tok j _ _ _ hcl with g1 | ⟨a', g1⟩ | ⟨g, n', cap', cur, g1, g2, g3, g4, g5, g6, g7, g8, g9⟩
          · cases g1
          · injection g1 with _ _ g1; omega
          · injection g1 with ga gn gc
            injection ga with ga
            subst ga; subst gn; subst gc
            have hfit : n * inf.size + news.length ≤ cur.size := by
              rw [hi2, hτ, hlnews, g7, ← Nat.add_mul]
              exact Nat.mul_le_mul_right _ hroom2
            have hr := run_append_room (P := P) w t ty e inf ht hi1 g n cap cur g3 ⟨bB, oB, none⟩ m c0 news (by rw [hlnews, hi2, hτ]) hnewc hone hroom2 hfit
            rw [hi2, hτ] at hr hfit
            have hg2 : (w.setRow g (cur.toList.take (n * τ.size) ++ news ++ cur.toList.drop (n * τ.size + news.length)).toArray).heap[g]? = some (.cells (cur.toList.take (n * τ.size) ++ news ++ cur.toList.drop (n * τ.size + news.length)).toArray e (0, 0)) := by
              simp only [World.setRow, Array.getElem?_modify, if_true, g3, Option.map_some]
            have hpre : cur.toList.take (n * τ.size) = olds := by
              apply List.ext_getElem?
              intro i
              by_cases hi : i < n * τ.size
              · have hlt : i < olds.length := by omega
                have h1 := hg.stab _ _ _ (hoC i hlt rfl)
                simp only [Nat.zero_add, World.cell?, g3, Option.isSome_none, Bool.false_eq_true, if_false] at h1
                rw [List.getElem?_take_of_lt hi, List.getElem?_eq_getElem hlt, ← h1]
                simp
              · rw [List.getElem?_eq_none (by simp; omega), List.getElem?_eq_none (by omega)]
            have hsz2 : cur.size = cap * τ.size := g7
            refine ⟨_, _, g, cap, _, olds, hr, rfl, .inr ⟨_, _, _, _, _, hcl, g5, rfl⟩, rfl, rfl, rfl, by simp [World.setRow], fun b hb hbg => ?_, hg2, hroom2, g6, ?_, ?_, hro, fun o u hu => ?_⟩
            · simp only [World.setRow, Array.getElem?_modify]
              rw [if_neg (fun h => hbg h.symm)]
            · simp only [List.size_toArray, List.length_append, List.length_take, List.length_drop, Array.length_toList]
              omega
            · simp only
              rw [hpre, show (n + m) * τ.size = (olds ++ news).length by rw [List.length_append, hol, hlnews, Nat.add_mul], List.take_left']
              rfl
            · by_cases ho : n * τ.size ≤ o
              · rw [g9 o ho] at hu; cases hu
              · have hlt : o < olds.length := by omega
                have h1 := hoC o hlt rfl
                simp only [Nat.zero_add] at h1
                rw [h1] at hu
                cases hu
                rw [List.getElem?_append_left hlt, List.getElem?_eq_getElem hlt]
        · cases h
      · obtain ⟨v', w', hr, hown', hgrow⟩ := run_append_arg_grows (P := P) (w := w) t ty e inf z τ.size ei.bytes ht hi1 hi4 (hi2.trans hτ) hi3 (hi6.trans hτ) hsz a n cap olds hol hoc ⟨bB, oB, none⟩ m c0 news hlnews hnewc (by omega) h63 hbytes
        exact viaNew olds v' w' hr hown' hgrow hro
end Go.Proofs.AbsV
