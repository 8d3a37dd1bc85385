/- Structs and arrays of numbers, truths and texts that are held against one another. No condition. -/
import Derived.Test.YtopbldbgnpeelaaDoorAd
import Derived.Laws.StructEq
import Derived.ChangeKeysEq
set_option linter.unusedVariables false
set_option linter.unusedSimpArgs false
namespace Go.Proofs.AbsV
open Go

/-! ### Which types are so -/
inductive EQQ | t (t : TypeId) (τ : Ty) | fs (off : Nat) (l : List Field) (τ : Ty) | es (n : Nat) (e : TypeId) (τ : Ty)
def aggT (P : Program) (t : TypeId) : Bool := match P.underlying t with
  | some (.struct _) => true
  | some (.array _ _) => true
  | _ => false
def sizeIs (P : Program) (t : TypeId) (n : Nat) : Bool := match P.info? t with
  | some inf => Nat.beq inf.size n
  | none => false
def eqQ (P : Program) : (fuel : Nat) → EQQ → Bool
  | 0, _ => false
  | f + 1, .t t τ => match P.underlying t, τ with
    | some .bool, .bool => true
    | some (.int k), .int k' => decide (k = k')
    | some .string, .str => true
    | some (.struct fs), τ => !P.stoodInHeld t && (sizeIs P t τ.size && eqQ P f (.fs 0 fs.toList τ))
    | some (.array n e), τ => (P.info? e).isSome && (sizeIs P t τ.size && eqQ P f (.es n e τ))
    | _, _ => false
  | _ + 1, .fs _ [] .unit => true
  | f + 1, .fs off (fd :: r) (.pair a b) => Nat.beq fd.offset off && (!(fd.name == "_") && (eqQ P f (.t fd.type a) && eqQ P f (.fs (off + a.size) r b)))
  | _ + 1, .fs _ _ _ => false
  | _ + 1, .es 0 e .unit => true
  | f + 1, .es (n + 1) e (.pair a b) => sizeIs P e a.size && (eqQ P f (.t e a) && eqQ P f (.es n e b))
  | _ + 1, .es _ _ _ => false
theorem eqQ_succ (P : Program) (f : Nat) (t : TypeId) (τ : Ty) : eqQ P (f + 1) (.t t τ) = (match P.underlying t, τ with
    | some .bool, .bool => true
    | some (.int k), .int k' => decide (k = k')
    | some .string, .str => true
    | some (.struct fs), τ => !P.stoodInHeld t && (sizeIs P t τ.size && eqQ P f (.fs 0 fs.toList τ))
    | some (.array n e), τ => (P.info? e).isSome && (sizeIs P t τ.size && eqQ P f (.es n e τ))
    | _, _ => false) := rfl
def eqT (P : Program) (t : TypeId) (τ : Ty) : Bool := eqQ P 40 (.t t τ) && !(P.eqGuardType P.depth t)

/-- A value of its cells. -/
def valOf (P : Program) (t : TypeId) (cs : List Value) : Value := bif aggT P t then .agg cs.toArray else (match cs with | v :: _ => v | [] => undef)

theorem run_isAggT {P : Program} {t : TypeId} {d : TypeDesc} (h : P.underlying t = some d) (w : World) : (isAgg t).run P w = .ok (aggT P t) w := by
  simp only [isAgg, Sem.run_bind, run_underlying h, Result.andThen_ok, aggT, h]
  cases d <;> rfl
theorem sizeIs_run {P : Program} {t : TypeId} {n : Nat} (h : sizeIs P t n = true) (w : World) : (sizeOf t).run P w = .ok n w := by
  unfold sizeIs at h
  cases hi : P.info? t with
  | none => rw [hi] at h; cases h
  | some inf =>
    rw [hi] at h
    have := Nat.eq_of_beq_eq_true h
    simp [sizeOf, typeInfo, hi, this]
theorem eqQ_und {P : Program} {f : Nat} {t : TypeId} {τ : Ty} (h : eqQ P (f + 1) (.t t τ) = true) : ∃ d, P.underlying t = some d ∧ (aggT P t = true → sizeIs P t τ.size = true) ∧ (aggT P t = false → τ.size = 1) := by
  unfold eqQ at h
  unfold aggT
  split at h
  · rename_i hu; rw [hu]; exact ⟨_, rfl, (fun h => by cases h), fun _ => rfl⟩
  · rename_i hu; rw [hu]; exact ⟨_, rfl, (fun h => by cases h), fun _ => rfl⟩
  · rename_i hu; rw [hu]; exact ⟨_, rfl, (fun h => by cases h), fun _ => rfl⟩
  · rename_i hu
    rw [hu]
    simp only [Bool.and_eq_true] at h
    exact ⟨_, rfl, (fun _ => h.2.1), (fun h => by cases h)⟩
  · rename_i hu
    rw [hu]
    simp only [Bool.and_eq_true] at h
    exact ⟨_, rfl, (fun _ => h.2.1), (fun h => by cases h)⟩
  · cases h
theorem part_valOf {P : Program} {f : Nat} {t : TypeId} {τ : Ty} (h : eqQ P (f + 1) (.t t τ) = true) {X : Array Value} {off : Nat} {cs rest : List Value} (hX : X.toList.drop off = cs ++ rest) (hl : cs.length = τ.size) (w : World) :
    (part t X off).run P w = .ok (valOf P t cs) w := by
  obtain ⟨d, hu, h1, h2⟩ := eqQ_und h
  unfold part valOf
  simp only [Sem.run_bind, run_isAggT hu, Result.andThen_ok]
  cases ha : aggT P t with
  | true =>
    simp only [if_true, cond_true, Sem.run_bind, sizeIs_run (h1 ha), Result.andThen_ok, Sem.run_pure]
    congr 2
    apply Array.toList_inj.1
    rw [Array.toList_extract, List.extract_eq_take_drop, hX, Nat.add_sub_cancel_left, ← hl]
    simp
  | false =>
    have hs := h2 ha
    match cs, hl, hX with
    | [v], _, hX =>
      have : X[off]? = some v := by
        have e : X.toList[off]? = some v := by
          have := congrArg (fun l : List Value => l[0]?) hX
          simpa [List.getElem?_drop] using this
        simpa using e
      simp [this]
    | [], hl, _ => rw [hs] at hl; simp at hl
    | _ :: _ :: _, hl, _ => rw [hs] at hl; simp at hl
theorem cellsOf_size {P : Program} {t : TypeId} {n : Nat} (h : sizeIs P t n = true) : P.cellsOf t = n := by
  unfold sizeIs at h
  cases hi : P.info? t with
  | none => rw [hi] at h; cases h
  | some inf =>
    rw [hi] at h
    have := Nat.eq_of_beq_eq_true h
    simp [Program.cellsOf, hi, this]
mutual
theorem eqQ_t {P : Program} {C : Stab} {w : World} : ∀ (f : Nat) (t : TypeId) (τ : Ty), eqQ P f (.t t τ) = true → ∀ (dp : Nat), f ≤ dp → ∀ (d1 d2 : τ.den) (xs ys : List Value), RepD C τ d1 xs → RepD C τ d2 ys →
    (Op.equalIn dp t (valOf P t xs) (valOf P t ys)).run P w = .ok (eqD τ d1 d2) w
  | 0, t, τ, h, dp, hd, d1, d2, xs, ys, hx, hy => by cases h
  | f + 1, t, τ, h, 0, hd, d1, d2, xs, ys, hx, hy => by omega
  | f + 1, t, τ, h, dp + 1, hd, d1, d2, xs, ys, hx, hy => by
    cases hu : P.underlying t with
    | none => rw [eqQ_succ, hu] at h; cases τ <;> cases h
    | some d =>
      cases d with
      | bool =>
        cases τ <;> first | (rw [eqQ_succ, hu] at h; cases h; done) | skip
        simp only [RepD] at hx hy
        subst hx; subst hy
        have ha : aggT P t = false := by unfold aggT; rw [hu]
        simp [valOf, ha, Op.equalIn, run_underlying hu, eqD]
      | int k =>
        cases τ <;> first | (rw [eqQ_succ, hu] at h; cases h; done) | skip
        simp only [RepD] at hx hy
        subst hx; subst hy
        have ha : aggT P t = false := by unfold aggT; rw [hu]
        simp [valOf, ha, Op.equalIn, run_underlying hu, eqD]
      | string =>
        cases τ <;> first | (rw [eqQ_succ, hu] at h; cases h; done) | skip
        simp only [RepD] at hx hy
        subst hx; subst hy
        have ha : aggT P t = false := by unfold aggT; rw [hu]
        simp [valOf, ha, Op.equalIn, run_underlying hu, eqD, beq_toListBytes]
      | struct fs =>
        have h : (!P.stoodInHeld t && (sizeIs P t τ.size && eqQ P f (.fs 0 fs.toList τ))) = true := by rw [eqQ_succ, hu] at h; exact h
        have ha : aggT P t = true := by unfold aggT; rw [hu]
        simp only [Bool.and_eq_true, Bool.not_eq_true'] at h
        have hf : P.fieldsOf t = fs := by simp [Program.fieldsOf, hu]
        simp only [valOf, ha, cond_true]
        rw [run_equalIn_struct (P := P) w dp t _ _ (by rw [hf]; exact hu) h.1, hf]
        exact eqQ_fs f 0 fs.toList τ h.2.2 dp (by omega) d1 d2 xs ys hx hy xs.toArray ys.toArray [] [] (by simp) (by simp)
      | array n e =>
        have h : ((P.info? e).isSome && (sizeIs P t τ.size && eqQ P f (.es n e τ))) = true := by rw [eqQ_succ, hu] at h; exact h
        have ha : aggT P t = true := by unfold aggT; rw [hu]
        simp only [Bool.and_eq_true] at h
        obtain ⟨i, hi⟩ := Option.isSome_iff_exists.1 h.1
        simp only [valOf, ha, cond_true]
        rw [run_equalIn_array (P := P) w dp _ _ hu hi, List.range_eq_range']
        exact eqQ_es f n e τ h.2.2 dp (by omega) d1 d2 xs ys hx hy xs.toArray ys.toArray [] [] 0 (by simp) (by simp)
      | _ => rw [eqQ_succ, hu] at h; cases τ <;> cases h
theorem eqQ_fs {P : Program} {C : Stab} {w : World} : ∀ (f off : Nat) (fs : List Field) (τ : Ty), eqQ P f (.fs off fs τ) = true → ∀ (dp : Nat), f ≤ dp → ∀ (d1 d2 : τ.den) (xs ys : List Value), RepD C τ d1 xs → RepD C τ d2 ys →
    ∀ (X Y : Array Value) (rx ry : List Value), X.toList.drop off = xs ++ rx → Y.toList.drop off = ys ++ ry → (Op.eqFields dp X Y fs).run P w = .ok (eqD τ d1 d2) w
  | 0, off, fs, τ, h, dp, hd, d1, d2, xs, ys, hx, hy, X, Y, rx, ry, hX, hY => by cases h
  | f + 1, off, [], τ, h, dp, hd, d1, d2, xs, ys, hx, hy, X, Y, rx, ry, hX, hY => by
    cases τ <;> first | (cases h; done) | skip
    simp [Op.eqFields, eqD]
  | f + 1, off, fd :: r, τ, h, dp, hd, d1, d2, xs, ys, hx, hy, X, Y, rx, ry, hX, hY => by
    cases τ <;> first | (cases h; done) | skip
    rename_i a b
    have h : (Nat.beq fd.offset off && (!(fd.name == "_") && (eqQ P f (.t fd.type a) && eqQ P f (.fs (off + a.size) r b)))) = true := h
    simp only [Bool.and_eq_true, Bool.not_eq_true'] at h
    obtain ⟨h1, h2, h3, h4⟩ := h
    have h1 := Nat.eq_of_beq_eq_true h1
    simp only [RepD] at hx hy
    obtain ⟨x1, x2, rfl, hx1, hx2⟩ := hx
    obtain ⟨y1, y2, rfl, hy1, hy2⟩ := hy
    have lx := hx1.length
    have ly := hy1.length
    obtain ⟨g, rfl⟩ : ∃ g, f = g + 1 := by
      cases f with
      | zero => cases h3
      | succ g => exact ⟨g, rfl⟩
    have pX := part_valOf h3 (X := X) (off := fd.offset) (cs := x1) (rest := x2 ++ rx) (by rw [h1, hX, List.append_assoc]) lx w
    have pY := part_valOf h3 (X := Y) (off := fd.offset) (cs := y1) (rest := y2 ++ ry) (by rw [h1, hY, List.append_assoc]) ly w
    have e1 := eqQ_t (P := P) (C := C) (w := w) (g + 1) fd.type a h3 dp (by omega) d1.1 d2.1 x1 y1 hx1 hy1
    have e2 := eqQ_fs (P := P) (C := C) (w := w) (g + 1) (off + a.size) r b h4 dp (by omega) d1.2 d2.2 x2 y2 hx2 hy2 X Y rx ry
      (by rw [← List.drop_drop, hX, List.append_assoc, ← lx, List.drop_left]) (by rw [← List.drop_drop, hY, List.append_assoc, ← ly, List.drop_left])
    have hn : fd.name ≠ "_" := by simpa using h2
    rw [Op.eqFields]
    simp only [if_pos hn, Sem.run_bind, pX, pY, e1, Result.andThen_ok, eqD]
    cases eqD a d1.1 d2.1
    · simp
    · simpa using e2
theorem eqQ_es {P : Program} {C : Stab} {w : World} : ∀ (f n : Nat) (e : TypeId) (τ : Ty), eqQ P f (.es n e τ) = true → ∀ (dp : Nat), f ≤ dp → ∀ (d1 d2 : τ.den) (xs ys : List Value), RepD C τ d1 xs → RepD C τ d2 ys →
    ∀ (X Y : Array Value) (rx ry : List Value) (j : Nat), X.toList.drop (j * P.cellsOf e) = xs ++ rx → Y.toList.drop (j * P.cellsOf e) = ys ++ ry → (Op.eqItems dp e (P.cellsOf e) X Y (List.range' j n)).run P w = .ok (eqD τ d1 d2) w
  | 0, n, e, τ, h, dp, hd, d1, d2, xs, ys, hx, hy, X, Y, rx, ry, j, hX, hY => by cases h
  | f + 1, 0, e, τ, h, dp, hd, d1, d2, xs, ys, hx, hy, X, Y, rx, ry, j, hX, hY => by
    cases τ <;> first | (cases h; done) | skip
    simp [Op.eqItems, eqD]
  | f + 1, n + 1, e, τ, h, dp, hd, d1, d2, xs, ys, hx, hy, X, Y, rx, ry, j, hX, hY => by
    cases τ <;> first | (cases h; done) | skip
    rename_i a b
    have h : (sizeIs P e a.size && (eqQ P f (.t e a) && eqQ P f (.es n e b))) = true := h
    simp only [Bool.and_eq_true] at h
    obtain ⟨h1, h3, h4⟩ := h
    have hc : P.cellsOf e = a.size := cellsOf_size h1
    simp only [RepD] at hx hy
    obtain ⟨x1, x2, rfl, hx1, hx2⟩ := hx
    obtain ⟨y1, y2, rfl, hy1, hy2⟩ := hy
    have lx := hx1.length
    have ly := hy1.length
    obtain ⟨g, rfl⟩ : ∃ g, f = g + 1 := by
      cases f with
      | zero => cases h3
      | succ g => exact ⟨g, rfl⟩
    have pX := part_valOf h3 (X := X) (off := j * P.cellsOf e) (cs := x1) (rest := x2 ++ rx) (by rw [hX, List.append_assoc]) lx w
    have pY := part_valOf h3 (X := Y) (off := j * P.cellsOf e) (cs := y1) (rest := y2 ++ ry) (by rw [hY, List.append_assoc]) ly w
    have e1 := eqQ_t (P := P) (C := C) (w := w) (g + 1) e a h3 dp (by omega) d1.1 d2.1 x1 y1 hx1 hy1
    have ej : (j + 1) * P.cellsOf e = j * P.cellsOf e + a.size := by rw [Nat.add_mul, Nat.one_mul, hc]
    have e2 := eqQ_es (P := P) (C := C) (w := w) (g + 1) n e b h4 dp (by omega) d1.2 d2.2 x2 y2 hx2 hy2 X Y rx ry (j + 1)
      (by rw [ej, ← List.drop_drop, hX, List.append_assoc, ← lx, List.drop_left]) (by rw [ej, ← List.drop_drop, hY, List.append_assoc, ← ly, List.drop_left])
    rw [List.range'_succ, Op.eqItems]
    simp only [Sem.run_bind, pX, pY, e1, Result.andThen_ok, eqD]
    cases eqD a d1.1 d2.1
    · simp
    · simpa using e2
end
end Go.Proofs.AbsV
