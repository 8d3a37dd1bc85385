/- The gate's Support, count and Propose as functions of what is in the table. No condition. -/
import Derived.Test.YtopbldbgnpeelaaWsees
set_option maxRecDepth 100000
set_option linter.unusedVariables false
set_option linter.unusedSimpArgs false
namespace Go.Proofs.Ytopbldbgnpeelaa.V
open Go Go.Proofs.AbsV
def T12 : FuncId → Option CSpec := tabG [(38, .pure isSp), (28, .bor bestSp bestNil), (39, .inl), (40, .inl), (42, .inl)]
theorem tok12 : TOK Try.prog env T12 := tok_tabG mixed ⟨is_ok, ⟨best_bor, best_pure⟩, trivial, trivial, trivial, trivial⟩
noncomputable def oinl {α : Type} : Inl α := inlDQ env T12 [] (fnsOf gfns) (fun _ => allKept) 12 2
theorem oinl_ok {α : Type} : InlOK Try.prog env (oinl : Inl α) := inlDQ_ok (qs := []) envOK tok12 trivial (fnsOf_ok gfns_ok) 2
theorem fn_idx : FnOK Try.prog 42 Try.f42 := ⟨by kernel_rfl, by kernel_rfl, by kernel_rfl⟩
def idx_hv : Keeps := fun c => (match Nat.beq c 0 with | true => some ([0, 1, 7, 8], [4]) | false => none)
def idx_S0 (xs : List Int) (a b : Int) (f : Nat → Int) (Tt : TypeId) (v7 : Int) (v8 : Int) : St := { fr := frOf [(0, .sl (.int .i64) xs none none), (1, .fn 39 [.ptr 1 0]), (7, .int .i64 v7), (8, .int .i64 v8)] 19 0, bx := [.cells Tt (tbl a b f), .cells 40 [.ptr 0 0]] }
noncomputable def idx_B0 : Code := codeAt (bodyOf Try.f42) [1, 0, 1, 0, 0]
noncomputable def idx_K0 {α : Type} (F : Nat) (xs : List Int) (a b : Int) (f : Nat → Int) (Tt : TypeId)  (k : AV → List Box2 → Option α) : Ex → St → Option α := contAt env T12 oinl idx_hv F (bodyOf Try.f42) [1, 0, 1, 0] 0 (endOf env Try.f42 (fun r bx => k r bx))
noncomputable def idx_L0 {α : Type} (F n : Nat) (xs : List Int) (a b : Int) (f : Nat → Int) (Tt : TypeId) (v7 : Int) (v8 : Int) (k : AV → List Box2 → Option α) : Option α := loopH 2 (some [0, 1, 7, 8]) (some [4]) (fun s k => runC env T12 oinl idx_hv F idx_B0 0 s k) n (idx_S0 xs a b f Tt v7 v8) (idx_K0 F  xs a b f Tt k)
theorem idx_in {α : Type} (F : Nat) (xs : List Int) (a b : Int) (f : Nat → Int) (Tt : TypeId) (k : AV → List Box2 → Option α) : runF env T12 oinl idx_hv F Try.f42 [.sl (.int .i64) xs none none, .fn 39 [.ptr 1 0]] [.cells Tt (tbl a b f), .cells 40 [.ptr 0 0]] (fun r bx => k r bx) =
    (idx_L0 F F xs a b f Tt (((List.length xs) : Nat) : Int) 0 k) := by kernel_rfl
theorem idx_step0 {α : Type} (F n : Nat) (xs : List Int) (a b : Int) (f : Nat → Int) (Tt : TypeId) (v7 : Int) (v8 : Int) (k : AV → List Box2 → Option α) : idx_L0 F (n + 1)  xs a b f Tt v7 v8 k =
    bif decide (v8 < v7) then bif decide (0 ≤ v8) && decide (v8 < (((List.length xs) : Nat) : Int)) then bif decide (bestV (norm10 f) (rdD (Ty.int IntKind.i64) xs (Int.toNat v8)) < 2) then k (AV.int IntKind.i64 v8) [Box2.cells Tt (tbl a b f), Box2.cells 40 [AV.ptr 0 0]] else (idx_L0 F n xs a b f Tt v7 (IntKind.wrap IntKind.i64 (Int.add v8 1)) k) else none else k (AV.int IntKind.i64 (-1)) [Box2.cells Tt (tbl a b f), Box2.cells 40 [AV.ptr 0 0]] := by kernel_rfl
/-! ### IndexFunc -/
def lowAt (f : Nat → Int) : List Int → Int → Int
  | [], _ => -1
  | x :: r, i => bif decide (bestV f x < 2) then i else lowAt f r (i + 1)
theorem getD_int {xs : List Int} {i : Nat} (h : i < xs.length) : rdD (Ty.int IntKind.i64) xs (Int.toNat (i : Int)) = xs[i] := by
  show List.getD (α := Int) xs (i : Int).toNat 0 = xs[i]
  rw [Int.toNat_natCast, List.getD_eq_getElem?_getD, List.getElem?_eq_getElem h]
  rfl
theorem idx_loop {α : Type} (F : Nat) (xs : List Int) (a b : Int) (f : Nat → Int) (Tt : TypeId) (hb : xs.length ≤ 4611686018427387904) (k : AV → List Box2 → Option α) : ∀ (n i : Nat), i + n = xs.length →
    idx_L0 F (n + 1) xs a b f Tt (Nat.cast (List.length xs)) (i : Int) k = k (.int .i64 (lowAt f (xs.drop i) i)) [.cells Tt (tbl a b f), .cells 40 [.ptr 0 0]]
  | 0, i, h => by
    rw [idx_step0, cond_neg (by omega), List.drop_eq_nil_of_le (by omega)]
    rfl
  | n + 1, i, h => by
    have hx : i < xs.length := by omega
    have hw : IntKind.i64.wrap (Int.add (i : Int) 1) = ((i + 1 : Nat) : Int) := by
      show IntKind.i64.wrap ((i : Int) + 1) = _
      rw [IntWalk.i64_in _ (by omega)]; omega
    rw [idx_step0, cond_pos (by omega), decide_eq_true (show (0 : Int) ≤ (i : Int) by omega), decide_eq_true (show (i : Int) < ((xs.length : Nat) : Int) by omega), hw, getD_int hx, List.drop_eq_getElem_cons hx]
    simp only [Bool.and_self, cond_true, lowAt, bestV_norm]
    rw [idx_loop F xs a b f Tt hb k n (i + 1) (by omega)]
    cases decide (bestV f xs[i] < 2) <;> rfl
def intsIn (y : AV) : Option (List Int) := srcOf (.int .i64) y
def idxQ : QSpec
  | [y, .fn 39 [.ptr 1 0]], [.cells Tt l, .cells 40 [.ptr 0 0]] => match intsIn y, tblIn l with
    | some xs, some (a, b, f) => [(decide (xs.length ≤ 4611686018427387904), (.int .i64 (lowAt f xs 0), [.cells Tt l, .cells 40 [.ptr 0 0]]))]
    | _, _ => []
  | _, _ => []
theorem idx_q : QOK Try.prog env 42 idxQ := by
  refine QOK.of_run envOK tok12 oinl_ok fn_idx (hv := idx_hv) (fun args bx r bx' h => ?_)
  unfold idxQ at h
  split at h
  · rename_i y Tt l
    split at h
    · rename_i xs a b f hx hl
      by_cases hb : xs.length ≤ 4611686018427387904
      · rw [decide_eq_true hb] at h
        cases h
        rw [tblIn_some hl]
        refine ⟨_, xs.length + 1, .src (τ := .int .i64) hx (.refl _), ?_⟩
        have := (idx_in (xs.length + 1) xs a b f Tt (fun r bx => some (r, bx))).trans (idx_loop (xs.length + 1) xs a b f Tt hb (fun r bx => some (r, bx)) xs.length 0 (by omega))
        exact this
      · rw [decide_eq_false hb] at h; cases h
    · cases h
  · cases h
/-! ### Support -/
noncomputable def pinl {α : Type} : Inl α := inlDQ env T12 [(42, idxQ)] (fnsOf gfns) (fun _ => allKept) 12 3
theorem pinl_ok {α : Type} : InlOK Try.prog env (pinl : Inl α) := inlDQ_ok (qs := [(42, idxQ)]) envOK tok12 ⟨idx_q, trivial⟩ (fnsOf_ok gfns_ok) 3
def supB (f : Nat → Int) (xs : List Int) : Bool := decide ((xs.length : Int) > 0) && !decide (lowAt f xs 0 ≥ 0)
theorem fn_sup : FnOK Try.prog 29 Try.f29 := ⟨by kernel_rfl, by kernel_rfl, by kernel_rfl⟩
def sup_hv : Keeps := fun _ => none
theorem sup_in {α : Type} (F : Nat) (xs : List Int) (a b : Int) (f : Nat → Int) (Tt : TypeId) (k : AV → List Box2 → Option α) : runF env T12 pinl sup_hv F Try.f29 [.ptr 0 0, .sl (.int .i64) xs none none] [.cells Tt (tbl a b f)] (fun r bx => k r (bx.take 1)) =
    bif decide ((((List.length xs) : Nat) : Int) > 0) then bif decide (List.length xs ≤ 4611686018427387904) then k (AV.bool !decide (lowAt (norm10 f) xs 0 ≥ 0)) [Box2.cells Tt (tbl a b f)] else none else k (AV.bool false) [Box2.cells Tt (tbl a b f)] := by kernel_rfl
theorem lowAt_norm (f : Nat → Int) : ∀ (xs : List Int) (i : Int), lowAt (norm10 f) xs i = lowAt f xs i
  | [], i => rfl
  | x :: r, i => by simp only [lowAt, bestV_norm, lowAt_norm f r]
def supSp : List AV → List AV → List (Bool × AV × List AV)
  | l, [y] => match intsIn y, tblIn l with
    | some xs, some (a, b, f) => [(decide (xs.length ≤ 4611686018427387904), .bool (supB f xs), l)]
    | _, _ => []
  | _, _ => []
theorem sup_bor : BorOK Try.prog env 29 supSp := by
  refine BorOK.of_runR envOK tok12 fn_sup (hv := sup_hv) (fun l rest r l' h Tt => ?_)
  unfold supSp at h
  split at h
  · rename_i l y
    split at h
    · rename_i xs a b f hx hl
      by_cases hb : xs.length ≤ 4611686018427387904
      · rw [decide_eq_true hb] at h
        cases h
        rw [tblIn_some hl]
        refine ⟨pinl, 0, _, pinl_ok, .src (τ := .int .i64) hx .nil, (sup_in 0 xs a b f Tt (fun r bx => some (r, bx))).trans ?_⟩
        rw [lowAt_norm, decide_eq_true hb]
        unfold supB
        cases decide (((xs.length : Nat) : Int) > 0) <;> rfl
      · rw [decide_eq_false hb] at h; cases h
    · cases h
  · cases h
theorem sup_nil : PureOK Try.prog env 29 (fun _ => []) := ⟨⟨_, fn_sup⟩, fun args r h => by cases h⟩
/-! ### count -/
def T13 : FuncId → Option CSpec := tabG [(28, .bor bestSp bestNil), (29, .bor supSp (fun _ => []))]
theorem tok13 : TOK Try.prog env T13 := tok_tabG mixed ⟨⟨best_bor, best_pure⟩, ⟨sup_bor, sup_nil⟩, trivial⟩
theorem fn_cnt : FnOK Try.prog 41 Try.f41 := ⟨by kernel_rfl, by kernel_rfl, by kernel_rfl⟩
def cnt_hv : Keeps := fun c => (match Nat.beq c 0 with | true => some ([0, 1, 5, 7], [5]) | false => none)
def cnt_S0 (ver a b : Int) (f : Nat → Int) (Tt : TypeId) (v5 : Int) (v7 : Int) : St := { fr := frOf [(0, .ptr 0 0), (1, .int .i64 ver), (5, .int .i64 v5), (7, .int .i64 v7)] 19 0, bx := [.cells Tt (tbl a b f)] }
noncomputable def cnt_B0 : Code := codeAt (bodyOf Try.f41) [1, 1, 0, 1, 0, 0]
noncomputable def cnt_K0 {α : Type} (F : Nat) (ver a b : Int) (f : Nat → Int) (Tt : TypeId)  (k : AV → List Box2 → Option α) : Ex → St → Option α := contAt env T13 noInl cnt_hv F (bodyOf Try.f41) [1, 1, 0, 1, 0] 0 (endOf env Try.f41 (fun r bx => k r (bx.take 1)))
noncomputable def cnt_L0 {α : Type} (F n : Nat) (ver a b : Int) (f : Nat → Int) (Tt : TypeId) (v5 : Int) (v7 : Int) (k : AV → List Box2 → Option α) : Option α := loopH 1 (some [0, 1, 5, 7]) (some [5]) (fun s k => runC env T13 noInl cnt_hv F cnt_B0 0 s k) n (cnt_S0 ver a b f Tt v5 v7) (cnt_K0 F  ver a b f Tt k)
theorem cnt_in {α : Type} (F : Nat) (ver a b : Int) (f : Nat → Int) (Tt : TypeId) (k : AV → List Box2 → Option α) : runF env T13 noInl cnt_hv F Try.f41 [.ptr 0 0, .int .i64 ver] [.cells Tt (tbl a b f)] (fun r bx => k r (bx.take 1)) =
    (cnt_L0 F F ver a b f Tt 0 0 k) := by kernel_rfl
theorem cnt_step0 {α : Type} (F n : Nat) (ver a b : Int) (f : Nat → Int) (Tt : TypeId) (v5 : Int) (v7 : Int) (k : AV → List Box2 → Option α) : cnt_L0 F (n + 1)  ver a b f Tt v5 v7 k =
    bif decide (v7 < 10) then bif decide (bestV (norm10 f) v7 ≥ ver) then (cnt_L0 F n ver a b f Tt (IntKind.wrap IntKind.i64 (Int.add v5 1)) (IntKind.wrap IntKind.i64 (Int.add v7 1)) k) else (cnt_L0 F n ver a b f Tt v5 (IntKind.wrap IntKind.i64 (Int.add v7 1)) k) else k (AV.int IntKind.i64 v5) [Box2.cells Tt (tbl a b f)] := by kernel_rfl
def cntR (f : Nat → Int) (v : Int) : Nat → Nat → Int → Int
  | 0, _, n => n
  | m + 1, i, n => cntR f v m (i + 1) (bif decide (bestV f (i : Int) ≥ v) then n + 1 else n)
theorem cnt_loop {α : Type} (F : Nat) (ver a b : Int) (f : Nat → Int) (Tt : TypeId) (k : AV → List Box2 → Option α) : ∀ (m i : Nat) (n : Int), i + m = 10 → 0 ≤ n → n ≤ (i : Int) →
    cnt_L0 F (m + 1) ver a b f Tt n (i : Int) k = k (.int .i64 (cntR f ver m i n)) [.cells Tt (tbl a b f)]
  | 0, i, n, h, h0, h1 => by
    rw [cnt_step0, cond_neg (by omega)]
    rfl
  | m + 1, i, n, h, h0, h1 => by
    have hw : IntKind.i64.wrap (Int.add (i : Int) 1) = ((i + 1 : Nat) : Int) := by
      show IntKind.i64.wrap ((i : Int) + 1) = _
      rw [IntWalk.i64_in _ (by omega)]; omega
    have hn : IntKind.i64.wrap (Int.add n 1) = n + 1 := by
      show IntKind.i64.wrap (n + 1) = _
      rw [IntWalk.i64_in _ (by omega)]
    rw [cnt_step0, cond_pos (by omega), hw, hn, bestV_norm]
    simp only [cntR]
    cases decide (bestV f (i : Int) ≥ ver)
    · simp only [cond_false]
      exact cnt_loop F ver a b f Tt k m (i + 1) n (by omega) h0 (by omega)
    · simp only [cond_true]
      exact cnt_loop F ver a b f Tt k m (i + 1) (n + 1) (by omega) (by omega) (by omega)
def cntV (f : Nat → Int) (v : Int) : Int := cntR f v 10 0 0
def cntSp : List AV → List AV → List (Bool × AV × List AV)
  | l, [.int .i64 v] => match tblIn l with
    | some (a, b, f) => [(true, .int .i64 (cntV f v), l)]
    | none => []
  | _, _ => []
theorem cnt_bor : BorOK Try.prog env 41 cntSp := by
  refine BorOK.of_runR envOK tok13 fn_cnt (hv := cnt_hv) (fun l rest r l' h Tt => ?_)
  unfold cntSp at h
  split at h
  · rename_i l v
    split at h
    · rename_i a b f hl
      cases h
      rw [tblIn_some hl]
      refine ⟨noInl, 11, _, noInl_ok, .refl _, (cnt_in 11 v a b f Tt (fun r bx => some (r, bx))).trans ?_⟩
      exact cnt_loop 11 v a b f Tt (fun r bx => some (r, bx)) 10 0 0 (by omega) (by omega) (by omega)
    · cases h
  · cases h
theorem cnt_nil : PureOK Try.prog env 41 (fun _ => []) := ⟨⟨_, fn_cnt⟩, fun args r h => by cases h⟩
theorem cntR_ge (f : Nat → Int) (v : Int) : ∀ (m i : Nat) (n : Int), n ≤ cntR f v m i n
  | 0, i, n => by show n ≤ n; omega
  | m + 1, i, n => by
    have := cntR_ge f v m (i + 1) (bif decide (bestV f (i : Int) ≥ v) then n + 1 else n)
    simp only [cntR]
    refine Int.le_trans ?_ this
    cases decide (bestV f (i : Int) ≥ v)
    · show n ≤ n; omega
    · show n ≤ n + 1; omega
theorem cntR_one (f : Nat → Int) (v : Int) (j : Nat) (hj : bestV f (j : Int) ≥ v) : ∀ (m i : Nat) (n : Int), i ≤ j → j < i + m → n + 1 ≤ cntR f v m i n
  | 0, i, n, h1, h2 => by omega
  | m + 1, i, n, h1, h2 => by
    simp only [cntR]
    by_cases hij : i = j
    · subst hij
      rw [decide_eq_true hj]
      exact cntR_ge f v m (i + 1) (n + 1)
    · have := cntR_one f v j hj m (i + 1) (bif decide (bestV f (i : Int) ≥ v) then n + 1 else n) (by omega) (by omega)
      refine Int.le_trans ?_ this
      cases decide (bestV f (i : Int) ≥ v)
      · show n + 1 ≤ n + 1; omega
      · show n + 1 ≤ n + 1 + 1; omega
def allGe (g : Int → Int) : List Int → Bool
  | [] => true
  | x :: r => bif decide (g x < 2) then false else allGe g r
theorem lowAt_all (f : Nat → Int) : ∀ (xs : List Int) (i : Int), 0 ≤ i → decide (lowAt f xs i ≥ 0) = !allGe (bestV f) xs
  | [], i, h => rfl
  | x :: r, i, h => by
    unfold lowAt allGe
    by_cases hx : bestV f x < 2
    · rw [cond_pos hx, cond_pos hx]
      exact decide_eq_true h
    · rw [cond_neg hx, cond_neg hx]
      exact lowAt_all f r (i + 1) (by omega)
theorem supB_all (f : Nat → Int) (xs : List Int) : supB f xs = (decide ((xs.length : Int) > 0) && allGe (bestV f) xs) := by
  unfold supB
  rw [lowAt_all f xs 0 (Int.le_refl 0), Bool.not_not]
theorem sup_cnt {f : Nat → Int} {xs : List Int} (h : supB f xs = true) : 1 ≤ cntV f 2 := by
  rw [supB_all] at h
  match xs, h with
  | x :: r, h =>
    simp only [allGe, Bool.and_eq_true] at h
    have hx : 2 ≤ bestV f x := by
      by_cases hh : bestV f x < 2
      · rw [decide_eq_true hh] at h; exact absurd h.2 (by simp)
      · omega
    cases hi : isB x with
    | false => unfold bestV at hx; rw [hi] at hx; simp at hx
    | true =>
      obtain ⟨j, rfl, h1, h2⟩ := isB_range hi
      have := cntR_one f 2 j hx 10 0 0 (by omega) (by omega)
      unfold cntV
      omega
/-! ### Propose -/
def T14 : FuncId → Option CSpec := tabG [(41, .bor cntSp (fun _ => [])), (29, .bor supSp (fun _ => []))]
theorem tok14 : TOK Try.prog env T14 := tok_tabG mixed ⟨⟨cnt_bor, cnt_nil⟩, ⟨sup_bor, sup_nil⟩, trivial⟩
theorem fn_prop : FnOK Try.prog 32 Try.f32 := ⟨by kernel_rfl, by kernel_rfl, by kernel_rfl⟩
def prop_hv : Keeps := fun _ => none
theorem prop_in {α : Type} (F : Nat) (act : Int) (xs : List Int) (a b : Int) (f : Nat → Int) (Tt : TypeId) (k : AV → List Box2 → Option α) : runF env T14 noInl prop_hv F Try.f32 [.ptr 0 0, .int .i64 act, .sl (.int .i64) xs none none] [.cells Tt (tbl a b f)] (fun r bx => k r (bx.take 1)) =
    bif b != 2 then k (AV.int IntKind.i64 8) [Box2.cells Tt (tbl a b f)] else bif act != 0 then k (AV.int IntKind.i64 12) [Box2.cells Tt (tbl a b f)] else bif (((List.length xs) : Nat) : Int) == 0 then k (AV.int IntKind.i64 16) [Box2.cells Tt (tbl a b f)] else bif !decide (cntV (norm10 f) 2 < 1) then bif decide (List.length xs ≤ 4611686018427387904) then bif !supB (norm10 f) xs then k (AV.int IntKind.i64 14) [Box2.cells Tt (tbl a b f)] else k (AV.int IntKind.i64 0) [Box2.cells Tt (tbl a b f)] else none else k (AV.int IntKind.i64 14) [Box2.cells Tt (tbl a b f)] := by kernel_rfl
theorem prop_nil_in (act : Int) (y : AV) (k : AV → List Box2 → Option AV) : runF env T14 noInl allKept 0 Try.f32 [.nilp, .int .i64 act, y] [] k = k (.int .i64 8) [] := by kernel_rfl
def propV (b act : Int) (f : Nat → Int) (xs : List Int) : Int := bif !(b == 2) then 8 else bif !(act == 0) then 12 else bif decide (xs.length = 0) then 16 else bif supB f xs then 0 else 14
def propSp : List AV → List AV → List (Bool × AV × List AV)
  | l, [.int .i64 act, y] => match intsIn y, tblIn l with
    | some xs, some (a, b, f) => [(decide (xs.length ≤ 4611686018427387904), .int .i64 (propV b act f xs), l)]
    | _, _ => []
  | _, _ => []
def propNil : List AV → List (Bool × AV)
  | [.nilp, .int .i64 act, y] => [(true, .int .i64 8)]
  | _ => []
theorem prop_pure : PureOK Try.prog env 32 propNil := by
  refine PureOK.of_reads envOK tok14 noInl_ok fn_prop (hv := allKept) (fun args r h => ?_)
  unfold propNil at h
  split at h
  · rename_i act y
    cases h; exact ⟨_, 0, fun _ _ h => h, prop_nil_in act y _⟩
  · cases h
theorem supB_norm (f : Nat → Int) (xs : List Int) : supB (norm10 f) xs = supB f xs := by unfold supB; rw [lowAt_norm]
theorem cntR_norm (f : Nat → Int) (v : Int) : ∀ (m i : Nat) (n : Int), cntR (norm10 f) v m i n = cntR f v m i n
  | 0, _, _ => rfl
  | m + 1, i, n => by simp only [cntR, bestV_norm, cntR_norm f v m]
/-! ### changeoverref36.Support -/
def T15 : FuncId → Option CSpec := tab [(31, refBestSp)]
theorem tok15 : TOK Try.prog env T15 := tok_tab mixed ⟨refBest_ok, trivial⟩
theorem fn_rsup : FnOK Try.prog 33 Try.f33 := ⟨by kernel_rfl, by kernel_rfl, by kernel_rfl⟩
def rsup_hv : Keeps := fun c => (match Nat.beq c 0 with | true => some ([0, 1, 2, 3, 9], [3, 8]) | false => none)
def rsup_S0 (node ver : Int) (seen : Pairs) (xs : List Int) (i : Int) : St := { fr := frOf [(0, .int .i64 node), (1, .int .i64 ver), (2, .sl twoT seen none none), (3, .sl (.int .i64) xs none none), (9, .int .i64 i)] 28 0, bx := [] }
noncomputable def rsup_B0 : Code := codeAt (bodyOf Try.f33) [1, 0, 1, 0, 0]
noncomputable def rsup_K0 {α : Type} (F : Nat) (node ver : Int) (seen : Pairs) (xs : List Int)  (k : AV → List Box2 → Option α) : Ex → St → Option α := contAt env T15 noInl rsup_hv F (bodyOf Try.f33) [1, 0, 1, 0] 0 (endOf env Try.f33 (fun r bx => k r []))
noncomputable def rsup_L0 {α : Type} (F n : Nat) (node ver : Int) (seen : Pairs) (xs : List Int) (i : Int) (k : AV → List Box2 → Option α) : Option α := loopH 0 (some [0, 1, 2, 3, 9]) (some [3, 8]) (fun s k => runC env T15 noInl rsup_hv F rsup_B0 0 s k) n (rsup_S0 node ver seen xs i) (rsup_K0 F  node ver seen xs k)
theorem rsup_in {α : Type} (F : Nat) (node ver : Int) (seen : Pairs) (xs : List Int) (k : AV → List Box2 → Option α) : runF env T15 noInl rsup_hv F Try.f33 [.int .i64 node, .int .i64 ver, .sl twoT seen none none, .sl (.int .i64) xs none none] [] (fun r bx => k r []) =
    (rsup_L0 F F node ver seen xs 0 k) := by kernel_rfl
theorem rsup_step0 {α : Type} (F n : Nat) (node ver : Int) (seen : Pairs) (xs : List Int) (i : Int) (k : AV → List Box2 → Option α) : rsup_L0 F (n + 1)  node ver seen xs i k =
    bif decide (i < (((List.length xs) : Nat) : Int)) then bif decide (0 ≤ i) && decide (i < (((List.length xs) : Nat) : Int)) then bif decide (List.length seen ≤ 4611686018427387904) then bif decide (refBestV node ver (rdD (Ty.int IntKind.i64) xs (Int.toNat i)) seen < 2) then k (AV.bool false) [] else (rsup_L0 F n node ver seen xs (IntKind.wrap IntKind.i64 (Int.add i 1)) k) else none else none else k (AV.bool (decide ((((List.length xs) : Nat) : Int) > 0))) [] := by kernel_rfl
end Go.Proofs.Ytopbldbgnpeelaa.V
