/- The gate's table: Saw and Best as functions of what is in the table. No condition. -/
import Derived.Test.YtopbldbgnpeelaaWallows
set_option maxRecDepth 100000
set_option linter.unusedVariables false
set_option linter.unusedSimpArgs false
namespace Go.Proofs.Ytopbldbgnpeelaa.V
open Go Go.Proofs.AbsV
def isB (n : Int) : Bool := decide (n ≥ 1) && decide (n ≤ 9)
def isSp : List AV → List (Bool × AV)
  | [.int .i64 v] => [(true, .bool (isB v))]
  | _ => []
theorem is_in (n : Int) (k : AV → List Box2 → Option AV) : runF env T0 noInl allKept 0 Try.f38 [.int .i64 n] [] k = bif decide (n ≥ 1) then k (.bool (decide (n ≤ 9))) [] else k (.bool false) [] := by kernel_rfl
theorem is_ok : PureOK Try.prog env 38 isSp := by
  refine PureOK.of_reads envOK tok0 noInl_ok fnIs (hv := allKept) (fun args r h => ?_)
  unfold isSp at h
  split at h
  · rename_i v
    simp only [sel, cond_true, Option.some.injEq] at h
    subst h
    refine ⟨_, 0, fun _ _ h => h, (is_in v _).trans ?_⟩
    unfold isB
    cases (decide (v ≥ 1)) <;> rfl
  · cases h
def T9 : FuncId → Option CSpec := tab [(38, isSp), (16, maySp)]
theorem tok9 : TOK Try.prog env T9 := tok_tab mixed ⟨is_ok, may_ok, trivial⟩
/-- What is in a table. -/
def tbl (a b : Int) (f : Nat → Int) : List AV := [.int .i64 a, .int .i64 b, .int .i64 (f 0), .int .i64 (f 1), .int .i64 (f 2), .int .i64 (f 3), .int .i64 (f 4), .int .i64 (f 5), .int .i64 (f 6), .int .i64 (f 7), .int .i64 (f 8), .int .i64 (f 9)]
def ten (c0 c1 c2 c3 c4 c5 c6 c7 c8 c9 : Int) : Nat → Int
  | 0 => c0 | 1 => c1 | 2 => c2 | 3 => c3 | 4 => c4 | 5 => c5 | 6 => c6 | 7 => c7 | 8 => c8 | 9 => c9 | _ => 0
def ixC {α : Type} (i : Int) (g : Nat → Option α) : (n j : Nat) → Option α
  | 0, _ => none
  | n + 1, j => bif decide (i = (j : Int)) then g j else ixC i g n (j + 1)
theorem ixC_at {α : Type} {g : Nat → Option α} : ∀ (n j i : Nat), j ≤ i → i < j + n → ixC (i : Int) g n j = g i
  | 0, j, i, h1, h2 => by omega
  | n + 1, j, i, h1, h2 => by
    unfold ixC
    by_cases h : i = j
    · subst h; rw [cond_pos rfl]
    · rw [cond_neg (by omega)]
      exact ixC_at n (j + 1) i (by omega) (by omega)
theorem best_in (a b j : Int) (f : Nat → Int) (Tt : TypeId) (k : AV → List Box2 → Option (AV × List Box2)) : runF env T9 noInl allKept 0 Try.f28 [.ptr 0 0, .int .i64 j] [.cells Tt (tbl a b f)] k =
    bif !isB j then k (.int .i64 0) [.cells Tt (tbl a b f)] else ixC j (fun p => k (.int .i64 (f p)) [.cells Tt (tbl a b f)]) 10 0 := by kernel_rfl
def upd (f : Nat → Int) (q : Nat) (m : Int) : Nat → Int := fun i => match Nat.beq i q with | true => m | false => f i
theorem saw_in (a b j v : Int) (f : Nat → Int) (Tt : TypeId) (k : AV → List Box2 → Option (AV × List Box2)) : runF env T9 noInl allKept 0 Try.f27 [.ptr 0 0, .int .i64 j, .int .i64 v] [.cells Tt (tbl a b f)] k =
    bif !(!isB j) then bif !(j == a) then bif !mayB v then k (.bool false) [.cells Tt (tbl a b f)]
      else ixC j (fun p => ixC j (fun q => k (.bool true) [.cells Tt (tbl a b (upd f q (if v > f p then v else f p)))]) 10 0) 10 0
    else k (.bool false) [.cells Tt (tbl a b f)] else k (.bool false) [.cells Tt (tbl a b f)] := by kernel_rfl
theorem best_nil (j : Int) (k : AV → List Box2 → Option AV) : runF env T9 noInl allKept 0 Try.f28 [.nilp, .int .i64 j] [] k = k (.int .i64 0) [] := by kernel_rfl
theorem saw_nil (j v : Int) (k : AV → List Box2 → Option AV) : runF env T9 noInl allKept 0 Try.f27 [.nilp, .int .i64 j, .int .i64 v] [] k = k (.bool false) [] := by kernel_rfl
/-! ### As contracts -/
def tblIn : List AV → Option (Int × Int × (Nat → Int))
  | [.int .i64 a, .int .i64 b, .int .i64 c0, .int .i64 c1, .int .i64 c2, .int .i64 c3, .int .i64 c4, .int .i64 c5, .int .i64 c6, .int .i64 c7, .int .i64 c8, .int .i64 c9] => some (a, b, ten c0 c1 c2 c3 c4 c5 c6 c7 c8 c9)
  | _ => none
theorem tblIn_some {l : List AV} {a b : Int} {f : Nat → Int} (h : tblIn l = some (a, b, f)) : l = tbl a b f := by
  unfold tblIn at h
  split at h
  · cases h; rfl
  · cases h
def bestV (f : Nat → Int) (j : Int) : Int := bif isB j then f j.toNat else 0
def bestSp : List AV → List AV → List (Bool × AV × List AV)
  | l, [.int .i64 j] => match tblIn l with
    | some (a, b, f) => [(true, .int .i64 (bestV f j), tbl a b f)]
    | none => []
  | _, _ => []
def bestNil : List AV → List (Bool × AV)
  | [.nilp, .int .i64 j] => [(true, .int .i64 0)]
  | _ => []
def sawB (a j v : Int) : Bool := isB j && (!(j == a) && mayB v)
def sawF (f : Nat → Int) (a j v : Int) : Nat → Int := bif sawB a j v then upd f j.toNat (if v > f j.toNat then v else f j.toNat) else f
def sawSp : List AV → List AV → List (Bool × AV × List AV)
  | l, [.int .i64 j, .int .i64 v] => match tblIn l with
    | some (a, b, f) => [(true, .bool (sawB a j v), tbl a b (sawF f a j v))]
    | none => []
  | _, _ => []
def sawNil : List AV → List (Bool × AV)
  | [.nilp, .int .i64 j, .int .i64 v] => [(true, .bool false)]
  | _ => []
theorem isB_range {j : Int} (h : isB j = true) : ∃ i : Nat, j = (i : Int) ∧ 1 ≤ i ∧ i ≤ 9 := by
  unfold isB at h
  simp at h
  exact ⟨j.toNat, by omega, by omega, by omega⟩
theorem best_bor : BorOK Try.prog env 28 bestSp := by
  refine BorOK.of_run envOK tok9 fnBest (hv := allKept) (fun l rest r l' h Tt => ⟨noInl, 0, noInl_ok, ?_⟩)
  unfold bestSp at h
  split at h
  · rename_i l j
    split at h
    · rename_i a b f hl
      cases h
      rw [tblIn_some hl]
      refine (best_in a b j f Tt _).trans ?_
      cases hj : isB j with
      | false => simp only [bestV, hj]; rfl
      | true =>
        obtain ⟨i, rfl, h1, h2⟩ := isB_range hj
        simp only [bestV, hj, Bool.not_true, cond_false, cond_true, Int.toNat_natCast]
        rw [ixC_at 10 0 i (by omega) (by omega)]
        rfl
    · cases h
  · cases h
theorem best_pure : PureOK Try.prog env 28 bestNil := by
  refine PureOK.of_reads envOK tok9 noInl_ok fnBest (hv := allKept) (fun args r h => ?_)
  unfold bestNil at h
  split at h
  · cases h; exact ⟨_, 0, fun _ _ h => h, best_nil _ _⟩
  · cases h
theorem saw_bor : BorOK Try.prog env 27 sawSp := by
  refine BorOK.of_run envOK tok9 fnSaw (hv := allKept) (fun l rest r l' h Tt => ⟨noInl, 0, noInl_ok, ?_⟩)
  unfold sawSp at h
  split at h
  · rename_i l j v
    split at h
    · rename_i a b f hl
      cases h
      rw [tblIn_some hl]
      refine (saw_in a b j v f Tt _).trans ?_
      cases hj : isB j with
      | false => simp only [sawB, sawF, hj]; rfl
      | true =>
        obtain ⟨i, rfl, h1, h2⟩ := isB_range hj
        cases ha : ((i : Int) == a) with
        | true => simp only [sawB, sawF, hj, ha]; rfl
        | false =>
          cases hv : mayB v with
          | false => simp only [sawB, sawF, hj, ha, hv]; rfl
          | true =>
            simp only [sawB, sawF, hj, ha, hv, Bool.not_true, Bool.not_false, Bool.true_and, cond_false, cond_true, Int.toNat_natCast]
            rw [ixC_at 10 0 i (by omega) (by omega), ixC_at 10 0 i (by omega) (by omega)]
            rfl
    · cases h
  · cases h
theorem saw_pure : PureOK Try.prog env 27 sawNil := by
  refine PureOK.of_reads envOK tok9 noInl_ok fnSaw (hv := allKept) (fun args r h => ?_)
  unfold sawNil at h
  split at h
  · cases h; exact ⟨_, 0, fun _ _ h => h, saw_nil _ _ _⟩
  · cases h
end Go.Proofs.Ytopbldbgnpeelaa.V
