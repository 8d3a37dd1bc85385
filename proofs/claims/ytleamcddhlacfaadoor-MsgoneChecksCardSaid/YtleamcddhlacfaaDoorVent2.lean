/- Entries, bytes: likeness and size as functions of data. No condition. -/
import Derived.Test.YtleamcddhlacfaaDoorVent0b
import Derived.Test.YtleamcddhlacfaaDoorVent1
set_option maxRecDepth 100000
set_option linter.unusedVariables false
set_option linter.unusedSimpArgs false
namespace Go.Proofs.YtleamcddhlacfaaDoor.V
open Go Go.Proofs.AbsV
def sameL {α : Type} (q : α → α → Bool) : List α → List α → Bool
  | [], [] => true
  | x :: xs, y :: ys => q x y && sameL q xs ys
  | _, _ => false
theorem sameL_len {α : Type} {q : α → α → Bool} : ∀ {xs ys : List α}, xs.length ≠ ys.length → sameL q xs ys = false
  | [], [], h => absurd rfl h
  | [], y :: ys, h => rfl
  | x :: xs, [], h => rfl
  | x :: xs, y :: ys, h => by
    rw [sameL, sameL_len (xs := xs) (ys := ys) (fun e => h (by simp [e]))]
    simp
theorem sameL_refl {α : Type} {q : α → α → Bool} (hq : ∀ x, q x x = true) : ∀ (xs : List α), sameL q xs xs = true
  | [] => rfl
  | x :: xs => by rw [sameL, hq, sameL_refl hq xs]; rfl
def eqE (x y : EntD) : Bool := eqD ET x y
def sameEs (xs ys : List EntD) : Bool := sameL eqE xs ys
def sameBs (xs ys : List Int) : Bool := sameL (fun x y : Int => x == y) xs ys
theorem rd_b {xs : List Int} {i : Nat} (h : i < xs.length) : rdD (Ty.int IntKind.u8) xs (Int.toNat (i : Int)) = xs[i] := getD_at (α := Int) (i := i) h 0
theorem eeq_loop {α : Type} (F : Nat) (xs ys : List EntD) (hl : xs.length = ys.length) (hx : xs.length ≤ 1000000000000) (k : AV → List Box2 → Option α) : ∀ (n i : Nat), i + n = xs.length →
    eeq_L0 F (n + 1) xs ys ((xs.length : Nat) : Int) (i : Int) k = k (.bool (sameEs (xs.drop i) (ys.drop i))) []
  | 0, i, h => by rw [eeq_step0, cond_neg (by omega), List.drop_eq_nil_of_le (by omega), List.drop_eq_nil_of_le (by omega)]; rfl
  | n + 1, i, h => by
    have hi : i < xs.length := by omega
    have hj : i < ys.length := by omega
    rw [eeq_step0, cond_pos (by omega), inr hi, inr hj, stp (by omega), rd_ent hi, rd_ent hj, eeq_loop F xs ys hl hx k n (i + 1) (by omega), cond_true, cond_true, List.drop_eq_getElem_cons hi, List.drop_eq_getElem_cons hj]
    show (bif !eqE xs[i] ys[i] then k (.bool false) [] else k (.bool (sameEs (xs.drop (i + 1)) (ys.drop (i + 1)))) []) = k (.bool (eqE xs[i] ys[i] && sameEs (xs.drop (i + 1)) (ys.drop (i + 1)))) []
    cases eqE xs[i] ys[i] <;> rfl
theorem esame_loop {α : Type} (F : Nat) (xs ys : List EntD) (hl : xs.length = ys.length) (hx : xs.length ≤ 1000000000000) (k : AV → List Box2 → Option α) : ∀ (n i : Nat), i + n = xs.length →
    esame_L0 F (n + 1) xs ys (i : Int) k = k (.bool (sameEs (xs.drop i) (ys.drop i))) []
  | 0, i, h => by rw [esame_step0, cond_neg (by omega), List.drop_eq_nil_of_le (by omega), List.drop_eq_nil_of_le (by omega)]; rfl
  | n + 1, i, h => by
    have hi : i < xs.length := by omega
    have hj : i < ys.length := by omega
    rw [esame_step0, cond_pos (by omega), inr hi, inr hj, stp (by omega), rd_ent hi, rd_ent hj, esame_loop F xs ys hl hx k n (i + 1) (by omega), cond_true, cond_true, List.drop_eq_getElem_cons hi, List.drop_eq_getElem_cons hj]
    show (bif !eqE xs[i] ys[i] then k (.bool false) [] else k (.bool (sameEs (xs.drop (i + 1)) (ys.drop (i + 1)))) []) = k (.bool (eqE xs[i] ys[i] && sameEs (xs.drop (i + 1)) (ys.drop (i + 1)))) []
    cases eqE xs[i] ys[i] <;> rfl
theorem beq_loop {α : Type} (F : Nat) (xs ys : List Int) (hl : xs.length = ys.length) (hx : xs.length ≤ 1000000000000) (k : AV → List Box2 → Option α) : ∀ (n i : Nat), i + n = xs.length →
    beq_L0 F (n + 1) xs ys ((xs.length : Nat) : Int) (i : Int) k = k (.bool (sameBs (xs.drop i) (ys.drop i))) []
  | 0, i, h => by rw [beq_step0, cond_neg (by omega), List.drop_eq_nil_of_le (by omega), List.drop_eq_nil_of_le (by omega)]; rfl
  | n + 1, i, h => by
    have hi : i < xs.length := by omega
    have hj : i < ys.length := by omega
    rw [beq_step0, cond_pos (by omega), inr hi, inr hj, stp (by omega), rd_b hi, rd_b hj, beq_loop F xs ys hl hx k n (i + 1) (by omega), cond_true, cond_true, List.drop_eq_getElem_cons hi, List.drop_eq_getElem_cons hj]
    show (bif !(xs[i] == ys[i]) then k (.bool false) [] else k (.bool (sameBs (xs.drop (i + 1)) (ys.drop (i + 1)))) []) = k (.bool ((xs[i] == ys[i]) && sameBs (xs.drop (i + 1)) (ys.drop (i + 1)))) []
    cases (xs[i] == ys[i]) <;> rfl
theorem bsame_loop {α : Type} (F : Nat) (xs ys : List Int) (hl : xs.length = ys.length) (hx : xs.length ≤ 1000000000000) (k : AV → List Box2 → Option α) : ∀ (n i : Nat), i + n = xs.length →
    bsame_L0 F (n + 1) xs ys (i : Int) k = k (.bool (sameBs (xs.drop i) (ys.drop i))) []
  | 0, i, h => by rw [bsame_step0, cond_neg (by omega), List.drop_eq_nil_of_le (by omega), List.drop_eq_nil_of_le (by omega)]; rfl
  | n + 1, i, h => by
    have hi : i < xs.length := by omega
    have hj : i < ys.length := by omega
    rw [bsame_step0, cond_pos (by omega), inr hi, inr hj, stp (by omega), rd_b hi, rd_b hj, bsame_loop F xs ys hl hx k n (i + 1) (by omega), cond_true, cond_true, List.drop_eq_getElem_cons hi, List.drop_eq_getElem_cons hj]
    show (bif !(xs[i] == ys[i]) then k (.bool false) [] else k (.bool (sameBs (xs.drop (i + 1)) (ys.drop (i + 1)))) []) = k (.bool ((xs[i] == ys[i]) && sameBs (xs.drop (i + 1)) (ys.drop (i + 1)))) []
    cases (xs[i] == ys[i]) <;> rfl
theorem len_ne {α β : Type} {xs : List α} {ys : List β} (h : xs.length ≠ ys.length) : (((xs.length : Nat) : Int) != ((ys.length : Nat) : Int)) = true := by rw [bne, beq_eq_false_iff_ne.2 (by omega)]; rfl
theorem len_eq {α β : Type} {xs : List α} {ys : List β} (h : xs.length = ys.length) : (((xs.length : Nat) : Int) != ((ys.length : Nat) : Int)) = false := by rw [h]; simp
def sameESp : List AV → List (Bool × AV)
  | [x, y] => match entsIn x, entsIn y with
    | some xs, some ys => [(Nat.ble xs.length 1000000000000, .bool (sameEs xs ys))]
    | _, _ => []
  | _ => []
def sameBSp : List AV → List (Bool × AV)
  | [x, y] => match bytesIn x, bytesIn y with
    | some xs, some ys => [(Nat.ble xs.length 1000000000000, .bool (sameBs xs ys))]
    | _, _ => []
  | _ => []
theorem eeq_ok : PureOK Tryd.prog env 33 sameESp := by
  refine PureOK.of_reads envOK tok0 noInl_ok fn_eeq (hv := eeq_hv) (fun args r h => ?_)
  unfold sameESp at h
  split at h
  · split at h
    · rename_i xs ys hx hy
      obtain ⟨g, e⟩ := sel_one h
      simp only [Nat.ble_eq] at g
      subst e
      refine ⟨_, xs.length + 1, .src (τ := ET) hx (.src (τ := ET) hy .nil), (eeq_in _ xs ys (fun r _ => some r)).trans ?_⟩
      by_cases hl : xs.length = ys.length
      · rw [len_eq hl, cond_false]
        exact eeq_loop _ xs ys hl g _ xs.length 0 (by omega)
      · rw [len_ne hl, cond_true, sameEs, sameL_len hl]
    · cases h
  · cases h
theorem esame_ok : PureOK Tryd.prog env 35 sameESp := by
  refine PureOK.of_reads envOK tok0 noInl_ok fn_esame (hv := esame_hv) (fun args r h => ?_)
  unfold sameESp at h
  split at h
  · split at h
    · rename_i xs ys hx hy
      obtain ⟨g, e⟩ := sel_one h
      simp only [Nat.ble_eq] at g
      subst e
      refine ⟨_, xs.length + 1, .src (τ := ET) hx (.src (τ := ET) hy .nil), (esame_in _ xs ys (fun r _ => some r)).trans ?_⟩
      by_cases hl : xs.length = ys.length
      · rw [len_eq hl, cond_false]
        exact esame_loop _ xs ys hl g _ xs.length 0 (by omega)
      · rw [len_ne hl, cond_true, sameEs, sameL_len hl]
    · cases h
  · cases h
theorem beq_ok : PureOK Tryd.prog env 34 sameBSp := by
  refine PureOK.of_reads envOK tok0 noInl_ok fn_beq (hv := beq_hv) (fun args r h => ?_)
  unfold sameBSp at h
  split at h
  · split at h
    · rename_i xs ys hx hy
      obtain ⟨g, e⟩ := sel_one h
      simp only [Nat.ble_eq] at g
      subst e
      refine ⟨_, xs.length + 1, .bytes hx (.bytes hy .nil), (beq_in _ xs ys (fun r _ => some r)).trans ?_⟩
      by_cases hl : xs.length = ys.length
      · rw [len_eq hl, cond_false]
        exact beq_loop _ xs ys hl g _ xs.length 0 (by omega)
      · rw [len_ne hl, cond_true, sameBs, sameL_len hl]
    · cases h
  · cases h
theorem bsame_ok : PureOK Tryd.prog env 15 sameBSp := by
  refine PureOK.of_reads envOK tok0 noInl_ok fn_bsame (hv := bsame_hv) (fun args r h => ?_)
  unfold sameBSp at h
  split at h
  · split at h
    · rename_i xs ys hx hy
      obtain ⟨g, e⟩ := sel_one h
      simp only [Nat.ble_eq] at g
      subst e
      refine ⟨_, xs.length + 1, .bytes hx (.bytes hy .nil), (bsame_in _ xs ys (fun r _ => some r)).trans ?_⟩
      by_cases hl : xs.length = ys.length
      · rw [len_eq hl, cond_false]
        exact bsame_loop _ xs ys hl g _ xs.length 0 (by omega)
      · rw [len_ne hl, cond_true, sameBs, sameL_len hl]
    · cases h
  · cases h
/-! ### Too large to be looked at -/
def bigE (e : EntD) : Bool := decide ((e.2.2.1.2.2.2.1.size : Int) > 200) || (decide ((e.2.2.1.2.2.2.2.1.size : Int) > 200) || decide ((e.2.2.1.2.2.2.2.2.1.size : Int) > 200))
def lgL (big : Bool) : Nat → List EntD → Bool
  | 0, _ => big
  | m + 1, [] => big
  | m + 1, e :: r => bigE e || lgL big m r
def largeEs (xs : List EntD) : Bool := lgL (decide ((xs.length : Int) > 40)) 40 xs
theorem elarge_loop {α : Type} (F : Nat) (xs : List EntD) (hx : xs.length ≤ 1000000000000) (k : AV → List Box2 → Option α) : ∀ (n i : Nat), i + n = 40 →
    elarge_L0 F (n + 1) xs (i : Int) k = k (.bool (lgL (decide ((xs.length : Int) > 40)) n (xs.drop i))) []
  | 0, i, h => by
    rw [elarge_step0, cond_neg (show ¬ (i : Int) < 40 by omega), cond_same]
    rfl
  | n + 1, i, h => by
    by_cases hi : i < xs.length
    · rw [elarge_step0, cond_pos (by omega), cond_pos (by omega), inr hi, stp (by omega), rd_ent hi, elarge_loop F xs hx k n (i + 1) (by omega), cond_true, cond_true, cond_true, List.drop_eq_getElem_cons hi]
      show _ = k (.bool ((decide (((xs[i].2.2.1.2.2.2.1.size : Nat) : Int) > 200) || (decide (((xs[i].2.2.1.2.2.2.2.1.size : Nat) : Int) > 200) || decide (((xs[i].2.2.1.2.2.2.2.2.1.size : Nat) : Int) > 200))) || lgL (decide ((xs.length : Int) > 40)) n (xs.drop (i + 1)))) []
      cases decide (((xs[i].2.2.1.2.2.2.1.size : Nat) : Int) > 200) <;> cases decide (((xs[i].2.2.1.2.2.2.2.1.size : Nat) : Int) > 200) <;> cases decide (((xs[i].2.2.1.2.2.2.2.2.1.size : Nat) : Int) > 200) <;> rfl
    · rw [elarge_step0, cond_neg (by omega), List.drop_eq_nil_of_le (by omega)]
      rfl
def largeESp : List AV → List (Bool × AV)
  | [x] => match entsIn x with
    | some xs => [(Nat.ble xs.length 1000000000000, .bool (largeEs xs))]
    | _ => []
  | _ => []
theorem elarge_ok : PureOK Tryd.prog env 21 largeESp := by
  refine PureOK.of_reads envOK tok0 noInl_ok fn_elarge (hv := elarge_hv) (fun args r h => ?_)
  unfold largeESp at h
  split at h
  · split at h
    · rename_i xs hx
      obtain ⟨g, e⟩ := sel_one h
      simp only [Nat.ble_eq] at g
      subst e
      exact ⟨_, 41, .src (τ := ET) hx .nil, (elarge_in _ xs (fun r _ => some r)).trans (elarge_loop _ xs g _ 40 0 (by omega))⟩
    · cases h
  · cases h
theorem lgL_small : ∀ (m : Nat) (r : List EntD), r.length ≤ m → lgL false m r = false → ∀ e ∈ r, bigE e = false
  | m, [], h, hl, e, he => by cases he
  | 0, e0 :: r, h, hl, e, he => by simp at h
  | m + 1, e0 :: r, h, hl, e, he => by
    rw [lgL, Bool.or_eq_false_iff] at hl
    rcases List.mem_cons.1 he with rfl | he
    · exact hl.1
    · exact lgL_small m r (by simpa using h) hl.2 e he
theorem lgL_mono : ∀ (m : Nat) (r : List EntD), lgL true m r = true
  | 0, r => rfl
  | m + 1, [] => rfl
  | m + 1, e :: r => by rw [lgL, lgL_mono m r]; simp
theorem large_small {xs : List EntD} (h : largeEs xs = false) : xs.length ≤ 40 ∧ ∀ e ∈ xs, bigE e = false := by
  unfold largeEs at h
  by_cases hl : xs.length ≤ 40
  · rw [decide_eq_false (show ¬ ((xs.length : Nat) : Int) > 40 by omega)] at h
    exact ⟨hl, lgL_small 40 xs hl h⟩
  · rw [decide_eq_true (show ((xs.length : Nat) : Int) > 40 by omega), lgL_mono] at h
    cases h
end Go.Proofs.YtleamcddhlacfaaDoor.V
