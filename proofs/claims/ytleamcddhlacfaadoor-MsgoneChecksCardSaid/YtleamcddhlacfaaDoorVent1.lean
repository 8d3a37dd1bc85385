/- Entries: the checks as one function of data. No condition. -/
import Derived.Test.YtleamcddhlacfaaDoorVent0
set_option maxRecDepth 100000
set_option linter.unusedVariables false
set_option linter.unusedSimpArgs false
namespace Go.Proofs.YtleamcddhlacfaaDoor.V
open Go Go.Proofs.AbsV
def lePrev : Option Int → Int → Bool
  | none, _ => false
  | some p, x => decide (x ≤ p)
/-- What is wrong with entries. -/
def chkEs : Option Int → List EntD → Int
  | _, [] => 0
  | p, e :: r => bif oneE e != 0 then oneE e else bif lePrev p e.1 then 12 else chkEs (some e.1) r
def gEs (es : List EntD) : Bool := Nat.ble es.length 1000000000000 && es.all gE
def prevAt (es : List EntD) : Nat → Option Int
  | 0 => none
  | j + 1 => es[j]?.map (·.1)
theorem getD_at {α : Type} {xs : List α} {i : Nat} (h : i < xs.length) (d : α) : xs.getD i d = xs[i] := by
  rw [List.getD_eq_getElem?_getD, List.getElem?_eq_getElem h]
  rfl
theorem rd_ent {es : List EntD} {i : Nat} (h : i < es.length) : rdD ET es (Int.toNat (i : Int)) = es[i] := getD_at (α := EntD) (i := i) h ET.dflt
theorem sub1 {i : Nat} (h0 : 0 < i) (h : i ≤ 4611686018427387904) : IntKind.i64.wrap (Int.sub (i : Int) 1) = ((i - 1 : Nat) : Int) := by
  show IntKind.i64.wrap ((i : Int) - 1) = _
  rw [w64 (by omega) (by omega)]; omega
theorem prev_le {es : List EntD} {i : Nat} (h : i < es.length) : (decide ((i : Int) > 0) && decide (es[i].1 ≤ (es[i - 1]'(by omega)).1)) = lePrev (prevAt es i) es[i].1 := by
  cases i with
  | zero => rfl
  | succ j =>
    show _ = lePrev (es[j]?.map (·.1)) es[j + 1].1
    rw [List.getElem?_eq_getElem (show j < es.length by omega), decide_eq_true (show ((j + 1 : Nat) : Int) > 0 by omega), Bool.true_and]
    rfl
theorem echk_st {α : Type} (F n : Nat) (es : List EntD) (i : Nat) (h : i < es.length) (hx : es.length ≤ 1000000000000) (hg : gE es[i] = true) (k : AV → List Box2 → Option α) : echk_L0 F (n + 1) es (i : Int) k =
    bif oneE es[i] != 0 then k (.int .i64 (oneE es[i])) [] else bif lePrev (prevAt es i) es[i].1 then k (.int .i64 12) [] else echk_L0 F n es ((i + 1 : Nat) : Int) k := by
  rw [echk_step0, cond_pos (by omega), inr h, cond_true, rd_ent h, stp (by omega), ← prev_le h]
  show (bif gE es[i] then bif oneE es[i] != 0 then k (.int .i64 (oneE es[i])) [] else _ else none) = _
  rw [hg, cond_true]
  congr 1
  by_cases h0 : 0 < i
  · rw [cond_pos (show (i : Int) > 0 by omega), sub1 h0 (by omega), inr (show i - 1 < es.length by omega), cond_true, rd_ent (show i - 1 < es.length by omega), decide_eq_true (show (i : Int) > 0 by omega), Bool.true_and]
  · rw [cond_neg (show ¬ (i : Int) > 0 by omega), decide_eq_false (show ¬ (i : Int) > 0 by omega)]; rfl
theorem oneE_eq (e : EntD) : oneE e = bif decide (e.1 < 1) || (decide (e.1 > 4294967296) || !bmB e.2.1.1 e.2.1.2.1) then 6 else chkCD e.2.2.1 := rfl
theorem rechk_st {α : Type} (F n : Nat) (es : List EntD) (i : Nat) (h : i < es.length) (hx : es.length ≤ 1000000000000) (hg : gE es[i] = true) (k : AV → List Box2 → Option α) : rechk_L0 F (n + 1) es (i : Int) k =
    bif oneE es[i] != 0 then k (.int .i64 (oneE es[i])) [] else bif lePrev (prevAt es i) es[i].1 then k (.int .i64 12) [] else rechk_L0 F n es ((i + 1 : Nat) : Int) k := by
  rw [rechk_step0, cond_pos (by omega), inr h, cond_true, rd_ent h, stp (by omega), ← prev_le h, cond_true, cond_true, cond_true, cond_true, oneE_eq]
  have hgc : gCD es[i].2.2.1 = true := hg
  show (bif !decide (es[i].1 < 1) then bif !decide (es[i].1 > 4294967296) then bif !bmB es[i].2.1.1 es[i].2.1.2.1 then k (.int .i64 6) [] else bif gCD es[i].2.2.1 then bif chkCD es[i].2.2.1 != 0 then k (.int .i64 (chkCD es[i].2.2.1)) [] else _ else none else _ else _) = _
  rw [hgc, cond_true]
  have hr : ∀ (a b : Option α), (bif decide ((i : Int) > 0) then bif decide (0 ≤ IntKind.wrap IntKind.i64 (Int.sub (i : Int) 1)) && decide (IntKind.wrap IntKind.i64 (Int.sub (i : Int) 1) < (((List.length es) : Nat) : Int)) then bif decide (es[i].1 ≤ dI (rdD ET es (Int.toNat (IntKind.wrap IntKind.i64 (Int.sub (i : Int) 1)))).1) then a else b else none else b) =
      bif (decide ((i : Int) > 0) && decide (es[i].1 ≤ (es[i - 1]'(by omega)).1)) then a else b := by
    intro a b
    by_cases h0 : 0 < i
    · rw [cond_pos (show (i : Int) > 0 by omega), sub1 h0 (by omega), inr (show i - 1 < es.length by omega), cond_true, rd_ent (show i - 1 < es.length by omega), decide_eq_true (show (i : Int) > 0 by omega), Bool.true_and]
    · rw [cond_neg (show ¬ (i : Int) > 0 by omega), decide_eq_false (show ¬ (i : Int) > 0 by omega)]; rfl
  rw [← hr]
  cases decide (es[i].1 < 1)
  · cases decide (es[i].1 > 4294967296)
    · cases bmB es[i].2.1.1 es[i].2.1.2.1
      · rfl
      · rfl
    · rfl
  · rfl
theorem all_at {es : List EntD} (h : es.all gE = true) {i : Nat} (hi : i < es.length) : gE es[i] = true := List.all_eq_true.1 h _ (List.getElem_mem hi)
theorem prevAt_succ {es : List EntD} {i : Nat} (h : i < es.length) : prevAt es (i + 1) = some es[i].1 := by
  show es[i]?.map (·.1) = _
  rw [List.getElem?_eq_getElem h]
  rfl
theorem echk_loop {α : Type} (F : Nat) (es : List EntD) (hx : es.length ≤ 1000000000000) (hg : es.all gE = true) (k : AV → List Box2 → Option α) : ∀ (n i : Nat), i + n = es.length → echk_L0 F (n + 1) es (i : Int) k = k (.int .i64 (chkEs (prevAt es i) (es.drop i))) []
  | 0, i, h => by rw [echk_step0, cond_neg (by omega), List.drop_eq_nil_of_le (by omega)]; rfl
  | n + 1, i, h => by
    have hi : i < es.length := by omega
    rw [echk_st F (n + 1) es i hi hx (all_at hg hi), echk_loop F es hx hg k n (i + 1) (by omega), List.drop_eq_getElem_cons hi, prevAt_succ hi]
    show _ = k (.int .i64 (bif oneE es[i] != 0 then oneE es[i] else bif lePrev (prevAt es i) es[i].1 then 12 else chkEs (some es[i].1) (es.drop (i + 1)))) []
    cases (oneE es[i] != 0) <;> cases lePrev (prevAt es i) es[i].1 <;> rfl
theorem rechk_loop {α : Type} (F : Nat) (es : List EntD) (hx : es.length ≤ 1000000000000) (hg : es.all gE = true) (k : AV → List Box2 → Option α) : ∀ (n i : Nat), i + n = es.length → rechk_L0 F (n + 1) es (i : Int) k = k (.int .i64 (chkEs (prevAt es i) (es.drop i))) []
  | 0, i, h => by rw [rechk_step0, cond_neg (by omega), List.drop_eq_nil_of_le (by omega)]; rfl
  | n + 1, i, h => by
    have hi : i < es.length := by omega
    rw [rechk_st F (n + 1) es i hi hx (all_at hg hi), rechk_loop F es hx hg k n (i + 1) (by omega), List.drop_eq_getElem_cons hi, prevAt_succ hi]
    show _ = k (.int .i64 (bif oneE es[i] != 0 then oneE es[i] else bif lePrev (prevAt es i) es[i].1 then 12 else chkEs (some es[i].1) (es.drop (i + 1)))) []
    cases (oneE es[i] != 0) <;> cases lePrev (prevAt es i) es[i].1 <;> rfl
def entsIn (y : AV) : Option (List EntD) := srcOf ET y
def chkESp : List AV → List (Bool × AV)
  | [y] => match entsIn y with
    | some es => [(gEs es, .int .i64 (chkEs none es))]
    | none => []
  | _ => []
theorem echk_ok : PureOK Tryd.prog env 25 chkESp := by
  refine PureOK.of_reads envOK tokE2 noInl_ok fn_echk (hv := echk_hv) (fun args r h => ?_)
  unfold chkESp at h
  split at h
  · rename_i y
    split at h
    · rename_i es hes
      obtain ⟨g, e⟩ := sel_one h
      subst e
      simp only [gEs, Bool.and_eq_true, Nat.ble_eq] at g
      exact ⟨_, es.length + 1, .src (τ := ET) hes .nil, (echk_in (es.length + 1) es (fun r _ => some r)).trans (echk_loop _ es g.1 g.2 _ es.length 0 (by omega))⟩
    · cases h
  · cases h
theorem rechk_ok : PureOK Tryd.prog env 31 chkESp := by
  refine PureOK.of_reads envOK tokE3 noInl_ok fn_rechk (hv := rechk_hv) (fun args r h => ?_)
  unfold chkESp at h
  split at h
  · rename_i y
    split at h
    · rename_i es hes
      obtain ⟨g, e⟩ := sel_one h
      subst e
      simp only [gEs, Bool.and_eq_true, Nat.ble_eq] at g
      exact ⟨_, es.length + 1, .src (τ := ET) hes .nil, (rechk_in (es.length + 1) es (fun r _ => some r)).trans (rechk_loop _ es g.1 g.2 _ es.length 0 (by omega))⟩
    · cases h
  · cases h
end Go.Proofs.YtleamcddhlacfaaDoor.V
