/- The document's words of a number, and whether two lists are the same, as functions of data. No condition. -/
import Derived.Test.YtopbldbgnpeelaaDoorVput
import Derived.IntWalk
set_option maxRecDepth 100000
set_option linter.unusedVariables false
namespace Go.Proofs.YtopbldbgnpeelaaDoor.V
open Go Go.Proofs.AbsV

/-! ### changeoverref01.Bytes -/
theorem fnBytes : FnOK Tryd.prog 22 Tryd.f22 := ⟨by kernel_rfl, by kernel_rfl, by kernel_rfl⟩
def refS (x : AV) (m : Int) : St := { fr := frOf [(0, .int .i64 m), (3, x)] 22 0, bx := [] }
abbrev refOut (xs : List Int) : AV := .sl B xs none (some (1, 5))
noncomputable def refBody : Code := codeAt (bodyOf Tryd.f22) [1,1,1,0,0,0]
noncomputable def refLoop (F n : Nat) (s : St) (k : Ex → St → Option AV) : Option AV := loopH 0 (some [0,3]) (some [0,3]) (fun s k => runC env T0 noInl (keep [0,3] [0,3]) F refBody 0 s k) n s k
noncomputable def refK (F : Nat) (k : AV → List Box2 → Option AV) : Ex → St → Option AV := contAt env T0 noInl (keep [0,3] [0,3]) F (bodyOf Tryd.f22) [1,1,1,0,0] 0 (endOf env Tryd.f22 k)
theorem ref_in_neg (F : Nat) (m : Int) (k : AV → List Box2 → Option AV) : runF env T0 noInl (keep [0,3] [0,3]) F Tryd.f22 [.int .i64 m] [] k =
  bif decide (m < 0) then refLoop F F (refS .nilsl 0) (refK F k) else refLoop F F (refS .nilsl m) (refK F k) := by kernel_rfl
abbrev refW (m : Int) : Int := IntKind.u8.wrap (IntKind.i64.wrap (128 + m.tmod 128))
theorem ref_step0 (n F : Nat) (m : Int) (k : Ex → St → Option AV) : refLoop F (n + 1) (refS .nilsl m) k =
   bif decide (m > 127) then refLoop F n (refS (refOut [refW m]) (IntKind.i64.wrap (m.tdiv 128))) k
   else k (.exit 0) (refS .nilsl m) := by kernel_rfl
theorem ref_step (n F : Nat) (xs : List Int) (m : Int) (k : Ex → St → Option AV) : refLoop F (n + 1) (refS (refOut xs) m) k =
   bif decide (m > 127) then bif decide ((xs.length + 1) * 1 ≤ 140737488355328) then refLoop F n (refS (refOut (xs ++ [refW m])) (IntKind.i64.wrap (m.tdiv 128))) k else none
   else k (.exit 0) (refS (refOut xs) m) := by kernel_rfl
theorem ref_end0 (F : Nat) (m : Int) (k : AV → List Box2 → Option AV) :
   refK F k (.exit 0) (refS .nilsl m) = k (refOut [IntKind.u8.wrap m]) [] := by kernel_rfl
theorem ref_end (F : Nat) (xs : List Int) (m : Int) (k : AV → List Box2 → Option AV) :
   refK F k (.exit 0) (refS (refOut xs) m) = bif decide ((xs.length + 1) * 1 ≤ 140737488355328) then k (refOut (xs ++ [IntKind.u8.wrap m])) [] else none := by kernel_rfl
theorem or128 : ∀ x : Fin 256, orI .u8 (x.val : Int) 128 = 128 + ((x.val % 128 : Nat) : Int) := by decide
theorem refW_eq {m : Int} (h : 0 ≤ m) : refW m = orI .u8 (IntKind.u8.wrap m) 128 := by
  unfold refW
  rw [Int.tmod_eq_emod_of_nonneg h, IntWalk.i64_in _ (by omega), IntWalk.u8_in _ (by omega), IntKind.wrap_u8]
  have := or128 ⟨(m % 256).toNat, by omega⟩
  simp only at this
  rw [show ((m % 256).toNat : Int) = m % 256 by omega] at this
  rw [this]; omega
theorem ref_loop (F : Nat) (k : AV → List Box2 → Option AV) : ∀ (f : Nat) (xs : List Int) (m : Int), 0 ≤ m → m < 9223372036854775808 → m < 128 ^ (f + 1) → xs.length + f + 1 ≤ 140737488355328 →
    refLoop F (f + 1) (refS (refOut xs) m) (refK F k) = k (refOut (xs ++ putL f m)) []
  | 0, xs, m, h0, hm, h1, h2 => by
    rw [ref_step, cond_neg (by omega), ref_end, cond_pos (by omega)]
    rfl
  | f + 1, xs, m, h0, hm, h1, h2 => by
    rw [ref_step]
    by_cases h : m ≥ 128
    · have hq : IntKind.i64.wrap (m.tdiv 128) = shrI .i64 m 7 := by rw [IntWalk.i64_quo _ _ (by omega), shr7]
      rw [cond_pos (by omega), cond_pos (by omega), hq, ref_loop F k f _ _ (by rw [shr7]; omega) (by rw [shr7]; omega) (by rw [shr7, Int.pow_succ] at *; omega) (by simp; omega), refW_eq h0, putL_pos h]
      simp
    · rw [cond_neg (by omega), ref_end, cond_pos (by omega), putL_neg h]
theorem ref_loop0 (F : Nat) (k : AV → List Box2 → Option AV) (f : Nat) (m : Int) (h0 : 0 ≤ m) (hm : m < 9223372036854775808) (h1 : m < 128 ^ (f + 1 + 1)) (h2 : f + 2 ≤ 140737488355328) :
    refLoop F (f + 1 + 1) (refS .nilsl m) (refK F k) = k (refOut (putL (f + 1) m)) [] := by
  rw [ref_step0]
  by_cases h : m ≥ 128
  · have hq : IntKind.i64.wrap (m.tdiv 128) = shrI .i64 m 7 := by rw [IntWalk.i64_quo _ _ (by omega), shr7]
    rw [cond_pos (by omega), hq, ref_loop F k f _ _ (by rw [shr7]; omega) (by rw [shr7]; omega) (by rw [shr7, Int.pow_succ] at *; omega) (by simp; omega), refW_eq h0, putL_pos h]
    simp
  · rw [cond_neg (by omega), ref_end0, putL_neg h]
def bytesSp : List AV → List (Bool × AV)
  | [.int .i64 n] => [(decide (n < 9223372036854775808), refOut (putL 9 (if 0 > n then 0 else n)))]
  | _ => []
theorem bytes_ok : PureOK Tryd.prog env 22 bytesSp := by
  refine PureOK.of_run envOK tok0 noInl_ok fnBytes (hv := keep [0,3] [0,3]) (fun args r h => ⟨10, ?_⟩)
  unfold bytesSp at h
  split at h
  · rename_i n
    by_cases hb : n < 9223372036854775808
    · rw [decide_eq_true hb] at h
      simp only [sel, cond_true, Option.some.injEq] at h
      subst h
      have hp : (128 : Int) ^ (8 + 1 + 1) = 1180591620717411303424 := by decide
      refine (ref_in_neg 10 n _).trans ?_
      by_cases hn : n < 0
      · rw [cond_pos hn, ref_loop0 10 _ 8 0 (by omega) (by omega) (by rw [hp]; omega) (by omega), if_pos (by omega)]
      · rw [cond_neg hn, ref_loop0 10 _ 8 n (by omega) (by omega) (by rw [hp]; omega) (by omega), if_neg (by omega)]
    · rw [decide_eq_false hb] at h; cases h
  · cases h

/-! ### changeoverref01.Same -/
theorem fnSame : FnOK Tryd.prog 10 Tryd.f10 := ⟨by kernel_rfl, by kernel_rfl, by kernel_rfl⟩
def sameS (xs ys : List Int) (i : Int) : St := { fr := frOf [(0, .sl B xs none none), (1, .sl B ys none none), (5, .int .i64 i)] 26 0, bx := [] }
noncomputable def sameBody : Code := codeAt (bodyOf Tryd.f10) [1,1,0,1,0,0]
noncomputable def sameLoop (F n : Nat) (s : St) (k : Ex → St → Option AV) : Option AV := loopH 0 (some [0,1,5]) (some [4]) (fun s k => runC env T0 noInl (keep [0,1,5] [4]) F sameBody 0 s k) n s k
noncomputable def sameK (F : Nat) (k : AV → List Box2 → Option AV) : Ex → St → Option AV := contAt env T0 noInl (keep [0,1,5] [4]) F (bodyOf Tryd.f10) [1,1,0,1,0] 0 (endOf env Tryd.f10 k)
theorem same_in (F : Nat) (xs ys : List Int) (k : AV → List Box2 → Option AV) : runF env T0 noInl (keep [0,1,5] [4]) F Tryd.f10 [.sl B xs none none, .sl B ys none none] [] k =
  bif ((xs.length : Int) != (ys.length : Int)) then k (.bool false) [] else sameLoop F F (sameS xs ys 0) (sameK F k) := by kernel_rfl
theorem same_step (F n : Nat) (xs ys : List Int) (i : Int) (k : AV → List Box2 → Option AV) : sameLoop F (n + 1) (sameS xs ys i) (sameK F k) =
  bif decide (i < (xs.length : Int)) then
    bif (decide (0 ≤ i) && decide (i < (xs.length : Int))) then bif (decide (0 ≤ i) && decide (i < (ys.length : Int))) then
      bif (xs.getD i.toNat 0 != ys.getD i.toNat 0) then k (.bool false) [] else sameLoop F n (sameS xs ys (IntKind.i64.wrap (i + 1))) (sameK F k)
    else none else none
  else k (.bool true) [] := by kernel_rfl
theorem same_loop (F : Nat) (xs ys : List Int) (hl : xs.length = ys.length) (hb : xs.length ≤ 4611686018427387904) (k : AV → List Box2 → Option AV) : ∀ (n i : Nat), i + n = xs.length →
    sameLoop F (n + 1) (sameS xs ys i) (sameK F k) = k (.bool (xs.drop i == ys.drop i)) []
  | 0, i, h => by
    rw [same_step, cond_neg (by omega), List.drop_eq_nil_of_le (by omega), List.drop_eq_nil_of_le (by omega)]
    rfl
  | n + 1, i, h => by
    have hx : i < xs.length := by omega
    have hy : i < ys.length := by omega
    rw [same_step, cond_pos (by omega)]
    have h1 : (decide (0 ≤ (i : Int)) && decide ((i : Int) < (xs.length : Int))) = true := by simp; omega
    have h2 : (decide (0 ≤ (i : Int)) && decide ((i : Int) < (ys.length : Int))) = true := by simp; omega
    rw [h1, h2]
    simp only [cond_true, Int.toNat_natCast]
    rw [List.getD_eq_getElem?_getD, List.getD_eq_getElem?_getD, List.getElem?_eq_getElem hx, List.getElem?_eq_getElem hy]
    simp only [Option.getD_some]
    have hd : (xs.drop i == ys.drop i) = (xs[i] == ys[i] && (xs.drop (i + 1) == ys.drop (i + 1))) := by
      rw [List.drop_eq_getElem_cons hx, List.drop_eq_getElem_cons hy]; rfl
    rw [hd]
    by_cases he : xs[i] = ys[i]
    · have h3 : (xs[i] != ys[i]) = false := by simp [he]
      have h4 : (xs[i] == ys[i]) = true := by simp [he]
      rw [h3, h4]
      simp only [cond_false, Bool.true_and]
      rw [IntWalk.i64_in _ (by omega), show ((i : Int) + 1) = ((i + 1 : Nat) : Int) by omega, same_loop F xs ys hl hb k n (i + 1) (by omega)]
    · have h3 : (xs[i] != ys[i]) = true := by simp [he]
      have h4 : (xs[i] == ys[i]) = false := by simp [he]
      rw [h3, h4]
      rfl
def sameSp : List AV → List (Bool × AV)
  | [a, b] => match bytesIn a, bytesIn b with
    | some xs, some ys => [(decide (xs.length ≤ 4611686018427387904), .bool (xs == ys))]
    | _, _ => []
  | _ => []
theorem same_ok : PureOK Tryd.prog env 10 sameSp := by
  refine PureOK.of_reads envOK tok0 noInl_ok fnSame (hv := keep [0,1,5] [4]) (fun args r h => ?_)
  unfold sameSp at h
  split at h
  · rename_i a b
    split at h
    · rename_i xs ys hx hy
      refine ⟨_, xs.length + 1, .bytes hx (.bytes hy .nil), ?_⟩
      by_cases hb : xs.length ≤ 4611686018427387904
      · rw [decide_eq_true hb] at h
        simp only [sel, cond_true, Option.some.injEq] at h
        subst h
        refine (same_in _ xs ys _).trans ?_
        by_cases hl : xs.length = ys.length
        · have : ((xs.length : Int) != (ys.length : Int)) = false := by simp [hl]
          rw [this]
          simp only [cond_false]
          have := same_loop (xs.length + 1) xs ys hl hb (fun r bx => some r) xs.length 0 (by omega)
          simpa using this
        · have : ((xs.length : Int) != (ys.length : Int)) = true := by simp; omega
          rw [this]
          have hne : (xs == ys) = false := by
            rw [beq_eq_false_iff_ne]
            intro e; exact hl (by rw [e])
          rw [hne]; rfl
      · rw [decide_eq_false hb] at h; cases h
    · cases h
  · cases h
end Go.Proofs.YtopbldbgnpeelaaDoor.V
