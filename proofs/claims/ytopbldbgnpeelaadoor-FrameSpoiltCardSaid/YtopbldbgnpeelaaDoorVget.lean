/- varint.Get as a function of data. No condition. -/
import Derived.Test.YtopbldbgnpeelaaDoorVlen
set_option maxRecDepth 100000
set_option linter.unusedVariables false
namespace Go.Proofs.YtopbldbgnpeelaaDoor.V
open Go Go.Proofs.AbsV
theorem fnGet : FnOK Tryd.prog 24 Tryd.f24 := ⟨by kernel_rfl, by kernel_rfl, by kernel_rfl⟩
abbrev getKeep : Keeps := keep [0,1,7,8] [0,1,4,5,6,7,8]
def getS (xs : List Int) (a v i : Int) : St := { fr := frOf [(0, .sl B xs none none), (1, .int .i64 a), (7, .int .u64 v), (8, .int .i64 i)] 63 0, bx := [] }
noncomputable def getBody : Code := codeAt (bodyOf Tryd.f24) [1,0,1,1,1,1,0,0,0]
noncomputable def getLoop (F n : Nat) (s : St) (k : Ex → St → Option AV) : Option AV := loopH 0 (some [0,1,7,8]) (some [0,1,4,5,6,7,8]) (fun s k => runC env T0 noInl getKeep F getBody 0 s k) n s k
noncomputable def getK (F : Nat) (k : AV → List Box2 → Option AV) : Ex → St → Option AV := contAt env T0 noInl getKeep F (bodyOf Tryd.f24) [1,0,1,1,1,1,0,0] 0 (endOf env Tryd.f24 k)
abbrev rdB (xs : List Int) (i : Nat) : Int := rdD B xs i
def getT (x y z : Int) : AV := .tup [.int .i64 x, .int .i64 y, .int .i64 z]
def getSh (a i : Int) : Int := IntKind.i64.wrap (Int.mul 7 (IntKind.i64.wrap (i.sub a)))
def getW (a i v c : Int) : Int := orI .u64 v (shlI .u64 (IntKind.u64.wrap (andI .u8 c 127)) (getSh a i))
def getFin (xs : List Int) (v i : Int) (k : AV → List Box2 → Option AV) : Option AV :=
  bif i == (xs.length : Int) then k (getT 0 0 1) [] else k (getT (IntKind.i64.wrap v) (IntKind.i64.wrap (i.add 1)) 0) []
noncomputable def getRest (F n : Nat) (xs : List Int) (a v i : Int) (k : AV → List Box2 → Option AV) : Option AV :=
  bif decide (getSh a i > 56) then k (getT 0 0 3) []
  else bif decide (v > 9223372036854775807) then k (getT 0 0 3) []
  else bif decide (0 ≤ getSh a i) then
    bif decide (rdB xs i.toNat < 128) then getFin xs (getW a i v (rdB xs i.toNat)) i k
    else getLoop F n (getS xs a (getW a i v (rdB xs i.toNat)) (IntKind.i64.wrap (i.add 1))) (getK F k)
  else none
theorem get_in (F : Nat) (xs : List Int) (a : Int) (k : AV → List Box2 → Option AV) : runF env T0 noInl getKeep F Tryd.f24 [.sl B xs none none, .int .i64 a] [] k =
    bif !decide (a < 0) then bif decide (a > (xs.length : Int)) then k (getT 0 0 6) [] else getLoop F F (getS xs a 0 a) (getK F k) else k (getT 0 0 6) [] := by kernel_rfl
theorem get_step (F n : Nat) (xs : List Int) (a v i : Int) (k : AV → List Box2 → Option AV) : getLoop F (n + 1) (getS xs a v i) (getK F k) =
    bif decide (i < (xs.length : Int)) then
      bif decide (0 ≤ i) && decide (i < (xs.length : Int)) then
        bif rdB xs i.toNat == 0 then bif decide (i > a) then k (getT 0 0 3) [] else getRest F n xs a v i k
        else getRest F n xs a v i k
      else none
    else getFin xs v i k := by kernel_rfl

/-! ### What it answers -/
def getE (xs : List Int) (v : Int) (i : Nat) : Int × Int × Int := if i = xs.length then (0, 0, 1) else (IntKind.i64.wrap v, (i : Int) + 1, 0)
def getL (xs : List Int) (a : Nat) : Nat → Int → Nat → Int × Int × Int
  | 0, _, _ => (0, 0, 3)
  | f + 1, v, i =>
    if i < xs.length then
      if (rdB xs i = 0 ∧ i > a) ∨ 7 * (i - a) > 56 ∨ v > 9223372036854775807 then (0, 0, 3)
      else if rdB xs i < 128 then getE xs (getW a i v (rdB xs i)) i
      else getL xs a f (getW a i v (rdB xs i)) (i + 1)
    else getE xs v i
def getR (t : Int × Int × Int) : AV := getT t.1 t.2.1 t.2.2
theorem getFin_eq {xs : List Int} (hx : xs.length ≤ 4611686018427387904) {v : Int} {i : Nat} (hi : i ≤ xs.length) {k : AV → List Box2 → Option AV} : getFin xs v i k = k (getR (getE xs v i)) [] := by
  unfold getFin getE
  by_cases h : i = xs.length
  · have : ((i : Int) == (xs.length : Int)) = true := by simp [h]
    rw [this, if_pos h]; rfl
  · have : ((i : Int) == (xs.length : Int)) = false := by rw [beq_eq_false_iff_ne]; omega
    have e : IntKind.i64.wrap (Int.add (i : Int) 1) = (i : Int) + 1 := by
      show IntKind.i64.wrap ((i : Int) + 1) = _
      exact IntWalk.i64_in _ (by omega)
    rw [this, if_neg h, cond_false, e]; rfl
theorem getSh_eq {a i : Nat} (h : a ≤ i) (hi : i ≤ 4611686018427387904) (hs : i - a ≤ 100) : getSh a i = ((7 * (i - a) : Nat) : Int) := by
  unfold getSh
  have e1 : IntKind.i64.wrap (Int.sub (i : Int) (a : Int)) = ((i - a : Nat) : Int) := by
    show IntKind.i64.wrap ((i : Int) - (a : Int)) = _
    rw [IntWalk.i64_in _ (by omega)]; omega
  rw [e1]
  show IntKind.i64.wrap (7 * ((i - a : Nat) : Int)) = _
  rw [IntWalk.i64_in _ (by omega)]; omega
theorem getRest_eq (F n : Nat) (xs : List Int) (hx : xs.length ≤ 4611686018427387904) (a i : Nat) (v : Int) (h : a ≤ i) (hs : i - a ≤ 9) (hi : i < xs.length) (k : AV → List Box2 → Option AV) :
    getRest F n xs a v i k = if 7 * (i - a) > 56 ∨ v > 9223372036854775807 then k (getT 0 0 3) [] else if rdB xs i < 128 then k (getR (getE xs (getW a i v (rdB xs i)) i)) [] else getLoop F n (getS xs a (getW a i v (rdB xs i)) ((i + 1 : Nat) : Int)) (getK F k) := by
  unfold getRest
  rw [getSh_eq h (by omega) (by omega), Int.toNat_natCast]
  by_cases h1 : 7 * (i - a) > 56
  · rw [cond_pos (by omega), if_pos (.inl h1)]
  · rw [cond_neg (by omega)]
    by_cases h2 : v > 9223372036854775807
    · rw [cond_pos h2, if_pos (.inr h2)]
    · rw [cond_neg h2, cond_pos (by omega), if_neg (by omega)]
      by_cases h3 : rdB xs i < 128
      · rw [cond_pos h3, if_pos h3, getFin_eq hx (by omega)]
      · have e : IntKind.i64.wrap (Int.add (i : Int) 1) = ((i + 1 : Nat) : Int) := by
          show IntKind.i64.wrap ((i : Int) + 1) = _
          rw [IntWalk.i64_in _ (by omega)]; omega
        rw [cond_neg h3, if_neg h3, e]
theorem get_loop (F : Nat) (xs : List Int) (hx : xs.length ≤ 4611686018427387904) (a : Nat) (k : AV → List Box2 → Option AV) : ∀ (f i : Nat) (v : Int), a ≤ i → i ≤ xs.length → i - a ≤ 9 → 9 ≤ f + (i - a) →
    getLoop F (f + 1) (getS xs a v i) (getK F k) = k (getR (getL xs a (f + 1) v i)) []
  | f, i, v, ha, hi, hs, hf => by
    rw [get_step]
    unfold getL
    by_cases h : i < xs.length
    · have hg : (decide (0 ≤ (i : Int)) && decide ((i : Int) < (xs.length : Int))) = true := by simp; omega
      rw [cond_pos (by omega), hg, cond_true, if_pos h, Int.toNat_natCast, getRest_eq F f xs hx a i v ha hs h k]
      have rest : ∀ (hz : ¬ (rdB xs i = 0 ∧ i > a)), (if 7 * (i - a) > 56 ∨ v > 9223372036854775807 then k (getT 0 0 3) [] else if rdB xs i < 128 then k (getR (getE xs (getW a i v (rdB xs i)) i)) [] else getLoop F f (getS xs a (getW a i v (rdB xs i)) ((i + 1 : Nat) : Int)) (getK F k)) =
          k (getR (if (rdB xs i = 0 ∧ i > a) ∨ 7 * (i - a) > 56 ∨ v > 9223372036854775807 then (0, 0, 3) else if rdB xs i < 128 then getE xs (getW a i v (rdB xs i)) i else getL xs a f (getW a i v (rdB xs i)) (i + 1))) [] := by
        intro hz
        by_cases h1 : 7 * (i - a) > 56 ∨ v > 9223372036854775807
        · rw [if_pos h1, if_pos (.inr h1)]; rfl
        · have hor : ¬ ((rdB xs i = 0 ∧ i > a) ∨ 7 * (i - a) > 56 ∨ v > 9223372036854775807) := fun h => h.elim hz h1
          rw [if_neg h1, if_neg hor]
          by_cases h3 : rdB xs i < 128
          · rw [if_pos h3, if_pos h3]
          · rw [if_neg h3, if_neg h3]
            cases f with
            | zero => omega
            | succ f => exact get_loop F xs hx a k f (i + 1) _ (by omega) (by omega) (by omega) (by omega)
      by_cases hz : rdB xs i = 0
      · have hb : (rdB xs i == 0) = true := by simp [hz]
        rw [hb, cond_true]
        by_cases hia : i > a
        · rw [cond_pos (by omega), if_pos (.inl ⟨hz, hia⟩)]; rfl
        · rw [cond_neg (by omega)]
          exact rest (fun h => hia h.2)
      · have hb : (rdB xs i == 0) = false := by rw [beq_eq_false_iff_ne]; exact hz
        rw [hb, cond_false]
        exact rest (fun h => hz h.1)
    · rw [cond_neg (by omega), if_neg h, getFin_eq hx hi]
def getSp : List AV → List (Bool × AV)
  | [y, .int .i64 a] => match bytesIn y with
    | some xs => [(decide (xs.length ≤ 4611686018427387904), getR (if a < 0 ∨ a > (xs.length : Int) then (0, 0, 6) else getL xs a.toNat 10 0 a.toNat))]
    | none => []
  | _ => []
theorem get_run (xs : List Int) (a : Int) (hx : xs.length ≤ 4611686018427387904) (k : AV → List Box2 → Option AV) : runF env T0 noInl getKeep 10 Tryd.f24 [.sl B xs none none, .int .i64 a] [] k =
    k (getR (if a < 0 ∨ a > (xs.length : Int) then (0, 0, 6) else getL xs a.toNat 10 0 a.toNat)) [] := by
  rw [get_in]
  by_cases h1 : a < 0
  · rw [decide_eq_true h1, if_pos (.inl h1)]; rfl
  · rw [decide_eq_false h1, Bool.not_false, cond_true]
    by_cases h2 : a > (xs.length : Int)
    · rw [cond_pos h2, if_pos (.inr h2)]; rfl
    · rw [cond_neg h2, if_neg (by omega)]
      have := get_loop 10 xs hx a.toNat k 9 a.toNat 0 (Nat.le_refl _) (by omega) (by omega) (by omega)
      rw [show ((a.toNat : Nat) : Int) = a by omega] at this
      exact this
theorem get_ok : PureOK Tryd.prog env 24 getSp := by
  refine PureOK.of_reads envOK tok0 noInl_ok fnGet (hv := getKeep) (fun args r h => ?_)
  unfold getSp at h
  split at h
  · rename_i y a
    split at h
    · rename_i xs hx
      by_cases hb : xs.length ≤ 4611686018427387904
      · rw [decide_eq_true hb] at h
        simp only [sel, cond_true, Option.some.injEq] at h
        subst h
        exact ⟨_, 10, .bytes hx (.same .nil), get_run xs a hb _⟩
      · rw [decide_eq_false hb] at h; cases h
    · cases h
  · cases h
end Go.Proofs.YtopbldbgnpeelaaDoor.V
