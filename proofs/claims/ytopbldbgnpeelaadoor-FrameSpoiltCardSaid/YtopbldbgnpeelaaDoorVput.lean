/- slices.Clone and varint.Put as functions of data. No condition. -/
import Derived.Test.YtopbldbgnpeelaaDoorAc
import Derived.Test.YtopbldbgnpeelaaDoorEnv
import Derived.Eval
set_option maxRecDepth 100000
set_option linter.unusedVariables false
namespace Go.Proofs.YtopbldbgnpeelaaDoor.V
open Go Go.Proofs.AbsV

abbrev B : Ty := .int .u8
theorem mixed : Tryd.prog.follows .mixedOrders = true := by kernel_rfl
def T0 : FuncId → Option CSpec := fun _ => none
theorem tok0 : TOK Tryd.prog env T0 := ⟨mixed, fun f sp h => by (cases h), fun f sp spn h => by (cases h)⟩
def keep (h e : List Nat) : Keeps := fun _ => some (h, e)

/-! ### slices.Clone -/
theorem fnClone : FnOK Tryd.prog 26 Tryd.f26 := ⟨by kernel_rfl, by kernel_rfl, by kernel_rfl⟩
theorem clone_ok : PureOK Tryd.prog env 26 (cloneSp B 5 1) :=
  pureOK_clone envOK tok0 fnClone (hv := keep [] []) (fun k => by kernel_rfl) (fun k => by kernel_rfl) (fun xs k => by kernel_rfl)

/-! ### varint.Put -/
/-- The words of a number. -/
def putL : Nat → Int → List Int
  | 0, m => [IntKind.u8.wrap m]
  | f + 1, m => if m ≥ 128 then orI .u8 (IntKind.u8.wrap m) 128 :: putL f (shrI .i64 m 7) else [IntKind.u8.wrap m]
theorem putL_pos {f : Nat} {m : Int} (h : m ≥ 128) : putL (f + 1) m = orI .u8 (IntKind.u8.wrap m) 128 :: putL f (shrI .i64 m 7) := by rw [putL, if_pos h]
theorem putL_neg {f : Nat} {m : Int} (h : ¬ m ≥ 128) : putL (f + 1) m = [IntKind.u8.wrap m] := by rw [putL, if_neg h]
theorem putL_length : ∀ f m, (putL f m).length ≤ f + 1
  | 0, m => by simp [putL]
  | f + 1, m => by
    unfold putL
    split
    · have := putL_length f (shrI .i64 m 7)
      simp; omega
    · simp
theorem shr7 (m : Int) : shrI .i64 m 7 = m / 128 := by
  have h : (min (7 : Int).toNat IntKind.i64.bits) = 7 := by decide
  unfold shrI
  rw [h, Int.fdiv_eq_ediv_of_nonneg _ (by decide)]
  rfl
def putSp (e : TypeId) : List AV → List (Bool × AV)
  | [y, .int .i64 n] => match bytesIn y with
    | some xs => [(decide (xs.length ≤ 1000000000000) && decide (n < 9223372036854775808), .sl B (xs ++ putL 9 (if 0 > n then 0 else n)) none (some (0, e)))]
    | none => []
  | _ => []
def T1 : FuncId → Option CSpec := tab [(26, cloneSp B 5 1)]
theorem tok1 : TOK Tryd.prog env T1 := tok_tab mixed ⟨clone_ok, trivial⟩
theorem fnPut : FnOK Tryd.prog 19 Tryd.f19 := ⟨by kernel_rfl, by kernel_rfl, by kernel_rfl⟩
def putS (xs : List Int) (m : Int) : St := { fr := frOf [(1, .int .i64 m), (5, .sl B xs none (some (0, 5)))] 25 0, bx := [] }
noncomputable def putBody : Code := codeAt (bodyOf Tryd.f19) [1,1,0,1,0,0]
noncomputable def putLoop (F n : Nat) (s : St) (k : Ex → St → Option AV) : Option AV := loopH 0 (some [1,5]) (some [1,5]) (fun s k => runC env T1 noInl (keep [1,5] [1,5]) F putBody 0 s k) n s k
noncomputable def putK (F : Nat) (k : AV → List Box2 → Option AV) : Ex → St → Option AV := contAt env T1 noInl (keep [1,5] [1,5]) F (bodyOf Tryd.f19) [1,1,0,1,0] 0 (endOf env Tryd.f19 k)
theorem put_step (n F : Nat) (xs : List Int) (m : Int) (k : Ex → St → Option AV) :
  putLoop F (n + 1) (putS xs m) k =
   bif decide (m ≥ 128) then bif decide ((xs.length + 1) * 1 ≤ 140737488355328) then putLoop F n (putS (xs ++ [orI .u8 (IntKind.u8.wrap m) 128]) (shrI .i64 m 7)) k else none
   else k (.exit 0) (putS xs m) := by kernel_rfl
theorem put_end (F : Nat) (xs : List Int) (m : Int) (k : AV → List Box2 → Option AV) :
   putK F k (.exit 0) (putS xs m) = bif decide ((xs.length + 1) * 1 ≤ 140737488355328) then k (.sl B (xs ++ [IntKind.u8.wrap m]) none (some (0, 5))) [] else none := by kernel_rfl
theorem put_in (F : Nat) (xs : List Int) (nl : Option Bool) (m : Int) (k : AV → List Box2 → Option AV) : runF env T1 noInl (keep [1,5] [1,5]) F Tryd.f19 [.sl B xs nl none, .int .i64 m] [] k =
  bif decide (xs.length * 1 ≤ 140737488355328) then putLoop F F (putS xs (if 0 > m then 0 else m)) (putK F k) else none := by kernel_rfl
theorem put_in_nil (F : Nat) (m : Int) (k : AV → List Box2 → Option AV) : runF env T1 noInl (keep [1,5] [1,5]) F Tryd.f19 [.nilsl, .int .i64 m] [] k =
  putLoop F F (putS [] (if 0 > m then 0 else m)) (putK F k) := by kernel_rfl
theorem put_loop (F : Nat) (k : AV → List Box2 → Option AV) : ∀ (f : Nat) (xs : List Int) (m : Int), 0 ≤ m → m < 128 ^ (f + 1) → xs.length + f + 1 ≤ 140737488355328 →
    putLoop F (f + 1) (putS xs m) (putK F k) = k (.sl B (xs ++ putL f m) none (some (0, 5))) []
  | 0, xs, m, h0, h1, h2 => by
    rw [put_step, cond_neg (by omega), put_end, cond_pos (by omega)]
    rfl
  | f + 1, xs, m, h0, h1, h2 => by
    rw [put_step]
    by_cases h : m ≥ 128
    · rw [cond_pos h, cond_pos (by omega), put_loop F k f _ _ (by rw [shr7]; omega) (by rw [shr7, Int.pow_succ] at *; omega) (by simp; omega)]
      rw [putL_pos h]
      simp
    · rw [cond_neg h, put_end, cond_pos (by omega)]
      rw [putL_neg h]
theorem put_ok : PureOK Tryd.prog env 19 (putSp 5) := by
  refine PureOK.of_run envOK tok1 noInl_ok fnPut (hv := keep [1,5] [1,5]) (fun args r h => ⟨10, ?_⟩)
  unfold putSp at h
  split at h
  · rename_i y n
    split at h
    · rename_i xs hxs
      cases hb : (decide (xs.length ≤ 1000000000000) && decide (n < 9223372036854775808)) with
      | false => simp only [sel, hb, cond_false] at h; cases h
      | true =>
        simp only [sel, hb, cond_true, Option.some.injEq] at h
        subst h
        simp only [Bool.and_eq_true, decide_eq_true_eq] at hb
        have hm0 : 0 ≤ (if 0 > n then 0 else n) := by split <;> omega
        have hm1 : (if 0 > n then 0 else n) < 128 ^ (9 + 1) := by
          have : (128 : Int) ^ (9 + 1) = 1180591620717411303424 := by decide
          rw [this]; split <;> omega
        rcases bytesIn_some hxs with ⟨nl, own, rfl⟩ | ⟨rfl, rfl⟩
        · exact (put_in 10 xs nl n _).trans (by rw [cond_pos (by omega), put_loop 10 _ 9 xs _ hm0 hm1 (by omega)])
        · exact (put_in_nil 10 n _).trans (by rw [put_loop 10 _ 9 [] _ hm0 hm1 (by simp)])
    · cases h
  · cases h
end Go.Proofs.YtopbldbgnpeelaaDoor.V
