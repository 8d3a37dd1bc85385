/- frame.Add and frame.Len as functions of data. No condition. -/
import Derived.Test.YtopbldbgnpeelaaDoorVframe
set_option maxRecDepth 100000
set_option linter.unusedVariables false
set_option linter.unusedSimpArgs false
namespace Go.Proofs.YtopbldbgnpeelaaDoor.V
open Go Go.Proofs.AbsV
/-! ### frame.Add, frame.Len -/
theorem PureOK.weaken {P : Program} {E : Env} {f : FuncId} {sp sp' : List AV → List (Bool × AV)} (h : PureOK P E f sp) (hs : ∀ args r, sel (sp' args) = some r → sel (sp args) = some r) : PureOK P E f sp' :=
  ⟨h.fn, fun args r hr => h.ok args r (hs args r hr)⟩
/-- The bytes of a number that is a length: guards that Lean does not reckon out. -/
def bytesNSp : List AV → List (Bool × AV)
  | [.int .i64 n] => [(decide (0 ≤ n) && Nat.ble n.toNat 4611686018427387904, .sl B (putL 9 n) none (some (1, 5)))]
  | _ => []
theorem bytesN_ok : PureOK Tryd.prog env 22 bytesNSp := by
  refine PureOK.weaken bytes_ok (fun args r h => ?_)
  unfold bytesNSp at h
  split at h
  · rename_i n
    obtain ⟨hg, he⟩ := sel_one h
    simp only [Bool.and_eq_true, decide_eq_true_eq, Nat.ble_eq] at hg
    subst he
    show sel [(decide (n < 9223372036854775808), refOut (putL 9 (if 0 > n then 0 else n)))] = _
    rw [if_neg (by omega), decide_eq_true (show n < 9223372036854775808 by omega)]
    rfl
  · cases h
def putNSp : List AV → List (Bool × AV)
  | [y, .int .i64 n] => match bytesIn y with
    | some xs => [(Nat.ble xs.length 1000000000000 && (decide (0 ≤ n) && Nat.ble n.toNat 4611686018427387904), .sl B (xs ++ putL 9 n) none (some (0, 5)))]
    | none => []
  | _ => []
theorem putN_ok : PureOK Tryd.prog env 19 putNSp := by
  refine PureOK.weaken put_ok (fun args r h => ?_)
  unfold putNSp at h
  split at h
  · rename_i y n
    split at h
    · rename_i xs hx
      obtain ⟨hg, he⟩ := sel_one h
      simp only [Bool.and_eq_true, decide_eq_true_eq, Nat.ble_eq] at hg
      subst he
      simp only [putSp, hx]
      rw [if_neg (by omega), decide_eq_true hg.1, decide_eq_true (show n < 9223372036854775808 by omega)]
      rfl
    · cases h
  · cases h
def lenNSp : List AV → List (Bool × AV)
  | [.int .i64 n] => [(decide (0 ≤ n) && Nat.ble n.toNat 4611686018427387904, .int .i64 ((putL 9 n).length : Nat))]
  | _ => []
theorem lenN_ok : PureOK Tryd.prog env 21 lenNSp := by
  refine PureOK.weaken len_ok (fun args r h => ?_)
  unfold lenNSp at h
  split at h
  · rename_i n
    obtain ⟨hg, he⟩ := sel_one h
    simp only [Bool.and_eq_true, decide_eq_true_eq, Nat.ble_eq] at hg
    subst he
    show sel [(decide (n < 9223372036854775808), AV.int .i64 ((putL 9 (if 0 > n then 0 else n)).length : Nat))] = _
    rw [if_neg (by omega), decide_eq_true (show n < 9223372036854775808 by omega)]
    rfl
  · cases h
def TF2 : FuncId → Option CSpec := tab [(17, mayFSp), (19, putNSp), (20, fsumSp), (18, catSp), (21, lenNSp)]
theorem tokF2 : TOK Tryd.prog env TF2 := tok_tab mixed ⟨mayF_ok, putN_ok, fsum_ok, cat_ok, lenN_ok, trivial⟩
theorem fn_fadd : FnOK Tryd.prog 8 Tryd.f8 := ⟨by kernel_rfl, by kernel_rfl, by kernel_rfl⟩
def fadd_hv : Keeps := fun _ => none
theorem fadd_in {α : Type} (F : Nat) (b body : List Int) (k : AV → List Box2 → Option α) : runF env TF2 noInl fadd_hv F Tryd.f8 [.sl B b none none, .sl B body none none] [] (fun r bx => k r []) =
    bif mayI ((((List.length body) : Nat) : Int)) != 0 then k (AV.tup [AV.nilsl, AV.int IntKind.i64 (mayI ((((List.length body) : Nat) : Int)))]) [] else bif Nat.ble (List.length b) 1000000000000 && Nat.ble (Int.toNat ((((List.length body) : Nat) : Int))) 4611686018427387904 then bif decide (List.length body ≤ 4611686018427387904) then bif decide (total [List.append b (putL 9 ((((List.length body) : Nat) : Int))), body, le4 (crcI 0 body)] ≤ 140737488355328) then k (AV.tup [AV.sl (Ty.int IntKind.u8) (List.flatten [List.append b (putL 9 ((((List.length body) : Nat) : Int))), body, le4 (crcI 0 body)]) none (some (3, 5)), AV.int IntKind.i64 0]) [] else none else none else none := by kernel_rfl
theorem fn_flen : FnOK Tryd.prog 9 Tryd.f9 := ⟨by kernel_rfl, by kernel_rfl, by kernel_rfl⟩
def flen_hv : Keeps := fun _ => none
theorem flen_in {α : Type} (F : Nat) (n : Int) (k : AV → List Box2 → Option α) : runF env TF2 noInl flen_hv F Tryd.f9 [.int .i64 n] [] (fun r bx => k r []) =
    bif mayI n != 0 then k (AV.int IntKind.i64 0) [] else bif decide (0 ≤ n) && Nat.ble (Int.toNat n) 4611686018427387904 then k (AV.int IntKind.i64 (IntKind.wrap IntKind.i64 (Int.add (IntKind.wrap IntKind.i64 (Int.add ((((List.length (putL 9 n)) : Nat) : Int)) n)) 4))) [] else none := by kernel_rfl
end Go.Proofs.YtopbldbgnpeelaaDoor.V
