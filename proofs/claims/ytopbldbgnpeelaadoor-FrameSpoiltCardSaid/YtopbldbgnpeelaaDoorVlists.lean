/- Whether two lists of bytes are the same, as a function of data. No condition. -/
import Derived.Test.YtopbldbgnpeelaaDoorVrscan
set_option maxRecDepth 100000
set_option linter.unusedVariables false
set_option linter.unusedSimpArgs false
namespace Go.Proofs.YtopbldbgnpeelaaDoor.V
open Go Go.Proofs.AbsV
def TL1 : FuncId → Option CSpec := tab [(10, sameNSp)]
theorem tokL1 : TOK Tryd.prog env TL1 := tok_tab mixed ⟨sameN_ok, trivial⟩
theorem fn_lists : FnOK Tryd.prog 16 Tryd.f16 := ⟨by kernel_rfl, by kernel_rfl, by kernel_rfl⟩
def lists_hv : Keeps := fun c => (match Nat.beq c 0 with | true => some ([0, 1, 5], [4]) | false => none)
def lists_S0 (xs ys : List (List Int)) (i : Int) : St := { fr := frOf [(0, .sl BB xs none none), (1, .sl BB ys none none), (5, .int .i64 i)] 27 0, bx := [] }
noncomputable def lists_B0 : Code := codeAt (bodyOf Tryd.f16) [1, 1, 0, 1, 0, 0]
noncomputable def lists_K0 {α : Type} (F : Nat) (xs ys : List (List Int))  (k : AV → List Box2 → Option α) : Ex → St → Option α := contAt env TL1 noInl lists_hv F (bodyOf Tryd.f16) [1, 1, 0, 1, 0] 0 (endOf env Tryd.f16 (fun r bx => k r []))
noncomputable def lists_L0 {α : Type} (F n : Nat) (xs ys : List (List Int)) (i : Int) (k : AV → List Box2 → Option α) : Option α := loopH 0 (some [0, 1, 5]) (some [4]) (fun s k => runC env TL1 noInl lists_hv F lists_B0 0 s k) n (lists_S0 xs ys i) (lists_K0 F  xs ys k)
theorem lists_in {α : Type} (F : Nat) (xs ys : List (List Int)) (k : AV → List Box2 → Option α) : runF env TL1 noInl lists_hv F Tryd.f16 [.sl BB xs none none, .sl BB ys none none] [] (fun r bx => k r []) =
    bif (((List.length xs) : Nat) : Int) != (((List.length ys) : Nat) : Int) then k (AV.bool false) [] else (lists_L0 F F xs ys 0 k) := by kernel_rfl
theorem lists_step0 {α : Type} (F n : Nat) (xs ys : List (List Int)) (i : Int) (k : AV → List Box2 → Option α) : lists_L0 F (n + 1)  xs ys i k =
    bif decide (i < (((List.length xs) : Nat) : Int)) then bif decide (0 ≤ i) && decide (i < (((List.length xs) : Nat) : Int)) then bif decide (0 ≤ i) && decide (i < (((List.length ys) : Nat) : Int)) then bif Nat.ble (List.length (dL (rdD (Ty.sl (Ty.int IntKind.u8)) xs (Int.toNat i)))) 4611686018427387904 then bif !dL (rdD (Ty.sl (Ty.int IntKind.u8)) xs (Int.toNat i)) == dL (rdD (Ty.sl (Ty.int IntKind.u8)) ys (Int.toNat i)) then k (AV.bool false) [] else (lists_L0 F n xs ys (IntKind.wrap IntKind.i64 (Int.add i 1)) k) else none else none else none else k (AV.bool true) [] := by kernel_rfl
theorem lists_loop {α : Type} (F : Nat) (xs ys : List (List Int)) (hl : xs.length = ys.length) (hx : xs.length ≤ 1000000000000) (hy : ∀ x ∈ xs, x.length ≤ 1000000000000) (k : AV → List Box2 → Option α) : ∀ (n i : Nat), i + n = xs.length →
    lists_L0 F (n + 1) xs ys (i : Int) k = k (.bool (xs.drop i == ys.drop i)) []
  | 0, i, h => by
    rw [lists_step0, cond_neg (by omega), List.drop_eq_nil_of_le (by omega), List.drop_eq_nil_of_le (by omega)]
    rfl
  | n + 1, i, h => by
    have hi : i < xs.length := by omega
    have hj : i < ys.length := by omega
    have hd : (xs.drop i == ys.drop i) = (xs[i] == ys[i] && (xs.drop (i + 1) == ys.drop (i + 1))) := by
      rw [List.drop_eq_getElem_cons hi, List.drop_eq_getElem_cons hj]; rfl
    have hb : Nat.ble xs[i].length 4611686018427387904 = true := ble_yes (by have := hy xs[i] (List.getElem_mem hi); omega)
    rw [lists_step0, cond_pos (by omega), in_range hi, in_range hj, step_i (by omega), rd_sl hi, rd_sl hj, hd, lists_loop F xs ys hl hx hy k n (i + 1) (by omega)]
    rw [hb]
    cases (xs[i] == ys[i]) <;> rfl
def srcL (x : AV) : Option (List (List Int)) := srcOf BB x
def listsG (xs : List (List Int)) : Bool := Nat.ble xs.length 1000000000000 && xs.all fun x => Nat.ble x.length 1000000000000
def listsSp : List AV → List (Bool × AV)
  | [x, y] => match srcL x, srcL y with
    | some xs, some ys => [(listsG xs, .bool (xs == ys))]
    | _, _ => []
  | _ => []
theorem lists_ok : PureOK Tryd.prog env 16 listsSp := by
  refine PureOK.of_reads envOK tokL1 noInl_ok fn_lists (hv := lists_hv) (fun args r h => ?_)
  unfold listsSp at h
  split at h
  · rename_i x y
    split at h
    · rename_i xs ys hx hy
      obtain ⟨hg, he⟩ := sel_one h
      unfold listsG at hg
      simp only [Bool.and_eq_true, Nat.ble_eq, List.all_eq_true] at hg
      subst he
      refine ⟨_, xs.length + 1, Reads.src (τ := BB) hx (Reads.src (τ := BB) hy .nil), (lists_in _ xs ys (fun r _ => some r)).trans ?_⟩
      by_cases hl : xs.length = ys.length
      · have hb : (((xs.length : Nat) : Int) != ((ys.length : Nat) : Int)) = false := by rw [hl]; simp
        rw [hb, cond_false]
        exact lists_loop _ xs ys hl hg.1 hg.2 (fun r _ => some r) xs.length 0 (by omega)
      · have hb : (((xs.length : Nat) : Int) != ((ys.length : Nat) : Int)) = true := by rw [bne, beq_eq_false_iff_ne.2 (by omega)]; rfl
        have he : (xs == ys) = false := by rw [beq_eq_false_iff_ne]; intro e; exact hl (by rw [e])
        rw [hb, cond_true, he]
    · cases h
  · cases h
end Go.Proofs.YtopbldbgnpeelaaDoor.V

