/- Which texts may be keys, and values: the document's functions. No condition. -/
import Derived.Test.YtleamcddhlacfaaDoorVref05
set_option maxRecDepth 100000
set_option linter.unusedVariables false
set_option linter.unusedSimpArgs false
namespace Go.Proofs.YtleamcddhlacfaaDoor.V
open Go Go.Proofs.AbsV
def szN (s : ByteArray) (i : Int) : Int := ((swapN (Utf8.decode s i.toNat)).1 : Nat)
def szV (s : ByteArray) (i : Int) : Int := ((swapN (Utf8.decode s i.toNat)).2 : Nat)
def szG (s : ByteArray) (i : Int) : Bool := Nat.ble s.size 1000000000000 && (decide (0 ≤ i) && Nat.blt i.toNat s.size)
def sizeSp : List AV → List (Bool × AV)
  | [.str s, .int .i64 i] => [(szG s i, .tup [.int .i64 (szN s i), .int .i64 (szV s i)])]
  | _ => []
theorem size_ok : PureOK Tryd.prog env 93 sizeSp := by
  refine PureOK.of_reads envOK tok0 noInl_ok fn_size (hv := size_hv) (fun args r h => ?_)
  unfold sizeSp at h
  split at h
  · rename_i s i
    obtain ⟨g, e⟩ := sel_one h
    subst e
    simp only [szG, Bool.and_eq_true, Nat.ble_eq, Nat.blt_eq, decide_eq_true_eq] at g
    obtain ⟨n, rfl⟩ : ∃ n : Nat, i = (n : Int) := ⟨i.toNat, by omega⟩
    exact ⟨_, 0 + 5, fun _ _ h => h, (size_run 0 s n (by simpa using g.2.2) g.1 (fun r _ => some r)).trans rfl⟩
  · cases h
/-! ### Plain -/
def plainI : List Int := plainL.data.toList.map fun b => (b.toNat : Int)
theorem plainI_at : ∀ i, i < 66 → IntKind.i64.wrap (btA plainL i) = plainI.getD i 0 := by decide +kernel
theorem plainI_in : ∀ x ∈ plainI, 45 ≤ x ∧ x ≤ 122 := by decide +kernel
theorem plain_low : ∀ n : Nat, n < 161 → (plainI.any fun x => x == (n : Int)) = plainB (n : Int) := by decide +kernel
theorem plain_eq (r : Int) : (plainI.any (fun x => x == r) || (decide (r ≥ 161) && (r != 65533))) = plainB r := by
  by_cases h : 0 ≤ r ∧ r < 161
  · obtain ⟨n, rfl⟩ : ∃ n : Nat, r = (n : Int) := ⟨r.toNat, by omega⟩
    rw [plain_low n (by omega), decide_eq_false (by omega)]
    simp
  · have h1 : (plainI.any fun x => x == r) = false := by
      rw [List.any_eq_false]
      intro x hx
      have := plainI_in x hx
      simp; omega
    rw [h1, Bool.false_or]
    unfold plainB
    rw [Bool.eq_iff_iff]
    simp; omega
theorem rplain_loop {α : Type} (F : Nat) (r : Int) (k : AV → List Box2 → Option α) : ∀ (n i : Nat), i + n = 66 →
    rplain_L0 F (n + 1) r (i : Int) k = k (.bool ((plainI.drop i).any (fun x => x == r) || (decide (r ≥ 161) && (r != 65533)))) []
  | 0, i, h => by
    have hi : i = 66 := by omega
    subst hi
    rw [rplain_step0, cond_neg (by omega), cond_kf]
    rfl
  | n + 1, i, h => by
    have hl : plainI.length = 66 := by decide +kernel
    have hr : (decide (0 ≤ (i : Int)) && decide ((i : Int) < 66)) = true := inr (show i < 66 by omega)
    rw [rplain_step0, cond_pos (by omega), hr, cond_true, Int.toNat_natCast, plainI_at i (by omega), stp (by omega), rplain_loop F r k n (i + 1) (by omega)]
    rw [List.drop_eq_getElem_cons (show i < plainI.length by omega), List.any_cons, List.getD_eq_getElem?_getD, List.getElem?_eq_getElem (show i < plainI.length by omega), Option.getD_some]
    cases (plainI[i] == r) <;> rfl
def rplainSp : List AV → List (Bool × AV)
  | [.int .i64 r] => [(true, .bool (plainB r))]
  | _ => []
theorem rplain_ok : PureOK Tryd.prog env 94 rplainSp := by
  refine PureOK.of_reads envOK tok0 noInl_ok fn_rplain (hv := rplain_hv) (fun args r h => ?_)
  unfold rplainSp at h
  split at h
  · rename_i x
    cases h
    refine ⟨_, 67, fun _ _ h => h, (rplain_in 67 x (fun r _ => some r)).trans ((rplain_loop 67 x _ 66 0 (by omega)).trans ?_)⟩
    rw [List.drop_zero, plain_eq]
  · cases h
def TU5 : FuncId → Option CSpec := tab [(93, sizeSp), (94, rplainSp)]
theorem tokU5 : TOK Tryd.prog env TU5 := tok_tab mixed ⟨size_ok, rplain_ok, trivial⟩
theorem fn_rbad : FnOK Tryd.prog 95 Tryd.f95 := ⟨by kernel_rfl, by kernel_rfl, by kernel_rfl⟩
def rbad_hv : Keeps := fun c => (match Nat.beq c 0 with | true => some ([0, 3], [2]) | false => none)
def rbad_S0 (s : ByteArray) (i : Int) : St := { fr := frOf [(0, .str s), (3, .int .i64 i)] 22 0, bx := [] }
noncomputable def rbad_B0 : Code := codeAt (bodyOf Tryd.f95) [1, 1, 0, 0, 0]
noncomputable def rbad_K0 {α : Type} (F : Nat) (s : ByteArray)  (k : AV → List Box2 → Option α) : Ex → St → Option α := contAt env TU5 noInl rbad_hv F (bodyOf Tryd.f95) [1, 1, 0, 0] 0 (endOf env Tryd.f95 (fun r bx => k r []))
noncomputable def rbad_L0 {α : Type} (F n : Nat) (s : ByteArray) (i : Int) (k : AV → List Box2 → Option α) : Option α := loopH 0 (some [0, 3]) (some [2]) (fun s k => runC env TU5 noInl rbad_hv F rbad_B0 0 s k) n (rbad_S0 s i) (rbad_K0 F  s k)
theorem rbad_in {α : Type} (F : Nat) (s : ByteArray) (k : AV → List Box2 → Option α) : runF env TU5 noInl rbad_hv F Tryd.f95 [.str s] [] (fun r bx => k r []) =
    (rbad_L0 F F s 0 k) := by kernel_rfl
theorem rbad_step0 {α : Type} (F n : Nat) (s : ByteArray) (i : Int) (k : AV → List Box2 → Option α) : rbad_L0 F (n + 1)  s i k =
    bif decide (i < (((ByteArray.size s) : Nat) : Int)) then bif szG s i then bif szN s i == 0 then k (AV.int IntKind.i64 i) [] else (rbad_L0 F n s (IntKind.wrap IntKind.i64 (Int.add i (szN s i))) k) else none else k (AV.int IntKind.i64 (-1)) [] := by kernel_rfl
theorem fn_rrkey : FnOK Tryd.prog 74 Tryd.f74 := ⟨by kernel_rfl, by kernel_rfl, by kernel_rfl⟩
def rrkey_hv : Keeps := fun c => (match Nat.beq c 0 with | true => some ([0, 3], [2]) | false => none)
def rrkey_S0 (s : ByteArray) (i : Int) : St := { fr := frOf [(0, .str s), (3, .int .i64 i)] 34 0, bx := [] }
noncomputable def rrkey_B0 : Code := codeAt (bodyOf Tryd.f74) [1, 1, 1, 0, 0, 0]
noncomputable def rrkey_K0 {α : Type} (F : Nat) (s : ByteArray)  (k : AV → List Box2 → Option α) : Ex → St → Option α := contAt env TU5 noInl rrkey_hv F (bodyOf Tryd.f74) [1, 1, 1, 0, 0] 0 (endOf env Tryd.f74 (fun r bx => k r []))
noncomputable def rrkey_L0 {α : Type} (F n : Nat) (s : ByteArray) (i : Int) (k : AV → List Box2 → Option α) : Option α := loopH 0 (some [0, 3]) (some [2]) (fun s k => runC env TU5 noInl rrkey_hv F rrkey_B0 0 s k) n (rrkey_S0 s i) (rrkey_K0 F  s k)
theorem rrkey_in {α : Type} (F : Nat) (s : ByteArray) (k : AV → List Box2 → Option α) : runF env TU5 noInl rrkey_hv F Tryd.f74 [.str s] [] (fun r bx => k r []) =
    bif !decide ((((ByteArray.size s) : Nat) : Int) < 1) then bif decide ((((ByteArray.size s) : Nat) : Int) > 24) then k (AV.bool false) [] else (rrkey_L0 F F s 0 k) else k (AV.bool false) [] := by kernel_rfl
theorem rrkey_step0 {α : Type} (F n : Nat) (s : ByteArray) (i : Int) (k : AV → List Box2 → Option α) : rrkey_L0 F (n + 1)  s i k =
    bif decide (i < (((ByteArray.size s) : Nat) : Int)) then bif szG s i then bif !szN s i == 0 then bif !plainB (szV s i) then k (AV.bool false) [] else (rrkey_L0 F n s (IntKind.wrap IntKind.i64 (Int.add i (szN s i))) k) else k (AV.bool false) [] else none else k (AV.bool true) [] := by kernel_rfl
end Go.Proofs.YtleamcddhlacfaaDoor.V
