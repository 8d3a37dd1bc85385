/- The document's frame as a function of data. No condition. -/
import Derived.Test.YtopbldbgnpeelaaDoorVframe2
set_option maxRecDepth 100000
set_option linter.unusedVariables false
set_option linter.unusedSimpArgs false
namespace Go.Proofs.YtopbldbgnpeelaaDoor.V
open Go Go.Proofs.AbsV
def TF3 : FuncId → Option CSpec := tab [(22, bytesNSp), (23, rsumSp)]
theorem tokF3 : TOK Tryd.prog env TF3 := tok_tab mixed ⟨bytesN_ok, rsum_ok, trivial⟩
theorem fn_rfr : FnOK Tryd.prog 11 Tryd.f11 := ⟨by kernel_rfl, by kernel_rfl, by kernel_rfl⟩
def rfr_hv : Keeps := fun c => (match Nat.beq c 0 with | true => some ([3, 4, 5], [3]) | false => none)
def rfr_S0 (body : List Int) (out : List Int) (s : Int) (i : Int) : St := { fr := frOf [(3, .sl B out none (some (1, 5))), (4, .int .u32 s), (5, .int .i64 i)] 26 0, bx := [] }
noncomputable def rfr_B0 : Code := codeAt (bodyOf Tryd.f11) [1, 1, 1, 0, 1, 0, 0]
noncomputable def rfr_K0 {α : Type} (F : Nat) (body : List Int)  (k : AV → List Box2 → Option α) : Ex → St → Option α := contAt env TF3 noInl rfr_hv F (bodyOf Tryd.f11) [1, 1, 1, 0, 1, 0] 0 (endOf env Tryd.f11 (fun r bx => k r []))
noncomputable def rfr_L0 {α : Type} (F n : Nat) (body : List Int) (out : List Int) (s : Int) (i : Int) (k : AV → List Box2 → Option α) : Option α := loopH 0 (some [3, 4, 5]) (some [3]) (fun s k => runC env TF3 noInl rfr_hv F rfr_B0 0 s k) n (rfr_S0 body out s i) (rfr_K0 F  body k)
theorem rfr_in {α : Type} (F : Nat) (body : List Int) (k : AV → List Box2 → Option α) : runF env TF3 noInl rfr_hv F Tryd.f11 [.sl B body none none] [] (fun r bx => k r []) =
    bif Nat.ble (Int.toNat ((((List.length body) : Nat) : Int))) 4611686018427387904 then bif decide (Nat.add 0 (Nat.add (List.length (putL 9 ((((List.length body) : Nat) : Int)))) (List.length body)) ≤ 140737488355328) then bif decide (List.length body ≤ 4611686018427387904) then (rfr_L0 F F body (List.append (putL 9 (((List.length body) : Nat) : Int)) body) (rsumI body) 0 k) else none else none else none := by kernel_rfl
theorem rfr_step0 {α : Type} (F n : Nat) (body : List Int) (out : List Int) (s : Int) (i : Int) (k : AV → List Box2 → Option α) : rfr_L0 F (n + 1)  body out s i k =
    bif decide (i < 4) then bif decide (Nat.succ (Nat.add 0 (List.length out)) ≤ 140737488355328) then (rfr_L0 F n body (List.append out [IntKind.wrap IntKind.u8 (Int.tmod s 256)]) (IntKind.wrap IntKind.u32 (Int.tdiv s 256)) (IntKind.wrap IntKind.i64 (Int.add i 1)) k) else none else k (AV.sl (Ty.int IntKind.u8) out none (some (1, 5))) [] := by kernel_rfl
theorem ble_yes {a b : Nat} (h : a ≤ b) : Nat.ble a b = true := by rw [Nat.ble_eq]; exact h
def frameOf (body : List Int) : List Int := putL 9 ((body.length : Nat) : Int) ++ (body ++ le4 (crcI 0 body))
theorem mayI_zero {n : Int} (h : (mayI n != 0) = false) : 1 ≤ n ∧ n ≤ 65536 := by
  unfold mayI at h
  by_cases h1 : n ≤ 0
  · rw [decide_eq_true h1] at h; exact absurd h (by rw [cond_true]; decide)
  · by_cases h2 : n > 65536
    · rw [decide_eq_false h1, decide_eq_true h2] at h; exact absurd h (by rw [cond_true, cond_false]; decide)
    · omega
def faddSp : List AV → List (Bool × AV)
  | [x, y] => match bytesIn x, bytesIn y with
    | some b, some body => [(mayI ((body.length : Nat) : Int) != 0, .tup [.nilsl, .int .i64 (mayI ((body.length : Nat) : Int))]), (Nat.ble b.length 1000000000000, .tup [.sl B (b ++ frameOf body) none (some (3, 5)), .int .i64 0])]
    | _, _ => []
  | _ => []
theorem fadd_ok : PureOK Tryd.prog env 8 faddSp := by
  refine PureOK.of_reads envOK tokF2 noInl_ok fn_fadd (hv := fadd_hv) (fun args r h => ?_)
  unfold faddSp at h
  split at h
  · rename_i x y
    split at h
    · rename_i b body hx hy
      refine ⟨_, 0, .bytes hx (.bytes hy .nil), (fadd_in 0 b body (fun r _ => some r)).trans ?_⟩
      cases hm : (mayI ((body.length : Nat) : Int) != 0) with
      | true =>
        rw [hm] at h
        cases h
        rfl
      | false =>
        rw [hm] at h
        obtain ⟨hg, he⟩ := sel_one (show sel [(Nat.ble b.length 1000000000000, AV.tup [AV.sl B (b ++ frameOf body) none (some (3, 5)), AV.int .i64 0])] = some r from h)
        simp only [Nat.ble_eq] at hg
        subst he
        have hl : 1 ≤ ((body.length : Nat) : Int) ∧ ((body.length : Nat) : Int) ≤ 65536 := mayI_zero hm
        have hp := putL_length 9 ((body.length : Nat) : Int)
        have ht : total [List.append b (putL 9 ((body.length : Nat) : Int)), body, le4 (crcI 0 body)] ≤ 140737488355328 := by
          show (b ++ putL 9 ((body.length : Nat) : Int)).length + (body.length + (4 + 0)) ≤ 140737488355328
          rw [List.length_append]; omega
        simp only [cond_false]
        rw [show Nat.ble b.length 1000000000000 = true from ble_yes hg, show Nat.ble (Int.toNat ((body.length : Nat) : Int)) 4611686018427387904 = true from ble_yes (by rw [Int.toNat_natCast]; omega), decide_eq_true (show body.length ≤ 4611686018427387904 by omega), decide_eq_true ht]
        have e : (b ++ putL 9 ((body.length : Nat) : Int)) ++ (body ++ (le4 (crcI 0 body) ++ [])) = b ++ frameOf body := by
          unfold frameOf
          rw [List.append_nil, List.append_assoc]
        exact congrArg (fun l : List Int => some (AV.tup [AV.sl B l none (some (3, 5)), AV.int .i64 0])) e
    · cases h
  · cases h
def flenSp : List AV → List (Bool × AV)
  | [.int .i64 n] => [(mayI n != 0, .int .i64 0), (true, .int .i64 (((putL 9 n).length : Nat) + n + 4))]
  | _ => []
theorem flen_ok : PureOK Tryd.prog env 9 flenSp := by
  refine PureOK.of_reads envOK tokF2 noInl_ok fn_flen (hv := flen_hv) (fun args r h => ?_)
  unfold flenSp at h
  split at h
  · rename_i n
    refine ⟨_, 0, fun _ _ h => h, (flen_in 0 n (fun r _ => some r)).trans ?_⟩
    cases hm : (mayI n != 0) with
    | true =>
      rw [hm] at h
      cases h
      rfl
    | false =>
      rw [hm] at h
      cases h
      have hl := mayI_zero hm
      have hp := putL_length 9 n
      have e1 : IntKind.i64.wrap (Int.add (((putL 9 n).length : Nat) : Int) n) = ((putL 9 n).length : Nat) + n := by
        show IntKind.i64.wrap ((((putL 9 n).length : Nat) : Int) + n) = _
        rw [IntWalk.i64_in _ (by omega)]
      have e2 : IntKind.i64.wrap (Int.add (((putL 9 n).length : Nat) + n) 4) = ((putL 9 n).length : Nat) + n + 4 := by
        show IntKind.i64.wrap ((((putL 9 n).length : Nat) : Int) + n + 4) = _
        rw [IntWalk.i64_in _ (by omega)]
      rw [decide_eq_true (show 0 ≤ n by omega), show Nat.ble n.toNat 4611686018427387904 = true from ble_yes (by omega), e1, e2]
      rfl
  · cases h
/-! ### The document's frame -/
def byteAt (s : Int) : Int := IntKind.u8.wrap (Int.tmod s 256)
def restOf (s : Int) : Int := IntKind.u32.wrap (Int.tdiv s 256)
def le4r (s : Int) : List Int := [byteAt s, byteAt (restOf s), byteAt (restOf (restOf s)), byteAt (restOf (restOf (restOf s)))]
def refFrame (body : List Int) : List Int := (putL 9 ((body.length : Nat) : Int) ++ body) ++ le4r (rsumI body)
theorem rfr_st {α : Type} (F n i : Nat) (body out : List Int) (s : Int) (hi : i < 4) (ho : out.length ≤ 1000000001000) (k : AV → List Box2 → Option α) : rfr_L0 F (n + 1) body out s (i : Int) k = rfr_L0 F n body (out ++ [byteAt s]) (restOf s) ((i + 1 : Nat) : Int) k := by
  have g : Nat.succ (Nat.add 0 out.length) ≤ 140737488355328 := by
    have e : Nat.succ (Nat.add 0 out.length) = out.length + 1 := by rw [show Nat.add 0 out.length = 0 + out.length from rfl, Nat.zero_add]
    rw [e]; omega
  rw [rfr_step0, cond_pos (by omega), cond_pos g, step_i (by omega)]
  rfl
theorem rfr_en {α : Type} (F n : Nat) (body out : List Int) (s : Int) (k : AV → List Box2 → Option α) : rfr_L0 F (n + 1) body out s ((4 : Nat) : Int) k = k (.sl B out none (some (1, 5))) [] := by
  rw [rfr_step0, cond_neg (by omega)]
theorem rfr_four {α : Type} (F : Nat) (body out : List Int) (s : Int) (ho : out.length ≤ 1000000000900) (k : AV → List Box2 → Option α) : rfr_L0 F 5 body out s ((0 : Nat) : Int) k = k (.sl B (out ++ le4r s) none (some (1, 5))) [] := by
  have h1 : ∀ (x : List Int) (y : Int), (x ++ [y]).length = x.length + 1 := fun x y => by simp
  rw [rfr_st F 4 0 body out s (by omega) (by omega), rfr_st F 3 1 body _ _ (by omega) (by rw [h1]; omega), rfr_st F 2 2 body _ _ (by omega) (by rw [h1, h1]; omega), rfr_st F 1 3 body _ _ (by omega) (by rw [h1, h1, h1]; omega), rfr_en F 0]
  have e : (((out ++ [byteAt s]) ++ [byteAt (restOf s)]) ++ [byteAt (restOf (restOf s))]) ++ [byteAt (restOf (restOf (restOf s)))] = out ++ le4r s := by
    unfold le4r
    simp only [List.append_assoc, List.cons_append, List.nil_append]
  exact congrArg (fun l : List Int => k (.sl B l none (some (1, 5))) []) e
theorem rfr_run {α : Type} (body : List Int) (hb : body.length ≤ 1000000000000) (k : AV → List Box2 → Option α) : runF env TF3 noInl rfr_hv 5 Tryd.f11 [.sl B body none none] [] (fun r bx => k r []) = k (.sl B (refFrame body) none (some (1, 5))) [] := by
  have hp := putL_length 9 ((body.length : Nat) : Int)
  have g1 : Nat.add 0 (Nat.add (putL 9 ((body.length : Nat) : Int)).length body.length) ≤ 140737488355328 := by
    have e : Nat.add 0 (Nat.add (putL 9 ((body.length : Nat) : Int)).length body.length) = (putL 9 ((body.length : Nat) : Int)).length + body.length := Nat.zero_add _
    rw [e]; omega
  have hl : (List.append (putL 9 ((body.length : Nat) : Int)) body).length = (putL 9 ((body.length : Nat) : Int)).length + body.length := List.length_append
  rw [rfr_in, ble_yes (show Int.toNat ((body.length : Nat) : Int) ≤ 4611686018427387904 by rw [Int.toNat_natCast]; omega), cond_pos g1, cond_pos (show body.length ≤ 4611686018427387904 by omega), cond_true]
  exact rfr_four 5 body _ _ (by rw [hl]; omega) k
def rfrSp : List AV → List (Bool × AV)
  | [y] => match bytesIn y with
    | some body => [(Nat.ble body.length 1000000000000, .sl B (refFrame body) none (some (1, 5)))]
    | none => []
  | _ => []
theorem rfr_ok : PureOK Tryd.prog env 11 rfrSp := by
  refine PureOK.of_reads envOK tokF3 noInl_ok fn_rfr (hv := rfr_hv) (fun args r h => ?_)
  unfold rfrSp at h
  split at h
  · rename_i y
    split at h
    · rename_i body hx
      obtain ⟨hg, he⟩ := sel_one h
      simp only [Nat.ble_eq] at hg
      subst he
      exact ⟨_, 5, .bytes hx .nil, rfr_run body hg (fun r _ => some r)⟩
    · cases h
  · cases h
theorem le4_eq {s : Nat} (h : s < 4294967296) : le4r (s : Int) = le4 (s : Int) := by
  have hr : ∀ {m : Nat}, m < 4294967296 → restOf (m : Int) = ((m / 256 : Nat) : Int) := by
    intro m hm
    unfold restOf
    rw [Int.tdiv_eq_ediv_of_nonneg (by omega), show (m : Int) / 256 = ((m / 256 : Nat) : Int) by omega, u32_wrap (by omega)]
  have hb : ∀ m : Nat, byteAt (m : Int) = ((m % 256 : Nat) : Int) := by
    intro m
    unfold byteAt
    rw [Int.tmod_eq_emod_of_nonneg (by omega), IntKind.wrap_u8]
    omega
  have hw : ∀ m : Nat, IntKind.u8.wrap (m : Int) = ((m % 256 : Nat) : Int) := by
    intro m
    rw [IntKind.wrap_u8]; omega
  have h8 : shrI .u32 (s : Int) 8 = ((s / 256 : Nat) : Int) := by
    have h : (min (8 : Int).toNat IntKind.u32.bits) = 8 := by decide
    unfold shrI
    rw [h, Int.fdiv_eq_ediv_of_nonneg _ (by decide)]
    show (s : Int) / 256 = _
    omega
  have h16 : shrI .u32 (s : Int) 16 = ((s / 65536 : Nat) : Int) := by
    have h : (min (16 : Int).toNat IntKind.u32.bits) = 16 := by decide
    unfold shrI
    rw [h, Int.fdiv_eq_ediv_of_nonneg _ (by decide)]
    show (s : Int) / 65536 = _
    omega
  have h24 : shrI .u32 (s : Int) 24 = ((s / 16777216 : Nat) : Int) := by
    have h : (min (24 : Int).toNat IntKind.u32.bits) = 24 := by decide
    unfold shrI
    rw [h, Int.fdiv_eq_ediv_of_nonneg _ (by decide)]
    show (s : Int) / 16777216 = _
    omega
  unfold le4r le4
  rw [hr h, hr (show s / 256 < 4294967296 by omega), hr (show s / 256 / 256 < 4294967296 by omega), hb, hb, hb, hb, h8, h16, h24, hw, hw, hw, hw, show s / 256 / 256 = s / 65536 by omega, show s / 65536 / 256 = s / 16777216 by omega]
theorem refFrame_eq {body : List Int} (hb : isBytes body) : refFrame body = frameOf body := by
  unfold refFrame frameOf
  rw [rsum_eq hb, crc_eq hb, le4_eq (show sumN body < 4294967296 from Crc.sum_lt), List.append_assoc]
def sameNSp : List AV → List (Bool × AV)
  | [a, b] => match bytesIn a, bytesIn b with
    | some xs, some ys => [(Nat.ble xs.length 4611686018427387904, .bool (xs == ys))]
    | _, _ => []
  | _ => []
theorem sameN_ok : PureOK Tryd.prog env 10 sameNSp := by
  refine PureOK.weaken same_ok (fun args r h => ?_)
  unfold sameNSp at h
  split at h
  · rename_i a b
    split at h
    · rename_i xs ys hx hy
      obtain ⟨hg, he⟩ := sel_one h
      simp only [Nat.ble_eq] at hg
      subst he
      simp only [sameSp, hx, hy]
      rw [decide_eq_true hg]
      rfl
    · cases h
  · cases h
end Go.Proofs.YtopbldbgnpeelaaDoor.V
