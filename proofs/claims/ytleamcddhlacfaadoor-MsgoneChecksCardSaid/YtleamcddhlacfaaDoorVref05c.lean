/- Which texts may be keys, and values: both answers as one function of data. No condition. -/
import Derived.Test.YtleamcddhlacfaaDoorVref05b
set_option maxRecDepth 100000
set_option linter.unusedVariables false
set_option linter.unusedSimpArgs false
namespace Go.Proofs.YtleamcddhlacfaaDoor.V
open Go Go.Proofs.AbsV
def keyB (s : ByteArray) : Bool := decide (1 ≤ s.size) && (decide (s.size ≤ 24) && runL qP s (s.size + 1) 0)
def valB (s : ByteArray) : Bool := decide (s.size ≤ 48) && (decide (badV s < 0) && allB qV s (s.size + 1) 0)
def smallS (s : ByteArray) : Bool := Nat.ble s.size 1000000000000
theorem szG_at {s : ByteArray} {p : Nat} (hs : s.size ≤ 1000000000000) (h : p < s.size) : szG s (p : Int) = true := by
  unfold szG
  rw [ble_y hs, Int.toNat_natCast]
  simp; omega
theorem sz_bad {s : ByteArray} {p : Nat} (h : noRune s p = true) : szN s (p : Int) = 0 := by
  unfold noRune at h
  simp only [Bool.and_eq_true, beq_iff_eq] at h
  unfold szN swapN
  rw [Int.toNat_natCast, if_pos h]
  rfl
theorem sz_good {s : ByteArray} {p : Nat} (h : noRune s p = false) : szN s (p : Int) = ((Utf8.decode s p).2 : Nat) ∧ szV s (p : Int) = ((Utf8.decode s p).1 : Nat) := by
  have h' : ¬ ((Utf8.decode s p).1 = 65533 ∧ (Utf8.decode s p).2 = 1) := by
    intro e
    unfold noRune at h
    rw [e.1, e.2] at h
    cases h
  unfold szN szV swapN
  rw [Int.toNat_natCast, if_neg h']
  exact ⟨rfl, rfl⟩
theorem step_w {s : ByteArray} {p w : Nat} (h : p + w ≤ s.size) (hs : s.size ≤ 1000000000000) : IntKind.i64.wrap (Int.add (p : Int) (w : Int)) = ((p + w : Nat) : Int) := by
  show IntKind.i64.wrap ((p : Int) + (w : Int)) = _
  rw [w64 (by omega) (by omega)]; omega
theorem rbad_loop {α : Type} (F : Nat) (s : ByteArray) (hs : s.size ≤ 1000000000000) (k : AV → List Box2 → Option α) : ∀ (n p : Nat), s.size ≤ p + n → rbad_L0 F (n + 1) s (p : Int) k = k (.int .i64 (badL s (n + 1) p)) []
  | 0, p, h => by rw [rbad_step0, badL, cond_neg (by omega), cond_neg (by omega)]
  | n + 1, p, h => by
    rw [rbad_step0, badL]
    by_cases hp : p < s.size
    · rw [cond_pos (by omega), cond_pos hp, szG_at hs hp, cond_true]
      cases hn : noRune s p with
      | true => rw [sz_bad hn]; rfl
      | false =>
        have hw := dec_width s p
        have he := dec_end s p hp
        rw [(sz_good hn).1, step_w he hs, show ((((Utf8.decode s p).2 : Nat) : Int) == 0) = false by rw [beq_eq_false_iff_ne]; omega]
        exact rbad_loop F s hs k n (p + (Utf8.decode s p).2) (by omega)
    · rw [cond_neg (by omega), cond_neg hp]
def rbadSp : List AV → List (Bool × AV)
  | [.str s] => [(smallS s, .int .i64 (badV s))]
  | _ => []
theorem rbad_ok : PureOK Tryd.prog env 95 rbadSp := by
  refine PureOK.of_reads envOK tokU5 noInl_ok fn_rbad (hv := rbad_hv) (fun args r h => ?_)
  unfold rbadSp at h
  split at h
  · rename_i s
    obtain ⟨g, e⟩ := sel_one h
    subst e
    simp only [smallS, Nat.ble_eq] at g
    exact ⟨_, s.size + 1, fun _ _ h => h, (rbad_in (s.size + 1) s (fun r _ => some r)).trans (rbad_loop _ s g _ s.size 0 (by omega))⟩
  · cases h
theorem rrkey_loop {α : Type} (F : Nat) (s : ByteArray) (hs : s.size ≤ 1000000000000) (k : AV → List Box2 → Option α) : ∀ (n p : Nat), s.size ≤ p + n → rrkey_L0 F (n + 1) s (p : Int) k = k (.bool (runL qP s (n + 1) p)) []
  | 0, p, h => by rw [rrkey_step0, runL, cond_neg (by omega), cond_neg (by omega)]
  | n + 1, p, h => by
    rw [rrkey_step0, runL]
    by_cases hp : p < s.size
    · rw [cond_pos (by omega), cond_pos hp, szG_at hs hp, cond_true]
      cases hn : noRune s p with
      | true => rw [sz_bad hn]; rfl
      | false =>
        have hw := dec_width s p
        have he := dec_end s p hp
        rw [(sz_good hn).1, (sz_good hn).2, step_w he hs, show ((((Utf8.decode s p).2 : Nat) : Int) == 0) = false by rw [beq_eq_false_iff_ne]; omega, Bool.not_false, cond_true, Bool.false_or]
        rw [rrkey_loop F s hs k n (p + (Utf8.decode s p).2) (by omega)]
        show (bif !qP (Utf8.decode s p).1 then _ else _) = _
        cases qP (Utf8.decode s p).1 <;> rfl
    · rw [cond_neg (by omega), cond_neg hp]
def keySp : List AV → List (Bool × AV)
  | [.str s] => [(smallS s, .bool (keyB s))]
  | _ => []
theorem rrkey_ok : PureOK Tryd.prog env 74 keySp := by
  refine PureOK.of_reads envOK tokU5 noInl_ok fn_rrkey (hv := rrkey_hv) (fun args r h => ?_)
  unfold keySp at h
  split at h
  · rename_i s
    obtain ⟨g, e⟩ := sel_one h
    subst e
    simp only [smallS, Nat.ble_eq] at g
    refine ⟨_, s.size + 1, fun _ _ h => h, (rrkey_in (s.size + 1) s (fun r _ => some r)).trans ?_⟩
    rw [show (0 : Int) = ((0 : Nat) : Int) from rfl, rrkey_loop _ s g _ s.size 0 (by omega)]
    unfold keyB
    by_cases h1 : 1 ≤ s.size
    · rw [decide_eq_false (show ¬ ((s.size : Nat) : Int) < 1 by omega), decide_eq_true h1, Bool.not_false, cond_true, Bool.true_and]
      by_cases h2 : s.size ≤ 24
      · rw [cond_neg (by omega), decide_eq_true h2, Bool.true_and]
      · rw [cond_pos (by omega), decide_eq_false h2]; rfl
    · rw [decide_eq_true (show ((s.size : Nat) : Int) < 1 by omega), decide_eq_false h1]; rfl
  · cases h
theorem toList_nil (s : ByteArray) : (ByteArray.toList s == ByteArray.toList { data := { toList := [] } }) = decide (s.size = 0) := by
  rw [Go.Lib.toList_data, Go.Lib.toList_data, Bool.eq_iff_iff]
  have h1 := Go.Lib.size_eq s
  simp only [beq_iff_eq, decide_eq_true_eq]
  constructor
  · intro e; rw [h1, e]; rfl
  · intro e; exact List.eq_nil_of_length_eq_zero (by omega)
theorem key_ok : PureOK Tryd.prog env 104 keySp := by
  refine PureOK.of_reads envOK tokU4 noInl_ok fn_rkey (hv := rkey_hv) (fun args r h => ?_)
  unfold keySp at h
  split at h
  · rename_i s
    obtain ⟨g, e⟩ := sel_one h
    subst e
    refine ⟨_, 0, fun _ _ h => h, (rkey_in 0 s (fun r _ => some r)).trans ?_⟩
    rw [toList_nil]
    unfold keyB
    rw [runL_eq]
    show _ = some (AV.bool (decide (1 ≤ s.size) && (decide (s.size ≤ 24) && (decide (badV s < 0) && allPV s))))
    have e1 : (!decide (s.size = 0)) = decide (1 ≤ s.size) := by rw [Bool.eq_iff_iff, Bool.not_eq_true', decide_eq_false_iff_not, decide_eq_true_eq]; omega
    have e2 : decide (((s.size : Nat) : Int) ≤ 24) = decide (s.size ≤ 24) := by rw [Bool.eq_iff_iff]; simp; omega
    rw [e1, e2]
    cases decide (1 ≤ s.size) <;> cases decide (s.size ≤ 24) <;> cases decide (badV s < 0) <;> rfl
  · cases h
def valSp : List AV → List (Bool × AV)
  | [.str s] => [(smallS s, .bool (valB s))]
  | _ => []
theorem val_ok : PureOK Tryd.prog env 106 valSp := by
  refine PureOK.of_reads envOK tokU4 noInl_ok fn_rval (hv := rval_hv) (fun args r h => ?_)
  unfold valSp at h
  split at h
  · rename_i s
    obtain ⟨g, e⟩ := sel_one h
    subst e
    refine ⟨_, 0, fun _ _ h => h, (rval_in 0 s (fun r _ => some r)).trans ?_⟩
    unfold valB
    have e2 : decide (((s.size : Nat) : Int) ≤ 48) = decide (s.size ≤ 48) := by rw [Bool.eq_iff_iff]; simp; omega
    rw [e2]
    by_cases hb : badV s < 0
    · rw [decide_eq_true hb, ← low_eq qV_low s (s.size + 1) 0 (by omega) hb]
      show _ = some (AV.bool (decide (s.size ≤ 48) && (true && allVV s)))
      cases decide (s.size ≤ 48) <;> rfl
    · rw [decide_eq_false hb]
      cases decide (s.size ≤ 48) <;> rfl
  · cases h
def TU6 : FuncId → Option CSpec := tab [(95, rbadSp)]
theorem tokU6 : TOK Tryd.prog env TU6 := tok_tab mixed ⟨rbad_ok, trivial⟩
theorem fn_rrval : FnOK Tryd.prog 75 Tryd.f75 := ⟨by kernel_rfl, by kernel_rfl, by kernel_rfl⟩
def rrval_hv : Keeps := fun c => (match Nat.beq c 0 with | true => some ([0, 3], [2]) | false => none)
def rrval_S0 (s : ByteArray) (i : Int) : St := { fr := frOf [(0, .str s), (3, .int .i64 i)] 28 0, bx := [] }
noncomputable def rrval_B0 : Code := codeAt (bodyOf Tryd.f75) [1, 1, 0, 1, 0, 0]
noncomputable def rrval_K0 {α : Type} (F : Nat) (s : ByteArray)  (k : AV → List Box2 → Option α) : Ex → St → Option α := contAt env TU6 noInl rrval_hv F (bodyOf Tryd.f75) [1, 1, 0, 1, 0] 0 (endOf env Tryd.f75 (fun r bx => k r []))
noncomputable def rrval_L0 {α : Type} (F n : Nat) (s : ByteArray) (i : Int) (k : AV → List Box2 → Option α) : Option α := loopH 0 (some [0, 3]) (some [2]) (fun s k => runC env TU6 noInl rrval_hv F rrval_B0 0 s k) n (rrval_S0 s i) (rrval_K0 F  s k)
theorem rrval_in {α : Type} (F : Nat) (s : ByteArray) (k : AV → List Box2 → Option α) : runF env TU6 noInl rrval_hv F Tryd.f75 [.str s] [] (fun r bx => k r []) =
    bif !decide ((((ByteArray.size s) : Nat) : Int) > 48) then bif smallS s then bif decide (badV s ≥ 0) then k (AV.bool false) [] else (rrval_L0 F F s 0 k) else none else k (AV.bool false) [] := by kernel_rfl
theorem rrval_step0 {α : Type} (F n : Nat) (s : ByteArray) (i : Int) (k : AV → List Box2 → Option α) : rrval_L0 F (n + 1)  s i k =
    bif decide (i < (((ByteArray.size s) : Nat) : Int)) then bif decide (0 ≤ i) && decide (i < (((ByteArray.size s) : Nat) : Int)) then bif !decide (btA s (Int.toNat i) < 32) then bif decide (0 ≤ i) && decide (i < (((ByteArray.size s) : Nat) : Int)) then bif btA s (Int.toNat i) == 127 then k (AV.bool false) [] else (rrval_L0 F n s (IntKind.wrap IntKind.i64 (Int.add i 1)) k) else none else k (AV.bool false) [] else none else k (AV.bool true) [] := by kernel_rfl
theorem rrval_loop {α : Type} (F : Nat) (s : ByteArray) (hs : s.size ≤ 1000000000000) (k : AV → List Box2 → Option α) : ∀ (n p : Nat), s.size ≤ p + n → rrval_L0 F (n + 1) s (p : Int) k = k (.bool (allB qV s (n + 1) p)) []
  | 0, p, h => by rw [rrval_step0, allB, cond_neg (by omega), cond_neg (by omega)]
  | n + 1, p, h => by
    rw [rrval_step0, allB]
    by_cases hp : p < s.size
    · rw [cond_pos (by omega), cond_pos hp, inr hp, cond_true, cond_true, Int.toNat_natCast, btA_at hp, stp (by omega), rrval_loop F s hs k n (p + 1) (by omega)]
      unfold qV valRB
      have hlt := bt8_lt s p
      have e1 : decide (((bt8 s p : Nat) : Int) ≥ 32) = !decide (((bt8 s p : Nat) : Int) < 32) := by rw [Bool.eq_iff_iff]; simp
      rw [e1]
      unfold bne
      cases decide (((bt8 s p : Nat) : Int) < 32) <;> cases (((bt8 s p : Nat) : Int) == 127) <;> rfl
    · rw [cond_neg (by omega), cond_neg hp]
theorem rrval_ok : PureOK Tryd.prog env 75 valSp := by
  refine PureOK.of_reads envOK tokU6 noInl_ok fn_rrval (hv := rrval_hv) (fun args r h => ?_)
  unfold valSp at h
  split at h
  · rename_i s
    obtain ⟨g, e⟩ := sel_one h
    subst e
    have g' := g
    simp only [smallS, Nat.ble_eq] at g'
    refine ⟨_, s.size + 1, fun _ _ h => h, (rrval_in (s.size + 1) s (fun r _ => some r)).trans ?_⟩
    rw [show (0 : Int) = ((0 : Nat) : Int) from rfl, rrval_loop _ s g' _ s.size 0 (by omega), g]
    unfold valB
    have e2 : decide (((s.size : Nat) : Int) > 48) = !decide (s.size ≤ 48) := by rw [Bool.eq_iff_iff]; simp; omega
    have e3 : decide (badV s ≥ ((0 : Nat) : Int)) = !decide (badV s < 0) := by rw [Bool.eq_iff_iff]; simp
    rw [e2, e3]
    cases decide (s.size ≤ 48) <;> cases decide (badV s < 0) <;> rfl
  · cases h
end Go.Proofs.YtleamcddhlacfaaDoor.V
