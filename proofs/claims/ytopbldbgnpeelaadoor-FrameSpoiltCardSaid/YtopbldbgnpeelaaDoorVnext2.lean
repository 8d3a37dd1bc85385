/- The document's number at a place is the program's. No condition. -/
import Derived.Test.YtopbldbgnpeelaaDoorVnext
import Derived.Test.YtopbldbgnpeelaaDoorVback
set_option maxRecDepth 100000
set_option linter.unusedVariables false
set_option linter.unusedSimpArgs false
namespace Go.Proofs.YtopbldbgnpeelaaDoor.V
open Go Go.Proofs.AbsV
def gtup (t : Int × Int × Int) : AV := .tup [.int .i64 t.1, .int .i64 t.2.1, .int .i64 t.2.2]
theorem rget_word {v c j : Nat} (hj : j ≤ 8) (h : v + c % 128 * 128 ^ j < 9223372036854775808) :
    IntKind.i64.wrap (Int.add (v : Int) (IntKind.i64.wrap (Int.mul ((128 ^ (min j 8) : Nat) : Int) (IntKind.i64.wrap (Int.tmod (c : Int) 128))))) = ((v + c % 128 * 128 ^ j : Nat) : Int) := by
  have e1 : Int.tmod (c : Int) 128 = ((c % 128 : Nat) : Int) := by rw [Int.tmod_eq_emod_of_nonneg (by omega)]; omega
  have e2 : min j 8 = j := by omega
  have e3 : IntKind.i64.wrap ((c % 128 : Nat) : Int) = ((c % 128 : Nat) : Int) := IntWalk.i64_in _ (by omega)
  have e4 : IntKind.i64.wrap (Int.mul ((128 ^ j : Nat) : Int) ((c % 128 : Nat) : Int)) = ((c % 128 * 128 ^ j : Nat) : Int) := by
    show IntKind.i64.wrap (((128 ^ j : Nat) : Int) * ((c % 128 : Nat) : Int)) = _
    rw [← Int.natCast_mul, Nat.mul_comm]
    exact IntWalk.i64_in _ (by omega)
  rw [e1, e3, e2, e4]
  show IntKind.i64.wrap ((v : Int) + ((c % 128 * 128 ^ j : Nat) : Int)) = _
  rw [← Int.natCast_add]
  exact IntWalk.i64_in _ (by omega)
theorem rget_loop {α : Type} (F : Nat) (b : List Int) (hb : ∀ c ∈ b, 0 ≤ c ∧ c < 256) (hx : b.length ≤ 4611686018427387904) (a : Nat) (k : AV → List Box2 → Option α) : ∀ (n j v : Nat), j ≤ 9 → v < 128 ^ j → 9 ≤ n + j → a + j ≤ b.length →
    rget_L0 F (n + 1) b (a : Int) (v : Int) ((128 ^ (min j 8) : Nat) : Int) ((a + j : Nat) : Int) k = k (gtup (getL b a (n + 1) (v : Int) (a + j))) [] := by
  intro n
  induction n with
  | zero =>
    intro j v hj hv hf hl
    have hj9 : j = 9 := by omega
    subst hj9
    rw [rget_step0]
    unfold getL
    by_cases hi : a + 9 < b.length
    · have es : IntKind.i64.wrap (Int.sub ((a + 9 : Nat) : Int) (a : Int)) = 9 := by
        show IntKind.i64.wrap (((a + 9 : Nat) : Int) - (a : Int)) = _
        rw [IntWalk.i64_in _ (by omega)]; omega
      rw [cond_pos (by omega), cond_pos (by omega), in_range hi, cond_true, es, if_pos hi, if_pos (.inr (.inl (by omega)))]
      cases (dI (rdD (Ty.int IntKind.u8) b (Int.toNat ((a + 9 : Nat) : Int))) == 0) <;> rfl
    · rw [cond_neg (by omega), if_neg hi]
      unfold getE
      rw [if_pos (by omega)]
      rfl
  | succ n ih =>
    intro j v hj hv hf hl
    rw [rget_step0]
    unfold getL
    by_cases hi : a + j < b.length
    · have hc := hb b[a + j] (List.getElem_mem hi)
      have es : IntKind.i64.wrap (Int.sub ((a + j : Nat) : Int) (a : Int)) = (j : Int) := by
        show IntKind.i64.wrap (((a + j : Nat) : Int) - (a : Int)) = _
        rw [IntWalk.i64_in _ (by omega)]; omega
      obtain ⟨c, hcn⟩ : ∃ c : Nat, b[a + j] = (c : Int) := ⟨b[a + j].toNat, by omega⟩
      have hc256 : c < 256 := by omega
      rw [cond_pos (by omega), in_range hi, es, step_i (by omega), rd_u8 hi, if_pos hi, rdB_at hi, hcn]
      simp only [cond_true, dI]
      by_cases hbad : (c = 0 ∧ 0 < j) ∨ 9 ≤ j
      · rw [if_pos (by rcases hbad with ⟨h1, h2⟩ | h1 <;> omega)]
        by_cases hj0 : 0 < j
        · rw [cond_pos (by omega)]
          by_cases hc0 : c = 0
          · subst hc0
            rfl
          · rw [show ((c : Int) == 0) = false by rw [beq_eq_false_iff_ne]; omega, cond_pos (show (j : Int) ≥ 9 by omega)]
            rfl
        · rw [cond_neg (by omega), cond_pos (show (j : Int) ≥ 9 by omega)]
          rfl
      · have hj8 : j ≤ 8 := by omega
        have hple := pow128_le hj8
        have hpow : 128 ^ (j + 1) = 128 ^ j * 128 := Nat.pow_succ ..
        have hp0 : (0 : Nat) < 128 ^ j := Nat.pow_pos (by decide)
        have hmod : c % 128 * 128 ^ j ≤ 127 * 128 ^ j := Nat.mul_le_mul_right _ (by omega)
        have hvv : v + c % 128 * 128 ^ j < 128 ^ (j + 1) := by rw [hpow]; omega
        have hw := getW_eq (a := a) (j := j) (v := v) (c := c) hc256 hv hj8 (by omega) (by omega)
        rw [if_neg (by omega), hw, rget_word hj8 (by omega)]
        have rest : (bif decide ((j : Int) ≥ 9) then k (AV.tup [AV.int IntKind.i64 0, AV.int IntKind.i64 0, AV.int IntKind.i64 3]) []
            else bif decide ((c : Int) < 128) then k (AV.tup [AV.int IntKind.i64 ((v + c % 128 * 128 ^ j : Nat) : Int), AV.int IntKind.i64 ((a + j + 1 : Nat) : Int), AV.int IntKind.i64 0]) []
            else bif decide ((j : Int) < 8) then rget_L0 F (n + 1) b (a : Int) ((v + c % 128 * 128 ^ j : Nat) : Int) (IntKind.i64.wrap (Int.mul ((128 ^ (min j 8) : Nat) : Int) 128)) ((a + j + 1 : Nat) : Int) k
              else rget_L0 F (n + 1) b (a : Int) ((v + c % 128 * 128 ^ j : Nat) : Int) ((128 ^ (min j 8) : Nat) : Int) ((a + j + 1 : Nat) : Int) k) =
            k (gtup (if (c : Int) < 128 then getE b ((v + c % 128 * 128 ^ j : Nat) : Int) (a + j) else getL b a (n + 1) ((v + c % 128 * 128 ^ j : Nat) : Int) (a + j + 1))) [] := by
          rw [cond_neg (by omega)]
          by_cases hlt : c < 128
          · rw [cond_pos (by omega), if_pos (by omega)]
            unfold getE
            rw [if_neg (by omega), IntWalk.i64_in _ (by omega)]
            rfl
          · rw [cond_neg (by omega), if_neg (by omega)]
            have h' := ih (j + 1) (v + c % 128 * 128 ^ j) (by omega) hvv (by omega) (by omega)
            rw [show a + (j + 1) = a + j + 1 by omega] at h'
            rw [← h']
            by_cases h8 : j < 8
            · rw [cond_pos (by omega)]
              have hm1 : min j 8 = j := by omega
              have hm2 : min (j + 1) 8 = j + 1 := by omega
              have hp8 : 128 ^ (j + 1) ≤ 128 ^ 8 := Nat.pow_le_pow_right (by decide) (by omega)
              have h88 : (128 : Nat) ^ 8 = 72057594037927936 := by decide
              have em : IntKind.i64.wrap (Int.mul ((128 ^ j : Nat) : Int) 128) = ((128 ^ (j + 1) : Nat) : Int) := by
                show IntKind.i64.wrap (((128 ^ j : Nat) : Int) * ((128 : Nat) : Int)) = _
                rw [← Int.natCast_mul, ← hpow, IntWalk.i64_in _ (by omega)]
              rw [hm1, hm2, em]
            · rw [cond_neg (by omega)]
              have hm1 : min j 8 = 8 := by omega
              have hm2 : min (j + 1) 8 = 8 := by omega
              rw [hm1, hm2]
        by_cases hj0 : 0 < j
        · rw [cond_pos (by omega), show ((c : Int) == 0) = false by rw [beq_eq_false_iff_ne]; omega]
          exact rest
        · rw [cond_neg (by omega)]
          exact rest
    · rw [cond_neg (by omega), if_neg hi]
      unfold getE
      rw [if_pos (by omega)]
      rfl
def rgetSp : List AV → List (Bool × AV)
  | [y, .int .i64 a] => match bytesIn y with
    | some b => [(isBytesB b && Nat.ble b.length 4611686018427387904, gtup (gt b a))]
    | none => []
  | _ => []
theorem rget_run {α : Type} (b : List Int) (a : Int) (hb : isBytes b) (hx : b.length ≤ 4611686018427387904) (k : AV → List Box2 → Option α) : runF env T0 noInl rget_hv 10 Tryd.f27 [.sl B b none none, .int .i64 a] [] (fun r bx => k r []) = k (gtup (gt b a)) [] := by
  rw [rget_in]
  unfold gt
  by_cases h1 : a < 0
  · rw [decide_eq_true h1, if_pos (.inl h1)]; rfl
  · rw [decide_eq_false h1]
    by_cases h2 : a > ((b.length : Nat) : Int)
    · rw [decide_eq_true h2, if_pos (.inr h2)]; rfl
    · rw [decide_eq_false h2, if_neg (by omega)]
      obtain ⟨n, rfl⟩ : ∃ n : Nat, a = (n : Int) := ⟨a.toNat, by omega⟩
      exact rget_loop 10 b hb hx n k 9 0 0 (by omega) (by decide) (by omega) (by omega)
theorem rget_ok : PureOK Tryd.prog env 27 rgetSp := by
  refine PureOK.of_reads envOK tok0 noInl_ok fn_rget (hv := rget_hv) (fun args r h => ?_)
  unfold rgetSp at h
  split at h
  · rename_i y a
    split at h
    · rename_i b hx
      obtain ⟨hg, he⟩ := sel_one h
      simp only [Bool.and_eq_true, Nat.ble_eq] at hg
      subst he
      exact ⟨_, 10, .bytes hx (.same .nil), rget_run b a (isBytes_of hg.1) hg.2 (fun r _ => some r)⟩
    · cases h
  · cases h
end Go.Proofs.YtopbldbgnpeelaaDoor.V
