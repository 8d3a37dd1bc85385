/- The law VarintBack as a plain law: what is put is got back. No condition. -/
import Derived.Test.YtopbldbgnpeelaaVget
import Derived.Test.YtopbldbgnpeelaaWapart
set_option maxRecDepth 100000
set_option linter.unusedVariables false
namespace Go.Proofs.Ytopbldbgnpeelaa.V
open Go Go.Proofs.AbsV

/-! ### What is put is got back -/
theorem and127 : ∀ x : Fin 256, andI .u8 (x.val : Int) 127 = ((x.val % 128 : Nat) : Int) := by decide
theorem or_add {s a b : Nat} (hb : b < 2 ^ s) (h : 2 ^ s * a + b < 18446744073709551616) : orI .u64 (b : Int) ((2 ^ s * a : Nat) : Int) = ((b + 2 ^ s * a : Nat) : Int) := by
  have hlt : (2 : Nat) ^ 64 = 18446744073709551616 := by decide
  unfold orI
  have e1 : IntKind.u64.bits = 64 := rfl
  rw [e1]
  have h1 : (BitVec.ofInt 64 (b : Int) ||| BitVec.ofInt 64 ((2 ^ s * a : Nat) : Int)).toNat = b + 2 ^ s * a := by
    rw [BitVec.toNat_or, BitVec.ofInt_natCast, BitVec.ofInt_natCast, BitVec.toNat_ofNat, BitVec.toNat_ofNat, Nat.mod_eq_of_lt (by omega), Nat.mod_eq_of_lt (by omega), Nat.or_comm, ← Nat.two_pow_add_eq_or_of_lt hb, Nat.add_comm]
  rw [h1, IntWalk.u64_in _ (by omega)]
theorem getW_eq {a j v c : Nat} (hc : c < 256) (hv : v < 128 ^ j) (hj : j ≤ 8) (h : v + (c % 128) * 128 ^ j < 9223372036854775808) (ha : a + j ≤ 4611686018427387904) :
    getW (a : Int) ((a + j : Nat) : Int) (v : Int) (c : Int) = ((v + (c % 128) * 128 ^ j : Nat) : Int) := by
  unfold getW
  have e : (128 : Nat) ^ j = 2 ^ (7 * j) := by rw [Nat.pow_mul]
  have h1 := and127 ⟨c, hc⟩
  simp only at h1
  have hs : getSh (a : Int) ((a + j : Nat) : Int) = ((7 * j : Nat) : Int) := by
    rw [getSh_eq (by omega) (by omega) (by omega)]
    congr 2; omega
  have hsh : shlI .u64 ((c % 128 : Nat) : Int) ((7 * j : Nat) : Int) = ((2 ^ (7 * j) * (c % 128) : Nat) : Int) := by
    unfold shlI
    have hm : min (((7 * j : Nat) : Int)).toNat IntKind.u64.bits = 7 * j := by
      have : IntKind.u64.bits = 64 := rfl
      rw [this]; omega
    rw [hm, show (2 : Int) ^ (7 * j) = ((2 ^ (7 * j) : Nat) : Int) by simp, ← Int.natCast_mul, Nat.mul_comm]
    rw [← e]
    rw [Nat.mul_comm] at h
    exact IntWalk.u64_in _ (by omega)
  rw [h1, IntWalk.u64_in _ (by omega), hs, hsh, or_add (by rw [← e]; exact hv) (by rw [← e, Nat.mul_comm]; omega), e, Nat.mul_comm]
theorem rdB_mid (ws post : List Int) (c : Int) : rdB (ws ++ c :: post) ws.length = c := by
  show List.getD (α := Int) (ws ++ c :: post) ws.length 0 = c
  rw [List.getD_eq_getElem?_getD, List.getElem?_append_right (Nat.le_refl _)]
  simp
theorem pow128 : (128 : Nat) ^ 9 = 9223372036854775808 := by decide
theorem get_dec (a : Nat) (post : List Int) : ∀ (f j m v fuel : Nat) (ws : List Int), ws.length = a + j → v < 128 ^ j → m < 128 ^ (f + 1) → v + m * 128 ^ j < 9223372036854775808 → (0 < j → 1 ≤ m) → f + 1 ≤ fuel →
    (ws ++ putL f (m : Int) ++ post).length ≤ 4611686018427387904 →
    getL (ws ++ putL f (m : Int) ++ post) a fuel (v : Int) (a + j) = (((v + m * 128 ^ j : Nat) : Int), ((a + j + (putL f (m : Int)).length : Nat) : Int), 0) := by
  -- the last word
  have last : ∀ (j m v fuel : Nat) (ws : List Int), ws.length = a + j → v < 128 ^ j → m < 128 → v + m * 128 ^ j < 9223372036854775808 → (0 < j → 1 ≤ m) → 1 ≤ fuel → (ws ++ [(m : Int)] ++ post).length ≤ 4611686018427387904 →
      getL (ws ++ [(m : Int)] ++ post) a fuel (v : Int) (a + j) = (((v + m * 128 ^ j : Nat) : Int), ((a + j + 1 : Nat) : Int), 0) := by
    intro j m v fuel ws hw hv hm ht hj hf hx
    obtain ⟨fuel, rfl⟩ : ∃ g, fuel = g + 1 := ⟨fuel - 1, by omega⟩
    have hj8 : j ≤ 8 := by
      rcases Nat.lt_or_ge j 9 with h | h
      · omega
      · have h1 := hj (by omega)
        have h2 : 128 ^ 9 ≤ 128 ^ j := Nat.pow_le_pow_right (by decide) h
        rw [pow128] at h2
        have h3 : 1 * 128 ^ j ≤ m * 128 ^ j := Nat.mul_le_mul_right _ h1
        omega
    have hrd : rdB (ws ++ [(m : Int)] ++ post) (a + j) = (m : Int) := by
      rw [List.append_assoc, ← hw]; exact rdB_mid ws post (m : Int)
    have hlen : a + j < (ws ++ [(m : Int)] ++ post).length := by simp [hw]
    have hpos : (0 : Nat) < 128 ^ j := Nat.pow_pos (by decide)
    unfold getL
    have hnz : ¬ (((m : Int) = 0 ∧ a + j > a) ∨ 7 * (a + j - a) > 56 ∨ (v : Int) > 9223372036854775807) := by
      rintro (⟨h1, h2⟩ | h1 | h1)
      · have := hj (by omega); omega
      · omega
      · omega
    rw [if_pos hlen, hrd, if_neg hnz, if_pos (by omega), getW_eq (by omega) hv hj8 (by rw [Nat.mod_eq_of_lt hm]; exact ht) (by omega), Nat.mod_eq_of_lt hm]
    unfold getE
    rw [if_neg (by omega), IntWalk.i64_in _ (by omega)]
    congr 2
  intro f
  induction f with
  | zero =>
    intro j m v fuel ws hw hv hm ht hj hf hx
    have e : putL 0 (m : Int) = [(m : Int)] := by
      show [IntKind.u8.wrap (m : Int)] = _
      rw [IntWalk.u8_in _ (by omega)]
    rw [e] at hx ⊢
    exact last j m v fuel ws hw hv (by omega) ht hj hf hx
  | succ f ih =>
    intro j m v fuel ws hw hv hm ht hj hf hx
    by_cases hm128 : m ≥ 128
    · have e : putL (f + 1) (m : Int) = ((128 + m % 128 : Nat) : Int) :: putL f ((m / 128 : Nat) : Int) := by
        rw [putL_pos (by omega), orb (by omega), shr7]
        congr 1
      have hpos : (0 : Nat) < 128 ^ j := Nat.pow_pos (by decide)
      have hpow : 128 ^ (j + 1) = 128 ^ j * 128 := Nat.pow_succ ..
      have hj8 : j ≤ 8 := by
        rcases Nat.lt_or_ge j 9 with h | h
        · omega
        · have h2 : 128 ^ 9 ≤ 128 ^ j := Nat.pow_le_pow_right (by decide) h
          rw [pow128] at h2
          have h3 : 1 * 128 ^ j ≤ m * 128 ^ j := Nat.mul_le_mul_right _ (by omega)
          omega
      have hsplit : m * 128 ^ j = (m % 128) * 128 ^ j + (m / 128) * 128 ^ (j + 1) := by
        have h1 : m = m % 128 + 128 * (m / 128) := (Nat.mod_add_div m 128).symm
        conv => lhs; rw [h1]
        rw [Nat.add_mul, hpow]
        congr 1
        rw [Nat.mul_comm 128 (m / 128), Nat.mul_assoc, Nat.mul_comm 128]
      obtain ⟨fuel, rfl⟩ : ∃ g, fuel = g + 1 := ⟨fuel - 1, by omega⟩
      rw [e] at hx ⊢
      have hrd : rdB (ws ++ ((128 + m % 128 : Nat) : Int) :: putL f ((m / 128 : Nat) : Int) ++ post) (a + j) = ((128 + m % 128 : Nat) : Int) := by
        rw [List.append_assoc, ← hw]; exact rdB_mid ws _ _
      have hlen : a + j < (ws ++ ((128 + m % 128 : Nat) : Int) :: putL f ((m / 128 : Nat) : Int) ++ post).length := by simp [hw]
      have hnz : ¬ ((((128 + m % 128 : Nat) : Int) = 0 ∧ a + j > a) ∨ 7 * (a + j - a) > 56 ∨ (v : Int) > 9223372036854775807) := by
        rintro (⟨h1, h2⟩ | h1 | h1) <;> omega
      have hc : (128 + m % 128) % 128 = m % 128 := by omega
      unfold getL
      rw [if_pos hlen, hrd, if_neg hnz, if_neg (by omega), getW_eq (by omega) hv hj8 (by rw [hc]; omega) (by omega), hc]
      have happ : ws ++ ((128 + m % 128 : Nat) : Int) :: putL f ((m / 128 : Nat) : Int) ++ post = (ws ++ [((128 + m % 128 : Nat) : Int)]) ++ putL f ((m / 128 : Nat) : Int) ++ post := by simp
      rw [happ] at hx ⊢
      have hmod : m % 128 < 128 := Nat.mod_lt _ (by decide)
      have hvv : v + m % 128 * 128 ^ j < 128 ^ (j + 1) := by
        rw [hpow]
        have : m % 128 * 128 ^ j ≤ 127 * 128 ^ j := Nat.mul_le_mul_right _ (by omega)
        omega
      have := ih (j + 1) (m / 128) (v + m % 128 * 128 ^ j) fuel (ws ++ [((128 + m % 128 : Nat) : Int)]) (by simp [hw]; omega) hvv (by rw [Nat.pow_succ] at hm; omega) (by omega) (fun _ => by omega) (by omega) hx
      rw [show a + j + 1 = a + (j + 1) by omega, this, List.length_cons]
      congr 2
      · omega
      · congr 1; omega
    · have e : putL (f + 1) (m : Int) = [(m : Int)] := by
        rw [putL_neg (by omega), IntWalk.u8_in _ (by omega)]
      rw [e] at hx ⊢
      exact last j m v fuel ws hw hv (by omega) ht hj (by omega) hx

/-! ### The law -/
theorem fnVarintBack : FnOK Try.prog 7 Try.f7 := ⟨by kernel_rfl, by kernel_rfl, by kernel_rfl⟩
def T5 : FuncId → Option CSpec := tab [(22, putSp 5), (19, awakeSp), (24, getSp)]
theorem tok5 : TOK Try.prog env T5 := tok_tab mixed ⟨put_ok, awake_ok, get_ok, trivial⟩
def getQ (xs : List Int) (a : Int) : Int × Int × Int := if a < 0 ∨ a > (xs.length : Int) then (0, 0, 6) else getL xs a.toNat 10 0 a.toNat
theorem varintBack_in (F : Nat) (xs ys : List Int) (n : Int) (k : AV → List Box2 → Option AV) : runF env T5 noInl (keep [] []) F Try.f7 [.sl B xs none none, .int .i64 n, .sl B ys none none] [] k =
    bif !decide ((xs.length : Int) > 500) then
      bif !decide ((ys.length : Int) > 500) then
        bif decide (n < 0) then k (.bool true) []
        else
          bif decide (xs.length ≤ 1000000000000) && decide (n < 9223372036854775808) then
            bif decide (Nat.add 0 ((xs.append (num n)).length.add ys.length) ≤ 140737488355328) then
              bif decide (((xs.append (num n)).append ys).length ≤ 4611686018427387904) then
                bif (getQ ((xs.append (num n)).append ys) (xs.length : Int)).1 == n then
                  bif (getQ ((xs.append (num n)).append ys) (xs.length : Int)).2.1 == IntKind.i64.wrap ((((xs.append (num n)).append ys).length : Int).sub (ys.length : Int)) then
                    bif (getQ ((xs.append (num n)).append ys) (xs.length : Int)).2.2 == 0 then k (.bool true) [] else k (.bool false) []
                  else k (.bool false) []
                else k (.bool false) []
              else none
            else none
          else none
      else k (.bool true) []
    else k (.bool true) [] := by kernel_rfl
theorem varintBack_run (xs ys : List Int) (n : Int) (hn : n < 9223372036854775808) (k : AV → List Box2 → Option AV) : runF env T5 noInl (keep [] []) 0 Try.f7 [.sl B xs none none, .int .i64 n, .sl B ys none none] [] k = k (.bool true) [] := by
  rw [varintBack_in]
  by_cases hx : (xs.length : Int) > 500
  · rw [decide_eq_true hx]; rfl
  · rw [decide_eq_false hx, Bool.not_false, cond_true]
    by_cases hy : (ys.length : Int) > 500
    · rw [decide_eq_true hy]; rfl
    · rw [decide_eq_false hy, Bool.not_false, cond_true]
      by_cases h0 : n < 0
      · rw [cond_pos h0]
      · have hnum : num n = putL 9 ((n.toNat : Nat) : Int) := by
          show putL 9 (if 0 > n then 0 else n) = _
          rw [if_neg (by omega), show ((n.toNat : Nat) : Int) = n by omega]
        have hp := putL_length 9 ((n.toNat : Nat) : Int)
        rw [hnum]
        have ha : (xs.append (putL 9 ((n.toNat : Nat) : Int))).append ys = xs ++ putL 9 ((n.toNat : Nat) : Int) ++ ys := rfl
        have ha' : (xs.append (putL 9 ((n.toNat : Nat) : Int))).length = xs.length + (putL 9 ((n.toNat : Nat) : Int)).length := List.length_append
        have hl : (xs ++ putL 9 ((n.toNat : Nat) : Int) ++ ys).length = xs.length + (putL 9 ((n.toNat : Nat) : Int)).length + ys.length := by rw [List.length_append, List.length_append]
        have hadd : Nat.add 0 ((xs.append (putL 9 ((n.toNat : Nat) : Int))).length.add ys.length) = 0 + ((xs.append (putL 9 ((n.toNat : Nat) : Int))).length + ys.length) := rfl
        have hpow : (128 : Nat) ^ (9 + 1) = 1180591620717411303424 := by decide
        have hdec := get_dec xs.length ys 9 0 n.toNat 0 10 xs (by omega) (by decide) (by rw [hpow]; omega) (by simp; omega) (fun h => by omega) (by omega) (by rw [hl]; omega)
        have hq : getQ (xs ++ putL 9 ((n.toNat : Nat) : Int) ++ ys) (xs.length : Int) = (n, ((xs.length + (putL 9 ((n.toNat : Nat) : Int)).length : Nat) : Int), 0) := by
          unfold getQ
          rw [if_neg (by rw [hl]; omega), Int.toNat_natCast]
          refine hdec.trans ?_
          congr 1
          simp; omega
        have hw : IntKind.i64.wrap (Int.sub ((xs.length + (putL 9 ((n.toNat : Nat) : Int)).length + ys.length : Nat) : Int) (ys.length : Int)) = ((xs.length + (putL 9 ((n.toNat : Nat) : Int)).length : Nat) : Int) := by
          show IntKind.i64.wrap (((xs.length + (putL 9 ((n.toNat : Nat) : Int)).length + ys.length : Nat) : Int) - (ys.length : Int)) = _
          rw [IntWalk.i64_in _ (by omega)]; omega
        rw [cond_neg h0, decide_eq_true (show xs.length ≤ 1000000000000 by omega), decide_eq_true hn, Bool.true_and, cond_true, hadd, ha', cond_pos (by omega), ha, hl, cond_pos (by omega), hq, hw]
        simp only [beq_self_eq_true, cond_true]
def varintBackSp : List AV → List (Bool × AV)
  | [.sl (.int .u8) xs none none, .int .i64 n, .sl (.int .u8) ys none none] => [(decide (n < 9223372036854775808), .bool true)]
  | _ => []
theorem varintBack_ok : PureOK Try.prog env 7 varintBackSp := by
  refine PureOK.of_reads envOK tok5 noInl_ok fnVarintBack (hv := keep [] []) (fun args r h => ?_)
  unfold varintBackSp at h
  split at h
  · rename_i xs n ys
    by_cases hn : n < 9223372036854775808
    · rw [decide_eq_true hn] at h
      simp only [sel, cond_true, Option.some.injEq] at h
      subst h
      exact ⟨_, 0, fun _ _ h => h, varintBack_run xs ys n hn _⟩
    · rw [decide_eq_false hn] at h; cases h
  · cases h
theorem varintBack_true (d : DenL ([(false, Ty.sl (.int .u8)), (false, Ty.int .i64), (false, Ty.sl (.int .u8))].map (·.2))) (h : WfL _ d) : sel (varintBackSp (argsA [(false, Ty.sl (.int .u8)), (false, Ty.int .i64), (false, Ty.sl (.int .u8))] d)) = some (.bool true) := by
  obtain ⟨xs, n, ys, u⟩ := d
  have key : ∀ m : Int, m < 9223372036854775808 → sel (varintBackSp [.sl (.int .u8) xs none none, .int .i64 m, .sl (.int .u8) ys none none]) = some (.bool true) := fun m hm => sel_one (decide_eq_true hm)
  exact key n (wf_i64 h.2.1).2
end Go.Proofs.Ytopbldbgnpeelaa.V
