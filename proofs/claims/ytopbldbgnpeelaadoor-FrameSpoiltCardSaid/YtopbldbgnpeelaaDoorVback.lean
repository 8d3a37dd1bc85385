/- What varint.Put puts varint.Get gets, and the other way round. No condition. -/
import Derived.Test.YtopbldbgnpeelaaDoorVget
import Derived.IntWalk
set_option maxRecDepth 100000
set_option linter.unusedVariables false
namespace Go.Proofs.YtopbldbgnpeelaaDoor.V
open Go Go.Proofs.AbsV
theorem orb {m : Int} (h : 0 ≤ m) : orI .u8 (IntKind.u8.wrap m) 128 = 128 + m % 128 := by
  rw [IntKind.wrap_u8]
  have := or128 ⟨(m % 256).toNat, by omega⟩
  simp only at this
  rw [show ((m % 256).toNat : Int) = m % 256 by omega] at this
  rw [this]; omega
/-! ### What is put is got back -/
theorem and127 : ∀ x : Fin 256, andI .u8 (x.val : Int) 127 = ((x.val % 128 : Nat) : Int) := by decide
theorem or_add {s a b : Nat} (hb : b < 2 ^ s) (h : 2 ^ s * a + b < 18446744073709551616) : orI .u64 (b : Int) ((2 ^ s * a : Nat) : Int) = ((b + 2 ^ s * a : Nat) : Int) := by
  have hlt : (2 : Nat) ^ 64 = 18446744073709551616 := by decide
  unfold orI
  have e1 : IntKind.u64.bits = 64 := rfl
  rw [e1]
  have h1 : (BitVec.ofInt 64 (b : Int) ||| BitVec.ofInt 64 ((2 ^ s * a : Nat) : Int)).toNat = b + 2 ^ s * a := by
    rw [BitVec.toNat_or, BitVec.ofInt_natCast, BitVec.ofInt_natCast, BitVec.toNat_ofNat, BitVec.toNat_ofNat, Nat.mod_eq_of_lt (by omega), Nat.mod_eq_of_lt (by omega), Nat.or_comm, ← Nat.two_pow_add_eq_or_of_lt hb, Nat.add_comm]
  rw [h1, IntWalk.u64_in _ (by omega)]
theorem getW_eq {a j v c : Nat} (hc : c < 256) (hv : v < 128 ^ j) (hj : j ≤ 8) (h : v + (c % 128) * 128 ^ j < 9223372036854775808) (ha : a + j ≤ 4611686018427387904) :
    getW (a : Int) ((a + j : Nat) : Int) (v : Int) (c : Int) = ((v + (c % 128) * 128 ^ j : Nat) : Int) := by
  unfold getW
  have e : (128 : Nat) ^ j = 2 ^ (7 * j) := by rw [Nat.pow_mul]
  have h1 := and127 ⟨c, hc⟩
  simp only at h1
  have hs : getSh (a : Int) ((a + j : Nat) : Int) = ((7 * j : Nat) : Int) := by
    rw [getSh_eq (by omega) (by omega) (by omega)]
    congr 2; omega
  have hsh : shlI .u64 ((c % 128 : Nat) : Int) ((7 * j : Nat) : Int) = ((2 ^ (7 * j) * (c % 128) : Nat) : Int) := by
    unfold shlI
    have hm : min (((7 * j : Nat) : Int)).toNat IntKind.u64.bits = 7 * j := by
      have : IntKind.u64.bits = 64 := rfl
      rw [this]; omega
    rw [hm, show (2 : Int) ^ (7 * j) = ((2 ^ (7 * j) : Nat) : Int) by simp, ← Int.natCast_mul, Nat.mul_comm]
    rw [← e]
    rw [Nat.mul_comm] at h
    exact IntWalk.u64_in _ (by omega)
  rw [h1, IntWalk.u64_in _ (by omega), hs, hsh, or_add (by rw [← e]; exact hv) (by rw [← e, Nat.mul_comm]; omega), e, Nat.mul_comm]
theorem rdB_mid (ws post : List Int) (c : Int) : rdB (ws ++ c :: post) ws.length = c := by
  show List.getD (α := Int) (ws ++ c :: post) ws.length 0 = c
  rw [List.getD_eq_getElem?_getD, List.getElem?_append_right (Nat.le_refl _)]
  simp
theorem pow128 : (128 : Nat) ^ 9 = 9223372036854775808 := by decide
theorem get_dec (a : Nat) (post : List Int) : ∀ (f j m v fuel : Nat) (ws : List Int), ws.length = a + j → v < 128 ^ j → m < 128 ^ (f + 1) → v + m * 128 ^ j < 9223372036854775808 → (0 < j → 1 ≤ m) → f + 1 ≤ fuel →
    (ws ++ putL f (m : Int) ++ post).length ≤ 4611686018427387904 →
    getL (ws ++ putL f (m : Int) ++ post) a fuel (v : Int) (a + j) = (((v + m * 128 ^ j : Nat) : Int), ((a + j + (putL f (m : Int)).length : Nat) : Int), 0) := by
  -- the last word
  have last : ∀ (j m v fuel : Nat) (ws : List Int), ws.length = a + j → v < 128 ^ j → m < 128 → v + m * 128 ^ j < 9223372036854775808 → (0 < j → 1 ≤ m) → 1 ≤ fuel → (ws ++ [(m : Int)] ++ post).length ≤ 4611686018427387904 →
      getL (ws ++ [(m : Int)] ++ post) a fuel (v : Int) (a + j) = (((v + m * 128 ^ j : Nat) : Int), ((a + j + 1 : Nat) : Int), 0) := by
    intro j m v fuel ws hw hv hm ht hj hf hx
    obtain ⟨fuel, rfl⟩ : ∃ g, fuel = g + 1 := ⟨fuel - 1, by omega⟩
    have hj8 : j ≤ 8 := by
      rcases Nat.lt_or_ge j 9 with h | h
      · omega
      · have h1 := hj (by omega)
        have h2 : 128 ^ 9 ≤ 128 ^ j := Nat.pow_le_pow_right (by decide) h
        rw [pow128] at h2
        have h3 : 1 * 128 ^ j ≤ m * 128 ^ j := Nat.mul_le_mul_right _ h1
        omega
    have hrd : rdB (ws ++ [(m : Int)] ++ post) (a + j) = (m : Int) := by
      rw [List.append_assoc, ← hw]; exact rdB_mid ws post (m : Int)
    have hlen : a + j < (ws ++ [(m : Int)] ++ post).length := by simp [hw]
    have hpos : (0 : Nat) < 128 ^ j := Nat.pow_pos (by decide)
    unfold getL
    have hnz : ¬ (((m : Int) = 0 ∧ a + j > a) ∨ 7 * (a + j - a) > 56 ∨ (v : Int) > 9223372036854775807) := by
      rintro (⟨h1, h2⟩ | h1 | h1)
      · have := hj (by omega); omega
      · omega
      · omega
    rw [if_pos hlen, hrd, if_neg hnz, if_pos (by omega), getW_eq (by omega) hv hj8 (by rw [Nat.mod_eq_of_lt hm]; exact ht) (by omega), Nat.mod_eq_of_lt hm]
    unfold getE
    rw [if_neg (by omega), IntWalk.i64_in _ (by omega)]
    congr 2
  intro f
  induction f with
  | zero =>
    intro j m v fuel ws hw hv hm ht hj hf hx
    have e : putL 0 (m : Int) = [(m : Int)] := by
      show [IntKind.u8.wrap (m : Int)] = _
      rw [IntWalk.u8_in _ (by omega)]
    rw [e] at hx ⊢
    exact last j m v fuel ws hw hv (by omega) ht hj hf hx
  | succ f ih =>
    intro j m v fuel ws hw hv hm ht hj hf hx
    by_cases hm128 : m ≥ 128
    · have e : putL (f + 1) (m : Int) = ((128 + m % 128 : Nat) : Int) :: putL f ((m / 128 : Nat) : Int) := by
        rw [putL_pos (by omega), orb (by omega), shr7]
        congr 1
      have hpos : (0 : Nat) < 128 ^ j := Nat.pow_pos (by decide)
      have hpow : 128 ^ (j + 1) = 128 ^ j * 128 := Nat.pow_succ ..
      have hj8 : j ≤ 8 := by
        rcases Nat.lt_or_ge j 9 with h | h
        · omega
        · have h2 : 128 ^ 9 ≤ 128 ^ j := Nat.pow_le_pow_right (by decide) h
          rw [pow128] at h2
          have h3 : 1 * 128 ^ j ≤ m * 128 ^ j := Nat.mul_le_mul_right _ (by omega)
          omega
      have hsplit : m * 128 ^ j = (m % 128) * 128 ^ j + (m / 128) * 128 ^ (j + 1) := by
        have h1 : m = m % 128 + 128 * (m / 128) := (Nat.mod_add_div m 128).symm
        conv => lhs; rw [h1]
        rw [Nat.add_mul, hpow]
        congr 1
        rw [Nat.mul_comm 128 (m / 128), Nat.mul_assoc, Nat.mul_comm 128]
      obtain ⟨fuel, rfl⟩ : ∃ g, fuel = g + 1 := ⟨fuel - 1, by omega⟩
      rw [e] at hx ⊢
      have hrd : rdB (ws ++ ((128 + m % 128 : Nat) : Int) :: putL f ((m / 128 : Nat) : Int) ++ post) (a + j) = ((128 + m % 128 : Nat) : Int) := by
        rw [List.append_assoc, ← hw]; exact rdB_mid ws _ _
      have hlen : a + j < (ws ++ ((128 + m % 128 : Nat) : Int) :: putL f ((m / 128 : Nat) : Int) ++ post).length := by simp [hw]
      have hnz : ¬ ((((128 + m % 128 : Nat) : Int) = 0 ∧ a + j > a) ∨ 7 * (a + j - a) > 56 ∨ (v : Int) > 9223372036854775807) := by
        rintro (⟨h1, h2⟩ | h1 | h1) <;> omega
      have hc : (128 + m % 128) % 128 = m % 128 := by omega
      unfold getL
      rw [if_pos hlen, hrd, if_neg hnz, if_neg (by omega), getW_eq (by omega) hv hj8 (by rw [hc]; omega) (by omega), hc]
      have happ : ws ++ ((128 + m % 128 : Nat) : Int) :: putL f ((m / 128 : Nat) : Int) ++ post = (ws ++ [((128 + m % 128 : Nat) : Int)]) ++ putL f ((m / 128 : Nat) : Int) ++ post := by simp
      rw [happ] at hx ⊢
      have hmod : m % 128 < 128 := Nat.mod_lt _ (by decide)
      have hvv : v + m % 128 * 128 ^ j < 128 ^ (j + 1) := by
        rw [hpow]
        have : m % 128 * 128 ^ j ≤ 127 * 128 ^ j := Nat.mul_le_mul_right _ (by omega)
        omega
      have := ih (j + 1) (m / 128) (v + m % 128 * 128 ^ j) fuel (ws ++ [((128 + m % 128 : Nat) : Int)]) (by simp [hw]; omega) hvv (by rw [Nat.pow_succ] at hm; omega) (by omega) (fun _ => by omega) (by omega) hx
      rw [show a + j + 1 = a + (j + 1) by omega, this, List.length_cons]
      congr 2
      · omega
      · congr 1; omega
    · have e : putL (f + 1) (m : Int) = [(m : Int)] := by
        rw [putL_neg (by omega), IntWalk.u8_in _ (by omega)]
      rw [e] at hx ⊢
      exact last j m v fuel ws hw hv (by omega) ht hj (by omega) hx

/-! ### What is got was put so -/
theorem rdB_at {xs : List Int} {i : Nat} (h : i < xs.length) : rdB xs i = xs[i] := by
  show List.getD (α := Int) xs i 0 = xs[i]
  rw [List.getD_eq_getElem?_getD, List.getElem?_eq_getElem h]
  rfl
theorem drop_take_cons {xs : List Int} {i m : Nat} (h : i < xs.length) (hm : i < m) : (xs.drop i).take (m - i) = xs[i] :: (xs.drop (i + 1)).take (m - (i + 1)) := by
  rw [List.drop_eq_getElem_cons h, show m - i = (m - (i + 1)) + 1 by omega, List.take_succ_cons]
theorem pow128_le {j : Nat} (h : j ≤ 8) : 128 ^ (j + 1) ≤ 9223372036854775808 := by
  rw [← pow128]
  exact Nat.pow_le_pow_right (by decide) (by omega)
theorem getL_enc {b : List Int} (hb : ∀ c ∈ b, 0 ≤ c ∧ c < 256) (hx : b.length ≤ 4611686018427387904) (a : Nat) : ∀ (f j v : Nat), j ≤ 9 → v < 128 ^ j → 9 ≤ f + j → a + j ≤ b.length → (getL b a (f + 1) (v : Int) (a + j)).2.2 = 0 →
    ∃ m fm : Nat, getL b a (f + 1) (v : Int) (a + j) = (((v + m * 128 ^ j : Nat) : Int), ((fm : Nat) : Int), 0) ∧ a + j < fm ∧ fm ≤ b.length ∧ (0 < j → 1 ≤ m) ∧ v + m * 128 ^ j < 9223372036854775808 ∧ (b.drop (a + j)).take (fm - (a + j)) = putL (9 - j) (m : Int) := by
  intro f
  induction f with
  | zero =>
    intro j v hj hv hf hl h
    have hj9 : j = 9 := by omega
    subst hj9
    unfold getL at h
    by_cases hi : a + 9 < b.length
    · rw [if_pos hi, if_pos (.inr (.inl (by omega)))] at h
      exact absurd h (by decide)
    · rw [if_neg hi] at h
      unfold getE at h
      rw [if_pos (show a + 9 = b.length by omega)] at h
      exact absurd h (by decide)
  | succ f ih =>
    intro j v hj hv hf hl h
    unfold getL at h ⊢
    by_cases hi : a + j < b.length
    · rw [if_pos hi] at h ⊢
      rw [rdB_at hi] at h ⊢
      have hc := hb b[a + j] (List.getElem_mem hi)
      by_cases hbad : (b[a + j] = 0 ∧ a + j > a) ∨ 7 * (a + j - a) > 56 ∨ (v : Int) > 9223372036854775807
      · rw [if_pos hbad] at h
        exact absurd h (by decide)
      · rw [if_neg hbad] at h ⊢
        have hj8 : j ≤ 8 := by
          rcases Nat.lt_or_ge j 9 with h9 | h9
          · omega
          · exact absurd (.inr (.inl (by omega))) hbad
        obtain ⟨c, hcn⟩ : ∃ c : Nat, b[a + j] = (c : Int) := ⟨b[a + j].toNat, by omega⟩
        have hc256 : c < 256 := by omega
        have hpow : 128 ^ (j + 1) = 128 ^ j * 128 := Nat.pow_succ ..
        have hp0 : (0 : Nat) < 128 ^ j := Nat.pow_pos (by decide)
        have hple := pow128_le hj8
        have hmod : c % 128 * 128 ^ j ≤ 127 * 128 ^ j := Nat.mul_le_mul_right _ (by omega)
        have hvv : v + c % 128 * 128 ^ j < 128 ^ (j + 1) := by rw [hpow]; omega
        have hw := getW_eq (a := a) (j := j) (v := v) (c := c) hc256 hv hj8 (by omega) (by omega)
        rw [hcn] at h ⊢
        rw [hw] at h ⊢
        have hnz : 0 < j → c ≠ 0 := fun hj0 h0 => hbad (.inl ⟨by rw [hcn, h0]; rfl, by omega⟩)
        by_cases hlt : c < 128
        · rw [if_pos (show (c : Int) < 128 by omega)]
          refine ⟨c, a + j + 1, ?_, by omega, by omega, fun hj0 => by have := hnz hj0; omega, ?_, ?_⟩
          · unfold getE
            rw [if_neg (by omega), IntWalk.i64_in _ (by omega), Nat.mod_eq_of_lt hlt]
            rfl
          · rw [Nat.mod_eq_of_lt hlt] at hvv; omega
          · rw [drop_take_cons hi (by omega), Nat.sub_self, List.take_zero, hcn]
            obtain ⟨g, hg⟩ : ∃ g, 9 - j = g + 1 := ⟨8 - j, by omega⟩
            rw [hg, putL_neg (by omega), IntWalk.u8_in _ (by omega)]
        · rw [if_neg (show ¬ (c : Int) < 128 by omega)] at h ⊢
          have h' := ih (j + 1) (v + c % 128 * 128 ^ j) (by omega) hvv (by omega) (by omega) h
          obtain ⟨m', fm, e1, e2, e3, e4, e5, e6⟩ := h'
          have e4' := e4 (by omega)
          have hsplit : v + c % 128 * 128 ^ j + m' * 128 ^ (j + 1) = v + (c % 128 + 128 * m') * 128 ^ j := by
            rw [hpow, Nat.add_mul, Nat.mul_comm (128 ^ j) 128, ← Nat.mul_assoc, Nat.mul_comm m' 128]; omega
          rw [hsplit] at e1 e5
          refine ⟨c % 128 + 128 * m', fm, e1, by omega, e3, fun _ => by omega, e5, ?_⟩
          rw [drop_take_cons hi (by omega), show a + j + 1 = a + (j + 1) by omega, e6, hcn]
          obtain ⟨g, hg⟩ : ∃ g, 9 - j = g + 1 := ⟨8 - j, by omega⟩
          rw [hg, putL_pos (by omega), show 9 - (j + 1) = g by omega, orb (by omega), shr7]
          congr 1
          · omega
          · congr 1; omega
    · rw [if_neg hi] at h
      unfold getE at h
      rw [if_pos (show a + j = b.length by omega)] at h
      exact absurd h (by decide)
end Go.Proofs.YtopbldbgnpeelaaDoor.V
