/- Sums of 32 bits: by bits and by a table; over whole numbers alone. No condition. -/
import Derived.WalkKit
import Derived.KernelRfl
set_option linter.unusedVariables false
set_option linter.unusedSimpArgs false
namespace Go.Proofs.AbsV.Crc
def P : Nat := 3988292384
def st1 (r : Nat) : Nat := if r % 2 = 1 then r / 2 ^^^ P else r / 2
def stN : Nat → Nat → Nat
  | 0, r => r
  | n + 1, r => stN n (st1 r)
def tab : List Nat := [0, 498536548, 997073096, 651767980, 1994146192, 1802195444, 1303535960, 1342533948, 3988292384, 4027552580, 3604390888, 3412177804, 2607071920, 2262029012, 2685067896, 3183342108]
def half (r : Nat) : Nat := r / 16 ^^^ tab.getD (r % 16) 0
theorem xor_div2 (a b : Nat) : (a ^^^ b) / 2 = a / 2 ^^^ b / 2 := Nat.xor_div_two
theorem xor_mod2 (a b : Nat) : (a ^^^ b) % 2 = (a + b) % 2 := by
  have h : (a ^^^ b) % 2 = a % 2 ^^^ b % 2 := Nat.xor_mod_two_pow (n := 1)
  rw [h]
  rcases Nat.mod_two_eq_zero_or_one a with ha | ha <;> rcases Nat.mod_two_eq_zero_or_one b with hb | hb <;> rw [ha, hb]
  · show 0 = _; omega
  · show 1 = _; omega
  · show 1 = _; omega
  · show 0 = _; omega
theorem st1_xor (a b : Nat) : st1 (a ^^^ b) = st1 a ^^^ st1 b := by
  unfold st1
  rw [xor_div2, xor_mod2]
  by_cases ha : a % 2 = 1
  · by_cases hb : b % 2 = 1
    · rw [if_pos ha, if_pos hb, if_neg (by omega), Nat.xor_assoc, Nat.xor_comm P, Nat.xor_assoc, Nat.xor_self, Nat.xor_zero]
    · rw [if_pos ha, if_neg hb, if_pos (by omega), Nat.xor_assoc, Nat.xor_comm (b / 2), ← Nat.xor_assoc]
  · by_cases hb : b % 2 = 1
    · rw [if_neg ha, if_pos hb, if_pos (by omega), Nat.xor_assoc]
    · rw [if_neg ha, if_neg hb, if_neg (by omega)]
theorem stN_xor : ∀ (n a b : Nat), stN n (a ^^^ b) = stN n a ^^^ stN n b
  | 0, _, _ => rfl
  | n + 1, a, b => by simp only [stN, st1_xor, stN_xor n]
theorem stN_add : ∀ (m n r : Nat), stN (m + n) r = stN n (stN m r)
  | 0, n, r => by simp [stN]
  | m + 1, n, r => by
    rw [show m + 1 + n = (m + n) + 1 by omega]
    simp only [stN, stN_add m n]
theorem st1_even (q : Nat) : st1 (2 * q) = q := by
  unfold st1
  rw [if_neg (by omega)]
  omega
theorem st4_16 (q : Nat) : stN 4 (16 * q) = q := by
  show st1 (st1 (st1 (st1 (16 * q)))) = q
  rw [show 16 * q = 2 * (2 * (2 * (2 * q))) by omega, st1_even, st1_even, st1_even, st1_even]
theorem split16 (r : Nat) : r = (16 * (r / 16)) ^^^ (r % 16) := by
  apply Nat.eq_of_testBit_eq
  intro i
  have hr : r = 2 ^ 4 * (r / 16) + r % 16 := by omega
  rw [Nat.testBit_xor]
  conv => lhs; rw [hr]
  rw [Nat.testBit_two_pow_mul_add _ (show r % 16 < 2 ^ 4 by omega), show 16 * (r / 16) = 2 ^ 4 * (r / 16) by omega, Nat.testBit_two_pow_mul]
  by_cases h : i < 4
  · rw [if_pos h]
    have : ¬ (i ≥ 4) := by omega
    simp [this]
  · rw [if_neg h]
    have h2 : (r % 16).testBit i = false := Nat.testBit_lt_two_pow (Nat.lt_of_lt_of_le (show r % 16 < 2 ^ 4 by omega) (Nat.pow_le_pow_right (by omega) (by omega)))
    simp [h2, show i ≥ 4 by omega]
theorem st4_low : ∀ d, d < 16 → stN 4 d = tab.getD d 0
  | 0, _ => by decide
  | 1, _ => by decide
  | 2, _ => by decide
  | 3, _ => by decide
  | 4, _ => by decide
  | 5, _ => by decide
  | 6, _ => by decide
  | 7, _ => by decide
  | 8, _ => by decide
  | 9, _ => by decide
  | 10, _ => by decide
  | 11, _ => by decide
  | 12, _ => by decide
  | 13, _ => by decide
  | 14, _ => by decide
  | 15, _ => by decide
  | d + 16, h => by omega
theorem st4_half (r : Nat) : stN 4 r = half r := by
  conv => lhs; rw [split16 r]
  rw [stN_xor, st4_16, st4_low _ (by omega)]
  rfl
/-- Eight turns of bits are two of the table. -/
theorem st8_half (r : Nat) : stN 8 r = half (half r) := by
  rw [show (8 : Nat) = 4 + 4 from rfl, stN_add, st4_half, st4_half]
theorem P_lt : P < 2 ^ 32 := by decide
theorem st1_lt {r : Nat} (h : r < 2 ^ 32) : st1 r < 2 ^ 32 := by
  unfold st1
  split
  · exact Nat.xor_lt_two_pow (by omega) P_lt
  · omega
theorem stN_lt : ∀ {n r : Nat}, r < 2 ^ 32 → stN n r < 2 ^ 32
  | 0, _, h => h
  | n + 1, r, h => stN_lt (n := n) (st1_lt h)
/-- One byte more. -/
def step (r c : Nat) : Nat := stN 8 (r ^^^ c)
theorem step_lt {r c : Nat} (h : r < 2 ^ 32) (hc : c < 2 ^ 32) : step r c < 2 ^ 32 := stN_lt (Nat.xor_lt_two_pow h hc)
def run (r : Nat) : List Nat → Nat
  | [] => r
  | c :: l => run (step r c) l
def sum (l : List Nat) : Nat := 4294967295 - run 4294967295 l
theorem run_lt : ∀ {l : List Nat} {r : Nat}, r < 2 ^ 32 → (∀ c ∈ l, c < 256) → run r l < 2 ^ 32
  | [], r, h, _ => h
  | c :: l, r, h, hl => run_lt (l := l) (r := step r c) (step_lt h (Nat.lt_of_lt_of_le (hl c (by simp)) (by decide))) (fun x hx => hl x (by simp [hx]))
theorem sum_lt {l : List Nat} : sum l < 2 ^ 32 := by unfold sum; omega
/-! ### What is spoilt is told -/
theorem st1_inj0 {r : Nat} (h : r < 2 ^ 32) (h0 : st1 r = 0) : r = 0 := by
  unfold st1 at h0
  split at h0
  · rename_i ho
    have h1 : r / 2 = P := by
      have := congrArg (· ^^^ P) h0
      simp only [Nat.xor_assoc, Nat.xor_self, Nat.xor_zero, Nat.zero_xor] at this
      exact this
    have : r / 2 < 2 ^ 31 := by omega
    rw [h1] at this
    exact absurd this (by decide)
  · omega
theorem stN_inj0 : ∀ {n r : Nat}, r < 2 ^ 32 → stN n r = 0 → r = 0
  | 0, r, h, h0 => h0
  | n + 1, r, h, h0 => st1_inj0 h (stN_inj0 (n := n) (st1_lt h) h0)
theorem xor_eq_zero' {a b : Nat} (h : a ^^^ b = 0) : a = b := by
  have := congrArg (· ^^^ b) h
  simpa [Nat.xor_assoc] using this
theorem step_inj {r s c : Nat} (hr : r < 2 ^ 32) (hs : s < 2 ^ 32) (h : step r c = step s c) : r = s := by
  unfold step at h
  have h2 : stN 8 (r ^^^ s) = 0 := by
    have e : r ^^^ s = (r ^^^ c) ^^^ (s ^^^ c) := by
      rw [Nat.xor_assoc, Nat.xor_comm s c, ← Nat.xor_assoc c c s, Nat.xor_self, Nat.zero_xor]
    rw [e, stN_xor, h, Nat.xor_self]
  exact xor_eq_zero' (stN_inj0 (Nat.xor_lt_two_pow hr hs) h2)
theorem run_inj : ∀ {l : List Nat} {r s : Nat}, r < 2 ^ 32 → s < 2 ^ 32 → (∀ c ∈ l, c < 256) → run r l = run s l → r = s
  | [], r, s, hr, hs, _, h => h
  | c :: l, r, s, hr, hs, hl, h => by
    have hc : c < 2 ^ 32 := Nat.lt_of_lt_of_le (hl c (by simp)) (by decide)
    exact step_inj hr hs (run_inj (step_lt hr hc) (step_lt hs hc) (fun x hx => hl x (by simp [hx])) h)
theorem run_append : ∀ (l m : List Nat) (r : Nat), run r (l ++ m) = run (run r l) m
  | [], m, r => rfl
  | c :: l, m, r => run_append l m (step r c)
theorem stN_zero : ∀ n, stN n 0 = 0
  | 0 => rfl
  | n + 1 => by show stN n (st1 0) = 0; rw [show st1 0 = 0 from by decide]; exact stN_zero n
theorem step_xor (r s a d : Nat) : step (r ^^^ s) (a ^^^ d) = step r a ^^^ step s d := by
  unfold step
  rw [← stN_xor]
  congr 1
  rw [Nat.xor_assoc, Nat.xor_assoc, ← Nat.xor_assoc s a d, Nat.xor_comm s a, Nat.xor_assoc a s d]
theorem run_nil (r : Nat) : run r [] = r := rfl
theorem run_cons (r c : Nat) (l : List Nat) : run r (c :: l) = run (step r c) l := rfl
theorem run_xor : ∀ (l : List (Nat × Nat)) (r s : Nat), run (r ^^^ s) (l.map fun p => p.1 ^^^ p.2) = run r (l.map (·.1)) ^^^ run s (l.map (·.2))
  | [], r, s => rfl
  | p :: l, r, s => by
    rw [List.map_cons, List.map_cons, List.map_cons, run_cons, run_cons, run_cons, step_xor]
    exact run_xor l (step r p.1) (step s p.2)
/-- Bytes that differ by d0 .. d3, from one register: what the registers differ by behind them. -/
theorem run4_xor (r a0 a1 a2 a3 d0 d1 d2 d3 : Nat) : run r [a0 ^^^ d0, a1 ^^^ d1, a2 ^^^ d2, a3 ^^^ d3] = run r [a0, a1, a2, a3] ^^^ run 0 [d0, d1, d2, d3] := by
  have h := run_xor [(a0, d0), (a1, d1), (a2, d2), (a3, d3)] r 0
  simp only [Nat.xor_zero, List.map_cons, List.map_nil] at h
  exact h
theorem stN_pow : ∀ (k d : Nat), stN k (2 ^ k * d) = d
  | 0, d => by simp [stN]
  | k + 1, d => by
    have h : st1 (2 ^ (k + 1) * d) = 2 ^ k * d := by
      have e : 2 ^ (k + 1) * d = 2 * (2 ^ k * d) := by rw [Nat.pow_succ, Nat.mul_comm (2 ^ k) 2, Nat.mul_assoc]
      unfold st1
      rw [e, if_neg (by omega)]
      omega
    show stN k (st1 (2 ^ (k + 1) * d)) = d
    rw [h]
    exact stN_pow k d
theorem step_join (k a d : Nat) : step (stN k a) d = stN (k + 8) (a ^^^ 2 ^ k * d) := by
  unfold step
  rw [stN_add]
  congr 1
  rw [stN_xor, stN_pow]
theorem run4_word (d0 d1 d2 d3 : Nat) : run 0 [d0, d1, d2, d3] = stN 32 (((d0 ^^^ 2 ^ 8 * d1) ^^^ 2 ^ 16 * d2) ^^^ 2 ^ 24 * d3) := by
  have h0 : step 0 d0 = stN 8 d0 := by unfold step; rw [Nat.zero_xor]
  have h1 : step (stN 8 d0) d1 = stN 16 (d0 ^^^ 2 ^ 8 * d1) := step_join 8 d0 d1
  have h2 : step (stN 16 (d0 ^^^ 2 ^ 8 * d1)) d2 = stN 24 ((d0 ^^^ 2 ^ 8 * d1) ^^^ 2 ^ 16 * d2) := step_join 16 _ d2
  have h3 : step (stN 24 ((d0 ^^^ 2 ^ 8 * d1) ^^^ 2 ^ 16 * d2)) d3 = stN 32 (((d0 ^^^ 2 ^ 8 * d1) ^^^ 2 ^ 16 * d2) ^^^ 2 ^ 24 * d3) := step_join 24 _ d3
  rw [run_cons, run_cons, run_cons, run_cons, h0, h1, h2, h3]
  exact run_nil _
theorem word_lt {d0 d1 d2 d3 : Nat} (h0 : d0 < 256) (h1 : d1 < 256) (h2 : d2 < 256) (h3 : d3 < 256) : ((d0 ^^^ 2 ^ 8 * d1) ^^^ 2 ^ 16 * d2) ^^^ 2 ^ 24 * d3 < 2 ^ 32 :=
  Nat.xor_lt_two_pow (Nat.xor_lt_two_pow (Nat.xor_lt_two_pow (by omega) (by omega)) (by omega)) (by omega)
theorem word_zero {n r : Nat} (h : r < 2 ^ 32) (h0 : stN n r = 0) : r = 0 := stN_inj0 h h0
theorem run4_inj0 {d0 d1 d2 d3 : Nat} (h0 : d0 < 256) (h1 : d1 < 256) (h2 : d2 < 256) (h3 : d3 < 256) (h : run 0 [d0, d1, d2, d3] = 0) : d0 = 0 ∧ d1 = 0 ∧ d2 = 0 ∧ d3 = 0 := by
  have hw := word_zero (word_lt h0 h1 h2 h3) ((run4_word d0 d1 d2 d3).symm.trans h)
  clear h
  have m : ∀ (a b n : Nat), (a ^^^ b) % 2 ^ n = a % 2 ^ n ^^^ b % 2 ^ n := fun a b n => Nat.xor_mod_two_pow
  have dv : ∀ (a b n : Nat), (a ^^^ b) / 2 ^ n = a / 2 ^ n ^^^ b / 2 ^ n := fun a b n => Nat.xor_div_two_pow
  have e0 : d0 = 0 := by
    have := congrArg (· % 2 ^ 8) hw
    simp only [m] at this
    rw [show 2 ^ 8 * d1 % 2 ^ 8 = 0 by omega, show 2 ^ 16 * d2 % 2 ^ 8 = 0 by omega, show 2 ^ 24 * d3 % 2 ^ 8 = 0 by omega, Nat.mod_eq_of_lt (show d0 < 2 ^ 8 by omega)] at this
    simpa using this
  subst e0
  rw [Nat.zero_xor] at hw
  have e1 : d1 = 0 := by
    have := congrArg (fun x => x / 2 ^ 8 % 2 ^ 8) hw
    simp only [m, dv] at this
    rw [show 2 ^ 8 * d1 / 2 ^ 8 = d1 by omega, show 2 ^ 16 * d2 / 2 ^ 8 % 2 ^ 8 = 0 by omega, show 2 ^ 24 * d3 / 2 ^ 8 % 2 ^ 8 = 0 by omega, Nat.mod_eq_of_lt (show d1 < 2 ^ 8 by omega)] at this
    simpa using this
  subst e1
  rw [Nat.mul_zero, Nat.zero_xor] at hw
  have e2 : d2 = 0 := by
    have := congrArg (fun x => x / 2 ^ 16 % 2 ^ 8) hw
    simp only [m, dv] at this
    rw [show 2 ^ 16 * d2 / 2 ^ 16 = d2 by omega, show 2 ^ 24 * d3 / 2 ^ 16 % 2 ^ 8 = 0 by omega, Nat.mod_eq_of_lt (show d2 < 2 ^ 8 by omega)] at this
    simpa using this
  subst e2
  rw [Nat.mul_zero, Nat.zero_xor] at hw
  exact ⟨rfl, rfl, rfl, by omega⟩
theorem sub_inj {a b : Nat} (ha : a < 2 ^ 32) (hb : b < 2 ^ 32) (h : 4294967295 - a = 4294967295 - b) : a = b := by omega
/-- Up to four bytes, one behind the other, that are others: another sum. -/
theorem sum_spoilt (l m : List Nat) (a0 a1 a2 a3 d0 d1 d2 d3 : Nat) (hl : ∀ c ∈ l, c < 256) (hm : ∀ c ∈ m, c < 256) (ha0 : a0 < 256) (ha1 : a1 < 256) (ha2 : a2 < 256) (ha3 : a3 < 256) (h0 : d0 < 256) (h1 : d1 < 256) (h2 : d2 < 256) (h3 : d3 < 256)
    (hd : ¬ (d0 = 0 ∧ d1 = 0 ∧ d2 = 0 ∧ d3 = 0)) : sum (l ++ [a0 ^^^ d0, a1 ^^^ d1, a2 ^^^ d2, a3 ^^^ d3] ++ m) ≠ sum (l ++ [a0, a1, a2, a3] ++ m) := by
  intro h
  unfold sum at h
  rw [run_append, run_append, run_append, run_append] at h
  have hr := run_lt (l := l) (r := 4294967295) (by decide) hl
  have x8 : ∀ {a b : Nat}, a < 256 → b < 256 → a ^^^ b < 256 := fun ha hb => Nat.xor_lt_two_pow (n := 8) ha hb
  have hq : run (run 4294967295 l) [a0, a1, a2, a3] < 2 ^ 32 := run_lt hr (by simp; omega)
  have hp : run (run 4294967295 l) [a0 ^^^ d0, a1 ^^^ d1, a2 ^^^ d2, a3 ^^^ d3] < 2 ^ 32 := run_lt hr (by
    intro c hc
    simp only [List.mem_cons, List.not_mem_nil, or_false] at hc
    rcases hc with rfl | rfl | rfl | rfl
    · exact x8 ha0 h0
    · exact x8 ha1 h1
    · exact x8 ha2 h2
    · exact x8 ha3 h3)
  have hA := run_lt hp hm
  have hB := run_lt hq hm
  have := run_inj hp hq hm (sub_inj hA hB h)
  rw [run4_xor] at this
  have hz : run 0 [d0, d1, d2, d3] = 0 := by
    have e := congrArg (run (run 4294967295 l) [a0, a1, a2, a3] ^^^ ·) this
    simp only [← Nat.xor_assoc, Nat.xor_self, Nat.zero_xor] at e
    exact e
  exact hd (run4_inj0 h0 h1 h2 h3 hz)
end Go.Proofs.AbsV.Crc
