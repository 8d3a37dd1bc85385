/- Runes of a text, byte by byte. No condition. -/
import Derived.Lib.DecodeN
set_option linter.unusedVariables false
namespace Go.Proofs.AbsV
open Go
def bt8 (s : ByteArray) (i : Nat) : Nat := (s.get! i).toNat
theorem bt8_lt (s : ByteArray) (i : Nat) : bt8 s i < 256 := UInt8.toNat_lt _
/-- No rune begins at a place. -/
def noRune (s : ByteArray) (p : Nat) : Bool := (Utf8.decode s p).1 == 65533 && (Utf8.decode s p).2 == 1
theorem dec_at (s : ByteArray) (i : Nat) : Utf8.decode s i = Lib.decodeN (s.size - i) (bt8 s i) (bt8 s (i + 1)) (bt8 s (i + 2)) (bt8 s (i + 3)) := Lib.decode_at s i
set_option maxRecDepth 100000 in
set_option maxHeartbeats 2000000 in
theorem dec_cases (s : ByteArray) (p : Nat) (h : p < s.size) :
    ((Utf8.decode s p).1 = 65533 ∧ (Utf8.decode s p).2 = 1) ∨
    ((Utf8.decode s p).2 = 1 ∧ (Utf8.decode s p).1 = bt8 s p ∧ bt8 s p < 128) ∨
    ((Utf8.decode s p).2 = 2 ∧ p + 2 ≤ s.size ∧ 128 ≤ (Utf8.decode s p).1 ∧ (Utf8.decode s p).1 < 65533 ∧ 128 ≤ bt8 s p ∧ 128 ≤ bt8 s (p + 1)) ∨
    ((Utf8.decode s p).2 = 3 ∧ p + 3 ≤ s.size ∧ 128 ≤ (Utf8.decode s p).1 ∧ (Utf8.decode s p).1 ≤ 1114111 ∧ 128 ≤ bt8 s p ∧ 128 ≤ bt8 s (p + 1) ∧ 128 ≤ bt8 s (p + 2)) ∨
    ((Utf8.decode s p).2 = 4 ∧ p + 4 ≤ s.size ∧ 128 ≤ (Utf8.decode s p).1 ∧ (Utf8.decode s p).1 ≤ 1114111 ∧ 128 ≤ bt8 s p ∧ 128 ≤ bt8 s (p + 1) ∧ 128 ≤ bt8 s (p + 2) ∧ 128 ≤ bt8 s (p + 3)) := by
  rw [dec_at]
  have h0 := bt8_lt s p
  have h1 := bt8_lt s (p + 1)
  have h2 := bt8_lt s (p + 2)
  have h3 := bt8_lt s (p + 3)
  generalize bt8 s p = b0 at *
  generalize bt8 s (p + 1) = b1 at *
  generalize bt8 s (p + 2) = b2 at *
  generalize bt8 s (p + 3) = b3 at *
  unfold Lib.decodeN
  split
  · right; left; exact ⟨rfl, rfl, by assumption⟩
  · split
    · split
      · right; right; left; refine ⟨rfl, ?_, ?_, ?_, ?_, ?_⟩ <;> (try simp only) <;> omega
      · left; exact ⟨rfl, rfl⟩
    · split
      · split
        · right; right; right; left; refine ⟨rfl, ?_, ?_, ?_, ?_, ?_, ?_⟩ <;> (try simp only) <;> omega
        · left; exact ⟨rfl, rfl⟩
      · split
        · split
          · right; right; right; right; refine ⟨rfl, ?_, ?_, ?_, ?_, ?_, ?_, ?_⟩ <;> (try simp only) <;> omega
          · left; exact ⟨rfl, rfl⟩
        · left; exact ⟨rfl, rfl⟩
theorem dec_width (s : ByteArray) (p : Nat) : 1 ≤ (Utf8.decode s p).2 ∧ (Utf8.decode s p).2 ≤ 4 := by
  rw [dec_at]
  unfold Lib.decodeN
  repeat' split
  all_goals simp
theorem dec_end (s : ByteArray) (p : Nat) (h : p < s.size) : p + (Utf8.decode s p).2 ≤ s.size := by
  rcases dec_cases s p h with ⟨_, h1⟩ | ⟨h1, _⟩ | ⟨h1, h2, _⟩ | ⟨h1, h2, _⟩ | ⟨h1, h2, _⟩ <;> omega
/-! ### The first place of a byte that is no rune's -/
def badL (s : ByteArray) : Nat → Nat → Int
  | 0, _ => -1
  | f + 1, p => bif decide (p < s.size) then bif noRune s p then (p : Int) else badL s f (p + (Utf8.decode s p).2) else -1
/-- All runes from a place on are so. -/
def allL (q : Nat → Bool) (s : ByteArray) : Nat → Nat → Bool
  | 0, _ => true
  | f + 1, p => bif decide (p < s.size) then bif q (Utf8.decode s p).1 then allL q s f (p + (Utf8.decode s p).2) else false else true
/-- All are runes, and so. -/
def runL (q : Nat → Bool) (s : ByteArray) : Nat → Nat → Bool
  | 0, _ => true
  | f + 1, p => bif decide (p < s.size) then bif noRune s p || !q (Utf8.decode s p).1 then false else runL q s f (p + (Utf8.decode s p).2) else true
def allB (q : Nat → Bool) (s : ByteArray) : Nat → Nat → Bool
  | 0, _ => true
  | f + 1, p => bif decide (p < s.size) then bif q (bt8 s p) then allB q s f (p + 1) else false else true
theorem runL_eq (q : Nat → Bool) (s : ByteArray) : ∀ f p, runL q s f p = (decide (badL s f p < 0) && allL q s f p)
  | 0, p => by simp [runL, badL, allL]
  | f + 1, p => by
    unfold runL badL allL
    cases decide (p < s.size) with
    | false => rfl
    | true =>
      simp only [cond_true]
      cases noRune s p with
      | true => simp; omega
      | false =>
        simp only [cond_false, Bool.false_or]
        rw [runL_eq q s f]
        cases q (Utf8.decode s p).1 <;> simp
/-- A test of runes that all great ones pass. -/
structure LowQ (q : Nat → Bool) : Prop where
  hi : ∀ n, 128 ≤ n → q n = true
theorem allB_far {q : Nat → Bool} {s : ByteArray} : ∀ f p, s.size ≤ p → allB q s f p = true
  | 0, p, h => rfl
  | f + 1, p, h => by unfold allB; rw [decide_eq_false (by omega)]; rfl
theorem allB_step {q : Nat → Bool} {s : ByteArray} {f p : Nat} (h : p < s.size) (hq : q (bt8 s p) = true) : allB q s (f + 1) p = allB q s f (p + 1) := by
  rw [allB, decide_eq_true h, hq]; rfl
theorem allB_more {q : Nat → Bool} {s : ByteArray} : ∀ (f g p : Nat), s.size ≤ p + f → s.size ≤ p + g → allB q s f p = allB q s g p
  | 0, g, p, h, h' => by rw [allB_far g p (by omega)]; rfl
  | f + 1, 0, p, h, h' => by rw [allB_far (f + 1) p (by omega)]; rfl
  | f + 1, g + 1, p, h, h' => by
    unfold allB
    rw [allB_more f g (p + 1) (by omega) (by omega)]
theorem low_eq {q : Nat → Bool} (hq : LowQ q) (s : ByteArray) : ∀ f p, s.size ≤ p + f → badL s f p < 0 → allL q s f p = allB q s f p
  | 0, p, h, hb => rfl
  | f + 1, p, h, hb => by
    by_cases hp : p < s.size
    · unfold badL at hb
      rw [decide_eq_true hp, cond_true] at hb
      cases hn : noRune s p with
      | true => rw [hn, cond_true] at hb; omega
      | false =>
        rw [hn, cond_false] at hb
        have ih := low_eq hq s f (p + (Utf8.decode s p).2) (by have := dec_width s p; omega) hb
        unfold allL
        rw [decide_eq_true hp, cond_true, ih]
        rcases dec_cases s p hp with ⟨h1, h2⟩ | ⟨h1, h2, h3⟩ | ⟨h1, h2, h3, _, h4, h5⟩ | ⟨h1, h2, h3, _, h4, h5, h6⟩ | ⟨h1, h2, h3, _, h4, h5, h6, h7⟩
        · unfold noRune at hn; rw [h1, h2] at hn; exact absurd hn (by decide)
        · rw [h1, h2]
          conv => rhs; rw [allB]
          rw [decide_eq_true hp, cond_true]
        · rw [h1, hq.hi _ h3, cond_true, allB_more (f + 1) (f + 1 + 1) p (by omega) (by omega), allB_step hp (hq.hi _ h4), allB_step (by omega) (hq.hi _ h5)]
        · rw [h1, hq.hi _ h3, cond_true, allB_more (f + 1) (f + 1 + 1 + 1) p (by omega) (by omega), allB_step hp (hq.hi _ h4), allB_step (by omega) (hq.hi _ h5), allB_step (by omega) (hq.hi _ h6)]
        · rw [h1, hq.hi _ h3, cond_true, allB_more (f + 1) (f + 1 + 1 + 1 + 1) p (by omega) (by omega), allB_step hp (hq.hi _ h4), allB_step (by omega) (hq.hi _ h5), allB_step (by omega) (hq.hi _ h6), allB_step (by omega) (hq.hi _ h7)]
    · unfold allL allB
      rw [decide_eq_false hp]
      rfl
/-- The document's rune at a place: how many bytes, and the rune. -/
def rfin (n low v : Nat) : Nat × Nat := if v < low ∨ v > 1114111 ∨ (55296 ≤ v ∧ v ≤ 57343) then (0, 0) else (n, v)
def rsz (N c d1 d2 d3 : Nat) : Nat × Nat :=
  if c < 128 then (1, c)
  else if 194 ≤ c ∧ c ≤ 223 then (if N < 2 then (0, 0) else if d1 < 128 ∨ 191 < d1 then (0, 0) else rfin 2 128 (64 * (c - 192) + d1 - 128))
  else if 224 ≤ c ∧ c ≤ 239 then (if N < 3 then (0, 0) else if d1 < 128 ∨ 191 < d1 then (0, 0) else if d2 < 128 ∨ 191 < d2 then (0, 0) else rfin 3 2048 (64 * (64 * (c - 224) + d1 - 128) + d2 - 128))
  else if 240 ≤ c ∧ c ≤ 244 then (if N < 4 then (0, 0) else if d1 < 128 ∨ 191 < d1 then (0, 0) else if d2 < 128 ∨ 191 < d2 then (0, 0) else if d3 < 128 ∨ 191 < d3 then (0, 0) else rfin 4 65536 (64 * (64 * (64 * (c - 240) + d1 - 128) + d2 - 128) + d3 - 128))
  else (0, 0)
def swapN (t : Nat × Nat) : Nat × Nat := if t.1 = 65533 ∧ t.2 = 1 then (0, 0) else (t.2, t.1)
set_option maxHeartbeats 4000000 in
theorem rsz_eq (N c d1 d2 d3 : Nat) (hN : 1 ≤ N) (hc : c < 256) (h1 : d1 < 256) (h2 : d2 < 256) (h3 : d3 < 256) : rsz N c d1 d2 d3 = swapN (Lib.decodeN N c d1 d2 d3) := by
  unfold rsz Lib.decodeN
  by_cases c0 : c < 128
  · rw [if_pos c0, if_pos c0]; unfold swapN; simp only; rw [if_neg (by omega)]
  rw [if_neg c0, if_neg c0]
  by_cases c1 : 194 ≤ c ∧ c ≤ 223
  · rw [if_pos c1, if_neg (show ¬ (c / 16 = 14 ∧ (1 < N ∧ d1 / 64 = 2) ∧ 2 < N ∧ d2 / 64 = 2) by omega), if_neg (show ¬ (c / 8 = 30 ∧ (1 < N ∧ d1 / 64 = 2) ∧ (2 < N ∧ d2 / 64 = 2) ∧ 3 < N ∧ d3 / 64 = 2) by omega)]
    by_cases n2 : N < 2
    · rw [if_pos n2, if_neg (by omega)]; rfl
    · rw [if_neg n2]
      by_cases k1 : d1 < 128 ∨ 191 < d1
      · rw [if_pos k1, if_neg (by omega)]; rfl
      · rw [if_neg k1, if_pos (by omega), if_pos (by omega)]
        have e : 64 * (c - 192) + d1 - 128 = c % 32 * 64 + d1 % 64 := by omega
        have e2 : c % 32 * 64 + d1 % 64 < 2048 := by omega
        have e3 : 128 ≤ c % 32 * 64 + d1 % 64 := by omega
        rw [e]
        generalize c % 32 * 64 + d1 % 64 = v at e2 e3
        unfold rfin swapN
        rw [if_neg (by omega)]
        show (2, v) = if v = 65533 ∧ 2 = 1 then (0, 0) else (2, v)
        rw [if_neg (by omega)]
  rw [if_neg c1]
  by_cases c2 : 224 ≤ c ∧ c ≤ 239
  · rw [if_pos c2, if_neg (show ¬ (c / 32 = 6 ∧ 1 < N ∧ d1 / 64 = 2) by omega), if_neg (show ¬ (c / 8 = 30 ∧ (1 < N ∧ d1 / 64 = 2) ∧ (2 < N ∧ d2 / 64 = 2) ∧ 3 < N ∧ d3 / 64 = 2) by omega)]
    by_cases n2 : N < 3
    · rw [if_pos n2, if_neg (by omega)]; rfl
    · rw [if_neg n2]
      by_cases k1 : d1 < 128 ∨ 191 < d1
      · rw [if_pos k1, if_neg (by omega)]; rfl
      · rw [if_neg k1]
        by_cases k2 : d2 < 128 ∨ 191 < d2
        · rw [if_pos k2, if_neg (by omega)]; rfl
        · rw [if_neg k2, if_pos (by omega)]
          have e : 64 * (64 * (c - 224) + d1 - 128) + d2 - 128 = c % 16 * 4096 + d1 % 64 * 64 + d2 % 64 := by omega
          rw [e]
          generalize c % 16 * 4096 + d1 % 64 * 64 + d2 % 64 = v
          unfold rfin swapN
          by_cases hv : v < 2048 ∨ v > 1114111 ∨ (55296 ≤ v ∧ v ≤ 57343)
          · rw [if_pos hv, if_neg (show ¬ (v ≥ 2048 ∧ (v < 55296 ∨ 57344 ≤ v ∧ v ≤ 1114111)) by omega)]; rfl
          · rw [if_neg hv, if_pos (show v ≥ 2048 ∧ (v < 55296 ∨ 57344 ≤ v ∧ v ≤ 1114111) by omega)]
            show (3, v) = if v = 65533 ∧ 3 = 1 then (0, 0) else (3, v)
            rw [if_neg (by omega)]
  rw [if_neg c2]
  by_cases c3 : 240 ≤ c ∧ c ≤ 244
  · rw [if_pos c3, if_neg (show ¬ (c / 32 = 6 ∧ 1 < N ∧ d1 / 64 = 2) by omega), if_neg (show ¬ (c / 16 = 14 ∧ (1 < N ∧ d1 / 64 = 2) ∧ 2 < N ∧ d2 / 64 = 2) by omega)]
    by_cases n2 : N < 4
    · rw [if_pos n2, if_neg (by omega)]; rfl
    · rw [if_neg n2]
      by_cases k1 : d1 < 128 ∨ 191 < d1
      · rw [if_pos k1, if_neg (by omega)]; rfl
      · rw [if_neg k1]
        by_cases k2 : d2 < 128 ∨ 191 < d2
        · rw [if_pos k2, if_neg (by omega)]; rfl
        · rw [if_neg k2]
          by_cases k3 : d3 < 128 ∨ 191 < d3
          · rw [if_pos k3, if_neg (by omega)]; rfl
          · rw [if_neg k3, if_pos (by omega)]
            have e : 64 * (64 * (64 * (c - 240) + d1 - 128) + d2 - 128) + d3 - 128 = c % 8 * 262144 + d1 % 64 * 4096 + d2 % 64 * 64 + d3 % 64 := by omega
            rw [e]
            generalize c % 8 * 262144 + d1 % 64 * 4096 + d2 % 64 * 64 + d3 % 64 = v
            unfold rfin swapN
            by_cases hv : v < 65536 ∨ v > 1114111 ∨ (55296 ≤ v ∧ v ≤ 57343)
            · rw [if_pos hv, if_neg (show ¬ (v ≥ 65536 ∧ (v < 55296 ∨ 57344 ≤ v ∧ v ≤ 1114111)) by omega)]; rfl
            · rw [if_neg hv, if_pos (show v ≥ 65536 ∧ (v < 55296 ∨ 57344 ≤ v ∧ v ≤ 1114111) by omega)]
              show (4, v) = if v = 65533 ∧ 4 = 1 then (0, 0) else (4, v)
              rw [if_neg (by omega)]
  rw [if_neg c3]
  repeat' split
  all_goals first | rfl | (exfalso; omega) | (unfold swapN; simp only; rw [if_pos (by omega)])
theorem rsz_at (s : ByteArray) (i : Nat) (h : i < s.size) : rsz (s.size - i) (bt8 s i) (bt8 s (i + 1)) (bt8 s (i + 2)) (bt8 s (i + 3)) = swapN (Utf8.decode s i) := by
  rw [dec_at]
  exact rsz_eq _ _ _ _ _ (by omega) (bt8_lt ..) (bt8_lt ..) (bt8_lt ..) (bt8_lt ..)
end Go.Proofs.AbsV
