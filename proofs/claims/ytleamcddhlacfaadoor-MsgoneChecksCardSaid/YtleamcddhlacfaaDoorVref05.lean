/- Which texts may be keys, and values: what the program's functions and the document's answer. No condition. -/
import Derived.Test.YtleamcddhlacfaaDoorVrunes2
set_option maxRecDepth 100000
set_option linter.unusedVariables false
set_option linter.unusedSimpArgs false
namespace Go.Proofs.YtleamcddhlacfaaDoor.V
open Go Go.Proofs.AbsV
theorem btA_at {s : ByteArray} {i : Nat} (h : i < s.size) : btA s i = (bt8 s i : Int) := by
  unfold btA bt8
  rw [getElem?_pos s i h, Go.Proofs.Utf8W.get!_of_lt _ _ h]
theorem w64 {n : Int} (h0 : -9223372036854775808 ≤ n) (h : n ≤ 9223372036854775807) : IntKind.i64.wrap n = n := IntWalk.i64_in _ (by omega)
def szT (n v : Nat) : AV := .tup [.int .i64 (n : Int), .int .i64 (v : Int)]
theorem size_more {α : Type} {F n : Nat} {s : ByteArray} {i j m v d : Nat} {low : Int} {k : AV → List Box2 → Option α} (hs : s.size ≤ 1000000000000) (hj : j < m) (hm : i + m ≤ s.size) (hm4 : m ≤ 4) (hv : v ≤ 1000000) (hd : bt8 s (i + j) = d) :
    size_L0 F (n + 1) s (i : Int) (m : Int) low (v : Int) (j : Int) k = if d < 128 ∨ 191 < d then k (szT 0 0) [] else size_L0 F n s (i : Int) (m : Int) low ((64 * v + d - 128 : Nat) : Int) ((j + 1 : Nat) : Int) k := by
  have hlt := bt8_lt s (i + j)
  have e1 : IntKind.i64.wrap (Int.add (i : Int) (j : Int)) = ((i + j : Nat) : Int) := by
    show IntKind.i64.wrap ((i : Int) + (j : Int)) = _
    rw [w64 (by omega) (by omega)]; omega
  rw [size_step0, cond_pos (by omega), e1, inr (show i + j < s.size by omega), cond_true, Int.toNat_natCast, btA_at (show i + j < s.size by omega), hd, w64 (n := (d : Int)) (by omega) (by omega), stp (by omega)]
  have e2 : IntKind.i64.wrap (Int.mul 64 (v : Int)) = ((64 * v : Nat) : Int) := by
    show IntKind.i64.wrap (64 * (v : Int)) = _
    rw [w64 (by omega) (by omega)]; omega
  have e3 : IntKind.i64.wrap (Int.add ((64 * v : Nat) : Int) (d : Int)) = ((64 * v + d : Nat) : Int) := by
    show IntKind.i64.wrap (((64 * v : Nat) : Int) + (d : Int)) = _
    rw [w64 (by omega) (by omega)]; omega
  rw [e2, e3]
  by_cases h1 : d < 128
  · rw [if_pos (.inl h1), decide_eq_true (show (d : Int) < 128 by omega)]; rfl
  · rw [decide_eq_false (show ¬ (d : Int) < 128 by omega), Bool.not_false, cond_true]
    by_cases h2 : 191 < d
    · rw [if_pos (.inr h2), cond_pos (by omega)]; rfl
    · rw [if_neg (by omega), cond_neg (by omega)]
      have e4 : IntKind.i64.wrap (Int.sub ((64 * v + d : Nat) : Int) 128) = ((64 * v + d - 128 : Nat) : Int) := by
        show IntKind.i64.wrap (((64 * v + d : Nat) : Int) - 128) = _
        rw [w64 (by omega) (by omega)]; omega
      rw [e4]
theorem size_end {α : Type} {F n : Nat} {s : ByteArray} {i m v low : Nat} {k : AV → List Box2 → Option α} :
    size_L0 F (n + 1) s (i : Int) (m : Int) (low : Int) (v : Int) (m : Int) k = k (szT (rfin m low v).1 (rfin m low v).2) [] := by
  rw [size_step0, cond_neg (by omega)]
  unfold rfin
  by_cases h1 : v < low
  · rw [if_pos (.inl h1), decide_eq_true (show (v : Int) < (low : Int) by omega)]; rfl
  · rw [decide_eq_false (show ¬ (v : Int) < (low : Int) by omega), Bool.not_false, cond_true]
    by_cases h2 : v > 1114111
    · rw [if_pos (.inr (.inl h2)), decide_eq_true (show (v : Int) > 1114111 by omega)]; rfl
    · rw [decide_eq_false (show ¬ (v : Int) > 1114111 by omega), Bool.not_false, cond_true]
      by_cases h3 : v ≥ 55296
      · rw [cond_pos (by omega)]
        by_cases h4 : v ≤ 57343
        · rw [cond_pos (by omega), if_pos (.inr (.inr ⟨h3, h4⟩))]; rfl
        · rw [cond_neg (by omega), if_neg (by omega)]; rfl
      · rw [cond_neg (by omega), if_neg (by omega)]; rfl
theorem size_run {α : Type} (F : Nat) (s : ByteArray) (i : Nat) (h : i < s.size) (hs : s.size ≤ 1000000000000) (k : AV → List Box2 → Option α) :
    runF env T0 noInl size_hv (F + 5) Tryd.f93 [.str s, .int .i64 (i : Int)] [] (fun r bx => k r []) = k (szT (swapN (Utf8.decode s i)).1 (swapN (Utf8.decode s i)).2) [] := by
  rw [size_in, inr h, cond_true, Int.toNat_natCast, btA_at h, ← rsz_at s i h]
  have hlt := bt8_lt s i
  generalize hc : bt8 s i = c at *
  rw [w64 (n := (c : Int)) (by omega) (by omega)]
  have ea : ∀ m : Nat, m ≤ 4 → IntKind.i64.wrap (Int.add (i : Int) (m : Int)) = ((i + m : Nat) : Int) := by
    intro m hm
    show IntKind.i64.wrap ((i : Int) + (m : Int)) = _
    rw [w64 (by omega) (by omega)]; omega
  have e2 : IntKind.i64.wrap (Int.add (i : Int) 2) = ((i + 2 : Nat) : Int) := ea 2 (by omega)
  have e3 : IntKind.i64.wrap (Int.add (i : Int) 3) = ((i + 3 : Nat) : Int) := ea 3 (by omega)
  have e4 : IntKind.i64.wrap (Int.add (i : Int) 4) = ((i + 4 : Nat) : Int) := ea 4 (by omega)
  have es : ∀ b : Nat, b ≤ c → IntKind.i64.wrap (Int.sub (c : Int) (b : Int)) = ((c - b : Nat) : Int) := by
    intro b hb
    show IntKind.i64.wrap ((c : Int) - (b : Int)) = _
    rw [w64 (by omega) (by omega)]; omega
  unfold rsz
  by_cases c0 : c < 128
  · rw [cond_pos (by omega), if_pos c0]; rfl
  rw [cond_neg (by omega), if_neg c0]
  simp only [cond_andL]
  have d1 : (decide ((c : Int) ≥ 194) && decide ((c : Int) ≤ 223)) = decide (194 ≤ c ∧ c ≤ 223) := by rw [Bool.eq_iff_iff]; simp; omega
  have d2 : (decide ((c : Int) ≥ 224) && decide ((c : Int) ≤ 239)) = decide (224 ≤ c ∧ c ≤ 239) := by rw [Bool.eq_iff_iff]; simp; omega
  have d3 : (decide ((c : Int) ≥ 240) && decide ((c : Int) ≤ 244)) = decide (240 ≤ c ∧ c ≤ 244) := by rw [Bool.eq_iff_iff]; simp; omega
  rw [d1, d2, d3]
  by_cases c1 : 194 ≤ c ∧ c ≤ 223
  · rw [cond_pos c1, if_pos c1, e2]
    have e : IntKind.i64.wrap (Int.sub (c : Int) 192) = ((c - 192 : Nat) : Int) := es 192 (by omega)
    rw [e]
    by_cases n2 : s.size - i < 2
    · rw [cond_pos (by omega), if_pos n2]; rfl
    · rw [cond_neg (by omega), if_neg n2]
      refine (size_more (m := 2) (j := 1) hs (by omega) (by omega) (by omega) (by omega) rfl).trans ?_
      by_cases k1 : bt8 s (i + 1) < 128 ∨ 191 < bt8 s (i + 1)
      · rw [if_pos k1, if_pos k1]
      · rw [if_neg k1, if_neg k1]
        exact size_end (m := 2) (low := 128)
  rw [cond_neg c1, if_neg c1]
  by_cases c2 : 224 ≤ c ∧ c ≤ 239
  · rw [cond_pos c2, if_pos c2, e3]
    have e : IntKind.i64.wrap (Int.sub (c : Int) 224) = ((c - 224 : Nat) : Int) := es 224 (by omega)
    rw [e]
    by_cases n2 : s.size - i < 3
    · rw [cond_pos (by omega), if_pos n2]; rfl
    · rw [cond_neg (by omega), if_neg n2]
      have b1 := bt8_lt s (i + 1)
      refine (size_more (m := 3) (j := 1) hs (by omega) (by omega) (by omega) (by omega) rfl).trans ?_
      by_cases k1 : bt8 s (i + 1) < 128 ∨ 191 < bt8 s (i + 1)
      · rw [if_pos k1, if_pos k1]
      · rw [if_neg k1, if_neg k1]
        refine (size_more (m := 3) (j := 2) hs (by omega) (by omega) (by omega) (by omega) rfl).trans ?_
        by_cases k2 : bt8 s (i + 2) < 128 ∨ 191 < bt8 s (i + 2)
        · rw [if_pos k2, if_pos k2]
        · rw [if_neg k2, if_neg k2]
          exact size_end (m := 3) (low := 2048)
  rw [cond_neg c2, if_neg c2]
  by_cases c3 : 240 ≤ c ∧ c ≤ 244
  · rw [cond_pos c3, if_pos c3, e4]
    have e : IntKind.i64.wrap (Int.sub (c : Int) 240) = ((c - 240 : Nat) : Int) := es 240 (by omega)
    rw [e]
    by_cases n2 : s.size - i < 4
    · rw [cond_pos (by omega), if_pos n2]; rfl
    · rw [cond_neg (by omega), if_neg n2]
      have b1 := bt8_lt s (i + 1)
      have b2 := bt8_lt s (i + 2)
      refine (size_more (m := 4) (j := 1) hs (by omega) (by omega) (by omega) (by omega) rfl).trans ?_
      by_cases k1 : bt8 s (i + 1) < 128 ∨ 191 < bt8 s (i + 1)
      · rw [if_pos k1, if_pos k1]
      · rw [if_neg k1, if_neg k1]
        refine (size_more (m := 4) (j := 2) hs (by omega) (by omega) (by omega) (by omega) rfl).trans ?_
        by_cases k2 : bt8 s (i + 2) < 128 ∨ 191 < bt8 s (i + 2)
        · rw [if_pos k2, if_pos k2]
        · rw [if_neg k2, if_neg k2]
          refine (size_more (m := 4) (j := 3) hs (by omega) (by omega) (by omega) (by omega) rfl).trans ?_
          by_cases k3 : bt8 s (i + 3) < 128 ∨ 191 < bt8 s (i + 3)
          · rw [if_pos k3, if_pos k3]
          · rw [if_neg k3, if_neg k3]
            exact size_end (m := 4) (low := 65536)
  rw [cond_neg c3, if_neg c3]
  rfl
end Go.Proofs.YtleamcddhlacfaaDoor.V
