/- bits.Len64 and varint.Len as functions of data. No condition. -/
import Derived.Test.YtopbldbgnpeelaaDoorVref
set_option maxRecDepth 100000
set_option linter.unusedVariables false
namespace Go.Proofs.YtopbldbgnpeelaaDoor.V
open Go Go.Proofs.AbsV

/-! ### bits.Len64 -/
theorem fnLen64 : FnOK Tryd.prog 31 Tryd.f31 := ⟨by kernel_rfl, by kernel_rfl, by kernel_rfl⟩
def strAt : Code → Nat → ByteArray
  | .region _ ops _, i => match ops.toList[i]? with
    | some o => match o.op with
      | .index _ (.const (.string s)) _ => s
      | _ => ByteArray.empty
    | none => ByteArray.empty
  | _, _ => ByteArray.empty
noncomputable def lenTab : ByteArray := strAt (codeAt (bodyOf Tryd.f31) [1,1,1,1,0]) 3
noncomputable def l4 (x n : Int) (k : AV → List Box2 → Option AV) : Option AV :=
  bif decide (0 ≤ IntKind.u8.wrap x) && decide (IntKind.u8.wrap x < (lenTab.size : Int)) then k (.int .i64 (IntKind.i64.wrap (n + IntKind.i64.wrap (btA lenTab (IntKind.u8.wrap x).toNat)))) [] else none
noncomputable def l3 (x n : Int) (k : AV → List Box2 → Option AV) : Option AV := bif decide (x ≥ 256) then l4 (shrI .u64 x 8) (IntKind.i64.wrap (n + 8)) k else l4 x n k
noncomputable def l2 (x n : Int) (k : AV → List Box2 → Option AV) : Option AV := bif decide (x ≥ 65536) then l3 (shrI .u64 x 16) (IntKind.i64.wrap (n + 16)) k else l3 x n k
noncomputable def l1 (x : Int) (k : AV → List Box2 → Option AV) : Option AV := bif decide (x ≥ 4294967296) then l2 (shrI .u64 x 32) 32 k else l2 x 0 k
theorem len64_in (F : Nat) (x : Int) (k : AV → List Box2 → Option AV) : runF env T0 noInl (keep [] []) F Tryd.f31 [.int .u64 x] [] k = l1 x k := by kernel_rfl
/-- So many bits. -/
def bitsN : Nat → Nat → Nat
  | 0, _ => 0
  | f + 1, x => if x = 0 then 0 else bitsN f (x / 2) + 1
theorem tab_size : lenTab.size = 256 := by kernel_rfl
theorem tab_at : ∀ x : Fin 256, btA lenTab x.val = (bitsN 8 x.val : Int) := by
  have : (List.range 256).all (fun x => decide (btA lenTab x = (bitsN 8 x : Int))) = true := by kernel_rfl
  intro x
  have h := List.all_eq_true.1 this x.val (by simp)
  exact of_decide_eq_true h
theorem bitsN_le : ∀ f x, bitsN f x ≤ f
  | 0, _ => Nat.le_refl _
  | f + 1, x => by
    unfold bitsN
    split
    · omega
    · have := bitsN_le f (x / 2); omega
theorem bitsN_bound : ∀ f x, x < 2 ^ f → x < 2 ^ bitsN f x ∧ (x ≠ 0 → 2 ^ (bitsN f x - 1) ≤ x ∧ 1 ≤ bitsN f x)
  | 0, x, h => by
    have : x = 0 := by simpa using h
    subst this
    exact ⟨by simp [bitsN], fun h => absurd rfl h⟩
  | f + 1, x, h => by
    unfold bitsN
    split
    · rename_i h0; subst h0; exact ⟨by simp, fun h => absurd rfl h⟩
    · rename_i h0
      have ih := bitsN_bound f (x / 2) (by rw [Nat.pow_succ] at h; omega)
      refine ⟨by rw [Nat.pow_succ]; omega, fun _ => ⟨?_, by omega⟩⟩
      rw [Nat.add_sub_cancel]
      by_cases hx : x / 2 = 0
      · have : bitsN f (x / 2) = 0 := by rw [hx]; cases f <;> simp [bitsN]
        rw [this]; omega
      · have h1 := ih.2 hx
        have : 2 ^ bitsN f (x / 2) = 2 * 2 ^ (bitsN f (x / 2) - 1) := by
          rw [← Nat.pow_succ']; congr 1; omega
        omega
def IsLen (x l : Nat) : Prop := x < 2 ^ l ∧ (x ≠ 0 → 2 ^ (l - 1) ≤ x ∧ 1 ≤ l) ∧ (x = 0 → l = 0)
theorem isLen_tab {x : Nat} (h : x < 256) : IsLen x (bitsN 8 x) := by
  have := bitsN_bound 8 x (by simpa using h)
  exact ⟨this.1, this.2, fun h => by subst h; rfl⟩
theorem isLen_shift {x j l : Nat} (h : 2 ^ j ≤ x) (hl : IsLen (x / 2 ^ j) l) : IsLen x (l + j) := by
  have hp : 0 < 2 ^ j := Nat.two_pow_pos j
  have h0 : x / 2 ^ j ≠ 0 := by
    intro e
    have := (Nat.div_eq_zero_iff_lt hp).1 e
    omega
  obtain ⟨h1, h2, _⟩ := hl
  obtain ⟨h2, h3⟩ := h2 h0
  refine ⟨?_, fun _ => ⟨?_, by omega⟩, fun e => by omega⟩
  · rw [Nat.pow_add]
    exact (Nat.div_lt_iff_lt_mul hp).1 h1
  · rw [show l + j - 1 = (l - 1) + j by omega, Nat.pow_add]
    exact (Nat.le_div_iff_mul_le hp).1 h2
theorem l4_eq {x n : Int} {k : AV → List Box2 → Option AV} (h0 : 0 ≤ x) (h1 : x < 256) (hn0 : 0 ≤ n) (hn1 : n ≤ 1000) : ∃ l : Nat, IsLen x.toNat l ∧ l ≤ 8 ∧ l4 x n k = k (.int .i64 (n + l)) [] := by
  have hw : IntKind.u8.wrap x = x := IntWalk.u8_in _ (by omega)
  refine ⟨bitsN 8 x.toNat, isLen_tab (by omega), bitsN_le _ _, ?_⟩
  unfold l4
  rw [hw, tab_size]
  have hg : (decide (0 ≤ x) && decide (x < ((256 : Nat) : Int))) = true := by simp; omega
  rw [hg]
  simp only [cond_true]
  have ht := tab_at ⟨x.toNat, by omega⟩
  simp only at ht
  have hle := bitsN_le 8 x.toNat
  rw [ht, IntWalk.i64_in ((bitsN 8 x.toNat : Nat) : Int) (by omega), IntWalk.i64_in _ (by omega)]
theorem shrN {x : Int} (h0 : 0 ≤ x) {j : Nat} (hj : j ≤ 32) : shrI .u64 x (j : Int) = ((x.toNat / 2 ^ j : Nat) : Int) := by
  have h : (min ((j : Int)).toNat IntKind.u64.bits) = j := by
    have : IntKind.u64.bits = 64 := rfl
    rw [this]; simp; omega
  unfold shrI
  rw [h, Int.fdiv_eq_ediv_of_nonneg _ (Int.le_of_lt (by exact Int.pow_pos (by decide)))]
  rw [show (2 : Int) ^ j = ((2 ^ j : Nat) : Int) by simp]
  conv => lhs; rw [show x = ((x.toNat : Nat) : Int) by omega]
  rfl
theorem l3_eq {x n : Int} {k : AV → List Box2 → Option AV} (h0 : 0 ≤ x) (h1 : x < 65536) (hn0 : 0 ≤ n) (hn1 : n ≤ 100) : ∃ l : Nat, IsLen x.toNat l ∧ l ≤ 16 ∧ l3 x n k = k (.int .i64 (n + l)) [] := by
  unfold l3
  by_cases h : x ≥ 256
  · rw [cond_pos h]
    have hs := shrN h0 (j := 8) (by decide)
    rw [show ((8 : Nat) : Int) = 8 from rfl] at hs
    obtain ⟨l, q1, q2, q3⟩ := l4_eq (x := shrI .u64 x 8) (n := IntKind.i64.wrap (n + 8)) (k := k) (by rw [hs]; omega) (by rw [hs]; omega) (by rw [IntWalk.i64_in _ (by omega)]; omega) (by rw [IntWalk.i64_in _ (by omega)]; omega)
    refine ⟨l + 8, isLen_shift (j := 8) (by omega) (by rw [hs, Int.toNat_natCast] at q1; exact q1), by omega, ?_⟩
    rw [q3, IntWalk.i64_in _ (by omega), show n + 8 + (l : Int) = n + ((l + 8 : Nat) : Int) by omega]
  · rw [cond_neg h]
    obtain ⟨l, q1, q2, q3⟩ := l4_eq (x := x) (n := n) (k := k) h0 (by omega) hn0 (by omega)
    exact ⟨l, q1, by omega, q3⟩
theorem l2_eq {x n : Int} {k : AV → List Box2 → Option AV} (h0 : 0 ≤ x) (h1 : x < 4294967296) (hn0 : 0 ≤ n) (hn1 : n ≤ 50) : ∃ l : Nat, IsLen x.toNat l ∧ l ≤ 32 ∧ l2 x n k = k (.int .i64 (n + l)) [] := by
  unfold l2
  by_cases h : x ≥ 65536
  · rw [cond_pos h]
    have hs := shrN h0 (j := 16) (by decide)
    rw [show ((16 : Nat) : Int) = 16 from rfl] at hs
    obtain ⟨l, q1, q2, q3⟩ := l3_eq (x := shrI .u64 x 16) (n := IntKind.i64.wrap (n + 16)) (k := k) (by rw [hs]; omega) (by rw [hs]; omega) (by rw [IntWalk.i64_in _ (by omega)]; omega) (by rw [IntWalk.i64_in _ (by omega)]; omega)
    refine ⟨l + 16, isLen_shift (j := 16) (by omega) (by rw [hs, Int.toNat_natCast] at q1; exact q1), by omega, ?_⟩
    rw [q3, IntWalk.i64_in _ (by omega), show n + 16 + (l : Int) = n + ((l + 16 : Nat) : Int) by omega]
  · rw [cond_neg h]
    obtain ⟨l, q1, q2, q3⟩ := l3_eq (x := x) (n := n) (k := k) h0 (by omega) hn0 (by omega)
    exact ⟨l, q1, by omega, q3⟩
theorem l1_eq {x : Int} {k : AV → List Box2 → Option AV} (h0 : 0 ≤ x) (h1 : x < 18446744073709551616) : ∃ l : Nat, IsLen x.toNat l ∧ l ≤ 64 ∧ l1 x k = k (.int .i64 l) [] := by
  unfold l1
  by_cases h : x ≥ 4294967296
  · rw [cond_pos h]
    have hs := shrN h0 (j := 32) (by decide)
    rw [show ((32 : Nat) : Int) = 32 from rfl] at hs
    obtain ⟨l, q1, q2, q3⟩ := l2_eq (x := shrI .u64 x 32) (n := 32) (k := k) (by rw [hs]; omega) (by rw [hs]; omega) (by omega) (by omega)
    refine ⟨l + 32, isLen_shift (j := 32) (by omega) (by rw [hs, Int.toNat_natCast] at q1; exact q1), by omega, ?_⟩
    rw [q3, show (32 : Int) + (l : Int) = ((l + 32 : Nat) : Int) by omega]
  · rw [cond_neg h]
    obtain ⟨l, q1, q2, q3⟩ := l2_eq (x := x) (n := 0) (k := k) h0 (by omega) (by omega) (by omega)
    exact ⟨l, q1, by omega, by rw [q3, Int.zero_add]⟩
theorem isLen_one {x l l' : Nat} (h : IsLen x l) (h' : IsLen x l') : l = l' := by
  by_cases h0 : x = 0
  · rw [h.2.2 h0, h'.2.2 h0]
  · obtain ⟨a1, a2⟩ := h.2.1 h0
    obtain ⟨b1, b2⟩ := h'.2.1 h0
    have c1 : l - 1 < l' := (Nat.pow_lt_pow_iff_right (by decide : 1 < 2)).1 (Nat.lt_of_le_of_lt a1 h'.1)
    have c2 : l' - 1 < l := (Nat.pow_lt_pow_iff_right (by decide : 1 < 2)).1 (Nat.lt_of_le_of_lt b1 h.1)
    omega
def len64Sp : List AV → List (Bool × AV)
  | [.int .u64 x] => [(decide (0 ≤ x) && decide (x < 18446744073709551616), .int .i64 (bitsN 64 x.toNat : Nat))]
  | _ => []
theorem len64_ok : PureOK Tryd.prog env 31 len64Sp := by
  refine PureOK.of_run envOK tok0 noInl_ok fnLen64 (hv := keep [] []) (fun args r h => ⟨0, ?_⟩)
  unfold len64Sp at h
  split at h
  · rename_i x
    cases hb : (decide (0 ≤ x) && decide (x < 18446744073709551616)) with
    | false => rw [hb] at h; cases h
    | true =>
      rw [hb] at h
      simp only [sel, cond_true, Option.some.injEq] at h
      subst h
      simp only [Bool.and_eq_true, decide_eq_true_eq] at hb
      obtain ⟨l, q1, q2, q3⟩ := l1_eq (k := fun r bx => some r) hb.1 hb.2
      refine (len64_in 0 x _).trans ?_
      rw [q3]
      have := bitsN_bound 64 x.toNat (by omega)
      rw [isLen_one q1 ⟨this.1, this.2, fun h => by rw [h]; rfl⟩]
  · cases h

/-! ### varint.Len -/
theorem fnLen : FnOK Tryd.prog 21 Tryd.f21 := ⟨by kernel_rfl, by kernel_rfl, by kernel_rfl⟩
def T2 : FuncId → Option CSpec := tab [(31, len64Sp)]
theorem tok2 : TOK Tryd.prog env T2 := tok_tab mixed ⟨len64_ok, trivial⟩
theorem len_in (F : Nat) (n : Int) (k : AV → List Box2 → Option AV) : runF env T2 noInl (keep [] []) F Tryd.f21 [.int .i64 n] [] k =
  bif decide (n ≤ 0) then k (.int .i64 1) [] else
    bif decide (0 ≤ IntKind.u64.wrap n) && decide (IntKind.u64.wrap n < 18446744073709551616) then
      k (.int .i64 (IntKind.i64.wrap ((IntKind.i64.wrap (IntKind.i64.wrap ((bitsN 64 (IntKind.u64.wrap n).toNat : Nat) + 7) - 1)).tdiv 7))) [] else none := by kernel_rfl
theorem putL_len : ∀ (f : Nat) (m : Nat), m < 128 ^ (f + 1) → ∃ g : Nat, (putL f (m : Int)).length = g + 1 ∧ m < 128 ^ (g + 1) ∧ (g ≠ 0 → 128 ^ g ≤ m)
  | 0, m, h => ⟨0, rfl, h, fun h => absurd rfl h⟩
  | f + 1, m, h => by
    by_cases hm : m ≥ 128
    · obtain ⟨g, h1, h2, h3⟩ := putL_len f (m / 128) (by rw [Nat.pow_succ] at h; omega)
      refine ⟨g + 1, ?_, ?_, fun _ => ?_⟩
      · rw [putL_pos (by omega), shr7, show ((m : Int) / 128) = ((m / 128 : Nat) : Int) by omega]
        rw [List.length_cons, h1]
      · rw [Nat.pow_succ]; omega
      · rw [Nat.pow_succ]
        by_cases hg : g = 0
        · subst hg; omega
        · have := h3 hg; omega
    · exact ⟨0, by rw [putL_neg (by omega)]; rfl, by omega, fun h => absurd rfl h⟩
theorem len_eq {n : Nat} (h0 : 1 ≤ n) (h1 : n < 9223372036854775808) : (putL 9 (n : Int)).length = (bitsN 64 n + 6) / 7 := by
  obtain ⟨g, q1, q2, q3⟩ := putL_len 9 n (by
    have : (128 : Nat) ^ (9 + 1) = 1180591620717411303424 := by decide
    omega)
  have hb := bitsN_bound 64 n (by omega)
  obtain ⟨b1, b2⟩ := hb.2 (by omega)
  have e : ∀ j, (128 : Nat) ^ j = 2 ^ (7 * j) := fun j => by rw [Nat.pow_mul]
  have c1 : bitsN 64 n - 1 < 7 * (g + 1) := by
    rw [e] at q2
    exact (Nat.pow_lt_pow_iff_right (by decide : 1 < 2)).1 (Nat.lt_of_le_of_lt b1 q2)
  have c2 : 7 * g < bitsN 64 n := by
    by_cases hg : g = 0
    · subst hg; omega
    · have := q3 hg
      rw [e] at this
      exact (Nat.pow_lt_pow_iff_right (by decide : 1 < 2)).1 (Nat.lt_of_le_of_lt this hb.1)
  rw [q1]; omega
def lenSp : List AV → List (Bool × AV)
  | [.int .i64 n] => [(decide (n < 9223372036854775808), .int .i64 ((putL 9 (if 0 > n then 0 else n)).length : Nat))]
  | _ => []
theorem len_ok : PureOK Tryd.prog env 21 lenSp := by
  refine PureOK.of_run envOK tok2 noInl_ok fnLen (hv := keep [] []) (fun args r h => ⟨0, ?_⟩)
  unfold lenSp at h
  split at h
  · rename_i n
    by_cases hb : n < 9223372036854775808
    · rw [decide_eq_true hb] at h
      simp only [sel, cond_true, Option.some.injEq] at h
      subst h
      refine (len_in 0 n _).trans ?_
      by_cases hn : n ≤ 0
      · rw [cond_pos hn]
        by_cases h0 : 0 > n
        · rw [if_pos h0]; rfl
        · rw [if_neg h0, show n = 0 by omega]; rfl
      · rw [cond_neg hn, if_neg (by omega)]
        have hw : IntKind.u64.wrap n = n := IntWalk.u64_in _ (by omega)
        have hg : (decide (0 ≤ n) && decide (n < 18446744073709551616)) = true := by simp; omega
        rw [hw, hg]
        simp only [cond_true]
        have hl := len_eq (n := n.toNat) (by omega) (by omega)
        have hle := bitsN_le 64 n.toNat
        rw [show ((n.toNat : Nat) : Int) = n by omega] at hl
        rw [hl, IntWalk.i64_in (((bitsN 64 n.toNat : Nat) : Int) + 7) (by omega), IntWalk.i64_in (((bitsN 64 n.toNat : Nat) : Int) + 7 - 1) (by omega), IntWalk.i64_quo _ _ (by omega)]
        congr 2
        omega
    · rw [decide_eq_false hb] at h; cases h
  · cases h
end Go.Proofs.YtopbldbgnpeelaaDoor.V
