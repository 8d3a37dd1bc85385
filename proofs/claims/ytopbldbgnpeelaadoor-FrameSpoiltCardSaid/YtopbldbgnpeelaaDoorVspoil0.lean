/- A frame of which bytes of the body are others: what is told of it. No program. No condition. -/
import Derived.Test.YtopbldbgnpeelaaDoorVcut
set_option maxRecDepth 100000
set_option linter.unusedVariables false
set_option linter.unusedSimpArgs false
namespace Go.Proofs.YtopbldbgnpeelaaDoor.V
open Go Go.Proofs.AbsV
theorem le4_nat {s : Nat} (h : s < 4294967296) : le4 (s : Int) = [((s % 256 : Nat) : Int), ((s / 256 % 256 : Nat) : Int), ((s / 256 / 256 % 256 : Nat) : Int), ((s / 256 / 256 / 256 % 256 : Nat) : Int)] := by
  have hr : ∀ {m : Nat}, m < 4294967296 → restOf (m : Int) = ((m / 256 : Nat) : Int) := by
    intro m hm
    unfold restOf
    rw [Int.tdiv_eq_ediv_of_nonneg (by omega), show (m : Int) / 256 = ((m / 256 : Nat) : Int) by omega, u32_wrap (by omega)]
  have hb : ∀ m : Nat, byteAt (m : Int) = ((m % 256 : Nat) : Int) := by
    intro m
    unfold byteAt
    rw [Int.tmod_eq_emod_of_nonneg (by omega), IntKind.wrap_u8]
    omega
  rw [← le4_eq h]
  unfold le4r
  rw [hr h, hr (by omega), hr (by omega), hb, hb, hb, hb]
theorem le4_inj {s t : Nat} (hs : s < 4294967296) (ht : t < 4294967296) (h : le4 (s : Int) = le4 (t : Int)) : s = t := by
  rw [le4_nat hs, le4_nat ht] at h
  simp only [List.cons.injEq, and_true] at h
  obtain ⟨h0, h1, h2, h3⟩ := h
  omega
theorem nx_spoilt (w v : List Int) (hw : isBytes w) (hv : isBytes v) (hl : v.length = w.length) (h1 : 1 ≤ w.length) (h2 : w.length ≤ 300) (hne : sumN v ≠ sumN w) :
    nxE (putL 9 ((w.length : Nat) : Int) ++ (v ++ le4 (crcI 0 w))) 0 = 4 := by
  have hp := putL_length 9 ((w.length : Nat) : Int)
  have hlen : (putL 9 ((w.length : Nat) : Int) ++ (v ++ le4 (crcI 0 w))).length = (putL 9 ((w.length : Nat) : Int)).length + w.length + 4 := by
    simp only [List.length_append, hl]
    rfl
  have hg := gt_put [] (v ++ le4 (crcI 0 w)) w.length (by omega) (by
    show (putL 9 ((w.length : Nat) : Int) ++ (v ++ le4 (crcI 0 w))).length ≤ _
    omega)
  have hg' : gt (putL 9 ((w.length : Nat) : Int) ++ (v ++ le4 (crcI 0 w))) 0 = (((w.length : Nat) : Int), (((putL 9 ((w.length : Nat) : Int)).length : Nat) : Int), 0) := by simpa using hg
  have d1 : (putL 9 ((w.length : Nat) : Int) ++ (v ++ le4 (crcI 0 w))).drop (putL 9 ((w.length : Nat) : Int)).length = v ++ le4 (crcI 0 w) := List.drop_left
  have hb : nxBody (putL 9 ((w.length : Nat) : Int) ++ (v ++ le4 (crcI 0 w))) 0 = v := by
    unfold nxBody
    rw [hg']
    simp only [Int.toNat_natCast]
    rw [d1, ← hl, List.take_left]
  have d2 : (putL 9 ((w.length : Nat) : Int) ++ (v ++ le4 (crcI 0 w))).drop ((putL 9 ((w.length : Nat) : Int)).length + w.length) = le4 (crcI 0 w) := by
    rw [← List.drop_drop, d1, ← hl, List.drop_left]
  have hne4 : (le4 (crcI 0 w) == le4 (crcI 0 v)) = false := by
    rw [beq_eq_false_iff_ne]
    intro e
    rw [crc_eq hw, crc_eq hv] at e
    exact hne (le4_inj Crc.sum_lt Crc.sum_lt e).symm
  unfold nxE
  rw [hb, hg']
  simp only [Int.toNat_natCast, bne_self_eq_false, cond_false]
  rw [good_small h1 h2, d2, hlen, show ((0 : Int) != 0) = false from rfl, cond_false, cond_neg (by omega), show (le4 (crcI 0 w)).take 4 = le4 (crcI 0 w) from rfl, hne4]
  rfl
end Go.Proofs.YtopbldbgnpeelaaDoor.V
