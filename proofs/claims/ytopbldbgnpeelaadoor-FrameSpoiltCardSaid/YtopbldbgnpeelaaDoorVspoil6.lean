/- FrameSpoilt, put together. No condition. -/
import Derived.Test.YtopbldbgnpeelaaDoorVspoil5
import Derived.Test.YtopbldbgnpeelaaDoorWfnexts
set_option maxRecDepth 100000
set_option linter.unusedVariables false
set_option linter.unusedSimpArgs false
namespace Go.Proofs.YtopbldbgnpeelaaDoor.V
open Go Go.Proofs.AbsV
def TPt : FuncId → Option CSpec := tab [(12, nxSp (some (0, 5))), (7, awakeSp03)]
theorem tokPt : TOK Tryd.prog env TPt := tok_tab mixed ⟨next_ok, awake03_ok, trivial⟩
noncomputable def TAIL : Code := codeAt (bodyOf Tryd.f4) [1,1,1,1,1,1]
theorem tail_in (b : List Int) : runC env TPt noInl (fun _ => none) 0 TAIL 0 ⟨frOf [(7, .sl B b none none)] 108 0, []⟩ (endOf env Tryd.f4 (fun r bx => some r)) =
    bif nxG b && (nxE b 0 != 0) then (bif nxE b 0 == 4 then some (.bool true) else some (.bool false)) else bif nxG b then some (.bool false) else none := by kernel_rfl
theorem body_some : Tryd.f4.body = some (bodyOf Tryd.f4) := by kernel_rfl
theorem loop_at : codeAt (bodyOf Tryd.f4) [1,1,1,1,1,0,1] = .block 0 (.loop LB) := by kernel_rfl
theorem cont_at (Q : Exit → Act → World → Prop) : contQ Tryd.prog (bodyOf Tryd.f4) [1,1,1,1,1,0,1] Q = Exit.then (TAIL.wp Tryd.prog Q) Q := by kernel_rfl
theorem spoilt_next (w : List Int) (a : Nat) (y0 y1 y2 y3 x0 x1 x2 x3 : Nat) (l m : List Int) (hw : w = l ++ ((y0 : Int) :: (y1 : Int) :: (y2 : Int) :: (y3 : Int) :: m)) (hb : isBytes w) (h1 : 1 ≤ w.length) (h2 : w.length ≤ 300)
    (hx : x0 < 256 ∧ x1 < 256 ∧ x2 < 256 ∧ x3 < 256) (hz : ¬ (x0 = 0 ∧ x1 = 0 ∧ x2 = 0 ∧ x3 = 0)) :
    nxG (putL 9 ((w.length : Nat) : Int) ++ ((l ++ (((y0 ^^^ x0 : Nat) : Int) :: ((y1 ^^^ x1 : Nat) : Int) :: ((y2 ^^^ x2 : Nat) : Int) :: ((y3 ^^^ x3 : Nat) : Int) :: m)) ++ le4 (crcI 0 w))) = true ∧
    nxE (putL 9 ((w.length : Nat) : Int) ++ ((l ++ (((y0 ^^^ x0 : Nat) : Int) :: ((y1 ^^^ x1 : Nat) : Int) :: ((y2 ^^^ x2 : Nat) : Int) :: ((y3 ^^^ x3 : Nat) : Int) :: m)) ++ le4 (crcI 0 w))) 0 = 4 := by
  obtain ⟨hx0, hx1, hx2, hx3⟩ := hx
  have hl : ∀ c ∈ l, 0 ≤ c ∧ c < 256 := fun c hc => hb c (by rw [hw]; simp [hc])
  have hm : ∀ c ∈ m, 0 ≤ c ∧ c < 256 := fun c hc => hb c (by rw [hw]; simp [hc])
  have hy0 : y0 < 256 := by have := hb (y0 : Int) (by rw [hw]; simp); omega
  have hy1 : y1 < 256 := by have := hb (y1 : Int) (by rw [hw]; simp); omega
  have hy2 : y2 < 256 := by have := hb (y2 : Int) (by rw [hw]; simp); omega
  have hy3 : y3 < 256 := by have := hb (y3 : Int) (by rw [hw]; simp); omega
  have x8 : ∀ {a b : Nat}, a < 256 → b < 256 → a ^^^ b < 256 := fun ha hb => Nat.xor_lt_two_pow (n := 8) ha hb
  have hv : isBytes (l ++ (((y0 ^^^ x0 : Nat) : Int) :: ((y1 ^^^ x1 : Nat) : Int) :: ((y2 ^^^ x2 : Nat) : Int) :: ((y3 ^^^ x3 : Nat) : Int) :: m)) := by
    intro c hc
    have q0 := x8 hy0 hx0
    have q1 := x8 hy1 hx1
    have q2 := x8 hy2 hx2
    have q3 := x8 hy3 hx3
    simp only [List.mem_append, List.mem_cons] at hc
    rcases hc with hc | rfl | rfl | rfl | rfl | hc
    · exact hl c hc
    · omega
    · omega
    · omega
    · omega
    · exact hm c hc
  have hlen : (l ++ (((y0 ^^^ x0 : Nat) : Int) :: ((y1 ^^^ x1 : Nat) : Int) :: ((y2 ^^^ x2 : Nat) : Int) :: ((y3 ^^^ x3 : Nat) : Int) :: m)).length = w.length := by rw [hw]; simp
  have hne : sumN (l ++ (((y0 ^^^ x0 : Nat) : Int) :: ((y1 ^^^ x1 : Nat) : Int) :: ((y2 ^^^ x2 : Nat) : Int) :: ((y3 ^^^ x3 : Nat) : Int) :: m)) ≠ sumN w := by
    have h := Crc.sum_spoilt (l.map Int.toNat) (m.map Int.toNat) y0 y1 y2 y3 x0 x1 x2 x3
      (fun c hc => by obtain ⟨x, hx, rfl⟩ := List.mem_map.1 hc; have := hl x hx; omega) (fun c hc => by obtain ⟨x, hx, rfl⟩ := List.mem_map.1 hc; have := hm x hx; omega) hy0 hy1 hy2 hy3 hx0 hx1 hx2 hx3 hz
    unfold sumN
    rw [hw]
    simpa [List.map_append] using h
  have hE := nx_spoilt w _ hb hv hlen h1 h2 hne
  refine ⟨?_, hE⟩
  unfold nxG
  rw [Bool.and_eq_true]
  have hp := putL_length 9 ((w.length : Nat) : Int)
  constructor
  · exact isBytesB_of (isBytes_append (putL_bytes 9 _ (by omega)) (isBytes_append hv (le4_bytes _)))
  · refine ble_yes ?_
    rw [List.length_append, List.length_append, hlen]
    show _ + (_ + 4) ≤ _
    omega
end Go.Proofs.YtopbldbgnpeelaaDoor.V
