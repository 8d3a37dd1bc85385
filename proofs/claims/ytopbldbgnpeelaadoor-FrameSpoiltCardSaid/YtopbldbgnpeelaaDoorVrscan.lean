/- The document's frames from the beginning on, and whether two lists of bytes are the same, as functions of data. No condition. -/
import Derived.Test.YtopbldbgnpeelaaDoorVnext4
set_option maxRecDepth 100000
set_option linter.unusedVariables false
set_option linter.unusedSimpArgs false
namespace Go.Proofs.YtopbldbgnpeelaaDoor.V
open Go Go.Proofs.AbsV
def TS1 : FuncId → Option CSpec := tab [(13, nxSp none)]
theorem tokS1 : TOK Tryd.prog env TS1 := tok_tab mixed ⟨rnext_ok, trivial⟩
abbrev BB : Ty := .sl B
theorem fn_rscan : FnOK Tryd.prog 15 Tryd.f15 := ⟨by kernel_rfl, by kernel_rfl, by kernel_rfl⟩
def rscan_hv : Keeps := fun c => (match Nat.beq c 0 with | true => some ([0, 4, 5], [2, 3]) | false => none)
def rscan_S0 (b : List Int) (out : List (List Int)) (v5 : Int) : St := { fr := frOf [(0, .sl B b none none), (4, .sl BB out none (some (1, 22))), (5, .int .i64 v5)] 25 0, bx := [] }
def rscan_S0n (b : List Int) (v5 : Int) : St := { fr := frOf [(0, .sl B b none none), (4, .nilsl), (5, .int .i64 v5)] 25 0, bx := [] }
noncomputable def rscan_B0 : Code := codeAt (bodyOf Tryd.f15) [1, 1, 1, 0, 0]
noncomputable def rscan_K0 {α : Type} (F : Nat) (b : List Int)  (k : AV → List Box2 → Option α) : Ex → St → Option α := contAt env TS1 noInl rscan_hv F (bodyOf Tryd.f15) [1, 1, 1, 0] 0 (endOf env Tryd.f15 (fun r bx => k r []))
noncomputable def rscan_L0 {α : Type} (F n : Nat) (b : List Int) (out : List (List Int)) (v5 : Int) (k : AV → List Box2 → Option α) : Option α := loopH 0 (some [0, 4, 5]) (some [2, 3]) (fun s k => runC env TS1 noInl rscan_hv F rscan_B0 0 s k) n (rscan_S0 b out v5) (rscan_K0 F  b k)
noncomputable def rscan_L0n {α : Type} (F n : Nat) (b : List Int) (v5 : Int) (k : AV → List Box2 → Option α) : Option α := loopH 0 (some [0, 4, 5]) (some [2, 3]) (fun s k => runC env TS1 noInl rscan_hv F rscan_B0 0 s k) n (rscan_S0n b v5) (rscan_K0 F  b k)
theorem rscan_in {α : Type} (F : Nat) (b : List Int) (k : AV → List Box2 → Option α) : runF env TS1 noInl rscan_hv F Tryd.f15 [.sl B b none none] [] (fun r bx => k r []) =
    (rscan_L0n F F b 0 k) := by kernel_rfl
theorem rscan_step0 {α : Type} (F n : Nat) (b : List Int) (out : List (List Int)) (v5 : Int) (k : AV → List Box2 → Option α) : rscan_L0 F (n + 1)  b out v5 k =
    bif nxG b && nxE b v5 != 0 then bif nxE b v5 != 0 then k (AV.tup [AV.sl (Ty.sl (Ty.int IntKind.u8)) out none (some (1, 22)), AV.int IntKind.i64 v5]) [] else bif decide ((List.length out + 1) * 24 ≤ 140737488355328) then (rscan_L0 F n b (List.append out [[]]) 0 k) else none else bif nxG b then bif decide ((List.length out + 1) * 24 ≤ 140737488355328) then (rscan_L0 F n b (List.append out [nxBody b v5]) (nxEnd b v5) k) else none else none := by kernel_rfl
theorem rscan_step0n {α : Type} (F n : Nat) (b : List Int) (v5 : Int) (k : AV → List Box2 → Option α) : rscan_L0n F (n + 1)  b v5 k =
    bif nxG b && nxE b v5 != 0 then bif nxE b v5 != 0 then k (AV.tup [AV.nilsl, AV.int IntKind.i64 v5]) [] else (rscan_L0 F n b [[]] 0 k) else bif nxG b then (rscan_L0 F n b [nxBody b v5] (nxEnd b v5) k) else none := by kernel_rfl
theorem scanL_len {b : List Int} (hb : isBytes b) (hx : b.length ≤ 1000000000000) : True := trivial
theorem rscan_loop {α : Type} (F : Nat) (b : List Int) (hb : isBytes b) (hx : b.length ≤ 1000000000000) (k : AV → List Box2 → Option α) : ∀ (n : Nat) (out : List (List Int)) (a : Int), 0 ≤ a → ((out.length : Nat) : Int) ≤ a → a ≤ ((b.length : Nat) : Int) → ((b.length : Nat) : Int) ≤ a + n →
    rscan_L0 F (n + 1) b out a k = k (.tup [.sl BB (scanL b (n + 1) out a).1 none (some (1, 22)), .int .i64 (scanL b (n + 1) out a).2]) [] := by
  intro n
  have hg : nxG b = true := by unfold nxG; rw [ble_yes hx, isBytesB_of hb]; rfl
  induction n with
  | zero =>
    intro out a h0 h1 h2 h3
    have he := nx_end hb hx (a := a) (by omega)
    rw [rscan_step0, hg, he, Bool.and_self, cond_true, cond_true]
    unfold scanL
    rw [he, cond_true]
  | succ n ih =>
    intro out a h0 h1 h2 h3
    rw [rscan_step0, hg, Bool.true_and]
    unfold scanL
    cases he : (nxE b a != 0) with
    | true => rw [cond_true, cond_true, cond_true]
    | false =>
      obtain ⟨g1, g2, g3, _⟩ := nx_more hb hx he
      rw [cond_false, cond_false, cond_true, cond_pos (by omega)]
      exact ih (out ++ [nxBody b a]) (nxEnd b a) (by omega) (by rw [List.length_append]; simp; omega) g3 (by omega)
def scanB (b : List Int) : List (List Int) × Int := scanL b (b.length + 1) [] 0
def scanSp : List AV → List (Bool × AV)
  | [x] => match bytesIn x with
    | some b => [(nxG b, .tup [.sl BB (scanB b).1 none none, .int .i64 (scanB b).2])]
    | none => []
  | _ => []
def rscanSp0 : List AV → List (Bool × AV)
  | [x] => match bytesIn x with
    | some b => [(nxG b && (nxE b 0 != 0), .tup [.nilsl, .int .i64 0]), (nxG b, .tup [.sl BB (scanB b).1 none (some (1, 22)), .int .i64 (scanB b).2])]
    | none => []
  | _ => []
theorem rscan_ok0 : PureOK Tryd.prog env 15 rscanSp0 := by
  refine PureOK.of_reads envOK tokS1 noInl_ok fn_rscan (hv := rscan_hv) (fun args r h => ?_)
  unfold rscanSp0 at h
  split at h
  · rename_i x
    split at h
    · rename_i b hx
      cases hg : nxG b with
      | false => rw [hg] at h; exact absurd h (by simp [sel])
      | true =>
        have h1 : isBytesB b = true ∧ Nat.ble b.length 1000000000000 = true := by
          have hg' := hg
          unfold nxG at hg'
          simpa only [Bool.and_eq_true] using hg'
        have hb := isBytes_of h1.1
        have hl : b.length ≤ 1000000000000 := by simpa only [Nat.ble_eq] using h1.2
        refine ⟨_, b.length + 1, .bytes hx .nil, (rscan_in (b.length + 1) b (fun r _ => some r)).trans ?_⟩
        rw [hg, Bool.true_and] at h
        rw [rscan_step0n, hg, Bool.true_and]
        cases he : (nxE b 0 != 0) with
        | true => rw [he] at h; cases h; rfl
        | false =>
          rw [he] at h; cases h
          rw [cond_false, cond_true]
          obtain ⟨g1, g2, g3, _⟩ := nx_more hb hl he
          have e0 : scanB b = scanL b b.length [nxBody b 0] (nxEnd b 0) := by
            unfold scanB
            rw [scanL, he, cond_false]
            rfl
          obtain ⟨m, hm⟩ : ∃ m, b.length = m + 1 := ⟨b.length - 1, by omega⟩
          rw [e0, hm]
          rw [hm] at g3
          exact rscan_loop _ b hb hl (fun r _ => some r) m [nxBody b 0] (nxEnd b 0) (by omega) (by simp; omega) (by omega) (by omega)
    · cases h
  · cases h
theorem scanSp_sel {args : List AV} {r : AV} (h : sel (scanSp args) = some r) : ∃ x b, args = [x] ∧ bytesIn x = some b ∧ isBytes b ∧ b.length ≤ 1000000000000 ∧ nxG b = true ∧ r = .tup [.sl BB (scanB b).1 none none, .int .i64 (scanB b).2] := by
  unfold scanSp at h
  split at h
  · rename_i x
    split at h
    · rename_i b hx
      obtain ⟨hg, he⟩ := sel_one h
      have hg' := hg
      unfold nxG at hg'
      simp only [Bool.and_eq_true, Nat.ble_eq] at hg'
      exact ⟨x, b, rfl, hx, isBytes_of hg'.1, hg'.2, hg, he⟩
    · cases h
  · cases h
theorem rscan_ok : PureOK Tryd.prog env 15 scanSp := by
  refine PureOK.weakenR rscan_ok0 (fun args r h => ?_)
  obtain ⟨x, b, rfl, hx, hb, hl, hg, rfl⟩ := scanSp_sel h
  show ∃ r0, sel (match bytesIn x with
    | some b => [(nxG b && (nxE b 0 != 0), AV.tup [.nilsl, .int .i64 0]), (nxG b, .tup [.sl BB (scanB b).1 none (some (1, 22)), .int .i64 (scanB b).2])]
    | none => []) = some r0 ∧ _
  rw [hx]
  show ∃ r0, sel [(nxG b && (nxE b 0 != 0), AV.tup [.nilsl, .int .i64 0]), (nxG b, .tup [.sl BB (scanB b).1 none (some (1, 22)), .int .i64 (scanB b).2])] = some r0 ∧ _
  rw [hg, Bool.true_and]
  cases he : (nxE b 0 != 0) with
  | true =>
    refine ⟨_, rfl, rfl, fun c v hv => ?_⟩
    have e0 : scanB b = ([], 0) := by
      unfold scanB scanL
      rw [he, cond_true]
    rw [e0]
    exact rep_tup_nil hv
  | false => exact ⟨_, rfl, rfl, fun c v hv => rep_tup_weak hv⟩
end Go.Proofs.YtopbldbgnpeelaaDoor.V
