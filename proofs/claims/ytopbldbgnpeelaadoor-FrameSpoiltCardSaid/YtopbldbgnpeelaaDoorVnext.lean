/- frame.Next, and the document's, as functions of data. No condition. -/
import Derived.Test.YtopbldbgnpeelaaDoorVframe3
set_option maxRecDepth 100000
set_option linter.unusedVariables false
set_option linter.unusedSimpArgs false
namespace Go.Proofs.YtopbldbgnpeelaaDoor.V
open Go Go.Proofs.AbsV
/-! ### slices.Equal, varint.Get -/
theorem fn_seq : FnOK Tryd.prog 25 Tryd.f25 := ⟨by kernel_rfl, by kernel_rfl, by kernel_rfl⟩
def seq_hv : Keeps := fun c => (match Nat.beq c 0 with | true => some ([0, 1, 12, 13], [4]) | false => none)
def seq_S0 (xs ys : List Int) (v12 : Int) (v13 : Int) : St := { fr := frOf [(0, .sl B xs none none), (1, .sl B ys none none), (12, .int .i64 v12), (13, .int .i64 v13)] 26 0, bx := [] }
noncomputable def seq_B0 : Code := codeAt (bodyOf Tryd.f25) [1, 1, 0, 1, 0, 0]
noncomputable def seq_K0 {α : Type} (F : Nat) (xs ys : List Int)  (k : AV → List Box2 → Option α) : Ex → St → Option α := contAt env T0 noInl seq_hv F (bodyOf Tryd.f25) [1, 1, 0, 1, 0] 0 (endOf env Tryd.f25 (fun r bx => k r []))
noncomputable def seq_L0 {α : Type} (F n : Nat) (xs ys : List Int) (v12 : Int) (v13 : Int) (k : AV → List Box2 → Option α) : Option α := loopH 0 (some [0, 1, 12, 13]) (some [4]) (fun s k => runC env T0 noInl seq_hv F seq_B0 0 s k) n (seq_S0 xs ys v12 v13) (seq_K0 F  xs ys k)
theorem seq_in {α : Type} (F : Nat) (xs ys : List Int) (k : AV → List Box2 → Option α) : runF env T0 noInl seq_hv F Tryd.f25 [.sl B xs none none, .sl B ys none none] [] (fun r bx => k r []) =
    bif (((List.length xs) : Nat) : Int) != (((List.length ys) : Nat) : Int) then k (AV.bool false) [] else (seq_L0 F F xs ys (((List.length xs) : Nat) : Int) 0 k) := by kernel_rfl
theorem seq_step0 {α : Type} (F n : Nat) (xs ys : List Int) (v12 : Int) (v13 : Int) (k : AV → List Box2 → Option α) : seq_L0 F (n + 1)  xs ys v12 v13 k =
    bif decide (v13 < v12) then bif decide (0 ≤ v13) && decide (v13 < (((List.length xs) : Nat) : Int)) then bif decide (0 ≤ v13) && decide (v13 < (((List.length ys) : Nat) : Int)) then bif dI (rdD (Ty.int IntKind.u8) xs (Int.toNat v13)) != dI (rdD (Ty.int IntKind.u8) ys (Int.toNat v13)) then k (AV.bool false) [] else (seq_L0 F n xs ys v12 (IntKind.wrap IntKind.i64 (Int.add v13 1)) k) else none else none else k (AV.bool true) [] := by kernel_rfl
theorem seq_loop {α : Type} (F : Nat) (xs ys : List Int) (hl : xs.length = ys.length) (hx : xs.length ≤ 4611686018427387904) (k : AV → List Box2 → Option α) : ∀ (n i : Nat), i + n = xs.length →
    seq_L0 F (n + 1) xs ys ((xs.length : Nat) : Int) (i : Int) k = k (.bool (xs.drop i == ys.drop i)) []
  | 0, i, h => by
    rw [seq_step0, cond_neg (by omega), List.drop_eq_nil_of_le (by omega), List.drop_eq_nil_of_le (by omega)]
    rfl
  | n + 1, i, h => by
    have hi : i < xs.length := by omega
    have hj : i < ys.length := by omega
    have hd : (xs.drop i == ys.drop i) = (xs[i] == ys[i] && (xs.drop (i + 1) == ys.drop (i + 1))) := by
      rw [List.drop_eq_getElem_cons hi, List.drop_eq_getElem_cons hj]; rfl
    rw [seq_step0, cond_pos (by omega), in_range hi, in_range hj, step_i (by omega), rd_u8 hi, rd_u8 hj, hd, seq_loop F xs ys hl hx k n (i + 1) (by omega)]
    unfold dI bne
    cases (xs[i] == ys[i]) <;> rfl
def seqSp : List AV → List (Bool × AV)
  | [x, y] => match bytesIn x, bytesIn y with
    | some xs, some ys => [(Nat.ble xs.length 4611686018427387904, .bool (xs == ys))]
    | _, _ => []
  | _ => []
theorem seq_ok : PureOK Tryd.prog env 25 seqSp := by
  refine PureOK.of_reads envOK tok0 noInl_ok fn_seq (hv := seq_hv) (fun args r h => ?_)
  unfold seqSp at h
  split at h
  · rename_i x y
    split at h
    · rename_i xs ys hx hy
      obtain ⟨hg, he⟩ := sel_one h
      simp only [Nat.ble_eq] at hg
      subst he
      refine ⟨_, xs.length + 1, .bytes hx (.bytes hy .nil), (seq_in _ xs ys (fun r _ => some r)).trans ?_⟩
      by_cases hl : xs.length = ys.length
      · have hb : (((xs.length : Nat) : Int) != ((ys.length : Nat) : Int)) = false := by rw [hl]; simp
        rw [hb, cond_false]
        exact seq_loop _ xs ys hl hg (fun r _ => some r) xs.length 0 (by omega)
      · have hb : (((xs.length : Nat) : Int) != ((ys.length : Nat) : Int)) = true := by rw [bne, beq_eq_false_iff_ne.2 (by omega)]; rfl
        have he : (xs == ys) = false := by rw [beq_eq_false_iff_ne]; intro e; exact hl (by rw [e])
        rw [hb, cond_true, he]
    · cases h
  · cases h
/-- The number at a place, the place behind it, what is wrong. -/
def gt (b : List Int) (a : Int) : Int × Int × Int := if a < 0 ∨ a > (b.length : Int) then (0, 0, 6) else getL b a.toNat 10 0 a.toNat
def getNSp : List AV → List (Bool × AV)
  | [y, .int .i64 a] => match bytesIn y with
    | some b => [(Nat.ble b.length 4611686018427387904, .tup [.int .i64 (gt b a).1, .int .i64 (gt b a).2.1, .int .i64 (gt b a).2.2])]
    | none => []
  | _ => []
theorem getN_ok : PureOK Tryd.prog env 24 getNSp := by
  refine PureOK.weaken get_ok (fun args r h => ?_)
  unfold getNSp at h
  split at h
  · rename_i y a
    split at h
    · rename_i b hx
      obtain ⟨hg, he⟩ := sel_one h
      simp only [Nat.ble_eq] at hg
      subst he
      simp only [getSp, hx]
      rw [decide_eq_true hg]
      rfl
    · cases h
  · cases h
def cloneNSp : List AV → List (Bool × AV)
  | [y] => match bytesIn y with
    | some xs => [(Nat.ble xs.length 140737488355328, .sl B xs none (some (0, 5)))]
    | none => []
  | _ => []
theorem cloneN_ok : PureOK Tryd.prog env 26 cloneNSp := by
  refine PureOK.weaken clone_ok (fun args r h => ?_)
  unfold cloneNSp at h
  split at h
  · rename_i y
    split at h
    · rename_i xs hx
      obtain ⟨hg, he⟩ := sel_one h
      simp only [Nat.ble_eq] at hg
      subst he
      have hx' : srcOf B y = some xs := hx
      simp only [cloneSp, hx']
      rw [decide_eq_true (show List.length (α := B.den) xs * 1 ≤ 140737488355328 by show xs.length * 1 ≤ _; omega)]
      rfl
    · cases h
  · cases h
def TN1 : FuncId → Option CSpec := tab [(24, getNSp), (17, mayFSp), (20, fsumSp), (25, seqSp), (26, cloneNSp)]
theorem tokN1 : TOK Tryd.prog env TN1 := tok_tab mixed ⟨getN_ok, mayF_ok, fsum_ok, seq_ok, cloneN_ok, trivial⟩
theorem fn_next : FnOK Tryd.prog 12 Tryd.f12 := ⟨by kernel_rfl, by kernel_rfl, by kernel_rfl⟩
def next_hv : Keeps := fun _ => none
theorem next_in {α : Type} (F : Nat) (b : List Int) (a : Int) (k : AV → List Box2 → Option α) : runF env TN1 noInl next_hv F Tryd.f12 [.sl B b none none, .int .i64 a] [] (fun r bx => k r []) =
    bif Nat.ble (List.length b) 4611686018427387904 then bif (gt b a).2.2 != 0 then k (AV.tup [AV.nilsl, AV.int IntKind.i64 0, AV.int IntKind.i64 (gt b a).2.2]) [] else bif mayI (gt b a).1 != 0 then k (AV.tup [AV.nilsl, AV.int IntKind.i64 0, AV.int IntKind.i64 (mayI (gt b a).1)]) [] else bif decide (IntKind.wrap IntKind.i64 (Int.sub ((((List.length b) : Nat) : Int)) (gt b a).2.1) < IntKind.wrap IntKind.i64 (Int.add (gt b a).1 4)) then k (AV.tup [AV.nilsl, AV.int IntKind.i64 0, AV.int IntKind.i64 1]) [] else bif decide (0 ≤ (gt b a).2.1) && (decide ((gt b a).2.1 ≤ IntKind.wrap IntKind.i64 (Int.add (gt b a).2.1 (gt b a).1)) && decide (IntKind.wrap IntKind.i64 (Int.add (gt b a).2.1 (gt b a).1) ≤ (((List.length b) : Nat) : Int))) then bif decide (0 ≤ IntKind.wrap IntKind.i64 (Int.add (gt b a).2.1 (gt b a).1)) && (decide (IntKind.wrap IntKind.i64 (Int.add (gt b a).2.1 (gt b a).1) ≤ IntKind.wrap IntKind.i64 (Int.add (IntKind.wrap IntKind.i64 (Int.add (gt b a).2.1 (gt b a).1)) 4)) && decide (IntKind.wrap IntKind.i64 (Int.add (IntKind.wrap IntKind.i64 (Int.add (gt b a).2.1 (gt b a).1)) 4) ≤ (((List.length b) : Nat) : Int))) then bif decide (List.length (List.take (Int.toNat (Int.sub (IntKind.wrap IntKind.i64 (Int.add (gt b a).2.1 (gt b a).1)) (gt b a).2.1)) (List.drop (Int.toNat (gt b a).2.1) b)) ≤ 4611686018427387904) then bif Nat.ble (List.length (List.take (Int.toNat (Int.sub (IntKind.wrap IntKind.i64 (Int.add (IntKind.wrap IntKind.i64 (Int.add (gt b a).2.1 (gt b a).1)) 4)) (IntKind.wrap IntKind.i64 (Int.add (gt b a).2.1 (gt b a).1)))) (List.drop (Int.toNat (IntKind.wrap IntKind.i64 (Int.add (gt b a).2.1 (gt b a).1))) b))) 4611686018427387904 then bif !List.take (Int.toNat (Int.sub (IntKind.wrap IntKind.i64 (Int.add (IntKind.wrap IntKind.i64 (Int.add (gt b a).2.1 (gt b a).1)) 4)) (IntKind.wrap IntKind.i64 (Int.add (gt b a).2.1 (gt b a).1)))) (List.drop (Int.toNat (IntKind.wrap IntKind.i64 (Int.add (gt b a).2.1 (gt b a).1))) b) == le4 (crcI 0 (List.take (Int.toNat (Int.sub (IntKind.wrap IntKind.i64 (Int.add (gt b a).2.1 (gt b a).1)) (gt b a).2.1)) (List.drop (Int.toNat (gt b a).2.1) b))) then k (AV.tup [AV.nilsl, AV.int IntKind.i64 0, AV.int IntKind.i64 4]) [] else bif Nat.ble (List.length (List.take (Int.toNat (Int.sub (IntKind.wrap IntKind.i64 (Int.add (gt b a).2.1 (gt b a).1)) (gt b a).2.1)) (List.drop (Int.toNat (gt b a).2.1) b))) 140737488355328 then k (AV.tup [AV.sl (Ty.int IntKind.u8) (List.take (Int.toNat (Int.sub (IntKind.wrap IntKind.i64 (Int.add (gt b a).2.1 (gt b a).1)) (gt b a).2.1)) (List.drop (Int.toNat (gt b a).2.1) b)) none (some (0, 5)), AV.int IntKind.i64 (IntKind.wrap IntKind.i64 (Int.add (IntKind.wrap IntKind.i64 (Int.add (gt b a).2.1 (gt b a).1)) 4)), AV.int IntKind.i64 0]) [] else none else none else none else none else none else none := by kernel_rfl
/-! ### The document's -/
theorem fn_rget : FnOK Tryd.prog 27 Tryd.f27 := ⟨by kernel_rfl, by kernel_rfl, by kernel_rfl⟩
def rget_hv : Keeps := fun c => (match Nat.beq c 0 with | true => some ([0, 1, 7, 8, 9], [4, 5, 6]) | false => none)
def rget_S0 (b : List Int) (a : Int) (v7 : Int) (p : Int) (i : Int) : St := { fr := frOf [(0, .sl B b none none), (1, .int .i64 a), (7, .int .i64 v7), (8, .int .i64 p), (9, .int .i64 i)] 65 0, bx := [] }
noncomputable def rget_B0 : Code := codeAt (bodyOf Tryd.f27) [1, 1, 1, 0, 1, 0, 0]
noncomputable def rget_K0 {α : Type} (F : Nat) (b : List Int) (a : Int)  (k : AV → List Box2 → Option α) : Ex → St → Option α := contAt env T0 noInl rget_hv F (bodyOf Tryd.f27) [1, 1, 1, 0, 1, 0] 0 (endOf env Tryd.f27 (fun r bx => k r []))
noncomputable def rget_L0 {α : Type} (F n : Nat) (b : List Int) (a : Int) (v7 : Int) (p : Int) (i : Int) (k : AV → List Box2 → Option α) : Option α := loopH 0 (some [0, 1, 7, 8, 9]) (some [4, 5, 6]) (fun s k => runC env T0 noInl rget_hv F rget_B0 0 s k) n (rget_S0 b a v7 p i) (rget_K0 F  b a k)
theorem rget_in {α : Type} (F : Nat) (b : List Int) (a : Int) (k : AV → List Box2 → Option α) : runF env T0 noInl rget_hv F Tryd.f27 [.sl B b none none, .int .i64 a] [] (fun r bx => k r []) =
    bif !decide (a < 0) then bif decide (a > (((List.length b) : Nat) : Int)) then k (AV.tup [AV.int IntKind.i64 0, AV.int IntKind.i64 0, AV.int IntKind.i64 6]) [] else (rget_L0 F F b a 0 1 a k) else k (AV.tup [AV.int IntKind.i64 0, AV.int IntKind.i64 0, AV.int IntKind.i64 6]) [] := by kernel_rfl
theorem rget_step0 {α : Type} (F n : Nat) (b : List Int) (a : Int) (v7 : Int) (p : Int) (i : Int) (k : AV → List Box2 → Option α) : rget_L0 F (n + 1)  b a v7 p i k =
    bif decide (i < (((List.length b) : Nat) : Int)) then bif decide (i > a) then bif decide (0 ≤ i) && decide (i < (((List.length b) : Nat) : Int)) then bif !dI (rdD (Ty.int IntKind.u8) b (Int.toNat i)) == 0 then bif decide (IntKind.wrap IntKind.i64 (Int.sub i a) ≥ 9) then k (AV.tup [AV.int IntKind.i64 0, AV.int IntKind.i64 0, AV.int IntKind.i64 3]) [] else bif decide (0 ≤ i) && decide (i < (((List.length b) : Nat) : Int)) then bif decide (0 ≤ i) && decide (i < (((List.length b) : Nat) : Int)) then bif decide (dI (rdD (Ty.int IntKind.u8) b (Int.toNat i)) < 128) then k (AV.tup [AV.int IntKind.i64 (IntKind.wrap IntKind.i64 (Int.add v7 (IntKind.wrap IntKind.i64 (Int.mul p (IntKind.wrap IntKind.i64 (Int.tmod (dI (rdD (Ty.int IntKind.u8) b (Int.toNat i))) 128)))))), AV.int IntKind.i64 (IntKind.wrap IntKind.i64 (Int.add i 1)), AV.int IntKind.i64 0]) [] else bif decide (IntKind.wrap IntKind.i64 (Int.sub i a) < 8) then (rget_L0 F n b a (IntKind.wrap IntKind.i64 (Int.add v7 (IntKind.wrap IntKind.i64 (Int.mul p (IntKind.wrap IntKind.i64 (Int.tmod (dI (rdD (Ty.int IntKind.u8) b (Int.toNat i))) 128)))))) (IntKind.wrap IntKind.i64 (Int.mul p 128)) (IntKind.wrap IntKind.i64 (Int.add i 1)) k) else (rget_L0 F n b a (IntKind.wrap IntKind.i64 (Int.add v7 (IntKind.wrap IntKind.i64 (Int.mul p (IntKind.wrap IntKind.i64 (Int.tmod (dI (rdD (Ty.int IntKind.u8) b (Int.toNat i))) 128)))))) p (IntKind.wrap IntKind.i64 (Int.add i 1)) k) else none else none else k (AV.tup [AV.int IntKind.i64 0, AV.int IntKind.i64 0, AV.int IntKind.i64 3]) [] else none else bif decide (IntKind.wrap IntKind.i64 (Int.sub i a) ≥ 9) then k (AV.tup [AV.int IntKind.i64 0, AV.int IntKind.i64 0, AV.int IntKind.i64 3]) [] else bif decide (0 ≤ i) && decide (i < (((List.length b) : Nat) : Int)) then bif decide (0 ≤ i) && decide (i < (((List.length b) : Nat) : Int)) then bif decide (dI (rdD (Ty.int IntKind.u8) b (Int.toNat i)) < 128) then k (AV.tup [AV.int IntKind.i64 (IntKind.wrap IntKind.i64 (Int.add v7 (IntKind.wrap IntKind.i64 (Int.mul p (IntKind.wrap IntKind.i64 (Int.tmod (dI (rdD (Ty.int IntKind.u8) b (Int.toNat i))) 128)))))), AV.int IntKind.i64 (IntKind.wrap IntKind.i64 (Int.add i 1)), AV.int IntKind.i64 0]) [] else bif decide (IntKind.wrap IntKind.i64 (Int.sub i a) < 8) then (rget_L0 F n b a (IntKind.wrap IntKind.i64 (Int.add v7 (IntKind.wrap IntKind.i64 (Int.mul p (IntKind.wrap IntKind.i64 (Int.tmod (dI (rdD (Ty.int IntKind.u8) b (Int.toNat i))) 128)))))) (IntKind.wrap IntKind.i64 (Int.mul p 128)) (IntKind.wrap IntKind.i64 (Int.add i 1)) k) else (rget_L0 F n b a (IntKind.wrap IntKind.i64 (Int.add v7 (IntKind.wrap IntKind.i64 (Int.mul p (IntKind.wrap IntKind.i64 (Int.tmod (dI (rdD (Ty.int IntKind.u8) b (Int.toNat i))) 128)))))) p (IntKind.wrap IntKind.i64 (Int.add i 1)) k) else none else none else k (AV.tup [AV.int IntKind.i64 0, AV.int IntKind.i64 0, AV.int IntKind.i64 1]) [] := by kernel_rfl
end Go.Proofs.YtopbldbgnpeelaaDoor.V
