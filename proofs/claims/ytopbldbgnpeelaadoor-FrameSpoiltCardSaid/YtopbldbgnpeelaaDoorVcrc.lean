/- Sums of 32 bits as functions of data. No condition. -/
import Derived.Test.YtopbldbgnpeelaaDoorVget
import Derived.Test.YtopbldbgnpeelaaDoorVgrow
import Derived.Test.YtopbldbgnpeelaaDoorXcrc
import Derived.IntWalk
set_option maxRecDepth 100000
set_option linter.unusedVariables false
set_option linter.unusedSimpArgs false
namespace Go.Proofs.YtopbldbgnpeelaaDoor.V
open Go Go.Proofs.AbsV
/-! ### Bits of numbers of 32 bits -/
theorem u32_wrap {n : Nat} (h : n < 4294967296) : IntKind.u32.wrap (n : Int) = (n : Int) := by
  rw [IntKind.wrap_u32]; omega
theorem xor32 {a b : Nat} (ha : a < 4294967296) (hb : b < 4294967296) : xorI .u32 (a : Int) (b : Int) = ((a ^^^ b : Nat) : Int) := by
  unfold xorI
  show IntKind.u32.wrap (((BitVec.ofInt 32 (a : Int) ^^^ BitVec.ofInt 32 (b : Int)).toNat : Nat) : Int) = _
  rw [BitVec.toNat_xor, BitVec.ofInt_natCast, BitVec.ofInt_natCast, BitVec.toNat_ofNat, BitVec.toNat_ofNat, Nat.mod_eq_of_lt (show a < 2 ^ 32 by omega), Nat.mod_eq_of_lt (show b < 2 ^ 32 by omega)]
  exact u32_wrap (Nat.xor_lt_two_pow (n := 32) (by omega) (by omega))
theorem and32 (a : Nat) : andI .u32 (a : Int) 15 = ((a % 16 : Nat) : Int) := by
  unfold andI
  show IntKind.u32.wrap (((BitVec.ofInt 32 (a : Int) &&& BitVec.ofInt 32 ((15 : Nat) : Int)).toNat : Nat) : Int) = _
  rw [BitVec.toNat_and, BitVec.ofInt_natCast, BitVec.ofInt_natCast, BitVec.toNat_ofNat, BitVec.toNat_ofNat, show 15 % 2 ^ 32 = 2 ^ 4 - 1 by decide, Nat.and_two_pow_sub_one_eq_mod]
  have : a % 2 ^ 32 % 2 ^ 4 = a % 16 := by omega
  rw [this]
  exact u32_wrap (by omega)
theorem shr32 (a : Nat) : shrI .u32 (a : Int) 4 = ((a / 16 : Nat) : Int) := by
  have h : (min (4 : Int).toNat IntKind.u32.bits) = 4 := by decide
  unfold shrI
  rw [h, Int.fdiv_eq_ediv_of_nonneg _ (by decide)]
  show (a : Int) / 16 = _
  omega
theorem ctab_at : ∀ i, i < 16 → tab32.getD i 0 = ((Crc.tab.getD i 0 : Nat) : Int)
  | 0, _ => rfl
  | 1, _ => rfl
  | 2, _ => rfl
  | 3, _ => rfl
  | 4, _ => rfl
  | 5, _ => rfl
  | 6, _ => rfl
  | 7, _ => rfl
  | 8, _ => rfl
  | 9, _ => rfl
  | 10, _ => rfl
  | 11, _ => rfl
  | 12, _ => rfl
  | 13, _ => rfl
  | 14, _ => rfl
  | 15, _ => rfl
  | i + 16, h => by omega
theorem ctab_lt : ∀ i, i < 16 → Crc.tab.getD i 0 < 4294967296
  | 0, _ => by decide
  | 1, _ => by decide
  | 2, _ => by decide
  | 3, _ => by decide
  | 4, _ => by decide
  | 5, _ => by decide
  | 6, _ => by decide
  | 7, _ => by decide
  | 8, _ => by decide
  | 9, _ => by decide
  | 10, _ => by decide
  | 11, _ => by decide
  | 12, _ => by decide
  | 13, _ => by decide
  | 14, _ => by decide
  | 15, _ => by decide
  | i + 16, h => by omega
theorem fn_turn : FnOK Tryd.prog 34 Tryd.f34 := ⟨by kernel_rfl, by kernel_rfl, by kernel_rfl⟩
def turn_hv : Keeps := fun _ => none
theorem turn_in {α : Type} (F : Nat) (r c : Int) (k : AV → List Box2 → Option α) : runF env T0 noInl turn_hv F Tryd.f34 [.int .u32 r, .int .u8 c] [] (fun r bx => k r []) =
    bif decide (andI IntKind.u32 (xorI IntKind.u32 r (IntKind.wrap IntKind.u32 c)) 15 < 16) then bif decide (Nat.add 0 (Nat.add 0 (Int.toNat (andI IntKind.u32 (xorI IntKind.u32 r (IntKind.wrap IntKind.u32 c)) 15))) < 16) then bif decide (andI IntKind.u32 (xorI IntKind.u32 (shrI IntKind.u32 (xorI IntKind.u32 r (IntKind.wrap IntKind.u32 c)) 4) (List.getD tab32 (Nat.add 0 (Nat.add 0 (Int.toNat (andI IntKind.u32 (xorI IntKind.u32 r (IntKind.wrap IntKind.u32 c)) 15)))) 0)) 15 < 16) then bif decide (Nat.add 0 (Nat.add 0 (Int.toNat (andI IntKind.u32 (xorI IntKind.u32 (shrI IntKind.u32 (xorI IntKind.u32 r (IntKind.wrap IntKind.u32 c)) 4) (List.getD tab32 (Nat.add 0 (Nat.add 0 (Int.toNat (andI IntKind.u32 (xorI IntKind.u32 r (IntKind.wrap IntKind.u32 c)) 15)))) 0)) 15))) < 16) then k (AV.int IntKind.u32 (xorI IntKind.u32 (shrI IntKind.u32 (xorI IntKind.u32 (shrI IntKind.u32 (xorI IntKind.u32 r (IntKind.wrap IntKind.u32 c)) 4) (List.getD tab32 (Nat.add 0 (Nat.add 0 (Int.toNat (andI IntKind.u32 (xorI IntKind.u32 r (IntKind.wrap IntKind.u32 c)) 15)))) 0)) 4) (List.getD tab32 (Nat.add 0 (Nat.add 0 (Int.toNat (andI IntKind.u32 (xorI IntKind.u32 (shrI IntKind.u32 (xorI IntKind.u32 r (IntKind.wrap IntKind.u32 c)) 4) (List.getD tab32 (Nat.add 0 (Nat.add 0 (Int.toNat (andI IntKind.u32 (xorI IntKind.u32 r (IntKind.wrap IntKind.u32 c)) 15)))) 0)) 15)))) 0))) [] else none else none else none else none := by kernel_rfl
theorem and32_lt (x : Int) : ∃ i : Nat, i < 16 ∧ andI .u32 x 15 = (i : Int) := by
  refine ⟨(BitVec.ofInt 32 x).toNat % 16, Nat.mod_lt _ (by decide), ?_⟩
  unfold andI
  show IntKind.u32.wrap (((BitVec.ofInt 32 x &&& BitVec.ofInt 32 ((15 : Nat) : Int)).toNat : Nat) : Int) = _
  rw [BitVec.toNat_and, BitVec.ofInt_natCast, BitVec.toNat_ofNat, show 15 % 2 ^ 32 = 2 ^ 4 - 1 by decide, Nat.and_two_pow_sub_one_eq_mod]
  exact u32_wrap (by omega)
theorem idx_lt (x : Int) : andI .u32 x 15 < 16 := by
  obtain ⟨i, h, e⟩ := and32_lt x
  rw [e]; omega
theorem idx_lt' (x : Int) : Nat.add 0 (Nat.add 0 (Int.toNat (andI .u32 x 15))) < 16 := by
  obtain ⟨i, h, e⟩ := and32_lt x
  rw [e]
  show 0 + (0 + Int.toNat (i : Int)) < 16
  rw [Int.toNat_natCast]; omega
theorem idx_both (x : Int) : (decide (0 ≤ andI .u32 x 15) && decide (andI .u32 x 15 < 16)) = true := by
  obtain ⟨i, h, e⟩ := and32_lt x
  rw [e]; simp; omega
def halfI (r : Int) : Int := xorI .u32 (shrI .u32 r 4) (List.getD tab32 (Nat.add 0 (Nat.add 0 (Int.toNat (andI .u32 r 15)))) 0)
def turnI (r c : Int) : Int := halfI (halfI (xorI .u32 r (IntKind.u32.wrap c)))
theorem turn_run {α : Type} (F : Nat) (r c : Int) (k : AV → List Box2 → Option α) : runF env T0 noInl turn_hv F Tryd.f34 [.int .u32 r, .int .u8 c] [] (fun r bx => k r []) = k (.int .u32 (turnI r c)) [] := by
  rw [turn_in, cond_pos (idx_lt _), cond_pos (idx_lt' _), cond_pos (idx_lt _), cond_pos (idx_lt' _)]
  rfl
def turnSp : List AV → List (Bool × AV)
  | [.int .u32 r, .int .u8 c] => [(true, .int .u32 (turnI r c))]
  | _ => []
theorem turn_ok : PureOK Tryd.prog env 34 turnSp := by
  refine PureOK.of_reads envOK tok0 noInl_ok fn_turn (hv := turn_hv) (fun args r h => ?_)
  unfold turnSp at h
  split at h
  · rename_i r c
    cases h
    exact ⟨_, 0, fun _ _ h => h, turn_run 0 r c (fun r _ => some r)⟩
  · cases h
/-! ### crc.Add, crc.Sum -/
def TC1 : FuncId → Option CSpec := tab [(34, turnSp)]
theorem tokC1 : TOK Tryd.prog env TC1 := tok_tab mixed ⟨turn_ok, trivial⟩
theorem fn_cadd : FnOK Tryd.prog 33 Tryd.f33 := ⟨by kernel_rfl, by kernel_rfl, by kernel_rfl⟩
def cadd_hv : Keeps := fun c => (match Nat.beq c 0 with | true => some ([5, 10, 11, 12], [5]) | false => none)
def cadd_S0 (s : Int) (xs : List Int) (r : Int) (v11 : Int) (v12 : Int) : St := { fr := frOf [(5, .int .u32 r), (10, .sl B xs none none), (11, .int .i64 v11), (12, .int .i64 v12)] 22 0, bx := [] }
noncomputable def cadd_B0 : Code := codeAt (bodyOf Tryd.f33) [1, 1, 0, 1, 0, 0]
noncomputable def cadd_K0 {α : Type} (F : Nat) (s : Int) (xs : List Int)  (k : AV → List Box2 → Option α) : Ex → St → Option α := contAt env TC1 noInl cadd_hv F (bodyOf Tryd.f33) [1, 1, 0, 1, 0] 0 (endOf env Tryd.f33 (fun r bx => k r []))
noncomputable def cadd_L0 {α : Type} (F n : Nat) (s : Int) (xs : List Int) (r : Int) (v11 : Int) (v12 : Int) (k : AV → List Box2 → Option α) : Option α := loopH 0 (some [5, 10, 11, 12]) (some [5]) (fun s k => runC env TC1 noInl cadd_hv F cadd_B0 0 s k) n (cadd_S0 s xs r v11 v12) (cadd_K0 F  s xs k)
theorem cadd_in {α : Type} (F : Nat) (s : Int) (xs : List Int) (k : AV → List Box2 → Option α) : runF env TC1 noInl cadd_hv F Tryd.f33 [.int .u32 s, .sl B xs none none] [] (fun r bx => k r []) =
    (cadd_L0 F F s xs (xorI IntKind.u32 4294967295 s) (((List.length xs) : Nat) : Int) 0 k) := by kernel_rfl
theorem cadd_step0 {α : Type} (F n : Nat) (s : Int) (xs : List Int) (r : Int) (v11 : Int) (v12 : Int) (k : AV → List Box2 → Option α) : cadd_L0 F (n + 1)  s xs r v11 v12 k =
    bif decide (v12 < v11) then bif decide (0 ≤ v12) && decide (v12 < (((List.length xs) : Nat) : Int)) then (cadd_L0 F n s xs (turnI r (dI (rdD (Ty.int IntKind.u8) xs (Int.toNat v12)))) v11 (IntKind.wrap IntKind.i64 (Int.add v12 1)) k) else none else k (AV.int IntKind.u32 (xorI IntKind.u32 4294967295 r)) [] := by kernel_rfl
theorem step_i {i : Nat} (h : i ≤ 4611686018427387904) : IntKind.i64.wrap (Int.add (i : Int) 1) = ((i + 1 : Nat) : Int) := by
  show IntKind.i64.wrap ((i : Int) + 1) = _
  rw [IntWalk.i64_in _ (by omega)]; omega
theorem in_range {n i : Nat} (h : i < n) : (decide (0 ≤ (i : Int)) && decide ((i : Int) < ((n : Nat) : Int))) = true := by simp; omega
theorem rd_u8 {xs : List Int} {i : Nat} (h : i < xs.length) : rdD (Ty.int IntKind.u8) xs (Int.toNat (i : Int)) = xs[i] := by
  show List.getD (α := Int) xs (i : Int).toNat 0 = xs[i]
  rw [Int.toNat_natCast, List.getD_eq_getElem?_getD, List.getElem?_eq_getElem h]
  rfl
def crcI (s : Int) (xs : List Int) : Int := xorI .u32 4294967295 (xs.foldl turnI (xorI .u32 4294967295 s))
theorem cadd_loop {α : Type} (F : Nat) (s : Int) (xs : List Int) (hx : xs.length ≤ 4611686018427387904) (k : AV → List Box2 → Option α) : ∀ (n i : Nat) (r : Int), i + n = xs.length →
    cadd_L0 F (n + 1) s xs r ((xs.length : Nat) : Int) (i : Int) k = k (.int .u32 (xorI .u32 4294967295 ((xs.drop i).foldl turnI r))) []
  | 0, i, r, h => by
    rw [cadd_step0, cond_neg (by omega), List.drop_eq_nil_of_le (by omega)]
    rfl
  | n + 1, i, r, h => by
    have hi : i < xs.length := by omega
    rw [cadd_step0, cond_pos (by omega), in_range hi, cond_true, step_i (by omega), cadd_loop F s xs hx k n (i + 1) _ (by omega), rd_u8 hi, List.drop_eq_getElem_cons hi]
    rfl
def caddSp : List AV → List (Bool × AV)
  | [.int .u32 s, y] => match bytesIn y with
    | some xs => [(decide (xs.length ≤ 4611686018427387904), .int .u32 (crcI s xs))]
    | none => []
  | _ => []
theorem cadd_ok : PureOK Tryd.prog env 33 caddSp := by
  refine PureOK.of_reads envOK tokC1 noInl_ok fn_cadd (hv := cadd_hv) (fun args r h => ?_)
  unfold caddSp at h
  split at h
  · rename_i s y
    split at h
    · rename_i xs hx
      obtain ⟨hg, he⟩ := sel_one h
      simp only [decide_eq_true_eq] at hg
      subst he
      refine ⟨_, xs.length + 1, .same (.bytes hx .nil), ?_⟩
      exact (cadd_in _ s xs (fun r _ => some r)).trans (cadd_loop _ s xs hg (fun r _ => some r) xs.length 0 _ (by omega))
    · cases h
  · cases h
def TC2 : FuncId → Option CSpec := tab [(33, caddSp)]
theorem tokC2 : TOK Tryd.prog env TC2 := tok_tab mixed ⟨cadd_ok, trivial⟩
theorem fn_csum : FnOK Tryd.prog 30 Tryd.f30 := ⟨by kernel_rfl, by kernel_rfl, by kernel_rfl⟩
def csum_hv : Keeps := fun _ => none
theorem csum_in {α : Type} (F : Nat) (xs : List Int) (k : AV → List Box2 → Option α) : runF env TC2 noInl csum_hv F Tryd.f30 [.sl B xs none none] [] (fun r bx => k r []) =
    bif decide (List.length xs ≤ 4611686018427387904) then k (AV.int IntKind.u32 (crcI 0 xs)) [] else none := by kernel_rfl
def csumSp : List AV → List (Bool × AV)
  | [y] => match bytesIn y with
    | some xs => [(decide (xs.length ≤ 4611686018427387904), .int .u32 (crcI 0 xs))]
    | none => []
  | _ => []
theorem csum_ok : PureOK Tryd.prog env 30 csumSp := by
  refine PureOK.of_reads envOK tokC2 noInl_ok fn_csum (hv := csum_hv) (fun args r h => ?_)
  unfold csumSp at h
  split at h
  · rename_i y
    split at h
    · rename_i xs hx
      obtain ⟨hg, he⟩ := sel_one h
      simp only [decide_eq_true_eq] at hg
      subst he
      refine ⟨_, 0, .bytes hx .nil, (csum_in 0 xs (fun r _ => some r)).trans ?_⟩
      rw [cond_pos hg]
    · cases h
  · cases h
/-! ### frame.sum -/
def TC3 : FuncId → Option CSpec := tab [(30, csumSp)]
theorem tokC3 : TOK Tryd.prog env TC3 := tok_tab mixed ⟨csum_ok, trivial⟩
theorem fn_fsum : FnOK Tryd.prog 20 Tryd.f20 := ⟨by kernel_rfl, by kernel_rfl, by kernel_rfl⟩
def fsum_hv : Keeps := fun _ => none
theorem fsum_in {α : Type} (F : Nat) (xs : List Int) (k : AV → List Box2 → Option α) : runF env TC3 noInl fsum_hv F Tryd.f20 [.sl B xs none none] [] (fun r bx => k r []) =
    bif decide (List.length xs ≤ 4611686018427387904) then k (AV.sl (Ty.int IntKind.u8) [IntKind.wrap IntKind.u8 (crcI 0 xs), IntKind.wrap IntKind.u8 (shrI IntKind.u32 (crcI 0 xs) 8), IntKind.wrap IntKind.u8 (shrI IntKind.u32 (crcI 0 xs) 16), IntKind.wrap IntKind.u8 (shrI IntKind.u32 (crcI 0 xs) 24)] (some false) (some (0, 5))) [] else none := by kernel_rfl
theorem fn_may : FnOK Tryd.prog 17 Tryd.f17 := ⟨by kernel_rfl, by kernel_rfl, by kernel_rfl⟩
def may_hv : Keeps := fun _ => none
theorem may_in {α : Type} (F : Nat) (n : Int) (k : AV → List Box2 → Option α) : runF env T0 noInl may_hv F Tryd.f17 [.int .i64 n] [] (fun r bx => k r []) =
    bif decide (n ≤ 0) then k (AV.int IntKind.i64 3) [] else bif decide (n > 65536) then k (AV.int IntKind.i64 2) [] else k (AV.int IntKind.i64 0) [] := by kernel_rfl
/-! ### The document's sum -/
theorem fn_rsum : FnOK Tryd.prog 23 Tryd.f23 := ⟨by kernel_rfl, by kernel_rfl, by kernel_rfl⟩
def rsum_hv : Keeps := fun c => (match Nat.beq c 0 with | true => some ([0, 3, 4], [3]) | false => (match Nat.beq c 2 with | true => some ([0, 3, 4, 5], [0, 3, 4]) | false => none))
def rsum_S0 (xs : List Int) (r : Int) (i : Int) : St := { fr := frOf [(0, .sl B xs none none), (3, .int .u32 r), (4, .int .i64 i)] 34 0, bx := [] }
noncomputable def rsum_B0 : Code := codeAt (bodyOf Tryd.f23) [1, 1, 0, 1, 0, 0]
noncomputable def rsum_K0 {α : Type} (F : Nat) (xs : List Int)  (k : AV → List Box2 → Option α) : Ex → St → Option α := contAt env T0 noInl rsum_hv F (bodyOf Tryd.f23) [1, 1, 0, 1, 0] 0 (endOf env Tryd.f23 (fun r bx => k r []))
noncomputable def rsum_L0 {α : Type} (F n : Nat) (xs : List Int) (r : Int) (i : Int) (k : AV → List Box2 → Option α) : Option α := loopH 0 (some [0, 3, 4]) (some [3]) (fun s k => runC env T0 noInl rsum_hv F rsum_B0 0 s k) n (rsum_S0 xs r i) (rsum_K0 F  xs k)
def rsum_S1 (xs : List Int) (r : Int) (i : Int) (v5 : Int) : St := { fr := frOf [(0, .sl B xs none none), (3, .int .u32 r), (4, .int .i64 i), (5, .int .i64 v5)] 34 0, bx := [] }
noncomputable def rsum_B1 : Code := codeAt (bodyOf Tryd.f23) [1, 1, 0, 1, 0, 0, 1, 0, 0, 1, 1, 0, 0]
noncomputable def rsum_K1 {α : Type} (F n0 : Nat) (xs : List Int)  (k : AV → List Box2 → Option α) : Ex → St → Option α := contAt env T0 noInl rsum_hv F rsum_B0 [1, 0, 0, 1, 1, 0] 0 (loopK 0 (some [0, 3, 4]) (some [3]) (fun s k => runC env T0 noInl rsum_hv F rsum_B0 0 s k) n0 (rsum_K0 F  xs k))
noncomputable def rsum_L1 {α : Type} (F n n0 : Nat) (xs : List Int) (r : Int) (i : Int) (v5 : Int) (k : AV → List Box2 → Option α) : Option α := loopH 0 (some [0, 3, 4, 5]) (some [0, 3, 4]) (fun s k => runC env T0 noInl rsum_hv F rsum_B1 2 s k) n (rsum_S1 xs r i v5) (rsum_K1 F n0 xs k)
theorem rsum_in {α : Type} (F : Nat) (xs : List Int) (k : AV → List Box2 → Option α) : runF env T0 noInl rsum_hv F Tryd.f23 [.sl B xs none none] [] (fun r bx => k r []) =
    (rsum_L0 F F xs 4294967295 0 k) := by kernel_rfl
theorem rsum_step0 {α : Type} (F n : Nat) (xs : List Int) (r : Int) (i : Int) (k : AV → List Box2 → Option α) : rsum_L0 F (n + 1)  xs r i k =
    bif decide (i < (((List.length xs) : Nat) : Int)) then bif decide (0 ≤ i) && decide (i < (((List.length xs) : Nat) : Int)) then (rsum_L1 F F n xs (xorI IntKind.u32 r (IntKind.wrap IntKind.u32 (dI (rdD (Ty.int IntKind.u8) xs (Int.toNat i))))) i 0 k) else none else k (AV.int IntKind.u32 (IntKind.wrap IntKind.u32 (Int.sub 4294967295 r))) [] := by kernel_rfl
theorem rsum_step1 {α : Type} (F n n0 : Nat) (xs : List Int) (r : Int) (i : Int) (v5 : Int) (k : AV → List Box2 → Option α) : rsum_L1 F (n + 1) n0 xs r i v5 k =
    bif decide (v5 < 8) then bif Int.tmod r 2 == 1 then (rsum_L1 F n n0 xs (xorI IntKind.u32 (IntKind.wrap IntKind.u32 (Int.tdiv r 2)) 3988292384) i (IntKind.wrap IntKind.i64 (Int.add v5 1)) k) else (rsum_L1 F n n0 xs (IntKind.wrap IntKind.u32 (Int.tdiv r 2)) i (IntKind.wrap IntKind.i64 (Int.add v5 1)) k) else (rsum_L0 F n0 xs r (IntKind.wrap IntKind.i64 (Int.add i 1)) k) := by kernel_rfl
def bitI (r : Int) : Int := bif Int.tmod r 2 == 1 then xorI .u32 (IntKind.u32.wrap (Int.tdiv r 2)) 3988292384 else IntKind.u32.wrap (Int.tdiv r 2)
def bitsI : Nat → Int → Int
  | 0, r => r
  | n + 1, r => bitsI n (bitI r)
def byteI (r c : Int) : Int := bitsI 8 (xorI .u32 r (IntKind.u32.wrap c))
theorem rsum_bits {α : Type} (F n0 : Nat) (xs : List Int) (i : Int) (k : AV → List Box2 → Option α) : ∀ (m n j : Nat) (r : Int), j + m = 8 → m ≤ n →
    rsum_L1 F (n + 1) n0 xs r i (j : Int) k = rsum_L0 F n0 xs (bitsI m r) (IntKind.i64.wrap (Int.add i 1)) k
  | 0, n, j, r, h, hn => by
    rw [rsum_step1, cond_neg (by omega)]
    rfl
  | m + 1, 0, j, r, h, hn => by omega
  | m + 1, n + 1, j, r, h, hn => by
    rw [rsum_step1, cond_pos (by omega), step_i (by omega), rsum_bits F n0 xs i k m n (j + 1) _ (by omega) (by omega), rsum_bits F n0 xs i k m n (j + 1) _ (by omega) (by omega)]
    show _ = rsum_L0 F n0 xs (bitsI m (bitI r)) (IntKind.i64.wrap (Int.add i 1)) k
    unfold bitI
    cases (Int.tmod r 2 == 1) <;> rfl
def rsumI (xs : List Int) : Int := IntKind.u32.wrap (Int.sub 4294967295 (xs.foldl byteI 4294967295))
theorem rsum_loop {α : Type} (F : Nat) (hF : 8 ≤ F) (xs : List Int) (hx : xs.length ≤ 4611686018427387904) (k : AV → List Box2 → Option α) : ∀ (n m i : Nat) (r : Int), i + n = xs.length → n ≤ m →
    rsum_L0 (F + 1) (m + 1) xs r (i : Int) k = k (.int .u32 (IntKind.u32.wrap (Int.sub 4294967295 ((xs.drop i).foldl byteI r)))) []
  | 0, m, i, r, h, hm => by
    rw [rsum_step0, cond_neg (by omega), List.drop_eq_nil_of_le (by omega)]
    rfl
  | n + 1, 0, i, r, h, hm => by omega
  | n + 1, m + 1, i, r, h, hm => by
    have hi : i < xs.length := by omega
    have hb := rsum_bits (F + 1) (m + 1) xs (i : Int) k 8 F 0 (xorI .u32 r (IntKind.u32.wrap xs[i])) rfl hF
    rw [rsum_step0, cond_pos (by omega), in_range hi, cond_true, rd_u8 hi, List.drop_eq_getElem_cons hi]
    refine hb.trans ?_
    rw [step_i (by omega), rsum_loop F hF xs hx k n m (i + 1) _ (by omega) (by omega)]
    rfl
def rsumSp : List AV → List (Bool × AV)
  | [y] => match bytesIn y with
    | some xs => [(decide (xs.length ≤ 4611686018427387904), .int .u32 (rsumI xs))]
    | none => []
  | _ => []
theorem rsum_ok : PureOK Tryd.prog env 23 rsumSp := by
  refine PureOK.of_reads envOK tok0 noInl_ok fn_rsum (hv := rsum_hv) (fun args r h => ?_)
  unfold rsumSp at h
  split at h
  · rename_i y
    split at h
    · rename_i xs hx
      obtain ⟨hg, he⟩ := sel_one h
      simp only [decide_eq_true_eq] at hg
      subst he
      refine ⟨_, (xs.length + 8) + 1, .bytes hx .nil, ?_⟩
      exact (rsum_in _ xs (fun r _ => some r)).trans (rsum_loop (xs.length + 8) (by omega) xs hg (fun r _ => some r) xs.length (xs.length + 8) 0 _ (by omega) (by omega))
    · cases h
  · cases h
/-! ### The two sums are one -/
def isBytes (xs : List Int) : Prop := ∀ c ∈ xs, 0 ≤ c ∧ c < 256
theorem half_eq {r : Nat} (h : r < 4294967296) : halfI (r : Int) = ((Crc.half r : Nat) : Int) := by
  unfold halfI
  rw [and32, shr32]
  show xorI .u32 _ (tab32.getD (0 + (0 + Int.toNat ((r % 16 : Nat) : Int))) 0) = _
  rw [Nat.zero_add, Nat.zero_add, Int.toNat_natCast, ctab_at _ (Nat.mod_lt _ (by decide)), xor32 (by omega) (ctab_lt _ (Nat.mod_lt _ (by decide)))]
  rfl
theorem half_lt {r : Nat} (h : r < 4294967296) : Crc.half r < 4294967296 := by
  unfold Crc.half
  exact Nat.xor_lt_two_pow (n := 32) (by omega) (ctab_lt _ (Nat.mod_lt _ (by decide)))
theorem turn_eq {r c : Nat} (hr : r < 4294967296) (hc : c < 256) : turnI (r : Int) (c : Int) = ((Crc.step r c : Nat) : Int) := by
  have hx : r ^^^ c < 4294967296 := Nat.xor_lt_two_pow (n := 32) (by omega) (by omega)
  unfold turnI Crc.step
  rw [u32_wrap (by omega), xor32 hr (by omega), half_eq hx, half_eq (half_lt hx), Crc.st8_half]
theorem bit_eq {r : Nat} (h : r < 4294967296) : bitI (r : Int) = ((Crc.st1 r : Nat) : Int) := by
  have h1 : Int.tmod (r : Int) 2 = ((r % 2 : Nat) : Int) := by rw [Int.tmod_eq_emod_of_nonneg (by omega)]; omega
  have h2 : Int.tdiv (r : Int) 2 = ((r / 2 : Nat) : Int) := by rw [Int.tdiv_eq_ediv_of_nonneg (by omega)]; omega
  unfold bitI Crc.st1
  rw [h1, h2, u32_wrap (by omega)]
  by_cases ho : r % 2 = 1
  · rw [if_pos ho, ho]
    show xorI .u32 ((r / 2 : Nat) : Int) ((Crc.P : Nat) : Int) = _
    rw [xor32 (by omega) (by decide)]
  · rw [if_neg ho, show (((r % 2 : Nat) : Int) == 1) = false by rw [beq_eq_false_iff_ne]; omega]
    rfl
theorem bits_eq : ∀ (n : Nat) {r : Nat}, r < 4294967296 → bitsI n (r : Int) = ((Crc.stN n r : Nat) : Int)
  | 0, r, h => rfl
  | n + 1, r, h => by
    show bitsI n (bitI (r : Int)) = ((Crc.stN n (Crc.st1 r) : Nat) : Int)
    rw [bit_eq h]
    exact bits_eq n (Crc.st1_lt h)
theorem byte_eq {r c : Nat} (hr : r < 4294967296) (hc : c < 256) : byteI (r : Int) (c : Int) = ((Crc.step r c : Nat) : Int) := by
  have hx : r ^^^ c < 4294967296 := Nat.xor_lt_two_pow (n := 32) (by omega) (by omega)
  unfold byteI Crc.step
  rw [u32_wrap (by omega), xor32 hr (by omega)]
  exact bits_eq 8 hx
theorem fold_turn : ∀ (xs : List Int) (r : Nat), r < 4294967296 → isBytes xs → xs.foldl turnI (r : Int) = ((Crc.run r (xs.map Int.toNat) : Nat) : Int)
  | [], r, h, hb => rfl
  | c :: xs, r, h, hb => by
    have hc := hb c (by simp)
    have e := turn_eq h (show c.toNat < 256 by omega)
    rw [Int.toNat_of_nonneg hc.1] at e
    rw [List.foldl_cons, e, List.map_cons, Crc.run_cons]
    exact fold_turn xs _ (Crc.step_lt h (by omega)) (fun x hx => hb x (by simp [hx]))
theorem fold_byte : ∀ (xs : List Int) (r : Nat), r < 4294967296 → isBytes xs → xs.foldl byteI (r : Int) = ((Crc.run r (xs.map Int.toNat) : Nat) : Int)
  | [], r, h, hb => rfl
  | c :: xs, r, h, hb => by
    have hc := hb c (by simp)
    have e := byte_eq h (show c.toNat < 256 by omega)
    rw [Int.toNat_of_nonneg hc.1] at e
    rw [List.foldl_cons, e, List.map_cons, Crc.run_cons]
    exact fold_byte xs _ (Crc.step_lt h (by omega)) (fun x hx => hb x (by simp [hx]))
theorem xor_all {r : Nat} (h : r < 4294967296) : xorI .u32 4294967295 (r : Int) = ((4294967295 - r : Nat) : Int) := by
  unfold xorI
  show IntKind.u32.wrap (((BitVec.ofInt 32 4294967295 ^^^ BitVec.ofInt 32 (r : Int)).toNat : Nat) : Int) = _
  have e : BitVec.ofInt 32 4294967295 = BitVec.allOnes 32 := by decide
  rw [e, BitVec.allOnes_xor, BitVec.toNat_not, BitVec.ofInt_natCast, BitVec.toNat_ofNat, Nat.mod_eq_of_lt (show r < 2 ^ 32 by omega)]
  exact u32_wrap (by omega)
def sumN (xs : List Int) : Nat := Crc.sum (xs.map Int.toNat)
theorem bytes_nat {xs : List Int} (hb : isBytes xs) : ∀ c ∈ xs.map Int.toNat, c < 256 := by
  intro c hc
  obtain ⟨x, hx, rfl⟩ := List.mem_map.1 hc
  have := hb x hx
  omega
theorem crc_eq {xs : List Int} (hb : isBytes xs) : crcI 0 xs = ((sumN xs : Nat) : Int) := by
  unfold crcI
  have h0 : xorI .u32 4294967295 0 = ((4294967295 : Nat) : Int) := xor_all (r := 0) (by decide)
  rw [h0, fold_turn xs _ (by decide) hb, xor_all (Crc.run_lt (by decide) (bytes_nat hb))]
  rfl
theorem rsum_eq {xs : List Int} (hb : isBytes xs) : rsumI xs = ((sumN xs : Nat) : Int) := by
  unfold rsumI
  have hr := Crc.run_lt (l := xs.map Int.toNat) (r := 4294967295) (by decide) (bytes_nat hb)
  rw [show (4294967295 : Int) = ((4294967295 : Nat) : Int) from rfl, fold_byte xs _ (by decide) hb]
  have e : Int.sub ((4294967295 : Nat) : Int) ((Crc.run 4294967295 (xs.map Int.toNat) : Nat) : Int) = ((sumN xs : Nat) : Int) := by
    show ((4294967295 : Nat) : Int) - _ = _
    unfold sumN Crc.sum
    omega
  rw [e]
  exact u32_wrap (Crc.sum_lt)
def isBytesB (xs : List Int) : Bool := xs.all fun c => decide (0 ≤ c) && decide (c < 256)
theorem isBytes_of {xs : List Int} (h : isBytesB xs = true) : isBytes xs := by
  intro c hc
  have := List.all_eq_true.1 h c hc
  simpa using this
end Go.Proofs.YtopbldbgnpeelaaDoor.V
