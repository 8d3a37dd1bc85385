/- What the document's gate counts, and its best, as functions of data. No condition. -/
import Derived.Test.YtopbldbgnpeelaaVtable
set_option maxRecDepth 100000
set_option linter.unusedVariables false
set_option linter.unusedSimpArgs false
namespace Go.Proofs.Ytopbldbgnpeelaa.V
open Go Go.Proofs.AbsV
theorem fnCounts : FnOK Try.prog 30 Try.f30 := ⟨by kernel_rfl, by kernel_rfl, by kernel_rfl⟩
theorem fnRefBest : FnOK Try.prog 31 Try.f31 := ⟨by kernel_rfl, by kernel_rfl, by kernel_rfl⟩
def cntB (n a b : Int) : Bool := isB a && (!(a == n) && mayB b)
def countsSp : List AV → List (Bool × AV)
  | [.int .i64 n, .agg [.int .i64 a, .int .i64 b]] => [(true, .bool (cntB n a b))]
  | _ => []
theorem counts_in (n a b : Int) (k : AV → List Box2 → Option AV) : runF env T0 noInl allKept 0 Try.f30 [.int .i64 n, .agg [.int .i64 a, .int .i64 b]] [] (fun r bx => k r []) =
    bif decide (a ≥ 1) then
      bif decide (a ≤ 9) then
        bif a != n then bif !(b == 1) then k (.bool (b == 2)) [] else k (.bool true) [] else k (.bool false) []
      else k (.bool false) []
    else k (.bool false) [] := by kernel_rfl
theorem counts_ok : PureOK Try.prog env 30 countsSp := by
  refine PureOK.of_reads envOK tok0 noInl_ok fnCounts (hv := allKept) (fun args r h => ?_)
  unfold countsSp at h
  split at h
  · rename_i n a b
    cases h
    refine ⟨_, 0, fun _ _ h => h, (counts_in n a b (fun r bx => some r)).trans ?_⟩
    unfold cntB isB mayB bne
    cases (decide (a ≥ 1)) <;> cases (decide (a ≤ 9)) <;> cases (a == n) <;> cases (b == 1) <;> cases (b == 2) <;> rfl
  · cases h
abbrev Pairs := List (Int × (Int × Unit))
def T10 : FuncId → Option CSpec := tab [(30, countsSp)]
theorem tok10 : TOK Try.prog env T10 := tok_tab mixed ⟨counts_ok, trivial⟩
abbrev bKeep : Keeps := keep [0,1,2,3,9,10] [0,1,2,3,9,10]
def bS (node ver of most i : Int) (xs : Pairs) : St := { fr := frOf [(0, .int .i64 node), (1, .int .i64 ver), (2, .sl twoT xs none none), (3, .int .i64 of), (9, .int .i64 most), (10, .int .i64 i)] 51 0, bx := [] }
noncomputable def bBody : Code := codeAt (bodyOf Try.f31) [1,1,1,0,1,0,0]
noncomputable def bLoop (F n : Nat) (s : St) (k : Ex → St → Option AV) : Option AV := loopH 0 (some [0,1,2,3,9,10]) (some [0,1,2,3,9,10]) (fun s k => runC env T10 noInl bKeep F bBody 0 s k) n s k
noncomputable def bK (F : Nat) (k : AV → List Box2 → Option AV) : Ex → St → Option AV := contAt env T10 noInl bKeep F (bodyOf Try.f31) [1,1,1,0,1,0] 0 (endOf env Try.f31 k)
def pairAt (xs : Pairs) (i : Int) : Int × (Int × Unit) := rdD twoT xs i.toNat
def inR (xs : Pairs) (i : Int) : Bool := decide (0 ≤ i) && decide (i < (xs.length : Int))
theorem refBest_in (F : Nat) (node ver of : Int) (xs : Pairs) (k : AV → List Box2 → Option AV) : runF env T10 noInl bKeep F Try.f31 [.int .i64 node, .int .i64 ver, .sl twoT xs none none, .int .i64 of] [] k =
    bif of == node then bLoop F F (bS node ver of ver 0 xs) (bK F k) else bLoop F F (bS node ver of 0 0 xs) (bK F k) := by kernel_rfl
theorem refBest_step (F n : Nat) (node ver of most i : Int) (xs : Pairs) (k : AV → List Box2 → Option AV) : bLoop F (n + 1) (bS node ver of most i xs) (bK F k) =
    bif decide (i < (xs.length : Int)) then
      bif inR xs i then
        bif cntB node (pairAt xs i).1 (pairAt xs i).2.1 then
          bif inR xs i then
            bif (pairAt xs i).1 == of then
              bif inR xs i then
                bif decide ((pairAt xs i).2.1 > most) then
                  bif inR xs i then bLoop F n (bS node ver of (pairAt xs i).2.1 (IntKind.i64.wrap (i.add 1)) xs) (bK F k) else none
                else bLoop F n (bS node ver of most (IntKind.i64.wrap (i.add 1)) xs) (bK F k)
              else none
            else bLoop F n (bS node ver of most (IntKind.i64.wrap (i.add 1)) xs) (bK F k)
          else none
        else bLoop F n (bS node ver of most (IntKind.i64.wrap (i.add 1)) xs) (bK F k)
      else none
    else k (.int .i64 most) [] := by kernel_rfl
def bestStep (node of : Int) (most : Int) (p : Int × (Int × Unit)) : Int := bif cntB node p.1 p.2.1 && (p.1 == of && decide (p.2.1 > most)) then p.2.1 else most
def refBestV (node ver of : Int) (xs : Pairs) : Int := xs.foldl (bestStep node of) (bif of == node then ver else 0)
theorem pairAt_eq {xs : Pairs} {i : Nat} (h : i < xs.length) : pairAt xs (i : Int) = xs[i] := by
  show List.getD (α := Int × (Int × Unit)) xs (i : Int).toNat (0, 0, ()) = xs[i]
  rw [Int.toNat_natCast, List.getD_eq_getElem?_getD, List.getElem?_eq_getElem h]
  rfl
theorem refBest_loop (F : Nat) (node ver of : Int) (xs : Pairs) (hb : xs.length ≤ 4611686018427387904) (k : AV → List Box2 → Option AV) : ∀ (n i : Nat) (most : Int), i + n = xs.length →
    bLoop F (n + 1) (bS node ver of most i xs) (bK F k) = k (.int .i64 ((xs.drop i).foldl (bestStep node of) most)) []
  | 0, i, most, h => by
    rw [refBest_step, cond_neg (by omega), List.drop_eq_nil_of_le (by omega)]
    rfl
  | n + 1, i, most, h => by
    have hx : i < xs.length := by omega
    have hg : inR xs (i : Int) = true := by unfold inR; simp; omega
    have hw : IntKind.i64.wrap (Int.add (i : Int) 1) = ((i + 1 : Nat) : Int) := by
      show IntKind.i64.wrap ((i : Int) + 1) = _
      rw [IntWalk.i64_in _ (by omega)]; omega
    rw [refBest_step, cond_pos (by omega), hg, hw, pairAt_eq hx, List.drop_eq_getElem_cons hx]
    simp only [cond_true]
    rw [refBest_loop F node ver of xs hb k n (i + 1) _ (by omega), refBest_loop F node ver of xs hb k n (i + 1) _ (by omega)]
    show _ = k (.int .i64 (List.foldl (bestStep node of) (bestStep node of most xs[i]) (xs.drop (i + 1)))) []
    unfold bestStep
    cases cntB node xs[i].1 xs[i].2.1 <;> cases (xs[i].1 == of) <;> cases (decide (xs[i].2.1 > most)) <;> rfl
def pairsIn (y : AV) : Option Pairs := srcOf twoT y
def refBestSp : List AV → List (Bool × AV)
  | [.int .i64 node, .int .i64 ver, y, .int .i64 of] => match pairsIn y with
    | some xs => [(decide (xs.length ≤ 4611686018427387904), .int .i64 (refBestV node ver of xs))]
    | none => []
  | _ => []
theorem refBest_run (node ver of : Int) (xs : Pairs) (hb : xs.length ≤ 4611686018427387904) (k : AV → List Box2 → Option AV) : runF env T10 noInl bKeep (xs.length + 1) Try.f31 [.int .i64 node, .int .i64 ver, .sl twoT xs none none, .int .i64 of] [] k = k (.int .i64 (refBestV node ver of xs)) [] := by
  rw [refBest_in]
  unfold refBestV
  have h := fun most => refBest_loop (xs.length + 1) node ver of xs hb k xs.length 0 most (by omega)
  simp only [List.drop_zero] at h
  cases (of == node)
  · exact h 0
  · exact h ver
theorem refBest_ok : PureOK Try.prog env 31 refBestSp := by
  refine PureOK.of_reads envOK tok10 noInl_ok fnRefBest (hv := bKeep) (fun args r h => ?_)
  unfold refBestSp at h
  split at h
  · rename_i node ver y of
    split at h
    · rename_i xs hx
      by_cases hb : xs.length ≤ 4611686018427387904
      · rw [decide_eq_true hb] at h
        simp only [sel, cond_true, Option.some.injEq] at h
        subst h
        exact ⟨_, xs.length + 1, .same (.same (.src (τ := twoT) hx (.same .nil))), refBest_run node ver of xs hb _⟩
      · rw [decide_eq_false hb] at h; cases h
    · cases h
  · cases h
end Go.Proofs.Ytopbldbgnpeelaa.V
