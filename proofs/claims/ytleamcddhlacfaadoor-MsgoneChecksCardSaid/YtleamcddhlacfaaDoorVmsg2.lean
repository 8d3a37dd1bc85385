/- The ranges of a message, what it has beside: contracts; commands. No condition. -/
import Derived.Test.YtleamcddhlacfaaDoorVmsg1
set_option maxRecDepth 100000
set_option linter.unusedVariables false
set_option linter.unusedSimpArgs false
namespace Go.Proofs.YtleamcddhlacfaaDoor.V
open Go Go.Proofs.AbsV
def bitB (f b : Int) : Bool := andI .i64 f b != 0
def zB (br bn : Int) : Bool := br == 0 && (bn == 0 && true)
def rangesB (f fr to br bn ix cm vs : Int) : Bool :=
  !(!nodeB fr || (!nodeB to || fr == to)) && (!(bitB f 1 && (!bmB br bn || zB br bn)) && (!(bitB f 2 && (decide (ix < 1) || decide (ix > 4294967296))) && (!(bitB f 4 && (decide (cm < 0) || decide (cm > 4294967296))) && (!bitB f 8 || vmB vs))))
theorem rangesB_eq {kd : Int} {es : List ET.den} {im : List Int} (f fr to br bn ix cm vs : Int) : runF env TM4 noInl ranges_hv 0 Tryd.f24 [.agg [.int .i64 kd, .int .i64 fr, .int .i64 to, .int .i64 br, .int .i64 bn, .int .i64 ix, .int .i64 cm, .int .i64 vs, .sl ET es none none, .sl B im none none], .int .i64 f] [] (fun r bx => some r) = some (.bool (rangesB f fr to br bn ix cm vs)) := by
  refine (ranges_in 0 kd fr to br bn ix cm vs es im f (fun r _ => some r)).trans ?_
  have n1 : ∀ a b : Int, (!a == b) = (a != b) := fun _ _ => rfl
  simp only [Bool.not_not, n1]
  unfold rangesB bitB zB
  generalize (andI IntKind.i64 f 1 != 0) = b1
  generalize (andI IntKind.i64 f 2 != 0) = b2
  generalize (andI IntKind.i64 f 4 != 0) = b4
  generalize (andI IntKind.i64 f 8 != 0) = b8
  generalize nodeB fr = c1
  generalize nodeB to = c2
  generalize (fr == to) = c3
  generalize bmB br bn = c4
  generalize (br == 0 && (bn == 0 && true)) = c5
  generalize decide (ix < 1) = c6
  generalize decide (ix > 4294967296) = c7
  generalize decide (cm < 0) = c8
  generalize decide (cm > 4294967296) = c9
  generalize vmB vs = c10
  cases c1
  · rfl
  cases c2
  · rfl
  cases c3
  · cases b1 <;> cases b2 <;> cases b4 <;> cases b8 <;> cases c4 <;> (try rfl) <;> cases c5 <;> (try rfl) <;> cases c6 <;> (try rfl) <;> cases c7 <;> (try rfl) <;> cases c8 <;> (try rfl) <;> cases c9 <;> rfl
  · rfl
def rangesSp : List AV → List (Bool × AV)
  | [x, .int .i64 f] => match datIn MT x with
    | some m => [(true, .bool (rangesB f m.2.1 m.2.2.1 m.2.2.2.1.1 m.2.2.2.1.2.1 m.2.2.2.2.1 m.2.2.2.2.2.1 m.2.2.2.2.2.2.1))]
    | none => []
  | _ => []
theorem ranges_ok : PureOK Tryd.prog env 24 rangesSp := by
  refine PureOK.of_reads envOK tokM4 noInl_ok fn_ranges (hv := ranges_hv) (fun args r h => ?_)
  unfold rangesSp at h
  split at h
  · rename_i x f
    split at h
    · rename_i m hm
      cases h
      exact ⟨_, 0, .dat hm (.same .nil), rangesB_eq (kd := m.1) (es := m.2.2.2.2.2.2.2.1) (im := m.2.2.2.2.2.2.2.2.1) ..⟩
    · cases h
  · cases h
def othersB (f br bn ix cm vs : Int) (le li : Nat) : Bool :=
  (!bitB f 1 && !zB br bn) || ((!bitB f 2 && ix != 0) || ((!bitB f 4 && cm != 0) || ((!bitB f 8 && vs != 0) || ((!bitB f 16 && decide ((le : Int) > 0)) || (!bitB f 32 && decide ((li : Int) > 0))))))
theorem othersB_eq {kd : Int} {es : List ET.den} {im : List Int} (f fr to br bn ix cm vs : Int) : runF env T0 noInl others_hv 0 Tryd.f26 [.agg [.int .i64 kd, .int .i64 fr, .int .i64 to, .int .i64 br, .int .i64 bn, .int .i64 ix, .int .i64 cm, .int .i64 vs, .sl ET es none none, .sl B im none none], .int .i64 f] [] (fun r bx => some r) = some (.bool (othersB f br bn ix cm vs (List.length es) (List.length (α := Int) im))) := by
  refine (others_in 0 kd fr to br bn ix cm vs es im f (fun r _ => some r)).trans ?_
  have n1 : ∀ a b : Int, (a == b) = !(a != b) := fun a b => by simp [bne]
  unfold othersB bitB zB
  simp only [n1 (andI .i64 f 1) 0, n1 (andI .i64 f 2) 0, n1 (andI .i64 f 4) 0, n1 (andI .i64 f 8) 0, n1 (andI .i64 f 16) 0, n1 (andI .i64 f 32) 0]
  generalize (andI IntKind.i64 f 1 != 0) = b1
  generalize (andI IntKind.i64 f 2 != 0) = b2
  generalize (andI IntKind.i64 f 4 != 0) = b4
  generalize (andI IntKind.i64 f 8 != 0) = b8
  generalize (andI IntKind.i64 f 16 != 0) = b16
  generalize (andI IntKind.i64 f 32 != 0) = b32
  generalize (br == 0 && (bn == 0 && true)) = c1
  generalize (ix != 0) = c2
  generalize (cm != 0) = c3
  generalize (vs != 0) = c4
  generalize decide (((List.length es : Nat) : Int) > 0) = c5
  generalize decide (((List.length (α := Int) im : Nat) : Int) > 0) = c6
  cases b1 <;> cases b2 <;> cases b4 <;> cases b8 <;> cases b16 <;> cases b32 <;> cases c1 <;> (try rfl) <;> cases c2 <;> (try rfl) <;> cases c3 <;> (try rfl) <;> cases c4 <;> (try rfl) <;> cases c5 <;> (try rfl) <;> cases c6 <;> rfl
def othersSp : List AV → List (Bool × AV)
  | [x, .int .i64 f] => match datIn MT x with
    | some m => [(true, .bool (othersB f m.2.2.2.1.1 m.2.2.2.1.2.1 m.2.2.2.2.1 m.2.2.2.2.2.1 m.2.2.2.2.2.2.1 (List.length m.2.2.2.2.2.2.2.1) (List.length (α := Int) m.2.2.2.2.2.2.2.2.1)))]
    | none => []
  | _ => []
theorem others_ok : PureOK Tryd.prog env 26 othersSp := by
  refine PureOK.of_reads envOK tok0 noInl_ok fn_others (hv := others_hv) (fun args r h => ?_)
  unfold othersSp at h
  split at h
  · rename_i x f
    split at h
    · rename_i m hm
      cases h
      exact ⟨_, 0, .dat hm (.same .nil), othersB_eq (kd := m.1) (es := m.2.2.2.2.2.2.2.1) (im := m.2.2.2.2.2.2.2.2.1) f m.2.1 m.2.2.1 ..⟩
    · cases h
  · cases h
end Go.Proofs.YtleamcddhlacfaaDoor.V
