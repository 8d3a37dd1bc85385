/- The document's check of a message is the program's. No condition. -/
import Derived.Test.YtleamcddhlacfaaDoorVmsg5
import Derived.Test.YtleamcddhlacfaaDoorVmsg4a
import Derived.Test.YtleamcddhlacfaaDoorVmsg4b
import Derived.Test.YtleamcddhlacfaaDoorVmsg4c
set_option maxRecDepth 100000
set_option linter.unusedVariables false
set_option linter.unusedSimpArgs false
namespace Go.Proofs.YtleamcddhlacfaaDoor.V
open Go Go.Proofs.AbsV
theorem bal_eq (x y : Int) : (!bmB x y || zB x y) = !balB x y := by
  unfold balB bmB zB
  by_cases h : x = 0 ∧ y = 0
  · obtain ⟨rfl, rfl⟩ := h
    decide
  · have h1 : (x == 0 && y == 0) = false := by
      rw [Bool.and_eq_false_iff, beq_eq_false_iff_ne, beq_eq_false_iff_ne]
      omega
    have h2 : (x == 0 && (y == 0 && true)) = false := by rw [Bool.and_true]; exact h1
    rw [h1, h2, Bool.false_or, Bool.or_false]
    by_cases hx : x ≥ 1
    · rw [decide_eq_true hx, decide_eq_true (show x > 0 by omega), Bool.and_true]
    · rw [decide_eq_false hx]; rfl
theorem len0 (n : Nat) : (((n : Nat) : Int) == 0) = !decide (((n : Nat) : Int) > 0) := by rw [Bool.eq_iff_iff]; simp
theorem acc_tree (es : List EntD) (x y : Int) (a b : Option AV) : (bif !(((List.length es) : Nat) : Int) != 1 then bif decide (0 < (((List.length es) : Nat) : Int)) then bif !(dI (rdD ET es 0).2.1.1 == x && (dI (rdD ET es 0).2.1.2.1 == y && true)) then a else b else none else a) = bif accB x y es then b else a := by
  match es with
  | [] => rfl
  | [e] =>
    show (bif !(dI e.2.1.1 == x && (dI e.2.1.2.1 == y && true)) then a else b) = bif (e.2.1.1 == x && (e.2.1.2.1 == y && true)) then b else a
    cases (e.2.1.1 == x && (e.2.1.2.1 == y && true)) <;> rfl
  | e :: e2 :: r =>
    have h1 : ((((e :: e2 :: r).length : Nat) : Int) != 1) = true := by rw [bne, Bool.not_eq_true', beq_eq_false_iff_ne]; simp; omega
    rw [h1]
    rfl
theorem rm1_run (fr to br bn ix cm vs : Int) (es : List EntD) (im : List Int) (g : gEs es = true) : runF env TM9a noInl rm1_hv 0 Tryd.f10 [.agg (msgC 1 fr to br bn ix cm vs es im)] [] (fun r bx => some r) = some (.int .i64 (chkMx 1 fr to br bn ix cm vs es im)) := by
  refine (rm1_in 0 fr to br bn ix cm vs es im (fun r _ => some r)).trans ?_
  have h1 : bitB (fM 1) 1 = false := by decide
  have h2 : bitB (fM 1) 2 = false := by decide
  have h4 : bitB (fM 1) 4 = false := by decide
  have h8 : bitB (fM 1) 8 = true := by decide
  have h16 : bitB (fM 1) 16 = false := by decide
  have h32 : bitB (fM 1) 32 = false := by decide
  have hz : (fM 1 == 0) = false := by decide
  have h5 : ((1 : Int) == 5) = false := by decide
  have h11 : ((1 : Int) == 11) = false := by decide
  unfold chkMx rangesB othersB
  rw [hz]
  simp only [h1, h2, h4, h8, h16, h32, h5, h11, g, bal_eq, Bool.not_true, Bool.not_false, Bool.not_not, Bool.true_or, Bool.false_or, Bool.or_true, Bool.or_false, Bool.true_and, Bool.false_and, Bool.and_true, Bool.and_false, cond_true, cond_false, bne, len0]
  try unfold nodeB
  try unfold zB
  try unfold vmB
  simp only [ge_lt, le_gt, Bool.not_not, Bool.and_true]
  generalize chkEs none es = n
  cases decide (fr < 1) <;> (try rfl) <;> cases decide (fr > 9) <;> (try rfl) <;> cases decide (to < 1) <;> (try rfl) <;> cases decide (to > 9) <;> (try rfl) <;> cases (fr == to) <;> (try rfl) <;> cases (vs == 1) <;> (try rfl) <;> cases (vs == 2) <;> (try rfl) <;> cases (br == 0) <;> (try rfl) <;> cases (bn == 0) <;> (try rfl) <;> cases (ix == 0) <;> (try rfl) <;> cases (cm == 0) <;> (try rfl) <;> cases decide (((List.length es : Nat) : Int) > 0) <;> (try rfl) <;> cases decide (((List.length im : Nat) : Int) > 0) <;> rfl
theorem rm2_run (fr to br bn ix cm vs : Int) (es : List EntD) (im : List Int) (g : gEs es = true) : runF env TM9a noInl rm2_hv 0 Tryd.f10 [.agg (msgC 2 fr to br bn ix cm vs es im)] [] (fun r bx => some r) = some (.int .i64 (chkMx 2 fr to br bn ix cm vs es im)) := by
  refine (rm2_in 0 fr to br bn ix cm vs es im (fun r _ => some r)).trans ?_
  have h1 : bitB (fM 2) 1 = false := by decide
  have h2 : bitB (fM 2) 2 = false := by decide
  have h4 : bitB (fM 2) 4 = false := by decide
  have h8 : bitB (fM 2) 8 = true := by decide
  have h16 : bitB (fM 2) 16 = false := by decide
  have h32 : bitB (fM 2) 32 = false := by decide
  have hz : (fM 2 == 0) = false := by decide
  have h5 : ((2 : Int) == 5) = false := by decide
  have h11 : ((2 : Int) == 11) = false := by decide
  unfold chkMx rangesB othersB
  rw [hz]
  simp only [h1, h2, h4, h8, h16, h32, h5, h11, g, bal_eq, Bool.not_true, Bool.not_false, Bool.not_not, Bool.true_or, Bool.false_or, Bool.or_true, Bool.or_false, Bool.true_and, Bool.false_and, Bool.and_true, Bool.and_false, cond_true, cond_false, bne, len0]
  try unfold nodeB
  try unfold zB
  try unfold vmB
  simp only [ge_lt, le_gt, Bool.not_not, Bool.and_true]
  generalize chkEs none es = n
  cases decide (fr < 1) <;> (try rfl) <;> cases decide (fr > 9) <;> (try rfl) <;> cases decide (to < 1) <;> (try rfl) <;> cases decide (to > 9) <;> (try rfl) <;> cases (fr == to) <;> (try rfl) <;> cases (vs == 1) <;> (try rfl) <;> cases (vs == 2) <;> (try rfl) <;> cases (br == 0) <;> (try rfl) <;> cases (bn == 0) <;> (try rfl) <;> cases (ix == 0) <;> (try rfl) <;> cases (cm == 0) <;> (try rfl) <;> cases decide (((List.length es : Nat) : Int) > 0) <;> (try rfl) <;> cases decide (((List.length im : Nat) : Int) > 0) <;> rfl
theorem rm3_run (fr to br bn ix cm vs : Int) (es : List EntD) (im : List Int) (g : gEs es = true) : runF env TM9a noInl rm3_hv 0 Tryd.f10 [.agg (msgC 3 fr to br bn ix cm vs es im)] [] (fun r bx => some r) = some (.int .i64 (chkMx 3 fr to br bn ix cm vs es im)) := by
  refine (rm3_in 0 fr to br bn ix cm vs es im (fun r _ => some r)).trans ?_
  have h1 : bitB (fM 3) 1 = true := by decide
  have h2 : bitB (fM 3) 2 = true := by decide
  have h4 : bitB (fM 3) 4 = false := by decide
  have h8 : bitB (fM 3) 8 = false := by decide
  have h16 : bitB (fM 3) 16 = false := by decide
  have h32 : bitB (fM 3) 32 = false := by decide
  have hz : (fM 3 == 0) = false := by decide
  have h5 : ((3 : Int) == 5) = false := by decide
  have h11 : ((3 : Int) == 11) = false := by decide
  unfold chkMx rangesB othersB
  rw [hz]
  simp only [h1, h2, h4, h8, h16, h32, h5, h11, g, bal_eq, Bool.not_true, Bool.not_false, Bool.not_not, Bool.true_or, Bool.false_or, Bool.or_true, Bool.or_false, Bool.true_and, Bool.false_and, Bool.and_true, Bool.and_false, cond_true, cond_false, bne, len0]
  try unfold nodeB
  try unfold zB
  try unfold vmB
  simp only [ge_lt, le_gt, Bool.not_not, Bool.and_true]
  generalize chkEs none es = n
  cases decide (fr < 1) <;> (try rfl) <;> cases decide (fr > 9) <;> (try rfl) <;> cases decide (to < 1) <;> (try rfl) <;> cases decide (to > 9) <;> (try rfl) <;> cases (fr == to) <;> (try rfl) <;> cases balB br bn <;> (try rfl) <;> cases decide (ix < 1) <;> (try rfl) <;> cases decide (ix > 4294967296) <;> (try rfl) <;> cases (cm == 0) <;> (try rfl) <;> cases (vs == 0) <;> (try rfl) <;> cases decide (((List.length es : Nat) : Int) > 0) <;> (try rfl) <;> cases decide (((List.length im : Nat) : Int) > 0) <;> rfl
theorem rm4_run (fr to br bn ix cm vs : Int) (es : List EntD) (im : List Int) (g : gEs es = true) : runF env TM9a noInl rm4_hv 0 Tryd.f10 [.agg (msgC 4 fr to br bn ix cm vs es im)] [] (fun r bx => some r) = some (.int .i64 (chkMx 4 fr to br bn ix cm vs es im)) := by
  refine (rm4_in 0 fr to br bn ix cm vs es im (fun r _ => some r)).trans ?_
  have h1 : bitB (fM 4) 1 = true := by decide
  have h2 : bitB (fM 4) 2 = true := by decide
  have h4 : bitB (fM 4) 4 = true := by decide
  have h8 : bitB (fM 4) 8 = false := by decide
  have h16 : bitB (fM 4) 16 = true := by decide
  have h32 : bitB (fM 4) 32 = false := by decide
  have hz : (fM 4 == 0) = false := by decide
  have h5 : ((4 : Int) == 5) = false := by decide
  have h11 : ((4 : Int) == 11) = false := by decide
  unfold chkMx rangesB othersB
  rw [hz]
  simp only [h1, h2, h4, h8, h16, h32, h5, h11, g, bal_eq, Bool.not_true, Bool.not_false, Bool.not_not, Bool.true_or, Bool.false_or, Bool.or_true, Bool.or_false, Bool.true_and, Bool.false_and, Bool.and_true, Bool.and_false, cond_true, cond_false, bne, len0]
  try unfold nodeB
  try unfold zB
  try unfold vmB
  simp only [ge_lt, le_gt, Bool.not_not, Bool.and_true]
  generalize chkEs none es = n
  cases decide (fr < 1) <;> (try rfl) <;> cases decide (fr > 9) <;> (try rfl) <;> cases decide (to < 1) <;> (try rfl) <;> cases decide (to > 9) <;> (try rfl) <;> cases (fr == to) <;> (try rfl) <;> cases balB br bn <;> (try rfl) <;> cases decide (ix < 1) <;> (try rfl) <;> cases decide (ix > 4294967296) <;> (try rfl) <;> cases decide (cm < 0) <;> (try rfl) <;> cases decide (cm > 4294967296) <;> (try rfl) <;> cases decide (((List.length es : Nat) : Int) > 256) <;> (try rfl) <;> cases (n == 0) <;> (try rfl) <;> cases (vs == 0) <;> (try rfl) <;> cases decide (((List.length im : Nat) : Int) > 0) <;> rfl
theorem rm5_run (fr to br bn ix cm vs : Int) (es : List EntD) (im : List Int) (g : gEs es = true) : runF env TM9b noInl rm5_hv 0 Tryd.f10 [.agg (msgC 5 fr to br bn ix cm vs es im)] [] (fun r bx => some r) = some (.int .i64 (chkMx 5 fr to br bn ix cm vs es im)) := by
  refine (rm5_in 0 fr to br bn ix cm vs es im (fun r _ => some r)).trans ?_
  rw [acc_tree]
  have h1 : bitB (fM 5) 1 = true := by decide
  have h2 : bitB (fM 5) 2 = false := by decide
  have h4 : bitB (fM 5) 4 = false := by decide
  have h8 : bitB (fM 5) 8 = false := by decide
  have h16 : bitB (fM 5) 16 = true := by decide
  have h32 : bitB (fM 5) 32 = false := by decide
  have hz : (fM 5 == 0) = false := by decide
  have h5 : ((5 : Int) == 5) = true := by decide
  have h11 : ((5 : Int) == 11) = false := by decide
  unfold chkMx rangesB othersB
  rw [hz]
  simp only [h1, h2, h4, h8, h16, h32, h5, h11, g, bal_eq, Bool.not_true, Bool.not_false, Bool.not_not, Bool.true_or, Bool.false_or, Bool.or_true, Bool.or_false, Bool.true_and, Bool.false_and, Bool.and_true, Bool.and_false, cond_true, cond_false, bne, len0]
  try unfold nodeB
  try unfold zB
  try unfold vmB
  simp only [ge_lt, le_gt, Bool.not_not, Bool.and_true]
  generalize chkEs none es = n
  cases decide (fr < 1) <;> (try rfl) <;> cases decide (fr > 9) <;> (try rfl) <;> cases decide (to < 1) <;> (try rfl) <;> cases decide (to > 9) <;> (try rfl) <;> cases (fr == to) <;> (try rfl) <;> cases balB br bn <;> (try rfl) <;> cases decide (((List.length es : Nat) : Int) > 256) <;> (try rfl) <;> cases (n == 0) <;> (try rfl) <;> cases (ix == 0) <;> (try rfl) <;> cases (cm == 0) <;> (try rfl) <;> cases (vs == 0) <;> (try rfl) <;> cases decide (((List.length im : Nat) : Int) > 0) <;> (try rfl) <;> cases accB br bn es <;> rfl
theorem rm6_run (fr to br bn ix cm vs : Int) (es : List EntD) (im : List Int) (g : gEs es = true) : runF env TM9b noInl rm6_hv 0 Tryd.f10 [.agg (msgC 6 fr to br bn ix cm vs es im)] [] (fun r bx => some r) = some (.int .i64 (chkMx 6 fr to br bn ix cm vs es im)) := by
  refine (rm6_in 0 fr to br bn ix cm vs es im (fun r _ => some r)).trans ?_
  have h1 : bitB (fM 6) 1 = true := by decide
  have h2 : bitB (fM 6) 2 = true := by decide
  have h4 : bitB (fM 6) 4 = false := by decide
  have h8 : bitB (fM 6) 8 = false := by decide
  have h16 : bitB (fM 6) 16 = false := by decide
  have h32 : bitB (fM 6) 32 = false := by decide
  have hz : (fM 6 == 0) = false := by decide
  have h5 : ((6 : Int) == 5) = false := by decide
  have h11 : ((6 : Int) == 11) = false := by decide
  unfold chkMx rangesB othersB
  rw [hz]
  simp only [h1, h2, h4, h8, h16, h32, h5, h11, g, bal_eq, Bool.not_true, Bool.not_false, Bool.not_not, Bool.true_or, Bool.false_or, Bool.or_true, Bool.or_false, Bool.true_and, Bool.false_and, Bool.and_true, Bool.and_false, cond_true, cond_false, bne, len0]
  try unfold nodeB
  try unfold zB
  try unfold vmB
  simp only [ge_lt, le_gt, Bool.not_not, Bool.and_true]
  generalize chkEs none es = n
  cases decide (fr < 1) <;> (try rfl) <;> cases decide (fr > 9) <;> (try rfl) <;> cases decide (to < 1) <;> (try rfl) <;> cases decide (to > 9) <;> (try rfl) <;> cases (fr == to) <;> (try rfl) <;> cases balB br bn <;> (try rfl) <;> cases decide (ix < 1) <;> (try rfl) <;> cases decide (ix > 4294967296) <;> (try rfl) <;> cases (cm == 0) <;> (try rfl) <;> cases (vs == 0) <;> (try rfl) <;> cases decide (((List.length es : Nat) : Int) > 0) <;> (try rfl) <;> cases decide (((List.length im : Nat) : Int) > 0) <;> rfl
theorem rm7_run (fr to br bn ix cm vs : Int) (es : List EntD) (im : List Int) (g : gEs es = true) : runF env TM9b noInl rm7_hv 0 Tryd.f10 [.agg (msgC 7 fr to br bn ix cm vs es im)] [] (fun r bx => some r) = some (.int .i64 (chkMx 7 fr to br bn ix cm vs es im)) := by
  refine (rm7_in 0 fr to br bn ix cm vs es im (fun r _ => some r)).trans ?_
  have h1 : bitB (fM 7) 1 = true := by decide
  have h2 : bitB (fM 7) 2 = false := by decide
  have h4 : bitB (fM 7) 4 = false := by decide
  have h8 : bitB (fM 7) 8 = false := by decide
  have h16 : bitB (fM 7) 16 = false := by decide
  have h32 : bitB (fM 7) 32 = false := by decide
  have hz : (fM 7 == 0) = false := by decide
  have h5 : ((7 : Int) == 5) = false := by decide
  have h11 : ((7 : Int) == 11) = false := by decide
  unfold chkMx rangesB othersB
  rw [hz]
  simp only [h1, h2, h4, h8, h16, h32, h5, h11, g, bal_eq, Bool.not_true, Bool.not_false, Bool.not_not, Bool.true_or, Bool.false_or, Bool.or_true, Bool.or_false, Bool.true_and, Bool.false_and, Bool.and_true, Bool.and_false, cond_true, cond_false, bne, len0]
  try unfold nodeB
  try unfold zB
  try unfold vmB
  simp only [ge_lt, le_gt, Bool.not_not, Bool.and_true]
  generalize chkEs none es = n
  cases decide (fr < 1) <;> (try rfl) <;> cases decide (fr > 9) <;> (try rfl) <;> cases decide (to < 1) <;> (try rfl) <;> cases decide (to > 9) <;> (try rfl) <;> cases (fr == to) <;> (try rfl) <;> cases balB br bn <;> (try rfl) <;> cases (ix == 0) <;> (try rfl) <;> cases (cm == 0) <;> (try rfl) <;> cases (vs == 0) <;> (try rfl) <;> cases decide (((List.length es : Nat) : Int) > 0) <;> (try rfl) <;> cases decide (((List.length im : Nat) : Int) > 0) <;> rfl
theorem rm8_run (fr to br bn ix cm vs : Int) (es : List EntD) (im : List Int) (g : gEs es = true) : runF env TM9b noInl rm8_hv 0 Tryd.f10 [.agg (msgC 8 fr to br bn ix cm vs es im)] [] (fun r bx => some r) = some (.int .i64 (chkMx 8 fr to br bn ix cm vs es im)) := by
  refine (rm8_in 0 fr to br bn ix cm vs es im (fun r _ => some r)).trans ?_
  have h1 : bitB (fM 8) 1 = true := by decide
  have h2 : bitB (fM 8) 2 = false := by decide
  have h4 : bitB (fM 8) 4 = true := by decide
  have h8 : bitB (fM 8) 8 = false := by decide
  have h16 : bitB (fM 8) 16 = false := by decide
  have h32 : bitB (fM 8) 32 = false := by decide
  have hz : (fM 8 == 0) = false := by decide
  have h5 : ((8 : Int) == 5) = false := by decide
  have h11 : ((8 : Int) == 11) = false := by decide
  unfold chkMx rangesB othersB
  rw [hz]
  simp only [h1, h2, h4, h8, h16, h32, h5, h11, g, bal_eq, Bool.not_true, Bool.not_false, Bool.not_not, Bool.true_or, Bool.false_or, Bool.or_true, Bool.or_false, Bool.true_and, Bool.false_and, Bool.and_true, Bool.and_false, cond_true, cond_false, bne, len0]
  try unfold nodeB
  try unfold zB
  try unfold vmB
  simp only [ge_lt, le_gt, Bool.not_not, Bool.and_true]
  generalize chkEs none es = n
  cases decide (fr < 1) <;> (try rfl) <;> cases decide (fr > 9) <;> (try rfl) <;> cases decide (to < 1) <;> (try rfl) <;> cases decide (to > 9) <;> (try rfl) <;> cases (fr == to) <;> (try rfl) <;> cases balB br bn <;> (try rfl) <;> cases decide (cm < 0) <;> (try rfl) <;> cases decide (cm > 4294967296) <;> (try rfl) <;> cases (ix == 0) <;> (try rfl) <;> cases (vs == 0) <;> (try rfl) <;> cases decide (((List.length es : Nat) : Int) > 0) <;> (try rfl) <;> cases decide (((List.length im : Nat) : Int) > 0) <;> rfl
theorem rm9_run (fr to br bn ix cm vs : Int) (es : List EntD) (im : List Int) (g : gEs es = true) : runF env TM9c noInl rm9_hv 0 Tryd.f10 [.agg (msgC 9 fr to br bn ix cm vs es im)] [] (fun r bx => some r) = some (.int .i64 (chkMx 9 fr to br bn ix cm vs es im)) := by
  refine (rm9_in 0 fr to br bn ix cm vs es im (fun r _ => some r)).trans ?_
  have h1 : bitB (fM 9) 1 = false := by decide
  have h2 : bitB (fM 9) 2 = true := by decide
  have h4 : bitB (fM 9) 4 = false := by decide
  have h8 : bitB (fM 9) 8 = false := by decide
  have h16 : bitB (fM 9) 16 = false := by decide
  have h32 : bitB (fM 9) 32 = false := by decide
  have hz : (fM 9 == 0) = false := by decide
  have h5 : ((9 : Int) == 5) = false := by decide
  have h11 : ((9 : Int) == 11) = false := by decide
  unfold chkMx rangesB othersB
  rw [hz]
  simp only [h1, h2, h4, h8, h16, h32, h5, h11, g, bal_eq, Bool.not_true, Bool.not_false, Bool.not_not, Bool.true_or, Bool.false_or, Bool.or_true, Bool.or_false, Bool.true_and, Bool.false_and, Bool.and_true, Bool.and_false, cond_true, cond_false, bne, len0]
  try unfold nodeB
  try unfold zB
  try unfold vmB
  simp only [ge_lt, le_gt, Bool.not_not, Bool.and_true]
  generalize chkEs none es = n
  cases decide (fr < 1) <;> (try rfl) <;> cases decide (fr > 9) <;> (try rfl) <;> cases decide (to < 1) <;> (try rfl) <;> cases decide (to > 9) <;> (try rfl) <;> cases (fr == to) <;> (try rfl) <;> cases decide (ix < 1) <;> (try rfl) <;> cases decide (ix > 4294967296) <;> (try rfl) <;> cases (br == 0) <;> (try rfl) <;> cases (bn == 0) <;> (try rfl) <;> cases (cm == 0) <;> (try rfl) <;> cases (vs == 0) <;> (try rfl) <;> cases decide (((List.length es : Nat) : Int) > 0) <;> (try rfl) <;> cases decide (((List.length im : Nat) : Int) > 0) <;> rfl
theorem rm10_run (fr to br bn ix cm vs : Int) (es : List EntD) (im : List Int) (g : gEs es = true) : runF env TM9c noInl rm10_hv 0 Tryd.f10 [.agg (msgC 10 fr to br bn ix cm vs es im)] [] (fun r bx => some r) = some (.int .i64 (chkMx 10 fr to br bn ix cm vs es im)) := by
  refine (rm10_in 0 fr to br bn ix cm vs es im (fun r _ => some r)).trans ?_
  have h1 : bitB (fM 10) 1 = false := by decide
  have h2 : bitB (fM 10) 2 = false := by decide
  have h4 : bitB (fM 10) 4 = true := by decide
  have h8 : bitB (fM 10) 8 = false := by decide
  have h16 : bitB (fM 10) 16 = true := by decide
  have h32 : bitB (fM 10) 32 = false := by decide
  have hz : (fM 10 == 0) = false := by decide
  have h5 : ((10 : Int) == 5) = false := by decide
  have h11 : ((10 : Int) == 11) = false := by decide
  unfold chkMx rangesB othersB
  rw [hz]
  simp only [h1, h2, h4, h8, h16, h32, h5, h11, g, bal_eq, Bool.not_true, Bool.not_false, Bool.not_not, Bool.true_or, Bool.false_or, Bool.or_true, Bool.or_false, Bool.true_and, Bool.false_and, Bool.and_true, Bool.and_false, cond_true, cond_false, bne, len0]
  try unfold nodeB
  try unfold zB
  try unfold vmB
  simp only [ge_lt, le_gt, Bool.not_not, Bool.and_true]
  generalize chkEs none es = n
  cases decide (fr < 1) <;> (try rfl) <;> cases decide (fr > 9) <;> (try rfl) <;> cases decide (to < 1) <;> (try rfl) <;> cases decide (to > 9) <;> (try rfl) <;> cases (fr == to) <;> (try rfl) <;> cases decide (cm < 0) <;> (try rfl) <;> cases decide (cm > 4294967296) <;> (try rfl) <;> cases decide (((List.length es : Nat) : Int) > 256) <;> (try rfl) <;> cases (n == 0) <;> (try rfl) <;> cases (br == 0) <;> (try rfl) <;> cases (bn == 0) <;> (try rfl) <;> cases (ix == 0) <;> (try rfl) <;> cases (vs == 0) <;> (try rfl) <;> cases decide (((List.length im : Nat) : Int) > 0) <;> rfl
theorem rm11_run (fr to br bn ix cm vs : Int) (es : List EntD) (im : List Int) (g : gEs es = true) : runF env TM9c noInl rm11_hv 0 Tryd.f10 [.agg (msgC 11 fr to br bn ix cm vs es im)] [] (fun r bx => some r) = some (.int .i64 (chkMx 11 fr to br bn ix cm vs es im)) := by
  refine (rm11_in 0 fr to br bn ix cm vs es im (fun r _ => some r)).trans ?_
  have h1 : bitB (fM 11) 1 = false := by decide
  have h2 : bitB (fM 11) 2 = false := by decide
  have h4 : bitB (fM 11) 4 = false := by decide
  have h8 : bitB (fM 11) 8 = false := by decide
  have h16 : bitB (fM 11) 16 = false := by decide
  have h32 : bitB (fM 11) 32 = true := by decide
  have hz : (fM 11 == 0) = false := by decide
  have h5 : ((11 : Int) == 5) = false := by decide
  have h11 : ((11 : Int) == 11) = true := by decide
  unfold chkMx rangesB othersB
  rw [hz]
  simp only [h1, h2, h4, h8, h16, h32, h5, h11, g, bal_eq, Bool.not_true, Bool.not_false, Bool.not_not, Bool.true_or, Bool.false_or, Bool.or_true, Bool.or_false, Bool.true_and, Bool.false_and, Bool.and_true, Bool.and_false, cond_true, cond_false, bne, len0]
  try unfold nodeB
  try unfold zB
  try unfold vmB
  simp only [ge_lt, le_gt, Bool.not_not, Bool.and_true]
  generalize chkEs none es = n
  cases decide (fr < 1) <;> (try rfl) <;> cases decide (fr > 9) <;> (try rfl) <;> cases decide (to < 1) <;> (try rfl) <;> cases decide (to > 9) <;> (try rfl) <;> cases (fr == to) <;> (try rfl) <;> cases decide (((List.length im : Nat) : Int) > 32768) <;> (try rfl) <;> cases (br == 0) <;> (try rfl) <;> cases (bn == 0) <;> (try rfl) <;> cases (ix == 0) <;> (try rfl) <;> cases (cm == 0) <;> (try rfl) <;> cases (vs == 0) <;> (try rfl) <;> cases decide (((List.length es : Nat) : Int) > 0) <;> (try rfl) <;> cases decide (((List.length im : Nat) : Int) > 0) <;> rfl
theorem rmX_run (kd fr to br bn ix cm vs : Int) (es : List EntD) (im : List Int) (h : isK kd = false) : runF env TM3 noInl rmX_hv 0 Tryd.f10 [.agg (msgC kd fr to br bn ix cm vs es im)] [] (fun r bx => some r) = some (.int .i64 (chkMx kd fr to br bn ix cm vs es im)) := by
  refine (rmX_in 0 kd fr to br bn ix cm vs es im (fun r _ => some r)).trans ?_
  have hl : letS kd = ⟨#[]⟩ := by unfold letS; rw [h]; rfl
  have hf : (fM kd == 0) = true := by
    unfold isK at h
    simp only [Bool.and_eq_false_iff, decide_eq_false_iff_not] at h
    have hb : ∀ n : Int, 1 ≤ n → n ≤ 11 → (kd == n) = false := fun n h1 h2 => by rw [beq_eq_false_iff_ne]; omega
    unfold fM
    rw [hb 1 (by omega) (by omega), hb 2 (by omega) (by omega), hb 3 (by omega) (by omega), hb 4 (by omega) (by omega), hb 5 (by omega) (by omega), hb 6 (by omega) (by omega), hb 7 (by omega) (by omega), hb 8 (by omega) (by omega), hb 9 (by omega) (by omega), hb 10 (by omega) (by omega), hb 11 (by omega) (by omega)]
    rfl
  unfold chkMx
  rw [hf, hl, toList_nil]
  rfl
theorem isK_kind {kd : Int} (h : isK kd = true) : kd = 1 ∨ kd = 2 ∨ kd = 3 ∨ kd = 4 ∨ kd = 5 ∨ kd = 6 ∨ kd = 7 ∨ kd = 8 ∨ kd = 9 ∨ kd = 10 ∨ kd = 11 := by
  unfold isK at h
  simp only [Bool.and_eq_true, decide_eq_true_eq] at h
  omega
theorem letS_size (x : Int) : (letS x).size ≤ 100 := by
  cases h : isK x with
  | false => unfold letS; rw [h]; exact Nat.zero_le _
  | true => rcases isK_kind h with rfl | rfl | rfl | rfl | rfl | rfl | rfl | rfl | rfl | rfl | rfl <;> decide
theorem hasL_loop {α : Type} (F : Nat) (x c : Int) (k : AV → List Box2 → Option α) : ∀ (n i : Nat), i + n = (letS x).size →
    rhas_L0 F (n + 1) x c (i : Int) k = k (.bool (((letS x).data.toList.drop i).any fun b => (b.toNat : Int) == c)) []
  | 0, i, h => by
    have hl : (letS x).data.toList.length = (letS x).size := by simp
    rw [rhas_step0, cond_neg (by omega), List.drop_eq_nil_of_le (by omega)]
    rfl
  | n + 1, i, h => by
    have hl : (letS x).data.toList.length = (letS x).size := by simp
    have hi : i < (letS x).size := by omega
    have hb : (letS x).size ≤ 100 := letS_size x
    rw [rhas_step0, cond_pos (by omega), inr hi, cond_true, Int.toNat_natCast, stp (by omega), hasL_loop F x c k n (i + 1) (by omega), List.drop_eq_getElem_cons (show i < (letS x).data.toList.length by omega), List.any_cons]
    have hbt : btA (letS x) i = ((letS x).data.toList[i]'(by omega)).toNat := by
      rw [btA_at hi]
      unfold bt8
      rw [Go.Proofs.Utf8W.get!_of_lt _ _ hi]
      simp
      rfl
    rw [hbt]
    cases ((((letS x).data.toList[i]'(by omega)).toNat : Int) == c) <;> rfl
theorem rhas_ok : PureOK Tryd.prog env 29 hasLSp := by
  refine PureOK.of_reads envOK tokM3 noInl_ok fn_rhas (hv := rhas_hv) (fun args r h => ?_)
  unfold hasLSp at h
  split at h
  · rename_i x c
    cases h
    exact ⟨_, (letS x).size + 1, fun _ _ h => h, (rhas_in _ x c (fun r _ => some r)).trans (hasL_loop _ x c _ (letS x).size 0 (by omega))⟩
  · cases h
theorem tokM9a : TOK Tryd.prog env TM9a := tok_tab mixed ⟨letters_ok, rhas_ok, rballot_ok, rechk_ok, trivial⟩
theorem tokM9b : TOK Tryd.prog env TM9b := tok_tab mixed ⟨letters_ok, rhas_ok, rballot_ok, rechk_ok, trivial⟩
theorem tokM9c : TOK Tryd.prog env TM9c := tok_tab mixed ⟨letters_ok, rhas_ok, rballot_ok, rechk_ok, trivial⟩
theorem rmchk_ok : PureOK Tryd.prog env 10 chkMSp := by
  refine pure_any envOK fn_rmX (fun args r h => ?_)
  unfold chkMSp at h
  split at h
  · rename_i x
    split at h
    · rename_i m hm
      obtain ⟨g, e⟩ := sel_one h
      subst e
      obtain ⟨kd, fr, to, ⟨br, bn, u1⟩, ix, cm, vs, es, im, u2⟩ := m
      have g : gEs es = true := g
      cases hi : isK kd with
      | false => exact ⟨TM3, tokM3, noInl, noInl_ok, rmX_hv, _, 0, .dat (τ := MT) hm .nil, rmX_run kd fr to br bn ix cm vs es im hi⟩
      | true =>
        rcases isK_kind hi with rfl | rfl | rfl | rfl | rfl | rfl | rfl | rfl | rfl | rfl | rfl
        · exact ⟨TM9a, tokM9a, noInl, noInl_ok, rm1_hv, _, 0, .dat (τ := MT) hm .nil, rm1_run fr to br bn ix cm vs es im g⟩
        · exact ⟨TM9a, tokM9a, noInl, noInl_ok, rm2_hv, _, 0, .dat (τ := MT) hm .nil, rm2_run fr to br bn ix cm vs es im g⟩
        · exact ⟨TM9a, tokM9a, noInl, noInl_ok, rm3_hv, _, 0, .dat (τ := MT) hm .nil, rm3_run fr to br bn ix cm vs es im g⟩
        · exact ⟨TM9a, tokM9a, noInl, noInl_ok, rm4_hv, _, 0, .dat (τ := MT) hm .nil, rm4_run fr to br bn ix cm vs es im g⟩
        · exact ⟨TM9b, tokM9b, noInl, noInl_ok, rm5_hv, _, 0, .dat (τ := MT) hm .nil, rm5_run fr to br bn ix cm vs es im g⟩
        · exact ⟨TM9b, tokM9b, noInl, noInl_ok, rm6_hv, _, 0, .dat (τ := MT) hm .nil, rm6_run fr to br bn ix cm vs es im g⟩
        · exact ⟨TM9b, tokM9b, noInl, noInl_ok, rm7_hv, _, 0, .dat (τ := MT) hm .nil, rm7_run fr to br bn ix cm vs es im g⟩
        · exact ⟨TM9b, tokM9b, noInl, noInl_ok, rm8_hv, _, 0, .dat (τ := MT) hm .nil, rm8_run fr to br bn ix cm vs es im g⟩
        · exact ⟨TM9c, tokM9c, noInl, noInl_ok, rm9_hv, _, 0, .dat (τ := MT) hm .nil, rm9_run fr to br bn ix cm vs es im g⟩
        · exact ⟨TM9c, tokM9c, noInl, noInl_ok, rm10_hv, _, 0, .dat (τ := MT) hm .nil, rm10_run fr to br bn ix cm vs es im g⟩
        · exact ⟨TM9c, tokM9c, noInl, noInl_ok, rm11_hv, _, 0, .dat (τ := MT) hm .nil, rm11_run fr to br bn ix cm vs es im g⟩
    · cases h
  · cases h
end Go.Proofs.YtleamcddhlacfaaDoor.V
