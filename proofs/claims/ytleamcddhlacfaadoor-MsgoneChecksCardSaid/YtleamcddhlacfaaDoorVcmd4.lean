/- The document's check of a command is the program's. No condition. -/
import Derived.Test.YtleamcddhlacfaaDoorVcmd3
set_option maxRecDepth 100000
set_option linter.unusedVariables false
set_option linter.unusedSimpArgs false
namespace Go.Proofs.YtleamcddhlacfaaDoor.V
open Go Go.Proofs.AbsV
/-- A function of data, out of its runs, each with a table of its own. -/
theorem pure_any {P : Program} {E : Env} (hE : EnvOK P E) {f : FuncId} {fn : Func} (hfn : FnOK P f fn) {sp : List AV → List (Bool × AV)}
    (h : ∀ args r, sel (sp args) = some r → ∃ (T : FuncId → Option CSpec) (_ : TOK P E T) (inl : Inl AV) (_ : InlOK P E inl) (hv : Keeps) (args' : List AV) (fuel : Nat), Reads args args' ∧ runF E T inl hv fuel fn args' [] (fun r bx => some r) = some r) : PureOK P E f sp := by
  refine ⟨⟨fn, hfn⟩, fun args r hr hp C w cargs hstab hgl hargs => ?_⟩
  obtain ⟨T, hT, inl, hI, hv, args', fuel, hrd, hrun⟩ := h args r hr
  have hg : AbsV.Good (ctx0 C) w [] := ⟨hstab, (fun i B hi => by simp at hi), (fun i j k hi => by simp at hi), (fun j T s v ht => by cases ht), (fun j T s a n cap i ht => by cases ht), (fun j T s a n cap j' T' s' a' n' cap' ht => by cases ht)⟩
  refine (runF_ok hE hT hI hfn hrun (ctx0 C) w cargs hg hgl (hrd C _ hargs)).mono fun e w' hh => ?_
  obtain ⟨v, r', bx', c', rfl, g1, g2, g3, g4, g5⟩ := hh
  cases g1
  exact ⟨v, c', rfl, g3, by simpa using g2.take 0, g4⟩
theorem ge_lt (x y : Int) : decide (x ≥ y) = !decide (x < y) := by rw [Bool.eq_iff_iff]; simp
theorem le_gt (x y : Int) : decide (x ≤ y) = !decide (x > y) := by rw [Bool.eq_iff_iff]; simp
theorem rc1_run (cl sq : Int) (ke va ol : ByteArray) (nd : Int) (hg : gC ke va ol = true) : runF env TR1 noInl rc1_hv 0 Tryd.f58 [.agg (cmdC 1 cl sq ke va ol nd)] [] (fun r bx => some r) = some (.int .i64 (chkC 1 cl sq ke va ol nd)) := by
  unfold gC at hg
  simp only [Bool.and_eq_true] at hg
  obtain ⟨g1, g2, g3⟩ := hg
  refine (rc1_in 0 cl sq ke va ol nd (fun r _ => some r)).trans ?_
  have h1 : bitB (fC 1) 1 = false := by decide
  have h2 : bitB (fC 1) 2 = false := by decide
  have h4 : bitB (fC 1) 4 = false := by decide
  have h8 : bitB (fC 1) 8 = false := by decide
  have h16 : bitB (fC 1) 16 = false := by decide
  have hi : isC 1 = true := by decide
  unfold chkC rC tC oC numA numF texA texF
  rw [hi]
  simp only [h1, h2, h4, h8, h16, g1, g2, g3, Bool.not_true, Bool.not_false, Bool.not_not, Bool.true_or, Bool.false_or, Bool.or_true, Bool.true_and, Bool.and_true, cond_true, cond_false, ge_lt, le_gt, bne]
  show _ = _
  try unfold emptyB
  generalize (ByteArray.toList ke == ByteArray.toList { data := { toList := [] } }) = ek
  generalize (ByteArray.toList va == ByteArray.toList { data := { toList := [] } }) = ev
  generalize (ByteArray.toList ol == ByteArray.toList { data := { toList := [] } }) = eo
  cases (cl == 0) <;> (try rfl) <;> cases (sq == 0) <;> (try rfl) <;> cases ek <;> (try rfl) <;> cases ev <;> (try rfl) <;> cases eo <;> (try rfl) <;> cases (nd == 0) <;> rfl
theorem rc2_run (cl sq : Int) (ke va ol : ByteArray) (nd : Int) (hg : gC ke va ol = true) : runF env TR1 noInl rc2_hv 0 Tryd.f58 [.agg (cmdC 2 cl sq ke va ol nd)] [] (fun r bx => some r) = some (.int .i64 (chkC 2 cl sq ke va ol nd)) := by
  unfold gC at hg
  simp only [Bool.and_eq_true] at hg
  obtain ⟨g1, g2, g3⟩ := hg
  refine (rc2_in 0 cl sq ke va ol nd (fun r _ => some r)).trans ?_
  have h1 : bitB (fC 2) 1 = true := by decide
  have h2 : bitB (fC 2) 2 = true := by decide
  have h4 : bitB (fC 2) 4 = false := by decide
  have h8 : bitB (fC 2) 8 = true := by decide
  have h16 : bitB (fC 2) 16 = false := by decide
  have hi : isC 2 = true := by decide
  unfold chkC rC tC oC numA numF texA texF
  rw [hi]
  simp only [h1, h2, h4, h8, h16, g1, g2, g3, Bool.not_true, Bool.not_false, Bool.not_not, Bool.true_or, Bool.false_or, Bool.or_true, Bool.true_and, Bool.and_true, cond_true, cond_false, ge_lt, le_gt, bne]
  show _ = _
  try unfold emptyB
  generalize (ByteArray.toList ke == ByteArray.toList { data := { toList := [] } }) = ek
  generalize (ByteArray.toList va == ByteArray.toList { data := { toList := [] } }) = ev
  generalize (ByteArray.toList ol == ByteArray.toList { data := { toList := [] } }) = eo
  cases decide (cl < 1) <;> (try rfl) <;> cases decide (cl > 8) <;> (try rfl) <;> cases decide (sq < 1) <;> (try rfl) <;> cases decide (sq > 4294967296) <;> (try rfl) <;> cases keyB ke <;> (try rfl) <;> cases valB va <;> (try rfl) <;> cases eo <;> (try rfl) <;> cases (nd == 0) <;> rfl
theorem rc3_run (cl sq : Int) (ke va ol : ByteArray) (nd : Int) (hg : gC ke va ol = true) : runF env TR1 noInl rc3_hv 0 Tryd.f58 [.agg (cmdC 3 cl sq ke va ol nd)] [] (fun r bx => some r) = some (.int .i64 (chkC 3 cl sq ke va ol nd)) := by
  unfold gC at hg
  simp only [Bool.and_eq_true] at hg
  obtain ⟨g1, g2, g3⟩ := hg
  refine (rc3_in 0 cl sq ke va ol nd (fun r _ => some r)).trans ?_
  have h1 : bitB (fC 3) 1 = true := by decide
  have h2 : bitB (fC 3) 2 = true := by decide
  have h4 : bitB (fC 3) 4 = false := by decide
  have h8 : bitB (fC 3) 8 = false := by decide
  have h16 : bitB (fC 3) 16 = false := by decide
  have hi : isC 3 = true := by decide
  unfold chkC rC tC oC numA numF texA texF
  rw [hi]
  simp only [h1, h2, h4, h8, h16, g1, g2, g3, Bool.not_true, Bool.not_false, Bool.not_not, Bool.true_or, Bool.false_or, Bool.or_true, Bool.true_and, Bool.and_true, cond_true, cond_false, ge_lt, le_gt, bne]
  show _ = _
  try unfold emptyB
  generalize (ByteArray.toList ke == ByteArray.toList { data := { toList := [] } }) = ek
  generalize (ByteArray.toList va == ByteArray.toList { data := { toList := [] } }) = ev
  generalize (ByteArray.toList ol == ByteArray.toList { data := { toList := [] } }) = eo
  cases decide (cl < 1) <;> (try rfl) <;> cases decide (cl > 8) <;> (try rfl) <;> cases decide (sq < 1) <;> (try rfl) <;> cases decide (sq > 4294967296) <;> (try rfl) <;> cases keyB ke <;> (try rfl) <;> cases ev <;> (try rfl) <;> cases eo <;> (try rfl) <;> cases (nd == 0) <;> rfl
theorem rc4_run (cl sq : Int) (ke va ol : ByteArray) (nd : Int) (hg : gC ke va ol = true) : runF env TR1 noInl rc4_hv 0 Tryd.f58 [.agg (cmdC 4 cl sq ke va ol nd)] [] (fun r bx => some r) = some (.int .i64 (chkC 4 cl sq ke va ol nd)) := by
  unfold gC at hg
  simp only [Bool.and_eq_true] at hg
  obtain ⟨g1, g2, g3⟩ := hg
  refine (rc4_in 0 cl sq ke va ol nd (fun r _ => some r)).trans ?_
  have h1 : bitB (fC 4) 1 = true := by decide
  have h2 : bitB (fC 4) 2 = true := by decide
  have h4 : bitB (fC 4) 4 = false := by decide
  have h8 : bitB (fC 4) 8 = false := by decide
  have h16 : bitB (fC 4) 16 = false := by decide
  have hi : isC 4 = true := by decide
  unfold chkC rC tC oC numA numF texA texF
  rw [hi]
  simp only [h1, h2, h4, h8, h16, g1, g2, g3, Bool.not_true, Bool.not_false, Bool.not_not, Bool.true_or, Bool.false_or, Bool.or_true, Bool.true_and, Bool.and_true, cond_true, cond_false, ge_lt, le_gt, bne]
  show _ = _
  try unfold emptyB
  generalize (ByteArray.toList ke == ByteArray.toList { data := { toList := [] } }) = ek
  generalize (ByteArray.toList va == ByteArray.toList { data := { toList := [] } }) = ev
  generalize (ByteArray.toList ol == ByteArray.toList { data := { toList := [] } }) = eo
  cases decide (cl < 1) <;> (try rfl) <;> cases decide (cl > 8) <;> (try rfl) <;> cases decide (sq < 1) <;> (try rfl) <;> cases decide (sq > 4294967296) <;> (try rfl) <;> cases keyB ke <;> (try rfl) <;> cases ev <;> (try rfl) <;> cases eo <;> (try rfl) <;> cases (nd == 0) <;> rfl
theorem rc5_run (cl sq : Int) (ke va ol : ByteArray) (nd : Int) (hg : gC ke va ol = true) : runF env TR1 noInl rc5_hv 0 Tryd.f58 [.agg (cmdC 5 cl sq ke va ol nd)] [] (fun r bx => some r) = some (.int .i64 (chkC 5 cl sq ke va ol nd)) := by
  unfold gC at hg
  simp only [Bool.and_eq_true] at hg
  obtain ⟨g1, g2, g3⟩ := hg
  refine (rc5_in 0 cl sq ke va ol nd (fun r _ => some r)).trans ?_
  have h1 : bitB (fC 5) 1 = true := by decide
  have h2 : bitB (fC 5) 2 = true := by decide
  have h4 : bitB (fC 5) 4 = true := by decide
  have h8 : bitB (fC 5) 8 = true := by decide
  have h16 : bitB (fC 5) 16 = false := by decide
  have hi : isC 5 = true := by decide
  unfold chkC rC tC oC numA numF texA texF
  rw [hi]
  simp only [h1, h2, h4, h8, h16, g1, g2, g3, Bool.not_true, Bool.not_false, Bool.not_not, Bool.true_or, Bool.false_or, Bool.or_true, Bool.true_and, Bool.and_true, cond_true, cond_false, ge_lt, le_gt, bne]
  show _ = _
  try unfold emptyB
  generalize (ByteArray.toList ke == ByteArray.toList { data := { toList := [] } }) = ek
  generalize (ByteArray.toList va == ByteArray.toList { data := { toList := [] } }) = ev
  generalize (ByteArray.toList ol == ByteArray.toList { data := { toList := [] } }) = eo
  cases decide (cl < 1) <;> (try rfl) <;> cases decide (cl > 8) <;> (try rfl) <;> cases decide (sq < 1) <;> (try rfl) <;> cases decide (sq > 4294967296) <;> (try rfl) <;> cases keyB ke <;> (try rfl) <;> cases valB va <;> (try rfl) <;> cases valB ol <;> (try rfl) <;> cases (nd == 0) <;> rfl
theorem rc6_run (cl sq : Int) (ke va ol : ByteArray) (nd : Int) (hg : gC ke va ol = true) : runF env TR1 noInl rc6_hv 0 Tryd.f58 [.agg (cmdC 6 cl sq ke va ol nd)] [] (fun r bx => some r) = some (.int .i64 (chkC 6 cl sq ke va ol nd)) := by
  unfold gC at hg
  simp only [Bool.and_eq_true] at hg
  obtain ⟨g1, g2, g3⟩ := hg
  refine (rc6_in 0 cl sq ke va ol nd (fun r _ => some r)).trans ?_
  have h1 : bitB (fC 6) 1 = false := by decide
  have h2 : bitB (fC 6) 2 = false := by decide
  have h4 : bitB (fC 6) 4 = false := by decide
  have h8 : bitB (fC 6) 8 = false := by decide
  have h16 : bitB (fC 6) 16 = false := by decide
  have hi : isC 6 = true := by decide
  unfold chkC rC tC oC numA numF texA texF
  rw [hi]
  simp only [h1, h2, h4, h8, h16, g1, g2, g3, Bool.not_true, Bool.not_false, Bool.not_not, Bool.true_or, Bool.false_or, Bool.or_true, Bool.true_and, Bool.and_true, cond_true, cond_false, ge_lt, le_gt, bne]
  show _ = _
  try unfold emptyB
  generalize (ByteArray.toList ke == ByteArray.toList { data := { toList := [] } }) = ek
  generalize (ByteArray.toList va == ByteArray.toList { data := { toList := [] } }) = ev
  generalize (ByteArray.toList ol == ByteArray.toList { data := { toList := [] } }) = eo
  cases (cl == 0) <;> (try rfl) <;> cases (sq == 0) <;> (try rfl) <;> cases ek <;> (try rfl) <;> cases ev <;> (try rfl) <;> cases eo <;> (try rfl) <;> cases (nd == 0) <;> rfl
theorem rc7_run (cl sq : Int) (ke va ol : ByteArray) (nd : Int) (hg : gC ke va ol = true) : runF env TR1 noInl rc7_hv 0 Tryd.f58 [.agg (cmdC 7 cl sq ke va ol nd)] [] (fun r bx => some r) = some (.int .i64 (chkC 7 cl sq ke va ol nd)) := by
  unfold gC at hg
  simp only [Bool.and_eq_true] at hg
  obtain ⟨g1, g2, g3⟩ := hg
  refine (rc7_in 0 cl sq ke va ol nd (fun r _ => some r)).trans ?_
  have h1 : bitB (fC 7) 1 = false := by decide
  have h2 : bitB (fC 7) 2 = false := by decide
  have h4 : bitB (fC 7) 4 = false := by decide
  have h8 : bitB (fC 7) 8 = false := by decide
  have h16 : bitB (fC 7) 16 = true := by decide
  have hi : isC 7 = true := by decide
  unfold chkC rC tC oC numA numF texA texF
  rw [hi]
  simp only [h1, h2, h4, h8, h16, g1, g2, g3, Bool.not_true, Bool.not_false, Bool.not_not, Bool.true_or, Bool.false_or, Bool.or_true, Bool.true_and, Bool.and_true, cond_true, cond_false, ge_lt, le_gt, bne]
  show _ = _
  try unfold emptyB
  generalize (ByteArray.toList ke == ByteArray.toList { data := { toList := [] } }) = ek
  generalize (ByteArray.toList va == ByteArray.toList { data := { toList := [] } }) = ev
  generalize (ByteArray.toList ol == ByteArray.toList { data := { toList := [] } }) = eo
  cases decide (nd < 1) <;> (try rfl) <;> cases decide (nd > 9) <;> (try rfl) <;> cases (cl == 0) <;> (try rfl) <;> cases (sq == 0) <;> (try rfl) <;> cases ek <;> (try rfl) <;> cases ev <;> (try rfl) <;> cases eo <;> rfl
theorem rc8_run (cl sq : Int) (ke va ol : ByteArray) (nd : Int) (hg : gC ke va ol = true) : runF env TR1 noInl rc8_hv 0 Tryd.f58 [.agg (cmdC 8 cl sq ke va ol nd)] [] (fun r bx => some r) = some (.int .i64 (chkC 8 cl sq ke va ol nd)) := by
  unfold gC at hg
  simp only [Bool.and_eq_true] at hg
  obtain ⟨g1, g2, g3⟩ := hg
  refine (rc8_in 0 cl sq ke va ol nd (fun r _ => some r)).trans ?_
  have h1 : bitB (fC 8) 1 = false := by decide
  have h2 : bitB (fC 8) 2 = false := by decide
  have h4 : bitB (fC 8) 4 = false := by decide
  have h8 : bitB (fC 8) 8 = false := by decide
  have h16 : bitB (fC 8) 16 = true := by decide
  have hi : isC 8 = true := by decide
  unfold chkC rC tC oC numA numF texA texF
  rw [hi]
  simp only [h1, h2, h4, h8, h16, g1, g2, g3, Bool.not_true, Bool.not_false, Bool.not_not, Bool.true_or, Bool.false_or, Bool.or_true, Bool.true_and, Bool.and_true, cond_true, cond_false, ge_lt, le_gt, bne]
  show _ = _
  try unfold emptyB
  generalize (ByteArray.toList ke == ByteArray.toList { data := { toList := [] } }) = ek
  generalize (ByteArray.toList va == ByteArray.toList { data := { toList := [] } }) = ev
  generalize (ByteArray.toList ol == ByteArray.toList { data := { toList := [] } }) = eo
  cases decide (nd < 1) <;> (try rfl) <;> cases decide (nd > 9) <;> (try rfl) <;> cases (cl == 0) <;> (try rfl) <;> cases (sq == 0) <;> (try rfl) <;> cases ek <;> (try rfl) <;> cases ev <;> (try rfl) <;> cases eo <;> rfl
theorem rc_kind {kd : Int} (h : isC kd = true) : kd = 1 ∨ kd = 2 ∨ kd = 3 ∨ kd = 4 ∨ kd = 5 ∨ kd = 6 ∨ kd = 7 ∨ kd = 8 := by
  unfold isC at h
  simp only [Bool.or_eq_true, beq_iff_eq] at h
  omega
theorem rcX_run (kd cl sq : Int) (ke va ol : ByteArray) (nd : Int) (h : isC kd = false) : runF env T0 noInl rcX_hv 0 Tryd.f58 [.agg (cmdC kd cl sq ke va ol nd)] [] (fun r bx => some r) = some (.int .i64 (chkC kd cl sq ke va ol nd)) := by
  refine (rcX_in 0 kd cl sq ke va ol nd (fun r _ => some r)).trans ?_
  unfold chkC
  rw [h]
  unfold isC at h
  simp only [Bool.or_eq_false_iff, beq_eq_false_iff_ne] at h
  by_cases h1 : kd < 1
  · rw [decide_eq_true h1]; rfl
  · rw [decide_eq_false h1, cond_pos (show kd > 8 by omega)]; rfl
theorem rcchk_ok : PureOK Tryd.prog env 58 chkCSp := by
  refine pure_any envOK fn_rc1 (fun args r h => ?_)
  unfold chkCSp at h
  split at h
  · rename_i x
    split at h
    · rename_i d hd
      obtain ⟨g, e⟩ := sel_one h
      subst e
      obtain ⟨kd, cl, sq, ke, va, ol, nd, u⟩ := d
      have g : gC ke va ol = true := g
      cases hi : isC kd with
      | false => exact ⟨T0, tok0, noInl, noInl_ok, rcX_hv, _, 0, .dat hd .nil, rcX_run kd cl sq ke va ol nd hi⟩
      | true =>
        rcases rc_kind hi with rfl | rfl | rfl | rfl | rfl | rfl | rfl | rfl
        · exact ⟨TR1, tokR1, noInl, noInl_ok, rc1_hv, _, 0, .dat hd .nil, rc1_run cl sq ke va ol nd g⟩
        · exact ⟨TR1, tokR1, noInl, noInl_ok, rc2_hv, _, 0, .dat hd .nil, rc2_run cl sq ke va ol nd g⟩
        · exact ⟨TR1, tokR1, noInl, noInl_ok, rc3_hv, _, 0, .dat hd .nil, rc3_run cl sq ke va ol nd g⟩
        · exact ⟨TR1, tokR1, noInl, noInl_ok, rc4_hv, _, 0, .dat hd .nil, rc4_run cl sq ke va ol nd g⟩
        · exact ⟨TR1, tokR1, noInl, noInl_ok, rc5_hv, _, 0, .dat hd .nil, rc5_run cl sq ke va ol nd g⟩
        · exact ⟨TR1, tokR1, noInl, noInl_ok, rc6_hv, _, 0, .dat hd .nil, rc6_run cl sq ke va ol nd g⟩
        · exact ⟨TR1, tokR1, noInl, noInl_ok, rc7_hv, _, 0, .dat hd .nil, rc7_run cl sq ke va ol nd g⟩
        · exact ⟨TR1, tokR1, noInl, noInl_ok, rc8_hv, _, 0, .dat hd .nil, rc8_run cl sq ke va ol nd g⟩
    · cases h
  · cases h
end Go.Proofs.YtleamcddhlacfaaDoor.V
