/- Regions whose order is drawn: whatever the order, the machine of plain values comes to the same. No condition but those told in each statement. -/
import Derived.Test.YtopbldbgnpeelaaDoorAp
import Derived.Orders
set_option linter.unusedVariables false
set_option linter.unusedSimpArgs false
namespace Go.Proofs.AbsV
open Go

mutual
theorem strip_shift (m : Nat) : ∀ x : AV, strip (shiftTok m x) = strip x
  | .any => rfl
  | .int _ _ => rfl
  | .bool _ => rfl
  | .str _ => rfl
  | .nilsl => rfl
  | .sl e xs nl own => rfl
  | .agg l => by simp only [shiftTok, strip, stripL_shift m l]
  | .ptr b off => rfl
  | .nilp => rfl
  | .epin e xs i off => rfl
  | .glob _ _ => rfl
  | .fn f l => by simp only [shiftTok, strip, stripL_shift m l]
  | .nilfn => rfl
  | .iface t x => by simp only [shiftTok, strip, strip_shift m x]
  | .niliface => rfl
  | .tup l => by simp only [shiftTok, strip, stripL_shift m l]
  | .asl sz l => by simp only [shiftTok, strip, stripL_shift m l]
  | .apin sz l off => by simp only [shiftTok, strip, stripL_shift m l]
theorem stripL_shift (m : Nat) : ∀ l : List AV, stripL (shiftTokL m l) = stripL l
  | [] => rfl
  | x :: l => by simp only [shiftTokL, stripL, strip_shift m x, stripL_shift m l]
end

/-! ### One operation, on its own -/
section
variable {α : Type} {E : Env} {T : FuncId → Option CSpec} {ops : List Oper}
def opR (E : Env) (T : FuncId → Option CSpec) (s : St) (o : Oper) : Option (AV × St) := opK (α := AV × St) E T noInl s o fun v s' => some (v, s')
theorem pureK_bind (sp : List AV → List (Bool × AV)) (s : St) (args : List AV) (k : AV → St → Option α) : pureK sp s args k = (pureK (α := AV × St) sp s args fun v s' => some (v, s')).bind fun p => k p.1 p.2 := by
  unfold pureK
  simp only [pick_sel]
  split
  · cases sel (sp (stripL args)) with
    | none => rfl
    | some r => simp only [Option.bind_some]; split <;> rfl
  · rfl
theorem callK_bind (s : St) (f : FuncId) (args : List AV) (k : AV → St → Option α) : callK T noInl s f args k = (callK (α := AV × St) T noInl s f args fun v s' => some (v, s')).bind fun p => k p.1 p.2 := by
  unfold callK
  cases T f with
  | none => rfl
  | some c =>
    cases c with
    | inl => simp only [noInl]; split <;> rfl
    | bor sp spn =>
      simp only [pick_sel]
      split
      · split
        · split
          · rw [Option.bind_assoc]
            congr 1
            funext r
            split <;> rfl
          · rfl
        · rfl
      · exact pureK_bind _ _ _ _
    | pure sp => exact pureK_bind _ _ _ _
theorem opK_bind (s : St) (o : Oper) (k : AV → St → Option α) : opK E T noInl s o k = (opR E T s o).bind fun p => k p.1 p.2 := by
  unfold opR opK
  split
  · split
    · exact callK_bind _ _ _ _
    · rfl
  · rw [pick_sel, pick_sel, Option.bind_assoc]; rfl
def wantA (ops : List Oper) (s : St) (o : Oper) : Option Bool :=
  match o.guard with
  | none => some true
  | some (j, want) => match guardA ops s j with
    | some (some (b, _)) => some (cond want b (!b))
    | some none => some false
    | none => none
def stepG (E : Env) (T : FuncId → Option CSpec) (ops : List Oper) (s : St) (o : Oper) : Option St :=
  match wantA ops s o with
  | some true => (opR E T s o).map fun p => p.2.put o.dst (strip p.1)
  | some false => some (s.put o.dst undefA)
  | none => none
def touchG (T : FuncId → Option CSpec) (ops : List Oper) (s : St) (o : Oper) : Option (Nat × Bool) :=
  match wantA ops s o with
  | some true => touchA T s o
  | _ => none
def prevOf (T : FuncId → Option CSpec) (ops : List Oper) (s : St) (o : Oper) : Prev := ⟨o.dst, looksO ops o, touchG T ops s o⟩
theorem guardA_set {s : St} {j : Nat} {b : Bool} {t : Tmp} (h : guardA ops s j = some (some (b, t))) : s.setB t b = s := by
  unfold guardA at h
  split at h
  · split at h
    · split at h
      · rename_i t' _ b' hb
        cases h
        unfold St.setB
        have : s.fr.set t (.bool b) = s.fr := by
          rw [List.getD_eq_getElem?_getD] at hb
          cases ht : s.fr[t]? with
          | none => rw [ht] at hb; cases hb
          | some v =>
            rw [ht] at hb
            simp only [Option.getD_some] at hb
            subst hb
            obtain ⟨h1, h2⟩ := List.getElem?_eq_some_iff.1 ht
            rw [← h2, List.set_getElem_self]
        rw [this]
      · cases h
      · cases h
    · cases h
  · cases h
theorem runD_cons {o : Oper} {r : List Oper} {i : Nat} {ms : List Nat} {ps : List Prev} {s : St} {k : St → Option α} {x : α} (h : runD E T ops (o :: r) i ms ps s k = some x) :
    calmOp o = true ∧ belowN i (edgesO o) = true ∧ okPrev (maskOf ms (edgesO o)) (prevOf T ops s o) ps 0 = true ∧
      ∃ s1, stepG E T ops s o = some s1 ∧ runD E T ops r (i + 1) (ms ++ [maskOf ms (edgesO o)]) (ps ++ [prevOf T ops s o]) s1 k = some x := by
  simp only [runD] at h
  cases hc : (calmOp o && belowN i (edgesO o)) with
  | false => rw [hc] at h; cases h
  | true =>
    rw [hc] at h
    simp only [cond_true] at h
    simp only [Bool.and_eq_true] at hc
    refine ⟨hc.1, hc.2, ?_⟩
    have hgo : ∀ s1 : St, s1 = s → wantA ops s o = some true → cond (okPrev (maskOf ms (edgesO o)) ⟨o.dst, looksO ops o, touchA T s1 o⟩ ps 0)
              (opK E T noInl s1 o fun v s' => runD E T ops r (i + 1) (ms ++ [maskOf ms (edgesO o)]) (ps ++ [⟨o.dst, looksO ops o, touchA T s1 o⟩]) (s'.put o.dst (strip v)) k) none = some x →
        okPrev (maskOf ms (edgesO o)) (prevOf T ops s o) ps 0 = true ∧ ∃ s1, stepG E T ops s o = some s1 ∧ runD E T ops r (i + 1) (ms ++ [maskOf ms (edgesO o)]) (ps ++ [prevOf T ops s o]) s1 k = some x := by
      intro s1 hs1 hw h0
      subst hs1
      have hp : prevOf T ops s1 o = ⟨o.dst, looksO ops o, touchA T s1 o⟩ := by simp only [prevOf, touchG, hw]
      rw [hp]
      cases hk : okPrev (maskOf ms (edgesO o)) ⟨o.dst, looksO ops o, touchA T s1 o⟩ ps 0 with
      | false => rw [hk] at h0; cases h0
      | true =>
        rw [hk] at h0
        simp only [cond_true] at h0
        rw [opK_bind] at h0
        obtain ⟨p, hp1, hp2⟩ := Option.bind_eq_some_iff.1 h0
        exact ⟨rfl, _, by simp only [stepG, hw, hp1, Option.map_some], hp2⟩
    have hno : ∀ s1 : St, s1 = s → wantA ops s o = some false → cond (okPrev (maskOf ms (edgesO o)) ⟨o.dst, looksO ops o, none⟩ ps 0)
              (runD E T ops r (i + 1) (ms ++ [maskOf ms (edgesO o)]) (ps ++ [⟨o.dst, looksO ops o, none⟩]) (s1.put o.dst undefA) k) none = some x →
        okPrev (maskOf ms (edgesO o)) (prevOf T ops s o) ps 0 = true ∧ ∃ s1, stepG E T ops s o = some s1 ∧ runD E T ops r (i + 1) (ms ++ [maskOf ms (edgesO o)]) (ps ++ [prevOf T ops s o]) s1 k = some x := by
      intro s1 hs1 hw h0
      subst hs1
      have hp : prevOf T ops s1 o = ⟨o.dst, looksO ops o, none⟩ := by simp only [prevOf, touchG, hw]
      rw [hp]
      cases hk : okPrev (maskOf ms (edgesO o)) ⟨o.dst, looksO ops o, none⟩ ps 0 with
      | false => rw [hk] at h0; cases h0
      | true =>
        rw [hk] at h0
        exact ⟨rfl, _, by simp only [stepG, hw], h0⟩
    cases hg : o.guard with
    | none =>
      rw [hg] at h
      exact hgo s rfl (by simp only [wantA, hg]) h
    | some g =>
      obtain ⟨j, want⟩ := g
      rw [hg] at h
      simp only at h
      cases hga : guardA ops s j with
      | none => rw [hga] at h; cases h
      | some q =>
        rw [hga] at h
        cases q with
        | none => exact hno s rfl (by simp only [wantA, hg, hga]) h
        | some bt =>
          obtain ⟨b, t⟩ := bt
          simp only at h
          have hset := guardA_set hga
          cases hc : cond want b (!b) with
          | true =>
            rw [hc] at h
            have hbw : b = want := by cases want <;> cases b <;> simp_all
            subst hbw
            exact hgo _ hset (by simp only [wantA, hg, hga, hc]) h
          | false =>
            rw [hc] at h
            have hbw : (!want) = b := by cases want <;> cases b <;> simp_all
            rw [hbw] at h
            exact hno _ hset (by simp only [wantA, hg, hga, hc]) h

/-! ### The run in the text's order -/
def trc (E : Env) (T : FuncId → Option CSpec) (ops : List Oper) (s0 : St) : Nat → Option St
  | 0 => some s0
  | i + 1 => (trc E T ops s0 i).bind fun s => match ops[i]? with
    | some o => stepG E T ops s o
    | none => none
def Closed (ops : List Oper) (L : Nat → Prop) : Prop := ∀ j o, ops[j]? = some o → L j → ∀ e ∈ edgesO o, L e
/-- Whatever is listed before j, i is. -/
def Anc (ops : List Oper) (i j : Nat) : Prop := ∀ L : Nat → Prop, Closed ops L → ∀ o, ops[j]? = some o → (∀ e ∈ edgesO o, L e) → L i
structure RunTo (E : Env) (T : FuncId → Option CSpec) (ops : List Oper) (s0 : St) (n : Nat) : Prop where
  step : ∀ i o, i < n → ops[i]? = some o → ∃ s s1, trc E T ops s0 i = some s ∧ stepG E T ops s o = some s1 ∧ trc E T ops s0 (i + 1) = some s1
  calm : ∀ i o, i < n → ops[i]? = some o → calmOp o = true
  low : ∀ i o, i < n → ops[i]? = some o → ∀ e ∈ edgesO o, e < i
  ord : ∀ i j p q si sj, i < j → j < n → ops[i]? = some p → ops[j]? = some q → trc E T ops s0 i = some si → trc E T ops s0 j = some sj → clash (prevOf T ops si p) (prevOf T ops sj q) = true → Anc ops i j
theorem belowN_mem {n : Nat} : ∀ {l : List Nat}, belowN n l = true → ∀ e ∈ l, e < n
  | [], _, e, he => by cases he
  | x :: r, h, e, he => by
    simp only [belowN, Bool.and_eq_true, Nat.blt_eq] at h
    rcases List.mem_cons.1 he with rfl | he
    · exact h.1
    · exact belowN_mem h.2 e he
theorem okPrev_at {m : Nat} {q : Prev} : ∀ {ps : List Prev} {i0 : Nat}, okPrev m q ps i0 = true → ∀ i p, ps[i]? = some p → clash p q = true → m.testBit (i0 + i) = true
  | [], _, _, i, p, hp, _ => by cases hp
  | y :: r, i0, h, i, p, hp, hc => by
    simp only [okPrev, Bool.and_eq_true, Bool.or_eq_true, Bool.not_eq_true'] at h
    cases i with
    | zero =>
      simp only [List.getElem?_cons_zero, Option.some.injEq] at hp
      subst hp
      rcases h.1 with h1 | h1
      · exact h1
      · rw [hc] at h1; cases h1
    | succ i =>
      have := okPrev_at h.2 i p (by simpa using hp) hc
      rw [← this]; congr 1; omega
theorem maskOf_bit {ms : List Nat} {i : Nat} : ∀ {l : List Nat}, (maskOf ms l).testBit i = true → ∃ e ∈ l, (ms.getD e 0).testBit i = true ∨ i = e
  | [], h => by simp [maskOf] at h
  | j :: r, h => by
    have h : ((ms.getD j 0 ||| 1 <<< j) ||| maskOf ms r).testBit i = true := h
    rw [Nat.testBit_or, Nat.testBit_or, Bool.or_eq_true, Bool.or_eq_true] at h
    rcases h with (h | h) | h
    · exact ⟨j, by simp, .inl h⟩
    · refine ⟨j, by simp, .inr ?_⟩
      rw [Nat.testBit_shiftLeft, Bool.and_eq_true] at h
      have h1 := of_decide_eq_true h.1
      have h2 := Nat.testBit_one_eq_true_iff_self_eq_zero.1 h.2
      omega
    · obtain ⟨e, he, h⟩ := maskOf_bit h
      exact ⟨e, by simp [he], h⟩
theorem runD_run {s0 : St} {k : St → Option α} {x : α} : ∀ (r pre : List Oper), ops = pre ++ r → ∀ (ms : List Nat) (ps : List Prev) (s : St), ms.length = pre.length → ps.length = pre.length →
    (∀ j m, ms[j]? = some m → ∀ i, m.testBit i = true → Anc ops i j) → (∀ i o, i < pre.length → ops[i]? = some o → ∃ si, trc E T ops s0 i = some si ∧ ps[i]? = some (prevOf T ops si o)) →
    RunTo E T ops s0 pre.length → trc E T ops s0 pre.length = some s → runD E T ops r pre.length ms ps s k = some x → ∃ z, RunTo E T ops s0 ops.length ∧ trc E T ops s0 ops.length = some z ∧ k z = some x
  | [], pre, ho, ms, ps, s, hm, hp, hms, hps, hR, ht, hr => by
    simp only [List.append_nil] at ho
    subst ho
    exact ⟨s, hR, ht, hr⟩
  | o :: r, pre, ho, ms, ps, s, hm, hp, hms, hps, hR, ht, hr => by
    obtain ⟨h1, h2, h3, s1, h4, h5⟩ := runD_cons hr
    have hat : ops[pre.length]? = some o := by rw [ho]; simp
    have hlow := belowN_mem h2
    have hbit : ∀ i, (maskOf ms (edgesO o)).testBit i = true → Anc ops i pre.length := by
      intro i hi L hL o' ho' hes
      rw [hat] at ho'; cases ho'
      obtain ⟨e, he, hb⟩ := maskOf_bit hi
      have hLe := hes e he
      rcases hb with hb | rfl
      · have hlt := hlow e he
        have hme : ms[e]? = some (ms.getD e 0) := by rw [List.getD_eq_getElem?_getD, List.getElem?_eq_getElem (by omega)]; rfl
        have := hms e _ hme i hb L hL
        have hoe : ∃ oe, ops[e]? = some oe := ⟨ops[e]'(by rw [ho]; simp; omega), List.getElem?_eq_getElem _⟩
        obtain ⟨oe, hoe⟩ := hoe
        exact this oe hoe (fun e' he' => hL e oe hoe hLe e' he')
      · exact hLe
    have hnext : trc E T ops s0 (pre.length + 1) = some s1 := by
      simp only [trc, ht, Option.bind_some, hat, h4]
    refine runD_run r (pre ++ [o]) (by rw [ho]; simp) (ms ++ [maskOf ms (edgesO o)]) (ps ++ [prevOf T ops s o]) s1 (by simp [hm]) (by simp [hp]) ?_ ?_ ?_ (by simpa using hnext) (by simpa using h5)
    · intro j m hj i hi
      by_cases hjl : j < pre.length
      · rw [List.getElem?_append_left (by omega)] at hj
        exact hms j m hj i hi
      · have hlt := (List.getElem?_eq_some_iff.1 hj).1
        simp at hlt
        have hje : j = pre.length := by omega
        subst hje
        rw [List.getElem?_append_right (by omega), hm] at hj
        simp at hj
        subst hj
        exact hbit i hi
    · intro i o' hi hio
      simp at hi
      by_cases hil : i < pre.length
      · obtain ⟨si, q1, q2⟩ := hps i o' hil hio
        exact ⟨si, q1, by rw [List.getElem?_append_left (by omega)]; exact q2⟩
      · have hie : i = pre.length := by omega
        subst hie
        rw [hat] at hio; cases hio
        exact ⟨s, ht, by rw [List.getElem?_append_right (by omega), hp]; simp⟩
    · refine ⟨fun i o' hi hio => ?_, fun i o' hi hio => ?_, fun i o' hi hio => ?_, fun i j p q si sj hij hj hio hjo hti htj hcl => ?_⟩
      all_goals simp only [List.length_append, List.length_singleton] at *
      · by_cases hil : i < pre.length
        · exact hR.step i o' hil hio
        · have hie : i = pre.length := by omega
          subst hie
          rw [hat] at hio; cases hio
          exact ⟨s, s1, ht, h4, hnext⟩
      · by_cases hil : i < pre.length
        · exact hR.calm i o' hil hio
        · have hie : i = pre.length := by omega
          subst hie
          rw [hat] at hio; cases hio
          exact h1
      · by_cases hil : i < pre.length
        · exact hR.low i o' hil hio
        · have hie : i = pre.length := by omega
          subst hie
          rw [hat] at hio; cases hio
          exact hlow
      · by_cases hil : j < pre.length
        · exact hR.ord i j p q si sj hij hil hio hjo hti htj hcl
        · have hje : j = pre.length := by omega
          subst hje
          rw [hat] at hjo; cases hjo
          rw [ht] at htj; cases htj
          obtain ⟨si', q1, q2⟩ := hps i p hij hio
          rw [hti] at q1; cases q1
          have := okPrev_at h3 i _ q2 hcl
          rw [Nat.zero_add] at this
          exact hbit i this
end
end Go.Proofs.AbsV
