/- Regions whose order is drawn, third part: whichever order is drawn, the end is the text's. No condition but those told in each statement. -/
import Derived.Test.YtopbldbgnpeelaaDoorAr
set_option linter.unusedVariables false
set_option linter.unusedSimpArgs false
namespace Go.Proofs.AbsV
open Go

section
variable {E : Env} {T : FuncId → Option CSpec} {ops : List Oper} {s0 : St}
theorem looksL_mem {t : Nat} : ∀ {l : List Operand}, .tmp t ∈ l → t ∈ looksL l
  | [], h => by cases h
  | x :: r, h => by
    rcases List.mem_cons.1 h with rfl | h
    · simp [looksL]
    · have ih := looksL_mem h
      cases x <;> simp [looksL, ih]
theorem getD_of_get? {l l' : List AV} {t : Nat} (h : l[t]? = l'[t]?) : l.getD t .any = l'.getD t .any := by
  rw [List.getD_eq_getElem?_getD, List.getD_eq_getElem?_getD, h]
theorem wantA_local {S s : St} {o : Oper} (hf : ∀ t ∈ looksO ops o, S.fr[t]? = s.fr[t]?) : wantA ops S o = wantA ops s o := by
  unfold wantA
  cases hg : o.guard with
  | none => rfl
  | some g =>
    obtain ⟨j, want⟩ := g
    have : guardA ops S j = guardA ops s j := by
      unfold guardA
      cases hj : ops[j]? with
      | none => rfl
      | some q =>
        simp only
        cases hq : q.dst with
        | none => rfl
        | some t =>
          simp only
          have ht : S.fr[t]? = s.fr[t]? := hf t (by simp [looksO, guardT, hg, hj, hq])
          rw [getD_of_get? ht]
    simp only [this]
theorem put_get {s : St} {d : Option Tmp} {v : AV} {t : Nat} (h : d ≠ some t) : (s.put d v).fr[t]? = s.fr[t]? := by
  cases d with
  | none => rfl
  | some u =>
    simp only [St.put]
    rw [List.getElem?_set_ne (fun e => h (by rw [e]))]
theorem put_len {s : St} {d : Option Tmp} {v : AV} : (s.put d v).fr.length = s.fr.length := by cases d <;> simp [St.put]
structure Local (T : FuncId → Option CSpec) (ops : List Oper) (S s S1 s1 : St) (o : Oper) : Prop where
  fl : S1.fr.length = S.fr.length
  fl' : s1.fr.length = s.fr.length
  bl : S1.bx.length = S.bx.length
  bl' : s1.bx.length = s.bx.length
  f : ∀ t, o.dst ≠ some t → S1.fr[t]? = S.fr[t]? ∧ s1.fr[t]? = s.fr[t]?
  fw : ∀ t, o.dst = some t → S.fr.length = s.fr.length → S1.fr[t]? = s1.fr[t]?
  b : ∀ b, touchG T ops s o ≠ some (b, true) → S1.bx[b]? = S.bx[b]? ∧ s1.bx[b]? = s.bx[b]?
  bw : ∀ b, touchG T ops s o = some (b, true) → S1.bx[b]? = s1.bx[b]?
theorem stepG_local {S s s1 : St} {o : Oper} (hc : calmOp o = true) (hf : ∀ t ∈ looksO ops o, S.fr[t]? = s.fr[t]?) (hb : ∀ b w, touchG T ops s o = some (b, w) → S.bx[b]? = s.bx[b]?)
    (hl : S.bx.length = s.bx.length) (h : stepG E T ops s o = some s1) : ∃ S1, stepG E T ops S o = some S1 ∧ Local T ops S s S1 s1 o := by
  have hw := wantA_local hf
  unfold stepG at h ⊢
  rw [hw]
  split at h
  · rename_i hwt
    have ht : touchG T ops s o = touchA T s o := by simp only [touchG, hwt]
    obtain ⟨p, hp, rfl⟩ := Option.map_eq_some_iff.1 h
    have he : ∀ x ∈ o.op.operands.toList, ev S x = ev s x := fun x hx => by
      cases x with
      | tmp t => exact getD_of_get? (hf t (by simp [looksO, looksL_mem hx]))
      | _ => rfl
    obtain ⟨v2, S', q1, q2, q3, q4, q5, q6, q7, q8⟩ := opR_local (v := p.1) (s' := p.2) hc he (fun b w hb' => hb b w (by rw [ht]; exact hb')) hl hp
    rw [q1]
    refine ⟨_, rfl, ⟨by rw [put_len, q3], by rw [put_len, q4], by rw [put_bx, q5], by rw [put_bx, q6], fun t hne => ⟨by rw [put_get hne, q3], by rw [put_get hne, q4]⟩, fun t heq hfl => ?_, fun b hb' => ?_, fun b hb' => ?_⟩⟩
    · simp only [heq, q2, St.put, q3, q4]
      rw [List.getElem?_set, List.getElem?_set, if_pos rfl, if_pos rfl, hfl]
    · rw [put_bx, put_bx]; exact q7 b (by rw [← ht]; exact hb')
    · rw [put_bx, put_bx]; exact q8 b (by rw [← ht]; exact hb')
  · rename_i hwt
    have ht : touchG T ops s o = none := by simp only [touchG, hwt]
    cases h
    refine ⟨_, rfl, ⟨put_len, put_len, by rw [put_bx], by rw [put_bx], fun t hne => ⟨put_get hne, put_get hne⟩, fun t heq hfl => ?_, fun b hb' => ?_, fun b hb' => ?_⟩⟩
    · simp only [heq, St.put]
      rw [List.getElem?_set, List.getElem?_set, if_pos rfl, if_pos rfl, hfl]
    · rw [put_bx, put_bx]; exact ⟨rfl, rfl⟩
    · rw [ht] at hb'; cases hb'
  · cases h
theorem stepG_self {s s1 : St} {o : Oper} (hc : calmOp o = true) (h : stepG E T ops s o = some s1) : Local T ops s s s1 s1 o := by
  obtain ⟨S1, h1, h2⟩ := stepG_local (S := s) hc (fun _ _ => rfl) (fun _ _ _ => rfl) rfl h
  rw [h] at h1; cases h1
  exact h2

/-! ### Between two places of the text -/
theorem trc_back {i : Nat} {s1 : St} (h : trc E T ops s0 (i + 1) = some s1) : ∃ s o, trc E T ops s0 i = some s ∧ ops[i]? = some o ∧ stepG E T ops s o = some s1 := by
  simp only [trc] at h
  obtain ⟨s, h1, h2⟩ := Option.bind_eq_some_iff.1 h
  cases ho : ops[i]? with
  | none => rw [ho] at h2; cases h2
  | some o => rw [ho] at h2; exact ⟨s, o, h1, rfl, h2⟩
theorem trc_len {n : Nat} (hR : RunTo E T ops s0 n) : ∀ m sm, m ≤ n → trc E T ops s0 m = some sm → sm.fr.length = s0.fr.length ∧ sm.bx.length = s0.bx.length
  | 0, sm, _, h => by cases h; exact ⟨rfl, rfl⟩
  | m + 1, sm, hm, h => by
    obtain ⟨s, o, h1, h2, h3⟩ := trc_back h
    have hl := stepG_self (hR.calm m o (by omega) h2) h3
    have ih := trc_len hR m s (by omega) h1
    exact ⟨hl.fl'.trans ih.1, hl.bl'.trans ih.2⟩
theorem same_f {n : Nat} (hR : RunTo E T ops s0 n) {t a : Nat} {sa : St} (ha : trc E T ops s0 a = some sa) : ∀ m sm, a ≤ m → m ≤ n → trc E T ops s0 m = some sm → (∀ i o, a ≤ i → i < m → ops[i]? = some o → o.dst ≠ some t) → sm.fr[t]? = sa.fr[t]?
  | 0, sm, h1, h2, h3, h4 => by
    have : a = 0 := by omega
    subst this
    rw [ha] at h3; cases h3; rfl
  | m + 1, sm, h1, h2, h3, h4 => by
    by_cases hae : a = m + 1
    · subst hae; rw [ha] at h3; cases h3; rfl
    · obtain ⟨s, o, q1, q2, q3⟩ := trc_back h3
      have hl := stepG_self (hR.calm m o (by omega) q2) q3
      rw [(hl.f t (h4 m o (by omega) (by omega) q2)).2]
      exact same_f hR ha m s (by omega) (by omega) q1 (fun i o hi hi' ho => h4 i o hi (by omega) ho)
theorem same_b {n : Nat} (hR : RunTo E T ops s0 n) {b a : Nat} {sa : St} (ha : trc E T ops s0 a = some sa) : ∀ m sm, a ≤ m → m ≤ n → trc E T ops s0 m = some sm → (∀ i o si, a ≤ i → i < m → ops[i]? = some o → trc E T ops s0 i = some si → touchG T ops si o ≠ some (b, true)) → sm.bx[b]? = sa.bx[b]?
  | 0, sm, h1, h2, h3, h4 => by
    have : a = 0 := by omega
    subst this
    rw [ha] at h3; cases h3; rfl
  | m + 1, sm, h1, h2, h3, h4 => by
    by_cases hae : a = m + 1
    · subst hae; rw [ha] at h3; cases h3; rfl
    · obtain ⟨s, o, q1, q2, q3⟩ := trc_back h3
      have hl := stepG_self (hR.calm m o (by omega) q2) q3
      rw [(hl.b b (h4 m o s (by omega) (by omega) q2 q1)).2]
      exact same_b hR ha m s (by omega) (by omega) q1 (fun i o si hi hi' ho hti => h4 i o si hi (by omega) ho hti)

/-! ### Any order -/
structure Inv (E : Env) (T : FuncId → Option CSpec) (ops : List Oper) (s0 : St) (L : Nat → Prop) (S : St) : Prop where
  fl : S.fr.length = s0.fr.length
  bl : S.bx.length = s0.bx.length
  f : ∀ t m sm, m ≤ ops.length → trc E T ops s0 m = some sm → (∀ i o, ops[i]? = some o → o.dst = some t → (L i ↔ i < m)) → S.fr[t]? = sm.fr[t]?
  b : ∀ b m sm, m ≤ ops.length → trc E T ops s0 m = some sm → (∀ i o si, ops[i]? = some o → trc E T ops s0 i = some si → touchG T ops si o = some (b, true) → (L i ↔ i < m)) → S.bx[b]? = sm.bx[b]?
theorem lt_of_get {i : Nat} {o : Oper} (h : ops[i]? = some o) : i < ops.length := (List.getElem?_eq_some_iff.1 h).1
theorem Inv.start (hR : RunTo E T ops s0 ops.length) : Inv E T ops s0 (fun _ => False) s0 := by
  refine ⟨rfl, rfl, fun t m sm hm ht hc => (same_f hR (a := 0) rfl m sm (Nat.zero_le _) hm ht (fun i o _ hi ho hd => ?_)).symm, fun b m sm hm ht hc => (same_b hR (a := 0) rfl m sm (Nat.zero_le _) hm ht (fun i o si _ hi ho hti hd => ?_)).symm⟩
  · exact (hc i o ho hd).2 hi
  · exact (hc i o si ho hti hd).2 hi
theorem clash_look {p q : Prev} {t : Nat} (h1 : p.dst = some t) (h2 : t ∈ q.looks) : clash p q = true := by
  have : ∀ l : List Nat, t ∈ l → memN t l = true := by
    intro l hl
    induction l with
    | nil => cases hl
    | cons x r ih =>
      simp only [memN, Bool.or_eq_true]
      rcases List.mem_cons.1 hl with rfl | hl
      · exact .inl (Nat.beq_refl _)
      · exact .inr (ih hl)
  simp [clash, hitsD, h1, this _ h2]
theorem clash_look' {p q : Prev} {t : Nat} (h1 : q.dst = some t) (h2 : t ∈ p.looks) : clash p q = true := by
  have := clash_look (p := q) (q := p) h1 h2
  have h3 : hitsD q.dst p.looks = true := by
    have : ∀ l : List Nat, t ∈ l → memN t l = true := by
      intro l hl
      induction l with
      | nil => cases hl
      | cons x r ih =>
        simp only [memN, Bool.or_eq_true]
        rcases List.mem_cons.1 hl with rfl | hl
        · exact .inl (Nat.beq_refl _)
        · exact .inr (ih hl)
    simp [hitsD, h1, this _ h2]
  simp [clash, h3]
theorem clash_dst {p q : Prev} {t : Nat} (h1 : p.dst = some t) (h2 : q.dst = some t) : clash p q = true := by
  have : Nat.beq t t = true := Nat.beq_refl t
  simp [clash, sameD, h1, h2]
theorem clash_box {p q : Prev} {b : Nat} {w w' : Bool} (h1 : p.touch = some (b, w)) (h2 : q.touch = some (b, w')) (h : w = true ∨ w' = true) : clash p q = true := by
  have : hitsB p.touch q.touch = true := by
    rw [h1, h2]
    simp only [hitsB, Bool.and_eq_true, Bool.or_eq_true]
    exact ⟨Nat.beq_refl _, h⟩
  simp [clash, this]
theorem Inv.next {L : Nat → Prop} {S : St} {i : Nat} {o : Oper} (hR : RunTo E T ops s0 ops.length) (hI : Inv E T ops s0 L S) (hL : Closed ops L) (hi : ¬ L i) (ho : ops[i]? = some o) (he : ∀ e ∈ edgesO o, L e) :
    ∃ S1, stepG E T ops S o = some S1 ∧ Inv E T ops s0 (fun j => L j ∨ j = i) S1 ∧ S1.bx.length = S.bx.length := by
  have hil := lt_of_get ho
  obtain ⟨si, si1, ht, hs, ht1⟩ := hR.step i o hil ho
  have hc := hR.calm i o hil ho
  have hlen := trc_len hR i si (by omega) ht
  -- what runs before it in the text and matters is listed; what runs behind it and matters is not
  have hbefore : ∀ j p sj, j < i → ops[j]? = some p → trc E T ops s0 j = some sj → clash (prevOf T ops sj p) (prevOf T ops si o) = true → L j := fun j p sj hj hp htj hcl =>
    hR.ord j i p o sj si hj hil hp ho htj ht hcl L hL o ho he
  have hbehind : ∀ j p sj, i < j → ops[j]? = some p → trc E T ops s0 j = some sj → clash (prevOf T ops si o) (prevOf T ops sj p) = true → ¬ L j := fun j p sj hj hp htj hcl hLj =>
    hi (hR.ord i j o p si sj hj (lt_of_get hp) ho hp ht htj hcl L hL p hp (hL j p hp hLj))
  have htr : ∀ j p, ops[j]? = some p → ∃ sj, trc E T ops s0 j = some sj := fun j p hp => by
    obtain ⟨sj, _, h1, _⟩ := hR.step j p (lt_of_get hp) hp
    exact ⟨sj, h1⟩
  have hf : ∀ t ∈ looksO ops o, S.fr[t]? = si.fr[t]? := fun t htl => hI.f t i si (by omega) ht (fun j p hp hd => by
    obtain ⟨sj, htj⟩ := htr j p hp
    constructor
    · intro hLj
      rcases Nat.lt_trichotomy j i with h | h | h
      · exact h
      · subst h; exact (hi hLj).elim
      · exact (hbehind j p sj h hp htj (clash_look' (t := t) hd htl) hLj).elim
    · intro h
      exact hbefore j p sj h hp htj (clash_look (t := t) hd htl))
  have hb : ∀ b w, touchG T ops si o = some (b, w) → S.bx[b]? = si.bx[b]? := fun b w hbw => hI.b b i si (by omega) ht (fun j p sj hp htj hd => by
    constructor
    · intro hLj
      rcases Nat.lt_trichotomy j i with h | h | h
      · exact h
      · subst h; exact (hi hLj).elim
      · exact (hbehind j p sj h hp htj (clash_box (b := b) (w := w) (w' := true) hbw hd (.inr rfl)) hLj).elim
    · intro h
      exact hbefore j p sj h hp htj (clash_box (b := b) (w := true) (w' := w) hd hbw (.inl rfl)))
  obtain ⟨S1, q1, q2⟩ := stepG_local (E := E) (T := T) hc hf hb (by rw [hI.bl, hlen.2]) hs
  refine ⟨S1, q1, ⟨q2.fl.trans hI.fl, q2.bl.trans hI.bl, fun t m sm hm htm hcut => ?_, fun b m sm hm htm hcut => ?_⟩, q2.bl⟩
  · by_cases hd : o.dst = some t
    · have him : i < m := (hcut i o ho hd).1 (.inr rfl)
      rw [q2.fw t hd (by rw [hI.fl, hlen.1])]
      refine (same_f hR ht1 m sm (by omega) hm htm (fun j p hj hj' hp hdp => ?_)).symm
      obtain ⟨sj, htj⟩ := htr j p hp
      rcases (hcut j p hp hdp).2 hj' with h | h
      · exact hbehind j p sj (by omega) hp htj (clash_dst (t := t) hd hdp) h
      · omega
    · rw [(q2.f t hd).1]
      refine hI.f t m sm hm htm (fun j p hp hdp => ?_)
      rw [← hcut j p hp hdp]
      refine ⟨fun h => .inl h, fun h => h.elim id (fun h => ?_)⟩
      subst h; rw [ho] at hp; cases hp; exact (hd hdp).elim
  · by_cases hd : touchG T ops si o = some (b, true)
    · have him : i < m := (hcut i o si ho ht hd).1 (.inr rfl)
      rw [q2.bw b hd]
      refine (same_b hR ht1 m sm (by omega) hm htm (fun j p sj hj hj' hp htj hdp => ?_)).symm
      rcases (hcut j p sj hp htj hdp).2 hj' with h | h
      · exact hbehind j p sj (by omega) hp htj (clash_box (b := b) hd hdp (.inl rfl)) h
      · omega
    · rw [(q2.b b hd).1]
      refine hI.b b m sm hm htm (fun j p sj hp htj hdp => ?_)
      rw [← hcut j p sj hp htj hdp]
      refine ⟨fun h => .inl h, fun h => h.elim id (fun h => ?_)⟩
      subst h; rw [ho] at hp; cases hp; rw [ht] at htj; cases htj; exact (hd hdp).elim
theorem Inv.done {L : Nat → Prop} {S z : St} (hR : RunTo E T ops s0 ops.length) (hI : Inv E T ops s0 L S) (hL : ∀ i, i < ops.length → L i) (hz : trc E T ops s0 ops.length = some z) : S = z := by
  have hlen := trc_len hR ops.length z (Nat.le_refl _) hz
  have h1 : S.fr = z.fr := List.ext_getElem? (fun t => hI.f t ops.length z (Nat.le_refl _) hz (fun i o ho _ => ⟨fun _ => lt_of_get ho, fun h => hL i h⟩))
  have h2 : S.bx = z.bx := List.ext_getElem? (fun t => hI.b t ops.length z (Nat.le_refl _) hz (fun i o si ho _ _ => ⟨fun _ => lt_of_get ho, fun h => hL i h⟩))
  cases S; cases z; simp only at h1 h2; rw [h1, h2]
end

/-! ### The program's region -/
def cf : List Bool → Nat
  | [] => 0
  | b :: r => (if b then 0 else 1) + cf r
theorem cf_set : ∀ {l : List Bool} {i : Nat}, l[i]? = some false → cf (l.set i true) + 1 = cf l
  | [], i, h => by simp at h
  | b :: r, 0, h => by simp at h; subst h; simp [cf]; omega
  | b :: r, i + 1, h => by
    have := cf_set (l := r) (i := i) (by simpa using h)
    simp only [List.set_cons_succ, cf]; omega
theorem cf_zero : ∀ {l : List Bool}, cf l = 0 → ∀ i, i < l.length → l[i]? = some true
  | [], _, i, hi => by simp at hi
  | b :: r, h, 0, hi => by cases b <;> simp [cf] at h ⊢
  | b :: r, h, i + 1, hi => by
    have := cf_zero (l := r) (by simp only [cf] at h; omega) i (by simpa using hi)
    simpa using this
theorem cf_replicate : ∀ n, cf (List.replicate n false) = n
  | 0 => rfl
  | n + 1 => by simp [List.replicate_succ, cf, cf_replicate n]; omega
theorem edgesL_mem {md : List Edge} {e : Nat} : e ∈ edgesL md ↔ ∃ ed ∈ md, Region.binds .any ed = true ∧ ed.on = e := by
  induction md with
  | nil => simp [edgesL]
  | cons x r ih =>
    simp only [edgesL]
    cases hb : Region.binds .any x with
    | true =>
      simp only [cond_true, List.mem_cons, ih]
      constructor
      · rintro (rfl | ⟨ed, h1, h2, h3⟩)
        · exact ⟨x, .inl rfl, hb, rfl⟩
        · exact ⟨ed, .inr h1, h2, h3⟩
      · rintro ⟨ed, rfl | h1, h2, h3⟩
        · exact .inl h3.symm
        · exact .inr ⟨ed, h1, h2, h3⟩
    | false =>
      simp only [cond_false, List.mem_cons, ih]
      constructor
      · rintro ⟨ed, h1, h2, h3⟩
        exact ⟨ed, .inr h1, h2, h3⟩
      · rintro ⟨ed, rfl | h1, h2, h3⟩
        · rw [hb] at h2; cases h2
        · exact ⟨ed, h1, h2, h3⟩
def Lof (listed : Array Bool) (i : Nat) : Prop := listed.getD i false = true
theorem ready_iff {ops : Array Oper} {listed : Array Bool} (hs : listed.size = ops.size) {i : Nat} :
    i ∈ Region.ready .any ops listed ↔ ∃ o, ops.toList[i]? = some o ∧ ¬ Lof listed i ∧ ∀ e ∈ edgesO o, Lof listed e := by
  unfold Region.ready
  simp only [List.mem_filter, List.mem_range, Bool.and_eq_true, Bool.not_eq_true']
  constructor
  · rintro ⟨h1, h2, h3⟩
    have ho : ops[i]? = some ops[i] := Array.getElem?_eq_getElem h1
    refine ⟨ops[i], by simp, ?_, fun e he => ?_⟩
    · intro hL
      unfold Lof at hL
      rw [Array.getD_eq_getD_getElem?] at h2 hL
      rw [Array.getElem?_eq_getElem (by omega)] at h2 hL
      simp at h2 hL
      rw [h2] at hL; cases hL
    · rw [ho] at h3
      simp only [Option.map_some, Option.getD_some] at h3
      obtain ⟨ed, q1, q2, q3⟩ := edgesL_mem.1 he
      have := Array.all_eq_true_iff_forall_mem.1 h3 ed (by simpa using q1)
      rw [q2] at this
      subst q3
      simpa [Lof] using this
  · rintro ⟨o, h1, h2, h3⟩
    have hlt : i < ops.size := by simpa using (List.getElem?_eq_some_iff.1 h1).1
    refine ⟨hlt, ?_, ?_⟩
    · unfold Lof at h2
      rw [Array.getD_eq_getD_getElem?] at h2 ⊢
      rw [Array.getElem?_eq_getElem (by omega)] at h2 ⊢
      simpa using h2
    · have ho : ops[i]? = some o := by simpa using h1
      rw [ho]
      simp only [Option.map_some, Option.getD_some]
      refine Array.all_eq_true_iff_forall_mem.2 (fun ed hed => ?_)
      cases hb : Region.binds .any ed with
      | false => rfl
      | true => simpa [Lof] using h3 ed.on (edgesL_mem.2 ⟨ed, by simpa using hed, hb, rfl⟩)

theorem noInl_ok {α : Type} {P : Program} {E : Env} : InlOK P E (noInl : Inl α) := fun f args bx k x h => by cases h
theorem stepG_wp {P : Program} {E : Env} (hE : EnvOK P E) {T : FuncId → Option CSpec} (hT : TOK P E T) {ops : Array Oper} {c : Ctx} {w : World} {S S1 : St} {a : Act} (h : SR E c w S a) (hd : a.defers = []) {o : Oper} (hs : stepG E T ops.toList S o = some S1)
    {K : Act → World → Prop} {Q : Exit → Act → World → Prop} (hK : ∀ a' c' w', SR E c' w' S1 a' → a'.defers = [] → Ext S.bx.length c w c' w' → K a' w') :
    if Region.wanted o (yielded ops a.tmps) then o.wp P a w K Q else K (a.put o.dst undef) w := by
  have hyes : Region.wanted o (yielded ops a.tmps) = true → (opR E T S o).map (fun p => p.2.put o.dst (strip p.1)) = some S1 → if Region.wanted o (yielded ops a.tmps) then o.wp P a w K Q else K (a.put o.dst undef) w := by
    intro hw hr
    rw [if_pos hw]
    obtain ⟨p, hp, rfl⟩ := Option.map_eq_some_iff.1 hr
    refine opK_ok hE hT noInl_ok h (k := fun v s' => some (v, s')) hp (fun r s' v c' w' g1 g2 g3 g4 g5 => ?_)
    cases g5
    exact hK _ c' w' (g2.put (rep_strip _ _ g1)) (by rw [put_defers]; exact hd) g3
  have hno : Region.wanted o (yielded ops a.tmps) = false → some (S.put o.dst undefA) = some S1 → if Region.wanted o (yielded ops a.tmps) then o.wp P a w K Q else K (a.put o.dst undef) w := by
    intro hw hr
    rw [if_neg (by rw [hw]; simp)]
    cases hr
    exact hK _ c w (h.put (rep_undef c)) (by rw [put_defers]; exact hd) (Ext.refl _ _ _)
  unfold stepG at hs
  cases hg : o.guard with
  | none =>
    have hw : wantA ops.toList S o = some true := by simp only [wantA, hg]
    rw [hw] at hs
    exact hyes (by simp [Region.wanted, hg]) hs
  | some g =>
    obtain ⟨j, want⟩ := g
    cases hga : guardA ops.toList S j with
    | none => simp only [wantA, hg, hga] at hs; cases hs
    | some q =>
      have hgw := guard_wanted h (want := want) hga
      have hwg := wanted_guard (o := o) (o' := { dst := none, op := .alloc 0, type := 0, pos := "", after := #[], guard := some (j, want) }) hg (yielded ops a.tmps)
      cases q with
      | none =>
        simp only at hgw
        simp only [wantA, hg, hga] at hs
        exact hno (by rw [hwg, hgw]) hs
      | some bt =>
        obtain ⟨b, t⟩ := bt
        simp only at hgw
        simp only [wantA, hg, hga] at hs
        cases hc : cond want b (!b) with
        | true => rw [hc] at hs; exact hyes (by rw [hwg, hgw.1, hc]) hs
        | false => rw [hc] at hs; exact hno (by rw [hwg, hgw.1, hc]) hs
theorem any_ok {P : Program} {E : Env} (hE : EnvOK P E) {T : FuncId → Option CSpec} (hT : TOK P E T) {ops : Array Oper} {s0 z : St} {c0 : Ctx} {w0 : World} {Q : Exit → Act → World → Prop} (hR : RunTo E T ops.toList s0 ops.toList.length) (hz : trc E T ops.toList s0 ops.toList.length = some z)
    (hQ : ∀ c' w' a', SR E c' w' z a' → a'.defers = [] → Ext s0.bx.length c0 w0 c' w' → Q .normal a' w') :
    ∀ (fuel : Nat) (listed : Array Bool) (a : Act) (w : World) (c : Ctx) (S : St), SR E c w S a → a.defers = [] → listed.size = ops.size → Closed ops.toList (Lof listed) → Inv E T ops.toList s0 (Lof listed) S → Ext s0.bx.length c0 w0 c w → cf listed.toList ≤ fuel →
      wpAny P .any ops Q fuel listed a w := by
  have hall : ∀ listed : Array Bool, listed.size = ops.size → Region.ready .any ops listed = [] → ∀ i, i < ops.toList.length → Lof listed i := by
    intro listed hsz hr i
    induction i using Nat.strongRecOn with
    | ind i ih =>
      intro hi
      by_cases hL : Lof listed i
      · exact hL
      · have ho : ops.toList[i]? = some ops.toList[i] := List.getElem?_eq_getElem hi
        have : i ∈ Region.ready .any ops listed := (ready_iff hsz).2 ⟨_, ho, hL, fun e he => by
          have := hR.low i _ hi ho e he
          exact ih e this (by omega)⟩
        rw [hr] at this; cases this
  have hend : ∀ (listed : Array Bool) (a : Act) (w : World) (c : Ctx) (S : St), SR E c w S a → a.defers = [] → listed.size = ops.size → Inv E T ops.toList s0 (Lof listed) S → Ext s0.bx.length c0 w0 c w → Region.ready .any ops listed = [] → Q .normal a w := by
    intro listed a w c S h hd hsz hI hX hr
    have := hI.done hR (hall listed hsz hr) hz
    subst this
    exact hQ c w a h hd hX
  intro fuel
  induction fuel with
  | zero =>
    intro listed a w c S h hd hsz hC hI hX hf
    have hr : Region.ready .any ops listed = [] := by
      apply List.eq_nil_iff_forall_not_mem.2
      intro i hi
      obtain ⟨o, h1, h2, _⟩ := (ready_iff hsz).1 hi
      apply h2
      have hlt := (List.getElem?_eq_some_iff.1 h1).1
      simp at hlt
      have := cf_zero (l := listed.toList) (by omega) i (by simp; omega)
      unfold Lof
      rw [Array.getD_eq_getD_getElem?]
      have h3 : listed[i]? = some true := by simpa using this
      rw [h3]; rfl
    exact ⟨hr, hend listed a w c S h hd hsz hI hX hr⟩
  | succ fuel ih =>
    intro listed a w c S h hd hsz hC hI hX hf
    refine ⟨fun hr => hend listed a w c S h hd hsz hI hX hr, fun i hi => ?_⟩
    obtain ⟨o, h1, h2, h3⟩ := (ready_iff hsz).1 hi
    have hlt : i < ops.size := by simpa using (List.getElem?_eq_some_iff.1 h1).1
    obtain ⟨S1, q1, q2, q3⟩ := hI.next hR hC h2 h1 h3
    have hLset : ∀ j, Lof (listed.setIfInBounds i true) j ↔ (Lof listed j ∨ j = i) := by
      intro j
      unfold Lof
      rw [Array.getD_eq_getD_getElem?, Array.getD_eq_getD_getElem?, Array.getElem?_setIfInBounds]
      by_cases hij : i = j
      · subst hij
        rw [if_pos rfl, if_pos (by omega)]
        simp
      · rw [if_neg hij]
        constructor
        · exact fun h => .inl h
        · exact fun h => h.elim id (fun h => (hij h.symm).elim)
    have hLeq : Lof (listed.setIfInBounds i true) = fun j => Lof listed j ∨ j = i := funext fun j => propext (hLset j)
    have ho : ops[i]? = some o := by simpa using h1
    unfold wpOp
    rw [ho]
    simp only
    have hw := stepG_wp hE hT h hd q1 (K := wpAny P .any ops Q fuel (listed.setIfInBounds i true)) (Q := Q) (fun a' c' w' g1 g2 g3 => by
      refine ih _ a' w' c' S1 g1 g2 (by simp [hsz]) ?_ (by rw [hLeq]; exact q2) (hX.trans (by rw [hI.bl]; exact Nat.le_refl _) g3) ?_
      · intro j p hp hj e he
        rw [hLeq] at hj ⊢
        rcases hj with hj | rfl
        · exact .inl (hC j p hp hj e he)
        · rw [h1] at hp; cases hp
          exact .inl (h3 e he)
      · have hfalse : listed.toList[i]? = some false := by
          unfold Lof at h2
          rw [Array.getD_eq_getD_getElem?, Array.getElem?_eq_getElem (by omega)] at h2
          simp at h2
          rw [List.getElem?_eq_getElem (by simp; omega)]
          simpa using h2
        have := cf_set hfalse
        rw [Array.toList_setIfInBounds]
        omega)
    split at hw
    · rename_i hww
      rw [if_pos hww]
      exact .inl hw
    · rename_i hww
      rw [if_neg hww]
      exact hw
theorem SR.drawn {E : Env} {c : Ctx} {w : World} {s : St} {a : Act} (h : SR E c w s a) (n : Nat) : SR E c { w with drawn := n } s a := ⟨⟨h.good.stab, h.good.box, h.good.inj, h.good.tok, h.good.tbox, h.good.tinj⟩, h.fr, h.gl⟩
theorem runD_ok {α : Type} {P : Program} {E : Env} (hE : EnvOK P E) {T : FuncId → Option CSpec} (hT : TOK P E T) {ops : Array Oper} {id : Nat} {k : St → Option α} {x : α} {Q : Exit → Act → World → Prop} {c : Ctx} {w : World} {s : St} {a : Act} (h : SR E c w s a) (hd : a.defers = [])
    (hr : runD E T ops.toList ops.toList 0 [] [] s k = some x)
    (hQ : ∀ c' w' s' a', SR E c' w' s' a' → a'.defers = [] → Ext s.bx.length c w c' w' → s.bx.length ≤ s'.bx.length → k s' = some x → Q .normal a' w') : (Code.region id ops true).wp P Q a w := by
  obtain ⟨z, hR, hz, hk⟩ := runD_run (s0 := s) ops.toList [] rfl [] [] s rfl rfl (fun j m hj => by simp at hj) (fun i o hi => by simp at hi)
    ⟨fun i o hi => by simp at hi, fun i o hi => by simp at hi, fun i o hi => by simp at hi, fun i j p q si sj hij hj => by simp at hj⟩ rfl hr
  refine wp_region_any hT.mixed ?_
  have hlen := trc_len hR ops.toList.length z (Nat.le_refl _) hz
  refine any_ok hE hT hR hz (c0 := c) (w0 := w) (fun c' w' a' g1 g2 g3 => hQ c' w' z a' g1 g2 g3 (by rw [hlen.2]; exact Nat.le_refl _) hk) ops.size _ a _ c s (h.drawn _) hd (by simp) ?_ ?_ ⟨rfl, rfl, rfl, Nat.le_refl _, fun _ _ _ => ⟨rfl, fun _ => rfl⟩, fun _ _ h => h, CLe.refl _, fun _ _ _ h => h⟩ ?_
  · intro j o ho hj
    unfold Lof at hj
    rw [Array.getD_eq_getD_getElem?] at hj
    simp [Array.getElem?_replicate] at hj
    split at hj <;> simp at hj
  · have : Lof (Array.replicate ops.size false) = fun _ => False := by
      funext i
      apply propext
      refine ⟨fun hj => ?_, fun h => h.elim⟩
      unfold Lof at hj
      rw [Array.getD_eq_getD_getElem?] at hj
      simp [Array.getElem?_replicate] at hj
      split at hj <;> simp at hj
    rw [this]
    exact Inv.start hR
  · simp only [Array.toList_replicate]
    rw [cf_replicate]
    exact Nat.le_refl _
end Go.Proofs.AbsV
