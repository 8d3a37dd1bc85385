/- Regions whose order is drawn, second half. No condition but those told in each statement. -/
import Derived.Test.YtopbldbgnpeelaaDoorAq
set_option linter.unusedVariables false
set_option linter.unusedSimpArgs false
namespace Go.Proofs.AbsV
open Go

section
variable {α : Type} {E : Env} {T : FuncId → Option CSpec} {ops : List Oper}
/-! ### What an operation does not look at does not matter -/
def Twin (S s : St) : List (Bool × AV × St) → List (Bool × AV × St) → Prop
  | [], [] => True
  | p :: l, q :: l' => (p.1 = q.1 ∧ strip p.2.1 = strip q.2.1 ∧ p.2.2 = S ∧ q.2.2 = s) ∧ Twin S s l l'
  | _, _ => False
theorem twin_map {S s : St} : ∀ l : List (Bool × AV), Twin S s (l.map fun p => (p.1, p.2, S)) (l.map fun p => (p.1, p.2, s))
  | [] => trivial
  | _ :: l => ⟨⟨rfl, rfl, rfl, rfl⟩, twin_map l⟩
theorem twin_one {S s : St} {g : Bool} {x y : AV} (h : strip x = strip y) : Twin S s [(g, x, S)] [(g, y, s)] := ⟨⟨rfl, h, rfl, rfl⟩, trivial⟩
theorem twin_sel {S s : St} : ∀ {l l' : List (Bool × AV × St)}, Twin S s l l' → ∀ {q}, sel l' = some q → q.2 = s ∧ ∃ v, sel l = some (v, S) ∧ strip v = strip q.1
  | [], [], _, q, h => by cases h
  | [], _ :: _, h, _, _ => h.elim
  | _ :: _, [], h, _, _ => h.elim
  | (g, v, S1) :: l, (g', v', s1) :: l', h, q, hs => by
    obtain ⟨⟨h1, h2, h3, h4⟩, hr⟩ := h
    simp only at h1 h2 h3 h4
    subst h1 h3 h4
    cases g with
    | true =>
      simp only [sel, cond_true, Option.some.injEq] at hs ⊢
      subst hs
      exact ⟨rfl, v, rfl, h2⟩
    | false =>
      simp only [sel, cond_false] at hs ⊢
      exact twin_sel hr hs
theorem mem_ops_part {ps : Array (Nat × Operand)} {p : Nat × Operand} (hp : p ∈ ps.toList) : p.2 ∈ (ps.toList.map (·.2)).toArray.toList := by
  simp only [List.mem_map]
  exact ⟨p, hp, rfl⟩
/-- Operations that turn nothing. -/
theorem quiet_twin {S s : St} {o : Oper} (hc : calmOp o = true) (hstore : ∀ t a v, o.op ≠ .store t a v) (he : ∀ x ∈ o.op.operands.toList, ev S x = ev s x)
    (hb : ∀ b w, touchA T s o = some (b, w) → S.bx[b]? = s.bx[b]?) (hl : S.bx.length = s.bx.length) (hcall : ∀ x as ts, o.op ≠ .call { callee := .value x, args := as, argTypes := ts }) : Twin S s (opM E S o) (opM E s o) := by
  have one : ∀ x, o.op.operands = #[x] → ev S x = ev s x := fun x hx => he x (by rw [hx]; simp)
  have two : ∀ x y, o.op.operands = #[x, y] → ev S x = ev s x ∧ ev S y = ev s y := fun x y hx => ⟨he x (by rw [hx]; simp), he y (by rw [hx]; simp)⟩
  have three : ∀ x y z, o.op.operands = #[x, y, z] → ev S x = ev s x ∧ ev S y = ev s y ∧ ev S z = ev s z := fun x y z hx => ⟨he x (by rw [hx]; simp), he y (by rw [hx]; simp), he z (by rw [hx]; simp)⟩
  unfold calmOp at hc
  unfold opM
  cases ho : o.op with
  | move x => simp only [opV, ho, one x (by rw [ho]; rfl)]; exact twin_map _
  | assign x => simp only [opV, ho, one x (by rw [ho]; rfl)]; exact twin_map _
  | nilCheck x => simp only [opV, ho, one x (by rw [ho]; rfl)]; exact twin_map _
  | unOp p t x => simp only [opV, ho, one x (by rw [ho]; rfl)]; exact twin_map _
  | makeInterface t x => simp only [opV, ho, one x (by rw [ho]; rfl)]; exact twin_map _
  | fieldAddr t x f => simp only [opV, ho, one x (by rw [ho]; rfl)]; exact twin_map _
  | field t x f => simp only [opV, ho, one x (by rw [ho]; rfl)]; exact twin_map _
  | extract x i => simp only [opV, ho, one x (by rw [ho]; rfl)]; exact twin_map _
  | typeAssert x t a c => simp only [opV, ho, one x (by rw [ho]; rfl)]; exact twin_map _
  | pick c a b =>
    obtain ⟨h1, h2, h3⟩ := three c a b (by rw [ho]; rfl)
    simp only [opV, ho, h1, h2, h3]; exact twin_map _
  | binOp p t x y t' =>
    obtain ⟨h1, h2⟩ := two x y (by rw [ho]; rfl)
    simp only [opV, ho, h1, h2]; exact twin_map _
  | indexAddr t x y =>
    obtain ⟨h1, h2⟩ := two x y (by rw [ho]; rfl)
    simp only [opV, ho, h1, h2]; exact twin_map _
  | index t x y =>
    obtain ⟨h1, h2⟩ := two x y (by rw [ho]; rfl)
    simp only [opV, ho, h1, h2]; exact twin_map _
  | load t x =>
    have hx := one x (by rw [ho]; rfl)
    have hload : loadA E S t (ev s x) = loadA E s t (ev s x) := by
      unfold loadA
      have hcells : ∀ a, (∀ b off, a = .ptr b off → S.bx[b]? = s.bx[b]?) → cellsAt E S a = cellsAt E s a := by
        intro a ha
        unfold cellsAt
        cases a with
        | ptr b off => simp only [ha b off rfl]
        | _ => rfl
      have hthis := hcells (ev s x) (fun b off hx' => hb b false (by unfold touchA; rw [ho]; simp only [hx']))
      split
      · rfl
      · rename_i i hi
        cases hxx : ev s x with
        | glob g off => rfl
        | _ => rw [hxx] at hthis; simp only [hthis]
    simp only [opV, ho, hx, hload]; exact twin_map _
  | build t ps =>
    have : (ps.toList.map fun p => (p.1, ev S p.2)) = ps.toList.map fun p => (p.1, ev s p.2) :=
      List.map_congr_left (fun p hp => by rw [he p.2 (by rw [ho]; exact mem_ops_part hp)])
    simp only [opV, ho, this]; exact twin_map _
  | buildSlice t n ps =>
    have : (ps.toList.map fun p => (p.1, ev S p.2)) = ps.toList.map fun p => (p.1, ev s p.2) :=
      List.map_congr_left (fun p hp => by rw [he p.2 (by rw [ho]; exact mem_ops_part hp)])
    simp only [this]
    unfold buildSliceA
    rw [hl]
    repeat' split
    all_goals first | exact trivial | exact twin_one rfl
  | convert src dst x =>
    simp only [one x (by rw [ho]; rfl)]
    repeat' split
    all_goals first | exact trivial | exact twin_one rfl | exact twin_map _
  | slice t x lo hi mx =>
    have hx : ev S x = ev s x := he x (by rw [ho]; simp [Op.operands])
    have h1 : lo.map (ev S) = lo.map (ev s) := by
      cases lo with
      | none => rfl
      | some y => simp only [Option.map_some]; rw [he y (by rw [ho]; simp [Op.operands])]
    have h2 : hi.map (ev S) = hi.map (ev s) := by
      cases hi with
      | none => rfl
      | some y => simp only [Option.map_some]; rw [he y (by rw [ho]; simp [Op.operands])]
    have h3 : mx.map (ev S) = mx.map (ev s) := by
      cases mx with
      | none => rfl
      | some y => simp only [Option.map_some]; rw [he y (by rw [ho]; simp [Op.operands])]
    simp only [hx, h1, h2, h3]
    unfold sliceA
    repeat' split
    all_goals first | exact trivial | exact twin_one rfl
  | call cl =>
    obtain ⟨callee, as, ts⟩ := cl
    cases callee with
    | value x => exact (hcall x as ts ho).elim
    | invoke r m => rw [ho] at hc; cases hc
    | builtin b =>
      rw [ho] at hc
      have hargs : as.toList.map (ev S) = as.toList.map (ev s) := List.map_congr_left (fun x hx => he x (by rw [ho]; simpa [Op.operands, Call.operands] using hx))
      have hap : appendOf b ts.toList as.toList = none := by cases b <;> first | rfl | (cases hc)
      simp only [hap, hargs]
      exact twin_map _
  | store t a v => exact (hstore t a v ho).elim
  | _ => rw [ho] at hc; cases hc

/-- An operation in two states that look alike to it. -/
theorem opR_local {S s s' : St} {o : Oper} {v : AV} (hc : calmOp o = true) (he : ∀ x ∈ o.op.operands.toList, ev S x = ev s x)
    (hb : ∀ b w, touchA T s o = some (b, w) → S.bx[b]? = s.bx[b]?) (hl : S.bx.length = s.bx.length) (h : opR E T s o = some (v, s')) :
    ∃ v2 S', opR E T S o = some (v2, S') ∧ strip v2 = strip v ∧ S'.fr = S.fr ∧ s'.fr = s.fr ∧ S'.bx.length = S.bx.length ∧ s'.bx.length = s.bx.length ∧
      (∀ b, touchA T s o ≠ some (b, true) → S'.bx[b]? = S.bx[b]? ∧ s'.bx[b]? = s.bx[b]?) ∧ (∀ b, touchA T s o = some (b, true) → S'.bx[b]? = s'.bx[b]?) := by
  by_cases hcall : ∃ x as ts, o.op = .call { callee := .value x, args := as, argTypes := ts }
  · obtain ⟨x, as, ts, ho⟩ := hcall
    have hx : ev S x = ev s x := he x (by rw [ho]; simp [Op.operands, Call.operands])
    have hargs : as.toList.map (ev S) = as.toList.map (ev s) := List.map_congr_left (fun y hy => he y (by rw [ho]; simp [Op.operands, Call.operands, hy]))
    unfold opR opK at h ⊢
    rw [ho] at h ⊢
    simp only at h ⊢
    rw [hx, hargs]
    split at h
    · rename_i f cap hf
      have pureCase : ∀ sp, touchA T s o = none → pureK (α := AV × St) sp s (as.toList.map (ev s) ++ cap) (fun v s' => some (v, s')) = some (v, s') →
          ∃ v2 S', pureK (α := AV × St) sp S (as.toList.map (ev s) ++ cap) (fun v s' => some (v, s')) = some (v2, S') ∧ strip v2 = strip v ∧ S'.fr = S.fr ∧ s'.fr = s.fr ∧ S'.bx.length = S.bx.length ∧ s'.bx.length = s.bx.length ∧
            (∀ b, touchA T s o ≠ some (b, true) → S'.bx[b]? = S.bx[b]? ∧ s'.bx[b]? = s.bx[b]?) ∧ (∀ b, touchA T s o = some (b, true) → S'.bx[b]? = s'.bx[b]?) := by
        intro sp htouch h
        unfold pureK at h ⊢
        rw [pick_sel] at h
        split at h
        · rename_i hp
          obtain ⟨r, hr1, hr2⟩ := Option.bind_eq_some_iff.1 h
          split at hr2
          · rename_i hpr
            cases hr2
            simp only [pick_sel, hp, if_true, hr1, Option.bind_some, hpr]
            exact ⟨_, _, rfl, by rw [strip_shift, strip_shift], by simp, by simp, by simp, by simp, fun b _ => by simp, fun b hb' => by rw [htouch] at hb'; cases hb'⟩
          · cases hr2
        · cases h
      unfold callK at h ⊢
      split at h
      · rename_i sp hsp
        have htouch : touchA T s o = none := by unfold touchA; rw [ho]; simp only [hf, hsp]
        try simp only [hsp]
        exact pureCase sp htouch h
      · simp only [noInl] at h; split at h <;> cases h
      · rename_i sp spn hsp
        split at h
        · rename_i b rest hbr
          have htouch : touchA T s o = some (b, true) := by unfold touchA; rw [ho]; simp only [hf, hsp, hbr]
          have hbx := hb b true htouch
          split at h
          · rename_i Tt l hB
            split at h
            · rename_i hpl
              rw [pick_sel] at h
              obtain ⟨p, hp1, hp2⟩ := Option.bind_eq_some_iff.1 h
              split at hp2
              · rename_i hpp
                cases hp2
                have hbl := (List.getElem?_eq_some_iff.1 hB).1
                simp only [hsp, hbr, hbx, hB, hpl, if_true, pick_sel, hp1, Option.bind_some, hpp]
                refine ⟨_, _, rfl, by rw [strip_shift, strip_shift], by simp, by simp, by simp, by simp, fun b' hb' => ?_, fun b' hb' => ?_⟩
                · have hne : b ≠ b' := fun e => hb' (by rw [htouch, e])
                  simp only
                  rw [List.getElem?_set_ne hne, List.getElem?_set_ne hne]
                  exact ⟨rfl, rfl⟩
                · rw [htouch] at hb'
                  cases hb'
                  simp only
                  rw [List.getElem?_set_self (by omega), List.getElem?_set_self (by omega)]
              · cases hp2
            · cases h
          · cases h
        · rename_i hbr
          have htouch : touchA T s o = none := by unfold touchA; rw [ho]; simp only [hf, hsp, hbr]
          try simp only [hsp, hbr]
          exact pureCase spn htouch h
      · cases h
    · cases h
  · by_cases hstore : ∃ t a x, o.op = .store t a x
    · obtain ⟨t, a, x, ho⟩ := hstore
      have ha : ev S a = ev s a := he a (by rw [ho]; simp [Op.operands])
      have hx : ev S x = ev s x := he x (by rw [ho]; simp [Op.operands])
      have hop : ∀ z, opR E T z o = (sel (storeA E z t (ev z a) (ev z x))).bind fun p => some (p.1, p.2) := fun z => by
        unfold opR opK opM
        rw [ho]
        simp only
        rw [pick_sel]
      rw [hop] at h ⊢
      rw [ha, hx]
      obtain ⟨p, hp1, hp2⟩ := Option.bind_eq_some_iff.1 h
      cases hp2
      unfold storeA at hp1 ⊢
      split at hp1
      · rename_i i b off vs hi hab hvs
        have htouch : touchA T s o = some (b, true) := by unfold touchA; rw [ho]; simp only [hab]
        have hbx := hb b true htouch
        rw [hbx]
        split at hp1
        · rename_i Tt l hB
          try rw [hB]
          try simp only
          split at hp1
          · rename_i hcond
            try rw [if_pos hcond]
            simp only [sel, cond_true, Option.some.injEq] at hp1
            subst hp1
            have hbl := (List.getElem?_eq_some_iff.1 hB).1
            refine ⟨_, _, rfl, rfl, rfl, rfl, by simp, by simp, fun b' hb' => ?_, fun b' hb' => ?_⟩
            · have hne : b ≠ b' := fun e => hb' (by rw [htouch, e])
              simp only
              rw [List.getElem?_set_ne hne, List.getElem?_set_ne hne]
              exact ⟨rfl, rfl⟩
            · rw [htouch] at hb'
              cases hb'
              simp only
              rw [List.getElem?_set_self (by omega), List.getElem?_set_self (by omega)]
          · cases hp1
        · cases hp1
      · cases hp1
    · have hstore' : ∀ t a x, o.op ≠ .store t a x := fun t a x e => hstore ⟨t, a, x, e⟩
      have hcall' : ∀ x as ts, o.op ≠ .call { callee := .value x, args := as, argTypes := ts } := fun x as ts e => hcall ⟨x, as, ts, e⟩
      have htw := quiet_twin (E := E) (S := S) (s := s) hc hstore' he hb hl hcall'
      have hnw : ∀ b, touchA T s o ≠ some (b, true) := fun b hb' => by
        unfold touchA at hb'
        split at hb'
        · rename_i x as ts ho; exact hcall' _ _ _ ho
        · split at hb' <;> cases hb'
        · rename_i t a x ho; exact hstore' _ _ _ ho
        · cases hb'
      have hop : ∀ z, opR E T z o = (sel (opM E z o)).bind fun p => some (p.1, p.2) := fun z => by
        unfold opR opK
        split
        · rename_i x as ts ho; exact (hcall' _ _ _ ho).elim
        · rw [pick_sel]
      rw [hop] at h ⊢
      obtain ⟨p, hp1, hp2⟩ := Option.bind_eq_some_iff.1 h
      cases hp2
      obtain ⟨q1, v2, q2, q3⟩ := twin_sel htw hp1
      rw [q2, q1]
      exact ⟨_, _, rfl, q3, rfl, rfl, rfl, rfl, fun b _ => ⟨rfl, rfl⟩, fun b hb' => (hnw b hb').elim⟩
end
end Go.Proofs.AbsV
