/- A clone of a slice as a function of data; words for runs. No condition but those told in each statement. -/
import Derived.Test.YtopbldbgnpeelaaDoorAz
set_option linter.unusedVariables false
set_option linter.unusedSimpArgs false
namespace Go.Proofs.AbsV
open Go

/-- Words for printed runs: a datum as a number, as a text. -/
abbrev dI (x : Int) : Int := x
abbrev dL (x : List Int) : List Int := x
abbrev dS (x : ByteArray) : ByteArray := x
/-- Functions of data, by their numbers. -/
def tab : List (FuncId × (List AV → List (Bool × AV))) → FuncId → Option CSpec
  | [], _ => none
  | p :: r, f => match Nat.beq p.1 f with
    | true => some (.pure p.2)
    | false => tab r f
def TabOK (P : Program) (E : Env) : List (FuncId × (List AV → List (Bool × AV))) → Prop
  | [] => True
  | p :: r => PureOK P E p.1 p.2 ∧ TabOK P E r
theorem tab_ok {P : Program} {E : Env} : ∀ {l : List (FuncId × (List AV → List (Bool × AV)))}, TabOK P E l → ∀ f sp, tab l f = some (.pure sp) → PureOK P E f sp
  | [], _, f, sp, h => by cases h
  | p :: r, h, f, sp, hf => by
    simp only [tab] at hf
    cases hb : Nat.beq p.1 f with
    | true => rw [hb] at hf; cases hf; rw [← Nat.eq_of_beq_eq_true hb]; exact h.1
    | false => rw [hb] at hf; exact tab_ok h.2 f sp hf
theorem tab_bor : ∀ {l : List (FuncId × (List AV → List (Bool × AV)))} f sp spn, tab l f = some (.bor sp spn) → False
  | [], f, sp, spn, h => by cases h
  | p :: r, f, sp, spn, hf => by
    simp only [tab] at hf
    cases hb : Nat.beq p.1 f with
    | true => rw [hb] at hf; cases hf
    | false => rw [hb] at hf; exact tab_bor f sp spn hf
theorem tok_tab {P : Program} {E : Env} (hm : P.follows .mixedOrders = true) {l : List (FuncId × (List AV → List (Bool × AV)))} (h : TabOK P E l) : TOK P E (tab l) := ⟨hm, tab_ok h, fun f sp spn h => (tab_bor f sp spn h).elim⟩
/-- Functions of all kinds, by their numbers. -/
def tabG : List (FuncId × CSpec) → FuncId → Option CSpec
  | [], _ => none
  | p :: r, f => match Nat.beq p.1 f with
    | true => some p.2
    | false => tabG r f
def SpecOK (P : Program) (E : Env) (f : FuncId) : CSpec → Prop
  | .pure sp => PureOK P E f sp
  | .inl => True
  | .bor sp spn => BorOK P E f sp ∧ PureOK P E f spn
def TabGOK (P : Program) (E : Env) : List (FuncId × CSpec) → Prop
  | [] => True
  | p :: r => SpecOK P E p.1 p.2 ∧ TabGOK P E r
theorem tabG_ok {P : Program} {E : Env} : ∀ {l : List (FuncId × CSpec)}, TabGOK P E l → ∀ f c, tabG l f = some c → SpecOK P E f c
  | [], h, f, c, hf => by cases hf
  | p :: r, h, f, c, hf => by
    simp only [tabG] at hf
    cases hb : Nat.beq p.1 f with
    | true => rw [hb] at hf; cases hf; rw [← Nat.eq_of_beq_eq_true hb]; exact h.1
    | false => rw [hb] at hf; exact tabG_ok h.2 f c hf
theorem tok_tabG {P : Program} {E : Env} (hm : P.follows .mixedOrders = true) {l : List (FuncId × CSpec)} (h : TabGOK P E l) : TOK P E (tabG l) := ⟨hm, fun f sp hf => tabG_ok h f _ hf, fun f sp spn hf => tabG_ok h f _ hf⟩
/-- Functions that are run within others, by their numbers. -/
def fnsOf : List (FuncId × Func) → FuncId → Option Func
  | [], _ => none
  | p :: r, f => match Nat.beq p.1 f with
    | true => some p.2
    | false => fnsOf r f
def FnsOK (P : Program) : List (FuncId × Func) → Prop
  | [] => True
  | p :: r => FnOK P p.1 p.2 ∧ FnsOK P r
theorem fnsOf_ok {P : Program} : ∀ {l : List (FuncId × Func)}, FnsOK P l → ∀ f fn, fnsOf l f = some fn → FnOK P f fn
  | [], h, f, c, hf => by cases hf
  | p :: r, h, f, c, hf => by
    simp only [fnsOf] at hf
    cases hb : Nat.beq p.1 f with
    | true => rw [hb] at hf; cases hf; rw [← Nat.eq_of_beq_eq_true hb]; exact h.1
    | false => rw [hb] at hf; exact fnsOf_ok h.2 f c hf
/-- A function with a pointer to a box, out of its run. -/
theorem BorOK.of_run {P : Program} {E : Env} (hE : EnvOK P E) {T : FuncId → Option CSpec} (hT : TOK P E T) {f : FuncId} {fn : Func} (hfn : FnOK P f fn) {hv : Keeps} {sp : List AV → List AV → List (Bool × AV × List AV)}
    (h : ∀ l rest r l', sel (sp l rest) = some (r, l') → ∀ Tt, ∃ (inl : Inl (AV × List Box2)) (fuel : Nat), InlOK P E inl ∧ runF E T inl hv fuel fn (.ptr 0 0 :: stripL rest) [.cells Tt l] (fun r bx => some (r, bx.take 1)) = some (r, [.cells Tt l'])) : BorOK P E f sp := by
  refine ⟨⟨fn, hfn⟩, fun l rest r l' hs hp hpl C w Tt blk crest hgl hg hrest => ?_⟩
  obtain ⟨inl, fuel, hI, hrun⟩ := h l rest r l' hs Tt
  have hargs : RepL (ctxB C blk) (.ptr 0 0 :: stripL rest) (Value.pointer (some ⟨blk, 0, none⟩) :: crest).toArray.toList :=
    ⟨_, _, rfl, ⟨blk, rfl, rfl⟩, repL_strip _ _ hrest⟩
  refine (runF_ok hE hT hI hfn hrun (ctxB C blk) w _ hg hgl hargs).mono fun e w' hh => ?_
  obtain ⟨v, r', bx', c', rfl, g1, g2, g3, g4, g5⟩ := hh
  simp only [Option.some.injEq, Prod.mk.injEq] at g1
  obtain ⟨rfl, g1⟩ := g1
  refine ⟨v, c', rfl, g3, ?_, g4⟩
  have := g2.take 1
  rw [g1] at this
  exact this
theorem cond_pos {α : Sort _} {p : Prop} [Decidable p] (h : p) (a b : α) : cond (decide p) a b = a := by rw [decide_eq_true h]; rfl
theorem cond_neg {α : Sort _} {p : Prop} [Decidable p] (h : ¬ p) (a b : α) : cond (decide p) a b = b := by rw [decide_eq_false h]; rfl
/-- A slice that comes in, as data. -/
def cloneSp (τ : Ty) (e : TypeId) (bytes : Nat) : List AV → List (Bool × AV)
  | [y] => match srcOf τ y with
    | some xs => [(decide (xs.length * bytes ≤ 140737488355328), .sl τ xs none (some (0, e)))]
    | none => []
  | _ => []
theorem srcOf_some {τ : Ty} {y : AV} {xs : List τ.den} (h : srcOf τ y = some xs) : (∃ nl own, y = .sl τ xs nl own) ∨ (y = .nilsl ∧ xs = []) := by
  unfold srcOf at h
  split at h
  · rename_i τ' ys nl own
    split at h
    · rename_i hτ
      subst hτ
      cases h
      exact .inl ⟨nl, own, rfl⟩
    · cases h
  · cases h
    exact .inr ⟨rfl, rfl⟩
  · cases h
def bytesIn (y : AV) : Option (List Int) := srcOf (.int .u8) y
theorem bytesIn_some {y : AV} {xs : List Int} (h : bytesIn y = some xs) : (∃ nl own, y = .sl (.int .u8) xs nl own) ∨ (y = .nilsl ∧ xs = []) := srcOf_some h
/-- Arguments may be read otherwise before the run. -/
def Reads (l l' : List AV) : Prop := ∀ (C : Stab) (vs : List Value), RepL (ctx0 C) l vs → RepL (ctx0 C) l' vs
theorem Reads.nil : Reads [] [] := fun _ _ h => h
theorem Reads.same {x : AV} {l l' : List AV} (h : Reads l l') : Reads (x :: l) (x :: l') := fun C vs hr => by
  simp only [RepL] at hr ⊢
  obtain ⟨v, r, rfl, h1, h2⟩ := hr
  exact ⟨v, r, rfl, h1, h C r h2⟩
theorem rep_src {C : Stab} {τ : Ty} {y : AV} {xs : List τ.den} {v : Value} (h : srcOf τ y = some xs) (hr : Rep (ctx0 C) y v) : Rep (ctx0 C) (.sl τ xs none none) v := by
  rcases srcOf_some h with ⟨nl, own, rfl⟩ | ⟨rfl, rfl⟩
  · simp only [Rep] at hr ⊢
    obtain ⟨A, n, cap, h1, h2, _, _⟩ := hr
    exact ⟨A, n, cap, h1, h2, trivial, trivial⟩
  · simp only [Rep] at hr
    subst hr
    exact ⟨none, 0, 0, rfl, ⟨rfl, Nat.le_refl _, fun _ => rfl, by omega, fun i hi => by simp at hi⟩, trivial, trivial⟩
theorem Reads.src {τ : Ty} {y : AV} {xs : List τ.den} {l l' : List AV} (hy : srcOf τ y = some xs) (h : Reads l l') : Reads (y :: l) (.sl τ xs none none :: l') := fun C vs hr => by
  simp only [RepL] at hr ⊢
  obtain ⟨v, r, rfl, h1, h2⟩ := hr
  exact ⟨v, r, rfl, rep_src hy h1, h C r h2⟩
theorem Reads.bytes {y : AV} {xs : List Int} {l l' : List AV} (hy : bytesIn y = some xs) (h : Reads l l') : Reads (y :: l) (.sl (.int .u8) xs none none :: l') := Reads.src hy h
theorem PureOK.of_reads {P : Program} {E : Env} (hE : EnvOK P E) {T : FuncId → Option CSpec} (hT : TOK P E T) {inl : Inl AV} (hI : InlOK P E inl) {f : FuncId} {fn : Func} (hfn : FnOK P f fn) {hv : Keeps} {sp : List AV → List (Bool × AV)}
    (h : ∀ args r, sel (sp args) = some r → ∃ args' fuel, Reads args args' ∧ runF E T inl hv fuel fn args' [] (fun r bx => some r) = some r) : PureOK P E f sp := by
  refine ⟨⟨fn, hfn⟩, fun args r hr hp C w cargs hstab hgl hargs => ?_⟩
  obtain ⟨args', fuel, hrd, hrun⟩ := h args r hr
  have hg : Good (ctx0 C) w [] := ⟨hstab, (fun i B hi => by simp at hi), (fun i j k hi => by simp at hi), (fun j T s v ht => by cases ht), (fun j T s a n cap i ht => by cases ht), (fun j T s a n cap j' T' s' a' n' cap' ht => by cases ht)⟩
  refine (runF_ok hE hT hI hfn hrun (ctx0 C) w cargs hg hgl (hrd C _ hargs)).mono fun e w' hh => ?_
  obtain ⟨v, r', bx', c', rfl, g1, g2, g3, g4, g5⟩ := hh
  cases g1
  exact ⟨v, c', rfl, g3, by simpa using g2.take 0, g4⟩
theorem pureOK_clone {P : Program} {E : Env} (hE : EnvOK P E) {T : FuncId → Option CSpec} (hT : TOK P E T) {f : FuncId} {fn : Func} (hfn : FnOK P f fn) {hv : Keeps} {τ : Ty} {e : TypeId} {bytes : Nat}
    (hnil : ∀ k : AV → List Box2 → Option AV, runF E T noInl hv 1 fn [.nilsl] [] k = k .nilsl [])
    (hyes : ∀ k : AV → List Box2 → Option AV, runF E T noInl hv 1 fn [.sl τ [] (some true) none] [] k = k .nilsl [])
    (hno : ∀ (xs : List τ.den) (k : AV → List Box2 → Option AV), runF E T noInl hv 1 fn [.sl τ xs (some false) none] [] k = cond (decide ((([] : List τ.den).length + xs.length) * bytes ≤ 140737488355328)) (k (.sl τ ([] ++ xs) none (some (0, e))) []) none) :
    PureOK P E f (cloneSp τ e bytes) := by
  refine ⟨⟨fn, hfn⟩, fun args r hr hp C w cargs hstab hgl hargs => ?_⟩
  have hg : Good (ctx0 C) w [] := ⟨hstab, (fun i B hi => by simp at hi), (fun i j k hi => by simp at hi), (fun j T s v ht => by cases ht), (fun j T s a n cap i ht => by cases ht), (fun j T s a n cap j' T' s' a' n' cap' ht => by cases ht)⟩
  unfold cloneSp at hr
  split at hr
  · rename_i y
    split at hr
    · rename_i xs hxs
      simp only [sel] at hr
      cases hb : decide (xs.length * bytes ≤ 140737488355328) with
      | false => rw [hb] at hr; cases hr
      | true =>
        rw [hb] at hr
        simp only [cond_true, Option.some.injEq] at hr
        subst hr
        have nilcase : ∀ (x : AV), RepL (ctx0 C) [x] cargs.toList → xs = [] → runF E T noInl hv 1 fn [x] [] (fun r bx => some r) = some .nilsl →
            Calls P f cargs w (fun e' w' => ∃ v c', e' = .returned v ∧ Rep c' (.sl τ xs none (some (0, e))) v ∧ Good c' w' [] ∧ Ext 0 (ctx0 C) w c' w') := by
          intro x hx hnil' hrun
          refine (runF_ok hE hT noInl_ok hfn hrun (ctx0 C) w cargs hg hgl hx).mono fun e' w' hh => ?_
          obtain ⟨v, r', bx', c', rfl, g1, g2, g3, g4, g5⟩ := hh
          cases g1
          simp only [Rep] at g3
          subst g3
          have hg0 : Good c' w' [] := by simpa using g2.take 0
          obtain ⟨h1, h2⟩ := hg0.addTok (j := 0) (T := e) (sz := τ.size) (.inl rfl) (fun B hB => by cases hB)
          refine ⟨_, _, rfl, ?_, h1, g4.trans (Nat.le_refl _) (h2 0)⟩
          subst hnil'
          refine ⟨none, 0, 0, rfl, ⟨rfl, Nat.le_refl _, fun _ => rfl, by omega, fun i hi => by simp at hi⟩, trivial, ?_⟩
          simp [OwnOK, Ctx.addTok]
        rcases srcOf_some hxs with ⟨nl, own, rfl⟩ | ⟨rfl, rfl⟩
        · have hargs' := hargs
          simp only [RepL] at hargs
          obtain ⟨v0, r0, hv0, hrep, hr0⟩ := hargs
          simp only [Rep] at hrep
          obtain ⟨A, n, cap, hv, hsl, hnl, hown⟩ := hrep
          cases A with
          | none =>
            have hxs0 : xs = [] := by
              have h1 := hsl.1
              have h2 := hsl.2.2.1 rfl
              have h3 := hsl.2.1
              exact List.eq_nil_of_length_eq_zero (by omega)
            refine nilcase (.sl τ [] (some true) none) ?_ hxs0 (hyes _)
            rw [hv0, hr0]
            exact ⟨v0, [], rfl, ⟨none, n, cap, hv, hxs0 ▸ hsl, rfl, trivial⟩, rfl⟩
          | some A =>
            have hx : RepL (ctx0 C) [.sl τ xs (some false) none] cargs.toList := by
              rw [hv0, hr0]
              exact ⟨v0, [], rfl, ⟨some A, n, cap, hv, hsl, rfl, trivial⟩, rfl⟩
            have hrun := hno xs (fun r bx => some r)
            rw [show (([] : List τ.den).length + xs.length) = xs.length by simp, hb] at hrun
            simp only [cond_true, List.nil_append] at hrun
            refine (runF_ok hE hT noInl_ok hfn hrun (ctx0 C) w cargs hg hgl hx).mono fun e' w' hh => ?_
            obtain ⟨v, r', bx', c', rfl, g1, g2, g3, g4, g5⟩ := hh
            cases g1
            exact ⟨v, c', rfl, g3, by simpa using g2.take 0, g4⟩
        · exact nilcase .nilsl hargs rfl (hnil _)
    · cases hr
  · cases hr
/-! ### Loops within loops; functions told by what they do with boxes -/
def loopK {α : Type} (nb : Nat) (kh ke : Option (List Nat)) (body : St → (Ex → St → Option α) → Option α) (n : Nat) (k : Ex → St → Option α) : Ex → St → Option α := fun e s' => match e with
  | .normal => match head nb kh s' with
    | some s2 => loopH nb kh ke body n s2 k
    | none => none
  | e => match head nb ke s' with
    | some s2 => k e s2
    | none => none
abbrev QSpec := List AV → List Box2 → List (Bool × (AV × List Box2))
structure QOK (P : Program) (E : Env) (f : FuncId) (q : QSpec) : Prop where
  fn : ∃ fn, FnOK P f fn
  ok : ∀ args bx r bx', sel (q args bx) = some (r, bx') → ∀ (c : Ctx) (w : World) (cargs : Array Value), Good c w bx → GlOK E c.C → RepL c args cargs.toList →
    Calls P f cargs w (fun e w' => ∃ v c', e = .returned v ∧ Good c' w' bx' ∧ Rep c' r v ∧ Ext bx.length c w c' w' ∧ bx.length ≤ bx'.length)
def inlT {α : Type} : List (FuncId × QSpec) → Inl α → Inl α
  | [], d => d
  | p :: l, d => fun f args bx k => bif Nat.beq p.1 f then pick (p.2 args bx) (fun z => k z.1 z.2) else inlT l d f args bx k
def QTabOK (P : Program) (E : Env) : List (FuncId × QSpec) → Prop
  | [] => True
  | p :: r => QOK P E p.1 p.2 ∧ QTabOK P E r
theorem pick_some {α β : Type} {l : List (Bool × β)} {k : β → Option α} {x : α} (h : pick l k = some x) : ∃ z, sel l = some z ∧ k z = some x := by
  rw [pick_sel] at h
  cases hs : sel l with
  | none => rw [hs] at h; cases h
  | some z => rw [hs] at h; exact ⟨z, rfl, h⟩
theorem inlT_ok {α : Type} {P : Program} {E : Env} {d : Inl α} (hd : InlOK P E d) : ∀ {l : List (FuncId × QSpec)}, QTabOK P E l → InlOK P E (inlT l d)
  | [], _ => hd
  | p :: l, h => fun f args bx k x hx => by
    simp only [inlT] at hx
    cases hb : Nat.beq p.1 f with
    | true =>
      rw [hb] at hx
      have hf := Nat.eq_of_beq_eq_true hb
      subst hf
      obtain ⟨z, hz, hk⟩ := pick_some hx
      refine ⟨h.1.fn, fun c w cargs hg hgl hargs => (h.1.ok args bx z.1 z.2 hz c w cargs hg hgl hargs).mono fun e w' hh => ?_⟩
      obtain ⟨v, c', h1, h2, h3, h4, h5⟩ := hh
      exact ⟨v, z.1, z.2, c', h1, hk, h2, h3, h4, h5⟩
    | false =>
      rw [hb] at hx
      exact inlT_ok hd h.2 f args bx k x hx
def inlDQ {α : Type} (E : Env) (T : FuncId → Option CSpec) (qs : List (FuncId × QSpec)) (fns : FuncId → Option Func) (hv : FuncId → Keeps) (fuel : Nat) : Nat → Inl α
  | 0 => inlT qs noInl
  | d + 1 => inlT qs (fun f args bx k => match fns f with
    | some fn => runF E T (inlDQ E T qs fns hv fuel d) (hv f) fuel fn args bx k
    | none => none)
theorem inlDQ_ok {α : Type} {P : Program} {E : Env} (hE : EnvOK P E) {T : FuncId → Option CSpec} (hT : TOK P E T) {qs : List (FuncId × QSpec)} (hq : QTabOK P E qs) {fns : FuncId → Option Func} (hF : ∀ f fn, fns f = some fn → FnOK P f fn) {hv : FuncId → Keeps} {fuel : Nat} :
    ∀ d, InlOK P E (inlDQ (α := α) E T qs fns hv fuel d)
  | 0 => inlT_ok noInl_ok hq
  | d + 1 => inlT_ok (fun f args bx k x h => by
    split at h
    · rename_i fn hfn
      exact ⟨⟨fn, hF f fn hfn⟩, fun c w cargs hg hgl hargs => runF_ok hE hT (inlDQ_ok hE hT hq hF d) (hF f fn hfn) h c w cargs hg hgl hargs⟩
    · cases h) hq
/-- Arguments may be read otherwise before the run, whatever is known. -/
def ReadsC (l l' : List AV) : Prop := ∀ (c : Ctx) (vs : List Value), RepL c l vs → RepL c l' vs
theorem ReadsC.nil : ReadsC [] [] := fun _ _ h => h
theorem ReadsC.refl (l : List AV) : ReadsC l l := fun _ _ h => h
theorem ReadsC.same {x : AV} {l l' : List AV} (h : ReadsC l l') : ReadsC (x :: l) (x :: l') := fun C vs hr => by
  simp only [RepL] at hr ⊢
  obtain ⟨v, r, rfl, h1, h2⟩ := hr
  exact ⟨v, r, rfl, h1, h C r h2⟩
theorem rep_srcC {c : Ctx} {τ : Ty} {y : AV} {xs : List τ.den} {v : Value} (h : srcOf τ y = some xs) (hr : Rep c y v) : Rep c (.sl τ xs none none) v := by
  rcases srcOf_some h with ⟨nl, own, rfl⟩ | ⟨rfl, rfl⟩
  · simp only [Rep] at hr ⊢
    obtain ⟨A, n, cap, h1, h2, _, _⟩ := hr
    exact ⟨A, n, cap, h1, h2, trivial, trivial⟩
  · simp only [Rep] at hr
    subst hr
    exact ⟨none, 0, 0, rfl, ⟨rfl, Nat.le_refl _, fun _ => rfl, by omega, fun i hi => by simp at hi⟩, trivial, trivial⟩
theorem ReadsC.src {τ : Ty} {y : AV} {xs : List τ.den} {l l' : List AV} (hy : srcOf τ y = some xs) (h : ReadsC l l') : ReadsC (y :: l) (.sl τ xs none none :: l') := fun C vs hr => by
  simp only [RepL] at hr ⊢
  obtain ⟨v, r, rfl, h1, h2⟩ := hr
  exact ⟨v, r, rfl, rep_srcC hy h1, h C r h2⟩
theorem QOK.of_run {P : Program} {E : Env} (hE : EnvOK P E) {T : FuncId → Option CSpec} (hT : TOK P E T) {inl : Inl (AV × List Box2)} (hI : InlOK P E inl) {f : FuncId} {fn : Func} (hfn : FnOK P f fn) {hv : Keeps} {q : QSpec}
    (h : ∀ args bx r bx', sel (q args bx) = some (r, bx') → ∃ args' fuel, ReadsC args args' ∧ runF E T inl hv fuel fn args' bx (fun r bx => some (r, bx)) = some (r, bx')) : QOK P E f q := by
  refine ⟨⟨fn, hfn⟩, fun args bx r bx' hs c w cargs hg hgl hargs => ?_⟩
  obtain ⟨args', fuel, hrd, hrun⟩ := h args bx r bx' hs
  refine (runF_ok hE hT hI hfn hrun c w cargs hg hgl (hrd c _ hargs)).mono fun e w' hh => ?_
  obtain ⟨v, r', bx2, c', rfl, g1, g2, g3, g4, g5⟩ := hh
  cases g1
  exact ⟨v, c', rfl, g2, g3, g4, g5⟩
/-- A function with a pointer to a box, out of its run; the other arguments may be read otherwise before. -/
theorem BorOK.of_runR {P : Program} {E : Env} (hE : EnvOK P E) {T : FuncId → Option CSpec} (hT : TOK P E T) {f : FuncId} {fn : Func} (hfn : FnOK P f fn) {hv : Keeps} {sp : List AV → List AV → List (Bool × AV × List AV)}
    (h : ∀ l rest r l', sel (sp l rest) = some (r, l') → ∀ Tt, ∃ (inl : Inl (AV × List Box2)) (fuel : Nat) (rest' : List AV), InlOK P E inl ∧ ReadsC rest rest' ∧ runF E T inl hv fuel fn (.ptr 0 0 :: rest') [.cells Tt l] (fun r bx => some (r, bx.take 1)) = some (r, [.cells Tt l'])) : BorOK P E f sp := by
  refine ⟨⟨fn, hfn⟩, fun l rest r l' hs hp hpl C w Tt blk crest hgl hg hrest => ?_⟩
  obtain ⟨inl, fuel, rest', hI, hrd, hrun⟩ := h l rest r l' hs Tt
  have hargs : RepL (ctxB C blk) (.ptr 0 0 :: rest') (Value.pointer (some ⟨blk, 0, none⟩) :: crest).toArray.toList :=
    ⟨_, _, rfl, ⟨blk, rfl, rfl⟩, hrd _ _ hrest⟩
  refine (runF_ok hE hT hI hfn hrun (ctxB C blk) w _ hg hgl hargs).mono fun e w' hh => ?_
  obtain ⟨v, r', bx', c', rfl, g1, g2, g3, g4, g5⟩ := hh
  simp only [Option.some.injEq, Prod.mk.injEq] at g1
  obtain ⟨rfl, g1⟩ := g1
  refine ⟨v, c', rfl, g3, ?_, g4⟩
  have := g2.take 1
  rw [g1] at this
  exact this
end Go.Proofs.AbsV
