/- Code up to a place that the machine does not walk: what it is in there. No condition. -/
import Derived.Test.YtopbldbgnpeelaaDoorVrange
set_option linter.unusedVariables false
set_option linter.unusedSimpArgs false
namespace Go.Proofs.AbsV
open Go
/-- The machine up to the code at a place. -/
def preC {α : Type} (E : Env) (T : FuncId → Option CSpec) (inl : Inl α) (hv : Keeps) (fuel : Nat) : Code → List Nat → Nat → St → (St → Option α) → Option α
  | _, [], _, s, k => k s
  | .seq a b, d :: p, cur, s, k => match d with
    | 0 => preC E T inl hv fuel a p cur s k
    | _ + 1 => runC E T inl hv fuel a cur s fun e s' => match e with
      | .normal => preC E T inl hv fuel b p cur s' k
      | _ => none
  | .block id c, _ :: p, _, s, k => preC E T inl hv fuel c p id s k
  | _, _ :: _, _, _, _ => none
/-- What is to be shown behind the code at a place. -/
def contQ (P : Program) : Code → List Nat → (Exit → Act → World → Prop) → (Exit → Act → World → Prop)
  | .seq a b, d :: p, Q => match d with
    | 0 => contQ P a p (Exit.then (b.wp P Q) Q)
    | _ + 1 => contQ P b p Q
  | .block id c, _ :: p, Q => contQ P c p (Exit.inBlock id Q)
  | _, _, Q => Q
theorem preC_ok {α : Type} {P : Program} {E : Env} (hE : EnvOK P E) {T : FuncId → Option CSpec} (hT : TOK P E T) {inl : Inl α} (hI : InlOK P E inl) {hv : Keeps} {fuel : Nat} :
    ∀ (code : Code) (path : List Nat) (cur : Nat) (s : St) (k : St → Option α) (x : α), preC E T inl hv fuel code path cur s k = some x → ∀ (c : Ctx) (w : World) (a : Act) (Q : Exit → Act → World → Prop), SR E c w s a → a.defers = [] →
      (∀ s' c' w' a', SR E c' w' s' a' → a'.defers = [] → Ext s.bx.length c w c' w' → s.bx.length ≤ s'.bx.length → k s' = some x → (codeAt code path).wp P (contQ P code path Q) a' w') → code.wp P Q a w
  | code, [], cur, s, k, x, hr, c, w, a, Q, h, hd, hQ => by
    have hr' : k s = some x := by cases code <;> exact hr
    have := hQ s c w a h hd (Ext.refl _ _ _) (Nat.le_refl _) hr'
    have e1 : codeAt code [] = code := by cases code <;> rfl
    have e2 : contQ P code [] Q = Q := by cases code <;> rfl
    rw [e1, e2] at this
    exact this
  | .seq c1 c2, 0 :: p, cur, s, k, x, hr, c, w, a, Q, h, hd, hQ => by
    exact wp_seq (preC_ok hE hT hI c1 p cur s k x hr c w a _ h hd hQ)
  | .seq c1 c2, (n + 1) :: p, cur, s, k, x, hr, c, w, a, Q, h, hd, hQ => by
    refine wp_seq (runC_ok hE hT hI c1 cur s _ x hr c w a _ h hd (fun e' s' c' w' a' q1 q2 q3 q4 q5 => ?_))
    cases e' with
    | normal => exact preC_ok hE hT hI c2 p cur s' k x q5 c' w' a' Q q1 q2 (fun s2 c2' w2 a2 r1 r2 r3 r4 r5 => hQ s2 c2' w2 a2 r1 r2 (q3.trans q4 r3) (Nat.le_trans q4 r4) r5)
    | exit id => cases q5
    | ret => cases q5
  | .block id c1, d :: p, cur, s, k, x, hr, c, w, a, Q, h, hd, hQ => by
    cases d <;> exact wp_block (preC_ok hE hT hI c1 p id s k x hr c w a _ h hd hQ)
  | .skip, d :: p, cur, s, k, x, hr, c, w, a, Q, h, hd, hQ => by cases hr
  | .region _ _ _, d :: p, cur, s, k, x, hr, c, w, a, Q, h, hd, hQ => by cases hr
  | .cond _ _ _, d :: p, cur, s, k, x, hr, c, w, a, Q, h, hd, hQ => by cases hr
  | .loop _, d :: p, cur, s, k, x, hr, c, w, a, Q, h, hd, hQ => by cases hr
  | .exit _, d :: p, cur, s, k, x, hr, c, w, a, Q, h, hd, hQ => by cases hr
  | .scope _, d :: p, cur, s, k, x, hr, c, w, a, Q, h, hd, hQ => by cases hr
  | .label _, d :: p, cur, s, k, x, hr, c, w, a, Q, h, hd, hQ => by cases hr
  | .ret, d :: p, cur, s, k, x, hr, c, w, a, Q, h, hd, hQ => by cases hr
  | .goto _, d :: p, cur, s, k, x, hr, c, w, a, Q, h, hd, hQ => by cases hr
  | .rangeFunc _ _ _ _, d :: p, cur, s, k, x, hr, c, w, a, Q, h, hd, hQ => by cases hr
  | .refuse _, d :: p, cur, s, k, x, hr, c, w, a, Q, h, hd, hQ => by cases hr
theorem repL_frOf {c : Ctx} {l : List (Nat × AV)} : ∀ (n i : Nat) (vs : List Value), vs.length = n → (∀ j (h : j < vs.length), Rep c (lookA l (i + j)) vs[j]) → RepL c (frOf l n i) vs
  | 0, i, vs, h, hr => by
    have : vs = [] := List.eq_nil_of_length_eq_zero h
    subst this
    rfl
  | n + 1, i, [], h, hr => by simp at h
  | n + 1, i, v :: vs, h, hr => by
    refine ⟨v, vs, rfl, hr 0 (by simp), repL_frOf n (i + 1) vs (by simpa using h) (fun j hj => ?_)⟩
    have := hr (j + 1) (by simpa using hj)
    simpa [Nat.add_assoc, Nat.add_comm 1 j] using this
end Go.Proofs.AbsV
