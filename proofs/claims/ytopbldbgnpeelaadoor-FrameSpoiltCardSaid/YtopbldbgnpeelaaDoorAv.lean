/- A machine of plain values beside Go's memory: values, contexts, and what it means that a value in memory reads as a plain one. No condition. -/
import Derived.WalkKit
import Derived.KernelRfl
set_option linter.unusedVariables false
set_option linter.unusedSimpArgs false
namespace Go.Proofs.AbsV
open Go

/-! ### 1. Kinds of data without addresses -/
inductive Ty where
  | int (k : IntKind)
  | bool
  | str
  | unit
  | pair (a b : Ty)
  | sl (e : Ty)
  deriving DecidableEq

def Ty.den : Ty → Type
  | .int _ => Int
  | .bool => Bool
  | .str => ByteArray
  | .unit => Unit
  | .pair a b => a.den × b.den
  | .sl e => List e.den

def Ty.size : Ty → Nat
  | .int _ => 1
  | .bool => 1
  | .str => 1
  | .unit => 0
  | .pair a b => a.size + b.size
  | .sl _ => 1

def Ty.dflt : (t : Ty) → t.den
  | .int _ => (0 : Int)
  | .bool => false
  | .str => ByteArray.empty
  | .unit => ()
  | .pair a b => (a.dflt, b.dflt)
  | .sl _ => []

/-! ### 2. Plain values -/
inductive AV where
  | any
  | int (k : IntKind) (n : Int)
  | bool (b : Bool)
  | str (s : ByteArray)
  | nilsl
  | sl (e : Ty) (xs : List e.den) (nl : Option Bool) (own : Option (Nat × TypeId))
  | agg (cells : List AV)
  | ptr (b off : Nat)
  | nilp
  | epin (e : Ty) (xs : List e.den) (i off : Nat)
  | glob (g off : Nat)
  | fn (f : FuncId) (cap : List AV)
  | nilfn
  | iface (t : TypeId) (v : AV)
  | niliface
  | tup (vs : List AV)
  | asl (sz : Nat) (cells : List AV)
  | apin (sz : Nat) (cells : List AV) (off : Nat)

structure Box where
  T : TypeId
  cells : List AV

/-- The cells of a datum. -/
def flat : (t : Ty) → t.den → List AV
  | .int k, n => [.int k n]
  | .bool, b => [.bool b]
  | .str, s => [.str s]
  | .unit, _ => []
  | .pair a b, d => flat a d.1 ++ flat b d.2
  | .sl e, xs => [.sl e xs none none]

/-- A datum out of its cells, and the cells that are left. -/
def unfl : (t : Ty) → List AV → Option (t.den × List AV)
  | .int k, .int k' n :: r => if k = k' then some (n, r) else none
  | .bool, .bool b :: r => some (b, r)
  | .str, .str s :: r => some (s, r)
  | .unit, r => some ((), r)
  | .pair a b, r => match unfl a r with
    | some (x, r1) => match unfl b r1 with
      | some (y, r2) => some ((x, y), r2)
      | none => none
    | none => none
  | .sl e, .sl e' xs _ _ :: r => if h : e' = e then some (h ▸ xs, r) else none
  | .sl _, .nilsl :: r => some ([], r)
  | _, _ => none

def rdD (e : Ty) (xs : List e.den) (i : Nat) : e.den := xs.getD i e.dflt

/-! ### 3. Readings -/
/-- What is known never to turn: cells and what they hold. -/
abbrev Stab := Nat → Nat → Option Value

structure Ctx where
  C : Stab
  mu : Nat → Option Nat
  tk : Nat → Option (TypeId × Nat × Value)
  ow : Nat → Prop

def SlOK {α : Type} (C : Stab) (R : α → List Value → Prop) (sz : Nat) (xs : List α) (A : Option Addr) (n cap : Nat) : Prop :=
  n = xs.length ∧ n ≤ cap ∧ (A = none → cap = 0) ∧ n ≤ 9223372036854775807 ∧
  ∀ i (h : i < xs.length), ∃ vs, R xs[i] vs ∧ vs.length = sz ∧ (∃ b o, A = some ⟨b, o, none⟩ ∧ ∀ j (hj : j < vs.length), C b (o + i * sz + j) = some vs[j])

def RepD (C : Stab) : (t : Ty) → t.den → List Value → Prop
  | .int k, n, vs => vs = [.int k n]
  | .bool, b, vs => vs = [.bool b]
  | .str, s, vs => vs = [.string s]
  | .unit, _, vs => vs = []
  | .pair a b, d, vs => ∃ v1 v2, vs = v1 ++ v2 ∧ RepD C a d.1 v1 ∧ RepD C b d.2 v2
  | .sl e, xs, vs => ∃ A n cap, vs = [.slice A n cap] ∧ SlOK C (RepD C e) e.size xs A n cap

def NlOK (nl : Option Bool) (A : Option Addr) : Prop := match nl with | none => True | some b => A.isNone = b
def OwnOK (tk : Nat → Option (TypeId × Nat × Value)) (sz : Nat) (own : Option (Nat × TypeId)) (v : Value) : Prop := match own with | none => True | some p => tk p.1 = some (p.2, sz, v)

mutual
def Rep (c : Ctx) : AV → Value → Prop
  | .any, _ => True
  | .int k n, v => v = .int k n
  | .bool b, v => v = .bool b
  | .str s, v => v = .string s
  | .nilsl, v => v = .slice none 0 0
  | .sl e xs nl own, v => ∃ A n cap, v = .slice A n cap ∧ SlOK c.C (RepD c.C e) e.size xs A n cap ∧ NlOK nl A ∧ OwnOK c.tk e.size own v
  | .agg l, v => ∃ vs, v = .agg vs ∧ RepL c l vs.toList
  | .ptr b off, v => ∃ blk, c.mu b = some blk ∧ v = .pointer (some ⟨blk, off, none⟩)
  | .nilp, v => v = .pointer none
  | .epin e xs i off, v => off < e.size ∧ ∃ h : i < xs.length, ∃ vs b o, RepD c.C e xs[i] vs ∧ vs.length = e.size ∧ v = .pointer (some ⟨b, o + off, none⟩) ∧ ∀ j (hj : j < vs.length), c.C b (o + j) = some vs[j]
  | .glob g off, v => v = .pointer (some ⟨g, off, none⟩)
  | .fn f cap, v => ∃ vs, v = .func (.func f) #[] vs ∧ RepL c cap vs.toList
  | .nilfn, v => v = .nilFunc
  | .iface t x, v => ∃ y, v = .iface t y ∧ Rep c x y
  | .niliface, v => v = .nilIface
  | .tup l, v => ∃ vs, v = .tuple vs ∧ RepL c l vs.toList
  | .asl sz l, v => ∃ b o n cap, v = .slice (some ⟨b, o, none⟩) n cap ∧ n * sz = l.length ∧ n ≤ cap ∧ ∃ vs, RepL c l vs ∧ ∀ j (hj : j < vs.length), c.C b (o + j) = some vs[j]
  | .apin sz l off, v => off ≤ l.length ∧ ∃ b o, v = .pointer (some ⟨b, o + off, none⟩) ∧ ∃ vs, RepL c l vs ∧ ∀ j (hj : j < vs.length), c.C b (o + j) = some vs[j]
def RepL (c : Ctx) : List AV → List Value → Prop
  | [], vs => vs = []
  | x :: l, vs => ∃ v r, vs = v :: r ∧ Rep c x v ∧ RepL c l r
end

theorem RepL.length {c : Ctx} : ∀ {l : List AV} {vs : List Value}, RepL c l vs → vs.length = l.length
  | [], vs, h => by simp only [RepL] at h; subst h; rfl
  | x :: l, vs, h => by
    simp only [RepL] at h
    obtain ⟨v, r, rfl, _, hr⟩ := h
    simp [RepL.length hr]
theorem RepL.get {c : Ctx} : ∀ {l : List AV} {vs : List Value}, RepL c l vs → ∀ (i : Nat) (h : i < l.length) (h' : i < vs.length), Rep c l[i] vs[i]
  | [], vs, _, i, h, _ => by simp at h
  | x :: l, vs, h, i, hi, hi' => by
    simp only [RepL] at h
    obtain ⟨v, r, rfl, hx, hr⟩ := h
    cases i with
    | zero => exact hx
    | succ i => exact RepL.get hr i (by simpa using hi) (by simpa using hi')
theorem RepL.append {c : Ctx} : ∀ {l : List AV} {vs : List Value} {l' : List AV} {vs' : List Value}, RepL c l vs → RepL c l' vs' → RepL c (l ++ l') (vs ++ vs')
  | [], vs, l', vs', h, h' => by simp only [RepL] at h; subst h; exact h'
  | x :: l, vs, l', vs', h, h' => by
    simp only [RepL] at h
    obtain ⟨v, r, rfl, hx, hr⟩ := h
    exact ⟨v, r ++ vs', rfl, hx, RepL.append hr h'⟩
theorem RepL.set {c : Ctx} : ∀ {l : List AV} {vs : List Value}, RepL c l vs → ∀ (i : Nat) {x : AV} {v : Value}, Rep c x v → RepL c (l.set i x) (vs.set i v)
  | [], vs, h, i, x, v, hx => by simp only [RepL] at h; subst h; rfl
  | y :: l, vs, h, i, x, v, hx => by
    simp only [RepL] at h
    obtain ⟨u, r, rfl, hu, hr⟩ := h
    cases i with
    | zero => exact ⟨v, r, rfl, hx, hr⟩
    | succ i => exact ⟨u, r.set i v, rfl, hu, RepL.set hr i hx⟩
theorem RepL.drop {c : Ctx} : ∀ {l : List AV} {vs : List Value}, RepL c l vs → ∀ (n : Nat), RepL c (l.drop n) (vs.drop n)
  | l, vs, h, 0 => by simpa using h
  | [], vs, h, n + 1 => by simp only [RepL] at h; subst h; rfl
  | x :: l, vs, h, n + 1 => by
    simp only [RepL] at h
    obtain ⟨v, r, rfl, hx, hr⟩ := h
    simpa using RepL.drop hr n
theorem RepL.take {c : Ctx} : ∀ {l : List AV} {vs : List Value}, RepL c l vs → ∀ (n : Nat), RepL c (l.take n) (vs.take n)
  | l, vs, h, 0 => by simp [RepL]
  | [], vs, h, n + 1 => by simp only [RepL] at h; subst h; rfl
  | x :: l, vs, h, n + 1 => by
    simp only [RepL] at h
    obtain ⟨v, r, rfl, hx, hr⟩ := h
    exact ⟨v, r.take n, rfl, hx, RepL.take hr n⟩
theorem RepL.getD {c : Ctx} {l : List AV} {vs : List Value} (h : RepL c l vs) (i : Nat) (d : Value) : Rep c (l.getD i .any) (vs.getD i d) := by
  by_cases hi : i < l.length
  · have hi' : i < vs.length := by rw [h.length]; exact hi
    have := h.get i hi hi'
    simpa [List.getD_eq_getElem?_getD, List.getElem?_eq_getElem hi, List.getElem?_eq_getElem hi'] using this
  · have : l.getD i .any = .any := by simp [List.getD_eq_getElem?_getD, List.getElem?_eq_none (Nat.le_of_not_lt hi)]
    rw [this]; simp [Rep]

/-! ### 4. Contexts grow -/
structure CLe (C C' : Stab) : Prop where
  out : ∀ b o v, C b o = some v → C' b o = some v
theorem CLe.refl (C : Stab) : CLe C C := ⟨fun _ _ _ h => h⟩
theorem CLe.trans {A B D : Stab} (h : CLe A B) (h' : CLe B D) : CLe A D := ⟨fun _ _ _ x => h'.out _ _ _ (h.out _ _ _ x)⟩

theorem SlOK.mono {α : Type} {C C' : Stab} (hC : CLe C C') {R R' : α → List Value → Prop} (hR : ∀ x vs, R x vs → R' x vs) {sz : Nat} {xs : List α} {A : Option Addr} {n cap : Nat}
    (h : SlOK C R sz xs A n cap) : SlOK C' R' sz xs A n cap := by
  obtain ⟨h1, h2, h3, h4, h5⟩ := h
  refine ⟨h1, h2, h3, h4, fun i hi => ?_⟩
  obtain ⟨vs, r, hl, b, o, hA, hc⟩ := h5 i hi
  exact ⟨vs, hR _ _ r, hl, b, o, hA, fun j hj => hC.out _ _ _ (hc j hj)⟩

theorem RepD.mono {C C' : Stab} (hC : CLe C C') : ∀ (t : Ty) (d : t.den) (vs : List Value), RepD C t d vs → RepD C' t d vs
  | .int _, _, _, h => h
  | .bool, _, _, h => h
  | .str, _, _, h => h
  | .unit, _, _, h => h
  | .pair a b, d, vs, h => by
    simp only [RepD] at h ⊢
    obtain ⟨v1, v2, e, h1, h2⟩ := h
    exact ⟨v1, v2, e, RepD.mono hC a _ _ h1, RepD.mono hC b _ _ h2⟩
  | .sl e, xs, vs, h => by
    simp only [RepD] at h ⊢
    obtain ⟨A, n, cap, he, hs⟩ := h
    exact ⟨A, n, cap, he, hs.mono hC (RepD.mono hC e)⟩

theorem RepD.length {C : Stab} : ∀ (t : Ty) (d : t.den) (vs : List Value), RepD C t d vs → vs.length = t.size
  | .int _, _, _, h => by simp only [RepD] at h; subst h; rfl
  | .bool, _, _, h => by simp only [RepD] at h; subst h; rfl
  | .str, _, _, h => by simp only [RepD] at h; subst h; rfl
  | .unit, _, _, h => by simp only [RepD] at h; subst h; rfl
  | .pair a b, d, vs, h => by
    simp only [RepD] at h
    obtain ⟨v1, v2, rfl, h1, h2⟩ := h
    simp [RepD.length a _ _ h1, RepD.length b _ _ h2, Ty.size]
  | .sl e, xs, vs, h => by
    simp only [RepD] at h
    obtain ⟨A, n, cap, rfl, _⟩ := h
    rfl

/-- A datum reads as its cells. -/
theorem repL_flat (c : Ctx) : ∀ (t : Ty) (d : t.den) (vs : List Value), RepD c.C t d vs → RepL c (flat t d) vs
  | .int _, _, _, h => by simp only [RepD] at h; subst h; exact ⟨_, _, rfl, rfl, rfl⟩
  | .bool, _, _, h => by simp only [RepD] at h; subst h; exact ⟨_, _, rfl, rfl, rfl⟩
  | .str, _, _, h => by simp only [RepD] at h; subst h; exact ⟨_, _, rfl, rfl, rfl⟩
  | .unit, _, _, h => by simp only [RepD] at h; subst h; rfl
  | .pair a b, d, vs, h => by
    simp only [RepD] at h
    obtain ⟨v1, v2, rfl, h1, h2⟩ := h
    exact RepL.append (repL_flat c a _ _ h1) (repL_flat c b _ _ h2)
  | .sl e, xs, vs, h => by
    simp only [RepD] at h
    obtain ⟨A, n, cap, rfl, hs⟩ := h
    exact ⟨_, _, rfl, ⟨A, n, cap, rfl, hs, trivial, trivial⟩, rfl⟩

theorem flat_length : ∀ (t : Ty) (d : t.den), (flat t d).length = t.size
  | .int _, _ => rfl
  | .bool, _ => rfl
  | .str, _ => rfl
  | .unit, _ => rfl
  | .pair a b, d => by simp [flat, flat_length a, flat_length b, Ty.size]
  | .sl _, _ => rfl

/-- Cells that fit a kind are a datum's. -/
theorem repD_unfl (c : Ctx) : ∀ (t : Ty) (l : List AV) (vs : List Value), RepL c l vs → ∀ d r, unfl t l = some (d, r) →
    ∃ v1 v2, vs = v1 ++ v2 ∧ RepD c.C t d v1 ∧ RepL c r v2
  | .int k, l, vs, h, d, r, hu => by
    match l, h, hu with
    | .int k' n :: l, h, hu =>
      simp only [unfl] at hu
      split at hu
      · rename_i hk; subst hk
        simp only [Option.some.injEq, Prod.mk.injEq] at hu
        obtain ⟨rfl, rfl⟩ := hu
        simp only [RepL] at h
        obtain ⟨v, s, rfl, hv, hs⟩ := h
        simp only [Rep] at hv; subst hv
        exact ⟨[_], s, rfl, rfl, hs⟩
      · cases hu
  | .bool, l, vs, h, d, r, hu => by
    match l, h, hu with
    | .bool b :: l, h, hu =>
      simp only [unfl, Option.some.injEq, Prod.mk.injEq] at hu
      obtain ⟨rfl, rfl⟩ := hu
      simp only [RepL] at h
      obtain ⟨v, s, rfl, hv, hs⟩ := h
      simp only [Rep] at hv; subst hv
      exact ⟨[_], s, rfl, rfl, hs⟩
  | .str, l, vs, h, d, r, hu => by
    match l, h, hu with
    | .str b :: l, h, hu =>
      simp only [unfl, Option.some.injEq, Prod.mk.injEq] at hu
      obtain ⟨rfl, rfl⟩ := hu
      simp only [RepL] at h
      obtain ⟨v, s, rfl, hv, hs⟩ := h
      simp only [Rep] at hv; subst hv
      exact ⟨[_], s, rfl, rfl, hs⟩
  | .unit, l, vs, h, d, r, hu => by
    simp only [unfl, Option.some.injEq, Prod.mk.injEq] at hu
    obtain ⟨_, rfl⟩ := hu
    exact ⟨[], vs, rfl, rfl, h⟩
  | .pair a b, l, vs, h, d, r, hu => by
    simp only [unfl] at hu
    split at hu
    · rename_i x r1 h1
      split at hu
      · rename_i y r2 h2
        simp only [Option.some.injEq, Prod.mk.injEq] at hu
        obtain ⟨rfl, rfl⟩ := hu
        obtain ⟨v1, v2, rfl, hd1, hr1⟩ := repD_unfl c a l vs h _ _ h1
        obtain ⟨v3, v4, rfl, hd2, hr2⟩ := repD_unfl c b r1 v2 hr1 _ _ h2
        exact ⟨v1 ++ v3, v4, by simp, ⟨v1, v3, rfl, hd1, hd2⟩, hr2⟩
      · cases hu
    · cases hu
  | .sl e, l, vs, h, d, r, hu => by
    match l, h, hu with
    | .sl e' xs nl own :: l, h, hu =>
      simp only [unfl] at hu
      split at hu
      · rename_i he; subst he
        simp only [Option.some.injEq, Prod.mk.injEq] at hu
        obtain ⟨rfl, rfl⟩ := hu
        simp only [RepL] at h
        obtain ⟨v, s, rfl, hv, hs⟩ := h
        simp only [Rep] at hv
        obtain ⟨A, n, cap, rfl, hsl, _, _⟩ := hv
        exact ⟨[_], s, rfl, ⟨A, n, cap, rfl, hsl⟩, hs⟩
      · cases hu
    | .nilsl :: l, h, hu =>
      simp only [unfl, Option.some.injEq, Prod.mk.injEq] at hu
      obtain ⟨rfl, rfl⟩ := hu
      simp only [RepL] at h
      obtain ⟨v, s, rfl, hv, hs⟩ := h
      simp only [Rep] at hv; subst hv
      exact ⟨[_], s, rfl, ⟨none, 0, 0, rfl, rfl, Nat.le_refl _, fun _ => rfl, by omega, fun i hi => by simp at hi⟩, hs⟩

/-! ### 5. Values without a claim on a row -/
mutual
/-- The same value, no row of it claimed. -/
def strip : AV → AV
  | .sl e xs nl _ => .sl e xs nl none
  | .agg l => .agg (stripL l)
  | .fn f l => .fn f (stripL l)
  | .iface t x => .iface t (strip x)
  | .tup l => .tup (stripL l)
  | .asl sz l => .asl sz (stripL l)
  | .apin sz l o => .apin sz (stripL l) o
  | x => x
def stripL : List AV → List AV
  | [] => []
  | x :: l => strip x :: stripL l
end
mutual
/-- The same value, row j not claimed any more. -/
def scrub (j : Nat) : AV → AV
  | .sl e xs nl own => .sl e xs nl (match own with | none => none | some p => if Nat.beq p.1 j then none else some p)
  | .agg l => .agg (scrubL j l)
  | .fn f l => .fn f (scrubL j l)
  | .iface t x => .iface t (scrub j x)
  | .tup l => .tup (scrubL j l)
  | .asl sz l => .asl sz (scrubL j l)
  | .apin sz l o => .apin sz (scrubL j l) o
  | x => x
def scrubL (j : Nat) : List AV → List AV
  | [] => []
  | x :: l => scrub j x :: scrubL j l
end
mutual
/-- The least number above all rows that are claimed. -/
def maxTok : AV → Nat
  | .sl _ _ _ own => match own with | none => 0 | some p => p.1 + 1
  | .agg l => maxTokL l
  | .fn _ l => maxTokL l
  | .iface _ x => maxTok x
  | .tup l => maxTokL l
  | .asl _ l => maxTokL l
  | .apin _ l _ => maxTokL l
  | _ => 0
def maxTokL : List AV → Nat
  | [] => 0
  | x :: l => Nat.max (maxTok x) (maxTokL l)
end
theorem scrubL_length (j : Nat) : ∀ l, (scrubL j l).length = l.length
  | [] => rfl
  | x :: l => by simp [scrubL, scrubL_length j l]
theorem stripL_length : ∀ l, (stripL l).length = l.length
  | [] => rfl
  | x :: l => by simp [stripL, stripL_length l]

mutual
/-- Each box that a value points to is a p, each row that it claims a q. -/
def okIn (p q : Nat → Prop) : AV → Prop
  | .ptr b _ => p b
  | .sl _ _ _ own => match own with | none => True | some p => q p.1
  | .agg l => okInL p q l
  | .fn _ l => okInL p q l
  | .iface _ x => okIn p q x
  | .tup l => okInL p q l
  | .asl _ l => okInL p q l
  | .apin _ l _ => okInL p q l
  | _ => True
def okInL (p q : Nat → Prop) : List AV → Prop
  | [] => True
  | x :: l => okIn p q x ∧ okInL p q l
end
mutual
/-- All boxes that a value points to are below nb. -/
def ptrsB (nb : Nat) : AV → Bool
  | .ptr b _ => Nat.blt b nb
  | .agg l => ptrsBL nb l
  | .fn _ l => ptrsBL nb l
  | .iface _ x => ptrsB nb x
  | .tup l => ptrsBL nb l
  | .asl _ l => ptrsBL nb l
  | .apin _ l _ => ptrsBL nb l
  | _ => true
def ptrsBL (nb : Nat) : List AV → Bool
  | [] => true
  | x :: l => ptrsB nb x && ptrsBL nb l
end

mutual
theorem rep_mono {c c' : Ctx} {p q : Nat → Prop} (hC : CLe c.C c'.C) (hp : ∀ b, p b → ∀ k, c.mu b = some k → c'.mu b = some k) (hq : ∀ j, q j → c'.tk j = c.tk j) :
    ∀ (x : AV) (v : Value), okIn p q x → Rep c x v → Rep c' x v
  | .any, v, _, _ => trivial
  | .int _ _, v, _, h => h
  | .bool _, v, _, h => h
  | .str _, v, _, h => h
  | .nilsl, v, _, h => h
  | .sl e xs nl own, v, ho, h => by
    simp only [Rep] at h ⊢
    obtain ⟨A, n, cap, rfl, hs, hn, hw⟩ := h
    refine ⟨A, n, cap, rfl, hs.mono hC (RepD.mono hC e), hn, ?_⟩
    cases own with
    | none => trivial
    | some j =>
      simp only [OwnOK] at hw ⊢
      rw [hq j.1 ho]; exact hw
  | .agg l, v, ho, h => by
    simp only [Rep] at h ⊢
    obtain ⟨vs, rfl, hl⟩ := h
    exact ⟨vs, rfl, repL_mono hC hp hq l _ ho hl⟩
  | .ptr b off, v, ho, h => by
    simp only [Rep] at h ⊢
    obtain ⟨k, hk, rfl⟩ := h
    exact ⟨k, hp b ho k hk, rfl⟩
  | .nilp, v, _, h => h
  | .epin e xs i off, v, _, h => by
    simp only [Rep] at h ⊢
    obtain ⟨ho, hi, vs, b, o, hd, hl, hv, hc⟩ := h
    exact ⟨ho, hi, vs, b, o, RepD.mono hC e _ _ hd, hl, hv, fun j hj => hC.out _ _ _ (hc j hj)⟩
  | .glob _ _, v, _, h => h
  | .fn f l, v, ho, h => by
    simp only [Rep] at h ⊢
    obtain ⟨vs, rfl, hl⟩ := h
    exact ⟨vs, rfl, repL_mono hC hp hq l _ ho hl⟩
  | .nilfn, v, _, h => h
  | .iface t x, v, ho, h => by
    simp only [Rep] at h ⊢
    obtain ⟨y, rfl, hy⟩ := h
    exact ⟨y, rfl, rep_mono hC hp hq x _ ho hy⟩
  | .niliface, v, _, h => h
  | .tup l, v, ho, h => by
    simp only [Rep] at h ⊢
    obtain ⟨vs, rfl, hl⟩ := h
    exact ⟨vs, rfl, repL_mono hC hp hq l _ ho hl⟩
  | .asl sz l, v, ho, h => by
    simp only [Rep] at h ⊢
    obtain ⟨b, o, n, cap, rfl, h1, h2, vs, hl, hc⟩ := h
    exact ⟨b, o, n, cap, rfl, h1, h2, vs, repL_mono hC hp hq l _ ho hl, fun j hj => hC.out _ _ _ (hc j hj)⟩
  | .apin sz l off, v, ho, h => by
    simp only [Rep] at h ⊢
    obtain ⟨h1, b, o, rfl, vs, hl, hc⟩ := h
    exact ⟨h1, b, o, rfl, vs, repL_mono hC hp hq l _ ho hl, fun j hj => hC.out _ _ _ (hc j hj)⟩
theorem repL_mono {c c' : Ctx} {p q : Nat → Prop} (hC : CLe c.C c'.C) (hp : ∀ b, p b → ∀ k, c.mu b = some k → c'.mu b = some k) (hq : ∀ j, q j → c'.tk j = c.tk j) :
    ∀ (l : List AV) (vs : List Value), okInL p q l → RepL c l vs → RepL c' l vs
  | [], vs, _, h => h
  | x :: l, vs, ho, h => by
    simp only [RepL] at h ⊢
    obtain ⟨v, r, rfl, hx, hr⟩ := h
    exact ⟨v, r, rfl, rep_mono hC hp hq x _ ho.1 hx, repL_mono hC hp hq l _ ho.2 hr⟩
end

mutual
theorem rep_strip {c : Ctx} : ∀ (x : AV) (v : Value), Rep c x v → Rep c (strip x) v
  | .any, v, _ => trivial
  | .int _ _, v, h => h
  | .bool _, v, h => h
  | .str _, v, h => h
  | .nilsl, v, h => h
  | .sl e xs nl own, v, h => by
    simp only [Rep, strip] at h ⊢
    obtain ⟨A, n, cap, rfl, hs, hn, hw⟩ := h
    exact ⟨A, n, cap, rfl, hs, hn, trivial⟩
  | .agg l, v, h => by
    simp only [Rep, strip] at h ⊢
    obtain ⟨vs, rfl, hl⟩ := h
    exact ⟨vs, rfl, repL_strip l _ hl⟩
  | .ptr b off, v, h => h
  | .nilp, v, h => h
  | .epin e xs i off, v, h => h
  | .glob _ _, v, h => h
  | .fn f l, v, h => by
    simp only [Rep, strip] at h ⊢
    obtain ⟨vs, rfl, hl⟩ := h
    exact ⟨vs, rfl, repL_strip l _ hl⟩
  | .nilfn, v, h => h
  | .iface t x, v, h => by
    simp only [Rep, strip] at h ⊢
    obtain ⟨y, rfl, hy⟩ := h
    exact ⟨y, rfl, rep_strip x _ hy⟩
  | .niliface, v, h => h
  | .tup l, v, h => by
    simp only [Rep, strip] at h ⊢
    obtain ⟨vs, rfl, hl⟩ := h
    exact ⟨vs, rfl, repL_strip l _ hl⟩
  | .asl sz l, v, h => by
    simp only [Rep, strip] at h ⊢
    obtain ⟨b, o, n, cap, rfl, h1, h2, vs, hl, hc⟩ := h
    exact ⟨b, o, n, cap, rfl, by rw [stripL_length]; exact h1, h2, vs, repL_strip l _ hl, hc⟩
  | .apin sz l off, v, h => by
    simp only [Rep, strip] at h ⊢
    obtain ⟨h1, b, o, rfl, vs, hl, hc⟩ := h
    exact ⟨by rw [stripL_length]; exact h1, b, o, rfl, vs, repL_strip l _ hl, hc⟩
theorem repL_strip {c : Ctx} : ∀ (l : List AV) (vs : List Value), RepL c l vs → RepL c (stripL l) vs
  | [], vs, h => h
  | x :: l, vs, h => by
    simp only [RepL, stripL] at h ⊢
    obtain ⟨v, r, rfl, hx, hr⟩ := h
    exact ⟨v, r, rfl, rep_strip x _ hx, repL_strip l _ hr⟩
end
mutual
theorem rep_scrub {c : Ctx} (k : Nat) : ∀ (x : AV) (v : Value), Rep c x v → Rep c (scrub k x) v
  | .any, v, _ => trivial
  | .int _ _, v, h => h
  | .bool _, v, h => h
  | .str _, v, h => h
  | .nilsl, v, h => h
  | .sl e xs nl own, v, h => by
    simp only [Rep, scrub] at h ⊢
    obtain ⟨A, n, cap, rfl, hs, hn, hw⟩ := h
    refine ⟨A, n, cap, rfl, hs, hn, ?_⟩
    cases own with
    | none => trivial
    | some i =>
      simp only []
      cases Nat.beq i.1 k
      · exact hw
      · trivial
  | .agg l, v, h => by
    simp only [Rep, scrub] at h ⊢
    obtain ⟨vs, rfl, hl⟩ := h
    exact ⟨vs, rfl, repL_scrub k l _ hl⟩
  | .ptr b off, v, h => h
  | .nilp, v, h => h
  | .epin e xs i off, v, h => h
  | .glob _ _, v, h => h
  | .fn f l, v, h => by
    simp only [Rep, scrub] at h ⊢
    obtain ⟨vs, rfl, hl⟩ := h
    exact ⟨vs, rfl, repL_scrub k l _ hl⟩
  | .nilfn, v, h => h
  | .iface t x, v, h => by
    simp only [Rep, scrub] at h ⊢
    obtain ⟨y, rfl, hy⟩ := h
    exact ⟨y, rfl, rep_scrub k x _ hy⟩
  | .niliface, v, h => h
  | .tup l, v, h => by
    simp only [Rep, scrub] at h ⊢
    obtain ⟨vs, rfl, hl⟩ := h
    exact ⟨vs, rfl, repL_scrub k l _ hl⟩
  | .asl sz l, v, h => by
    simp only [Rep, scrub] at h ⊢
    obtain ⟨b, o, n, cap, rfl, h1, h2, vs, hl, hc⟩ := h
    exact ⟨b, o, n, cap, rfl, by rw [scrubL_length]; exact h1, h2, vs, repL_scrub k l _ hl, hc⟩
  | .apin sz l off, v, h => by
    simp only [Rep, scrub] at h ⊢
    obtain ⟨h1, b, o, rfl, vs, hl, hc⟩ := h
    exact ⟨by rw [scrubL_length]; exact h1, b, o, rfl, vs, repL_scrub k l _ hl, hc⟩
theorem repL_scrub {c : Ctx} (k : Nat) : ∀ (l : List AV) (vs : List Value), RepL c l vs → RepL c (scrubL k l) vs
  | [], vs, h => h
  | x :: l, vs, h => by
    simp only [RepL, scrubL] at h ⊢
    obtain ⟨v, r, rfl, hx, hr⟩ := h
    exact ⟨v, r, rfl, rep_scrub k x _ hx, repL_scrub k l _ hr⟩
end

/-! ### 6. What checks give -/
mutual
theorem okIn_strip {p q : Nat → Prop} : ∀ (x : AV), okIn p (fun _ => True) x → okIn p q (strip x)
  | .any, _ => trivial
  | .int _ _, _ => trivial
  | .bool _, _ => trivial
  | .str _, _ => trivial
  | .nilsl, _ => trivial
  | .sl e xs nl own, _ => trivial
  | .agg l, h => okInL_strip l h
  | .ptr b off, h => h
  | .nilp, _ => trivial
  | .epin e xs i off, _ => trivial
  | .glob _ _, _ => trivial
  | .fn f l, h => okInL_strip l h
  | .nilfn, _ => trivial
  | .iface t x, h => okIn_strip x h
  | .niliface, _ => trivial
  | .tup l, h => okInL_strip l h
  | .asl sz l, h => okInL_strip l h
  | .apin sz l off, h => okInL_strip l h
theorem okInL_strip {p q : Nat → Prop} : ∀ (l : List AV), okInL p (fun _ => True) l → okInL p q (stripL l)
  | [], _ => trivial
  | x :: l, h => ⟨okIn_strip x h.1, okInL_strip l h.2⟩
end
mutual
theorem okIn_scrub {p : Nat → Prop} (k : Nat) : ∀ (x : AV), okIn p (fun _ => True) x → okIn p (fun j => j ≠ k) (scrub k x)
  | .any, _ => trivial
  | .int _ _, _ => trivial
  | .bool _, _ => trivial
  | .str _, _ => trivial
  | .nilsl, _ => trivial
  | .sl e xs nl own, _ => by
    cases own with
    | none => trivial
    | some i =>
      simp only [scrub, okIn]
      cases h : Nat.beq i.1 k with
      | true => trivial
      | false => exact Nat.ne_of_beq_eq_false h
  | .agg l, h => okInL_scrub k l h
  | .ptr b off, h => h
  | .nilp, _ => trivial
  | .epin e xs i off, _ => trivial
  | .glob _ _, _ => trivial
  | .fn f l, h => okInL_scrub k l h
  | .nilfn, _ => trivial
  | .iface t x, h => okIn_scrub k x h
  | .niliface, _ => trivial
  | .tup l, h => okInL_scrub k l h
  | .asl sz l, h => okInL_scrub k l h
  | .apin sz l off, h => okInL_scrub k l h
theorem okInL_scrub {p : Nat → Prop} (k : Nat) : ∀ (l : List AV), okInL p (fun _ => True) l → okInL p (fun j => j ≠ k) (scrubL k l)
  | [], _ => trivial
  | x :: l, h => ⟨okIn_scrub k x h.1, okInL_scrub k l h.2⟩
end
mutual
theorem okIn_max {p : Nat → Prop} {m : Nat} : ∀ (x : AV), okIn p (fun _ => True) x → maxTok x ≤ m → okIn p (fun j => j < m) x
  | .any, _, _ => trivial
  | .int _ _, _, _ => trivial
  | .bool _, _, _ => trivial
  | .str _, _, _ => trivial
  | .nilsl, _, _ => trivial
  | .sl e xs nl own, _, h => by
    cases own with
    | none => trivial
    | some i => exact h
  | .agg l, h, h' => okInL_max l h h'
  | .ptr b off, h, _ => h
  | .nilp, _, _ => trivial
  | .epin e xs i off, _, _ => trivial
  | .glob _ _, _, _ => trivial
  | .fn f l, h, h' => okInL_max l h h'
  | .nilfn, _, _ => trivial
  | .iface t x, h, h' => okIn_max x h h'
  | .niliface, _, _ => trivial
  | .tup l, h, h' => okInL_max l h h'
  | .asl sz l, h, h' => okInL_max l h h'
  | .apin sz l off, h, h' => okInL_max l h h'
theorem okInL_max {p : Nat → Prop} {m : Nat} : ∀ (l : List AV), okInL p (fun _ => True) l → maxTokL l ≤ m → okInL p (fun j => j < m) l
  | [], _, _ => trivial
  | x :: l, h, h' => ⟨okIn_max x h.1 (Nat.le_trans (Nat.le_max_left _ _) h'), okInL_max l h.2 (Nat.le_trans (Nat.le_max_right _ _) h')⟩
end
mutual
theorem okIn_ptrs {nb : Nat} : ∀ (x : AV), ptrsB nb x = true → okIn (fun b => b < nb) (fun _ => True) x
  | .any, _ => trivial
  | .int _ _, _ => trivial
  | .bool _, _ => trivial
  | .str _, _ => trivial
  | .nilsl, _ => trivial
  | .sl e xs nl own, _ => by cases own <;> trivial
  | .agg l, h => okInL_ptrs l h
  | .ptr b off, h => by simp only [ptrsB, Nat.blt_eq] at h; exact h
  | .nilp, _ => trivial
  | .epin e xs i off, _ => trivial
  | .glob _ _, _ => trivial
  | .fn f l, h => okInL_ptrs l h
  | .nilfn, _ => trivial
  | .iface t x, h => okIn_ptrs x h
  | .niliface, _ => trivial
  | .tup l, h => okInL_ptrs l h
  | .asl sz l, h => okInL_ptrs l h
  | .apin sz l off, h => okInL_ptrs l h
theorem okInL_ptrs {nb : Nat} : ∀ (l : List AV), ptrsBL nb l = true → okInL (fun b => b < nb) (fun _ => True) l
  | [], _ => trivial
  | x :: l, h => by
    simp only [ptrsBL, Bool.and_eq_true] at h
    exact ⟨okIn_ptrs x h.1, okInL_ptrs l h.2⟩
end
mutual
theorem okIn_all : ∀ (x : AV), okIn (fun _ => True) (fun _ => True) x
  | .any => trivial
  | .int _ _ => trivial
  | .bool _ => trivial
  | .str _ => trivial
  | .nilsl => trivial
  | .sl e xs nl own => by cases own <;> trivial
  | .agg l => okInL_all l
  | .ptr b off => trivial
  | .nilp => trivial
  | .epin e xs i off => trivial
  | .glob _ _ => trivial
  | .fn f l => okInL_all l
  | .nilfn => trivial
  | .iface t x => okIn_all x
  | .niliface => trivial
  | .tup l => okInL_all l
  | .asl sz l => okInL_all l
  | .apin sz l off => okInL_all l
theorem okInL_all : ∀ (l : List AV), okInL (fun _ => True) (fun _ => True) l
  | [] => trivial
  | x :: l => ⟨okIn_all x, okInL_all l⟩
end
end Go.Proofs.AbsV
