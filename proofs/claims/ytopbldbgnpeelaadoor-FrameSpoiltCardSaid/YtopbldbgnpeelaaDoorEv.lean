/- The types' table against a program: what a check of it gives. No condition. -/
import Derived.Test.YtopbldbgnpeelaaDoorAeq
set_option linter.unusedVariables false
set_option linter.unusedSimpArgs false
namespace Go.Proofs.AbsV
open Go

def lookT : List (TypeId × TI) → TypeId → Option TI
  | [], _ => none
  | p :: r, t => if Nat.beq p.1 t then some p.2 else lookT r t
def fieldsAre : List (Nat × TypeId) → List Field → Bool
  | [], [] => true
  | p :: r, f :: fs => Nat.beq p.1 f.offset && (Nat.beq p.2 f.type && fieldsAre r fs)
  | _, _ => false
def TK.is : TK → TypeDesc → Bool
  | .int k, .int k' => decide (k = k')
  | .bool, .bool => true
  | .str, .string => true
  | .slice e, .slice e' => Nat.beq e e'
  | .ptr e, .pointer e' => Nat.beq e e'
  | .struct fs, .struct fds => fieldsAre fs fds.toList
  | .array n e, .array n' e' => Nat.beq n n' && Nat.beq e e'
  | .iface, .interface _ => true
  | .func, .func _ _ _ => true
  | _, _ => false
def zeroIs : AV → Value → Bool
  | .int k n, .int k' n' => decide (k = k') && decide (n = n')
  | .bool b, .bool b' => b == b'
  | .str s, .string s' => Nat.beq s.size 0 && Nat.beq s'.size 0
  | .nilsl, .slice none n c => Nat.beq n 0 && Nat.beq c 0
  | .nilp, .pointer none => true
  | .nilfn, .nilFunc => true
  | .niliface, .nilIface => true
  | _, _ => false
def zerosAre : List AV → List Value → Bool
  | [], [] => true
  | x :: r, v :: vs => zeroIs x v && zerosAre r vs
  | _, _ => false
theorem rep_zero {c : Ctx} : ∀ (x : AV) (v : Value), zeroIs x v = true → Rep c x v := by
  intro x v h
  unfold zeroIs at h
  split at h
  all_goals first
    | (simp only [Bool.and_eq_true, decide_eq_true_eq] at h; obtain ⟨rfl, rfl⟩ := h; rfl)
    | (simp only [beq_iff_eq] at h; subst h; rfl)
    | rfl
    | (cases h; done)
    | skip
  · rename_i s s'
    simp only [Bool.and_eq_true, Nat.beq_eq] at h
    have : s = s' := by
      apply ByteArray.ext
      apply Array.ext
      · have h1 := h.1; have h2 := h.2
        simp only [ByteArray.size] at h1 h2; omega
      · intro i h1 h2
        have := h.1
        simp only [ByteArray.size] at this
        omega
    subst this; rfl
  · simp only [Bool.and_eq_true, Nat.beq_eq] at h
    obtain ⟨rfl, rfl⟩ := h
    rfl
theorem repL_zero {c : Ctx} : ∀ (l : List AV) (vs : List Value), zerosAre l vs = true → RepL c l vs
  | [], [], _ => rfl
  | [], v :: vs, h => by simp [zerosAre] at h
  | x :: r, [], h => by simp [zerosAre] at h
  | x :: r, v :: vs, h => by
    simp only [zerosAre, Bool.and_eq_true] at h
    exact ⟨v, vs, rfl, rep_zero x v h.1, repL_zero r vs h.2⟩

structure TIok (P : Program) (t : TypeId) (i : TI) : Prop where
  und : ∃ d, P.underlying t = some d ∧ i.k.is d = true
  info : ∃ inf z, P.info? t = some inf ∧ inf.size = i.size ∧ inf.bytes = i.bytes ∧ inf.zero = some z ∧ zerosAre i.zero z.cells.toList = true ∧ z.cells.size = i.size ∧
    (i.k.agg = true → ∃ cs, z = .agg cs) ∧ (i.k.agg = false → z.oneCell' = true)
  eqok : ∀ τ, i.ty = some τ → i.k.agg = true → flatB τ = true → eqT P t τ = true
def EnvOK (P : Program) (E : Env) : Prop := ∀ t i, E.ti t = some i → TIok P t i

def checkT (P : Program) (t : TypeId) (i : TI) : Bool :=
  (match P.underlying t with | some d => i.k.is d | none => false) &&
  (match P.info? t with
   | some inf => Nat.beq inf.size i.size && (Nat.beq inf.bytes i.bytes && (match inf.zero with
     | some z => zerosAre i.zero z.cells.toList && (Nat.beq z.cells.size i.size && (match z with | .agg _ => i.k.agg | .tuple _ => false | _ => !i.k.agg))
     | none => false))
   | none => false) &&
  (match i.ty with | some τ => !(i.k.agg && flatB τ) || eqT P t τ | none => true)
def checkTs (P : Program) : List (TypeId × TI) → Bool
  | [] => true
  | p :: r => checkT P p.1 p.2 && checkTs P r
theorem checkT_ok {P : Program} {t : TypeId} {i : TI} (h : checkT P t i = true) : TIok P t i := by
  unfold checkT at h
  rw [Bool.and_eq_true, Bool.and_eq_true] at h
  obtain ⟨⟨h1, h2⟩, h3⟩ := h
  constructor
  · cases hu : P.underlying t with
    | none => rw [hu] at h1; cases h1
    | some d => rw [hu] at h1; exact ⟨d, rfl, h1⟩
  · cases hi : P.info? t with
    | none => rw [hi] at h2; cases h2
    | some inf =>
      rw [hi] at h2
      simp only [Bool.and_eq_true, Nat.beq_eq] at h2
      obtain ⟨hs, hb, h3⟩ := h2
      cases hz : inf.zero with
      | none => rw [hz] at h3; cases h3
      | some z =>
        rw [hz] at h3
        simp only [Bool.and_eq_true, Nat.beq_eq] at h3
        obtain ⟨h4, h5, h6⟩ := h3
        refine ⟨inf, z, rfl, hs, hb, hz, h4, h5, fun ha => ?_, fun ha => ?_⟩
        · cases z <;> first | exact ⟨_, rfl⟩ | (simp [ha] at h6; done) | (cases h6; done)
        · cases z <;> first | rfl | (simp [ha] at h6; done) | (cases h6; done)
  · intro τ hτ ha hf
    rw [hτ] at h3
    simpa [ha, hf] using h3
theorem checkTs_ok {P : Program} : ∀ (l : List (TypeId × TI)), checkTs P l = true → ∀ t i, lookT l t = some i → TIok P t i
  | [], _, t, i, h => by cases h
  | p :: r, hc, t, i, h => by
    simp only [checkTs, Bool.and_eq_true] at hc
    simp only [lookT] at h
    split at h
    · rename_i hb
      have := Nat.eq_of_beq_eq_true hb
      subst this
      cases h
      exact checkT_ok hc.1
    · exact checkTs_ok r hc.2 t i h
theorem envOK_of_check {P : Program} (l : List (TypeId × TI)) (E : Env) (hE : E.ti = lookT l) (h : checkTs P l = true) : EnvOK P E := fun t i ht => checkTs_ok l h t i (by rw [← hE]; exact ht)
end Go.Proofs.AbsV
