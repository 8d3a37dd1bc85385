/- Structs that come in, as data. No condition but those told in each statement. -/
import Derived.Test.YtleamcddhlacfaaDoorAc
import Derived.IntWalk
set_option linter.unusedVariables false
set_option linter.unusedSimpArgs false
namespace Go.Proofs.AbsV
open Go
/-- A struct or an array that comes in, as a datum. -/
def datIn (τ : Ty) : AV → Option τ.den
  | .agg l => match unfl τ l with
    | some (d, []) => some d
    | _ => none
  | _ => none
theorem datIn_some {τ : Ty} {y : AV} {d : τ.den} (h : datIn τ y = some d) : ∃ l, y = .agg l ∧ unfl τ l = some (d, []) := by
  unfold datIn at h
  split at h
  · rename_i l
    split at h
    · rename_i d' hd
      cases h
      exact ⟨l, rfl, hd⟩
    · cases h
  · cases h
theorem rep_dat {c : Ctx} {τ : Ty} {y : AV} {d : τ.den} {v : Value} (h : datIn τ y = some d) (hr : Rep c y v) : Rep c (.agg (flat τ d)) v := by
  obtain ⟨l, rfl, hu⟩ := datIn_some h
  simp only [Rep] at hr ⊢
  obtain ⟨vs, rfl, hl⟩ := hr
  obtain ⟨v1, v2, e, h1, h2⟩ := repD_unfl c τ l _ hl _ _ hu
  simp only [RepL] at h2
  subst h2
  rw [List.append_nil] at e
  exact ⟨vs, rfl, by rw [e]; exact repL_flat c τ d _ h1⟩
theorem Reads.dat {τ : Ty} {y : AV} {d : τ.den} {l l' : List AV} (hy : datIn τ y = some d) (h : Reads l l') : Reads (y :: l) (.agg (flat τ d) :: l') := fun C vs hr => by
  simp only [RepL] at hr ⊢
  obtain ⟨v, r, rfl, h1, h2⟩ := hr
  exact ⟨v, r, rfl, rep_dat hy h1, h C r h2⟩
theorem ReadsC.dat {τ : Ty} {y : AV} {d : τ.den} {l l' : List AV} (hy : datIn τ y = some d) (h : ReadsC l l') : ReadsC (y :: l) (.agg (flat τ d) :: l') := fun C vs hr => by
  simp only [RepL] at hr ⊢
  obtain ⟨v, r, rfl, h1, h2⟩ := hr
  exact ⟨v, r, rfl, rep_dat hy h1, h C r h2⟩
/-- Boxes that read so may be read as a datum's cells. -/
theorem Good.cast {c : Ctx} {w : World} {bx bx' : List Box2} (h : Good c w bx) (hl : bx'.length = bx.length) (hb : ∀ (i : Nat) (B' : Box2), bx'[i]? = some B' → ∃ B, bx[i]? = some B ∧ ∀ k, BoxOK c w k B → BoxOK c w k B') : Good c w bx' := by
  refine ⟨h.stab, fun i B' hi => ?_, fun i j k hi hj => h.inj i j k (hl ▸ hi) (hl ▸ hj), h.tok, fun j T s a n cap i ht hc hi => h.tbox j T s a n cap i ht hc (hl ▸ hi), h.tinj⟩
  obtain ⟨B, hB, hk⟩ := hb i B' hi
  obtain ⟨k, h1, h2, h3, h4⟩ := h.box i B hB
  exact ⟨k, h1, h2, hk k h3, h4⟩
/-! ### Trees of conditions, shorter -/
theorem cond_andL {α : Type} (a b : Bool) (x y : α) : cond a (cond b x y) y = cond (a && b) x y := by cases a <;> cases b <;> rfl
theorem cond_orL {α : Type} (a b : Bool) (x y : α) : cond a x (cond b x y) = cond (a || b) x y := by cases a <;> cases b <;> rfl
theorem cond_kt {α : Type} (k : AV → List Box2 → α) (c b : Bool) (l : List Box2) : cond c (k (.bool true) l) (k (.bool b) l) = k (.bool (c || b)) l := by cases c <;> rfl
theorem cond_kf {α : Type} (k : AV → List Box2 → α) (c b : Bool) (l : List Box2) : cond c (k (.bool b) l) (k (.bool false) l) = k (.bool (c && b)) l := by cases c <;> rfl
theorem cond_kft {α : Type} (k : AV → List Box2 → α) (c b : Bool) (l : List Box2) : cond c (k (.bool false) l) (k (.bool b) l) = k (.bool (!c && b)) l := by cases c <;> rfl
theorem cond_same {α : Sort _} (c : Bool) (x : α) : cond c x x = x := by cases c <;> rfl
/-! ### Words for loops -/
theorem stp {i : Nat} (h : i ≤ 4611686018427387904) : IntKind.i64.wrap (Int.add (i : Int) 1) = ((i + 1 : Nat) : Int) := by
  show IntKind.i64.wrap ((i : Int) + 1) = _
  rw [Go.IntWalk.i64_in _ (by omega)]; omega
theorem inr {n i : Nat} (h : i < n) : (decide (0 ≤ (i : Int)) && decide ((i : Int) < ((n : Nat) : Int))) = true := by simp; omega
theorem ble_y {a b : Nat} (h : a ≤ b) : Nat.ble a b = true := by rw [Nat.ble_eq]; exact h
end Go.Proofs.AbsV
