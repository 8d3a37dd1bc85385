/- For all whole numbers a, b and kind, the law VersHas answers true: no condition beyond that each is an int. -/
import Derived.Test.YtopbldbgnpeelaaPVersHasx2
set_option linter.unusedSimpArgs false
set_option linter.unusedVariables false
namespace Go.Proofs.Ytopbldbgnpeelaa.Pure
open Go.RowKit Go.Proofs.Ytopbldbgnpeelaa.PVersHas Go.Proofs.YtopbldbgnpeelaaW.PrintWords Go.Proofs.YtopbldbgnpeelaaW.PrintLast

theorem vh_may (a : Int) : vers_May.f a = some (decide (a = 1 ∨ a = 2)) := by
  unfold vers_May.f
  by_cases h1 : a = 1
  · simp [h1]
  · by_cases h2 : a = 2 <;> simp [h1, h2]

theorem vh_has (k : Nat) (a c : Int) : vers_Has.f (k + 1) a c = changeoverref07_Has.f a c := by
  unfold vers_Has.f changeoverref07_Has.f
  rw [vh_may]
  simp only [Option.bind_some, vers_Has.j0]
  by_cases hc : c < 1 ∨ c > 8
  · have n1 : c ≠ 1 := by omega
    have n2 : c ≠ 2 := by omega
    have n3 : c ≠ 3 := by omega
    have n4 : c ≠ 4 := by omega
    have n5 : c ≠ 5 := by omega
    have n6 : c ≠ 6 := by omega
    have n7 : c ≠ 7 := by omega
    have n8 : c ≠ 8 := by omega
    rcases hc with hc | hc
    · simp [n1, n2, n3, n4, n5, n6, n7, n8, hc]
    · simp [n1, n2, n3, n4, n5, n6, n7, n8, hc]
  · have : c = 1 ∨ c = 2 ∨ c = 3 ∨ c = 4 ∨ c = 5 ∨ c = 6 ∨ c = 7 ∨ c = 8 := by omega
    by_cases a1 : a = 1
    · subst a1
      rcases this with h | h | h | h | h | h | h | h <;> subst h <;> decide
    · by_cases a2 : a = 2
      · subst a2
        rcases this with h | h | h | h | h | h | h | h <;> subst h <;> decide
      · rcases this with h | h | h | h | h | h | h | h <;> subst h <;> simp [a1, a2]

def hasB (a c : Int) : Bool := if c < 1 then false else if c > 8 then false else if a = 2 then true else if a = 1 then c != 5 else false

theorem vh_ref (a c : Int) : changeoverref07_Has.f a c = some (hasB a c) := by
  unfold changeoverref07_Has.f hasB
  repeat' split
  all_goals rfl

theorem vh_awake : changeoverlaw07_awake.f 1 = some true := by decide

theorem vh_both (c : Int) : hasB 1 c = (hasB 1 c && hasB 2 c) := by
  unfold hasB
  by_cases h : c < 1
  · simp [h]
  · by_cases h2 : c > 8 <;> simp [h, h2]

theorem vh_both' (c : Int) : hasB 1 c = (hasB 2 c && hasB 1 c) := by rw [Bool.and_comm]; exact vh_both c

theorem VersHas : changeoverlaw07_VersHas.Pure := by
  intro a b c _ _ _
  refine ⟨3, ?_⟩
  unfold changeoverlaw07_VersHas.f
  have hl : vers_Least.f a b = some (if a = 1 ∨ a = 2 then (if b = 1 ∨ b = 2 then mn a b else 0) else 0) := by
    unfold vers_Least.f
    rw [vh_may, vh_may]
    simp only [Option.bind_some]
    by_cases h1 : a = 1 ∨ a = 2
    · by_cases h2 : b = 1 ∨ b = 2 <;> simp [h1, h2]
    · simp [h1]
  rw [hl]
  simp only [Option.bind_some, changeoverlaw07_VersHas.j0, changeoverlaw07_VersHas.j1, vh_may, vh_has, vh_ref, vh_awake]
  by_cases a1 : a = 1
  · subst a1
    by_cases b1 : b = 1
    · subst b1; cases h : hasB 1 c <;> simp [mn, h]
    · by_cases b2 : b = 2
      · subst b2
        have := vh_both c
        cases h : hasB 1 c <;> cases h' : hasB 2 c <;> simp [mn, h, h'] <;> simp_all
      · have hb : b < 1 ∨ b > 2 := by omega
        rcases hb with hb | hb
        · have : ¬ b ≥ 1 := by omega
          simp [b1, b2, this]
        · have h1 : b ≥ 1 := by omega
          have h2 : ¬ b ≤ 2 := by omega
          simp [b1, b2, h1, h2]
  · by_cases a2 : a = 2
    · subst a2
      by_cases b1 : b = 1
      · subst b1
        have := vh_both' c
        cases h : hasB 1 c <;> cases h' : hasB 2 c <;> simp [mn, h, h'] <;> simp_all
      · by_cases b2 : b = 2
        · subst b2
          cases h : hasB 2 c <;> simp [mn, h]
        · have hb : b < 1 ∨ b > 2 := by omega
          rcases hb with hb | hb
          · have : ¬ b ≥ 1 := by omega
            simp [b1, b2, this]
          · have h1 : b ≥ 1 := by omega
            have h2 : ¬ b ≤ 2 := by omega
            simp [b1, b2, h1, h2]
    · have ha : a < 1 ∨ a > 2 := by omega
      rcases ha with ha | ha
      · have : ¬ a ≥ 1 := by omega
        simp [a1, a2, this]
      · have h1 : a ≥ 1 := by omega
        have h2 : ¬ a ≤ 2 := by omega
        simp [a1, a2, h1, h2]

end Go.Proofs.Ytopbldbgnpeelaa.Pure
