/- For all whole numbers v, format and active, the law VersOpens answers true: no condition beyond that each is an int. -/
import Derived.Test.YtopbldbgnpeelaaPVersOpensx1
namespace Go.Proofs.Ytopbldbgnpeelaa.Pure
open Go.RowKit Go.Proofs.Ytopbldbgnpeelaa.PVersOpens Go.Proofs.YtopbldbgnpeelaaW.PrintWords Go.Proofs.YtopbldbgnpeelaaW.PrintLast

theorem vo_may (a : Int) : vers_May.f a = some (decide (a = 1 ∨ a = 2)) := by
  unfold vers_May.f
  by_cases h1 : a = 1
  · simp [h1]
  · by_cases h2 : a = 2 <;> simp [h1, h2]

theorem vo_opens (k : Nat) (a b : Int) : vers_Opens.f (k + 1) a b = changeoverref07_Opens.f (k + 1) a b := by
  unfold vers_Opens.f changeoverref07_Opens.f
  rw [vo_may, vo_may]
  simp only [Option.bind_some, vers_Opens.j0, changeoverref07_Opens.j0]
  by_cases a1 : a = 1
  · subst a1
    by_cases b1 : b = 1
    · subst b1; decide
    · by_cases b2 : b = 2
      · subst b2; decide
      · have hb : b < 1 ∨ b > 2 := by omega
        rcases hb with hb | hb
        · simp [b1, b2, hb]
        · have hn : ¬ b < 1 := by omega
          simp [b1, b2, hb, hn]
  · by_cases a2 : a = 2
    · subst a2
      by_cases b1 : b = 1
      · subst b1; decide
      · by_cases b2 : b = 2
        · subst b2; decide
        · have hb : b < 1 ∨ b > 2 := by omega
          rcases hb with hb | hb
          · simp [b1, b2, hb]
          · have hn : ¬ b < 1 := by omega
            simp [b1, b2, hb, hn]
    · have ha : a < 1 ∨ a > 2 := by omega
      rcases ha with ha | ha
      · simp [a1, a2, ha]
      · have hn : ¬ a < 1 := by omega
        simp [a1, a2, ha, hn]

theorem vo_ref (k : Nat) (a b : Int) : ∃ r, changeoverref07_Opens.f (k + 1) a b = some r := by
  unfold changeoverref07_Opens.f
  simp only [changeoverref07_Opens.j0]
  repeat' split
  all_goals exact ⟨_, rfl⟩

theorem vo_awake : changeoverlaw07_awake.f 1 = some true := by decide

theorem VersOpens : changeoverlaw07_VersOpens.Pure := by
  intro a0 a1 a2 _ _ _
  refine ⟨2, ?_⟩
  obtain ⟨r, hr⟩ := vo_ref 0 a0 a1
  unfold changeoverlaw07_VersOpens.f
  simp only [changeoverlaw07_VersOpens.j0, vo_opens, Nat.zero_add, hr, Option.bind_some, if_true, vers_Format.f, vo_awake]
  by_cases h : a2 > 0 <;> simp [h]

end Go.Proofs.Ytopbldbgnpeelaa.Pure
