/- frame.Next, and the document's, as contracts; what goes through all frames. No condition. -/
import Derived.Test.YtopbldbgnpeelaaDoorVnext3
set_option maxRecDepth 100000
set_option linter.unusedVariables false
set_option linter.unusedSimpArgs false
namespace Go.Proofs.YtopbldbgnpeelaaDoor.V
open Go Go.Proofs.AbsV
theorem isBytesB_of {b : List Int} (hb : isBytes b) : isBytesB b = true := List.all_eq_true.2 (fun c hc => by have := hb c hc; simpa using this)
/-- A contract that says less of what comes back. -/
theorem PureOK.weakenR {P : Program} {E : Env} {f : FuncId} {sp sp' : List AV → List (Bool × AV)} (h : PureOK P E f sp)
    (hs : ∀ args r, sel (sp' args) = some r → ∃ r0, sel (sp args) = some r0 ∧ ptrsB 0 r0 = true ∧ ∀ c v, Rep c r0 v → Rep c r v) : PureOK P E f sp' :=
  ⟨h.fn, fun args r hr hp C w cargs h1 h2 h3 => by
    obtain ⟨r0, g1, g2, g3⟩ := hs args r hr
    refine (h.ok args r0 g1 g2 C w cargs h1 h2 h3).mono fun e w' hh => ?_
    obtain ⟨v, c', q1, q2, q3⟩ := hh
    exact ⟨v, c', q1, g3 c' v q2, q3⟩⟩
theorem rep_tup_weak {c : Ctx} {e : Ty} {xs : List e.den} {own : Option (Nat × TypeId)} {l : List AV} {v : Value} (h : Rep c (.tup (.sl e xs none own :: l)) v) : Rep c (.tup (.sl e xs none none :: l)) v := by
  obtain ⟨vs, rfl, v0, r0, e0, ⟨A, n, cap, h1, h2, h3, _⟩, hr⟩ := h
  exact ⟨vs, rfl, v0, r0, e0, ⟨A, n, cap, h1, h2, h3, trivial⟩, hr⟩
theorem rep_tup_nil {c : Ctx} {e : Ty} {l : List AV} {v : Value} (h : Rep c (.tup (.nilsl :: l)) v) : Rep c (.tup (.sl e [] none none :: l)) v := by
  obtain ⟨vs, rfl, v0, r0, e0, rfl, hr⟩ := h
  exact ⟨vs, rfl, _, r0, e0, ⟨none, 0, 0, rfl, ⟨rfl, Nat.le_refl _, fun _ => rfl, by omega, fun i hi => by simp at hi⟩, trivial, trivial⟩, hr⟩
def nxG (b : List Int) : Bool := isBytesB b && Nat.ble b.length 1000000000000
def nxSp (own : Option (Nat × TypeId)) : List AV → List (Bool × AV)
  | [x, .int .i64 a] => match bytesIn x with
    | some b => [(nxG b && (nxE b a != 0), .tup [.nilsl, .int .i64 0, .int .i64 (nxE b a)]), (nxG b, .tup [.sl B (nxBody b a) none own, .int .i64 (nxEnd b a), .int .i64 0])]
    | none => []
  | _ => []
theorem nxSp_sel {b : List Int} {a : Int} {own : Option (Nat × TypeId)} {r : AV} (h : sel [(nxG b && (nxE b a != 0), AV.tup [.nilsl, .int .i64 0, .int .i64 (nxE b a)]), (nxG b, .tup [.sl B (nxBody b a) none own, .int .i64 (nxEnd b a), .int .i64 0])] = some r) :
    isBytes b ∧ b.length ≤ 1000000000000 ∧ r = nxR b a own := by
  cases hg : nxG b with
  | false =>
    rw [hg] at h
    exact absurd h (by simp [sel])
  | true =>
    rw [hg] at h
    have h1 : isBytesB b = true ∧ Nat.ble b.length 1000000000000 = true := by
      unfold nxG at hg
      simpa only [Bool.and_eq_true] using hg
    refine ⟨isBytes_of h1.1, by simpa only [Nat.ble_eq] using h1.2, ?_⟩
    unfold nxR
    cases he : (nxE b a != 0) with
    | true => rw [he] at h; cases h; rfl
    | false => rw [he] at h; cases h; rfl
theorem next_ok : PureOK Tryd.prog env 12 (nxSp (some (0, 5))) := by
  refine PureOK.of_reads envOK tokN1 noInl_ok fn_next (hv := next_hv) (fun args r h => ?_)
  unfold nxSp at h
  split at h
  · rename_i x a
    split at h
    · rename_i b hx
      obtain ⟨h1, h2, rfl⟩ := nxSp_sel h
      exact ⟨_, 0, .bytes hx (.same .nil), next_run 0 b a h1 h2 (fun r _ => some r)⟩
    · cases h
  · cases h
theorem rnext_ok : PureOK Tryd.prog env 13 (nxSp none) := by
  refine PureOK.of_reads envOK tokR1 noInl_ok fn_rnext (hv := rnext_hv) (fun args r h => ?_)
  unfold nxSp at h
  split at h
  · rename_i x a
    split at h
    · rename_i b hx
      obtain ⟨h1, h2, rfl⟩ := nxSp_sel h
      exact ⟨_, 0, .bytes hx (.same .nil), rnext_run 0 b a h1 h2 (fun r _ => some r)⟩
    · cases h
  · cases h
/-! ### All frames from a place on -/
def scanL (b : List Int) : Nat → List (List Int) → Int → List (List Int) × Int
  | 0, out, a => (out, a)
  | n + 1, out, a => bif nxE b a != 0 then (out, a) else scanL b n (out ++ [nxBody b a]) (nxEnd b a)
theorem nx_more {b : List Int} {a : Int} (hb : isBytes b) (hx : b.length ≤ 1000000000000) (h : (nxE b a != 0) = false) : 0 ≤ a ∧ a < nxEnd b a ∧ nxEnd b a ≤ ((b.length : Nat) : Int) ∧ (nxBody b a).length ≤ b.length := by
  have hbody : (nxBody b a).length ≤ b.length := by unfold nxBody; rw [List.length_take, List.length_drop]; omega
  unfold nxE at h
  cases he : ((gt b a).2.2 != 0) with
  | true => rw [he, cond_true, he] at h; cases h
  | false =>
    rw [he, cond_false] at h
    have he' : (gt b a).2.2 = 0 := by simpa using he
    obtain ⟨an, m, fm, rfl, hgt, h1, h2, h3, h4⟩ := gt_ok hb (by omega) he'
    unfold nxEnd
    rw [hgt] at h ⊢
    simp only at h ⊢
    cases hm : (mayI (m : Int) != 0) with
    | true => rw [hm, cond_true, hm] at h; cases h
    | false =>
      rw [hm, cond_false] at h
      by_cases hs : ((b.length : Nat) : Int) - (fm : Int) < (m : Int) + 4
      · rw [cond_pos hs] at h; cases h
      · exact ⟨by omega, by omega, by omega, hbody⟩
theorem nx_end {b : List Int} {a : Int} (hb : isBytes b) (hx : b.length ≤ 1000000000000) (h : ((b.length : Nat) : Int) ≤ a) : (nxE b a != 0) = true := by
  cases he : (nxE b a != 0) with
  | true => rfl
  | false =>
    obtain ⟨h1, h2, h3, _⟩ := nx_more hb hx he
    omega
end Go.Proofs.YtopbldbgnpeelaaDoor.V
