/- Frames one behind the other, and a beginning of them: what all frames from the beginning on are. No program. No condition. -/
import Derived.Test.YtopbldbgnpeelaaDoorWfnexts
set_option maxRecDepth 100000
set_option linter.unusedVariables false
set_option linter.unusedSimpArgs false
namespace Go.Proofs.YtopbldbgnpeelaaDoor.V
open Go Go.Proofs.AbsV
theorem putL_ne' (f : Nat) (m : Int) : 1 ≤ (putL f m).length := by
  cases f with
  | zero => simp [putL]
  | succ f =>
    by_cases h : m ≥ 128
    · rw [putL_pos h]; simp
    · rw [putL_neg h]; simp
theorem putL_prefix' : ∀ (f : Nat) (a b : Int), 0 ≤ a → 0 ≤ b → a < 128 ^ (f + 1) → b < 128 ^ (f + 1) → putL f a = (putL f b).take (putL f a).length → a = b
  | 0, a, b, ha, hb, ha', hb', h => by
    simp only [putL, List.length_singleton, List.take_succ_cons, List.take_zero, List.cons.injEq, and_true] at h
    rw [IntWalk.u8_in _ (by omega), IntWalk.u8_in _ (by omega)] at h
    exact h
  | f + 1, a, b, ha, hb, ha', hb', h => by
    by_cases h1 : a ≥ 128
    · rw [putL_pos h1] at h
      by_cases h2 : b ≥ 128
      · rw [putL_pos h2, List.length_cons, List.take_succ_cons] at h
        obtain ⟨h3, h4⟩ := List.cons.inj h
        rw [orb ha, orb hb] at h3
        have := putL_prefix' f _ _ (by rw [shr7]; omega) (by rw [shr7]; omega) (by rw [shr7, Int.pow_succ] at *; omega) (by rw [shr7, Int.pow_succ] at *; omega) h4
        rw [shr7, shr7] at this
        omega
      · rw [putL_neg h2, List.length_cons, List.take_succ_cons] at h
        obtain ⟨h3, h4⟩ := List.cons.inj h
        rw [orb ha, IntWalk.u8_in _ (by omega)] at h3
        omega
    · rw [putL_neg h1] at h
      by_cases h2 : b ≥ 128
      · rw [putL_pos h2, List.length_singleton, List.take_succ_cons] at h
        obtain ⟨h3, h4⟩ := List.cons.inj h
        rw [orb hb, IntWalk.u8_in _ (by omega)] at h3
        omega
      · rw [putL_neg h2, List.length_singleton, List.take_succ_cons] at h
        obtain ⟨h3, h4⟩ := List.cons.inj h
        rw [IntWalk.u8_in _ (by omega), IntWalk.u8_in _ (by omega)] at h3
        exact h3
theorem u8_range (x : Int) : 0 ≤ IntKind.u8.wrap x ∧ IntKind.u8.wrap x < 256 := by
  have e : IntKind.u8.wrap x = x.emod 256 := rfl
  rw [e]
  exact ⟨Int.emod_nonneg _ (by decide), Int.emod_lt_of_pos _ (by decide)⟩
theorem putL_bytes : ∀ (f : Nat) (m : Int), 0 ≤ m → isBytes (putL f m)
  | 0, m, h => fun c hc => by
    rw [putL] at hc
    rw [List.mem_singleton.1 hc]
    exact u8_range _
  | f + 1, m, h => fun c hc => by
    by_cases h1 : m ≥ 128
    · rw [putL_pos h1] at hc
      rcases List.mem_cons.1 hc with rfl | hc
      · rw [orb h]; omega
      · exact putL_bytes f _ (by rw [shr7]; omega) c hc
    · rw [putL_neg h1] at hc
      rw [List.mem_singleton.1 hc]
      exact u8_range _
theorem isBytes_append {a b : List Int} (ha : isBytes a) (hb : isBytes b) : isBytes (a ++ b) := fun c hc => by
  rcases List.mem_append.1 hc with h | h
  · exact ha c h
  · exact hb c h
theorem isBytes_take {a : List Int} (ha : isBytes a) (n : Nat) : isBytes (a.take n) := fun c hc => ha c (List.mem_of_mem_take hc)
theorem le4_bytes (s : Int) : isBytes (le4 s) := fun c hc => by
  unfold le4 at hc
  simp only [List.mem_cons, List.not_mem_nil, or_false] at hc
  rcases hc with rfl | rfl | rfl | rfl <;> exact u8_range _
theorem frame_bytes {w : List Int} (h : isBytes w) : isBytes (frameOf w) := isBytes_append (putL_bytes 9 _ (by omega)) (isBytes_append h (le4_bytes _))
/-- A number that stands in the middle. -/
theorem gt_put (pre post : List Int) (m : Nat) (hm : m < 9223372036854775808) (hl : (pre ++ putL 9 (m : Int) ++ post).length ≤ 4611686018427387904) :
    gt (pre ++ putL 9 (m : Int) ++ post) ((pre.length : Nat) : Int) = ((m : Int), ((pre.length + (putL 9 (m : Int)).length : Nat) : Int), 0) := by
  have hpw : (9223372036854775808 : Nat) < 128 ^ (9 + 1) := by decide
  have h := get_dec pre.length post 9 0 m 0 10 pre (by omega) (by decide) (Nat.lt_trans hm hpw) (by simpa using hm) (fun h => absurd h (by decide)) (by omega) hl
  have hle : pre.length ≤ (pre ++ putL 9 (m : Int) ++ post).length := by simp only [List.length_append]; omega
  unfold gt
  rw [if_neg (by omega), Int.toNat_natCast]
  simpa using h
theorem good_small {w : List Int} (h1 : 1 ≤ w.length) (h2 : w.length ≤ 300) : mayI ((w.length : Nat) : Int) = 0 := by
  unfold mayI
  rw [cond_neg (by omega), cond_neg (by omega)]
theorem nx_frame (pre w post : List Int) (h1 : 1 ≤ w.length) (h2 : w.length ≤ 300) (hl : (pre ++ (frameOf w ++ post)).length ≤ 1000000000000) :
    nxE (pre ++ (frameOf w ++ post)) ((pre.length : Nat) : Int) = 0 ∧ nxBody (pre ++ (frameOf w ++ post)) ((pre.length : Nat) : Int) = w ∧ nxEnd (pre ++ (frameOf w ++ post)) ((pre.length : Nat) : Int) = ((pre.length + (frameOf w).length : Nat) : Int) := by
  have e1 : pre ++ (frameOf w ++ post) = pre ++ putL 9 ((w.length : Nat) : Int) ++ (w ++ (le4 (crcI 0 w) ++ post)) := by
    unfold frameOf
    simp only [List.append_assoc]
  have hg := gt_put pre (w ++ (le4 (crcI 0 w) ++ post)) w.length (by omega) (by rw [← e1]; omega)
  rw [← e1] at hg
  have d1 : (pre ++ (frameOf w ++ post)).drop (pre.length + (putL 9 ((w.length : Nat) : Int)).length) = w ++ (le4 (crcI 0 w) ++ post) := by
    rw [e1, ← List.length_append, List.drop_left]
  have hb : nxBody (pre ++ (frameOf w ++ post)) ((pre.length : Nat) : Int) = w := by
    unfold nxBody
    rw [hg]
    simp only [Int.toNat_natCast]
    rw [d1, List.take_left]
  have d2 : (pre ++ (frameOf w ++ post)).drop (pre.length + (putL 9 ((w.length : Nat) : Int)).length + w.length) = le4 (crcI 0 w) ++ post := by
    rw [← List.drop_drop, d1, List.drop_left]
  have hfl := frame_length w
  have hlen : (pre ++ (frameOf w ++ post)).length = pre.length + (putL 9 ((w.length : Nat) : Int)).length + w.length + 4 + post.length := by
    simp only [List.length_append]; omega
  refine ⟨?_, hb, ?_⟩
  · unfold nxE
    rw [hb, hg]
    simp only [Int.toNat_natCast, bne_self_eq_false, cond_false]
    rw [good_small h1 h2, d2, hlen, show ((0 : Int) != 0) = false from rfl, cond_false, cond_neg (by omega)]
    rw [show (le4 (crcI 0 w) ++ post).take 4 = le4 (crcI 0 w) from List.take_left (l₁ := le4 (crcI 0 w)), beq_self_eq_true]
    rfl
  · unfold nxEnd
    rw [hg]
    show ((pre.length + (putL 9 ((w.length : Nat) : Int)).length : Nat) : Int) + ((w.length : Nat) : Int) + 4 = _
    omega
theorem nx_cut (pre w : List Int) (r : Nat) (hp : isBytes pre) (hw : isBytes w) (h1 : 1 ≤ w.length) (h2 : w.length ≤ 300) (hr : r < (frameOf w).length) (hl : (pre ++ (frameOf w).take r).length ≤ 1000000000000) :
    nxE (pre ++ (frameOf w).take r) ((pre.length : Nat) : Int) ≠ 0 := by
  have hfl := frame_length w
  have hlt : ((frameOf w).take r).length = r := by rw [List.length_take]; omega
  have hlen : (pre ++ (frameOf w).take r).length = pre.length + r := by rw [List.length_append, hlt]
  by_cases hc : (putL 9 ((w.length : Nat) : Int)).length ≤ r
  · have e1 : pre ++ (frameOf w).take r = pre ++ putL 9 ((w.length : Nat) : Int) ++ (w ++ le4 (crcI 0 w)).take (r - (putL 9 ((w.length : Nat) : Int)).length) := by
      unfold frameOf
      rw [List.append_assoc, List.take_append, List.take_of_length_le hc]
    have hg := gt_put pre ((w ++ le4 (crcI 0 w)).take (r - (putL 9 ((w.length : Nat) : Int)).length)) w.length (by omega) (by rw [← e1]; omega)
    rw [← e1] at hg
    unfold nxE
    rw [hg]
    simp only [bne_self_eq_false, cond_false]
    rw [good_small h1 h2, hlen, show ((0 : Int) != 0) = false from rfl, cond_false, cond_pos (by omega)]
    decide
  · intro he
    have hb : isBytes (pre ++ (frameOf w).take r) := isBytes_append hp (isBytes_take (frame_bytes hw) r)
    have hge : (gt (pre ++ (frameOf w).take r) ((pre.length : Nat) : Int)).2.2 = 0 := by
      unfold nxE at he
      cases hx : ((gt (pre ++ (frameOf w).take r) ((pre.length : Nat) : Int)).2.2 != 0) with
      | false => simpa using hx
      | true => rw [hx, cond_true] at he; exact he
    obtain ⟨an, m, fm, ha, hg, g1, g2, g3, g4⟩ := gt_ok hb (by omega) hge
    have : an = pre.length := by omega
    subst this
    rw [List.drop_left, List.take_take] at g4
    have e2 : (frameOf w).take (min (fm - pre.length) r) = (putL 9 ((w.length : Nat) : Int)).take (fm - pre.length) := by
      rw [hlen] at g2
      rw [show min (fm - pre.length) r = fm - pre.length by omega]
      unfold frameOf
      rw [List.take_append, show fm - pre.length - (putL 9 ((w.length : Nat) : Int)).length = 0 by omega, List.take_zero, List.append_nil]
    rw [e2] at g4
    have hl2 : (putL 9 (m : Int)).length = fm - pre.length := by
      rw [← g4, List.length_take]; rw [hlen] at g2; omega
    have hpow : (128 : Int) ^ (9 + 1) = 1180591620717411303424 := by decide
    have hmw := putL_prefix' 9 (m : Int) ((w.length : Nat) : Int) (by omega) (by omega) (by omega) (by omega) (by rw [hl2]; exact g4.symm)
    rw [hmw] at hl2
    rw [hlen] at g2
    omega
/-! ### Frames one behind the other -/
def frames : List (List Int) → List Int
  | [] => []
  | x :: r => frameOf x ++ frames r
structure GoodW (w : List Int) : Prop where
  by' : isBytes w
  lo : 1 ≤ w.length
  hi : w.length ≤ 300
theorem frames_append : ∀ a b : List (List Int), frames (a ++ b) = frames a ++ frames b
  | [], b => rfl
  | x :: r, b => by
    show frameOf x ++ frames (r ++ b) = (frameOf x ++ frames r) ++ frames b
    rw [frames_append r b, List.append_assoc]
theorem frames_bytes : ∀ {a : List (List Int)}, (∀ x ∈ a, GoodW x) → isBytes (frames a)
  | [], _ => fun c hc => by cases hc
  | x :: r, h => isBytes_append (frame_bytes (h x (List.mem_cons_self)).by') (frames_bytes (fun y hy => h y (List.mem_cons_of_mem _ hy)))
theorem frames_len : ∀ (a : List (List Int)), a.length ≤ (frames a).length
  | [] => Nat.le_refl _
  | x :: r => by
    have h := frames_len r
    have h2 := frame_length x
    have h3 := putL_ne' 9 ((x.length : Nat) : Int)
    show r.length + 1 ≤ (frameOf x ++ frames r).length
    rw [List.length_append]
    omega
theorem frame_short {x : List Int} (h : x.length ≤ 300) : 5 ≤ (frameOf x).length ∧ (frameOf x).length ≤ 320 := by
  have h2 := frame_length x
  have h3 := putL_ne' 9 ((x.length : Nat) : Int)
  have h4 := putL_length 9 ((x.length : Nat) : Int)
  omega
theorem scan_frames (t : List Int) : ∀ (ws : List (List Int)) (pre : List Int) (out : List (List Int)) (k : Nat), (∀ x ∈ ws, GoodW x) → (pre ++ (frames ws ++ t)).length ≤ 1000000000000 →
    nxE (pre ++ (frames ws ++ t)) ((pre.length + (frames ws).length : Nat) : Int) ≠ 0 →
    scanL (pre ++ (frames ws ++ t)) (k + ws.length + 1) out ((pre.length : Nat) : Int) = (out ++ ws, ((pre.length + (frames ws).length : Nat) : Int))
  | [], pre, out, k, hG, hl, hs => by
    have hs' : nxE (pre ++ (frames [] ++ t)) ((pre.length : Nat) : Int) ≠ 0 := hs
    unfold scanL
    rw [show (nxE (pre ++ (frames [] ++ t)) ((pre.length : Nat) : Int) != 0) = true by rw [bne, beq_eq_false_iff_ne.2 hs']; rfl, cond_true, List.append_nil]
    rfl
  | w :: r, pre, out, k, hG, hl, hs => by
    have hw := hG w (List.mem_cons_self)
    have e1 : pre ++ (frames (w :: r) ++ t) = pre ++ (frameOf w ++ (frames r ++ t)) := by
      show pre ++ ((frameOf w ++ frames r) ++ t) = _
      rw [List.append_assoc]
    have e2 : pre ++ (frames (w :: r) ++ t) = (pre ++ frameOf w) ++ (frames r ++ t) := by rw [e1, List.append_assoc]
    obtain ⟨n1, n2, n3⟩ := nx_frame pre w (frames r ++ t) hw.lo hw.hi (by rw [← e1]; exact hl)
    rw [← e1] at n1 n2 n3
    have e3 : (frames (w :: r)).length = (frameOf w).length + (frames r).length := List.length_append
    have e4 : (pre ++ frameOf w).length = pre.length + (frameOf w).length := List.length_append
    have ih := scan_frames t r (pre ++ frameOf w) (out ++ [w]) k (fun x hx => hG x (List.mem_cons_of_mem _ hx)) (by rw [← e2]; exact hl) (by rw [← e2, e4, Nat.add_assoc, ← e3]; exact hs)
    rw [← e2, e4] at ih
    show scanL _ (k + r.length + 1 + 1) out _ = _
    rw [scanL, n1, n2, n3, show ((0 : Int) != 0) = false from rfl, cond_false, ih, e3, List.append_assoc, Nat.add_assoc]
    rfl
theorem scan_cut (want : List (List Int)) (t : List Int) (hG : ∀ x ∈ want, GoodW x) (hl : (frames want ++ t).length ≤ 1000000000000) (ht : t = [] ∨ ∃ x r, GoodW x ∧ r < (frameOf x).length ∧ t = (frameOf x).take r) :
    isBytes (frames want ++ t) ∧ scanB (frames want ++ t) = (want, (((frames want).length : Nat) : Int)) := by
  have hb : isBytes (frames want ++ t) := isBytes_append (frames_bytes hG) (by
    rcases ht with rfl | ⟨x, r, hx, _, rfl⟩
    · exact fun c hc => by cases hc
    · exact isBytes_take (frame_bytes hx.by') r)
  refine ⟨hb, ?_⟩
  have hle := frames_len want
  have hll : (frames want ++ t).length = (frames want).length + t.length := List.length_append
  obtain ⟨k, hk⟩ : ∃ k, (frames want ++ t).length = k + want.length := ⟨(frames want ++ t).length - want.length, by omega⟩
  unfold scanB
  rw [hk]
  have h := scan_frames t want [] [] k hG hl (by
    show nxE (frames want ++ t) ((0 + (frames want).length : Nat) : Int) ≠ 0
    rw [Nat.zero_add]
    rcases ht with rfl | ⟨x, r, hx, hr, rfl⟩
    · have := nx_end hb hl (a := (((frames want).length : Nat) : Int)) (by rw [hll]; simp)
      simpa using this
    · exact nx_cut (frames want) x r (frames_bytes hG) hx.by' hx.lo hx.hi hr hl)
  simpa using h
end Go.Proofs.YtopbldbgnpeelaaDoor.V
