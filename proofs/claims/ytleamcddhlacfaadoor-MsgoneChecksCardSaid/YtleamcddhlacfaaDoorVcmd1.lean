/- A command's parts: what is said of each, as contracts. No condition. -/
import Derived.Test.YtleamcddhlacfaaDoorVcmd0
set_option maxRecDepth 100000
set_option linter.unusedVariables false
set_option linter.unusedSimpArgs false
namespace Go.Proofs.YtleamcddhlacfaaDoor.V
open Go Go.Proofs.AbsV
def eqF : Option Nat → AV → Bool
  | none, .nilfn => true
  | some g, .fn g' [] => Nat.beq g g'
  | _, _ => false
def avF : Option Nat → AV
  | none => .nilfn
  | some g => .fn g []
theorem eqF_eq {o : Option Nat} {x : AV} (h : eqF o x = true) : x = avF o := by
  unfold eqF at h
  split at h
  · rfl
  · rw [Nat.eq_of_beq_eq_true h]; rfl
  · cases h
def pIs (h m : Int) (o : Option Nat) (g : Nat) : List AV → Bool
  | [.int .i64 h', .int .i64 m', x, y] => h == h' && (m == m' && (eqF o x && eqF (some g) y))
  | _ => false
theorem pIs_eq {h m : Int} {o : Option Nat} {g : Nat} {l : List AV} (e : pIs h m o g l = true) : l = [.int .i64 h, .int .i64 m, avF o, .fn g []] := by
  unfold pIs at e
  split at e
  · simp only [Bool.and_eq_true, beq_iff_eq] at e
    obtain ⟨rfl, rfl, e1, e2⟩ := e
    rw [eqF_eq e1, eqF_eq e2]
    rfl
  · cases e
def cmdIn (l : List AV) : Option CT.den := match unfl CT l with
  | some (d, []) => some d
  | _ => none
def cmdL (d : CT.den) : List AV := cmdC d.1 d.2.1 d.2.2.1 d.2.2.2.1 d.2.2.2.2.1 d.2.2.2.2.2.1 d.2.2.2.2.2.2.1
theorem sel_app {β : Type} : ∀ {l m : List (Bool × β)} {r : β}, sel (l ++ m) = some r → sel l = some r ∨ sel m = some r
  | [], m, r, h => .inr h
  | (g, x) :: l, m, r, h => by
    cases g with
    | true => exact .inl h
    | false =>
      rcases sel_app (l := l) (m := m) (r := r) h with h | h
      · exact .inl h
      · exact .inr h
theorem QOK.app {P : Program} {E : Env} {f : FuncId} {q1 q2 : QSpec} (h1 : QOK P E f q1) (h2 : QOK P E f q2) : QOK P E f (fun a b => q1 a b ++ q2 a b) :=
  ⟨h1.fn, fun args bx r bx' h => (sel_app h).elim (h1.ok args bx r bx') (h2.ok args bx r bx')⟩
theorem repL_cmd {c : Ctx} {l : List AV} {d : CT.den} {vs : List Value} (h : cmdIn l = some d) (hr : RepL c l vs) : RepL c (cmdL d) vs := by
  unfold cmdIn at h
  split at h
  · rename_i d' hu
    cases h
    obtain ⟨v1, v2, e, h1, h2⟩ := repD_unfl c CT l vs hr _ _ hu
    simp only [RepL] at h2
    subst h2
    rw [List.append_nil] at e
    rw [e]
    exact repL_flat c CT d _ h1
  · cases h
theorem good_cmd {c : Ctx} {w : World} {T : TypeId} {l : List AV} {d : CT.den} {r : List Box2} (h : cmdIn l = some d) (hg : AbsV.Good c w (.cells T l :: r)) : AbsV.Good c w (.cells T (cmdL d) :: r) := by
  refine AbsV.Good.cast hg rfl (fun i B' hi => ?_)
  cases i with
  | zero =>
    cases hi
    exact ⟨_, rfl, fun k hk => by obtain ⟨arr, h1, h2⟩ := hk; exact ⟨arr, h1, repL_cmd h h2⟩⟩
  | succ i => exact ⟨B', hi, fun k hk => hk⟩
/-- A function of boxes the first of which is a command, out of its run. -/
theorem QOK.of_cmd {P : Program} {E : Env} (hE : EnvOK P E) {T : FuncId → Option CSpec} (hT : TOK P E T) {inl : Inl (AV × List Box2)} (hI : InlOK P E inl) {f : FuncId} {fn : Func} (hfn : FnOK P f fn) {hv : Keeps} {q : QSpec}
    (h : ∀ args bx r bx', sel (q args bx) = some (r, bx') → ∃ T0 l rest d fuel, bx = .cells T0 l :: rest ∧ cmdIn l = some d ∧ runF E T inl hv fuel fn args (.cells T0 (cmdL d) :: rest) (fun r bx => some (r, bx)) = some (r, bx')) : QOK P E f q := by
  refine ⟨⟨fn, hfn⟩, fun args bx r bx' hs c w cargs hg hgl hargs => ?_⟩
  obtain ⟨T0, l, rest, d, fuel, rfl, hc, hrun⟩ := h args bx r bx' hs
  refine (runF_ok hE hT hI hfn hrun c w cargs (good_cmd hc hg) hgl hargs).mono fun e w' hh => ?_
  obtain ⟨v, r', bx2, c', rfl, g1, g2, g3, g4, g5⟩ := hh
  cases g1
  exact ⟨v, c', rfl, g2, g3, g4, g5⟩
def numA (f b x m : Int) : Bool := !bitB f b || (decide (x ≥ 1) && decide (x ≤ m))
def numF (f b x : Int) : Bool := bitB f b || x == 0
def emptyB (s : ByteArray) : Bool := ByteArray.toList s == ByteArray.toList { data := { toList := [] } }
def texA (f b : Int) (ok : Bool) : Bool := !bitB f b || ok
def texF (f b : Int) (s : ByteArray) : Bool := bitB f b || emptyB s
theorem bit_eq (f b : Int) : (andI .i64 f b == 0) = !bitB f b := by unfold bitB; simp [bne]
def num1Q : QSpec := fun args bx => match args, bx with
  | [.agg p, .ptr b o, .int .i64 f], [.cells T1 c, .cells T2 q] => match cmdIn c with
    | some d => [(Nat.beq b 0 && (Nat.beq o 0 && (Nat.beq T1 48 && (Nat.beq T2 112 && (pIs 1 8 none 102 p && pIs 1 8 none 102 q)))), (.tup [.bool (numA f 1 d.2.1 8), .bool (numF f 1 d.2.1)], [.cells 48 (cmdL d), .cells 112 (part1), .cells 112 (part1)]))]
    | none => []
  | _, _ => []
theorem num1_run (kd cl sq : Int) (ke va ol : ByteArray) (nd : Int) (f : Int) : runF env TP1 pinl num1_hv 0 Tryd.f91 [.agg part1, .ptr 0 0, .int .i64 f] [.cells 48 (cmdC kd cl sq ke va ol nd), .cells 112 part1] (fun r bx => some (r, bx)) = some (.tup [.bool (numA f 1 cl 8), .bool (numF f 1 cl)], [.cells 48 (cmdC kd cl sq ke va ol nd), .cells 112 part1, .cells 112 part1]) := by
  refine (num1_in 0 kd cl sq ke va ol nd f (fun r bx => some (r, bx))).trans ?_
  rw [bit_eq]
  unfold numA numF
  cases bitB f 1 <;> cases decide (cl ≥ 1) <;> rfl
theorem num1Q_ok : QOK Tryd.prog env 91 num1Q := by
  refine QOK.of_cmd envOK tokP1 pinl_ok fn_num1 (hv := num1_hv) (fun args bx r bx' h => ?_)
  unfold num1Q at h
  split at h
  · rename_i p b o f T1 c T2 q
    split at h
    · rename_i d hd
      obtain ⟨g, e⟩ := sel_one h
      cases e
      simp only [Bool.and_eq_true] at g
      obtain ⟨g1, g2, g3, g4, g5, g6⟩ := g
      have e1 := Nat.eq_of_beq_eq_true g1
      have e2 := Nat.eq_of_beq_eq_true g2
      have e3 := Nat.eq_of_beq_eq_true g3
      have e4 := Nat.eq_of_beq_eq_true g4
      have e5 := pIs_eq g5
      have e6 := pIs_eq g6
      subst e1 e2 e3 e4 e5 e6
      refine ⟨_, _, _, d, 0, rfl, hd, ?_⟩
      exact num1_run d.1 d.2.1 d.2.2.1 d.2.2.2.1 d.2.2.2.2.1 d.2.2.2.2.2.1 d.2.2.2.2.2.2.1 f
    · cases h
  · cases h
def tex1Q : QSpec := fun args bx => match args, bx with
  | [.agg p, .ptr b o, .int .i64 f], [.cells T1 c, .cells T2 q, .cells T3 q3] => match cmdIn c with
    | some d => [(Nat.beq b 0 && (Nat.beq o 0 && (Nat.beq T1 48 && (Nat.beq T2 112 && (Nat.beq T3 112 && (pIs 1 8 none 102 p && (pIs 1 8 none 102 q && pIs 1 8 none 102 q3)))))), (.tup [.bool true, .bool true], [.cells 48 (cmdL d), .cells 112 (part1), .cells 112 (part1), .cells 112 (part1)]))]
    | none => []
  | _, _ => []
theorem tex1Q_ok : QOK Tryd.prog env 92 tex1Q := by
  refine QOK.of_cmd envOK tokP1 pinl_ok fn_tex1 (hv := tex1_hv) (fun args bx r bx' h => ?_)
  unfold tex1Q at h
  split at h
  · rename_i p b o f T1 c T2 q T3 q3
    split at h
    · rename_i d hd
      obtain ⟨g, e⟩ := sel_one h
      cases e
      simp only [Bool.and_eq_true] at g
      obtain ⟨g1, g2, g3, g4, g7, g5, g6, g8⟩ := g
      have e1 := Nat.eq_of_beq_eq_true g1
      have e2 := Nat.eq_of_beq_eq_true g2
      have e3 := Nat.eq_of_beq_eq_true g3
      have e4 := Nat.eq_of_beq_eq_true g4
      have e5 := pIs_eq g5
      have e6 := pIs_eq g6
      subst e1 e2 e3 e4 e5 e6
      have e7 := Nat.eq_of_beq_eq_true g7
      have e8 := pIs_eq g8
      subst e7 e8
      refine ⟨_, _, _, d, 0, rfl, hd, ?_⟩
      exact tex1_in 0 d.1 d.2.1 d.2.2.1 d.2.2.2.1 d.2.2.2.2.1 d.2.2.2.2.2.1 d.2.2.2.2.2.2.1 f (fun r bx => some (r, bx))
    · cases h
  · cases h
def num2Q : QSpec := fun args bx => match args, bx with
  | [.agg p, .ptr b o, .int .i64 f], [.cells T1 c, .cells T2 q] => match cmdIn c with
    | some d => [(Nat.beq b 0 && (Nat.beq o 0 && (Nat.beq T1 48 && (Nat.beq T2 112 && (pIs 1 4294967296 none 103 p && pIs 1 4294967296 none 103 q)))), (.tup [.bool (numA f 1 d.2.2.1 4294967296), .bool (numF f 1 d.2.2.1)], [.cells 48 (cmdL d), .cells 112 (part2), .cells 112 (part2)]))]
    | none => []
  | _, _ => []
theorem num2_run (kd cl sq : Int) (ke va ol : ByteArray) (nd : Int) (f : Int) : runF env TP1 pinl num2_hv 0 Tryd.f91 [.agg part2, .ptr 0 0, .int .i64 f] [.cells 48 (cmdC kd cl sq ke va ol nd), .cells 112 part2] (fun r bx => some (r, bx)) = some (.tup [.bool (numA f 1 sq 4294967296), .bool (numF f 1 sq)], [.cells 48 (cmdC kd cl sq ke va ol nd), .cells 112 part2, .cells 112 part2]) := by
  refine (num2_in 0 kd cl sq ke va ol nd f (fun r bx => some (r, bx))).trans ?_
  rw [bit_eq]
  unfold numA numF
  cases bitB f 1 <;> cases decide (sq ≥ 1) <;> rfl
theorem num2Q_ok : QOK Tryd.prog env 91 num2Q := by
  refine QOK.of_cmd envOK tokP1 pinl_ok fn_num2 (hv := num2_hv) (fun args bx r bx' h => ?_)
  unfold num2Q at h
  split at h
  · rename_i p b o f T1 c T2 q
    split at h
    · rename_i d hd
      obtain ⟨g, e⟩ := sel_one h
      cases e
      simp only [Bool.and_eq_true] at g
      obtain ⟨g1, g2, g3, g4, g5, g6⟩ := g
      have e1 := Nat.eq_of_beq_eq_true g1
      have e2 := Nat.eq_of_beq_eq_true g2
      have e3 := Nat.eq_of_beq_eq_true g3
      have e4 := Nat.eq_of_beq_eq_true g4
      have e5 := pIs_eq g5
      have e6 := pIs_eq g6
      subst e1 e2 e3 e4 e5 e6
      refine ⟨_, _, _, d, 0, rfl, hd, ?_⟩
      exact num2_run d.1 d.2.1 d.2.2.1 d.2.2.2.1 d.2.2.2.2.1 d.2.2.2.2.2.1 d.2.2.2.2.2.2.1 f
    · cases h
  · cases h
def tex2Q : QSpec := fun args bx => match args, bx with
  | [.agg p, .ptr b o, .int .i64 f], [.cells T1 c, .cells T2 q, .cells T3 q3] => match cmdIn c with
    | some d => [(Nat.beq b 0 && (Nat.beq o 0 && (Nat.beq T1 48 && (Nat.beq T2 112 && (Nat.beq T3 112 && (pIs 1 4294967296 none 103 p && (pIs 1 4294967296 none 103 q && pIs 1 4294967296 none 103 q3)))))), (.tup [.bool true, .bool true], [.cells 48 (cmdL d), .cells 112 (part2), .cells 112 (part2), .cells 112 (part2)]))]
    | none => []
  | _, _ => []
theorem tex2Q_ok : QOK Tryd.prog env 92 tex2Q := by
  refine QOK.of_cmd envOK tokP1 pinl_ok fn_tex2 (hv := tex2_hv) (fun args bx r bx' h => ?_)
  unfold tex2Q at h
  split at h
  · rename_i p b o f T1 c T2 q T3 q3
    split at h
    · rename_i d hd
      obtain ⟨g, e⟩ := sel_one h
      cases e
      simp only [Bool.and_eq_true] at g
      obtain ⟨g1, g2, g3, g4, g7, g5, g6, g8⟩ := g
      have e1 := Nat.eq_of_beq_eq_true g1
      have e2 := Nat.eq_of_beq_eq_true g2
      have e3 := Nat.eq_of_beq_eq_true g3
      have e4 := Nat.eq_of_beq_eq_true g4
      have e5 := pIs_eq g5
      have e6 := pIs_eq g6
      subst e1 e2 e3 e4 e5 e6
      have e7 := Nat.eq_of_beq_eq_true g7
      have e8 := pIs_eq g8
      subst e7 e8
      refine ⟨_, _, _, d, 0, rfl, hd, ?_⟩
      exact tex2_in 0 d.1 d.2.1 d.2.2.1 d.2.2.2.1 d.2.2.2.2.1 d.2.2.2.2.2.1 d.2.2.2.2.2.2.1 f (fun r bx => some (r, bx))
    · cases h
  · cases h
def num3Q : QSpec := fun args bx => match args, bx with
  | [.agg p, .ptr b o, .int .i64 f], [.cells T1 c, .cells T2 q] => match cmdIn c with
    | some d => [(Nat.beq b 0 && (Nat.beq o 0 && (Nat.beq T1 48 && (Nat.beq T2 112 && (pIs 2 0 (some 104) 105 p && pIs 2 0 (some 104) 105 q)))), (.tup [.bool true, .bool true], [.cells 48 (cmdL d), .cells 112 (part3), .cells 112 (part3)]))]
    | none => []
  | _, _ => []
theorem num3Q_ok : QOK Tryd.prog env 91 num3Q := by
  refine QOK.of_cmd envOK tokP1 pinl_ok fn_num3 (hv := num3_hv) (fun args bx r bx' h => ?_)
  unfold num3Q at h
  split at h
  · rename_i p b o f T1 c T2 q
    split at h
    · rename_i d hd
      obtain ⟨g, e⟩ := sel_one h
      cases e
      simp only [Bool.and_eq_true] at g
      obtain ⟨g1, g2, g3, g4, g5, g6⟩ := g
      have e1 := Nat.eq_of_beq_eq_true g1
      have e2 := Nat.eq_of_beq_eq_true g2
      have e3 := Nat.eq_of_beq_eq_true g3
      have e4 := Nat.eq_of_beq_eq_true g4
      have e5 := pIs_eq g5
      have e6 := pIs_eq g6
      subst e1 e2 e3 e4 e5 e6
      refine ⟨_, _, _, d, 0, rfl, hd, ?_⟩
      exact num3_in 0 d.1 d.2.1 d.2.2.1 d.2.2.2.1 d.2.2.2.2.1 d.2.2.2.2.2.1 d.2.2.2.2.2.2.1 f (fun r bx => some (r, bx))
    · cases h
  · cases h
def tex3Q : QSpec := fun args bx => match args, bx with
  | [.agg p, .ptr b o, .int .i64 f], [.cells T1 c, .cells T2 q, .cells T3 q3] => match cmdIn c with
    | some d => [((Nat.beq b 0 && (Nat.beq o 0 && (Nat.beq T1 48 && (Nat.beq T2 112 && (Nat.beq T3 112 && (pIs 2 0 (some 104) 105 p && (pIs 2 0 (some 104) 105 q && pIs 2 0 (some 104) 105 q3))))))) && (!bitB f 2 || smallS d.2.2.2.1), (.tup [.bool (texA f 2 (keyB d.2.2.2.1)), .bool (texF f 2 d.2.2.2.1)], [.cells 48 (cmdL d), .cells 112 (part3), .cells 112 (part3), .cells 112 (part3)]))]
    | none => []
  | _, _ => []
theorem tex3_run (kd cl sq : Int) (ke va ol : ByteArray) (nd : Int) (f : Int) (hs : bitB f 2 = false ∨ smallS ke = true) : runF env TP1 pinl tex3_hv 0 Tryd.f92 [.agg part3, .ptr 0 0, .int .i64 f] [.cells 48 (cmdC kd cl sq ke va ol nd), .cells 112 part3, .cells 112 part3] (fun r bx => some (r, bx)) = some (.tup [.bool (texA f 2 (keyB ke)), .bool (texF f 2 ke)], [.cells 48 (cmdC kd cl sq ke va ol nd), .cells 112 part3, .cells 112 part3, .cells 112 part3]) := by
  refine (tex3_in 0 kd cl sq ke va ol nd f (fun r bx => some (r, bx))).trans ?_
  rw [bit_eq]
  unfold texA texF emptyB
  cases hb : bitB f 2
  · rfl
  · rcases hs with hs | hs
    · rw [hb] at hs; cases hs
    · rw [hs]; rfl
theorem tex3Q_ok : QOK Tryd.prog env 92 tex3Q := by
  refine QOK.of_cmd envOK tokP1 pinl_ok fn_tex3 (hv := tex3_hv) (fun args bx r bx' h => ?_)
  unfold tex3Q at h
  split at h
  · rename_i p b o f T1 c T2 q T3 q3
    split at h
    · rename_i d hd
      obtain ⟨g, e⟩ := sel_one h
      cases e
      simp only [Bool.and_eq_true] at g
      obtain ⟨⟨g1, g2, g3, g4, g7, g5, g6, g8⟩, gs⟩ := g
      have e1 := Nat.eq_of_beq_eq_true g1
      have e2 := Nat.eq_of_beq_eq_true g2
      have e3 := Nat.eq_of_beq_eq_true g3
      have e4 := Nat.eq_of_beq_eq_true g4
      have e5 := pIs_eq g5
      have e6 := pIs_eq g6
      subst e1 e2 e3 e4 e5 e6
      have e7 := Nat.eq_of_beq_eq_true g7
      have e8 := pIs_eq g8
      subst e7 e8
      refine ⟨_, _, _, d, 0, rfl, hd, ?_⟩
      exact tex3_run d.1 d.2.1 d.2.2.1 d.2.2.2.1 d.2.2.2.2.1 d.2.2.2.2.2.1 d.2.2.2.2.2.2.1 f (by revert gs; cases bitB f 2 <;> intro gs <;> first | exact .inl rfl | exact .inr gs)
    · cases h
  · cases h
def num4Q : QSpec := fun args bx => match args, bx with
  | [.agg p, .ptr b o, .int .i64 f], [.cells T1 c, .cells T2 q] => match cmdIn c with
    | some d => [(Nat.beq b 0 && (Nat.beq o 0 && (Nat.beq T1 48 && (Nat.beq T2 112 && (pIs 4 0 (some 106) 107 p && pIs 4 0 (some 106) 107 q)))), (.tup [.bool true, .bool true], [.cells 48 (cmdL d), .cells 112 (part4), .cells 112 (part4)]))]
    | none => []
  | _, _ => []
theorem num4Q_ok : QOK Tryd.prog env 91 num4Q := by
  refine QOK.of_cmd envOK tokP1 pinl_ok fn_num4 (hv := num4_hv) (fun args bx r bx' h => ?_)
  unfold num4Q at h
  split at h
  · rename_i p b o f T1 c T2 q
    split at h
    · rename_i d hd
      obtain ⟨g, e⟩ := sel_one h
      cases e
      simp only [Bool.and_eq_true] at g
      obtain ⟨g1, g2, g3, g4, g5, g6⟩ := g
      have e1 := Nat.eq_of_beq_eq_true g1
      have e2 := Nat.eq_of_beq_eq_true g2
      have e3 := Nat.eq_of_beq_eq_true g3
      have e4 := Nat.eq_of_beq_eq_true g4
      have e5 := pIs_eq g5
      have e6 := pIs_eq g6
      subst e1 e2 e3 e4 e5 e6
      refine ⟨_, _, _, d, 0, rfl, hd, ?_⟩
      exact num4_in 0 d.1 d.2.1 d.2.2.1 d.2.2.2.1 d.2.2.2.2.1 d.2.2.2.2.2.1 d.2.2.2.2.2.2.1 f (fun r bx => some (r, bx))
    · cases h
  · cases h
def tex4Q : QSpec := fun args bx => match args, bx with
  | [.agg p, .ptr b o, .int .i64 f], [.cells T1 c, .cells T2 q, .cells T3 q3] => match cmdIn c with
    | some d => [((Nat.beq b 0 && (Nat.beq o 0 && (Nat.beq T1 48 && (Nat.beq T2 112 && (Nat.beq T3 112 && (pIs 4 0 (some 106) 107 p && (pIs 4 0 (some 106) 107 q && pIs 4 0 (some 106) 107 q3))))))) && (!bitB f 4 || smallS d.2.2.2.2.2.1), (.tup [.bool (texA f 4 (valB d.2.2.2.2.2.1)), .bool (texF f 4 d.2.2.2.2.2.1)], [.cells 48 (cmdL d), .cells 112 (part4), .cells 112 (part4), .cells 112 (part4)]))]
    | none => []
  | _, _ => []
theorem tex4_run (kd cl sq : Int) (ke va ol : ByteArray) (nd : Int) (f : Int) (hs : bitB f 4 = false ∨ smallS ol = true) : runF env TP1 pinl tex4_hv 0 Tryd.f92 [.agg part4, .ptr 0 0, .int .i64 f] [.cells 48 (cmdC kd cl sq ke va ol nd), .cells 112 part4, .cells 112 part4] (fun r bx => some (r, bx)) = some (.tup [.bool (texA f 4 (valB ol)), .bool (texF f 4 ol)], [.cells 48 (cmdC kd cl sq ke va ol nd), .cells 112 part4, .cells 112 part4, .cells 112 part4]) := by
  refine (tex4_in 0 kd cl sq ke va ol nd f (fun r bx => some (r, bx))).trans ?_
  rw [bit_eq]
  unfold texA texF emptyB
  cases hb : bitB f 4
  · rfl
  · rcases hs with hs | hs
    · rw [hb] at hs; cases hs
    · rw [hs]; rfl
theorem tex4Q_ok : QOK Tryd.prog env 92 tex4Q := by
  refine QOK.of_cmd envOK tokP1 pinl_ok fn_tex4 (hv := tex4_hv) (fun args bx r bx' h => ?_)
  unfold tex4Q at h
  split at h
  · rename_i p b o f T1 c T2 q T3 q3
    split at h
    · rename_i d hd
      obtain ⟨g, e⟩ := sel_one h
      cases e
      simp only [Bool.and_eq_true] at g
      obtain ⟨⟨g1, g2, g3, g4, g7, g5, g6, g8⟩, gs⟩ := g
      have e1 := Nat.eq_of_beq_eq_true g1
      have e2 := Nat.eq_of_beq_eq_true g2
      have e3 := Nat.eq_of_beq_eq_true g3
      have e4 := Nat.eq_of_beq_eq_true g4
      have e5 := pIs_eq g5
      have e6 := pIs_eq g6
      subst e1 e2 e3 e4 e5 e6
      have e7 := Nat.eq_of_beq_eq_true g7
      have e8 := pIs_eq g8
      subst e7 e8
      refine ⟨_, _, _, d, 0, rfl, hd, ?_⟩
      exact tex4_run d.1 d.2.1 d.2.2.1 d.2.2.2.1 d.2.2.2.2.1 d.2.2.2.2.2.1 d.2.2.2.2.2.2.1 f (by revert gs; cases bitB f 4 <;> intro gs <;> first | exact .inl rfl | exact .inr gs)
    · cases h
  · cases h
def num5Q : QSpec := fun args bx => match args, bx with
  | [.agg p, .ptr b o, .int .i64 f], [.cells T1 c, .cells T2 q] => match cmdIn c with
    | some d => [(Nat.beq b 0 && (Nat.beq o 0 && (Nat.beq T1 48 && (Nat.beq T2 112 && (pIs 8 0 (some 106) 108 p && pIs 8 0 (some 106) 108 q)))), (.tup [.bool true, .bool true], [.cells 48 (cmdL d), .cells 112 (part5), .cells 112 (part5)]))]
    | none => []
  | _, _ => []
theorem num5Q_ok : QOK Tryd.prog env 91 num5Q := by
  refine QOK.of_cmd envOK tokP1 pinl_ok fn_num5 (hv := num5_hv) (fun args bx r bx' h => ?_)
  unfold num5Q at h
  split at h
  · rename_i p b o f T1 c T2 q
    split at h
    · rename_i d hd
      obtain ⟨g, e⟩ := sel_one h
      cases e
      simp only [Bool.and_eq_true] at g
      obtain ⟨g1, g2, g3, g4, g5, g6⟩ := g
      have e1 := Nat.eq_of_beq_eq_true g1
      have e2 := Nat.eq_of_beq_eq_true g2
      have e3 := Nat.eq_of_beq_eq_true g3
      have e4 := Nat.eq_of_beq_eq_true g4
      have e5 := pIs_eq g5
      have e6 := pIs_eq g6
      subst e1 e2 e3 e4 e5 e6
      refine ⟨_, _, _, d, 0, rfl, hd, ?_⟩
      exact num5_in 0 d.1 d.2.1 d.2.2.1 d.2.2.2.1 d.2.2.2.2.1 d.2.2.2.2.2.1 d.2.2.2.2.2.2.1 f (fun r bx => some (r, bx))
    · cases h
  · cases h
def tex5Q : QSpec := fun args bx => match args, bx with
  | [.agg p, .ptr b o, .int .i64 f], [.cells T1 c, .cells T2 q, .cells T3 q3] => match cmdIn c with
    | some d => [((Nat.beq b 0 && (Nat.beq o 0 && (Nat.beq T1 48 && (Nat.beq T2 112 && (Nat.beq T3 112 && (pIs 8 0 (some 106) 108 p && (pIs 8 0 (some 106) 108 q && pIs 8 0 (some 106) 108 q3))))))) && (!bitB f 8 || smallS d.2.2.2.2.1), (.tup [.bool (texA f 8 (valB d.2.2.2.2.1)), .bool (texF f 8 d.2.2.2.2.1)], [.cells 48 (cmdL d), .cells 112 (part5), .cells 112 (part5), .cells 112 (part5)]))]
    | none => []
  | _, _ => []
theorem tex5_run (kd cl sq : Int) (ke va ol : ByteArray) (nd : Int) (f : Int) (hs : bitB f 8 = false ∨ smallS va = true) : runF env TP1 pinl tex5_hv 0 Tryd.f92 [.agg part5, .ptr 0 0, .int .i64 f] [.cells 48 (cmdC kd cl sq ke va ol nd), .cells 112 part5, .cells 112 part5] (fun r bx => some (r, bx)) = some (.tup [.bool (texA f 8 (valB va)), .bool (texF f 8 va)], [.cells 48 (cmdC kd cl sq ke va ol nd), .cells 112 part5, .cells 112 part5, .cells 112 part5]) := by
  refine (tex5_in 0 kd cl sq ke va ol nd f (fun r bx => some (r, bx))).trans ?_
  rw [bit_eq]
  unfold texA texF emptyB
  cases hb : bitB f 8
  · rfl
  · rcases hs with hs | hs
    · rw [hb] at hs; cases hs
    · rw [hs]; rfl
theorem tex5Q_ok : QOK Tryd.prog env 92 tex5Q := by
  refine QOK.of_cmd envOK tokP1 pinl_ok fn_tex5 (hv := tex5_hv) (fun args bx r bx' h => ?_)
  unfold tex5Q at h
  split at h
  · rename_i p b o f T1 c T2 q T3 q3
    split at h
    · rename_i d hd
      obtain ⟨g, e⟩ := sel_one h
      cases e
      simp only [Bool.and_eq_true] at g
      obtain ⟨⟨g1, g2, g3, g4, g7, g5, g6, g8⟩, gs⟩ := g
      have e1 := Nat.eq_of_beq_eq_true g1
      have e2 := Nat.eq_of_beq_eq_true g2
      have e3 := Nat.eq_of_beq_eq_true g3
      have e4 := Nat.eq_of_beq_eq_true g4
      have e5 := pIs_eq g5
      have e6 := pIs_eq g6
      subst e1 e2 e3 e4 e5 e6
      have e7 := Nat.eq_of_beq_eq_true g7
      have e8 := pIs_eq g8
      subst e7 e8
      refine ⟨_, _, _, d, 0, rfl, hd, ?_⟩
      exact tex5_run d.1 d.2.1 d.2.2.1 d.2.2.2.1 d.2.2.2.2.1 d.2.2.2.2.2.1 d.2.2.2.2.2.2.1 f (by revert gs; cases bitB f 8 <;> intro gs <;> first | exact .inl rfl | exact .inr gs)
    · cases h
  · cases h
def num6Q : QSpec := fun args bx => match args, bx with
  | [.agg p, .ptr b o, .int .i64 f], [.cells T1 c, .cells T2 q] => match cmdIn c with
    | some d => [(Nat.beq b 0 && (Nat.beq o 0 && (Nat.beq T1 48 && (Nat.beq T2 112 && (pIs 16 9 none 109 p && pIs 16 9 none 109 q)))), (.tup [.bool (numA f 16 d.2.2.2.2.2.2.1 9), .bool (numF f 16 d.2.2.2.2.2.2.1)], [.cells 48 (cmdL d), .cells 112 (part6), .cells 112 (part6)]))]
    | none => []
  | _, _ => []
theorem num6_run (kd cl sq : Int) (ke va ol : ByteArray) (nd : Int) (f : Int) : runF env TP1 pinl num6_hv 0 Tryd.f91 [.agg part6, .ptr 0 0, .int .i64 f] [.cells 48 (cmdC kd cl sq ke va ol nd), .cells 112 part6] (fun r bx => some (r, bx)) = some (.tup [.bool (numA f 16 nd 9), .bool (numF f 16 nd)], [.cells 48 (cmdC kd cl sq ke va ol nd), .cells 112 part6, .cells 112 part6]) := by
  refine (num6_in 0 kd cl sq ke va ol nd f (fun r bx => some (r, bx))).trans ?_
  rw [bit_eq]
  unfold numA numF
  cases bitB f 16 <;> cases decide (nd ≥ 1) <;> rfl
theorem num6Q_ok : QOK Tryd.prog env 91 num6Q := by
  refine QOK.of_cmd envOK tokP1 pinl_ok fn_num6 (hv := num6_hv) (fun args bx r bx' h => ?_)
  unfold num6Q at h
  split at h
  · rename_i p b o f T1 c T2 q
    split at h
    · rename_i d hd
      obtain ⟨g, e⟩ := sel_one h
      cases e
      simp only [Bool.and_eq_true] at g
      obtain ⟨g1, g2, g3, g4, g5, g6⟩ := g
      have e1 := Nat.eq_of_beq_eq_true g1
      have e2 := Nat.eq_of_beq_eq_true g2
      have e3 := Nat.eq_of_beq_eq_true g3
      have e4 := Nat.eq_of_beq_eq_true g4
      have e5 := pIs_eq g5
      have e6 := pIs_eq g6
      subst e1 e2 e3 e4 e5 e6
      refine ⟨_, _, _, d, 0, rfl, hd, ?_⟩
      exact num6_run d.1 d.2.1 d.2.2.1 d.2.2.2.1 d.2.2.2.2.1 d.2.2.2.2.2.1 d.2.2.2.2.2.2.1 f
    · cases h
  · cases h
def tex6Q : QSpec := fun args bx => match args, bx with
  | [.agg p, .ptr b o, .int .i64 f], [.cells T1 c, .cells T2 q, .cells T3 q3] => match cmdIn c with
    | some d => [(Nat.beq b 0 && (Nat.beq o 0 && (Nat.beq T1 48 && (Nat.beq T2 112 && (Nat.beq T3 112 && (pIs 16 9 none 109 p && (pIs 16 9 none 109 q && pIs 16 9 none 109 q3)))))), (.tup [.bool true, .bool true], [.cells 48 (cmdL d), .cells 112 (part6), .cells 112 (part6), .cells 112 (part6)]))]
    | none => []
  | _, _ => []
theorem tex6Q_ok : QOK Tryd.prog env 92 tex6Q := by
  refine QOK.of_cmd envOK tokP1 pinl_ok fn_tex6 (hv := tex6_hv) (fun args bx r bx' h => ?_)
  unfold tex6Q at h
  split at h
  · rename_i p b o f T1 c T2 q T3 q3
    split at h
    · rename_i d hd
      obtain ⟨g, e⟩ := sel_one h
      cases e
      simp only [Bool.and_eq_true] at g
      obtain ⟨g1, g2, g3, g4, g7, g5, g6, g8⟩ := g
      have e1 := Nat.eq_of_beq_eq_true g1
      have e2 := Nat.eq_of_beq_eq_true g2
      have e3 := Nat.eq_of_beq_eq_true g3
      have e4 := Nat.eq_of_beq_eq_true g4
      have e5 := pIs_eq g5
      have e6 := pIs_eq g6
      subst e1 e2 e3 e4 e5 e6
      have e7 := Nat.eq_of_beq_eq_true g7
      have e8 := pIs_eq g8
      subst e7 e8
      refine ⟨_, _, _, d, 0, rfl, hd, ?_⟩
      exact tex6_in 0 d.1 d.2.1 d.2.2.1 d.2.2.2.1 d.2.2.2.2.1 d.2.2.2.2.2.1 d.2.2.2.2.2.2.1 f (fun r bx => some (r, bx))
    · cases h
  · cases h
def numQ : QSpec := fun a b => num1Q a b ++ (num2Q a b ++ (num3Q a b ++ (num4Q a b ++ (num5Q a b ++ num6Q a b))))
theorem numQ_ok : QOK Tryd.prog env 91 numQ := QOK.app num1Q_ok (QOK.app num2Q_ok (QOK.app num3Q_ok (QOK.app num4Q_ok (QOK.app num5Q_ok num6Q_ok))))
def texQ : QSpec := fun a b => tex1Q a b ++ (tex2Q a b ++ (tex3Q a b ++ (tex4Q a b ++ (tex5Q a b ++ tex6Q a b))))
theorem texQ_ok : QOK Tryd.prog env 92 texQ := QOK.app tex1Q_ok (QOK.app tex2Q_ok (QOK.app tex3Q_ok (QOK.app tex4Q_ok (QOK.app tex5Q_ok tex6Q_ok))))
end Go.Proofs.YtleamcddhlacfaaDoor.V
