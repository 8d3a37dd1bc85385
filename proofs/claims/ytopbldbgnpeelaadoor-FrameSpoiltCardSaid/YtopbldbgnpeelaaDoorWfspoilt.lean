/- The law FrameSpoilt as a plain law. No condition. -/
import Derived.Test.YtopbldbgnpeelaaDoorVspoil6
import Derived.Test.YtopbldbgnpeelaaDoorAh
set_option maxRecDepth 100000
set_option linter.unusedVariables false
set_option linter.unusedSimpArgs false
namespace Go.Proofs.YtopbldbgnpeelaaDoor.V
open Go Go.Proofs.AbsV
theorem frame_split (w l m : List Int) (c0 c1 c2 c3 : Int) (hw : w = l ++ (c0 :: c1 :: c2 :: c3 :: m)) : frameOf w = putL 9 ((w.length : Nat) : Int) ++ ((l ++ (c0 :: c1 :: c2 :: c3 :: m)) ++ le4 (crcI 0 w)) := by
  unfold frameOf
  rw [← hw]
theorem frame_at (p l m s : List Int) (c0 c1 c2 c3 : Int) (o : Nat) (ho : o = p.length + l.length) :
    (p ++ ((l ++ (c0 :: c1 :: c2 :: c3 :: m)) ++ s))[o]? = some c0 ∧ (p ++ ((l ++ (c0 :: c1 :: c2 :: c3 :: m)) ++ s))[o + 1]? = some c1 ∧ (p ++ ((l ++ (c0 :: c1 :: c2 :: c3 :: m)) ++ s))[o + 2]? = some c2 ∧ (p ++ ((l ++ (c0 :: c1 :: c2 :: c3 :: m)) ++ s))[o + 3]? = some c3 := by
  subst ho
  have e : p ++ ((l ++ (c0 :: c1 :: c2 :: c3 :: m)) ++ s) = (p ++ l) ++ (c0 :: c1 :: c2 :: c3 :: (m ++ s)) := by simp
  rw [e]
  have hl : (p ++ l).length = p.length + l.length := by simp
  rw [← hl]
  generalize p ++ l = q
  refine ⟨?_, ?_, ?_, ?_⟩
  · rw [List.getElem?_append_right (by omega)]; simp
  · rw [List.getElem?_append_right (by omega)]; simp
  · rw [List.getElem?_append_right (by omega)]; simp
  · rw [List.getElem?_append_right (by omega)]; simp
/-- What is known behind the loop. -/
def stabG (C : Stab) (g : Nat) (b : List Int) : Stab := fun k o => if k = g then (b.map fun x => Value.int .u8 x)[o]? else C k o
theorem tail_ok (C : Stab) (W w' W' : World) (c' : Ctx) (g n cap : Nat) (b : List Int) (cur : Array Value) (T : TypeId) (t : Array Value) (R : Ending → World → Prop) (hstab : ∀ b o v, C b o = some v → W.cell? ⟨b, o, none⟩ = some v) (hgl : GlOK env C)
    (q3 : Ext 0 (ctx0 C) W c' w') (hg : W.heap.size ≤ g) (hW : WI w' W' g cur T) (hr : RowIs cur b) (hn : n = b.length) (hnc : n ≤ cap) (hb : b.length ≤ 1000000) (hsz : t.size = 108) (h7 : t.getD 7 undef = .slice (some ⟨g, 0, none⟩) n cap)
    (hG : nxG b = true) (hE : nxE b 0 = 4) (hR : ∀ v c2 w2, Rep c2 (.bool true) v → AbsV.Good c2 w2 [] → Ext 0 (ctx0 C) W c2 w2 → R (.returned v) w2) :
    TAIL.wp Tryd.prog (bodyPost Tryd.prog Tryd.f4 R) ⟨t, []⟩ W' := by
  have hlt : ∀ k o v, C k o = some v → k < W.heap.size := fun k o v h => World.block_lt_of_cell? W ⟨k, o, none⟩ (hstab k o v h)
  have hheap : ∀ k, k < W.heap.size → W'.heap[k]? = W.heap[k]? := fun k hk => (hW.other k (by omega)).trans (q3.keep k hk (fun h => h)).1
  have hcle : CLe C (stabG C g b) := ⟨fun k o v h => by
    have := hlt k o v h
    unfold stabG
    rw [if_neg (by omega)]; exact h⟩
  have hsr : SR env (ctx0 (stabG C g b)) W' ⟨frOf [(7, .sl B b none none)] 108 0, []⟩ ⟨t, []⟩ := by
    refine ⟨⟨fun k o v h => ?_, (fun i B hi => by simp at hi), (fun i j k hi => by simp at hi), (fun j T s v ht => by cases ht), (fun j T s a n cap i ht => by cases ht), (fun j T s a n cap j' T' s' a' n' cap' ht => by cases ht)⟩, ?_, hgl.mono hcle⟩
    · have h : (if k = g then (b.map fun x => Value.int .u8 x)[o]? else C k o) = some v := h
      by_cases hk : k = g
      · subst hk
        rw [if_pos rfl, List.getElem?_map] at h
        obtain ⟨x, hx, rfl⟩ := Option.map_eq_some_iff.1 h
        obtain ⟨ho, hx⟩ := List.getElem?_eq_some_iff.1 hx
        refine hW.cell ?_
        rw [hr o ho, hx]
      · rw [if_neg hk] at h
        have h1 := hstab k o v h
        simp only [World.cell?] at h1 ⊢
        rw [hheap k (hlt k o v h)]; exact h1
    · refine repL_frOf 108 0 t.toList (by simpa using hsz) (fun j hj => ?_)
      rw [Nat.zero_add]
      by_cases h : j = 7
      · subst h
        have hv : t.toList[7] = .slice (some ⟨g, 0, none⟩) n cap := by
          rw [← h7]
          simp [Array.getD, hsz]
        rw [hv]
        refine ⟨some ⟨g, 0, none⟩, n, cap, rfl, ⟨hn, hnc, fun h => by (cases h), by omega, fun i hi => ⟨[.int .u8 b[i]], rfl, rfl, g, 0, rfl, fun j hj => ?_⟩⟩, trivial, trivial⟩
        have hj0 : j = 0 := by simpa using hj
        subst hj0
        show stabG C g b g (0 + i * 1 + 0) = _
        unfold stabG
        rw [if_pos rfl]
        simp
        exact List.getElem?_eq_getElem hi
      · have : lookA [(7, AV.sl B b none none)] j = .any := by
          unfold lookA
          rw [if_neg (by simp; omega)]
          rfl
        rw [this]
        trivial
  have htail := tail_in b
  rw [hG, hE] at htail
  have htail : runC env TPt noInl (fun _ => none) 0 TAIL 0 ⟨frOf [(7, .sl B b none none)] 108 0, []⟩ (endOf env Tryd.f4 (fun r bx => some r)) = some (.bool true) := htail
  have hext : Ext 0 (ctx0 C) W (ctx0 (stabG C g b)) W' :=
    ⟨hW.os.trans q3.os, hW.tape.trans q3.tape, hW.output.trans q3.output, by rw [hW.size]; exact q3.size, fun k hk _ => ⟨hheap k hk, fun o => by show stabG C g b k o = C k o; unfold stabG; rw [if_neg (by omega)]⟩, fun k hk h => h, hcle, fun i k hi => by omega⟩
  refine runC_ok envOK tokPt noInl_ok TAIL 0 _ _ (AV.bool true) htail (ctx0 (stabG C g b)) W' ⟨t, []⟩ _ hsr rfl (fun e2 s2 c2 w2 a2 r1 r2 r3 r4 r5 => ?_)
  cases e2 with
  | exit id => cases r5
  | normal =>
    simp only [endOf] at r5
    split at r5
    · rename_i r hres
      cases r5
      obtain ⟨v, hv, hrv⟩ := results_ok envOK r1 hres
      exact ⟨r2, v, hv, hR v c2 w2 hrv (by simpa using r1.good.take 0) (hext.trans (Nat.zero_le _) r3)⟩
    · cases r5
  | ret =>
    simp only [endOf] at r5
    split at r5
    · rename_i r hres
      cases r5
      obtain ⟨v, hv, hrv⟩ := results_ok envOK r1 hres
      exact ⟨r2, v, hv, hR v c2 w2 hrv (by simpa using r1.good.take 0) (hext.trans (Nat.zero_le _) r3)⟩
    · cases r5
theorem in_block0 (Q : Exit → Act → World → Prop) (a : Act) (w : World) : Exit.inBlock 0 Q (.exit 0) a w = Q .normal a w := by simp [Exit.inBlock]
theorem spoilt_calls (w : List Int) (a x0 x1 x2 x3 : Nat) (h : SpIn w a x0 x1 x2 x3) (hb : isBytes w) (hx : x0 < 256 ∧ x1 < 256 ∧ x2 < 256 ∧ x3 < 256) (C : Stab) (W : World) (cargs : Array Value)
    (hstab : ∀ b o v, C b o = some v → W.cell? ⟨b, o, none⟩ = some v) (hgl : GlOK env C) (hargs : RepL (ctx0 C) [.sl B w none none, .int .i64 (a : Int), .agg [.int .u8 (x0 : Int), .int .u8 (x1 : Int), .int .u8 (x2 : Int), .int .u8 (x3 : Int)]] cargs.toList) :
    Calls Tryd.prog 4 cargs W (fun e w' => ∃ v c', e = .returned v ∧ Rep c' (.bool true) v ∧ AbsV.Good c' w' [] ∧ Ext 0 (ctx0 C) W c' w') := by
  have hg : AbsV.Good (ctx0 C) W [] := ⟨hstab, (fun i B hi => by simp at hi), (fun i j k hi => by simp at hi), (fun j T s v ht => by cases ht), (fun j T s a n cap i ht => by cases ht), (fun j T s a n cap j' T' s' a' n' cap' ht => by cases ht)⟩
  refine calls_of_wp fn_wspA.at_ body_some ?_
  refine preC_ok envOK tokPq noInl_ok (bodyOf Tryd.f4) [1,1,1,1,1,0,1] 0 (s0q w a x0 x1 x2 x3) (fun s => some (prS s)) _ (pre_run w a x0 x1 x2 x3 h) (ctx0 C) W _ _ ⟨hg, ?_, hgl⟩ rfl (fun s' c' w' a' q1 q2 q3 q4 q5 => ?_)
  · have hlen := hargs.length
    have hsz : cargs.size = 3 := by simpa using hlen
    have hap := hargs.append (repL_undefs (ctx0 C) 105)
    rw [show (cargs ++ Array.replicate (Tryd.f4.ntmps - cargs.size) undef).toList = cargs.toList ++ List.replicate 105 undef by rw [hsz, Tryd.ntmps4]; simp]
    exact hap
  · rw [loop_at, cont_at]
    obtain ⟨tm, df⟩ := a'
    simp only at q2
    subst q2
    simp only [prS, Option.some.injEq, Prod.mk.injEq] at q5
    obtain ⟨p1, p5, p7, p9, p10, pl, pb⟩ := q5
    have hsz : tm.size = 108 := by
      have := q1.fr.length
      rw [pl] at this
      simpa using this
    have hget : ∀ j, Rep c' (s'.fr.getD j .any) (tm.getD j undef) := fun j => by
      have h1 := q1.fr.getD j undef
      have hv : tm.toList.getD j undef = tm.getD j undef := by simp [List.getD_eq_getElem?_getD, Array.getD_eq_getD_getElem?]
      rwa [hv] at h1
    have v1 := hget 1
    have v5 := hget 5
    have v7 := hget 7
    have v9 := hget 9
    have v10 := hget 10
    rw [p1] at v1
    rw [p5] at v5
    rw [p7] at v7
    rw [p9] at v9
    rw [p10] at v10
    simp only [Rep] at v1 v5 v7 v9 v10
    obtain ⟨blk, hmu, v5⟩ := v5
    obtain ⟨A, n, cap, v7, hsl, _, htk⟩ := v7
    have hfl := frame_len w
    have hp := hdL_pos w
    have hq := hdL_le w
    have hnl : n = (frameOf w).length := hsl.1
    have hal := h.al
    have hl2 := h.l2
    have htk : c'.tk 3 = some (5, 1, .slice A n cap) := by rw [← v7]; exact htk
    rcases q1.good.tok 3 _ _ _ htk with h1 | ⟨a0, h1⟩ | ⟨g, n', cap', cur, h1, how, hrow, hn, hc0, hcm, hcs, hsz1, hfree⟩
    · injection h1 with _ h1 _; omega
    · injection h1 with _ h1 _; omega
    · injection h1 with hA hn' hcap'
      subst hA hn' hcap'
      have hgn : W.heap.size ≤ g := by
        rcases Nat.lt_or_ge g W.heap.size with hlt | hge
        · exact (q3.ow g hlt how).elim
        · exact hge
      have hRow : RowIs cur (frameOf w) := fun i hi => by
        obtain ⟨vs, hvs, hvl, b, o, hA, hc⟩ := hsl.2.2.2.2 i hi
        cases hA
        have hvs : vs = [.int .u8 (frameOf w)[i]] := hvs
        subst hvs
        have h2 := q1.good.stab _ _ _ (hc 0 (by simp))
        simp only [World.cell?, hrow] at h2
        simpa [show B.size = 1 from rfl] using h2
      obtain ⟨k, hk1, _, ⟨arr, hk3, hk4⟩, _⟩ := q1.good.box 0 (.cells 30 [.int .u8 (x0 : Int), .int .u8 (x1 : Int), .int .u8 (x2 : Int), .int .u8 (x3 : Int)]) (by rw [pb]; rfl)
      rw [hmu] at hk1
      cases hk1
      obtain ⟨_, _, ek, rfl, _, _, rfl, rfl, _, _, rfl, rfl, _, _, rfl, rfl, rfl⟩ := hk4
      have hkg : blk ≠ g := fun e => by
        have := q1.good.tbox 3 _ _ _ n cap 0 htk hc0 (by rw [pb]; simp)
        exact this (by rw [hmu, e])
      have hz : ∀ m v, arr.toList[m]? = some v → w'.cell? ⟨blk, m, none⟩ = some v := fun m v hm => by
        simp only [World.cell?, hk3]
        simpa using hm
      obtain ⟨l, c0, c1, c2, c3, m, hw, hll⟩ := spoilt_parts w a hal
      have hcb : ∀ c ∈ w, 0 ≤ c ∧ c < 256 := hb
      obtain ⟨y0, rfl, hy0⟩ : ∃ y : Nat, c0 = (y : Int) ∧ y < 256 := by have := hcb c0 (by rw [hw]; simp); exact ⟨c0.toNat, by omega, by omega⟩
      obtain ⟨y1, rfl, hy1⟩ : ∃ y : Nat, c1 = (y : Int) ∧ y < 256 := by have := hcb c1 (by rw [hw]; simp); exact ⟨c1.toNat, by omega, by omega⟩
      obtain ⟨y2, rfl, hy2⟩ : ∃ y : Nat, c2 = (y : Int) ∧ y < 256 := by have := hcb c2 (by rw [hw]; simp); exact ⟨c2.toNat, by omega, by omega⟩
      obtain ⟨y3, rfl, hy3⟩ : ∃ y : Nat, c3 = (y : Int) ∧ y < 256 := by have := hcb c3 (by rw [hw]; simp); exact ⟨c3.toNat, by omega, by omega⟩
      have hoff : hdL w + a = (putL 9 ((w.length : Nat) : Int)).length + l.length := by rw [hll]; rfl
      have hfs := frame_split w l m _ _ _ _ hw
      have hfa := frame_at (putL 9 ((w.length : Nat) : Int)) l m (le4 (crcI 0 w)) (y0 : Int) y1 y2 y3 (hdL w + a) hoff
      rw [← hfs] at hfa
      obtain ⟨f0, f1, f2, f3⟩ := hfa
      have hxz : ¬ (x0 = 0 ∧ x1 = 0 ∧ x2 = 0 ∧ x3 = 0) := fun e => h.nz ⟨by omega, by omega, by omega, by omega⟩
      obtain ⟨hG, hE⟩ := spoilt_next w a y0 y1 y2 y3 x0 x1 x2 x3 l m hw hb h.l1 hl2 hx hxz
      have hF : FrI tm g blk n cap a (hdL w) (hdL w + a) := ⟨hsz, v1, v5, v7, v9, v10⟩
      have hWI : WI w' w' g cur 5 := ⟨rfl, rfl, rfl, rfl, hrow, fun _ _ => rfl⟩
      refine wp_block ((wpIn_wide (n := 3)).1 (spoil_loop w' w' _ cur (frameOf w) tm _ g blk n cap a (hdL w) x0 x1 x2 x3 y0 y1 y2 y3 hF hWI hRow hnl (by omega) (by omega) hkg f0 f1 f2 f3
        (hz 0 _ (by rw [ek]; rfl)) (hz 1 _ (by rw [ek]; rfl)) (hz 2 _ (by rw [ek]; rfl)) (hz 3 _ (by rw [ek]; rfl)) hx ⟨hy0, hy1, hy2, hy3⟩ (fun t' W' cur' hF' hW' hr' => ?_)))
      rw [hfs, set4 _ l m _ _ _ _ _ _ _ _ _ _ hoff] at hr'
      rw [in_block0]
      refine tail_ok C W w' W' c' g n cap _ cur' _ t' _ hstab hgl q3 hgn hW' hr' ?_ hn ?_ hF'.sz hF'.h7 hG hE (fun v c2 w2 g1 g2 g3 => ⟨v, c2, rfl, g1, g2, g3⟩)
      · rw [hnl, hfs]; simp
      · have := congrArg List.length hfs
        simp only [List.length_append, List.length_cons] at this ⊢
        omega
def x4B (x0 x1 x2 x3 : Int) : Bool := isBytesB [x0, x1, x2, x3]
theorem x4_ok (x0 x1 x2 x3 : Int) (b0 : 0 ≤ x0 ∧ x0 < 256) (b1 : 0 ≤ x1 ∧ x1 < 256) (b2 : 0 ≤ x2 ∧ x2 < 256) (b3 : 0 ≤ x3 ∧ x3 < 256) : x4B x0 x1 x2 x3 = true := by
  unfold x4B
  refine isBytesB_of (fun c hc => ?_)
  simp only [List.mem_cons, List.not_mem_nil, or_false] at hc
  rcases hc with rfl | rfl | rfl | rfl
  · exact b0
  · exact b1
  · exact b2
  · exact b3
def frameSpoiltSp : List AV → List (Bool × AV)
  | [.sl (.int .u8) w none none, .int .i64 a, .agg [.int .u8 x0, .int .u8 x1, .int .u8 x2, .int .u8 x3]] => [(isBytesB w && x4B x0 x1 x2 x3, .bool true)]
  | _ => []
theorem spoilt_pass (w : List Int) (a x0 x1 x2 x3 : Int) (h : ¬ (1 ≤ w.length ∧ w.length ≤ 300 ∧ 0 ≤ a ∧ a + 4 ≤ (w.length : Int) ∧ ¬ (x0 = 0 ∧ x1 = 0 ∧ x2 = 0 ∧ x3 = 0))) :
    runF env TPa noInl wspA_hv 0 Tryd.f4 [.sl B w none none, .int .i64 a, .agg [.int .u8 x0, .int .u8 x1, .int .u8 x2, .int .u8 x3]] [] (fun r bx => some r) = some (.bool true) := by
  refine (wspA_in 0 w a x0 x1 x2 x3 (fun r _ => some r)).trans ?_
  by_cases h1 : w.length = 0
  · rw [show (((w.length : Nat) : Int) == 0) = true by rw [h1]; rfl]; rfl
  rw [show (((w.length : Nat) : Int) == 0) = false by rw [beq_eq_false_iff_ne]; omega, Bool.not_false, cond_true]
  by_cases h2 : w.length ≤ 300
  · rw [decide_eq_false (show ¬ ((w.length : Nat) : Int) > 300 by omega), Bool.not_false, cond_true]
    by_cases h3 : a < 0
    · rw [decide_eq_true h3]; rfl
    · rw [decide_eq_false h3, Bool.not_false, cond_true]
      by_cases h4 : a ≥ ((w.length : Nat) : Int)
      · rw [decide_eq_true h4]; rfl
      · rw [decide_eq_false h4, Bool.not_false, cond_true]
        have hw : IntKind.i64.wrap (Int.add a 4) = a + 4 := IntWalk.i64_in _ (by show -9223372036854775808 ≤ a + 4 ∧ a + 4 ≤ 9223372036854775807; omega)
        rw [hw]
        by_cases h5 : a + 4 > ((w.length : Nat) : Int)
        · rw [decide_eq_true h5]; rfl
        · rw [decide_eq_false h5, Bool.not_false, cond_true]
          have hz : x0 = 0 ∧ x1 = 0 ∧ x2 = 0 ∧ x3 = 0 := Classical.byContradiction fun hz => h ⟨by omega, h2, by omega, by omega, hz⟩
          obtain ⟨rfl, rfl, rfl, rfl⟩ := hz
          rfl
  · rw [decide_eq_true (show ((w.length : Nat) : Int) > 300 by omega)]; rfl
theorem frameSpoilt_ok : PureOK Tryd.prog env 4 frameSpoiltSp := by
  refine ⟨⟨_, fn_wspA⟩, fun args r hr hp C W cargs hstab hgl hargs => ?_⟩
  unfold frameSpoiltSp at hr
  split at hr
  · rename_i w a x0 x1 x2 x3
    obtain ⟨hgd, he⟩ := sel_one hr
    subst he
    rw [Bool.and_eq_true] at hgd
    have hb : isBytes w := isBytes_of hgd.1
    have hx : isBytes [x0, x1, x2, x3] := isBytes_of hgd.2
    by_cases h : 1 ≤ w.length ∧ w.length ≤ 300 ∧ 0 ≤ a ∧ a + 4 ≤ ((w.length : Nat) : Int) ∧ ¬ (x0 = 0 ∧ x1 = 0 ∧ x2 = 0 ∧ x3 = 0)
    · obtain ⟨h1, h2, h3, h4, h5⟩ := h
      have b0 := hx x0 (by simp)
      have b1 := hx x1 (by simp)
      have b2 := hx x2 (by simp)
      have b3 := hx x3 (by simp)
      obtain ⟨n, rfl⟩ : ∃ n : Nat, a = (n : Int) := ⟨a.toNat, by omega⟩
      obtain ⟨y0, rfl⟩ : ∃ n : Nat, x0 = (n : Int) := ⟨x0.toNat, by omega⟩
      obtain ⟨y1, rfl⟩ : ∃ n : Nat, x1 = (n : Int) := ⟨x1.toNat, by omega⟩
      obtain ⟨y2, rfl⟩ : ∃ n : Nat, x2 = (n : Int) := ⟨x2.toNat, by omega⟩
      obtain ⟨y3, rfl⟩ : ∃ n : Nat, x3 = (n : Int) := ⟨x3.toNat, by omega⟩
      exact spoilt_calls w n y0 y1 y2 y3 ⟨h1, h2, (by have h4' : (n : Int) + 4 ≤ ((List.length (α := Int) w : Nat) : Int) := h4; omega), h5⟩ hb ⟨by omega, by omega, by omega, by omega⟩ C W cargs hstab hgl hargs
    · have hok : PureOK Tryd.prog env 4 (fun _ => [(true, .bool true)]) → True := fun _ => trivial
      have hg : AbsV.Good (ctx0 C) W [] := ⟨hstab, (fun i B hi => by simp at hi), (fun i j k hi => by simp at hi), (fun j T s v ht => by cases ht), (fun j T s a n cap i ht => by cases ht), (fun j T s a n cap j' T' s' a' n' cap' ht => by cases ht)⟩
      refine (runF_ok envOK tokPa noInl_ok fn_wspA (spoilt_pass w a x0 x1 x2 x3 h) (ctx0 C) W cargs hg hgl hargs).mono fun e w' hh => ?_
      obtain ⟨v, r', bx', c', rfl, g1, g2, g3, g4, g5⟩ := hh
      cases g1
      exact ⟨v, c', rfl, g3, by simpa using g2.take 0, g4⟩
  · cases hr
abbrev X4 : Ty := .pair (.int .u8) (.pair (.int .u8) (.pair (.int .u8) (.pair (.int .u8) .unit)))
theorem frameSpoilt_true (d : DenL ([(false, Ty.sl (.int .u8)), (false, Ty.int .i64), (true, X4)].map (·.2))) (h : WfL _ d) : sel (frameSpoiltSp (argsA [(false, Ty.sl (.int .u8)), (false, Ty.int .i64), (true, X4)] d)) = some (.bool true) := by
  obtain ⟨w, a, ⟨x0, x1, x2, x3, u0⟩, u⟩ := d
  have hx : WfD X4 (x0, x1, x2, x3, u0) := h.2.2.1
  have b0 : 0 ≤ (show Int from x0) ∧ (show Int from x0) < 256 := wf_u8 hx.1
  have b1 : 0 ≤ (show Int from x1) ∧ (show Int from x1) < 256 := wf_u8 hx.2.1
  have b2 : 0 ≤ (show Int from x2) ∧ (show Int from x2) < 256 := wf_u8 hx.2.2.1
  have b3 : 0 ≤ (show Int from x3) ∧ (show Int from x3) < 256 := wf_u8 hx.2.2.2.1
  refine sel_yes ?_
  rw [Bool.and_eq_true]
  refine ⟨wf_bytes h.1, ?_⟩
  exact x4_ok _ _ _ _ b0 b1 b2 b3
end Go.Proofs.YtopbldbgnpeelaaDoor.V
