/- unicode/utf8.DecodeRuneInString as a function of data. No condition. -/
import Derived.Test.YtleamcddhlacfaaDoorVput
import Derived.Test.YtleamcddhlacfaaDoorVutf
import Derived.Shelf.Unicode.DecodeAny
set_option maxRecDepth 100000
set_option linter.unusedVariables false
set_option linter.unusedSimpArgs false
namespace Go.Proofs.YtleamcddhlacfaaDoor.V
open Go Go.Proofs.AbsV
def decRen : Go.Shelf.Ren := ⟨fun x => match x with | 197 => 117 | 260 => 118 | n => n, fun x => match x with | 9 => 9 | 21 => 21 | 3 => 3 | 4 => 4 | 5 => 5 | 105 => 134 | 119 => 136 | 0 => 0 | 46 => 107 | 139 => 139 | 138 => 138 | n => n, fun x => match x with | 3 => 0 | 4 => 1 | n => n⟩
theorem laysDec : Lays.n197 Tryd.prog decRen := {
  mixed := by kernel_rfl,
  f197 := Tryd.func117.trans (congrArg some (by kernel_rfl)),
  f260 := Tryd.func118.trans (congrArg some (by kernel_rfl)),
  t0 := Tryd.underlying0,
  a0 := Tryd.isAgg0,
  z0 := Tryd.sizeOf0,
  v0 := Tryd.zeroValue0,
  t3 := Tryd.underlying3,
  a3 := Tryd.isAgg3,
  z3 := Tryd.sizeOf3,
  v3 := Tryd.zeroValue3,
  t4 := Tryd.underlying4,
  a4 := Tryd.isAgg4,
  z4 := Tryd.sizeOf4,
  v4 := Tryd.zeroValue4,
  t5 := Tryd.underlying5,
  a5 := Tryd.isAgg5,
  z5 := Tryd.sizeOf5,
  v5 := Tryd.zeroValue5,
  t9 := Tryd.underlying9,
  a9 := Tryd.isAgg9,
  z9 := Tryd.sizeOf9,
  v9 := Tryd.zeroValue9,
  t21 := Tryd.underlying21,
  a21 := Tryd.isAgg21,
  z21 := Tryd.sizeOf21,
  v21 := Tryd.zeroValue21,
  t46 := Tryd.underlying107,
  a46 := Tryd.isAgg107,
  z46 := Tryd.sizeOf107,
  v46 := Tryd.zeroValue107,
  t105 := Tryd.underlying134,
  a105 := Tryd.isAgg134,
  z105 := Tryd.sizeOf134,
  v105 := Tryd.zeroValue134,
  t119 := Tryd.underlying136,
  a119 := Tryd.isAgg136,
  z119 := Tryd.sizeOf136,
  t138 := Tryd.underlying138,
  a138 := Tryd.isAgg138,
  z138 := Tryd.sizeOf138,
  v138 := Tryd.zeroValue138,
  t139 := Tryd.underlying139,
  a139 := Tryd.isAgg139,
  z139 := Tryd.sizeOf139,
  v139 := Tryd.zeroValue139,
  g3 := by kernel_rfl,
  g4 := by kernel_rfl }
theorem tabF_at {c : Nat} (h : c < 256) : tabF.length = 256 ∧ tabF.getD c 0 = ((Go.Lib.firstT c : Nat) : Int) := by
  refine ⟨by simp [tabF], ?_⟩
  simp [tabF, List.getD_eq_getElem?_getD, h]
theorem tabA_at : ∀ i, i < 16 → tabA.getD (2 * i) 0 = ((Go.Lib.accLo i : Nat) : Int) ∧ tabA.getD (2 * i + 1) 0 = ((Go.Lib.accHi i : Nat) : Int) := by decide
theorem tabA_len : tabA.length = 32 := by decide
theorem tabs_of {C : Stab} {w : World} (hs : ∀ b o v, C b o = some v → w.cell? ⟨b, o, none⟩ = some v) (hg : GlOK env C) : Go.Lib.Utf8Tabs (decRen.g 3) (decRen.g 4) w := by
  refine ⟨fun c hc => ?_, fun i hi => ⟨?_, ?_⟩⟩
  · have h := hg 0 .u8 tabF rfl c (by rw [(tabF_at hc).1]; exact hc)
    rw [(tabF_at hc).2] at h
    exact hs _ _ _ h
  · have h := hg 1 .u8 tabA rfl (2 * i) (by rw [tabA_len]; omega)
    rw [(tabA_at i hi).1] at h
    exact hs _ _ _ h
  · have h := hg 1 .u8 tabA rfl (2 * i + 1) (by rw [tabA_len]; omega)
    rw [(tabA_at i hi).2] at h
    exact hs _ _ _ h
theorem fnDec : FnOK Tryd.prog 117 Tryd.f117 := ⟨by kernel_rfl, by kernel_rfl, by kernel_rfl⟩
def decSp : List AV → List (Bool × AV)
  | [.str s] => [(true, .tup [.int .i32 ((Go.Lib.decodeGo s).1 : Nat), .int .i64 ((Go.Lib.decodeGo s).2 : Nat)])]
  | _ => []
theorem dec_ok : PureOK Tryd.prog env 117 decSp := by
  refine ⟨⟨_, fnDec⟩, fun args r hr hp C w cargs hstab hgl hargs => ?_⟩
  have hg : AbsV.Good (ctx0 C) w [] := ⟨hstab, (fun i B hi => by simp at hi), (fun i j k hi => by simp at hi), (fun j T s v ht => by cases ht), (fun j T s a n cap i ht => by cases ht), (fun j T s a n cap j' T' s' a' n' cap' ht => by cases ht)⟩
  unfold decSp at hr
  split at hr
  · rename_i s
    cases hr
    simp only [RepL, Rep] at hargs
    obtain ⟨v0, r0, hv0, rfl, rfl⟩ := hargs
    have hc : cargs = #[.string s] := by
      obtain ⟨l⟩ := cargs
      simp only at hv0
      rw [hv0]
    subst hc
    refine (Any.utf8_DecodeRuneInString laysDec s w (tabs_of hstab hgl)).mono fun e w' hh => ?_
    obtain ⟨rfl, hb⟩ := hh
    refine ⟨_, ctx0 C, rfl, ⟨#[_, _], rfl, _, _, rfl, rfl, _, _, rfl, rfl, rfl⟩, ⟨fun b o v hc => ?_, (fun i B hi => by simp at hi), (fun i j k hi => by simp at hi), (fun j T s v ht => by cases ht), (fun j T s a n cap i ht => by cases ht), (fun j T s a n cap j' T' s' a' n' cap' ht => by cases ht)⟩,
      ⟨hb.os, hb.tape, hb.output, hb.size, fun b hlt _ => ⟨hb.block b hlt, fun _ => rfl⟩, fun _ _ h => h, CLe.refl _, fun _ _ _ h => h⟩⟩
    have hlt := hg.lt (c := ctx0 C) hc
    have h1 := hstab b o v hc
    simp only [World.cell?] at h1 ⊢
    rw [hb.block b hlt]; exact h1
  · cases hr
end Go.Proofs.YtleamcddhlacfaaDoor.V
