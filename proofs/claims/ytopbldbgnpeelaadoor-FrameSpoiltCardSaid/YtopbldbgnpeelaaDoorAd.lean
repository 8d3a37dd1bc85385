/- The machine of plain values: what each operation and each piece of code comes to. Definitions alone. No condition. -/
import Derived.Test.YtopbldbgnpeelaaDoorAw
set_option linter.unusedVariables false
set_option linter.unusedSimpArgs false
namespace Go.Proofs.AbsV
open Go

/-! ### Types as far as they matter -/
inductive TK where
  | int (k : IntKind)
  | bool
  | str
  | slice (e : TypeId)
  | ptr (e : TypeId)
  | struct (fs : List (Nat × TypeId))
  | array (n : Nat) (e : TypeId)
  | iface
  | func
  | other

structure TI where
  k : TK
  size : Nat
  bytes : Nat
  zero : List AV
  ty : Option Ty

structure Env where
  ti : TypeId → Option TI
  gl : Nat → Option (IntKind × List Int)

def TK.agg : TK → Bool
  | .struct _ => true
  | .array _ _ => true
  | _ => false

structure St where
  fr : List AV
  bx : List Box2

/-! ### Lists of ways: the first whose guard holds is taken -/
def pick {α β : Type} : List (Bool × β) → (β → Option α) → Option α
  | [], _ => none
  | p :: r, k => cond p.1 (k p.2) (pick r k)
def sel {β : Type} : List (Bool × β) → Option β
  | [] => none
  | p :: r => cond p.1 (some p.2) (sel r)
theorem pick_sel {α β : Type} : ∀ (l : List (Bool × β)) (k : β → Option α), pick l k = (sel l).bind k
  | [], _ => rfl
  | (g, b) :: r, k => by
    cases g
    · simpa [pick, sel] using pick_sel r k
    · rfl

def optL {β : Type} : Option β → List (Bool × β)
  | none => []
  | some b => [(true, b)]

/-! ### Operands -/
def ofVal1 : Value → AV
  | .int k n => .int k n
  | .bool b => .bool b
  | .string s => .str s
  | .pointer none => .nilp
  | .slice none n c => if Nat.beq n 0 && Nat.beq c 0 then .nilsl else .any
  | .nilFunc => .nilfn
  | .nilIface => .niliface
  | _ => .any
def ofVal : Value → AV
  | .agg cs => .agg (cs.toList.map ofVal1)
  | .iface t v => .iface t (ofVal1 v)
  | .tuple cs => if cs.toList.isEmpty then .tup [] else .any
  | v => ofVal1 v
def ev (s : St) : Operand → AV
  | .tmp t => s.fr.getD t .any
  | .const v => ofVal v
  | .global g => .glob g 0
  | .func f => .fn f []
def undefA : AV := .tup []

def St.put (s : St) (d : Option Tmp) (v : AV) : St :=
  match d with
  | some t => { s with fr := s.fr.set t v }
  | none => s
def valsL : List Box2 → List (List AV)
  | [] => []
  | B :: r => B.vals :: valsL r
def maxTokB : List Box2 → Nat
  | [] => 0
  | B :: r => Nat.max (maxTokL B.vals) (maxTokB r)
def ptrsBB (nb : Nat) : List Box2 → Bool
  | [] => true
  | B :: r => ptrsBL nb B.vals && ptrsBB nb r
def scrubB (j : Nat) : List Box2 → List Box2
  | [] => []
  | B :: r => (match B with | .cells T l => .cells T (scrubL j l) | .iter s p => .iter s p) :: scrubB j r
def stripB : List Box2 → List Box2
  | [] => []
  | B :: r => (match B with | .cells T l => .cells T (stripL l) | .iter s p => .iter s p) :: stripB r
def St.maxTok (s : St) : Nat := Nat.max (maxTokL s.fr) (maxTokB s.bx)

/-! ### Whole numbers, texts, truth -/
def andI (k : IntKind) (x y : Int) : Int := k.wrap (BitVec.ofInt k.bits x &&& BitVec.ofInt k.bits y).toNat
def orI (k : IntKind) (x y : Int) : Int := k.wrap (BitVec.ofInt k.bits x ||| BitVec.ofInt k.bits y).toNat
def xorI (k : IntKind) (x y : Int) : Int := k.wrap (BitVec.ofInt k.bits x ^^^ BitVec.ofInt k.bits y).toNat
def andNotI (k : IntKind) (x y : Int) : Int := k.wrap (BitVec.ofInt k.bits x &&& ~~~ BitVec.ofInt k.bits y).toNat
def shlI (k : IntKind) (x y : Int) : Int := k.wrap (x * 2 ^ (min y.toNat k.bits))
def shrI (k : IntKind) (x y : Int) : Int := x.fdiv (2 ^ (min y.toNat k.bits))

def intOp (op : BinOp) (k : IntKind) (x y : Int) : List (Bool × AV) :=
  match op with
  | .add => [(true, .int k (k.wrap (x + y)))]
  | .sub => [(true, .int k (k.wrap (x - y)))]
  | .mul => [(true, .int k (k.wrap (x * y)))]
  | .quo => [(!(y == 0), .int k (k.wrap (x.tdiv y)))]
  | .rem => [(!(y == 0), .int k (x.tmod y))]
  | .and => [(true, .int k (andI k x y))]
  | .or => [(true, .int k (orI k x y))]
  | .xor => [(true, .int k (xorI k x y))]
  | .andNot => [(true, .int k (andNotI k x y))]
  | .eql => [(true, .bool (x == y))]
  | .neq => [(true, .bool (x != y))]
  | .lss => [(true, .bool (decide (x < y)))]
  | .leq => [(true, .bool (decide (x ≤ y)))]
  | .gtr => [(true, .bool (decide (x > y)))]
  | .geq => [(true, .bool (decide (x ≥ y)))]
  | .shl => []
  | .shr => []
def strOp (op : BinOp) (x y : ByteArray) : List (Bool × AV) :=
  match op with
  | .add => [(decide (x.size + y.size ≤ 4611686018427387904), .str (x ++ y))]
  | .eql => [(true, .bool (x.toList == y.toList))]
  | .neq => [(true, .bool !(x.toList == y.toList))]
  | .lss => [(true, .bool (Op.bytesLess x.toList y.toList))]
  | .leq => [(true, .bool (Op.bytesLess x.toList y.toList || x.toList == y.toList))]
  | .gtr => [(true, .bool !(Op.bytesLess x.toList y.toList || x.toList == y.toList))]
  | .geq => [(true, .bool !(Op.bytesLess x.toList y.toList))]
  | _ => []
/-- What is held against nil; and truths. -/
def eqA (t : TK) (x y : AV) : Option Bool :=
  match t, x, y with
  | .bool, .bool a, .bool b => some (a == b)
  | .ptr _, .nilp, .nilp => some true
  | .ptr _, .nilp, .ptr _ _ => some false
  | .ptr _, .ptr _ _, .nilp => some false
  | .slice _, .sl _ _ (some b) _, .nilsl => some b
  | .slice _, .nilsl, .nilsl => some true
  | .func, .nilfn, .nilfn => some true
  | .func, .fn _ _, .nilfn => some false
  | .iface, .niliface, .iface _ _ => some false
  | .iface, .iface _ _, .niliface => some false
  | _, _, _ => none
def eqOp (op : BinOp) (b : Bool) : List (Bool × AV) :=
  match op with
  | .eql => [(true, .bool b)]
  | .neq => [(true, .bool !b)]
  | _ => []
/-! ### Data alike -/
def eqD : (τ : Ty) → τ.den → τ.den → Bool
  | .int _, a, b => @BEq.beq Int _ a b
  | .bool, a, b => @BEq.beq Bool _ a b
  | .str, a, b => ByteArray.toList a == ByteArray.toList b
  | .unit, _, _ => true
  | .pair a b, x, y => eqD a x.1 y.1 && eqD b x.2 y.2
  | .sl _, _, _ => false
/-- No slice in it. -/
def flatB : Ty → Bool
  | .sl _ => false
  | .pair a b => flatB a && flatB b
  | _ => true
def binA (E : Env) (op : BinOp) (t : TypeId) (x y : AV) : List (Bool × AV) :=
  match x, y with
  | .int k a, .int k' b =>
    match op with
    | .shl => [(decide (0 ≤ b), .int k (shlI k a b))]
    | .shr => [(decide (0 ≤ b), .int k (shrI k a b))]
    | _ => if k = k' then intOp op k a b else []
  | .str a, .str b => strOp op a b
  | _, _ =>
    match E.ti t with
    | some i => match eqA i.k x y with
      | some b => eqOp op b
      | none => match i.ty, x, y with
        | some τ, .agg l, .agg m => if i.k.agg && flatB τ then (match unfl τ l, unfl τ m with
          | some (d1, []), some (d2, []) => eqOp op (eqD τ d1 d2)
          | _, _ => []) else []
        | _, _, _ => []
    | none => []
def unA (op : UnOp) (x : AV) : List (Bool × AV) :=
  match op, x with
  | .neg, .int k n => [(true, .int k (k.wrap (0 - n)))]
  | .xor, .int k n => [(true, .int k (xorI k (if k.signed then -1 else k.max) n))]
  | .not, .bool b => [(true, .bool !b)]
  | _, _ => []

/-! ### Memory -/
def cellsAt (E : Env) (s : St) : AV → Option (List AV)
  | .ptr b off => match s.bx[b]? with
    | some (.cells _ l) => some (l.drop off)
    | _ => none
  | .epin e xs i off => some ((flat e (rdD e xs i)).drop off)
  | .apin _ l off => some (l.drop off)
  | _ => none
def loadA (E : Env) (s : St) (t : TypeId) (a : AV) : List (Bool × AV) :=
  match E.ti t with
  | none => []
  | some i =>
    match a with
    | .glob g off => match E.gl g with
      | some (k, tab) => if i.k.agg then [] else [(decide (off < tab.length), .int k (tab.getD off 0))]
      | none => []
    | a => match cellsAt E s a with
      | none => []
      | some l => if i.k.agg then (if Nat.ble i.size l.length && Nat.blt 0 i.size then [(true, .agg (l.take i.size))] else []) else (match l with | [] => [] | x :: _ => [(true, x)])
def moveBy (a : AV) (n : Nat) : Option AV :=
  match a with
  | .ptr b off => some (.ptr b (off + n))
  | .epin e xs i off => if Nat.blt (off + n) e.size then some (.epin e xs i (off + n)) else none
  | .apin sz l off => if Nat.ble (off + n) l.length then some (.apin sz l (off + n)) else none
  | .glob g off => some (.glob g (off + n))
  | _ => none
def fieldAddrA (E : Env) (t : TypeId) (a : AV) (f : Nat) : List (Bool × AV) :=
  match E.ti t with
  | some { k := .struct fs, .. } => match fs[f]? with
    | some (o, ft) => match E.ti ft with
      | some i => if Nat.beq i.size 0 then [] else optL (moveBy a o)
      | none => []
    | none => []
  | _ => []
/-- One way for each place from j on. -/
def ways {β : Type} (i : Int) (mk : Nat → β) : (n j : Nat) → List (Bool × β)
  | 0, _ => []
  | n + 1, j => (decide (i = (j : Int)), mk j) :: ways i mk n (j + 1)
def indexAddrA (E : Env) (t : TypeId) (a : AV) (ix : AV) : List (Bool × AV) :=
  match ix with
  | .int _ i =>
    match E.ti t with
    | some { k := .slice e, .. } =>
      match E.ti e with
      | some ei => match a with
        | .sl τ xs _ _ => if Nat.beq ei.size τ.size && Nat.blt 0 τ.size then [(decide (0 ≤ i) && decide (i < (xs.length : Int)), .epin τ xs i.toNat 0)] else []
        | .asl sz l => if Nat.beq ei.size sz && Nat.blt 0 sz then ways i (fun j => .apin sz l (j * sz)) (l.length / sz) 0 else []
        | _ => []
      | none => []
    | some { k := .array n e, .. } =>
      match E.ti e with
      | some ei => match a with
        | .ptr b off => ways i (fun j => .ptr b (off + j * ei.size)) n 0
        | .apin sz l off => if Nat.ble (off + n * ei.size) l.length then ways i (fun j => .apin sz l (off + j * ei.size)) n 0 else []
        | .glob g off => [(decide (0 ≤ i) && decide (i < (n : Int)), .glob g (off + i.toNat * ei.size))]
        | .epin e' xs i0 off => if Nat.ble (off + n * ei.size) e'.size && Nat.blt 0 ei.size then ways i (fun j => .epin e' xs i0 (off + j * ei.size)) n 0 else []
        | _ => []
      | none => []
    | _ => []
  | _ => []
def partA (i : TI) (l : List AV) : List (Bool × AV) :=
  if i.k.agg then (if Nat.ble i.size l.length then [(true, .agg (l.take i.size))] else []) else (match l with | [] => [] | x :: _ => [(true, x)])
def fieldA (E : Env) (t : TypeId) (x : AV) (f : Nat) : List (Bool × AV) :=
  match E.ti t, x with
  | some { k := .struct fs, .. }, .agg l => match fs[f]? with
    | some (o, ft) => match E.ti ft with
      | some i => partA i (l.drop o)
      | none => []
    | none => []
  | _, _ => []
def waysL {β : Type} (i : Int) (mk : Nat → List (Bool × β)) : (n j : Nat) → List (Bool × β)
  | 0, _ => []
  | n + 1, j => ((mk j).map fun p => (decide (i = (j : Int)) && p.1, p.2)) ++ waysL i mk n (j + 1)
def btA (s : ByteArray) (i : Nat) : Int := match s[i]? with | some b => (b.toNat : Int) | none => 0
def indexA (E : Env) (t : TypeId) (x ix : AV) : List (Bool × AV) :=
  match ix with
  | .int _ i =>
    match E.ti t, x with
    | some { k := .array n e, .. }, .agg l => match E.ti e with
      | some ei => waysL i (fun j => partA ei (l.drop (j * ei.size))) n 0
      | none => []
    | some { k := .str, .. }, .str s => [(decide (0 ≤ i) && decide (i < (s.size : Int)), .int .u8 (btA s i.toNat))]
    | _, _ => []
  | _ => []
def AV.cells? : AV → Option (List AV)
  | .any => none
  | .agg l => some l
  | x => some [x]
def putCells (l : List AV) (off : Nat) (vs : List AV) : List AV := l.take off ++ vs ++ l.drop (off + vs.length)
def fillA (place : Nat → Option (Nat × Nat)) (cells : List AV) : List (Nat × AV) → Option (List AV)
  | [] => some cells
  | p :: rest => match place p.1 with
    | none => none
    | some q => match p.2.cells? with
      | none => none
      | some vs => if Nat.beq vs.length q.2 && Nat.ble (q.1 + vs.length) cells.length then fillA place (putCells cells q.1 vs) rest else none
def placesOf (E : Env) : List (Nat × TypeId) → Option (List (Nat × Nat))
  | [] => some []
  | f :: r => match E.ti f.2, placesOf E r with
    | some i, some l => some ((f.1, i.size) :: l)
    | _, _ => none
def buildA (E : Env) (t : TypeId) (parts : List (Nat × AV)) : List (Bool × AV) :=
  match E.ti t with
  | some { k := .struct fs, zero := z, .. } => match placesOf E fs with
    | some pl => match fillA (fun i => pl[i]?) z parts with
      | some l => [(true, .agg l)]
      | none => []
    | none => []
  | some { k := .array n e, zero := z, .. } => match E.ti e with
    | some ei => match fillA (fun i => some (i * ei.size, ei.size)) z parts with
      | some l => [(true, .agg l)]
      | none => []
    | none => []
  | _ => []

/-! ### Operations that turn nothing -/
def extractA (x : AV) (i : Nat) : List (Bool × AV) :=
  match x with
  | .tup l => match l[i]? with | some v => [(true, v)] | none => []
  | _ => []
def assertA (E : Env) (x : AV) (asserted : TypeId) (commaOk : Bool) : List (Bool × AV) :=
  match E.ti asserted with
  | some i => match i.k with
    | .iface => []
    | .other => []
    | _ => match x with
      | .iface t v => if Nat.beq t asserted then [(true, if commaOk then .tup [v, .bool true] else v)]
        else if commaOk then (if i.k.agg then [(true, .tup [.agg i.zero, .bool false])] else match i.zero with | [z] => [(true, .tup [z, .bool false])] | _ => []) else []
      | _ => []
  | none => []
def convA (E : Env) (src dst : TypeId) (x : AV) : List (Bool × AV) :=
  match E.ti src, E.ti dst, x with
  | some _, some { k := .int k, .. }, .int _ n => [(true, .int k (k.wrap n))]
  | some _, some { k := .str, .. }, .str s => [(true, .str s)]
  | _, _, _ => []
def opV (E : Env) (s : St) (o : Oper) : List (Bool × AV) :=
  match o.op with
  | .move x => [(true, ev s x)]
  | .assign x => [(true, ev s x)]
  | .pick c a b => match ev s c with
    | .bool g => [(g, ev s a), (true, ev s b)]
    | _ => []
  | .build t parts => buildA E t (parts.toList.map fun p => (p.1, ev s p.2))
  | .load t a => loadA E s t (ev s a)
  | .nilCheck x => match ev s x with
    | .ptr b off => [(true, .ptr b off)]
    | .epin e xs i off => [(true, .epin e xs i off)]
    | .apin sz l off => [(true, .apin sz l off)]
    | .glob g off => [(true, .glob g off)]
    | .fn f l => [(true, .fn f l)]
    | _ => []
  | .binOp op t x y _ => binA E op t (ev s x) (ev s y)
  | .unOp op _ x => unA op (ev s x)
  | .convert src dst x => convA E src dst (ev s x)
  | .makeInterface t x => match E.ti t with
    | some i => match i.k with
      | .iface => []
      | .other => []
      | _ => [(true, .iface t (ev s x))]
    | none => []
  | .makeFunc (.func f) first captured => if first.toList.isEmpty then [(true, .fn f (captured.toList.map (ev s)))] else []
  | .fieldAddr t x f => fieldAddrA E t (ev s x) f
  | .field t x f => fieldA E t (ev s x) f
  | .indexAddr t x i => indexAddrA E t (ev s x) (ev s i)
  | .index t x i => indexA E t (ev s x) (ev s i)
  | .extract x i => extractA (ev s x) i
  | .typeAssert x _ asserted ok => assertA E (ev s x) asserted ok
  | _ => []
/-- Builtins that turn nothing. -/
def lenA (x : AV) : List (Bool × AV) :=
  match x with
  | .sl _ xs _ _ => [(true, .int .i64 (xs.length : Int))]
  | .nilsl => [(true, .int .i64 0)]
  | .asl sz l => if Nat.blt 0 sz then [(true, .int .i64 ((l.length / sz : Nat) : Int))] else []
  | _ => []
def maxA : AV → List AV → List (Bool × AV)
  | .int k x, [] => [(true, .int k x)]
  | .int k x, .int k' y :: r => if k = k' then maxA (.int k (if y > x then y else x)) r else []
  | _, _ => []
def minA : AV → List AV → List (Bool × AV)
  | .int k x, [] => [(true, .int k x)]
  | .int k x, .int k' y :: r => if k = k' then minA (.int k (if y < x then y else x)) r else []
  | _, _ => []
def builtinV (E : Env) (b : Builtin) (types : List TypeId) (args : List AV) : List (Bool × AV) :=
  match b, types, args with
  | .len, t :: _, x :: _ => match E.ti t with
    | some i => match i.k with
      | .slice _ => lenA x
      | .str => match x with
        | .str s => [(true, .int .i64 (s.size : Int))]
        | _ => []
      | .array n _ => [(true, .int .i64 (n : Int))]
      | _ => []
    | none => []
  | .max, _, x :: r => maxA x r
  | .min, _, x :: r => minA x r
  | _, _, _ => []

/-! ### Operations that make or turn memory -/
def bytesOf (s : ByteArray) : List Int := s.data.toList.map fun b => (b.toNat : Int)
def unflN (e : Ty) : (n : Nat) → List AV → Option (List e.den)
  | 0, l => match l with | [] => some [] | _ => none
  | n + 1, l => match unfl e l with
    | some p => match unflN e n p.2 with
      | some xs => some (p.1 :: xs)
      | none => none
    | none => none
def oneA : AV → Bool
  | .any => false
  | .agg _ => false
  | .tup _ => false
  | _ => true
def allOne : List AV → Bool
  | [] => true
  | x :: r => oneA x && allOne r
def newBoxA (s : St) (B : Box2) : List (Bool × AV × St) :=
  let n := s.bx.length
  if ptrsBL n s.fr && (ptrsBB n s.bx && ptrsBL n B.vals) then [(true, .ptr n 0, { s with bx := s.bx ++ [B] })] else []
def repN {α : Type} (l : List α) : Nat → List α
  | 0 => []
  | n + 1 => l ++ repN l n
def boundA (x : Option AV) (d : Int) : Option Int :=
  match x with
  | none => some d
  | some (.int _ n) => some n
  | _ => none
def sliceA (E : Env) (s : St) (t : TypeId) (x : AV) (lo hi mx : Option AV) : List (Bool × AV × St) :=
  match E.ti t, x, mx with
  | some { k := .str, .. }, .str b, none =>
    match boundA lo 0, boundA hi (b.size : Int) with
    | some l, some h => [(decide (0 ≤ l) && (decide (l ≤ h) && decide (h ≤ (b.size : Int))), .str (b.extract l.toNat h.toNat), s)]
    | _, _ => []
  | some { k := .slice e, .. }, .sl τ xs nl _, none =>
    match E.ti e with
    | some ei => if Nat.beq ei.size τ.size then
        match boundA lo 0, boundA hi (xs.length : Int) with
        | some l, some h => [(decide (0 ≤ l) && (decide (l ≤ h) && decide (h ≤ (xs.length : Int))), .sl τ ((xs.drop l.toNat).take (h - l).toNat) nl none, s)]
        | _, _ => []
      else []
    | none => []
  | some { k := .slice e, .. }, .nilsl, none =>
    match E.ti e with
    | some ei => match boundA lo 0, boundA hi 0 with
      | some l, some h => [(decide (0 ≤ l) && (decide (l ≤ h) && decide (h ≤ 0)), .nilsl, s)]
      | _, _ => []
    | none => []
  | _, _, _ => []
def srcOf (τ : Ty) (y : AV) : Option (List τ.den) :=
  match y with
  | .sl τ' ys _ _ => if h : τ' = τ then some (h ▸ ys) else none
  | .nilsl => some []
  | _ => none
def appendA (E : Env) (s : St) (t : TypeId) (x y : AV) : List (Bool × AV × St) :=
  match E.ti t with
  | some { k := .slice e, .. } =>
    match E.ti e with
    | some ei =>
      match ei.ty with
      | some τ =>
        if Nat.beq ei.size τ.size && (Nat.blt 0 τ.size && Nat.blt 0 ei.bytes) then
          match srcOf τ y with
          | some ys =>
            match x with
            | .sl τ' xs _ (some p) => if h : τ' = τ then
                if Nat.beq p.2 e then
                  [(decide (((xs.length + ys.length) * ei.bytes : Nat) ≤ 140737488355328), .sl τ ((h ▸ xs : List τ.den) ++ ys) none (some p), { fr := scrubL p.1 s.fr, bx := scrubB p.1 s.bx })]
                else []
              else []
            | .nilsl => [(decide ((ys.length * ei.bytes : Nat) ≤ 140737488355328), .sl τ ys none (some (s.maxTok, e)), s)]
            | _ => []
          | none => []
        else []
      | none => []
    | none => []
  | _ => []
def buildSliceA (E : Env) (s : St) (t : TypeId) (len : Nat) (parts : List (Nat × AV)) : List (Bool × AV × St) :=
  match E.ti t with
  | some { k := .slice e, .. } =>
    match E.ti e with
    | some ei =>
      if Nat.ble (len * ei.size) 16777216 && Nat.blt 0 ei.size then
        match fillA (fun i => some (i * ei.size, ei.size)) (repN ei.zero len) parts with
        | some l => match ei.ty with
          | some τ => if Nat.beq ei.size τ.size then
              match unflN τ len l with
              | some xs => [(true, .sl τ xs (some false) (some (s.maxTok, e)), s)]
              | none => []
            else []
          | none => if ptrsBL s.bx.length l then [(true, .asl ei.size (stripL l), s)] else []
        | none => []
      else []
    | none => []
  | _ => []
def storeA (E : Env) (s : St) (t : TypeId) (a v : AV) : List (Bool × AV × St) :=
  match E.ti t, a, v.cells? with
  | some i, .ptr b off, some vs => match s.bx[b]? with
    | some (.cells T l) => if Nat.beq vs.length i.size && (Nat.ble (off + vs.length) l.length && allOne vs) then
        [(true, undefA, { s with bx := s.bx.set b (.cells T (putCells l off vs)) })] else []
    | _ => []
  | _, _, _ => []
def nextA (E : Env) (s : St) (x : AV) : List (Bool × AV × St) :=
  match x with
  | .ptr b 0 => match s.bx[b]? with
    | some (.iter t p) => [(decide (p < t.size), .tup [.bool true, .int .i64 (p : Int), .int .i32 (Utf8.decode t p).1], { s with bx := s.bx.set b (.iter t (p + (Utf8.decode t p).2)) }), (true, .tup [.bool false], s)]
    | _ => []
  | _ => []
def appendOf (b : Builtin) (ts : List TypeId) (xs : List Operand) : Option (TypeId × TypeId × Operand × Operand) :=
  match b, ts, xs with
  | .append, [t, t'], [x, y] => some (t, t', x, y)
  | _, _, _ => none
/-- A slice of bytes as itself ('[]byte("..")' of a constant): its row is the call's own no more. -/
def convSame (E : Env) (s : St) (src dst : TypeId) (x : AV) : List (Bool × AV × St) :=
  match E.ti dst, x with
  | some { k := .slice e, .. }, .sl (.int .u8) xs (some false) (some p) => match E.ti e, xs with
    | some { k := .int .u8, .. }, _ :: _ => if Nat.beq src dst then [(true, .sl (.int .u8) xs (some false) none, { fr := scrubL p.1 s.fr, bx := scrubB p.1 s.bx })] else []
    | _, _ => []
  | _, _ => []
/-- All operations but calls of functions. -/
def opM (E : Env) (s : St) (o : Oper) : List (Bool × AV × St) :=
  match o.op with
  | .alloc t => match E.ti t with
    | some i => newBoxA s (.cells t i.zero)
    | none => []
  | .box t x => match (ev s x).cells? with
    | some l => newBoxA s (.cells t l)
    | none => []
  | .buildSlice t len parts => buildSliceA E s t len (parts.toList.map fun p => (p.1, ev s p.2))
  | .store t a x => storeA E s t (ev s a) (ev s x)
  | .convert src dst x => match E.ti src, E.ti dst, ev s x with
    | some { k := .str, .. }, some { k := .slice e, .. }, .str b => match E.ti e with
      | some { k := .int .u8, .. } => [(decide (b.size ≤ 140737488355328), .sl (.int .u8) (bytesOf b) (some false) none, s)]
      | _ => []
    | some { k := .slice e, .. }, some { k := .str, .. }, .sl (.int .u8) xs _ _ => match E.ti e with
      | some { k := .int .u8, .. } => [(true, .str (strOfNums xs), s)]
      | _ => []
    | some { k := .slice e, .. }, some { k := .str, .. }, .nilsl => match E.ti e with
      | some { k := .int .u8, .. } => [(true, .str ByteArray.empty, s)]
      | _ => []
    | _, _, _ => (convA E src dst (ev s x)).map fun p => (p.1, p.2, s)
  | .slice t x lo hi mx => sliceA E s t (ev s x) (lo.map (ev s)) (hi.map (ev s)) (mx.map (ev s))
  | .range t x => match E.ti t, ev s x with
    | some { k := .str, .. }, .str b => newBoxA s (.iter b 0)
    | _, _ => []
  | .next x true => nextA E s (ev s x)
  | .call { callee := .builtin b, args := args, argTypes := types } =>
    match appendOf b types.toList args.toList with
    | some q => if Nat.beq q.1 q.2.1 then appendA E s q.1 (ev s q.2.2.1) (ev s q.2.2.2) else []
    | none => (builtinV E b types.toList (args.toList.map (ev s))).map fun p => (p.1, p.2, s)
  | _ => (opV E s o).map fun p => (p.1, p.2, s)

/-! ### Calls -/
mutual
def shiftTok (m : Nat) : AV → AV
  | .sl e xs nl own => .sl e xs nl (match own with | none => none | some p => some (m + p.1, p.2))
  | .agg l => .agg (shiftTokL m l)
  | .fn f l => .fn f (shiftTokL m l)
  | .iface t x => .iface t (shiftTok m x)
  | .tup l => .tup (shiftTokL m l)
  | .asl sz l => .asl sz (shiftTokL m l)
  | .apin sz l o => .apin sz (shiftTokL m l) o
  | x => x
def shiftTokL (m : Nat) : List AV → List AV
  | [] => []
  | x :: l => shiftTok m x :: shiftTokL m l
end
inductive CSpec where
  | pure (sp : List AV → List (Bool × AV))
  | inl
  /-- By a pointer to a box: what is in the box, and the other arguments; the answer, and what is in the box then. Else: a function of data. -/
  | bor (sp : List AV → List AV → List (Bool × AV × List AV)) (spn : List AV → List (Bool × AV))

abbrev Inl (α : Type) := FuncId → List AV → List Box2 → (AV → List Box2 → Option α) → Option α

def pureK {α : Type} (sp : List AV → List (Bool × AV)) (s : St) (args : List AV) (k : AV → St → Option α) : Option α :=
  if ptrsBL 0 (stripL args) then pick (sp (stripL args)) fun r => if ptrsB 0 r then k (shiftTok s.maxTok r) s else none else none
def boxArg : List AV → Option (Nat × List AV)
  | .ptr b 0 :: rest => some (b, rest)
  | _ => none
def callK {α : Type} (T : FuncId → Option CSpec) (inl : Inl α) (s : St) (f : FuncId) (args : List AV) (k : AV → St → Option α) : Option α :=
  match T f with
  | some (.pure sp) => pureK sp s args k
  | some .inl => if ptrsBL s.bx.length s.fr then inl f (stripL args) s.bx fun r bx => k r { fr := stripL s.fr, bx := bx } else none
  | some (.bor sp spn) => match boxArg args with
    | some (b, rest) => match s.bx[b]? with
      | some (.cells Tt l) => if ptrsBL 0 (stripL rest) && ptrsBL 0 (stripL l) then
          pick (sp (stripL l) (stripL rest)) fun p => if ptrsB 0 p.1 && ptrsBL 0 p.2 then k (shiftTok s.maxTok p.1) { s with bx := s.bx.set b (.cells Tt (stripL p.2)) } else none
        else none
      | _ => none
    | none => pureK spn s args k
  | none => none
def opK {α : Type} (E : Env) (T : FuncId → Option CSpec) (inl : Inl α) (s : St) (o : Oper) (k : AV → St → Option α) : Option α :=
  match o.op with
  | .call { callee := .value x, args := args, argTypes := _ } =>
    match ev s x with
    | .fn f cap => callK T inl s f (args.toList.map (ev s) ++ cap) k
    | _ => none
  | _ => pick (opM E s o) fun p => k p.1 p.2

/-- Where the order is the text's: conversions to the same kind too. -/
def opK2 {α : Type} (E : Env) (T : FuncId → Option CSpec) (inl : Inl α) (s : St) (o : Oper) (k : AV → St → Option α) : Option α :=
  match o.op with
  | .convert src dst x => pick (opM E s o ++ convSame E s src dst (ev s x)) fun p => k p.1 p.2
  | _ => opK E T inl s o k

/-! ### Code -/
inductive Ex where
  | normal
  | exit (id : Nat)
  | ret

def guardA (ops : List Oper) (s : St) (j : Nat) : Option (Option (Bool × Tmp)) :=
  match ops[j]? with
  | some o => match o.dst with
    | some t => match s.fr.getD t .any with
      | .bool b => some (some (b, t))
      | .tup [] => some none
      | _ => none
    | none => none
  | none => none
def St.setB (s : St) (t : Tmp) (b : Bool) : St := { s with fr := s.fr.set t (.bool b) }
def St.setO (s : St) (x : Operand) (b : Bool) : St :=
  match x with
  | .tmp t => s.setB t b
  | _ => s
def runOps {α : Type} (E : Env) (T : FuncId → Option CSpec) (inl : Inl α) (ops : List Oper) : List Oper → St → (St → Option α) → Option α
  | [], s, k => k s
  | o :: r, s, k =>
    match o.guard with
    | none => opK2 E T inl s o fun v s' => runOps E T inl ops r (s'.put o.dst v) k
    | some (j, want) => match guardA ops s j with
      | some (some (b, t)) => cond (cond want b (!b)) (opK2 E T inl (s.setB t want) o fun v s' => runOps E T inl ops r (s'.put o.dst v) k) (runOps E T inl ops r ((s.setB t (!want)).put o.dst undefA) k)
      | some none => runOps E T inl ops r (s.put o.dst undefA) k
      | none => none

/-! ### Regions whose order is drawn -/
def calmB : Builtin → Bool
  | .len => true
  | .max => true
  | .min => true
  | _ => false
def calmOp (o : Oper) : Bool :=
  match o.op with
  | .move _ => true
  | .assign _ => true
  | .pick _ _ _ => true
  | .build _ _ => true
  | .buildSlice _ _ _ => true
  | .load _ _ => true
  | .store _ _ _ => true
  | .nilCheck _ => true
  | .binOp _ _ _ _ _ => true
  | .unOp _ _ _ => true
  | .convert _ _ _ => true
  | .makeInterface _ _ => true
  | .slice _ _ _ _ _ => true
  | .fieldAddr _ _ _ => true
  | .field _ _ _ => true
  | .indexAddr _ _ _ => true
  | .index _ _ _ => true
  | .extract _ _ => true
  | .typeAssert _ _ _ _ => true
  | .call { callee := .value _, .. } => true
  | .call { callee := .builtin b, .. } => calmB b
  | _ => false
/-- The box that an operation looks at, and whether it turns it. -/
def touchA (T : FuncId → Option CSpec) (s : St) (o : Oper) : Option (Nat × Bool) :=
  match o.op with
  | .call { callee := .value x, args := args, argTypes := _ } => match ev s x with
    | .fn f cap => match T f with
      | some (.bor _ _) => match boxArg (args.toList.map (ev s) ++ cap) with
        | some (b, _) => some (b, true)
        | none => none
      | _ => none
    | _ => none
  | .load _ a => match ev s a with
    | .ptr b _ => some (b, false)
    | _ => none
  | .store _ a _ => match ev s a with
    | .ptr b _ => some (b, true)
    | _ => none
  | _ => none
def looksL : List Operand → List Nat
  | [] => []
  | .tmp t :: r => t :: looksL r
  | _ :: r => looksL r
def guardT (ops : List Oper) (o : Oper) : List Nat :=
  match o.guard with
  | some (j, _) => match ops[j]? with
    | some q => match q.dst with
      | some t => [t]
      | none => []
    | none => []
  | none => []
def looksO (ops : List Oper) (o : Oper) : List Nat := looksL o.op.operands.toList ++ guardT ops o
def edgesL : List Edge → List Nat
  | [] => []
  | e :: r => cond (Region.binds .any e) (e.on :: edgesL r) (edgesL r)
def edgesO (o : Oper) : List Nat := edgesL o.after.toList
def maskOf (ms : List Nat) : List Nat → Nat
  | [] => 0
  | j :: r => Nat.lor (Nat.lor (ms.getD j 0) (Nat.shiftLeft 1 j)) (maskOf ms r)
def memN (t : Nat) : List Nat → Bool
  | [] => false
  | x :: r => Nat.beq x t || memN t r
def belowN (n : Nat) : List Nat → Bool
  | [] => true
  | x :: r => Nat.blt x n && belowN n r
structure Prev where
  dst : Option Nat
  looks : List Nat
  touch : Option (Nat × Bool)
def hitsD (d : Option Nat) (l : List Nat) : Bool :=
  match d with
  | some t => memN t l
  | none => false
def sameD (d e : Option Nat) : Bool :=
  match d, e with
  | some t, some u => Nat.beq t u
  | _, _ => false
def hitsB (x y : Option (Nat × Bool)) : Bool :=
  match x, y with
  | some p, some q => Nat.beq p.1 q.1 && (p.2 || q.2)
  | _, _ => false
def clash (p q : Prev) : Bool := hitsD p.dst q.looks || (hitsD q.dst p.looks || (sameD p.dst q.dst || hitsB p.touch q.touch))
def okPrev (m : Nat) (q : Prev) : List Prev → Nat → Bool
  | [], _ => true
  | p :: r, i => (Nat.testBit m i || !clash p q) && okPrev m q r (i + 1)
def noInl {α : Type} : Inl α := fun _ _ _ _ => none
/-- In the text's order; where two operations may run either way round, neither sees the other. -/
def runD {α : Type} (E : Env) (T : FuncId → Option CSpec) (ops : List Oper) : List Oper → (i : Nat) → List Nat → List Prev → St → (St → Option α) → Option α
  | [], _, _, _, s, k => k s
  | o :: r, i, ms, ps, s, k =>
    cond (calmOp o && belowN i (edgesO o))
      (match o.guard with
      | none => cond (okPrev (maskOf ms (edgesO o)) ⟨o.dst, looksO ops o, touchA T s o⟩ ps 0)
          (opK E T noInl s o fun v s' => runD E T ops r (i + 1) (ms ++ [maskOf ms (edgesO o)]) (ps ++ [⟨o.dst, looksO ops o, touchA T s o⟩]) (s'.put o.dst (strip v)) k) none
      | some (j, want) => match guardA ops s j with
        | some (some (b, t)) => cond (cond want b (!b))
            (cond (okPrev (maskOf ms (edgesO o)) ⟨o.dst, looksO ops o, touchA T (s.setB t want) o⟩ ps 0)
              (opK E T noInl (s.setB t want) o fun v s' => runD E T ops r (i + 1) (ms ++ [maskOf ms (edgesO o)]) (ps ++ [⟨o.dst, looksO ops o, touchA T (s.setB t want) o⟩]) (s'.put o.dst (strip v)) k) none)
            (cond (okPrev (maskOf ms (edgesO o)) ⟨o.dst, looksO ops o, none⟩ ps 0)
              (runD E T ops r (i + 1) (ms ++ [maskOf ms (edgesO o)]) (ps ++ [⟨o.dst, looksO ops o, none⟩]) ((s.setB t (!want)).put o.dst undefA) k) none)
        | some none => cond (okPrev (maskOf ms (edgesO o)) ⟨o.dst, looksO ops o, none⟩ ps 0)
            (runD E T ops r (i + 1) (ms ++ [maskOf ms (edgesO o)]) (ps ++ [⟨o.dst, looksO ops o, none⟩]) (s.put o.dst undefA) k) none
        | none => none)
      none

def weaken : AV → AV
  | .sl e xs _ own => .sl e xs none own
  | x => x
def havocL (nb : Nat) (keep : Option (List Nat)) : Nat → List AV → List AV
  | _, [] => []
  | i, x :: l => (match keep with
    | none => x
    | some ks => if ks.contains i && ptrsB nb x then weaken x else .any) :: havocL nb keep (i + 1) l
/-- A loop's head and its exits: what is not kept is forgotten, and the boxes of the round before. -/
def head (nb : Nat) (keep : Option (List Nat)) (s : St) : Option St :=
  match keep with
  | none => some s
  | some ks => if ptrsBB nb (s.bx.take nb) then some { fr := havocL nb keep 0 s.fr, bx := s.bx.take nb } else none
def loopH {α : Type} (nb : Nat) (kh ke : Option (List Nat)) (body : St → (Ex → St → Option α) → Option α) : Nat → St → (Ex → St → Option α) → Option α
  | 0, _, _ => none
  | n + 1, s, k => body s fun e s' => match e with
      | .normal => match head nb kh s' with
        | some s2 => loopH nb kh ke body n s2 k
        | none => none
      | e => match head nb ke s' with
        | some s2 => k e s2
        | none => none
abbrev Keeps := Nat → Option (List Nat × List Nat)
def runC {α : Type} (E : Env) (T : FuncId → Option CSpec) (inl : Inl α) (hv : Keeps) (fuel : Nat) : Code → Nat → St → (Ex → St → Option α) → Option α
  | .skip, _, s, k => k .normal s
  | .region _ ops false, _, s, k => runOps E T inl ops.toList ops.toList s (k .normal)
  | .region _ ops true, _, s, k => runD E T ops.toList ops.toList 0 [] [] s (k .normal)
  | .seq a b, cur, s, k => runC E T inl hv fuel a cur s fun e s' => match e with
    | .normal => runC E T inl hv fuel b cur s' k
    | e => k e s'
  | .cond c a b, cur, s, k => match ev s c with
    | .bool g => cond g (runC E T inl hv fuel a cur (s.setO c true) k) (runC E T inl hv fuel b cur (s.setO c false) k)
    | _ => none
  | .block id c, _, s, k => runC E T inl hv fuel c id s fun e s' => match e with
    | .exit id' => if Nat.beq id' id then k .normal s' else k (.exit id') s'
    | e => k e s'
  | .loop c, cur, s, k => match head s.bx.length ((hv cur).map (·.1)) s with
    | some s1 => loopH s.bx.length ((hv cur).map (·.1)) ((hv cur).map (·.2)) (fun s k => runC E T inl hv fuel c cur s k) fuel s1 k
    | none => none
  | .exit id, _, s, k => k (.exit id) s
  | .scope c, cur, s, k => runC E T inl hv fuel c cur s k
  | .label _, _, s, k => k .normal s
  | .ret, _, s, k => k .ret s
  | .goto _, _, _, _ => none
  | .rangeFunc _ _ _ _, _, _, _ => none
  | .refuse _, _, _, _ => none

def resOne (E : Env) (s : St) : ResultVar → Option AV
  | .tmp t => some (s.fr.getD t .any)
  | .cell a t => sel (loadA E s t (s.fr.getD a .any))
def resL (E : Env) (s : St) : List ResultVar → Option (List AV)
  | [] => some []
  | r :: l => match resOne E s r, resL E s l with
    | some x, some xs => some (x :: xs)
    | _, _ => none
def resA (E : Env) (s : St) (rs : List ResultVar) : Option AV :=
  match resL E s rs with
  | some [x] => some x
  | some l => some (.tup l)
  | none => none
def runF {α : Type} (E : Env) (T : FuncId → Option CSpec) (inl : Inl α) (hv : Keeps) (fuel : Nat) (fn : Func) (args : List AV) (bx : List Box2) (k : AV → List Box2 → Option α) : Option α :=
  match fn.body with
  | none => none
  | some c => runC E T inl hv fuel c 0 { fr := args ++ List.replicate (fn.ntmps - args.length) undefA, bx := bx } fun e s =>
    match e with
    | .exit _ => none
    | _ => match resA E s fn.results.toList with
      | some r => k r s.bx
      | none => none
/-- Functions run within one another, to a depth. -/
def inlD {α : Type} (E : Env) (T : FuncId → Option CSpec) (fns : FuncId → Option Func) (hv : FuncId → Keeps) (fuel : Nat) : Nat → Inl α
  | 0 => fun _ _ _ _ => none
  | d + 1 => fun f args bx k => match fns f with
    | some fn => runF E T (inlD E T fns hv fuel d) (hv f) fuel fn args bx k
    | none => none

/-! ### Words for statements about runs -/
def lookA : List (Nat × AV) → Nat → AV
  | [], _ => .any
  | p :: r, i => if Nat.beq p.1 i then p.2 else lookA r i
/-- A frame of n slots of which those told are known. -/
def frOf (l : List (Nat × AV)) : (n i : Nat) → List AV
  | 0, _ => []
  | n + 1, i => lookA l i :: frOf l n (i + 1)
/-- The code at a place: 0 the first part, 1 the second. -/
def codeAt : Code → List Nat → Code
  | c, [] => c
  | .seq a _, 0 :: p => codeAt a p
  | .seq _ b, _ :: p => codeAt b p
  | .cond _ a _, 0 :: p => codeAt a p
  | .cond _ _ b, _ :: p => codeAt b p
  | .block _ c, _ :: p => codeAt c p
  | .loop c, _ :: p => codeAt c p
  | .scope c, _ :: p => codeAt c p
  | c, _ => c
/-- What comes behind the code at a place. -/
def contAt {α : Type} (E : Env) (T : FuncId → Option CSpec) (inl : Inl α) (hv : Keeps) (fuel : Nat) : Code → List Nat → Nat → (Ex → St → Option α) → (Ex → St → Option α)
  | .seq a b, 0 :: p, cur, k => contAt E T inl hv fuel a p cur fun e s' => match e with
    | .normal => runC E T inl hv fuel b cur s' k
    | e => k e s'
  | .seq _ b, _ :: p, cur, k => contAt E T inl hv fuel b p cur k
  | .cond _ a _, 0 :: p, cur, k => contAt E T inl hv fuel a p cur k
  | .cond _ _ b, _ :: p, cur, k => contAt E T inl hv fuel b p cur k
  | .block id c, _ :: p, _, k => contAt E T inl hv fuel c p id fun e s' => match e with
    | .exit id' => if Nat.beq id' id then k .normal s' else k (.exit id') s'
    | e => k e s'
  | .scope c, _ :: p, cur, k => contAt E T inl hv fuel c p cur k
  | _, _, _, k => k
def bodyOf (fn : Func) : Code := match fn.body with | some c => c | none => .skip
def endOf {α : Type} (E : Env) (fn : Func) (k : AV → List Box2 → Option α) : Ex → St → Option α := fun e s =>
    match e with
    | .exit _ => none
    | _ => match resA E s fn.results.toList with
      | some r => k r s.bx
      | none => none
end Go.Proofs.AbsV
