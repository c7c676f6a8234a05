/-
  An evaluator over abstract values: closed calls are run by the kernel. This text: its definitions.
-/
import Derived.Test.YtecbcpilcjmhlaaDoorAvN
namespace Go.Av
set_option linter.unusedSimpArgs false
set_option linter.unusedVariables false

/-- Tables by number. -/
inductive Tr (α : Type) where
  | e
  | n (v : Option α) (l r : Tr α)
def Tr.get {α : Type} : Tr α → Nat → Option α
  | .e, _ => none
  | .n v l r, i => match Nat.beq i 0 with
    | true => v
    | false => match Nat.beq (Nat.mod i 2) 1 with
      | true => l.get (Nat.div i 2)
      | false => r.get (Nat.pred (Nat.div i 2))
def Tr.set {α : Type} : Nat → Tr α → Nat → α → Tr α
  | 0, _, _, _ => .e
  | f + 1, .e, i, d => match Nat.beq i 0 with
    | true => .n (some d) .e .e
    | false => match Nat.beq (Nat.mod i 2) 1 with
      | true => .n none (Tr.set f .e (Nat.div i 2) d) .e
      | false => .n none .e (Tr.set f .e (Nat.pred (Nat.div i 2)) d)
  | f + 1, .n v l r, i, d => match Nat.beq i 0 with
    | true => .n (some d) l r
    | false => match Nat.beq (Nat.mod i 2) 1 with
      | true => .n v (Tr.set f l (Nat.div i 2) d) r
      | false => .n v l (Tr.set f r (Nat.pred (Nat.div i 2)) d)
/-- Deep enough for all numbers that are met. -/
abbrev deep : Nat := 14

/-- What the evaluator has to know of a type. -/
inductive TK where
  | int (k : IntKind)
  | bool
  | str
  | slice (e : Nat)
  | arr (n e : Nat)
  | map (k e : Nat)
  | struct (fl : List (Nat × Nat × Bool))
  | other
structure TI where
  k : TK
  agg : Bool
  sz : Nat
  by' : Nat
  zs : List Value
structure Tab where
  ty : Tr TI
  fs : Tr Func

/-- The evaluator's store: blocks, how many, and how many generations. -/
structure SS where
  s : Tr ABlk
  m : Nat
  c : Nat

def ikEq : IntKind → IntKind → Bool
  | .i64, .i64 => true
  | .u8, .u8 => true
  | .u64, .u64 => true
  | .u32, .u32 => true
  | .i8, .i8 => true
  | .i16, .i16 => true
  | .i32, .i32 => true
  | .u16, .u16 => true
  | _, _ => false
def ltI : Int → Int → Bool
  | .ofNat a, .ofNat b => Nat.blt a b
  | .ofNat _, .negSucc _ => false
  | .negSucc _, .ofNat _ => true
  | .negSucc a, .negSucc b => Nat.blt b a
def eqI : Int → Int → Bool
  | .ofNat a, .ofNat b => Nat.beq a b
  | .negSucc a, .negSucc b => Nat.beq a b
  | _, _ => false
def toN : Int → Option Nat
  | .ofNat a => some a
  | .negSucc _ => none
def wrapF (k : IntKind) (n : Int) : Int := match k, n with
  | .i64, .ofNat a => match Nat.blt a 9223372036854775808 with | true => .ofNat a | false => k.wrap (.ofNat a)
  | .i64, .negSucc a => match Nat.blt a 9223372036854775808 with | true => .negSucc a | false => k.wrap (.negSucc a)
  | k, n => k.wrap n
def evInt (op : BinOp) (k : IntKind) (x y : Int) : Option Value := match op with
  | .add => some (.int k (wrapF k (x + y)))
  | .sub => some (.int k (wrapF k (x - y)))
  | .mul => some (.int k (wrapF k (x * y)))
  | .quo => match eqI y 0 with | true => none | false => some (.int k (wrapF k (x.tdiv y)))
  | .rem => match eqI y 0 with | true => none | false => some (.int k (x.tmod y))
  | .and => some (.int k (bitsOf .and k x y))
  | .or => some (.int k (bitsOf .or k x y))
  | .xor => some (.int k (bitsOf .xor k x y))
  | .eql => some (.bool (eqI x y))
  | .neq => some (.bool (!(eqI x y)))
  | .lss => some (.bool (ltI x y))
  | .leq => some (.bool (!(ltI y x)))
  | .gtr => some (.bool (ltI y x))
  | .geq => some (.bool (!(ltI x y)))
  | _ => none
def evShift (op : BinOp) (k : IntKind) (x y : Int) : Option Value := match ltI y 0 with
  | true => none
  | false => match op with
    | .shl => some (.int k (k.wrap (x * 2 ^ min y.toNat k.bits)))
    | .shr => some (.int k (x / 2 ^ min y.toNat k.bits))
    | _ => none
def evBin (op : BinOp) (str bl : Bool) (a b : DV) : Option DV := match a, b with
  | .sc (.int k x), .sc (.int k' y) => match op with
    | .shl => (evShift .shl k x y).map .sc
    | .shr => (evShift .shr k x y).map .sc
    | op => match ikEq k k' with
      | true => (evInt op k x y).map .sc
      | false => none
  | .sc (.bool x), .sc (.bool y) => match bl, op with
    | true, .eql => some (.sc (.bool (x == y)))
    | true, .neq => some (.sc (.bool (!(x == y))))
    | _, _ => none
  | .sc (.string ⟨⟨x⟩⟩), .sc (.string ⟨⟨y⟩⟩) => match str, op with
    | true, .add => match Nat.ble (x.length + y.length) 1000000 with
      | true => some (.sc (.string ⟨⟨x ++ y⟩⟩))
      | false => none
    | _, _ => none
  | _, _ => none
def evNil (op : BinOp) (a b : DV) : Option DV := match op, a, b with
  | .eql, .sc (.slice none _ _), .sc (.slice none 0 0) => some (.sc (.bool true))
  | _, _, _ => none

/-- A block that is live. -/
def rowOf (s : Tr ABlk) (k γ : Nat) : Option (List DV) := match s.get k with
  | some (.row γ' cs) => match Nat.beq γ γ' with | true => some cs | false => none
  | _ => none
def mapOf (s : Tr ABlk) (k γ : Nat) : Option (List (Value × DV)) := match s.get k with
  | some (.mapb γ' cs) => match Nat.beq γ γ' with | true => some cs | false => none
  | _ => none
def tyOf (T : Tab) (t : Nat) : Option TI := T.ty.get t
def subD (cs : List DV) (off n : Nat) : Option DV :=
  match Nat.beq ((cs.drop off).take n).length n with | true => some (.agg ((cs.drop off).take n)) | false => none
def nth : List DV → Nat → Option DV
  | [], _ => none
  | d :: r, i => match i with | 0 => some d | j + 1 => nth r j
/-- Keys of maps: whole numbers and texts. -/
def keyEq : Value → Value → Option Bool
  | .int .i64 a, .int .i64 b => some (eqI a b)
  | .string ⟨⟨a⟩⟩, .string ⟨⟨b⟩⟩ => some (a == b)
  | _, _ => none
def findM (x : Value) : List (Value × DV) → Option (Option DV)
  | [] => some none
  | (k, d) :: r => match keyEq k x with
    | none => none
    | some true => some (some d)
    | some false => findM x r
def putM (x : Value) (d : DV) : List (Value × DV) → Option (List (Value × DV))
  | [] => some [(x, d)]
  | (k, e) :: r => match keyEq k x with
    | none => none
    | some true => some ((x, d) :: r)
    | some false => match putM x d r with | none => none | some r' => some ((k, e) :: r')
def zeroD (ti : TI) : Option DV := match ti.agg with
  | true => some (.agg (ti.zs.map .sc))
  | false => match ti.zs with | [z] => some (.sc z) | _ => none
def keyOk (T : Tab) (kt : Nat) (x : Value) : Bool := match tyOf T kt, x with
  | some ti, .int .i64 _ => match ti.k with | .int .i64 => true | _ => false
  | some ti, .string _ => match ti.k with | .str => true | _ => false
  | _, _ => false

def rPick (c a b : DV) : Option DV := match c with
  | .sc (.bool true) => some a
  | .sc (.bool false) => some b
  | _ => none
def rCell (ti : TI) (cs : List DV) (off : Nat) : Option DV := match ti.agg with | true => subD cs off ti.sz | false => nth cs off
def rLoad (T : Tab) (s : Tr ABlk) (t : TypeId) (a : DV) : Option DV := match a with
  | .ptr k γ off => match rowOf s k γ, tyOf T t with
    | some cs, some ti => rCell ti cs off
    | _, _ => none
  | .ep cs => match tyOf T t with
    | some ti => rCell ti cs 0
    | none => none
  | _ => none
def rLive (s : Tr ABlk) (k γ off : Nat) : Option DV := match rowOf s k γ with | some _ => some (.ptr k γ off) | none => none
def fldOf (T : Tab) (st fi : Nat) : Option (Nat × Nat × Bool) := match tyOf T st with
  | some ti => match ti.k with
    | .struct fl => fl[fi]?
    | _ => none
  | none => none
def rFldA (T : Tab) (s : Tr ABlk) (st fi : Nat) (x : DV) : Option DV := match fldOf T st fi with
  | some (o, _, _) => match x with
    | .ptr k γ off => rLive s k γ (off + o)
    | .ep cs => match cs.drop o with | [] => none | d :: r => some (.ep (d :: r))
    | _ => none
  | none => none
def rFld (T : Tab) (st fi : Nat) (x : DV) : Option DV := match fldOf T st fi with
  | some (o, sz, ag) => match x with
    | .agg cs => match ag with | true => subD cs o sz | false => (match Nat.beq sz 1 with | true => nth cs o | false => none)
    | _ => none
  | none => none
def idxOf : DV → Option Nat
  | .sc (.int _ i) => toN i
  | _ => none
def rIdxS (s : Tr ABlk) (es i : Nat) (x : DV) : Option DV := match x with
  | .ref k γ off len _ => match Nat.blt i len with
    | true => rLive s k γ (off + i * es)
    | false => none
  | .sl es' cs => match Nat.beq es' es, Nat.ble ((i + 1) * es) cs.length, Nat.blt 0 es, Nat.beq (cs.length / es * es) cs.length with
    | true, true, true, true => some (.ep ((cs.drop (i * es)).take es))
    | _, _, _, _ => none
  | _ => none
def rIdxA' (s : Tr ABlk) (es i : Nat) (x : DV) : Option DV := match x with
  | .ptr k γ off => rLive s k γ (off + i * es)
  | .ep cs => some (.ep (cs.drop (i * es)))
  | _ => none
def rIdxA (T : Tab) (s : Tr ABlk) (t : TypeId) (x y : DV) : Option DV := match idxOf y, tyOf T t with
  | some i, some ti => match ti.k with
    | .slice e => match tyOf T e with
      | some te => rIdxS s te.sz i x
      | none => none
    | .arr n e => match tyOf T e, Nat.blt i n with
      | some te, true => rIdxA' s te.sz i x
      | _, _ => none
    | _ => none
  | _, _ => none
def rIdx (T : Tab) (t : TypeId) (x y : DV) : Option DV := match idxOf y, tyOf T t with
  | some i, some ti => match ti.k with
    | .arr n e => match tyOf T e, Nat.blt i n, x with
      | some te, true, .agg cs => match te.agg with | true => none | false => nth cs (i * te.sz)
      | _, _, _ => none
    | .str => match x with
      | .sc (.string ⟨⟨l⟩⟩) => match l[i]? with | some b => some (.sc (.int .u8 b.toNat)) | none => none
      | _ => none
    | _ => none
  | _, _ => none
def rBin (T : Tab) (op : BinOp) (t : TypeId) (x y : DV) : Option DV := match tyOf T t with
  | some ti => match ti.k with
    | .str => evBin op true false x y
    | .bool => evBin op false true x y
    | .slice _ => evNil op x y
    | _ => evBin op false false x y
  | none => none
def rUn (op : UnOp) (x : DV) : Option DV := match x with
  | .sc (.bool b) => match op with | .not => some (.sc (.bool !b)) | _ => none
  | .sc (.int k a) => match op with | .neg => some (.sc (.int k (wrapF k (0 - a)))) | _ => none
  | _ => none
def rConv (T : Tab) (s d : TypeId) (x : DV) : Option DV := match tyOf T s, tyOf T d with
  | some _, some td => match x with
    | .sc (.int _ a) => match td.k with | .int k => some (.sc (.int k (wrapF k a))) | _ => none
    | _ => none
  | _, _ => none
def rExt (x : DV) (i : Nat) : Option DV := match x with | .tup vs => nth vs i | _ => none
def rNil (s : Tr ABlk) (x : DV) : Option DV := match x with
  | .ptr k γ off => rLive s k γ off
  | .ep cs => some (.ep cs)
  | .fn (.func fid) a c => some (.fn (.func fid) a c)
  | _ => none
def rBuild (T : Tab) (t : TypeId) (ps : List (Nat × DV)) : Option DV := match tyOf T t with
  | some ti => match ti.k with
    | .struct fl => match fillD (fun i => (fl[i]?).map fun p => (p.1, p.2.1)) (ti.zs.map .sc) ps with | some cs => some (.agg cs) | none => none
    | .arr n e => match tyOf T e with
      | some te => match fillD (fun i => some (i * te.sz, te.sz)) (ti.zs.map .sc) ps with | some cs => some (.agg cs) | none => none
      | none => none
    | _ => none
  | none => none
def okD : Bool → DV → Bool → DV
  | true, d, b => .tup [d, .sc (.bool b)]
  | false, d, _ => d
def rLook (T : Tab) (s : Tr ABlk) (t : TypeId) (m ix : DV) (ok : Bool) : Option DV := match tyOf T t with
  | some ti => match ti.k with
    | .map kt et => match m, ix with
      | .mp k γ, .sc x => match mapOf s k γ, keyOk T kt x, tyOf T et with
        | some l, true, some te => match findM x l, zeroD te with
          | some r, some z => some (okD ok (r.getD z) r.isSome)
          | _, _ => none
        | _, _, _ => none
      | _, _ => none
    | _ => none
  | none => none
def bndOf (o : Option DV) : Option (Option Nat) := match o with
  | none => some none
  | some d => match idxOf d with | some n => some (some n) | none => none
def rSlice' (T : Tab) (s : Tr ABlk) (k : TK) (x : DV) (l h : Option Nat) : Option DV := match k with
  | .slice e => match tyOf T e with
    | some te => match x with
      | .ref k γ off len es => match rowOf s k γ, Nat.ble (l.getD 0) (h.getD len), Nat.ble (h.getD len) len, Nat.beq te.sz es with
        | some _, true, true, true => some (.ref k γ (off + l.getD 0 * es) (h.getD len - l.getD 0) es)
        | _, _, _, _ => none
      | .sl es cs => match Nat.ble (l.getD 0) (h.getD (cs.length / es)), Nat.ble (h.getD (cs.length / es)) (cs.length / es), Nat.beq te.sz es, Nat.blt 0 es, Nat.beq (cs.length / es * es) cs.length with
        | true, true, true, true, true => some (.sl es ((cs.drop (l.getD 0 * es)).take ((h.getD (cs.length / es) - l.getD 0) * es)))
        | _, _, _, _, _ => none
      | _ => none
    | none => none
  | .str => match x with
    | .sc (.string ⟨⟨b⟩⟩) => match Nat.ble (l.getD 0) (h.getD b.length), Nat.ble (h.getD b.length) b.length with
      | true, true => some (.sc (.string ⟨⟨(b.drop (l.getD 0)).take (h.getD b.length - l.getD 0)⟩⟩))
      | _, _ => none
    | _ => none
  | _ => none
def rSlice (T : Tab) (s : Tr ABlk) (t : TypeId) (x : DV) (lo hi : Option DV) : Option DV := match tyOf T t, bndOf lo, bndOf hi with
  | some ti, some l, some h => rSlice' T s ti.k x l h
  | _, _, _ => none
def rLen' (s : Tr ABlk) (k : TK) (x : DV) : Option DV := match k with
  | .slice _ => match x with
    | .ref k γ _ len _ => match rowOf s k γ with | some _ => some (.i len) | none => none
    | .sc (.slice none n _) => some (.i n)
    | .sl es cs => match Nat.blt 0 es, Nat.beq (cs.length / es * es) cs.length with
      | true, true => some (.i (cs.length / es : Nat))
      | _, _ => none
    | _ => none
  | .str => match x with
    | .sc (.string ⟨⟨b⟩⟩) => some (.i (b.length : Nat))
    | _ => none
  | _ => none
def rBuiltin (T : Tab) (s : Tr ABlk) (b : Builtin) (xs : List DV) (ts : List TypeId) : Option DV := match b with
  | .len => match xs, ts with
    | [x], [t] => match tyOf T t with
      | some ti => rLen' s ti.k x
      | none => none
    | _, _ => none
  | .max => match xs with
    | [.sc (.int k a), .sc (.int k' b)] => match ikEq k k', ltI a b with
      | true, true => some (.sc (.int k b))
      | true, false => some (.sc (.int k a))
      | _, _ => none
    | _ => none
  | _ => none

/-- Operations that leave the store alone. -/
def evr (T : Tab) (op : Op) (f : Operand → DV) (s : Tr ABlk) : Option DV := match op with
  | .move x => some (f x)
  | .assign x => some (f x)
  | .pick c a b => rPick (f c) (f a) (f b)
  | .load t a => rLoad T s t (f a)
  | .fieldAddr st x fi => rFldA T s st fi (f x)
  | .field st x fi => rFld T st fi (f x)
  | .indexAddr t x y => rIdxA T s t (f x) (f y)
  | .index t x y => rIdx T t (f x) (f y)
  | .binOp op t x y _ => rBin T op t (f x) (f y)
  | .unOp op _ x => rUn op (f x)
  | .convert s d x => rConv T s d (f x)
  | .extract x i => rExt (f x) i
  | .makeFunc fn a c => some (.fn fn (a.toList.map f) (c.toList.map f))
  | .nilCheck x => rNil s (f x)
  | .build t ps => rBuild T t (ps.toList.map fun p => (p.1, f p.2))
  | .lookup t m ix ok => rLook T s t (f m) (f ix) ok
  | .slice t x lo hi mx => match mx with | none => rSlice T s t (f x) (lo.map f) (hi.map f) | some _ => none
  | .call c => match c.callee with
    | .builtin b => rBuiltin T s b (c.args.toList.map f) c.argTypes.toList
    | _ => none
  | _ => none

/-- What append reads. -/
def srcD (s : Tr ABlk) (es : Nat) : DV → Option (List DV)
  | .sl es' cs => match Nat.beq es es', Nat.blt 0 es, Nat.beq (cs.length / es * es) cs.length with | true, true, true => some cs | _, _, _ => none
  | .sc (.slice none 0 0) => some []
  | .ref k γ off n es' => match rowOf s k γ, Nat.beq es es' with
    | some cs, true => match Nat.ble (off + n * es) cs.length with
      | true => some ((cs.drop off).take (n * es))
      | false => none
    | _, _ => none
  | _ => none
def newB (S : SS) (b : ABlk) : SS := ⟨S.s.set deep S.m b, S.m + 1, S.c + 1⟩
def lim : Nat := 1000000

abbrev RW := Option (DV × SS)
def wStore (T : Tab) (S : SS) (t : TypeId) (a x : DV) : RW := match a with
  | .ptr k γ off => match rowOf S.s k γ, tyOf T t, dcells x with
    | some cs, some ti, some ds => match Nat.beq ds.length ti.sz, Nat.blt 0 ti.sz, spliceD cs off ds with
      | true, true, some cs' => some (.sc undef, ⟨S.s.set deep k (.row γ cs'), S.m, S.c⟩)
      | _, _, _ => none
    | _, _, _ => none
  | _ => none
def wBuildS (T : Tab) (S : SS) (alone : Bool) (t : TypeId) (n : Nat) (ps : List (Nat × DV)) : RW := match tyOf T t with
  | some ti => match ti.k with
    | .slice e => match tyOf T e with
      | some te => match Nat.beq te.zs.length te.sz, Nat.ble (n * te.sz) 16777216, fillD (fun i => some (i * te.sz, te.sz)) (zerosD te.zs n) ps with
        | true, true, some cs => match alone with
          | true => some (.sl te.sz cs, S)
          | false => match Nat.beq cs.length (n * te.sz) with
            | true => some (.ref S.m S.c 0 n te.sz, newB S (.row S.c cs))
            | false => none
        | _, _, _ => none
      | none => none
    | _ => none
  | none => none
def wMakeS (T : Tab) (S : SS) (t : TypeId) (x y : DV) : RW := match idxOf x, idxOf y, tyOf T t with
  | some n, some c, some ti => match ti.k with
    | .slice e => match tyOf T e with
      | some te => match Nat.beq te.zs.length te.sz, Nat.ble n c, Nat.ble c lim, Nat.ble te.by' lim with
        | true, true, true, true => some (.ref S.m S.c 0 n te.sz, newB S (.row S.c (zerosD te.zs n)))
        | _, _, _, _ => none
      | none => none
    | _ => none
  | _, _, _ => none
def wUpd (T : Tab) (S : SS) (t : TypeId) (m ix d : DV) : RW := match tyOf T t with
  | some ti => match ti.k with
    | .map kt et => match m, ix with
      | .mp k γ, .sc x => match mapOf S.s k γ, keyOk T kt x with
        | some l, true => match putM x d l with
          | some l' => some (.sc undef, ⟨S.s.set deep k (.mapb γ l'), S.m, S.c⟩)
          | none => none
        | _, _ => none
      | _, _ => none
    | _ => none
  | none => none
def wApp' (S : SS) (es : Nat) (x : DV) (ms : List DV) : RW := match x with
  | .ref k γ off len es' => match rowOf S.s k γ, Nat.beq off 0, Nat.beq es' es with
    | some cs, true, true => match Nat.ble (len * es) cs.length, Nat.ble (len + ms.length) lim with
      | true, true => some (.ref k S.c 0 (len + ms.length / es) es, ⟨S.s.set deep k (.row S.c (cs.take (len * es) ++ ms)), S.m, S.c + 1⟩)
      | _, _ => none
    | _, _, _ => none
  | .sc (.slice none 0 0) => match Nat.ble ms.length lim with
    | true => some (.ref S.m S.c 0 (ms.length / es) es, newB S (.row S.c ms))
    | false => none
  | _ => none
def wApp (T : Tab) (S : SS) (t t' : TypeId) (x y : DV) : RW := match tyOf T t, tyOf T t' with
  | some ti, some ti' => match ti.k, ti'.k with
    | .slice e, .slice _ => match tyOf T e with
      | some te => match srcD S.s te.sz y, Nat.beq te.zs.length te.sz, Nat.blt 0 te.sz, Nat.ble te.by' lim with
        | some ms, true, true, true => wApp' S te.sz x ms
        | _, _, _, _ => none
      | none => none
    | _, _ => none
  | _, _ => none
def allSc : List DV → Bool
  | [] => true
  | .sc v :: r => match v.oneCell' with | true => allSc r | false => false
  | _ :: _ => false
/-- What lies behind a row's part is let go. -/
def wClear (T : Tab) (S : SS) (t : TypeId) (x : DV) : RW := match tyOf T t with
  | some ti => match ti.k with
    | .slice e => match tyOf T e with
      | some te => match x with
        | .ref k γ off len es => match rowOf S.s k γ, Nat.beq es 1, Nat.beq te.sz 1, Nat.beq te.zs.length 1 with
          | some cs, true, true, true => match Nat.beq (off + len) cs.length, allSc cs with
            | true, true => some (.tup [], ⟨S.s.set deep k (.row γ (cs.take off)), S.m, S.c⟩)
            | _, _ => none
          | _, _, _, _ => none
        | _ => none
      | none => none
    | _ => none
  | none => none
def wBuiltin (T : Tab) (S : SS) (b : Builtin) (xs : List DV) (ts : List TypeId) : RW := match b with
  | .append => match xs, ts with
    | [x, y], [t, t'] => wApp T S t t' x y
    | _, _ => none
  | .clear => match xs, ts with
    | [x], [t] => wClear T S t x
    | _, _ => none
  | _ => none
def wCall (call : FuncId → List DV → SS → RW) (S : SS) (x : DV) (args : List DV) : RW := match x with
  | .fn (.func fid) a c => call fid (a ++ args ++ c) S
  | _ => none
/-- Operations that turn the store. 'alone': a slice that is built is only read. -/
def evw (T : Tab) (call : FuncId → List DV → SS → RW) (alone : Bool) (op : Op) (f : Operand → DV) (S : SS) : RW := match op with
  | .alloc t => match tyOf T t with
    | some ti => some (.ptr S.m S.c 0, newB S (.row S.c (ti.zs.map .sc)))
    | none => none
  | .box _ x => match dcells (f x) with
    | some ds => some (.ptr S.m S.c 0, newB S (.row S.c ds))
    | none => none
  | .store t a x => wStore T S t (f a) (f x)
  | .buildSlice t n ps => wBuildS T S alone t n (ps.toList.map fun p => (p.1, f p.2))
  | .makeSlice t x y => wMakeS T S t (f x) (f y)
  | .makeMap _ r => match r with | none => some (.mp S.m S.c, newB S (.mapb S.c [])) | some _ => none
  | .mapUpdate t m ix y => wUpd T S t (f m) (f ix) (f y)
  | .call c => match c.callee with
    | .builtin b => wBuiltin T S b (c.args.toList.map f) c.argTypes.toList
    | .value x => wCall call S (f x) (c.args.toList.map f)
    | _ => none
  | _ => none

/-- Is the operation wanted? -/
def wantE (ops : List Oper) (t : Tr DV) (o : Oper) : Option Bool := match o.guard with
  | none => some true
  | some (j, want) => match ops[j]? with
    | some oj => match oj.dst with
      | some s => match t.get s with
        | some (.sc (.bool b)) => some (b == want)
        | some (.sc _) => some false
        | _ => none
      | none => none
    | none => none
def putE (n : Nat) (dst : Option Tmp) (d : DV) (t : Tr DV) : Option (Tr DV) := match dst with
  | none => some t
  | some i => match Nat.blt i n, Nat.blt i 16000 with
    | true, true => some (t.set deep i d)
    | _, _ => none
def aeE (G : Nat → DV) (t : Tr DV) : Operand → DV
  | .tmp i => (t.get i).getD .any
  | .const v => .sc v
  | .global g => G g
  | .func f => .fn (.func f) [] []
/-- The floating kinds. -/
def flo : Op → Bool
  | .move _ => true
  | .assign _ => true
  | .pick _ _ _ => true
  | .load _ _ => true
  | .fieldAddr _ _ _ => true
  | .field _ _ _ => true
  | .indexAddr _ _ _ => true
  | .index _ _ _ => true
  | .binOp _ _ _ _ _ => true
  | .unOp _ _ _ => true
  | .convert _ _ _ => true
  | .extract _ _ => true
  | .makeFunc _ _ _ => true
  | .nilCheck _ => true
  | .build _ _ => true
  | .lookup _ _ _ _ => true
  | .slice _ _ _ _ _ => true
  | .call c => match c.callee with | .builtin .len => true | .builtin .max => true | _ => false
  | _ => false

structure Env where
  T : Tab
  G : Nat → DV
  call : FuncId → List DV → SS → Option (DV × SS)

/-- One operation. -/
def ev1 (V : Env) (n : Nat) (ops : List Oper) (alone : Bool) (o : Oper) (t : Tr DV) (S : SS) : Option (Tr DV × SS) := match wantE ops t o with
  | none => none
  | some false => match putE n o.dst (.sc undef) t with | some t' => some (t', S) | none => none
  | some true => match flo o.op with
    | true => match evr V.T o.op (aeE V.G t) S.s with
      | some d => match putE n o.dst d t with | some t' => some (t', S) | none => none
      | none => none
    | false => match evw V.T V.call alone o.op (aeE V.G t) S with
      | some (d, S') => match putE n o.dst d t with | some t' => some (t', S') | none => none
      | none => none
def evl (V : Env) (n : Nat) (ops : List Oper) : List Oper → Tr DV → SS → Option (Tr DV × SS)
  | [], t, S => some (t, S)
  | o :: r, t, S => match ev1 V n ops false o t S with
    | some (t', S') => evl V n ops r t' S'
    | none => none
/-! Regions that draw their order. -/
def appSrc : Op → Option Tmp
  | .call c => match c.callee, c.args.toList with
    | .builtin .append, [_, .tmp s] => some s
    | _, _ => none
  | _ => none
def aloneB (ops : List Oper) (o : Oper) : Bool := match o.op, o.dst with
  | .buildSlice _ _ _, some s => ops.any fun p => match appSrc p.op with
    | some s' => Nat.beq s s'
    | none => false
  | _, _ => false
def floD (ops : List Oper) (o : Oper) : Bool := match flo o.op with | true => true | false => aloneB ops o
def readsB : Op → Bool
  | .load _ _ => true
  | .fieldAddr _ _ _ => true
  | .indexAddr _ _ _ => true
  | .nilCheck _ => true
  | .lookup _ _ _ _ => true
  | .slice _ _ _ _ _ => true
  | .call _ => true
  | _ => false
/-- A floating operation's value. -/
def evF (V : Env) (ops : List Oper) (o : Oper) (t : Tr DV) (S : SS) : Option DV := match flo o.op with
  | true => evr V.T o.op (aeE V.G t) S.s
  | false => match evw V.T V.call true o.op (aeE V.G t) S with
    | some (d, _) => some d
    | none => none
def settled (ops : Array Oper) (W : List Nat) (k : Nat) : Bool := W.any fun m => (clos .any ops 4 (deps .any ops m)).contains k
def pickF (ops : Array Oper) (l : List Oper) (listed : Array Bool) : List Nat → Option Nat
  | [] => none
  | i :: r => match l[i]? with
    | some o => match floD l o with
      | true => match Region.free .any ops listed i with
        | true => some i
        | false => pickF ops l listed r
      | false => pickF ops l listed r
    | none => none
/-- An order: floating operations first; each other one with those that have to be asked again behind it. -/
def sOrd (ops : Array Oper) (l : List Oper) : Nat → Array Bool → List Nat → List Nat → Option (List (Nat × Option (List Nat)))
  | 0, listed, _, _ => match Region.ready .any ops listed with | [] => some [] | _ => none
  | f + 1, listed, D, W => match Region.ready .any ops listed with
    | [] => some []
    | r => match pickF ops l listed r with
      | some i => match l[i]? with
        | some o => match sOrd ops l f (listed.setIfInBounds i true) (match readsB o.op with | true => i :: D | false => D) W with
          | some js => some ((i, none) :: js)
          | none => none
        | none => none
      | none => match r with
        | [j] => match l[j]? with
          | some o => match floD l o with
            | true => none
            | false => match sOrd ops l f (listed.setIfInBounds j true) D (j :: W) with
              | some js => some ((j, some (D.filter fun k => !(settled ops (j :: W) k))) :: js)
              | none => none
          | none => none
        | _ => none
mutual
def eqDV : DV → DV → Bool
  | .sc v, .sc w => match v, w with
    | .int k a, .int k' b => match ikEq k k' with | true => eqI a b | false => false
    | .bool a, .bool b => a == b
    | .slice none a b, .slice none c d => Nat.beq a c && Nat.beq b d
    | .string ⟨⟨a⟩⟩, .string ⟨⟨b⟩⟩ => a == b
    | .nilFunc, .nilFunc => true
    | .map none, .map none => true
    | _, _ => false
  | .sl e a, .sl e' b => Nat.beq e e' && eqDL a b
  | .ep a, .ep b => eqDL a b
  | .ref a b c d e, .ref a' b' c' d' e' => Nat.beq a a' && Nat.beq b b' && Nat.beq c c' && Nat.beq d d' && Nat.beq e e'
  | .ptr a b c, .ptr a' b' c' => Nat.beq a a' && Nat.beq b b' && Nat.beq c c'
  | .mp a b, .mp a' b' => Nat.beq a a' && Nat.beq b b'
  | .agg a, .agg b => eqDL a b
  | .tup a, .tup b => eqDL a b
  | .fn (.func f) a b, .fn (.func g) a' b' => Nat.beq f g && eqDL a a' && eqDL b b'
  | _, _ => false
def eqDL : List DV → List DV → Bool
  | [], [] => true
  | a :: r, b :: s => eqDV a b && eqDL r s
  | _, _ => false
end
abbrev Rec := List (Nat × Oper × Tr DV × DV)
def askB (V : Env) (ops : List Oper) (S : SS) (ks : List Nat) : Rec → Bool
  | [] => true
  | (k, o, t, d) :: r => match ks.contains k with
    | true => match evF V ops o t S with
      | some d' => match eqDV d d' with
        | true => askB V ops S ks r
        | false => false
      | none => false
    | false => askB V ops S ks r
def evd (V : Env) (n : Nat) (ops : List Oper) : List (Nat × Option (List Nat)) → Tr DV → SS → Rec → Option (Tr DV × SS)
  | [], t, S, _ => some (t, S)
  | (i, ks) :: r, t, S, D => match ops[i]? with
    | none => none
    | some o => match wantE ops t o with
      | none => none
      | some false => match putE n o.dst (.sc undef) t with
        | some t' => evd V n ops r t' S D
        | none => none
      | some true => match ks with
        | none => match evF V ops o t S with
          | some d => match putE n o.dst d t with
            | some t' => evd V n ops r t' S (match readsB o.op with | true => (i, o, t, d) :: D | false => D)
            | none => none
          | none => none
        | some ks => match evw V.T V.call false o.op (aeE V.G t) S with
          | some (d, S') => match putE n o.dst d t, askB V ops S' ks D with
            | some t', true => evd V n ops r t' S' D
            | _, _ => none
          | none => none

inductive Ex where
  | nx
  | ex (id : Nat)
  | rt
def evc (V : Env) (n : Nat) : Nat → Code → Tr DV → SS → Option (Ex × Tr DV × SS)
  | 0, _, _, _ => none
  | _ + 1, .skip, t, S => some (.nx, t, S)
  | _ + 1, .ret, t, S => some (.rt, t, S)
  | _ + 1, .exit id, t, S => some (.ex id, t, S)
  | _ + 1, .region _ ops false, t, S => match evl V n ops.toList ops.toList t S with
    | some (t', S') => some (.nx, t', S')
    | none => none
  | _ + 1, .region _ ops true, t, S => match sOrd ops ops.toList ops.size (Array.replicate ops.size false) [] [] with
    | some js => match Nat.beq js.length ops.size, evd V n ops.toList js t S [] with
      | true, some (t', S') => some (.nx, t', S')
      | _, _ => none
    | none => none
  | f + 1, .seq a b, t, S => match evc V n f a t S with
    | some (.nx, t', S') => evc V n f b t' S'
    | r => r
  | f + 1, .cond x a b, t, S => match aeE V.G t x with
    | .sc (.bool true) => evc V n f a t S
    | .sc (.bool false) => evc V n f b t S
    | _ => none
  | f + 1, .block id b, t, S => match evc V n f b t S with
    | some (.ex i, t', S') => match Nat.beq i id with
      | true => some (.nx, t', S')
      | false => some (.ex i, t', S')
    | r => r
  | f + 1, .loop b, t, S => match evc V n f b t S with
    | some (.nx, t', S') => evc V n f (.loop b) t' S'
    | r => r
  | _ + 1, _, _, _ => none
def argT : Nat → List DV → Tr DV → Tr DV
  | _, [], t => t
  | i, d :: r, t => argT (i + 1) r (t.set deep i d)
def resE (T : Tab) (t : Tr DV) (S : SS) : List ResultVar → Option (List DV)
  | [] => some []
  | .tmp i :: r => match t.get i, resE T t S r with
    | some d, some l => some (d :: l)
    | _, _ => none
  | .cell a ty :: r => match t.get a, resE T t S r with
    | some (.ptr k γ off), some l => match rowOf S.s k γ, tyOf T ty with
      | some cs, some ti => match ti.agg with
        | true => match subD cs off ti.sz with | some d => some (d :: l) | none => none
        | false => match nth cs off with | some d => some (d :: l) | none => none
      | _, _ => none
    | _, _ => none
def evf (T : Tab) (G : Nat → DV) : Nat → FuncId → List DV → SS → Option (DV × SS)
  | 0, _, _, _ => none
  | f + 1, fid, args, S => match T.fs.get fid with
    | none => none
    | some fn => match fn.body, Nat.ble args.length fn.ntmps with
      | some c, true => match evc ⟨T, G, evf T G f⟩ fn.ntmps f c (argT 0 args .e) S with
        | some (.ex _, _, _) => none
        | some (_, t, S') => match resE T t S' fn.results.toList with
          | some [d] => some (d, S')
          | some l => some (.tup l, S')
          | none => none
        | none => none
      | _, _ => none
end Go.Av
