/-
  The abstract machine: values, heap, and the reckoning of operations. Nothing here speaks of a program or of a world.
-/
import GoSem.Core.Code
import GoSem.Core.Region
import GoSem.Core.World
import GoSem.Core.Utf8
import GoSem.Core.View
namespace Go.Ab

/-- Values that never change: what a call was handed, and what has been made and is written no more. -/
inductive D where
  | unk
  | undef
  | bool (b : Bool)
  | int (k : IntKind) (n : Int)
  | str (s : List UInt8)
  | nil
  | emp
  | slice (n sz : Nat) (cells : List D)
  | ptr (cells : List D) (off : Nat)
  | nilptr
  | nilmap
  | nilfunc
  | niliface
  | func (f : Nat) (first cap : List D)
  | iface (t : Nat) (v : D)
  | agg (cs : List D)
  | tuple (vs : List D)
  deriving Inhabited

/-- Values over the heap of one activation: block b, epoch e. -/
inductive V where
  | d (x : D)
  | ptr (b e off lim : Nat)
  | slice (b e off n sz : Nat)
  | map (b : Nat)
  | iter (b : Nat)
  | func (f : Nat) (first cap : List V)
  | yield (b : Nat)
  | iface (t : Nat) (v : V)
  | agg (cs : List V)
  | tuple (vs : List V)
  deriving Inhabited

inductive Cells where
  | ds (l : List D)
  | vs (l : List V)
  | mx (p : List V) (t : List D)
  deriving Inhabited

/-- The record of a range over a function. -/
structure LoopR where
  state : LoopState
  pending : Option Code
  fn : Nat
  nt : Nat
  ts : List (Nat × V)
  df : D
  params : List Nat
  assign : Code
  body : Code
  dfr : Nat
  deriving Inhabited

inductive O where
  | row (c : Cells) (cur fl : Nat) (cons : List (Nat × Nat))
  | map (keys : List D) (vals : Cells)
  | iter (s : List UInt8) (pos : Nat)
  | loop (l : LoopR)
  | dfr
  | gone
  deriving Inhabited

/-! ### Integers, kept folded -/
def ltI : Int → Int → Bool
  | .ofNat m, .ofNat n => Nat.blt m n
  | .ofNat _, .negSucc _ => false
  | .negSucc _, .ofNat _ => true
  | .negSucc m, .negSucc n => Nat.blt n m
def eqI : Int → Int → Bool
  | .ofNat m, .ofNat n => Nat.beq m n
  | .ofNat _, .negSucc _ => false
  | .negSucc _, .ofNat _ => false
  | .negSucc m, .negSucc n => Nat.beq m n
def leI (a b : Int) : Bool := match ltI b a with | true => false | false => true
def eqB : Bool → Bool → Bool
  | true, b => b
  | false, true => false
  | false, false => true
def eqS : List UInt8 → List UInt8 → Bool
  | [], [] => true
  | a :: l, b :: m => match Nat.beq a.toNat b.toNat with | true => eqS l m | false => false
  | _, _ => false
def ltS : List UInt8 → List UInt8 → Bool
  | _, [] => false
  | [], _ :: _ => true
  | a :: l, b :: m => match Nat.blt a.toNat b.toNat with | true => true | false => match Nat.beq a.toNat b.toNat with | true => ltS l m | false => false
def orB : Bool → Bool → Bool | true, _ => true | false, b => b
def andB : Bool → Bool → Bool | true, b => b | false, _ => false
def notB : Bool → Bool | true => false | false => true
def pickV : Bool → V → V → V | true, a, _ => a | false, _, b => b
def kindEq (a b : IntKind) : Bool := match a, b with
  | .i8, .i8 | .i16, .i16 | .i32, .i32 | .i64, .i64 | .u8, .u8 | .u16, .u16 | .u32, .u32 | .u64, .u64 => true
  | _, _ => false

/-! ### Values -/
def allD : List V → Option (List D)
  | [] => some []
  | .d x :: r => match allD r with | some l => some (x :: l) | none => none
  | _ :: _ => none
def mkAgg (cs : List V) : V := match allD cs with | some ds => .d (.agg ds) | none => .agg cs
def mkTuple (cs : List V) : V := match allD cs with | some ds => .d (.tuple ds) | none => .tuple cs
def mkFunc (f : Nat) (first cap : List V) : V := match allD first, allD cap with | some a, some b => .d (.func f a b) | _, _ => .func f first cap
def mkIface (t : Nat) : V → V | .d x => .d (.iface t x) | v => .iface t v
/-- The cells of a value that may be stored; none where it isn't known that it may. -/
def cellsO : V → Option (List V)
  | .d (.agg ds) => some (ds.map .d)
  | .agg cs => some cs
  | .d .unk => none
  | .d .undef => none
  | .d (.tuple _) => none
  | .tuple _ => none
  | v => some [v]
/-- The deep values at the end. -/
def tailD : List V → List V × List D
  | [] => ([], [])
  | v :: l => match tailD l with
    | ([], t) => match v with | .d x => ([], x :: t) | v => ([v], t)
    | (a :: p, t) => (v :: a :: p, t)
def Cells.ofV (l : List V) : Cells := match allD l with
  | some xs => .ds xs
  | none => match tailD l with
    | (p, t) => match Nat.ble 8 t.length with | true => .mx p t | false => .vs l
def Cells.len : Cells → Nat | .ds l => l.length | .vs l => l.length | .mx p t => p.length + t.length
def Cells.toV : Cells → List V | .ds l => l.map .d | .vs l => l | .mx p t => p ++ t.map .d
/-- n cells from off on. -/
def rd {α : Type} (l : List α) (off n : Nat) : Option (List α) := match Nat.ble (off + n) l.length with | true => some ((l.drop off).take n) | false => none
def wr {α : Type} : List α → Nat → List α → List α
  | l, _, [] => l
  | [], _, _ => []
  | _ :: l, 0, x :: xs => x :: wr l 0 xs
  | a :: l, n + 1, xs => a :: wr l n xs
def Cells.readV (agg : Bool) (c : Cells) (off n : Nat) : Option V :=
  match agg with
  | true => match c with
    | .ds l => match rd l off n with | some r => some (.d (.agg r)) | none => none
    | .vs l => match rd l off n with | some r => some (mkAgg r) | none => none
    | .mx p t => match Nat.ble (off + n) p.length with
      | true => match rd p off n with | some r => some (mkAgg r) | none => none
      | false => match Nat.ble p.length off with
        | true => match rd t (off - p.length) n with | some r => some (.d (.agg r)) | none => none
        | false => match rd (p ++ t.map .d) off n with | some r => some (mkAgg r) | none => none
  | false => match c with
    | .ds l => match l[off]? with | some r => some (.d r) | none => none
    | .vs l => l[off]?
    | .mx p t => match Nat.blt off p.length with
      | true => p[off]?
      | false => match t[off - p.length]? with | some r => some (.d r) | none => none
def readD (agg : Bool) (l : List D) (off n : Nat) : Option V := Cells.readV agg (.ds l) off n
def Cells.write (c : Cells) (off : Nat) (vals : List V) : Option Cells :=
  match Nat.ble (off + vals.length) c.len with
  | false => none
  | true => match c, allD vals with
    | .ds l, some xs => some (.ds (wr l off xs))
    | .mx p t, some xs => match Nat.ble p.length off with
      | true => some (.mx p (wr t (off - p.length) xs))
      | false => match Nat.ble (off + vals.length) p.length with
        | true => some (.mx (wr p off vals) t)
        | false => some (.vs (wr (p ++ t.map .d) off vals))
    | c, _ => some (.vs (wr c.toV off vals))
def Cells.append (c : Cells) (k : Nat) (vals : List V) : Cells :=
  match c, allD vals with
  | .ds l, some xs => .ds (l.take k ++ xs)
  | c, _ => .vs (c.toV.take k ++ vals)
/-- Many cells; for what lies among the deep ones: these. -/
def Cells.rdV (c : Cells) (off n : Nat) : Option (List V) := match c with
  | .mx p t => match Nat.ble p.length off with
    | true => match rd t (off - p.length) n with | some l => some (l.map .d) | none => none
    | false => rd (p ++ t.map .d) off n
  | c => rd c.toV off n
/-- A cell more, another cell, a cell less: of a map's values. -/
def Cells.snoc (c : Cells) (v : V) : Cells := match c, v with
  | .ds l, .d x => .ds (l ++ [x])
  | c, v => .vs (c.toV ++ [v])
def setNth {α : Type} : List α → Nat → α → List α
  | [], _, _ => []
  | _ :: l, 0, v => v :: l
  | a :: l, n + 1, v => a :: setNth l n v
def eraseNth {α : Type} : List α → Nat → List α
  | [], _ => []
  | _ :: l, 0 => l
  | a :: l, n + 1 => a :: eraseNth l n
def Cells.setNth (c : Cells) (i : Nat) (v : V) : Cells := match c, v with
  | .ds l, .d x => .ds (Ab.setNth l i x)
  | c, v => .vs (Ab.setNth c.toV i v)
def Cells.erase (c : Cells) (i : Nat) : Cells := match c with
  | .ds l => .ds (eraseNth l i)
  | c => .vs (eraseNth c.toV i)

/-! ### Names -/
mutual
def namesV : V → List Nat
  | .d _ => []
  | .ptr b _ _ _ => [b]
  | .slice b _ _ _ _ => [b]
  | .map b => [b]
  | .iter b => [b]
  | .func _ a c => namesVs a ++ namesVs c
  | .yield b => [b]
  | .iface _ v => namesV v
  | .agg cs => namesVs cs
  | .tuple vs => namesVs vs
def namesVs : List V → List Nat
  | [] => []
  | v :: l => namesV v ++ namesVs l
end
def namesTs : List (Nat × V) → List Nat
  | [] => []
  | (_, v) :: l => namesV v ++ namesTs l
def namesC : Cells → List Nat | .ds _ => [] | .vs l => namesVs l | .mx p _ => namesVs p
def namesO : O → List Nat
  | .row c _ _ _ => namesC c
  | .map _ c => namesC c
  | .iter _ _ => []
  | .loop l => l.dfr :: namesTs l.ts
  | .dfr => []
  | .gone => []
mutual
def renV (r : Nat → Nat) : V → V
  | .d x => .d x
  | .ptr b e o m => .ptr (r b) e o m
  | .slice b e o n s => .slice (r b) e o n s
  | .map b => .map (r b)
  | .iter b => .iter (r b)
  | .func f a c => .func f (renVs r a) (renVs r c)
  | .yield b => .yield (r b)
  | .iface t v => .iface t (renV r v)
  | .agg cs => .agg (renVs r cs)
  | .tuple vs => .tuple (renVs r vs)
def renVs (r : Nat → Nat) : List V → List V
  | [] => []
  | v :: l => renV r v :: renVs r l
end
def renTs (r : Nat → Nat) : List (Nat × V) → List (Nat × V)
  | [] => []
  | (t, v) :: l => (t, renV r v) :: renTs r l
def renC (r : Nat → Nat) : Cells → Cells | .ds l => .ds l | .vs l => .vs (renVs r l) | .mx p t => .mx (renVs r p) t
def renO (r : Nat → Nat) : O → O
  | .row c a b s => .row (renC r c) a b s
  | .map ks c => .map ks (renC r c)
  | .iter s p => .iter s p
  | .loop ⟨s, p, f, n, ts, df, ps, a, b, d⟩ => .loop ⟨s, p, f, n, renTs r ts, df, ps, a, b, r d⟩
  | .dfr => .dfr
  | .gone => .gone
def memN : Nat → List Nat → Bool
  | _, [] => false
  | a, b :: l => match Nat.beq a b with | true => true | false => memN a l
def getO : List O → Nat → O
  | [], _ => .gone
  | x :: _, 0 => x
  | _ :: l, n + 1 => getO l n
def setO : List O → Nat → O → List O
  | [], _, _ => []
  | _ :: l, 0, o => o :: l
  | x :: l, n + 1, o => x :: setO l n o
/-- The names that are reached, in the order of their discovery (newest first in 'seen'). -/
def reach (h : List O) : Nat → List Nat → List Nat → List Nat
  | 0, _, seen => seen
  | _ + 1, [], seen => seen
  | k + 1, b :: todo, seen => match memN b seen with
    | true => reach h k todo seen
    | false => reach h k (namesO (getO h b) ++ todo) (b :: seen)
/-- Where a name stands in a list; the list's length where it does not. -/
def posN : List Nat → Nat → Nat
  | [], _ => 0
  | a :: l, b => match Nat.beq a b with | true => 0 | false => posN l b + 1
def nthN : List Nat → Nat → Nat
  | [], n => n
  | a :: _, 0 => a
  | _ :: l, n + 1 => nthN l n

/-! ### Temporaries -/
def getT (df : D) : List (Nat × V) → Nat → V
  | [], _ => .d df
  | (s, v) :: l, t => match Nat.beq s t with | true => v | false => getT df l t
def keepT (df : D) (ts : List (Nat × V)) : List Nat → List (Nat × V)
  | [] => []
  | t :: l => (t, getT df ts t) :: keepT df ts l

/-! ### Constants -/
def absS : Value → D
  | .bool b => .bool b
  | .int k n => .int k n
  | .string s => .str s.data.toList
  | .pointer none => .nilptr
  | .slice none 0 0 => .nil
  | .map none => .nilmap
  | .nilFunc => .nilfunc
  | .nilIface => .niliface
  | _ => .unk
def absC (v : Value) : D := absS v

/-- What is to be known of a type. -/
structure TI where
  under : TypeDesc
  /-- cells -/
  size : Nat
  bytes : Nat
  zero : Option (List D)
  /-- '==' at this type is '==' of the cells -/
  flat : Bool
  /-- of these kinds: 0: truth values, 1: numbers, 2: texts -/
  kinds : List Nat
  deriving Inhabited
/-- Cells of these kinds. -/
def fitL : List Nat → List D → Bool
  | [], [] => true
  | k :: ks, x :: l => match k, x with
    | 0, .bool _ => fitL ks l
    | 1, .int _ _ => fitL ks l
    | 2, .str _ => fitL ks l
    | _, _ => false
  | _, _ => false
/-- What is to be known of a program. -/
structure Env where
  ty : Nat → Option TI
  glob : Nat → Option (List D)
  fn : Nat → Option Func
  /-- the slots that live on at the head, and behind the end, of the loop whose body's first region has this number -/
  keep : Nat → Nat → Option (List Nat)

def isAggD : TypeDesc → Bool
  | .struct _ | .array _ _ => true
  | _ => false
def TI.agg (i : TI) : Bool := isAggD i.under
def Env.under (E : Env) (t : Nat) : Option TypeDesc := match E.ty t with | some i => some i.under | none => none

def opd (E : Env) (df : D) (ts : List (Nat × V)) : Operand → V
  | .tmp t => getT df ts t
  | .const v => .d (absC v)
  | .global g => match E.glob g with | some cs => .d (.ptr cs 0) | none => .d .unk
  | .func f => .d (.func f [] [])

/-! ### Operations that touch no memory -/
def wrapV (k : IntKind) (n : Int) : V := .d (.int k (k.wrap n))
def intBin (op : BinOp) (k : IntKind) (a b : Int) : Option V :=
  match op with
  | .add => some (wrapV k (a + b))
  | .sub => some (wrapV k (a - b))
  | .mul => some (wrapV k (a * b))
  | .quo => match eqI b 0 with | true => none | false => some (wrapV k (a.tdiv b))
  | .rem => match eqI b 0 with | true => none | false => some (.d (.int k (a.tmod b)))
  | .eql => some (.d (.bool (eqI a b)))
  | .neq => some (.d (.bool (notB (eqI a b))))
  | .lss => some (.d (.bool (ltI a b)))
  | .leq => some (.d (.bool (leI a b)))
  | .gtr => some (.d (.bool (ltI b a)))
  | .geq => some (.d (.bool (leI b a)))
  | _ => none
def strBin (op : BinOp) (a b : List UInt8) : Option V :=
  match op with
  | .add => match Nat.ble (a.length + b.length) 140737488355328 with | true => some (.d (.str (a ++ b))) | false => none
  | .eql => some (.d (.bool (eqS a b)))
  | .neq => some (.d (.bool (notB (eqS a b))))
  | .lss => some (.d (.bool (ltS a b)))
  | .leq => some (.d (.bool (orB (ltS a b) (eqS a b))))
  | .gtr => some (.d (.bool (notB (orB (ltS a b) (eqS a b)))))
  | .geq => some (.d (.bool (notB (ltS a b))))
  | _ => none
/-- '==' of two cells that are numbers, texts or truth values. -/
def eqCell : D → D → Option Bool
  | .bool a, .bool b => some (eqB a b)
  | .int k a, .int k' b => match kindEq k k' with | true => some (eqI a b) | false => none
  | .str a, .str b => some (eqS a b)
  | _, _ => none
def eqCells : List D → List D → Option Bool
  | [], [] => some true
  | a :: l, b :: m => match eqCell a b, eqCells l m with | some x, some y => some (andB x y) | _, _ => none
  | _, _ => none
def eqV (E : Env) (lit : Bool) (t : Nat) (x y : V) : Option Bool :=
  match E.ty t with
  | none => none
  | some i => match i.under, x, y with
    | .bool, .d (.bool a), .d (.bool b) => some (eqB a b)
    | .interface _, .d .niliface, .d .niliface => match lit with | true => some true | false => none
    | .interface _, .d .niliface, .d (.iface _ _) => some false
    | .interface _, .d (.iface _ _), .d .niliface => some false
    | .pointer _, .d .nilptr, .d .nilptr => some true
    | .pointer _, .d .nilptr, .ptr _ _ _ _ => some false
    | .pointer _, .ptr _ _ _ _, .d .nilptr => some false
    | .func _ _ _, .d .nilfunc, .d .nilfunc => some true
    | .func _ _ _, .d .nilfunc, .func _ _ _ => some false
    | .func _ _ _, .func _ _ _, .d .nilfunc => some false
    | .func _ _ _, .d .nilfunc, .d (.func _ _ _) => some false
    | .func _ _ _, .d (.func _ _ _), .d .nilfunc => some false
    | .map _ _, .d .nilmap, .d .nilmap => some true
    | .map _ _, .d .nilmap, .map _ => some false
    | .map _ _, .map _, .d .nilmap => some false
    | _, .d (.agg a), .d (.agg b) => match fitL i.kinds a, i.flat with | true, true => eqCells a b | _, _ => none
    | _, _, _ => none
def isConst : Operand → Bool | .const _ => true | _ => false
def binV (E : Env) (lit : Bool) (op : BinOp) (t : Nat) (x y : V) : Option V :=
  match x, y with
  | .d (.int k a), .d (.int k' b) => match op with
    | .shl | .shr | .and | .or | .xor | .andNot => none
    | op => match kindEq k k' with | true => intBin op k a b | false => none
  | .d (.str a), .d (.str b) => strBin op a b
  | x, y => match op with
    | .eql => match eqV E lit t x y with | some b => some (.d (.bool b)) | none => none
    | .neq => match eqV E lit t x y with | some b => some (.d (.bool (notB b))) | none => none
    | _ => none
def unV (op : UnOp) (x : V) : Option V :=
  match op, x with
  | .not, .d (.bool b) => some (.d (.bool (notB b)))
  | .neg, .d (.int k n) => some (wrapV k (-n))
  | _, _ => none
def convV (E : Env) (dst : Nat) (x : V) : Option V :=
  match x with
  | .d (.int _ n) => match E.under dst with | some (.int k) => some (wrapV k n) | _ => none
  | .d (.str s) => match E.under dst with | some .string => some (.d (.str s)) | _ => none
  | _ => none
def fillV : List (Nat × Nat) → List V → List (Nat × V) → Option (List V)
  | _, cells, [] => some cells
  | places, cells, (i, v) :: rest => match places[i]?, cellsO v with
    | some (off, size), some cs => match Nat.beq cs.length size, Nat.ble (off + size) cells.length with
      | true, true => fillV places (wr cells off cs) rest
      | _, _ => none
    | _, _ => none
def placesOf (E : Env) : List Field → Option (List (Nat × Nat))
  | [] => some []
  | f :: l => match E.ty f.type, placesOf E l with | some i, some r => some ((f.offset, i.size) :: r) | _, _ => none
def arrPlaces (size : Nat) : Nat → Nat → List (Nat × Nat)
  | 0, _ => []
  | n + 1, i => (i * size, size) :: arrPlaces size n (i + 1)
def TI.zeroVs (i : TI) : Option (List V) := match i.zero with | some z => some (z.map .d) | none => none
def buildV (E : Env) (t : Nat) (parts : List (Nat × V)) : Option V :=
  match E.ty t with
  | some i => match i.zeroVs with
    | some z => match i.under with
      | .struct fs => match placesOf E fs.toList with
        | some pl => match fillV pl z parts with | some cs => some (mkAgg cs) | none => none
        | none => none
      | .array n e => match E.ty e with
        | some j => match fillV (arrPlaces j.size n 0) z parts with | some cs => some (mkAgg cs) | none => none
        | none => none
      | _ => none
    | none => none
  | none => none
/-- An index or a bound: a number from 0 on. -/
def natI : Int → Option Nat
  | .ofNat n => some n
  | .negSucc _ => none
def idxV : V → Option Int
  | .d (.int _ n) => some n
  | _ => none
/-- low and high of a slice expression on n elements; high at most n. -/
def boundV (n : Nat) (dflt : Nat) : Option V → Option Nat
  | none => some dflt
  | some v => match idxV v with
    | some i => match natI i with
      | some m => match Nat.ble m n with | true => some m | false => none
      | none => none
    | none => none
def sliceV (E : Env) (t : Nat) (x : V) (lo hi : Option V) : Option V :=
  match E.ty t with
  | none => none
  | some i => match i.under, x with
    | .string, .d (.str s) => match boundV s.length s.length hi with
      | none => none
      | some h => match boundV h 0 lo with
        | none => none
        | some l => some (.d (.str ((s.take h).drop l)))
    | .slice e, .d .nil => match E.ty e, boundV 0 0 hi with
      | some _, some h => match boundV h 0 lo with
        | none => none
        | some _ => some (.d .nil)
      | _, _ => none
    | .slice e, .d (.slice n sz cells) => match E.ty e with
      | none => none
      | some j => match Nat.beq sz j.size, boundV n n hi with
        | true, some h => match boundV h 0 lo with
          | none => none
          | some l => some (.d (.slice (h - l) sz ((cells.take (h * sz)).drop (l * sz))))
        | _, _ => none
    | .slice e, .slice b ep off n sz => match E.ty e with
      | none => none
      | some j => match Nat.beq sz j.size, boundV n n hi with
        | true, some h => match boundV h 0 lo with
          | none => none
          | some l => some (.slice b ep (off + l * sz) (h - l) sz)
        | _, _ => none
    | .array n e, .ptr b ep off lim => match E.ty e with
      | none => none
      | some j => match Nat.ble (off + n * j.size) lim, boundV n n hi with
        | true, some h => match boundV h 0 lo with
          | none => none
          | some l => some (.slice b ep (off + l * j.size) (h - l) j.size)
        | _, _ => none
    | _, _ => none
def fieldAddrV (E : Env) (t : Nat) (x : V) (i : Nat) : Option V :=
  match E.under t with
  | some (.struct fs) => match fs[i]? with
    | some f => match E.ty f.type, x with
      | some _, .d (.ptr cs off) => some (.d (.ptr cs (off + f.offset)))
      | some _, .ptr b e off lim => some (.ptr b e (off + f.offset) lim)
      | _, _ => none
    | none => none
  | _ => none
def partV (E : Env) (t : Nat) (cs : V) (off : Nat) : Option V :=
  match E.ty t with
  | none => none
  | some i => match cs with
    | .d (.agg ds) => Cells.readV i.agg (.ds ds) off i.size
    | .agg vs => Cells.readV i.agg (.vs vs) off i.size
    | _ => none
def fieldV (E : Env) (t : Nat) (x : V) (i : Nat) : Option V :=
  match E.under t with
  | some (.struct fs) => match fs[i]? with
    | some f => partV E f.type x f.offset
    | none => none
  | _ => none
/-- The index as a number below n. -/
def natIdx (ix : V) (n : Nat) : Option Nat :=
  match idxV ix with
  | some i => match natI i with
    | some m => match Nat.blt m n with | true => some m | false => none
    | none => none
  | none => none
def indexAddrV (E : Env) (t : Nat) (x ix : V) : Option V :=
  match E.under t with
  | some (.array n e) => match E.ty e, natIdx ix n with
    | some j, some m => match x with
      | .d (.ptr cs off) => some (.d (.ptr cs (off + m * j.size)))
      | .ptr b ep off lim => some (.ptr b ep (off + m * j.size) lim)
      | _ => none
    | _, _ => none
  | some (.slice e) => match E.ty e with
    | none => none
    | some j => match x with
      | .d (.slice n sz cs) => match Nat.beq sz j.size, natIdx ix n with
        | true, some m => some (.d (.ptr cs (m * sz)))
        | _, _ => none
      | .slice b ep off n sz => match Nat.beq sz j.size, natIdx ix n with
        | true, some m => some (.ptr b ep (off + m * sz) (off + m * sz + sz))
        | _, _ => none
      | _ => none
  | _ => none
def indexV (E : Env) (t : Nat) (x ix : V) : Option V :=
  match E.under t with
  | some (.array n e) => match E.ty e, natIdx ix n with
    | some j, some m => partV E e x (m * j.size)
    | _, _ => none
  | some .string => match x with
    | .d (.str s) => match idxV ix with
      | some i => match natI i with
        | some m => match s[m]? with
          | some c => some (.d (.int .u8 c.toNat))
          | none => none
        | none => none
      | none => none
    | _ => none
  | _ => none
def nilCheckV : V → Option V
  | .d (.ptr cs off) => some (.d (.ptr cs off))
  | .ptr b e o m => some (.ptr b e o m)
  | .d (.func f a c) => some (.d (.func f a c))
  | .func f a c => some (.func f a c)
  | _ => none
def extractV (x : V) (i : Nat) : Option V :=
  match x with
  | .d (.tuple l) => match l[i]? with | some v => some (.d v) | none => none
  | .tuple l => l[i]?
  | _ => none
def lenV (u : TypeDesc) (x : V) : Option V :=
  match u, x with
  | .string, .d (.str s) => some (.d (.int .i64 s.length))
  | .slice _, .d .nil => some (.d (.int .i64 0))
  | .slice _, .d .emp => some (.d (.int .i64 0))
  | .slice _, .d (.slice n _ _) => some (.d (.int .i64 n))
  | .slice _, .slice _ _ _ n _ => some (.d (.int .i64 n))
  | _, _ => none
def minI (a b : Int) : Int := match ltI b a with | true => b | false => a
def maxI (a b : Int) : Int := match ltI a b with | true => b | false => a
def minmaxV (mx : Bool) : V → List V → Option V
  | v, [] => some v
  | .d (.int k a), .d (.int k' b) :: l => match kindEq k k' with
    | true => match mx with
      | true => minmaxV mx (.d (.int k (maxI a b))) l
      | false => minmaxV mx (.d (.int k (minI a b))) l
    | false => none
  | _, _ => none
def notIface (E : Env) (t : Nat) : Bool := match E.under t with | some (.interface _) => false | some _ => true | none => false

/-- The constant nil, as a slice. -/
def isNilS : Operand → Bool | .const (.slice none 0 0) => true | _ => false
/-- Is a slice nil? -/
def nilTest (E : Env) (op : BinOp) (t : Nat) (x : V) : Option V :=
  match op, E.under t, x with
  | .eql, some (.slice _), .d .nil => some (.d (.bool true))
  | .eql, some (.slice _), .d (.slice n _ _) => match Nat.blt 0 n with | true => some (.d (.bool false)) | false => none
  | .eql, some (.slice _), .slice _ _ _ n _ => match Nat.blt 0 n with | true => some (.d (.bool false)) | false => none
  | .neq, some (.slice _), .d .nil => some (.d (.bool false))
  | .neq, some (.slice _), .d (.slice n _ _) => match Nat.blt 0 n with | true => some (.d (.bool true)) | false => none
  | .neq, some (.slice _), .slice _ _ _ n _ => match Nat.blt 0 n with | true => some (.d (.bool true)) | false => none
  | _, _, _ => none
/-- An operation that neither reads nor writes memory; none where it would, or where nothing is known. -/
def quietV (E : Env) (ρ : Operand → V) : Op → Option V
  | .move x | .assign x => some (ρ x)
  | .pick c a b => match ρ c with | .d (.bool t) => some (pickV t (ρ a) (ρ b)) | _ => none
  | .build t ps => buildV E t (ps.toList.map fun p => (p.1, ρ p.2))
  | .nilCheck x => nilCheckV (ρ x)
  | .binOp op t x y _ => match isNilS y with
    | true => nilTest E op t (ρ x)
    | false => binV E (orB (isConst x) (isConst y)) op t (ρ x) (ρ y)
  | .unOp op _ x => unV op (ρ x)
  | .convert s d x => match E.under s with | some _ => convV E d (ρ x) | none => none
  | .makeInterface t x => match notIface E t with | true => some (mkIface t (ρ x)) | false => none
  | .makeFunc (.func f) a c => some (mkFunc f (a.toList.map ρ) (c.toList.map ρ))
  | .slice t x lo hi none => sliceV E t (ρ x) (lo.map ρ) (hi.map ρ)
  | .fieldAddr t x i => fieldAddrV E t (ρ x) i
  | .field t x i => fieldV E t (ρ x) i
  | .indexAddr t x ix => indexAddrV E t (ρ x) (ρ ix)
  | .index t x ix => indexV E t (ρ x) (ρ ix)
  | .extract x i => extractV (ρ x) i
  | .call c => match c.callee with
    | .builtin .len => match c.args.toList.map ρ, (c.argTypes[0]?).bind E.under with
      | _ :: _, some (.array n _) => some (.d (.int .i64 n))
      | x :: _, some u => lenV u x
      | _, _ => none
    | .builtin .min => match c.args.toList.map ρ with | x :: l => minmaxV false x l | [] => none
    | .builtin .max => match c.args.toList.map ρ with | x :: l => minmaxV true x l | [] => none
    | _ => none
  | _ => none

/-! ### Memory -/
/-- May epoch e look at the cells from off to off + n? -/
def may (e off n : Nat) (cur fl : Nat) : List (Nat × Nat) → Bool
  | [] => match Nat.ble fl e with | true => Nat.ble e cur | false => false
  | (e', l) :: r => match Nat.ble e e' with
    | true => match Nat.ble (off + n) l with | true => may e off n cur fl r | false => false
    | false => may e off n cur fl r
def loadV (E : Env) (h : List O) (t : Nat) (a : V) : Option V :=
  match E.ty t with
  | none => none
  | some i => match a with
    | .d (.ptr cs off) => readD i.agg cs off i.size
    | .ptr b e off lim => match getO h b with
      | .row c cur fl cons => match Nat.ble (off + i.size) lim, may e off i.size cur fl cons with
        | true, true => Cells.readV i.agg c off i.size
        | _, _ => none
      | _ => none
    | _ => none
/-- Two keys. -/
def eqK (k x : D) : Option Bool := match k, x with
  | .agg a, .agg b => eqCells a b
  | a, b => eqCell a b
def findD (k : D) : List D → Nat → Option (Option Nat)
  | [], _ => some none
  | x :: l, i => match eqK k x with
    | some true => some (some i)
    | some false => findD k l (i + 1)
    | none => none
def keyOk (E : Env) (t : Nat) (k : D) : Bool := match E.ty t with
  | none => false
  | some i => match k, i.under with
    | .agg l, _ => match i.agg, Nat.beq l.length i.size, fitL i.kinds l with | true, true, true => i.flat | _, _, _ => false
    | .int _ _, .int _ => true
    | .str _, .string => true
    | .bool _, .bool => true
    | _, _ => false
def TI.zeroV (i : TI) : Option V := match i.zeroVs with
  | some z => match i.agg with
    | true => some (mkAgg z)
    | false => match z with | [x] => some x | _ => none
  | none => none
def okV (ok : Bool) (v : V) (b : Bool) : V := match ok with | true => mkTuple [v, .d (.bool b)] | false => v
/-- a map's keys: numbers, texts, truth values, or aggregates of these -/
def lookupV (E : Env) (h : List O) (t : Nat) (m k : V) (ok : Bool) : Option V :=
  match E.under t with
  | some (.map kt et) => match k with
    | .d k => match keyOk E kt k, E.ty et with
      | true, some i => match i.zeroV with
        | none => none
        | some z => match m with
          | .d .nilmap => some (okV ok z false)
          | .map b => match getO h b with
            | .map ks vs => match findD k ks 0 with
              | some (some i) => match Cells.readV false vs i 1 with | some v => some (okV ok v true) | none => none
              | some none => some (okV ok z false)
              | none => none
            | _ => none
          | _ => none
      | _, _ => none
    | _ => none
  | _ => none
/-- An operation that only reads memory. -/
def readV (E : Env) (ρ : Operand → V) (h : List O) : Op → Option V
  | .load t a => loadV E h t (ρ a)
  | .lookup t m k ok => lookupV E h t (ρ m) (ρ k) ok
  | .call c => match c.callee, c.args.toList.map ρ with
    | .builtin .len, .map b :: _ => match getO h b with | .map ks _ => some (.d (.int .i64 ks.length)) | _ => none
    | .builtin .len, .d .nilmap :: _ => some (.d (.int .i64 0))
    | _, _ => none
  | _ => none

/-- An operation that makes a new block: what it holds, and the value that names block b. -/
def allocV (E : Env) (ρ : Operand → V) : Op → Option (O × (Nat → V))
  | .alloc t => match E.ty t with
    | some i => match i.zeroVs with
      | some z => some (.row (.ofV z) 0 0 [], fun b => .ptr b 0 0 z.length)
      | none => none
    | none => none
  | .box _ x => match cellsO (ρ x) with
    | some cs => some (.row (.ofV cs) 0 0 [], fun b => .ptr b 0 0 cs.length)
    | none => none
  | .buildSlice t n ps => match E.under t with
    | some (.slice e) => match E.ty e with
      | some i => match i.zeroVs with
        | some z => match Nat.ble (n * i.size) 16777216 with
          | true => match fillV (arrPlaces i.size n 0) ((List.replicate n z).flatten) (ps.toList.map fun p => (p.1, ρ p.2)) with
            | some cs => match n with
              | 0 => some (.row (.ds []) 0 0 [], fun _ => .d .emp)
              | _ => some (.row (.ofV cs) 0 0 [], fun b => .slice b 0 0 n i.size)
            | none => none
          | false => none
        | none => none
      | none => none
    | _ => none
  | .makeSlice t l c => match E.under t with
    | some (.slice e) => match E.ty e with
      | some i => match idxV (ρ l), idxV (ρ c), i.zeroVs with
        | some li, some ci, some z => match natI li, natI ci with
          | some n, some m => match Nat.ble n m, Nat.ble (m * i.bytes) 140737488355328 with
            | true, true => some (.row (.ofV ((List.replicate m z).flatten)) 0 0 [(0, m * i.size)], fun b => .slice b 0 0 n i.size)
            | _, _ => none
          | _, _ => none
        | _, _, _ => none
      | none => none
    | _ => none
  | .makeMap _ none => some (.map [] (.ds []), fun b => .map b)
  | .range t x => match E.under t, ρ x with
    | some .string, .d (.str s) => some (.iter s 0, fun b => .iter b)
    | _, _ => none
  | _ => none

/-! ### Effects on the heap -/
def storeO (E : Env) (h : List O) (t : Nat) (a v : V) : Option (List O) :=
  match E.ty t, a, cellsO v with
  | some i, .ptr b e off lim, some cs => match getO h b with
    | .row c cur fl cons => match Nat.beq cs.length i.size, Nat.ble (off + i.size) lim, Nat.beq e cur, may e off i.size cur fl cons with
      | true, true, true, true => match c.write off cs with
        | some c' => some (setO h b (.row c' cur cur cons))
        | none => none
      | _, _, _, _ => none
    | _ => none
  | _, _, _ => none
def mapSet (E : Env) (h : List O) (t : Nat) (m k v : V) : Option (List O) :=
  match E.under t with
  | some (.map kt _) => match m, k with
    | .map b, .d k => match getO h b, keyOk E kt k with
      | .map ks vs, true => match findD k ks 0 with
        | some (some i) => some (setO h b (.map ks (vs.setNth i v)))
        | some none => some (setO h b (.map (ks ++ [k]) (vs.snoc v)))
        | none => none
      | _, _ => none
    | _, _ => none
  | _ => none
/-- The cells that a slice with elements of sz cells, or a string, holds. -/
def rowOf (sz : Nat) (h : List O) (x : V) : Option (Nat × List V) :=
  match x with
  | .d .nil => some (0, [])
  | .d .emp => some (0, [])
  | .d (.slice n sz' cs) => match Nat.beq sz sz' with | true => some (n, cs.map .d) | false => none
  | .d (.str s) => match Nat.beq sz 1 with | true => some (s.length, s.map fun c => .d (.int .u8 c.toNat)) | false => none
  | .slice b e off n sz' => match getO h b with
    | .row c cur fl cons => match Nat.beq sz sz', may e off (n * sz') cur fl cons with
      | true, true => match c.rdV off (n * sz') with | some l => some (n, l) | none => none
      | _, _ => none
    | _ => none
  | _ => none
def elemOfT (E : Env) (t : Nat) : Option TI := match E.under t with | some (.slice e) => E.ty e | _ => none
/-- What is known of a row's block: it reaches no further than to cell k. -/
def exactK : List (Nat × Nat) → Option Nat
  | [(0, k)] => some k
  | _ => none
/-- What is appended to the end of a block that has no room goes into a new one. -/
def appendEnd (h : List O) (w : Nat) (c : Cells) (cur fl : Nat) (cons : List (Nat × Nat)) (b ep off n m : Nat) (new : List V) : Option (V × List O) :=
  match m with
  | 0 => some (.slice b ep off n w, h)
  | _ => match cur, exactK cons, may ep off (n * w) cur fl cons, rd c.toV off (n * w) with
    | 0, some k, true, some old => match Nat.beq (off + n * w) k with
      | true => some (.slice h.length 0 0 (n + m) w, h ++ [.row (.ofV (old ++ new)) 0 0 []])
      | false => none
    | _, _, _, _ => none
def appendO (E : Env) (h : List O) (t : Nat) (s x : V) : Option (V × List O) :=
  match elemOfT E t with
  | none => none
  | some i => match rowOf i.size h x, i.zero with
    | none, _ => none
    | _, none => none
    | some (m, new), some _ => match s with
      | .d .emp => match Nat.ble (m * i.bytes) 140737488355328 with
        | true => match m with
          | 0 => some (.d .emp, h)
          | _ => some (.slice h.length 0 0 m i.size, h ++ [.row (.ofV new) 0 0 []])
        | false => none
      | .d .nil => match Nat.ble (m * i.bytes) 140737488355328 with
        | true => match m with
          | 0 => some (.d .nil, h)
          | _ => some (.slice h.length 0 0 m i.size, h ++ [.row (.ofV new) 0 0 []])
        | false => none
      | .slice b ep off n sz => match getO h b with
        | .row c cur fl cons =>
          match Nat.ble ((n + m) * i.bytes) 140737488355328, Nat.beq off 0, Nat.beq sz i.size, may ep 0 (n * sz) cur fl cons with
          | true, true, true, true => match m with
            | 0 => some (.slice b ep off n sz, h)
            | _ => some (.slice b (cur + 1) 0 (n + m) sz,
                setO h b (.row (c.append (n * sz) new) (cur + 1) fl (match Nat.beq (n * sz) c.len with | true => cons | false => (cur, n * sz) :: cons)))
          | true, false, true, _ => appendEnd h i.size c cur fl cons b ep off n m new
          | _, _, _, _ => none
        | _ => none
      | _ => none
def copyO (E : Env) (h : List O) (t : Nat) (s x : V) : Option (V × List O) :=
  match elemOfT E t with
  | none => none
  | some i => match rowOf i.size h x with
    | none => none
    | some (m, new) => match s with
      | .slice b ep off n sz => match getO h b with
        | .row c cur fl cons =>
          match Nat.beq sz i.size, Nat.beq ep cur, may ep off (n * sz) cur fl cons with
          | true, true, true =>
            match Nat.min m n with
            | 0 => some (.d (.int .i64 0), h)
            | k => match c.write off (new.take (k * sz)) with
              | some c' => some (.d (.int .i64 k), setO h b (.row c' cur cur cons))
              | none => none
          | _, _, _ => none
        | _ => none
      | .d .nil => some (.d (.int .i64 0), h)
      | .d .emp => some (.d (.int .i64 0), h)
      | _ => none
def deleteO (E : Env) (h : List O) (t : Nat) (m k : V) : Option (List O) :=
  match E.under t with
  | some (.map kt _) => match m, k with
    | .map b, .d k => match getO h b, keyOk E kt k with
      | .map ks vs, true => match findD k ks 0 with
        | some (some i) => some (setO h b (.map (eraseNth ks i) (vs.erase i)))
        | some none => some h
        | none => none
      | _, _ => none
    | .d .nilmap, .d k => match keyOk E kt k with | true => some h | false => none
    | _, _ => none
  | _ => none
def clearO (E : Env) (h : List O) (t : Nat) (x : V) : Option (List O) :=
  match E.under t, x with
  | some (.map _ _), .d .nilmap => some h
  | some (.map _ _), .map b => match getO h b with
    | .map _ _ => some (setO h b (.map [] (.ds [])))
    | _ => none
  | some (.slice _), .d .nil => some h
  | some (.slice e), .slice b ep off n sz => match getO h b, E.ty e with
    | .row c cur fl cons, some i => match i.zeroVs with
      | some z =>
        match Nat.beq sz i.size, Nat.beq ep cur, may ep off (n * sz) cur fl cons with
        | true, true, true => match n with
          | 0 => some h
          | n => match c.write off ((List.replicate n z).flatten) with
            | some c' => some (setO h b (.row c' cur cur cons))
            | none => none
        | _, _, _ => none
      | none => none
    | _, _ => none
  | _, _ => none
def bytesL : List V → Option (List UInt8)
  | [] => some []
  | .d (.int .u8 n) :: l => match natI n, bytesL l with
    | some m, some r => some (UInt8.ofNat m :: r)
    | _, _ => none
  | _ :: _ => none
/-- conversions between strings and bytes, which make memory, or read it -/
def convO (E : Env) (h : List O) (src dst : Nat) (x : V) : Option (V × List O) :=
  match E.under src, E.under dst, x with
  | some .string, some (.slice e), .d (.str s) => match E.under e, Nat.ble s.length 140737488355328 with
    | some (.int .u8), true => match s with
      | [] => none
      | s => some (.slice h.length 0 0 s.length 1, h ++ [.row (.ds (s.map fun c => .int .u8 c.toNat)) 0 0 []])
    | _, _ => none
  | some (.slice _), some .string, .d (.str _) => none
  | some (.slice e), some .string, x => match E.under e, rowOf 1 h x with
    | some (.int .u8), some (_, cs) => match bytesL cs with
      | some l => some (.d (.str l), h)
      | none => none
    | _, _ => none
  | _, _, _ => none
def nextO (h : List O) (x : V) : Option (V × List O) :=
  match x with
  | .iter b => match getO h b with
    | .iter s pos => match Nat.blt pos s.length with
      | true => match Utf8.decode ⟨s.toArray⟩ pos with
        | (c, width) => some (.d (.tuple [.bool true, .int .i64 pos, .int .i32 c]), setO h b (.iter s (pos + width)))
      | false => some (.d (.tuple [.bool false]), h)
    | _ => none
  | _ => none
/-- The second operand of append is no number. -/
def notInt (E : Env) (t : Nat) : Bool := match E.under t with | some (.int _) => false | some _ => true | none => false
/-- An operation that changes the heap and calls nothing: its value, the heap, and the blocks that it may have changed. -/
def effectO (E : Env) (ρ : Operand → V) (h : List O) : Op → Option (V × List O × List Nat)
  | .store t a x => match storeO E h t (ρ a) (ρ x) with | some h' => some (.d .undef, h', namesV (ρ a)) | none => none
  | .mapUpdate t m k x | .insert t m k x => match mapSet E h t (ρ m) (ρ k) (ρ x) with | some h' => some (.d .undef, h', namesV (ρ m)) | none => none
  | .convert s d x => match convO E h s d (ρ x) with | some (v, h') => some (v, h', []) | none => none
  | .next it true => match nextO h (ρ it) with | some (v, h') => some (v, h', namesV (ρ it)) | none => none
  | .call c => match c.callee, c.args.toList.map ρ, c.argTypes.toList with
    | .builtin .append, [s, x], [t, t'] => match notInt E t', appendO E h t s x with | true, some (v, h') => some (v, h', namesV s) | _, _ => none
    | .builtin .copy, [s, x], t :: _ => match copyO E h t s x with | some (v, h') => some (v, h', namesV s) | none => none
    | .builtin .delete, [m, k], t :: _ => match deleteO E h t m k with | some h' => some (.d (.tuple []), h', namesV m) | none => none
    | .builtin .clear, [x], t :: _ => match clearO E h t x with | some h' => some (.d (.tuple []), h', namesV x) | none => none
    | _, _, _ => none
  | _ => none

end Go.Ab
