/-
  The abstract machine: code, calls, regions that draw their order, loops, ranges over functions: what must hold of a piece of code for Q to hold behind it.
-/
import Derived.Test.YtldpapiaonchaaaGreatDoorZzDefs
namespace Go.Ab
universe u

inductive Ex where
  | normal
  | exit (id : Nat)
  | ret
  deriving Inhabited

/-- Where what is asked ends up: Prop in proofs; a report where the machine is tried. -/
structure Mo (R : Sort u) where
  fail : String → R
  chk : Option V → V → R → R

/-- What is asked of a call: function, arguments, heap; of its value and the heap behind it. -/
abbrev CallP (R : Sort u) := Nat → List V → List O → (V → List O → R) → R
/-- What is asked of a call of yield: the record's block, its arguments, the heap. -/
abbrev YieldP (R : Sort u) := Nat → List V → List O → (V → List O → R) → R

structure Fr where
  /-- the function -/
  f : Nat
  /-- how many blocks came in -/
  m : Nat
  /-- the record of the round that this frame is, if it is one -/
  rnd : Option Nat

structure S where
  nt : Nat
  ts : List (Nat × V)
  /-- what the other slots hold -/
  df : D
  h : List O
  /-- the blocks for the rounds' deferred calls -/
  mks : List Nat
  deriving Inhabited

def S.put (st : S) (dst : Option Nat) (v : V) : S := match dst with | some t => { st with ts := (t, v) :: st.ts } | none => st
def S.fits (st : S) (dst : Option Nat) : Bool := match dst with | some t => Nat.blt t st.nt | none => true

section
variable {R : Sort u} (M : Mo R) (E : Env) (C : CallP R) (Y : YieldP R)

def oB {α : Type} (x : Option α) (why : String) (K : α → R) : R := match x with | some a => K a | none => M.fail why
def bB (x : Bool) (why : String) (K : R) : R := match x with | true => K | false => M.fail why

/-! ### Calls -/
/-- Blocks i < m stand at σ's i-th name; new ones behind the heap. -/
def unren (σ : List Nat) (m base : Nat) (i : Nat) : Nat := match Nat.blt i m with | true => nthN σ i | false => base + (i - m)
def mergeO (u : Nat → Nat) : List O → List Nat → List O → List O
  | h, [], new => h ++ new.map (renO u)
  | h, b :: σ, o :: new => mergeO u (setO h b (renO u o)) σ new
  | h, _ :: _, [] => h
def reachFuel : Nat := 4000
/-- All names that are reached from these, in the order of their discovery. -/
def reachAll (h : List O) (todo : List Nat) : List Nat := (reach h reachFuel todo []).reverse
/-- The first m blocks, and behind them what is reached from these and those. -/
def reachOn (h : List O) (m : Nat) (todo : List Nat) : List Nat :=
  (reach h reachFuel ((List.range m).flatMap (fun b => namesO (getO h b)) ++ todo) (List.range m).reverse).reverse
/-- Is every name of these blocks one of these? -/
def allIn (σ : List Nat) : List Nat → Bool
  | [] => true
  | b :: l => match memN b σ with | true => allIn σ l | false => false
def closedIn (h : List O) (σ : List Nat) : List Nat → Bool
  | [] => true
  | b :: l => match allIn σ (namesO (getO h b)) with | true => closedIn h σ l | false => false
def subHeap (h : List O) (r : Nat → Nat) : List Nat → List O
  | [] => []
  | b :: l => renO r (getO h b) :: subHeap h r l
/-- The call of a declared function, over no more of the heap than it can reach. K is told which blocks these are. -/
def callF (f : Nat) (args : List V) (h : List O) (K : V → List O → List Nat → R) : R :=
  match namesVs args with
  | [] => C f args [] fun v h2 => K (renV (fun i => h.length + i) v) (h ++ h2.map (renO fun i => h.length + i)) []
  | ns =>
    let σ := reachAll h ns
    bB M (match allIn σ ns with | true => closedIn h σ σ | false => false) "reach" <|
    C f (renVs (posN σ) args) (subHeap h (posN σ) σ) fun v h2 =>
      bB M (Nat.ble σ.length h2.length) "blocks lost" <|
      K (renV (unren σ σ.length h.length) v) (mergeO (unren σ σ.length h.length) h σ h2) σ
def callV (g : V) (args : List V) (h : List O) (K : V → List O → List Nat → R) : R :=
  match g with
  | .d (.func f a c) => callF M C f (a.map .d ++ args ++ c.map .d) h K
  | .func f a c => callF M C f (a ++ args ++ c) h K
  | .yield b => Y b args h fun v h2 => bB M (Nat.ble h.length h2.length) "blocks lost" <| K v h2 (List.range h.length)
  | _ => M.fail "call of what"

/-- The call of a function that is ranged over. -/
def callG (g : V) (args : List V) (h : List O) (K : V → List O → List Nat → R) : R :=
  match g with
  | .d (.func f a c) => callF M C f (a.map .d ++ args ++ c.map .d) h K
  | .func f a c => callF M C f (a ++ args ++ c) h K
  | _ => M.fail "range over what"

/-! ### Operations -/
inductive Cls where | quiet | read | alloc | effect | call | other
def cls (E : Env) (o : Op) : Cls :=
  match o with
  | .move _ | .assign _ | .pick .. | .build .. | .nilCheck _ | .binOp .. | .unOp .. | .makeInterface .. | .makeFunc .. | .slice .. | .fieldAddr .. | .field .. | .indexAddr .. | .index .. | .extract .. => .quiet
  | .convert s d _ => match E.under s, E.under d with
    | some .string, some (.slice _) => .effect
    | some (.slice _), some .string => .effect
    | _, _ => .quiet
  | .load .. | .lookup .. => .read
  | .alloc _ | .box .. | .buildSlice .. | .makeSlice .. | .makeMap .. | .range .. => .alloc
  | .store .. | .mapUpdate .. | .insert .. | .next .. => .effect
  | .call c => match c.callee with
    | .builtin .len => match (c.argTypes[0]?).bind E.under with | some (.map _ _) => .read | _ => .quiet
    | .builtin .min | .builtin .max => .quiet
    | .builtin .append | .builtin .copy | .builtin .delete | .builtin .clear => .effect
    | .value _ => .call
    | _ => .other
  | _ => .other

def nilLen (x : V) : Bool := match x with | .d .nilmap => true | _ => false
/-- One operation that is no effect and no call. -/
def calm (o : Oper) (st : S) (K : S → V → R) : R :=
  bB M (st.fits o.dst) "slot" <|
  match cls E o.op with
  | .quiet => oB M (quietV E (opd E st.df st.ts) o.op) "quiet" fun v => K (st.put o.dst v) v
  | .read => oB M (readV E (opd E st.df st.ts) st.h o.op) "read" fun v => K (st.put o.dst v) v
  | .alloc => oB M (allocV E (opd E st.df st.ts) o.op) "alloc" fun p => K ({ st with h := st.h ++ [p.1] }.put o.dst (p.2 st.h.length)) (p.2 st.h.length)
  | _ => M.fail "calm"
/-- One operation that is an effect or a call; K is told which blocks may have changed. -/
def loud (o : Oper) (st : S) (K : S → List Nat → R) : R :=
  bB M (st.fits o.dst) "slot" <|
  match cls E o.op with
  | .effect => oB M (effectO E (opd E st.df st.ts) st.h o.op) "effect" fun p => K ({ st with h := p.2.1 }.put o.dst p.1) p.2.2
  | .call => match o.op with
    | .call c => match c.callee with
      | .value g => callV M C Y (opd E st.df st.ts g) (c.args.toList.map (opd E st.df st.ts)) st.h fun v h2 σ => K ({ st with h := h2 }.put o.dst v) σ
      | _ => M.fail "loud"
    | _ => M.fail "loud"
  | _ => M.fail "loud"
def isLoud (E : Env) (o : Op) : Bool := match cls E o with | .effect | .call => true | .other => true | _ => false

def dstOf (ops : Array Oper) (j : Nat) : Option Nat := match ops[j]? with | some o => o.dst | none => none
/-- Is the operation to be carried out? (K true, K false; nothing, where the guard's value isn't known.) -/
def guarded (ops : Array Oper) (o : Oper) (st : S) (K : Bool → R) : R :=
  match o.guard with
  | none => K true
  | some (j, want) => match dstOf ops j with
    | some t => match getT st.df st.ts t with
      | .d (.bool b) => K (eqB b want)
      | .d .undef => K false
      | _ => M.fail "guard"
    | none => M.fail "guard"
def skipped (o : Oper) (st : S) (K : S → R) : R := bB M (st.fits o.dst) "slot" (K (st.put o.dst (.d .undef)))

/-- A region in the order of its text. -/
def opsIn (ops : Array Oper) : List Oper → S → (S → R) → R
  | [], st, K => K st
  | o :: l, st, K => guarded M ops o st fun want => match want with
    | true => match isLoud E o.op with
      | true => loud M E C Y o st fun st' _ => opsIn ops l st' K
      | false => calm M E o st fun st' _ => opsIn ops l st' K
    | false => skipped M o st fun st' => opsIn ops l st' K

/-! ### A region that draws its order -/
def maskOf : List Edge → Nat
  | [] => 0
  | e :: l => match e.ground with
    | .textOnly _ | .gcOnly _ => maskOf l
    | _ => Nat.lor (2 ^ e.on) (maskOf l)
structure Item' where
  i : Nat
  o : Oper
  /-- what must stand before it, by its own edges -/
  pre : Nat
  /-- what must stand before it, by way of others too -/
  all : Nat
def closeMask : List Edge → List (Nat × Nat) → Nat
  | [], _ => 0
  | e :: l, acc => match e.ground with
    | .textOnly _ | .gcOnly _ => closeMask l acc
    | _ => Nat.lor (Nat.lor (2 ^ e.on) (findMask e.on acc)) (closeMask l acc)
  where
  findMask (i : Nat) : List (Nat × Nat) → Nat
    | [] => 0
    | (j, x) :: l => match Nat.beq i j with | true => x | false => findMask i l
def itemsOf : List Oper → Nat → List (Nat × Nat) → List Item'
  | [], _, _ => []
  | o :: l, i, acc =>
    let a := closeMask o.after.toList acc
    ⟨i, o, maskOf o.after.toList, a⟩ :: itemsOf l (i + 1) ((i, a) :: acc)
def hasAll (pre done : Nat) : Bool := Nat.beq (Nat.land pre done) pre
def isDone (i done : Nat) : Bool := Nat.beq (Nat.land (2 ^ i) done) (2 ^ i)
/-- The operands that are looked at. -/
def opsOf : Op → List Operand
  | .move x | .assign x | .nilCheck x | .unOp _ _ x | .convert _ _ x | .makeInterface _ x | .fieldAddr _ x _ | .field _ x _ | .extract x _ | .box _ x | .load _ x | .range _ x | .next x _ => [x]
  | .pick c a b => [c, a, b]
  | .build _ ps | .buildSlice _ _ ps => ps.toList.map (·.2)
  | .store _ a v | .binOp _ _ a v _ | .makeSlice _ a v | .indexAddr _ a v | .index _ a v | .lookup _ a v _ => [a, v]
  | .makeFunc _ a c => a.toList ++ c.toList
  | .slice _ x lo hi _ => x :: (lo.toList ++ hi.toList)
  | .mapUpdate _ m k v | .insert _ m k v => [m, k, v]
  | .call c => match c.callee with
    | .value g => g :: c.args.toList
    | _ => c.args.toList
  | _ => []
def slotsL : List Operand → List Nat
  | [] => []
  | .tmp t :: l => t :: slotsL l
  | _ :: l => slotsL l
/-- The slots that an operation looks at. -/
def readsOf (ops : Array Oper) (o : Oper) : List Nat := match o.guard with
  | some (j, _) => match dstOf ops j with
    | some t => t :: slotsL (opsOf o.op)
    | none => slotsL (opsOf o.op)
  | none => slotsL (opsOf o.op)
def writerOf (t : Nat) : List Item' → Option Item'
  | [] => none
  | x :: l => match x.o.dst with
    | some d => match Nat.beq d t with
      | true => some x
      | false => writerOf t l
    | none => writerOf t l
def onceB : List Item' → Bool
  | [] => true
  | x :: l => match x.o.dst with
    | some d => match writerOf d l with
      | some _ => false
      | none => onceB l
    | none => onceB l
def readsB (items : List Item') (x : Item') : List Nat → Bool
  | [] => true
  | t :: l => match writerOf t items with
    | none => readsB items x l
    | some y => match orB (Nat.beq y.i x.i) (orB (isDone y.i x.all) (isDone x.i y.all)) with
      | true => readsB items x l
      | false => false
def itemsB (ops : Array Oper) (items : List Item') : List Item' → Bool
  | [] => true
  | x :: l => match Nat.blt x.pre (2 ^ x.i), readsB items x (readsOf ops x.o) with
    | true, true => itemsB ops items l
    | _, _ => false
/-- Each slot is written once at most, and whoever reads it stands before or behind its writer; edges lead back. -/
def regOk (ops : Array Oper) : Bool :=
  let items := itemsOf ops.toList 0 []
  andB (onceB items) (itemsB ops items items)
/-- What has been read, or made, ahead of its time: the blocks that it hangs on; the reading anew; what was found. -/
structure Rec where
  i : Nat
  bs : List Nat
  again : List O → Option V
  was : V
def addrOf (ρ : Operand → V) : Op → List Nat
  | .load _ a => namesV (ρ a)
  | .lookup _ m _ _ => namesV (ρ m)
  | .call c => namesVs (c.args.toList.map ρ)
  | _ => []
def recOf (E : Env) (o : Oper) (i : Nat) (st : S) (v : V) (recs : List Rec) : List Rec :=
  match cls E o.op with
  | .read => ⟨i, addrOf (opd E st.df st.ts) o.op, fun h => readV E (opd E st.df st.ts) h o.op, v⟩ :: recs
  | .alloc => ⟨i, [st.h.length], fun _ => none, v⟩ :: recs
  | _ => recs
/-- All operations that are ready, and are no effects and no calls. -/
def sat (ops : Array Oper) : List Item' → Nat → List Rec → S → (Nat → List Rec → S → R) → R
  | [], done, recs, st, K => K done recs st
  | x :: l, done, recs, st, K => match isDone x.i done, hasAll x.pre done with
    | false, true => match isLoud E x.o.op with
      | true => sat ops l done recs st K
      | false => guarded M ops x.o st fun want => match want with
        | true => calm M E x.o st fun st' v => sat ops l (Nat.lor (2 ^ x.i) done) (recOf E x.o x.i st v recs) st' K
        | false => skipped M x.o st fun st' => sat ops l (Nat.lor (2 ^ x.i) done) recs st' K
    | _, _ => sat ops l done recs st K
def readyL (items : List Item') (done : Nat) : List Item' :=
  match items with
  | [] => []
  | x :: l => match isDone x.i done, hasAll x.pre done with
    | false, true => x :: readyL l done
    | _, _ => readyL l done
def apartN : List Nat → List Nat → Bool
  | [], _ => true
  | b :: l, m => match memN b m with | true => false | false => apartN l m
def promised (h : List O) (before : Nat) (touched : List Nat) : List Rec → R → R
  | [], K => K
  | r :: l, K => match isDone r.i before, apartN r.bs touched with
    | true, _ => promised h before touched l K
    | false, true => promised h before touched l K
    | false, false => M.chk (r.again h) r.was (promised h before touched l K)
def anyIn (ops : Array Oper) (items : List Item') (full : Nat) : Nat → Nat → List Rec → S → (S → R) → R
  | 0, _, _, _, _ => M.fail "region"
  | n + 1, done, recs, st, K => sat M E ops items done recs st fun done recs st => match readyL items done with
    | [] => bB M (Nat.beq done full) "region's end" (K st)
    | [x] => guarded M ops x.o st fun want => match want with
      | true => loud M E C Y x.o st fun st' touched => promised M st'.h x.all touched recs (anyIn ops items full n (Nat.lor (2 ^ x.i) done) recs st' K)
      | false => skipped M x.o st fun st' => anyIn ops items full n (Nat.lor (2 ^ x.i) done) recs st' K
    | _ :: _ :: _ => M.fail "two effects without an order"

/-! ### Code -/
def firstReg : Code → Nat
  | .region id _ _ => id
  | .seq a b => match firstReg a with | 0 => firstReg b | n => n
  | .cond _ a b => match firstReg a with | 0 => firstReg b | n => n
  | .block _ b | .loop b | .scope b => firstReg b
  | .rangeFunc _ _ a b => match firstReg a with | 0 => firstReg b | n => n
  | _ => 0
/-- Of the blocks from m on only those that are reached from the slots that live on, anew in the order of their discovery. -/
def checkpoint (fr : Fr) (slots : List Nat) (st : S) (K : S → R) : R :=
  let ts := keepT st.df st.ts slots
  let σ := reachOn st.h fr.m (st.mks ++ namesTs ts)
  bB M (match allIn σ (st.mks ++ namesTs ts) with | true => closedIn st.h σ σ | false => false) "reach" <|
  K { st with ts := renTs (posN σ) ts, df := .unk, h := subHeap st.h (posN σ) σ, mks := st.mks.map (posN σ) }
def mayCheck (E : Env) (fr : Fr) (key : Nat) (st : S) (K : S → R) : R :=
  match E.keep fr.f key with
  | none => K st
  | some slots => checkpoint M fr slots st K
def iter (ck : S → (S → R) → R) (body : S → (Ex → S → R) → R) : Nat → S → (Ex → S → R) → R
  | 0, _, _ => M.fail "rounds"
  | n + 1, st, Q => ck st fun st => body st fun e st' => match e with
    | .normal => iter ck body n st' Q
    | e => ck st' fun st' => Q e st'

/-- How rounds are counted. -/
abbrev LoopP (R : Sort u) := (Nat → R) → R

def putAll : List Nat → List V → List (Nat × V) → List (Nat × V)
  | [], _, ts => ts
  | _, [], ts => ts
  | t :: l, v :: vs, ts => putAll l vs ((t, v) :: ts)
def allBlt (nt : Nat) : List Nat → Bool
  | [] => true
  | t :: l => match Nat.blt t nt with | true => allBlt nt l | false => false

def loopTs (E : Env) (f key : Nat) (df : D) (ts : List (Nat × V)) : List (Nat × V) := match E.keep f key with | none => ts | some slots => keepT df ts slots
def loopDf (E : Env) (f key : Nat) (df : D) : D := match E.keep f key with | none => df | some _ => .unk
def W (L : LoopP R) (fr : Fr) : Code → S → (Ex → S → R) → R
  | .skip, st, Q => Q .normal st
  | .region _ ops draw, st, Q => match draw with
    | false => opsIn M E C Y ops ops.toList st fun st => Q .normal st
    | true => bB M (regOk ops) "slots" <| anyIn M E C Y ops (itemsOf ops.toList 0 []) (2 ^ ops.size - 1) (ops.size + 1) 0 [] st fun st => Q .normal st
  | .seq a b, st, Q => W L fr a st fun e st' => match e with
    | .normal => W L fr b st' Q
    | e => Q e st'
  | .cond c a b, st, Q => match opd E st.df st.ts c with
    | .d (.bool t) => match t with
      | true => W L fr a st Q
      | false => W L fr b st Q
    | _ => M.fail "cond"
  | .block id b, st, Q => W L fr b st fun e st' => match e with
    | .exit i => match Nat.beq i id with
      | true => Q .normal st'
      | false => Q (.exit i) st'
    | e => Q e st'
  | .loop b, st, Q => L fun n => iter M (mayCheck M E fr (firstReg b)) (fun st Q => W L fr b st Q) n st Q
  | .rangeFunc g ps a b, st, Q =>
    let go (dn : Nat) (h1 : List O) (mk : List Nat) : R :=
      callG M C (opd E st.df st.ts g) [.yield h1.length] (h1 ++ [.loop ⟨.ready, none, fr.f, st.nt, loopTs E fr.f (firstReg b) st.df st.ts, loopDf E fr.f (firstReg b) st.df, ps.toList, a, b, dn⟩]) fun _ h3 _ =>
        match getO h3 h1.length with
        | .loop r => match r.state with
          | .busy => M.fail "busy"
          | _ =>
            let st' : S := { st with h := setO h3 h1.length .gone, mks := mk }
            match r.pending with
            | none => Q .normal st'
            | some .ret => Q .ret st'
            | some (.exit id) => Q (.exit id) st'
            | _ => M.fail "pending"
        | _ => M.fail "no record"
    match fr.rnd with
    | none => go st.h.length (st.h ++ [.dfr]) (st.h.length :: st.mks)
    | some l => match getO st.h l with
      | .loop r => go r.dfr st.h st.mks
      | _ => M.fail "no record"
  | .exit id, st, Q => Q (.exit id) st
  | .scope b, st, Q => W L fr b st Q
  | .label _, st, Q => Q .normal st
  | .goto _, _, _ => M.fail "goto"
  | .ret, st, Q => Q .ret st
  | .refuse why, _, _ => M.fail why

/-! ### A function, whole -/
def resultV (st : S) : ResultVar → Option V
  | .tmp t => some (getT st.df st.ts t)
  | .cell a t => loadV E st.h t (getT st.df st.ts a)
def resultsV (st : S) : List ResultVar → Option (List V)
  | [] => some []
  | r :: l => match resultV E st r, resultsV st l with | some v, some vs => some (v :: vs) | _, _ => none
def outV (vs : List V) : V := match vs with | [v] => v | vs => mkTuple vs

mutual
/-- A value as one that never changes, its blocks (from m on) being given up. -/
def frzV (h : List O) (m : Nat) : Nat → V → Option D
  | _, .d x => some x
  | 0, _ => none
  | k + 1, .slice b e off n sz => match Nat.ble m b, getO h b with
    | true, .row c cur fl cons => match may e off (n * sz) cur fl cons with
      | true => match c with
        | .ds l => match rd l off (n * sz) with
          | some r => some (.slice n sz r)
          | none => none
        | .vs l => match rd l off (n * sz) with
          | some vs => match frzVs h m k vs with
            | some ds => some (.slice n sz ds)
            | none => none
          | none => none
        | .mx p t => match rd (p ++ t.map .d) off (n * sz) with
          | some vs => match frzVs h m k vs with
            | some ds => some (.slice n sz ds)
            | none => none
          | none => none
      | false => none
    | _, _ => none
  | k + 1, .ptr b e off lim => match Nat.ble m b, getO h b with
    | true, .row c cur fl cons => match may e 0 lim cur fl cons with
      | true => match rd c.toV 0 lim with
        | some vs => match frzVs h m k vs with
          | some ds => some (.ptr ds off)
          | none => none
        | none => none
      | false => none
    | _, _ => none
  | k + 1, .func f a c => match frzVs h m k a, frzVs h m k c with
    | some a, some c => some (.func f a c)
    | _, _ => none
  | k + 1, .iface t v => match frzV h m k v with | some x => some (.iface t x) | none => none
  | k + 1, .agg cs => match frzVs h m k cs with | some ds => some (.agg ds) | none => none
  | k + 1, .tuple cs => match frzVs h m k cs with | some ds => some (.tuple ds) | none => none
  | _, .map _ => none
  | _, .iter _ => none
  | _, .yield _ => none
def frzVs (h : List O) (m : Nat) : Nat → List V → Option (List D)
  | _, [] => some []
  | 0, _ :: _ => none
  | k + 1, v :: l => match frzV h m k v, frzVs h m k l with
    | some x, some r => some (x :: r)
    | _, _ => none
end

/-- What is handed back, over the blocks that came in and those that it reaches. -/
def handBack (m : Nat) (h : List O) (v : V) (K : V → List O → R) : R :=
  let σ := reachOn h m (namesV v)
  bB M (match allIn σ (namesV v) with | true => closedIn h σ σ | false => false) "reach" <|
  K (renV (posN σ) v) (subHeap h (posN σ) σ)
def handFrozen (m : Nat) (h : List O) (v : V) (K : V → List O → R) : R :=
  match closedIn h (List.range m) (List.range m) with
  | true => match frzV h m 60 v with
    | some x => K (.d x) (h.take m)
    | none => handBack M m h v K
  | false => handBack M m h v K
def goneAll : List O → List Nat → Option (List O)
  | h, [] => some h
  | h, b :: l => match getO h b with
    | .dfr => goneAll (setO h b .gone) l
    | _ => none
def finish (frz : Bool) (fr : Fr) (rs : List ResultVar) (st : S) (K : V → List O → R) : R :=
  oB M (goneAll st.h st.mks) "marks" fun h =>
  oB M (resultsV E { st with h := h } rs) "results" fun vs => match frz with
    | true => handFrozen M fr.m h (outV vs) K
    | false => handBack M fr.m h (outV vs) K
def numbered : Nat → List V → List (Nat × V)
  | _, [] => []
  | i, v :: l => (i, v) :: numbered (i + 1) l
def enterFn (L : LoopP R) (frz : Nat → Bool) (f : Nat) (args : List V) (h : List O) (Q : V → List O → R) : R :=
  match E.fn f with
  | some F => match F.body with
    | some body =>
      bB M (Nat.ble args.length F.ntmps) "arguments" <|
      W M E C Y L ⟨f, h.length, none⟩ body ⟨F.ntmps, numbered 0 args, .undef, h, []⟩ fun e st => match e with
        | .exit _ => M.fail "exit"
        | _ => finish M E (frz f) ⟨f, h.length, none⟩ F.results.toList st Q
    | none => M.fail "no body"
  | none => M.fail "no function"
def setLoop (h : List O) (b : Nat) (s : LoopState) (p : Option Code) (K : List O → R) : R :=
  match getO h b with
  | .loop r => K (setO h b (.loop { r with state := s, pending := p }))
  | _ => M.fail "no record"
def roundFn (L : LoopP R) (b : Nat) (args : List V) (h : List O) (Q : V → List O → R) : R :=
  match getO h b with
  | .loop r =>
    bB M (match Nat.beq r.params.length args.length with | true => allBlt r.nt r.params | false => false) "yield's arguments" <|
    W M E C Y L ⟨r.fn, h.length, some b⟩ r.assign ⟨r.nt, putAll r.params args r.ts, r.df, h, []⟩ fun e st1 => match e, getO st1.h b with
      | .normal, .loop r1 => match r1.state with
        | .ready => setLoop M st1.h b .busy r1.pending fun h1 =>
          W M E C Y L ⟨r.fn, h.length, some b⟩ r.body { st1 with h := h1 } fun e st2 => match e with
            | .normal => setLoop M st2.h b .ready none fun h2 => Q (.d (.bool true)) h2
            | .ret => setLoop M st2.h b .done (some .ret) fun h2 => Q (.d (.bool false)) h2
            | .exit id => setLoop M st2.h b .done (some (.exit id)) fun h2 => Q (.d (.bool false)) h2
        | _ => M.fail "record not ready"
      | _, _ => M.fail "assign"
  | _ => M.fail "no record"
end
section
variable {R : Sort u} (M : Mo R) (E : Env) (X : Nat → Option (List V → List O → Option (V × List O))) (frz : Nat → Bool) (k : Nat)
/-- Calls carried out whole, n levels deep, k rounds a loop at most. -/
def evalP : Nat → (CallP R) ×' (YieldP R)
  | 0 => ⟨fun _ _ _ _ => M.fail "depth", fun _ _ _ _ => M.fail "depth"⟩
  | n + 1 => ⟨fun f args h Q => match X f with
      | some x => match x args h with
        | some (v, h') => Q v h'
        | none => M.fail "native"
      | none => enterFn M E (evalP n).1 (evalP n).2 (fun K => K k) frz f args h Q,
    fun b args h Q => roundFn M E (evalP n).1 (evalP n).2 (fun K => K k) b args h Q⟩
end
end Go.Ab
