/-
  The abstract machine once more, its states kept in normal form: what it asks is what the machine asks.
-/
import Derived.Test.YtldpapiaonchaaaGreatDoorZzK
namespace Go.Ab
open Go

/-! ### Forcing -/
def fN : Nat → (Nat → Prop) → Prop
  | 0, K => K 0
  | n + 1, K => K (n + 1)
noncomputable def fL {α : Type} (l : List α) : (List α → Prop) → Prop :=
  List.rec (motive := fun _ => (List α → Prop) → Prop) (fun K => K []) (fun x _ ih K => ih fun l => K (x :: l)) l
noncomputable def fD : D → (D → Prop) → Prop
  | .unk, K => K .unk
  | .undef, K => K .undef
  | .bool b, K => K (.bool b)
  | .int k n, K => K (.int k n)
  | .str s, K => K (.str s)
  | .nil, K => K .nil
  | .emp, K => K .emp
  | .slice n s l, K => K (.slice n s l)
  | .ptr l o, K => K (.ptr l o)
  | .nilptr, K => K .nilptr
  | .nilmap, K => K .nilmap
  | .nilfunc, K => K .nilfunc
  | .niliface, K => K .niliface
  | .func f a c, K => K (.func f a c)
  | .iface t v, K => K (.iface t v)
  | .agg l, K => fL l fun l => K (.agg l)
  | .tuple l, K => fL l fun l => K (.tuple l)
noncomputable def fV : V → (V → Prop) → Prop
  | .d x, K => fD x fun x => K (.d x)
  | .ptr b e o m, K => fN b fun b => K (.ptr b e o m)
  | .slice b e o n s, K => fN b fun b => K (.slice b e o n s)
  | .map b, K => fN b fun b => K (.map b)
  | .iter b, K => fN b fun b => K (.iter b)
  | .func f a c, K => fL a fun a => fL c fun c => K (.func f a c)
  | .yield b, K => fN b fun b => K (.yield b)
  | .iface t v, K => K (.iface t v)
  | .agg l, K => fL l fun l => K (.agg l)
  | .tuple l, K => fL l fun l => K (.tuple l)
noncomputable def fVs (l : List V) : (List V → Prop) → Prop :=
  List.rec (motive := fun _ => (List V → Prop) → Prop) (fun K => K []) (fun v _ ih K => fV v fun v => ih fun l => K (v :: l)) l
noncomputable def fTs (l : List (Nat × V)) : (List (Nat × V) → Prop) → Prop :=
  List.rec (motive := fun _ => (List (Nat × V) → Prop) → Prop) (fun K => K []) (fun p _ ih K => match p with | (t, v) => fV v fun v => ih fun l => K ((t, v) :: l)) l
noncomputable def fC : Cells → (Cells → Prop) → Prop
  | .ds l, K => K (.ds l)
  | .vs l, K => fVs l fun l => K (.vs l)
  | .mx p t, K => fVs p fun p => K (.mx p t)
noncomputable def fNs (l : List Nat) : (List Nat → Prop) → Prop :=
  List.rec (motive := fun _ => (List Nat → Prop) → Prop) (fun K => K []) (fun n _ ih K => fN n fun n => ih fun l => K (n :: l)) l
noncomputable def fO : O → (O → Prop) → Prop
  | .row c a b s, K => fC c fun c => K (.row c a b s)
  | .map ks vs, K => fC vs fun vs => K (.map ks vs)
  | .iter s p, K => K (.iter s p)
  | .loop ⟨s, p, f, nt, ts, df, ps, a, b, d⟩, K => fTs ts fun ts => fN d fun d => K (.loop ⟨s, p, f, nt, ts, df, ps, a, b, d⟩)
  | .dfr, K => K .dfr
  | .gone, K => K .gone
noncomputable def fH (l : List O) : (List O → Prop) → Prop :=
  List.rec (motive := fun _ => (List O → Prop) → Prop) (fun K => K []) (fun o _ ih K => fO o fun o => ih fun l => K (o :: l)) l
theorem fN_eq (n : Nat) (K : Nat → Prop) : fN n K = K n := by cases n <;> rfl
theorem fL_eq {α : Type} : ∀ (l : List α) (K : List α → Prop), fL l K = K l
  | [], _ => rfl
  | x :: l, K => by show fL l (fun l => K (x :: l)) = _; rw [fL_eq l]
theorem fD_eq (d : D) (K : D → Prop) : fD d K = K d := by cases d <;> first | rfl | exact fL_eq _ _
theorem fV_eq (v : V) (K : V → Prop) : fV v K = K v := by
  cases v <;> simp only [fV, fD_eq, fN_eq, fL_eq]
theorem fVs_eq : ∀ (l : List V) (K : List V → Prop), fVs l K = K l
  | [], _ => rfl
  | x :: l, K => by show (fV x fun v => fVs l fun l => K (v :: l)) = _; rw [fV_eq, fVs_eq l]
theorem fTs_eq : ∀ (l : List (Nat × V)) (K : List (Nat × V) → Prop), fTs l K = K l
  | [], _ => rfl
  | (t, v) :: l, K => by show (fV v fun v => fTs l fun l => K ((t, v) :: l)) = _; rw [fV_eq, fTs_eq l]
theorem fC_eq (c : Cells) (K : Cells → Prop) : fC c K = K c := by cases c <;> simp only [fC, fVs_eq]
theorem fNs_eq : ∀ (l : List Nat) (K : List Nat → Prop), fNs l K = K l
  | [], _ => rfl
  | x :: l, K => by show (fN x fun v => fNs l fun l => K (v :: l)) = _; rw [fN_eq, fNs_eq l]
theorem fO_eq (o : O) (K : O → Prop) : fO o K = K o := by
  cases o <;> simp only [fO, fC_eq, fVs_eq, fTs_eq, fN_eq]
theorem fH_eq : ∀ (l : List O) (K : List O → Prop), fH l K = K l
  | [], _ => rfl
  | x :: l, K => by show (fO x fun v => fH l fun l => K (v :: l)) = _; rw [fO_eq, fH_eq l]

section
variable (E : Env) (C : CallP Prop) (Y : YieldP Prop)
noncomputable def putU (dst : Option Nat) (v : V) : S → (S → Prop) → Prop
  | ⟨nt, ts, df, h, mks⟩, K => match dst with
    | some t => K ⟨nt, (t, v) :: ts, df, h, mks⟩
    | none => K ⟨nt, ts, df, h, mks⟩
noncomputable def calmS (o : Oper) (st : S) (K : S → V → Prop) : Prop :=
  match st with
  | ⟨nt, ts, df, h, mks⟩ => bB MP (S.fits ⟨nt, ts, df, h, mks⟩ o.dst) "slot" <| match cls E o.op with
    | .quiet => quietK E (opd E df ts) o.op fun v => fV v fun v => putU o.dst v ⟨nt, ts, df, h, mks⟩ fun st => K st v
    | .read => readK E (opd E df ts) h o.op fun v => fV v fun v => putU o.dst v ⟨nt, ts, df, h, mks⟩ fun st => K st v
    | .alloc => allocK E (opd E df ts) o.op fun p => fO p.1 fun ob => fL (h ++ [ob]) fun h' => fV (p.2 h.length) fun v => putU o.dst v ⟨nt, ts, df, h', mks⟩ fun st => K st v
    | _ => False
/-- The call of a declared function. -/
noncomputable def callFS (f : Nat) (args : List V) (h : List O) (K : V → List O → List Nat → Prop) : Prop :=
  match namesVs args with
  | [] => C f args [] fun v h2 => fV (renV (fun i => h.length + i) v) fun v => fH (h ++ h2.map (renO fun i => h.length + i)) fun h => K v h []
  | _ :: _ =>
    fNs (reachAll h (namesVs args)) fun σ =>
    bB MP (match allIn σ (namesVs args) with | true => closedIn h σ σ | false => false) "reach" <|
    fVs (renVs (posN σ) args) fun args => fH (subHeap h (posN σ) σ) fun h1 =>
      C f args h1 fun v h2 => bB MP (Nat.ble σ.length h2.length) "blocks lost" <|
        fV (renV (unren σ σ.length h.length) v) fun v => fH (mergeO (unren σ σ.length h.length) h σ h2) fun h => K v h σ
noncomputable def callVS (g : V) (args : List V) (h : List O) (K : V → List O → List Nat → Prop) : Prop :=
  match g with
  | .d (.func f a c) => callFS C f (a.map .d ++ args ++ c.map .d) h K
  | .func f a c => callFS C f (a ++ args ++ c) h K
  | .yield b => Y b args h fun v h2 => bB MP (Nat.ble h.length h2.length) "blocks lost" <| fV v fun v => fH h2 fun h2 => K v h2 (List.range h.length)
  | _ => False
noncomputable def callGS (g : V) (args : List V) (h : List O) (K : V → List O → List Nat → Prop) : Prop :=
  match g with
  | .d (.func f a c) => callFS C f (a.map .d ++ args ++ c.map .d) h K
  | .func f a c => callFS C f (a ++ args ++ c) h K
  | _ => False
noncomputable def loudS (o : Oper) (st : S) (K : S → List Nat → Prop) : Prop :=
  match st with
  | ⟨nt, ts, df, h, mks⟩ => bB MP (S.fits ⟨nt, ts, df, h, mks⟩ o.dst) "slot" <| match cls E o.op with
    | .effect => effectK E (opd E df ts) h o.op fun v h' bs => fV v fun v => fL h' fun h' => putU o.dst v ⟨nt, ts, df, h', mks⟩ fun st => K st bs
    | .call => match o.op with
      | .call c => match c.callee with
        | .value g => fVs (c.args.toList.map (opd E df ts)) fun args => callVS C Y (opd E df ts g) args h fun v h2 σ => putU o.dst v ⟨nt, ts, df, h2, mks⟩ fun st => K st σ
        | _ => False
      | _ => False
    | _ => False
noncomputable def guardS (ops : Array Oper) (o : Oper) (st : S) (Kt Kf : Prop) : Prop :=
  match o.guard with
  | none => Kt
  | some (j, want) => match dstOf ops j with
    | some t => match getT st.df st.ts t with
      | .d (.bool b) => match want with
        | true => match b with | true => Kt | false => Kf
        | false => match b with | true => Kf | false => Kt
      | .d .undef => Kf
      | _ => False
    | none => False
noncomputable def skipS (o : Oper) (st : S) (K : S → Prop) : Prop := match st with
  | ⟨nt, ts, df, h, mks⟩ => bB MP (S.fits ⟨nt, ts, df, h, mks⟩ o.dst) "slot" (putU o.dst (.d .undef) ⟨nt, ts, df, h, mks⟩ K)
noncomputable def opsC (ops : Array Oper) (o : Oper) (_ : List Oper) (ih : S → (S → Prop) → Prop) (st : S) (K : S → Prop) : Prop :=
  guardS ops o st
    (match isLoud E o.op with
      | true => loudS E C Y o st fun st' _ => ih st' K
      | false => calmS E o st fun st' _ => ih st' K)
    (skipS o st fun st' => ih st' K)
def opsN (st : S) (K : S → Prop) : Prop := K st
noncomputable def opsS (ops : Array Oper) (l : List Oper) : S → (S → Prop) → Prop :=
  List.rec (motive := fun _ => S → (S → Prop) → Prop) opsN (opsC E C Y ops) l
/-! ### Regions that draw their order -/
noncomputable def recK (o : Oper) (i : Nat) (st : S) (v : V) (recs : List Rec) (K : List Rec → Prop) : Prop :=
  match cls E o.op with
  | .read => fNs (addrOf (opd E st.df st.ts) o.op) fun bs => K (⟨i, bs, fun h => readV E (opd E st.df st.ts) h o.op, v⟩ :: recs)
  | .alloc => fN st.h.length fun n => K (⟨i, [n], fun _ => none, v⟩ :: recs)
  | _ => K recs
noncomputable def promisedS (h : List O) (before : Nat) (touched : List Nat) (l : List Rec) : Prop → Prop :=
  List.rec (motive := fun _ => Prop → Prop) (fun K => K) (fun r _ ih K => match r with
    | ⟨i, bs, again, was⟩ => match isDone i before with
      | true => ih K
      | false => match apartN bs touched with
        | true => ih K
        | false => chkP (again h) was (ih K)) l
noncomputable def satC (ops : Array Oper) (x : Item') (_ : List Item') (ih : Nat → List Rec → S → (Nat → List Rec → S → Prop) → Prop) (done : Nat) (recs : List Rec) (st : S) (K : Nat → List Rec → S → Prop) : Prop :=
  match isDone x.i done with
  | true => ih done recs st K
  | false => match hasAll x.pre done with
    | false => ih done recs st K
    | true => match isLoud E x.o.op with
      | true => ih done recs st K
      | false => guardS ops x.o st
        (calmS E x.o st fun st' v => recK E x.o x.i st v recs fun recs => fN (Nat.lor (2 ^ x.i) done) fun done => ih done recs st' K)
        (skipS x.o st fun st' => fN (Nat.lor (2 ^ x.i) done) fun done => ih done recs st' K)
def satN (done : Nat) (recs : List Rec) (st : S) (K : Nat → List Rec → S → Prop) : Prop := K done recs st
noncomputable def satS (ops : Array Oper) (l : List Item') : Nat → List Rec → S → (Nat → List Rec → S → Prop) → Prop :=
  List.rec (motive := fun _ => Nat → List Rec → S → (Nat → List Rec → S → Prop) → Prop) satN (satC E ops) l
noncomputable def anyC (ops : Array Oper) (items : List Item') (full : Nat) (_ : Nat) (ih : Nat → List Rec → S → (S → Prop) → Prop) (done : Nat) (recs : List Rec) (st : S) (K : S → Prop) : Prop :=
  satS E ops items done recs st fun done recs st => match readyL items done with
    | [] => bB MP (Nat.beq done full) "region's end" (K st)
    | [x] => guardS ops x.o st
        (loudS E C Y x.o st fun st' touched => promisedS st'.h x.all touched recs (fN (Nat.lor (2 ^ x.i) done) fun done => ih done recs st' K))
        (skipS x.o st fun st' => fN (Nat.lor (2 ^ x.i) done) fun done => ih done recs st' K)
    | _ :: _ :: _ => False
def anyN (_ : Nat) (_ : List Rec) (_ : S) (_ : S → Prop) : Prop := False
noncomputable def anyS (ops : Array Oper) (items : List Item') (full : Nat) (n : Nat) : Nat → List Rec → S → (S → Prop) → Prop :=
  Nat.rec (motive := fun _ => Nat → List Rec → S → (S → Prop) → Prop) anyN (anyC E C Y ops items full) n
def itC (x : Item') (_ : List Item') (ih : (List Item' → Prop) → Prop) (K : List Item' → Prop) : Prop := match x with
  | ⟨i, o, pre, all⟩ => fN i fun i => fN pre fun pre => fN all fun all => ih fun l => K (⟨i, o, pre, all⟩ :: l)
def itN (K : List Item' → Prop) : Prop := K []
noncomputable def fIt (l : List Item') : (List Item' → Prop) → Prop := List.rec (motive := fun _ => (List Item' → Prop) → Prop) itN itC l
theorem fIt_eq : ∀ (l : List Item') (K : List Item' → Prop), fIt l K = K l
  | [], _ => rfl
  | ⟨i, o, pre, all⟩ :: l, K => by
    show (fN i fun i => fN pre fun pre => fN all fun all => fIt l fun l => K (⟨i, o, pre, all⟩ :: l)) = _
    rw [fN_eq, fN_eq, fN_eq, fIt_eq l]
/-! ### Code -/
noncomputable def checkpointS (m : Nat) (slots : List Nat) (st : S) (K : S → Prop) : Prop :=
  match st with
  | ⟨nt, ts, df, h, mks⟩ =>
    fTs (keepT df ts slots) fun ts =>
    fNs (reachOn h m (mks ++ namesTs ts)) fun σ =>
    bB MP (match allIn σ (mks ++ namesTs ts) with | true => closedIn h σ σ | false => false) "reach" <|
    fTs (renTs (posN σ) ts) fun ts => fH (subHeap h (posN σ) σ) fun h => fNs (mks.map (posN σ)) fun mks => K ⟨nt, ts, .unk, h, mks⟩
noncomputable def mayS (m : Nat) : Option (List Nat) → S → (S → Prop) → Prop
  | none, st, K => K st
  | some slots, st, K => checkpointS m slots st K
/-- Rounds: k more at most; st stands behind the checkpoint. -/
def hdC (m : Nat) (sl : Option (List Nat)) (body : S → (Ex → S → Prop) → Prop) (may : Nat → Option (List Nat) → S → (S → Prop) → Prop) (_ : Nat) (ih : S → (Ex → S → Prop) → Prop) (st : S) (Q : Ex → S → Prop) : Prop :=
  body st fun e st' => match e with
    | .normal => may m sl st' fun st' => ih st' Q
    | e => may m sl st' fun st' => Q e st'
def hdN (_ : S) (_ : Ex → S → Prop) : Prop := False
noncomputable def hd (m : Nat) (sl : Option (List Nat)) (body : S → (Ex → S → Prop) → Prop) (k : Nat) : S → (Ex → S → Prop) → Prop :=
  Nat.rec (motive := fun _ => S → (Ex → S → Prop) → Prop) hdN (hdC m sl body mayS) k
/-- Some number of rounds is enough. -/
inductive Loops (body : Nat → Prop) : Prop where
  | mk (k : Nat) (h : body k) : Loops body
/-- How rounds are counted in proofs. -/
def LP : LoopP Prop := fun K => ∃ k, K k
/-- Behind a range over a function. -/
noncomputable def behindS (nt : Nat) (ts : List (Nat × V)) (df : D) (mks : List Nat) (bn : Nat) (Q : Ex → S → Prop) (h3 : List O) : Prop :=
  match getO h3 bn with
  | .loop ⟨s, p, _, _, _, _, _, _, _, _⟩ => match s with
    | .busy => False
    | _ => fL (setO h3 bn .gone) fun h4 => match p with
      | none => Q .normal ⟨nt, ts, df, h4, mks⟩
      | some .ret => Q .ret ⟨nt, ts, df, h4, mks⟩
      | some (.exit id) => Q (.exit id) ⟨nt, ts, df, h4, mks⟩
      | _ => False
  | _ => False
noncomputable def rangeS (fr : Fr) (g : Operand) (ps : Array Tmp) (a b : Code) (st : S) (Q : Ex → S → Prop) : Prop :=
  match fr.rnd with
  | none => match st with
    | ⟨nt, ts, df, h, mks⟩ => fTs (loopTs E fr.f (firstReg b) df ts) fun lts => fN h.length fun dn => fL (h ++ [.dfr]) fun h1 => fN h1.length fun bn =>
      fL (h1 ++ [.loop ⟨.ready, none, fr.f, nt, lts, loopDf E fr.f (firstReg b) df, ps.toList, a, b, dn⟩]) fun hh =>
      callGS C (opd E df ts g) [.yield bn] hh fun _ h3 _ => behindS nt ts df (dn :: mks) bn Q h3
  | some _ => W MP E C Y LP fr (.rangeFunc g ps a b) st Q
def wSkip (st : S) (Q : Ex → S → Prop) : Prop := Q .normal st
noncomputable def wRegion (_ : Nat) (ops : Array Oper) (draw : Bool) (st : S) (Q : Ex → S → Prop) : Prop := match draw with
  | false => opsS E C Y ops ops.toList st fun st => Q .normal st
  | true => fIt (itemsOf ops.toList 0 []) fun items => anyS E C Y ops items (2 ^ ops.size - 1) (ops.size + 1) 0 [] st fun st => Q .normal st
def wSeq (_ _ : Code) (iha ihb : S → (Ex → S → Prop) → Prop) (st : S) (Q : Ex → S → Prop) : Prop := iha st fun e st' => match e with
  | .normal => ihb st' Q
  | e => Q e st'
def wCond (c : Operand) (_ _ : Code) (iha ihb : S → (Ex → S → Prop) → Prop) (st : S) (Q : Ex → S → Prop) : Prop := match opd E st.df st.ts c with
  | .d (.bool t) => match t with
    | true => iha st Q
    | false => ihb st Q
  | _ => False
def wBlock (id : Nat) (_ : Code) (ih : S → (Ex → S → Prop) → Prop) (st : S) (Q : Ex → S → Prop) : Prop := ih st fun e st' => match e with
  | .exit i => match Nat.beq i id with
    | true => Q .normal st'
    | false => Q (.exit i) st'
  | e => Q e st'
noncomputable def wLoop (fr : Fr) (b : Code) (ih : S → (Ex → S → Prop) → Prop) (st : S) (Q : Ex → S → Prop) : Prop :=
  mayS fr.m (E.keep fr.f (firstReg b)) st fun st => Loops fun n => hd fr.m (E.keep fr.f (firstReg b)) ih n st Q
noncomputable def wRange (fr : Fr) (g : Operand) (ps : Array Tmp) (a b : Code) (_ _ : S → (Ex → S → Prop) → Prop) (st : S) (Q : Ex → S → Prop) : Prop := rangeS E C Y fr g ps a b st Q
def wExit (id : Nat) (st : S) (Q : Ex → S → Prop) : Prop := Q (.exit id) st
def wScope (_ : Code) (ih : S → (Ex → S → Prop) → Prop) (st : S) (Q : Ex → S → Prop) : Prop := ih st Q
def wLabel (_ : Nat) (st : S) (Q : Ex → S → Prop) : Prop := Q .normal st
def wGoto (_ : Nat) (_ : S) (_ : Ex → S → Prop) : Prop := False
def wRet (st : S) (Q : Ex → S → Prop) : Prop := Q .ret st
def wRefuse (_ : String) (_ : S) (_ : Ex → S → Prop) : Prop := False
noncomputable def WS (fr : Fr) (c : Code) : S → (Ex → S → Prop) → Prop :=
  Code.rec (motive := fun _ => S → (Ex → S → Prop) → Prop) wSkip (wRegion E C Y) wSeq (wCond E) wBlock (wLoop E fr) (wRange E C Y fr) wExit wScope wLabel wGoto wRet wRefuse c
end
def regsOk : Code → Bool
  | .region _ ops draw => match draw with | true => regOk ops | false => true
  | .seq a b => andB (regsOk a) (regsOk b)
  | .cond _ a b => andB (regsOk a) (regsOk b)
  | .block _ b => regsOk b
  | .loop b => regsOk b
  | .scope b => regsOk b
  | .rangeFunc _ _ a b => andB (regsOk a) (regsOk b)
  | _ => true
/-! ### It asks what the machine asks -/
section
variable {E : Env} {C : CallP Prop} {Y : YieldP Prop}
theorem putU_eq (dst : Option Nat) (v : V) (st : S) (K : S → Prop) : putU dst v st K = K (st.put dst v) := by cases st; cases dst <;> rfl
theorem calmS_eq (o : Oper) (st : S) (K : S → V → Prop) : calmS E o st K = calm MP E o st K := by
  cases st
  unfold calmS calm
  cases hc : cls E o.op <;> simp only [fV_eq, fO_eq, fL_eq, putU_eq, quietK_eq, readK_eq, allocK_eq] <;> rfl
theorem callFS_eq (f : Nat) (args : List V) (h : List O) (K : V → List O → List Nat → Prop) : callFS C f args h K = callF MP C f args h K := by
  unfold callFS callF
  cases hns : namesVs args with
  | nil => simp only [fV_eq, fH_eq]
  | cons a l => simp only [fNs_eq, fVs_eq, fH_eq, fV_eq]; rfl
theorem callVS_eq (g : V) (args : List V) (h : List O) (K : V → List O → List Nat → Prop) : callVS C Y g args h K = callV MP C Y g args h K := by
  unfold callVS callV
  cases g with
  | d x => cases x <;> simp only [callFS_eq] <;> rfl
  | func f a c => exact callFS_eq ..
  | yield b => simp only [fV_eq, fH_eq]
  | _ => rfl
theorem callGS_eq (g : V) (args : List V) (h : List O) (K : V → List O → List Nat → Prop) : callGS C g args h K = callG MP C g args h K := by
  unfold callGS callG
  cases g with
  | d x => cases x <;> simp only [callFS_eq] <;> rfl
  | func f a c => exact callFS_eq ..
  | _ => rfl
theorem loudS_eq (o : Oper) (st : S) (K : S → List Nat → Prop) : loudS E C Y o st K = loud MP E C Y o st K := by
  cases st
  unfold loudS loud
  cases hc : cls E o.op with
  | effect => simp only [fV_eq, fL_eq, putU_eq, effectK_eq]
  | call =>
    cases o.op with
    | call c => cases hcc : c.callee <;> simp only [fVs_eq, callVS_eq, putU_eq] <;> rfl
    | _ => rfl
  | _ => rfl
theorem guardS_eq (ops : Array Oper) (o : Oper) (st : S) (K : Bool → Prop) : guardS ops o st (K true) (K false) = guarded MP ops o st K := by
  unfold guardS guarded
  cases hg : o.guard with
  | none => rfl
  | some p =>
    obtain ⟨j, want⟩ := p
    simp only
    cases hd : dstOf ops j with
    | none => rfl
    | some t =>
      simp only
      cases hv : getT st.df st.ts t with
      | d x => cases x with
        | bool b => cases want <;> cases b <;> rfl
        | _ => rfl
      | _ => rfl
theorem skipS_eq (o : Oper) (st : S) (K : S → Prop) : skipS o st K = skipped MP o st K := by
  cases st
  unfold skipS skipped
  simp only [putU_eq]
theorem opsS_eq (ops : Array Oper) : ∀ (l : List Oper) (st : S) (K : S → Prop), opsS E C Y ops l st K = opsIn MP E C Y ops l st K
  | [], _, _ => rfl
  | o :: l, st, K => by
    show guardS ops o st (match isLoud E o.op with | true => loudS E C Y o st fun st' _ => opsS E C Y ops l st' K | false => calmS E o st fun st' _ => opsS E C Y ops l st' K) (skipS o st fun st' => opsS E C Y ops l st' K) = _
    unfold opsIn
    rw [← guardS_eq]
    simp only [loudS_eq, calmS_eq, skipS_eq, opsS_eq ops l]
    rfl
theorem recK_eq (o : Oper) (i : Nat) (st : S) (v : V) (recs : List Rec) (K : List Rec → Prop) : recK E o i st v recs K = K (recOf E o i st v recs) := by
  unfold recK recOf
  cases cls E o.op <;> simp only [fNs_eq, fN_eq] <;> rfl
theorem promisedS_eq (h : List O) (before : Nat) (touched : List Nat) : ∀ (l : List Rec) (K : Prop), promisedS h before touched l K = promised MP h before touched l K
  | [], _ => rfl
  | ⟨i, bs, again, was⟩ :: l, K => by
    show (match isDone i before with | true => promisedS h before touched l K | false => match apartN bs touched with | true => promisedS h before touched l K | false => chkP (again h) was (promisedS h before touched l K)) = _
    unfold promised
    simp only [promisedS_eq h before touched l]
    cases isDone i before <;> cases apartN bs touched <;> rfl
theorem satS_eq (ops : Array Oper) : ∀ (l : List Item') (done : Nat) (recs : List Rec) (st : S) (K : Nat → List Rec → S → Prop), satS E ops l done recs st K = sat MP E ops l done recs st K
  | [], _, _, _, _ => rfl
  | x :: l, done, recs, st, K => by
    show (match isDone x.i done with
      | true => satS E ops l done recs st K
      | false => match hasAll x.pre done with
        | false => satS E ops l done recs st K
        | true => match isLoud E x.o.op with
          | true => satS E ops l done recs st K
          | false => guardS ops x.o st
            (calmS E x.o st fun st' v => recK E x.o x.i st v recs fun recs => fN (Nat.lor (2 ^ x.i) done) fun done => satS E ops l done recs st' K)
            (skipS x.o st fun st' => fN (Nat.lor (2 ^ x.i) done) fun done => satS E ops l done recs st' K)) = _
    unfold sat
    cases isDone x.i done <;> cases hasAll x.pre done <;> simp only [satS_eq ops l]
    cases isLoud E x.o.op <;> simp only
    rw [← guardS_eq]
    simp only [calmS_eq, skipS_eq, recK_eq, fN_eq]
theorem anyS_eq (ops : Array Oper) (items : List Item') (full : Nat) : ∀ (n done : Nat) (recs : List Rec) (st : S) (K : S → Prop), anyS E C Y ops items full n done recs st K = anyIn MP E C Y ops items full n done recs st K
  | 0, _, _, _, _ => rfl
  | n + 1, done, recs, st, K => by
    show (satS E ops items done recs st fun done recs st => match readyL items done with
      | [] => bB MP (Nat.beq done full) "region's end" (K st)
      | [x] => guardS ops x.o st
          (loudS E C Y x.o st fun st' touched => promisedS st'.h x.all touched recs (fN (Nat.lor (2 ^ x.i) done) fun done => anyS E C Y ops items full n done recs st' K))
          (skipS x.o st fun st' => fN (Nat.lor (2 ^ x.i) done) fun done => anyS E C Y ops items full n done recs st' K)
      | _ :: _ :: _ => False) = _
    unfold anyIn
    rw [satS_eq]
    congr 1
    funext done recs st
    cases hr : readyL items done with
    | nil => rfl
    | cons x l => cases l with
      | nil =>
        simp only
        rw [← guardS_eq]
        simp only [loudS_eq, skipS_eq, fN_eq, promisedS_eq, anyS_eq ops items full n]
      | cons y l => rfl
theorem checkpointS_eq {fr : Fr} (slots : List Nat) (st : S) (K : S → Prop) : checkpointS fr.m slots st K = checkpoint MP fr slots st K := by
  cases st
  unfold checkpointS checkpoint
  simp only [fTs_eq, fNs_eq, fH_eq]
  rfl
theorem mayS_eq {fr : Fr} (key : Nat) (st : S) (K : S → Prop) : mayS fr.m (E.keep fr.f key) st K = mayCheck MP E fr key st K := by
  unfold mayS mayCheck
  cases E.keep fr.f key with
  | none => rfl
  | some slots => exact checkpointS_eq slots st K
/-- A checkpoint hands on one state or fails. -/
theorem mayS_one (m : Nat) (sl : Option (List Nat)) (st : S) : (∀ K, mayS m sl st K = False) ∨ ∃ st', ∀ K, mayS m sl st K = K st' := by
  cases sl with
  | none => exact .inr ⟨st, fun _ => rfl⟩
  | some slots =>
    cases st
    simp only [mayS, checkpointS, fTs_eq, fNs_eq, fH_eq]
    generalize (match allIn _ _ with | true => closedIn _ _ _ | false => false) = b
    cases b with
    | false => exact .inl fun _ => rfl
    | true => exact .inr ⟨_, fun _ => rfl⟩
theorem hd_iter {fr : Fr} {key : Nat} {body body' : S → (Ex → S → Prop) → Prop} (hb : ∀ st Q, body st Q = body' st Q) : ∀ (n : Nat) (st : S) (Q : Ex → S → Prop),
    iter MP (mayCheck MP E fr key) body' n st Q = mayS fr.m (E.keep fr.f key) st fun st => hd fr.m (E.keep fr.f key) body n st Q
  | 0, st, Q => by
    unfold iter
    rcases mayS_one fr.m (E.keep fr.f key) st with h | ⟨st', h⟩
    · rw [h]; rfl
    · rw [h]; rfl
  | n + 1, st, Q => by
    unfold iter
    show _ = mayS fr.m (E.keep fr.f key) st fun st => body st fun e st' => match e with
      | .normal => mayS fr.m (E.keep fr.f key) st' fun st' => hd fr.m (E.keep fr.f key) body n st' Q
      | e => mayS fr.m (E.keep fr.f key) st' fun st' => Q e st'
    rw [← mayS_eq]
    congr 1
    funext st
    rw [hb]
    congr 1
    funext e st'
    cases e with
    | normal => exact hd_iter hb n st' Q
    | exit id => exact (mayS_eq ..).symm
    | ret => exact (mayS_eq ..).symm
theorem loops_eq {fr : Fr} {key : Nat} {body body' : S → (Ex → S → Prop) → Prop} (hb : ∀ st Q, body st Q = body' st Q) (st : S) (Q : Ex → S → Prop) :
    LP (fun n => iter MP (mayCheck MP E fr key) body' n st Q) = mayS fr.m (E.keep fr.f key) st fun st => Loops fun n => hd fr.m (E.keep fr.f key) body n st Q := by
  unfold LP
  rcases mayS_one fr.m (E.keep fr.f key) st with h | ⟨st', h⟩
  · rw [h]
    refine propext ⟨fun ⟨k, hk⟩ => ?_, fun hk => hk.elim⟩
    have hk : iter MP (mayCheck MP E fr key) body' k st Q := hk
    rw [hd_iter hb, h] at hk; exact hk
  · rw [h]
    refine propext ⟨fun ⟨k, hk⟩ => ?_, fun ⟨k, hk⟩ => ⟨k, ?_⟩⟩
    · have hk : iter MP (mayCheck MP E fr key) body' k st Q := hk
      rw [hd_iter hb, h] at hk; exact ⟨k, hk⟩
    · show iter MP (mayCheck MP E fr key) body' k st Q
      rw [hd_iter hb, h]; exact hk
theorem rangeS_eq (fr : Fr) (g : Operand) (ps : Array Tmp) (a b : Code) (st : S) (Q : Ex → S → Prop) : rangeS E C Y fr g ps a b st Q = W MP E C Y LP fr (.rangeFunc g ps a b) st Q := by
  unfold rangeS
  cases hr : fr.rnd with
  | some l => rfl
  | none =>
    cases st with | mk nt ts df h mks =>
    simp only [W, hr, fTs_eq, fN_eq, fL_eq, callGS_eq]
    refine congrArg (callG MP C _ _ _) (funext fun v => funext fun h3 => funext fun σ => ?_)
    unfold behindS
    cases hb : getO h3 (h ++ [O.dfr]).length with
    | loop r =>
      obtain ⟨s, p, f, n, lts, d, ps', a', b', dn⟩ := r
      simp only [fL_eq]
      cases s <;> first | rfl | (cases p with
        | none => rfl
        | some c => cases c <;> rfl)
    | _ => rfl
theorem WS_eq (fr : Fr) : ∀ (c : Code), regsOk c = true → ∀ (st : S) (Q : Ex → S → Prop), WS E C Y fr c st Q = W MP E C Y LP fr c st Q := by
  intro c
  induction c with
  | region id ops draw =>
    intro hr st Q
    cases draw with
    | false =>
      show (opsS E C Y ops ops.toList st fun st => Q .normal st) = _
      simp only [W, opsS_eq]
    | true =>
      have hr : regOk ops = true := hr
      show (fIt (itemsOf ops.toList 0 []) fun items => anyS E C Y ops items (2 ^ ops.size - 1) (ops.size + 1) 0 [] st fun st => Q .normal st) = _
      simp only [W, fIt_eq, anyS_eq, hr, bB]
  | seq a b iha ihb =>
    intro hr st Q
    obtain ⟨h1, h2⟩ := andB_true hr
    show (WS E C Y fr a st fun e st' => match e with | .normal => WS E C Y fr b st' Q | e => Q e st') = _
    simp only [W, iha h1, ihb h2]
    refine congrArg (W MP E C Y LP fr _ st) (funext fun e => funext fun st' => ?_)
    cases e <;> rfl
  | cond c a b iha ihb =>
    intro hr st Q
    obtain ⟨h1, h2⟩ := andB_true hr
    show (match opd E st.df st.ts c with | .d (.bool t) => (match t with | true => WS E C Y fr a st Q | false => WS E C Y fr b st Q) | _ => False) = _
    simp only [W, iha h1, ihb h2]
    cases opd E st.df st.ts c with
    | d x => cases x with
      | bool t => cases t <;> rfl
      | _ => rfl
    | _ => rfl
  | block id b ih =>
    intro hr st Q
    show (WS E C Y fr b st fun e st' => match e with | .exit i => (match Nat.beq i id with | true => Q .normal st' | false => Q (.exit i) st') | e => Q e st') = _
    have ih := ih hr
    simp only [W, ih]
    refine congrArg (W MP E C Y LP fr _ st) (funext fun e => funext fun st' => ?_)
    cases e <;> rfl
  | loop b ih =>
    intro hr st Q
    show (mayS fr.m (E.keep fr.f (firstReg b)) st fun st => Loops fun n => hd fr.m (E.keep fr.f (firstReg b)) (WS E C Y fr b) n st Q) = _
    simp only [W]
    exact (loops_eq (fun st Q => ih hr st Q) st Q).symm
  | rangeFunc g ps a b _ _ => intro hr st Q; exact rangeS_eq ..
  | scope b ih => intro hr st Q; show WS E C Y fr b st Q = _; simp only [W]; exact ih hr st Q
  | _ => intros; rfl
/-! ### What is handed back -/
mutual
def frzK (h : List O) (m : Nat) (F : Prop) : Nat → V → (D → Prop) → Prop
  | 0, v, K => match frzV h m 0 v with | some x => K x | none => F
  | k + 1, v, K => match v with
    | .d x => K x
    | .slice b e off n sz => match Nat.ble m b with
      | true => match getO h b with
        | .row c cur fl cons => match may e off (n * sz) cur fl cons with
          | true => match c with
            | .ds l => match Nat.ble (off + n * sz) l.length with
              | true => K (.slice n sz ((l.drop off).take (n * sz)))
              | false => F
            | .vs _ => match frzV h m (k + 1) (.slice b e off n sz) with | some x => K x | none => F
            | .mx _ _ => match frzV h m (k + 1) (.slice b e off n sz) with | some x => K x | none => F
          | false => F
        | _ => F
      | false => F
    | .tuple cs => frzsK h m F k cs fun ds => K (.tuple ds)
    | .agg cs => frzsK h m F k cs fun ds => K (.agg ds)
    | v => match frzV h m (k + 1) v with | some x => K x | none => F
def frzsK (h : List O) (m : Nat) (F : Prop) : Nat → List V → (List D → Prop) → Prop
  | _, [], K => K []
  | 0, _ :: _, _ => F
  | k + 1, v :: l, K => frzK h m F k v fun x => frzsK h m F k l fun r => K (x :: r)
end
def lastK {α : Type} (F : Prop) (K : α → Prop) : Option α → Prop
  | some x => K x
  | none => F
mutual
theorem frzK_eq (h : List O) (m : Nat) (F : Prop) : ∀ (k : Nat) (v : V) (K : D → Prop), frzK h m F k v K = lastK F K (frzV h m k v)
  | 0, v, K => by
    simp only [frzK]
    cases frzV h m 0 v <;> rfl
  | k + 1, v, K => by
    cases v with
    | d x => simp only [frzK, frzV]; rfl
    | slice b e off n sz =>
      simp only [frzK]
      unfold frzV
      cases Nat.ble m b with
      | false => rfl
      | true => cases getO h b with
        | row c cur fl cons =>
          simp only
          cases may e off (n * sz) cur fl cons with
          | false => rfl
          | true => cases c with
            | ds l => simp only [rd]; cases Nat.ble (off + n * sz) l.length <;> rfl
            | vs _ => simp only; (repeat' split) <;> simp_all [lastK]
            | mx _ _ => simp only; (repeat' split) <;> simp_all [lastK]
        | _ => rfl
    | tuple cs =>
      simp only [frzK, frzsK_eq h m F k cs]
      unfold frzV
      cases frzVs h m k cs <;> rfl
    | agg cs =>
      simp only [frzK, frzsK_eq h m F k cs]
      unfold frzV
      cases frzVs h m k cs <;> rfl
    | _ =>
      simp only [frzK]
      split <;> rename_i hh <;> rw [hh] <;> rfl
theorem frzsK_eq (h : List O) (m : Nat) (F : Prop) : ∀ (k : Nat) (l : List V) (K : List D → Prop), frzsK h m F k l K = lastK F K (frzVs h m k l)
  | k, [], K => by cases k <;> simp [frzsK, frzVs, lastK]
  | 0, _ :: _, K => by simp [frzsK, frzVs, lastK]
  | k + 1, v :: l, K => by
    simp only [frzsK, frzK_eq h m F k v, frzsK_eq h m F k l]
    have e : frzVs h m (k + 1) (v :: l) = match frzV h m k v, frzVs h m k l with | some x, some r => some (x :: r) | _, _ => none := by rw [frzVs]; rfl
    rw [e]
    cases frzV h m k v with
    | none => rfl
    | some x => simp only [lastK]; cases frzVs h m k l <;> rfl
end
noncomputable def resK (E : Env) (st : S) (r : ResultVar) (K : V → Prop) : Prop := match r with
  | .tmp t => K (getT st.df st.ts t)
  | .cell a t => loadK E st.h t (getT st.df st.ts a) K
def ressK (E : Env) (st : S) : List ResultVar → (List V → Prop) → Prop
  | [], K => K []
  | r :: l, K => resK E st r fun v => fV v fun v => ressK E st l fun vs => K (v :: vs)
theorem ressK_eq (E : Env) (st : S) : ∀ (l : List ResultVar) (K : List V → Prop), ressK E st l K = oB MP (resultsV E st l) "results" K
  | [], K => rfl
  | r :: l, K => by
    have hr : ∀ K, resK E st r K = oB MP (resultV E st r) "results" K := fun K => by
      cases r with
      | tmp t => rfl
      | cell a t => exact loadK_eq ..
    simp only [ressK, fV_eq, hr, ressK_eq E st l]
    have e : resultsV E st (r :: l) = match resultV E st r, resultsV E st l with | some v, some vs => some (v :: vs) | _, _ => none := by rw [resultsV]; rfl
    rw [e]
    cases resultV E st r with
    | none => rfl
    | some v => simp only [oB_some]; cases resultsV E st l <;> rfl
noncomputable def finishS (E : Env) (frz : Bool) (m : Nat) (rs : List ResultVar) (st : S) (Q : V → List O → Prop) : Prop :=
  match st with
  | ⟨nt, ts, df, h, mks⟩ => oB MP (goneAll h mks) "marks" fun h => ressK E ⟨nt, ts, df, h, mks⟩ rs fun vs => match frz with
    | true => match closedIn h (List.range m) (List.range m) with
      | true => frzK h m (handBack MP m h (outV vs) Q) 60 (outV vs) fun x => fL (h.take m) fun h => Q (.d x) h
      | false => handBack MP m h (outV vs) Q
    | false => handBack MP m h (outV vs) Q
theorem finishS_eq (E : Env) (frz : Bool) (fr : Fr) (rs : List ResultVar) (st : S) (Q : V → List O → Prop) : finishS E frz fr.m rs st Q = finish MP E frz fr rs st Q := by
  cases st with | mk nt ts df h mks =>
  unfold finishS finish
  simp only [ressK_eq]
  cases goneAll h mks with
  | none => rfl
  | some h =>
    simp only [oB_some]
    cases resultsV E ⟨nt, ts, df, h, mks⟩ rs with
    | none => rfl
    | some vs =>
      simp only [oB_some]
      cases frz with
      | false => rfl
      | true =>
        unfold handFrozen
        simp only [frzK_eq, fL_eq]
        cases closedIn h (List.range fr.m) (List.range fr.m) with
        | false => rfl
        | true =>
          simp only
          cases frzV h fr.m 60 (outV vs) <;> rfl
/-- A round, by the record's code in the kept form. -/
noncomputable def loopSetS (h : List O) (b : Nat) (s : LoopState) (p : Option Code) (K : List O → Prop) : Prop :=
  match getO h b with
  | .loop ⟨_, _, f, nt, ts, df, ps, a, bd, d⟩ => fL (setO h b (.loop ⟨s, p, f, nt, ts, df, ps, a, bd, d⟩)) K
  | _ => False
theorem loopSetS_eq (h : List O) (b : Nat) (s : LoopState) (p : Option Code) (K : List O → Prop) : loopSetS h b s p K = setLoop MP h b s p K := by
  unfold loopSetS setLoop
  cases getO h b with
  | loop r => cases r; simp only [fL_eq]
  | _ => rfl
noncomputable def roundS (E : Env) (C : CallP Prop) (Y : YieldP Prop) (b : Nat) (args : List V) (h : List O) (Q : V → List O → Prop) : Prop :=
  match getO h b with
  | .loop ⟨_, _, f, nt, ts, df, ps, a, bd, _⟩ =>
    bB MP (match Nat.beq ps.length args.length with | true => allBlt nt ps | false => false) "yield's arguments" <|
    bB MP (andB (regsOk a) (regsOk bd)) "slots" <|
    fN h.length fun m => fTs (putAll ps args ts) fun ts0 =>
    WS E C Y ⟨f, m, some b⟩ a ⟨nt, ts0, df, h, []⟩ fun e st1 => match e, getO st1.h b with
      | .normal, .loop ⟨s, p, _, _, _, _, _, _, _, _⟩ => match s with
        | .ready => match st1 with
          | ⟨nt1, ts1, df1, h1, mks1⟩ => loopSetS h1 b .busy p fun h1 =>
            WS E C Y ⟨f, m, some b⟩ bd ⟨nt1, ts1, df1, h1, mks1⟩ fun e st2 => match e with
              | .normal => loopSetS st2.h b .ready none fun h2 => Q (.d (.bool true)) h2
              | .ret => loopSetS st2.h b .done (some .ret) fun h2 => Q (.d (.bool false)) h2
              | .exit id => loopSetS st2.h b .done (some (.exit id)) fun h2 => Q (.d (.bool false)) h2
        | _ => False
      | _, _ => False
  | _ => False
theorem bB_in {x : Bool} {why : String} {K : Prop} (h : x = true) (hK : K) : bB MP x why K := by subst h; exact hK
theorem roundS_out {b : Nat} {args : List V} {h : List O} {Q : V → List O → Prop} (hk : roundS E C Y b args h Q) : roundFn MP E C Y LP b args h Q := by
  unfold roundS at hk
  unfold roundFn
  cases hg : getO h b with
  | loop r =>
    obtain ⟨s0, p0, f, nt, ts, df, ps, a, bd, dn⟩ := r
    rw [hg] at hk
    simp only at hk ⊢
    obtain ⟨h1, hk⟩ := bB_MP hk
    obtain ⟨h2, hk⟩ := bB_MP hk
    obtain ⟨h3, h4⟩ := andB_true h2
    refine bB_in h1 ?_
    simp only [fN_eq, fTs_eq, WS_eq _ a h3, WS_eq _ bd h4, loopSetS_eq] at hk
    refine cast (congrArg (W MP E C Y LP _ a _) (funext fun e => funext fun st => ?_)) hk
    cases st with | mk nt1 ts1 df1 h1' mks1 =>
    cases e with
    | normal =>
      simp only
      cases getO h1' b with
      | loop r =>
        obtain ⟨s, p, f', n', lts, d, ps', a', b', dn'⟩ := r
        simp only
        cases s with
        | ready =>
          simp only
          refine congrArg (setLoop MP _ _ _ _) (funext fun h5 => ?_)
          refine congrArg (W MP E C Y LP _ bd _) (funext fun e => funext fun st2 => ?_)
          cases e <;> rfl
        | _ => rfl
      | _ => rfl
    | _ => rfl
  | _ => rw [hg] at hk; exact hk.elim
/-- A function, by its body in the kept form. -/
noncomputable def enterS (E : Env) (C : CallP Prop) (Y : YieldP Prop) (frz : Bool) (f : Nat) (args : List V) (h : List O) (Q : V → List O → Prop) : Prop :=
  match fnBody E f with
  | some (nt, rs, body) => bB MP (Nat.ble args.length nt) "arguments" <| fN nt fun nt => fN h.length fun m =>
      WS E C Y ⟨f, m, none⟩ body ⟨nt, numbered 0 args, .undef, h, []⟩ fun e st => match e with
        | .exit _ => False
        | _ => finishS E frz m rs st Q
  | none => False
  where
  fnBody (E : Env) (f : Nat) : Option (Nat × List ResultVar × Code) := match E.fn f with
    | some F => match F.body with | some b => some (F.ntmps, F.results.toList, b) | none => none
    | none => none
def bodyOk (E : Env) (f : Nat) : Bool := match E.fn f with
  | some F => match F.body with | some b => regsOk b | none => false
  | none => false
theorem enterS_out {frz : Nat → Bool} {f : Nat} {args : List V} {h : List O} {Q : V → List O → Prop} (hb : bodyOk E f = true) (hk : enterS E C Y (frz f) f args h Q) : enterFn MP E C Y LP frz f args h Q := by
  unfold enterS enterS.fnBody at hk
  unfold bodyOk at hb
  unfold enterFn
  cases hF : E.fn f with
  | none => rw [hF] at hb; cases hb
  | some F =>
    rw [hF] at hb hk
    simp only at hb hk ⊢
    cases hB : F.body with
    | none => rw [hB] at hb; cases hb
    | some b =>
      rw [hB] at hb hk
      simp only [fN_eq] at hb hk ⊢
      obtain ⟨h1, hk⟩ := bB_MP hk
      simp only [h1, bB]
      rw [WS_eq _ b hb] at hk
      refine cast (congrArg (W MP E C Y LP _ b _) (funext fun e => funext fun st => ?_)) hk
      cases e with
      | exit id => rfl
      | normal => exact finishS_eq E (frz f) ⟨f, h.length, none⟩ _ st Q
      | ret => exact finishS_eq E (frz f) ⟨f, h.length, none⟩ _ st Q
end
end Go.Ab
