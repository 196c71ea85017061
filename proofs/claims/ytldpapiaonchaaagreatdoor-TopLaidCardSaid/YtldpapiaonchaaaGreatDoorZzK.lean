/-
  Operations, what they ask told one by one: the machine's, with nothing hidden in what is looked at.
-/
import Derived.Test.YtldpapiaonchaaaGreatDoorZzEnv2
namespace Go.Ab
open Go

theorem oB_none {α : Type} (why : String) (K : α → Prop) : oB MP none why K = False := rfl
theorem oB_some {α : Type} (a : α) (why : String) (K : α → Prop) : oB MP (some a) why K = K a := rfl
theorem bB_true (why : String) (K : Prop) : bB MP true why K = K := rfl
theorem bB_false (why : String) (K : Prop) : bB MP false why K = False := rfl
/-- A small number, as it is written. -/
def fNat (n : Nat) (K : Nat → Prop) : Prop := match n with
  | 0 => K 0
  | 1 => K 1
  | 2 => K 2
  | 3 => K 3
  | 4 => K 4
  | 5 => K 5
  | 6 => K 6
  | 7 => K 7
  | 8 => K 8
  | 9 => K 9
  | 10 => K 10
  | 11 => K 11
  | 12 => K 12
  | 13 => K 13
  | 14 => K 14
  | 15 => K 15
  | 16 => K 16
  | 17 => K 17
  | 18 => K 18
  | 19 => K 19
  | 20 => K 20
  | 21 => K 21
  | 22 => K 22
  | 23 => K 23
  | 24 => K 24
  | 25 => K 25
  | 26 => K 26
  | 27 => K 27
  | 28 => K 28
  | 29 => K 29
  | 30 => K 30
  | 31 => K 31
  | 32 => K 32
  | 33 => K 33
  | 34 => K 34
  | 35 => K 35
  | 36 => K 36
  | 37 => K 37
  | 38 => K 38
  | 39 => K 39
  | 40 => K 40
  | 41 => K 41
  | 42 => K 42
  | 43 => K 43
  | 44 => K 44
  | 45 => K 45
  | 46 => K 46
  | 47 => K 47
  | 48 => K 48
  | 49 => K 49
  | 50 => K 50
  | 51 => K 51
  | 52 => K 52
  | 53 => K 53
  | 54 => K 54
  | 55 => K 55
  | 56 => K 56
  | 57 => K 57
  | 58 => K 58
  | 59 => K 59
  | 60 => K 60
  | 61 => K 61
  | 62 => K 62
  | 63 => K 63
  | 64 => K 64
  | 65 => K 65
  | 66 => K 66
  | 67 => K 67
  | 68 => K 68
  | 69 => K 69
  | 70 => K 70
  | 71 => K 71
  | 72 => K 72
  | 73 => K 73
  | 74 => K 74
  | 75 => K 75
  | 76 => K 76
  | 77 => K 77
  | 78 => K 78
  | 79 => K 79
  | 80 => K 80
  | 81 => K 81
  | 82 => K 82
  | 83 => K 83
  | 84 => K 84
  | 85 => K 85
  | 86 => K 86
  | 87 => K 87
  | 88 => K 88
  | 89 => K 89
  | 90 => K 90
  | 91 => K 91
  | 92 => K 92
  | 93 => K 93
  | 94 => K 94
  | 95 => K 95
  | 96 => K 96
  | n => K n
theorem fNat_eq (n : Nat) (K : Nat → Prop) : fNat n K = K n := by unfold fNat; split <;> rfl
/-- What a type is, of how many cells and bytes. -/
def tyK (E : Env) (t : Nat) (K : TypeDesc → Nat → Nat → Option (List D) → Prop) : Prop := match E.ty t with
  | some ⟨u, s, b, z, _, _⟩ => fNat s fun s => fNat b fun b => K u s b z
  | none => False
theorem tyK_eq (E : Env) (t : Nat) (w : String) (K : TypeDesc → Nat → Nat → Option (List D) → Prop) : tyK E t K = oB MP (E.ty t) w fun i => K i.under i.size i.bytes i.zero := by
  unfold tyK
  cases E.ty t with
  | none => rfl
  | some i => cases i; simp only [fNat_eq]; rfl
/-- An index below n. -/
def idxK (ix : V) (n : Nat) (K : Nat → Prop) : Prop := match ix with
  | .d (.int _ i) => match i with
    | .ofNat m => match Nat.blt m n with | true => K m | false => False
    | .negSucc _ => False
  | _ => False
theorem idxK_eq (ix : V) (n : Nat) (w : String) (K : Nat → Prop) : idxK ix n K = oB MP (natIdx ix n) w K := by
  unfold idxK natIdx
  cases ix with
  | d x => cases x with
    | int k i => cases i with
      | ofNat m => simp only [idxV, natI]; cases Nat.blt m n <;> rfl
      | negSucc m => rfl
    | _ => rfl
  | _ => rfl
def rdK {α : Type} (l : List α) (off n : Nat) (K : List α → Prop) : Prop := match Nat.ble (off + n) l.length with | true => K ((l.drop off).take n) | false => False
def cellK (agg : Bool) (c : Cells) (off n : Nat) (K : V → Prop) : Prop :=
  match agg with
  | true => match c with
    | .ds l => rdK l off n fun r => K (.d (.agg r))
    | .vs l => rdK l off n fun r => K (mkAgg r)
    | .mx p t => match Nat.ble (off + n) p.length with
      | true => rdK p off n fun r => K (mkAgg r)
      | false => match Nat.ble p.length off with
        | true => rdK t (off - p.length) n fun r => K (.d (.agg r))
        | false => rdK (p ++ t.map .d) off n fun r => K (mkAgg r)
  | false => match c with
    | .ds l => match l[off]? with | some r => K (.d r) | none => False
    | .vs l => match l[off]? with | some r => K r | none => False
    | .mx p t => match Nat.blt off p.length with
      | true => match p[off]? with | some r => K r | none => False
      | false => match t[off - p.length]? with | some r => K (.d r) | none => False
theorem cellK_eq (agg : Bool) (c : Cells) (off n : Nat) (w : String) (K : V → Prop) : cellK agg c off n K = oB MP (Cells.readV agg c off n) w K := by
  unfold cellK Cells.readV
  cases agg with
  | true => cases c with
    | ds l => simp only [rdK, rd]; cases Nat.ble (off + n) _ <;> rfl
    | vs l => simp only [rdK, rd]; cases Nat.ble (off + n) _ <;> rfl
    | mx p t =>
      simp only [rdK, rd]
      cases Nat.ble (off + n) p.length
      · cases Nat.ble p.length off
        · simp only; cases Nat.ble (off + n) (p ++ t.map V.d).length <;> rfl
        · simp only; cases Nat.ble (off - p.length + n) t.length <;> rfl
      · rfl
  | false => cases c with
    | ds l => simp only; cases l[off]? <;> rfl
    | vs l => simp only; cases l[off]? <;> rfl
    | mx p t =>
      simp only
      cases Nat.blt off p.length
      · simp only; cases t[off - p.length]? <;> rfl
      · simp only; cases p[off]? <;> rfl
def indexAddrK (E : Env) (t : Nat) (x ix : V) (K : V → Prop) : Prop :=
  match E.under t with
  | some (.array n e) => tyK E e fun _ s _ _ => match x with
    | .d (.ptr cs off) => idxK ix n fun m => K (.d (.ptr cs (off + m * s)))
    | .ptr b ep off lim => idxK ix n fun m => K (.ptr b ep (off + m * s) lim)
    | _ => False
  | some (.slice e) => tyK E e fun _ s _ _ => match x with
    | .d (.slice n sz cs) => match Nat.beq sz s with | true => idxK ix n fun m => K (.d (.ptr cs (m * sz))) | false => False
    | .slice b ep off n sz => match Nat.beq sz s with | true => idxK ix n fun m => K (.ptr b ep (off + m * sz) (off + m * sz + sz)) | false => False
    | _ => False
  | _ => False
theorem indexAddrK_eq (E : Env) (t : Nat) (x ix : V) (w : String) (K : V → Prop) : indexAddrK E t x ix K = oB MP (indexAddrV E t x ix) w K := by
  unfold indexAddrK indexAddrV
  cases E.under t with
  | none => rfl
  | some u => cases u with
    | array n e =>
      simp only [tyK_eq _ _ ""]
      cases E.ty e with
      | none => rfl
      | some j =>
        simp only [idxK_eq _ _ "", oB_some]
        cases natIdx ix n with
        | none => cases x with
          | d y => cases y <;> rfl
          | _ => rfl
        | some m => cases x with
          | d y => cases y <;> rfl
          | _ => rfl
    | slice e =>
      simp only [tyK_eq _ _ ""]
      cases E.ty e with
      | none => rfl
      | some j =>
        simp only [idxK_eq _ _ "", oB_some]
        cases x with
        | d y => cases y with
          | slice n sz cs => simp only; cases Nat.beq sz j.size <;> cases natIdx ix n <;> rfl
          | _ => rfl
        | slice b ep off n sz => simp only; cases Nat.beq sz j.size <;> cases natIdx ix n <;> rfl
        | _ => rfl
    | _ => rfl
def partK (E : Env) (t : Nat) (cs : V) (off : Nat) (K : V → Prop) : Prop :=
  tyK E t fun u s _ _ => match cs with
    | .d (.agg ds) => cellK (isAggD u) (.ds ds) off s K
    | .agg vs => cellK (isAggD u) (.vs vs) off s K
    | _ => False
theorem partK_eq (E : Env) (t : Nat) (cs : V) (off : Nat) (w : String) (K : V → Prop) : partK E t cs off K = oB MP (partV E t cs off) w K := by
  unfold partK partV
  rw [tyK_eq _ _ ""]
  cases E.ty t with
  | none => rfl
  | some i =>
    simp only [oB_some]
    cases cs with
    | d y => cases y <;> first | rfl | exact cellK_eq ..
    | agg vs => exact cellK_eq ..
    | _ => rfl
def indexK (E : Env) (t : Nat) (x ix : V) (K : V → Prop) : Prop :=
  match E.under t with
  | some (.array n e) => tyK E e fun _ s _ _ => idxK ix n fun m => partK E e x (m * s) K
  | some .string => match x with
    | .d (.str s) => match ix with
      | .d (.int _ i) => match i with
        | .ofNat m => match s[m]? with
          | some c => K (.d (.int .u8 c.toNat))
          | none => False
        | .negSucc _ => False
      | _ => False
    | _ => False
  | _ => False
theorem indexK_eq (E : Env) (t : Nat) (x ix : V) (w : String) (K : V → Prop) : indexK E t x ix K = oB MP (indexV E t x ix) w K := by
  unfold indexK indexV
  cases E.under t with
  | none => rfl
  | some u => cases u with
    | array n e =>
      simp only [tyK_eq _ _ ""]
      cases E.ty e with
      | none => rfl
      | some j =>
        simp only [idxK_eq _ _ "", partK_eq _ _ _ _ w, oB_some]
        cases natIdx ix n <;> rfl
    | string =>
      simp only
      cases x with
      | d y => cases y with
        | str s => cases ix with
          | d z => cases z with
            | int k i => cases i with
              | ofNat m => simp only [idxV, natI]; cases s[m]? <;> rfl
              | negSucc m => rfl
            | _ => rfl
          | _ => rfl
        | _ => rfl
      | _ => rfl
    | _ => rfl
/-- A bound of a slice expression. -/
def boundK (n dflt : Nat) (x : Option V) (K : Nat → Prop) : Prop := match x with
  | none => K dflt
  | some v => match v with
    | .d (.int _ i) => match i with
      | .ofNat m => match Nat.ble m n with | true => K m | false => False
      | .negSucc _ => False
    | _ => False
theorem boundK_eq (n dflt : Nat) (x : Option V) (w : String) (K : Nat → Prop) : boundK n dflt x K = oB MP (boundV n dflt x) w K := by
  unfold boundK boundV
  cases x with
  | none => rfl
  | some v => cases v with
    | d y => cases y with
      | int k i => cases i with
        | ofNat m => simp only [idxV, natI]; cases Nat.ble m n <;> rfl
        | negSucc m => rfl
      | _ => rfl
    | _ => rfl
def sliceK (E : Env) (t : Nat) (x : V) (lo hi : Option V) (K : V → Prop) : Prop :=
  match E.ty t with
  | none => False
  | some i => match i.under, x with
    | .string, .d (.str s) => boundK s.length s.length hi fun h => boundK h 0 lo fun l => K (.d (.str ((s.take h).drop l)))
    | .slice e, .d .nil => match E.ty e with
      | some _ => boundK 0 0 hi fun h => boundK h 0 lo fun _ => K (.d .nil)
      | none => False
    | .slice e, .d (.slice n sz cells) => tyK E e fun _ s _ _ => match Nat.beq sz s with
        | true => boundK n n hi fun h => boundK h 0 lo fun l => K (.d (.slice (h - l) sz ((cells.take (h * sz)).drop (l * sz))))
        | false => False
    | .slice e, .slice b ep off n sz => tyK E e fun _ s _ _ => match Nat.beq sz s with
        | true => boundK n n hi fun h => boundK h 0 lo fun l => K (.slice b ep (off + l * sz) (h - l) sz)
        | false => False
    | .array n e, .ptr b ep off lim => tyK E e fun _ s _ _ => match Nat.ble (off + n * s) lim with
        | true => boundK n n hi fun h => boundK h 0 lo fun l => K (.slice b ep (off + l * s) (h - l) s)
        | false => False
    | _, _ => False
theorem sliceK_eq (E : Env) (t : Nat) (x : V) (lo hi : Option V) (w : String) (K : V → Prop) : sliceK E t x lo hi K = oB MP (sliceV E t x lo hi) w K := by
  unfold sliceK sliceV
  cases E.ty t with
  | none => rfl
  | some i =>
    simp only [boundK_eq _ _ _ "", tyK_eq _ _ ""]
    cases i.under with
    | string => cases x with
      | d y => cases y with
        | str s =>
          simp only
          cases boundV s.length s.length hi with
          | none => rfl
          | some h => simp only [oB_some]; cases boundV h 0 lo <;> rfl
        | _ => rfl
      | _ => rfl
    | slice e => cases x with
      | d y => cases y with
        | nil =>
          simp only
          cases E.ty e with
          | none => rfl
          | some j =>
            simp only
            cases boundV 0 0 hi with
            | none => rfl
            | some h => simp only [oB_some]; cases boundV h 0 lo <;> rfl
        | slice n sz cells =>
          simp only
          cases E.ty e with
          | none => rfl
          | some j =>
            simp only [oB_some]
            cases Nat.beq sz j.size with
            | false => rfl
            | true => cases boundV n n hi with
              | none => rfl
              | some h => simp only [oB_some]; cases boundV h 0 lo <;> rfl
        | _ => rfl
      | slice b ep off n sz =>
        simp only
        cases E.ty e with
        | none => rfl
        | some j =>
          simp only [oB_some]
          cases Nat.beq sz j.size with
          | false => rfl
          | true => cases boundV n n hi with
            | none => rfl
            | some h => simp only [oB_some]; cases boundV h 0 lo <;> rfl
      | _ => rfl
    | array n e => cases x with
      | ptr b ep off lim =>
        simp only
        cases E.ty e with
        | none => rfl
        | some j =>
          simp only [oB_some]
          cases Nat.ble (off + n * j.size) lim with
          | false => rfl
          | true => cases boundV n n hi with
            | none => rfl
            | some h => simp only [oB_some]; cases boundV h 0 lo <;> rfl
      | d y => cases y <;> rfl
      | _ => rfl
    | _ => cases x with
      | d y => cases y <;> rfl
      | _ => rfl
def fieldAddrK (E : Env) (t : Nat) (x : V) (i : Nat) (K : V → Prop) : Prop :=
  match E.under t with
  | some (.struct fs) => match fs[i]? with
    | some f => match E.ty f.type with
      | some _ => match x with
        | .d (.ptr cs off) => fNat f.offset fun p => K (.d (.ptr cs (off + p)))
        | .ptr b e off lim => fNat f.offset fun p => K (.ptr b e (off + p) lim)
        | _ => False
      | none => False
    | none => False
  | _ => False
theorem fieldAddrK_eq (E : Env) (t : Nat) (x : V) (i : Nat) (w : String) (K : V → Prop) : fieldAddrK E t x i K = oB MP (fieldAddrV E t x i) w K := by
  unfold fieldAddrK fieldAddrV
  cases E.under t with
  | none => rfl
  | some u => cases u with
    | struct fs =>
      simp only [fNat_eq]
      cases fs[i]? with
      | none => rfl
      | some f =>
        simp only
        cases E.ty f.type with
        | none => rfl
        | some j => cases x with
          | d y => cases y <;> rfl
          | _ => rfl
    | _ => rfl
def fieldK (E : Env) (t : Nat) (x : V) (i : Nat) (K : V → Prop) : Prop :=
  match E.under t with
  | some (.struct fs) => match fs[i]? with
    | some f => fNat f.offset fun p => partK E f.type x p K
    | none => False
  | _ => False
theorem fieldK_eq (E : Env) (t : Nat) (x : V) (i : Nat) (w : String) (K : V → Prop) : fieldK E t x i K = oB MP (fieldV E t x i) w K := by
  unfold fieldK fieldV
  cases E.under t with
  | none => rfl
  | some u => cases u with
    | struct fs => simp only [fNat_eq]; cases fs[i]? <;> first | rfl | exact partK_eq ..
    | _ => rfl
/-- Numbers are divided by what is not 0; else as ever. -/
def binK (E : Env) (lit : Bool) (op : BinOp) (t : Nat) (x y : V) (K : V → Prop) : Prop :=
  match op with
  | .quo => match x, y with
    | .d (.int k a), .d (.int k' b) => match kindEq k k' with | true => (match eqI b 0 with | true => False | false => K (wrapV k (a.tdiv b))) | false => False
    | x, y => oB MP (binV E lit .quo t x y) "" K
  | .rem => match x, y with
    | .d (.int k a), .d (.int k' b) => match kindEq k k' with | true => (match eqI b 0 with | true => False | false => K (.d (.int k (a.tmod b)))) | false => False
    | x, y => oB MP (binV E lit .rem t x y) "" K
  | .add => match x, y with
    | .d (.str a), .d (.str b) => match Nat.ble (a.length + b.length) 140737488355328 with | true => K (.d (.str (a ++ b))) | false => False
    | x, y => oB MP (binV E lit .add t x y) "" K
  | op => oB MP (binV E lit op t x y) "" K
theorem binK_eq (E : Env) (lit : Bool) (op : BinOp) (t : Nat) (x y : V) (w : String) (K : V → Prop) : binK E lit op t x y K = oB MP (binV E lit op t x y) w K := by
  have e : ∀ (z : Option V), oB MP z "" K = oB MP z w K := fun z => by cases z <;> rfl
  cases op <;> simp only [binK, e]
  · cases x with
    | d a => cases a with
      | str a => cases y with
        | d b => cases b with
          | str b => simp only [binV, strBin]; cases Nat.ble (a.length + b.length) _ <;> rfl
          | _ => rfl
        | _ => rfl
      | _ => rfl
    | _ => rfl
  · cases x with
    | d a => cases a with
      | int k a => cases y with
        | d b => cases b with
          | int k' b => simp only [binV, intBin]; cases kindEq k k' <;> first | rfl | (cases eqI b 0 <;> rfl)
          | _ => rfl
        | _ => rfl
      | _ => rfl
    | _ => rfl
  · cases x with
    | d a => cases a with
      | int k a => cases y with
        | d b => cases b with
          | int k' b => simp only [binV, intBin]; cases kindEq k k' <;> first | rfl | (cases eqI b 0 <;> rfl)
          | _ => rfl
        | _ => rfl
      | _ => rfl
    | _ => rfl
/-- An operation that touches no memory. -/
def quietK (E : Env) (ρ : Operand → V) (o : Op) (K : V → Prop) : Prop :=
  match o with
  | .slice t x lo hi none => sliceK E t (ρ x) (lo.map ρ) (hi.map ρ) K
  | .field t x i => fieldK E t (ρ x) i K
  | .fieldAddr t x i => fieldAddrK E t (ρ x) i K
  | .indexAddr t x ix => indexAddrK E t (ρ x) (ρ ix) K
  | .index t x ix => indexK E t (ρ x) (ρ ix) K
  | .binOp op t x y _ => match isNilS y with
    | true => oB MP (nilTest E op t (ρ x)) "quiet" K
    | false => binK E (orB (isConst x) (isConst y)) op t (ρ x) (ρ y) K
  | o => oB MP (quietV E ρ o) "quiet" K
theorem quietK_eq (E : Env) (ρ : Operand → V) (o : Op) (K : V → Prop) : quietK E ρ o K = oB MP (quietV E ρ o) "quiet" K := by
  cases o with
  | slice t x lo hi mx => cases mx <;> first | rfl | exact sliceK_eq ..
  | field t x i => exact fieldK_eq ..
  | fieldAddr t x i => exact fieldAddrK_eq ..
  | indexAddr t x ix => exact indexAddrK_eq ..
  | index t x ix => exact indexK_eq ..
  | binOp op t x y r =>
    simp only [quietK, quietV]
    cases isNilS y
    · exact binK_eq ..
    · rfl
  | _ => rfl
/-! ### Reads -/
def loadK (E : Env) (h : List O) (t : Nat) (a : V) (K : V → Prop) : Prop :=
  tyK E t fun u s _ _ => match a with
    | .d (.ptr cs off) => cellK (isAggD u) (.ds cs) off s K
    | .ptr b e off lim => match getO h b with
      | .row c cur fl cons => match Nat.ble (off + s) lim with
        | true => match may e off s cur fl cons with
          | true => cellK (isAggD u) c off s K
          | false => False
        | false => False
      | _ => False
    | _ => False
theorem loadK_eq (E : Env) (h : List O) (t : Nat) (a : V) (w : String) (K : V → Prop) : loadK E h t a K = oB MP (loadV E h t a) w K := by
  unfold loadK loadV
  rw [tyK_eq _ _ ""]
  cases E.ty t with
  | none => rfl
  | some i =>
    simp only [oB_some]
    cases a with
    | d y => cases y <;> first | rfl | exact cellK_eq ..
    | ptr b e off lim =>
      simp only
      cases getO h b with
      | row c cur fl cons =>
        simp only
        cases Nat.ble (off + i.size) lim <;> cases may e off i.size cur fl cons <;> first | rfl | exact cellK_eq ..
      | _ => rfl
    | _ => rfl
def readK (E : Env) (ρ : Operand → V) (h : List O) (o : Op) (K : V → Prop) : Prop :=
  match o with
  | .load t a => loadK E h t (ρ a) K
  | o => oB MP (readV E ρ h o) "read" K
theorem readK_eq (E : Env) (ρ : Operand → V) (h : List O) (o : Op) (K : V → Prop) : readK E ρ h o K = oB MP (readV E ρ h o) "read" K := by
  cases o with
  | load t a => exact loadK_eq ..
  | _ => rfl
/-! ### New blocks -/
/-- A number from 0 on. -/
def numK (x : V) (K : Nat → Prop) : Prop := match x with
  | .d (.int _ i) => match i with
    | .ofNat m => K m
    | .negSucc _ => False
  | _ => False
def makeK (E : Env) (t : Nat) (l c : V) (K : O × (Nat → V) → Prop) : Prop :=
  match E.under t with
  | some (.slice e) => tyK E e fun _ s b z => match z with
      | some z => numK l fun n => numK c fun m => match Nat.ble n m with
        | true => match Nat.ble (m * b) 140737488355328 with
          | true => K (.row (.ofV ((List.replicate m (z.map V.d)).flatten)) 0 0 [(0, m * s)], fun b => .slice b 0 0 n s)
          | false => False
        | false => False
      | none => False
  | _ => False
def listK (E : Env) (t n : Nat) (ps : List (Nat × V)) (K : O × (Nat → V) → Prop) : Prop :=
  match E.under t with
  | some (.slice e) => tyK E e fun _ s _ z => match z with
    | some z => match Nat.ble (n * s) 16777216 with
      | true => oB MP (fillV (arrPlaces s n 0) ((List.replicate n (z.map V.d)).flatten) ps) "list" fun cs => match n with
        | 0 => K (.row (.ds []) 0 0 [], fun _ => .d .emp)
        | _ => K (.row (.ofV cs) 0 0 [], fun b => .slice b 0 0 n s)
      | false => False
    | none => False
  | _ => False
def allocK (E : Env) (ρ : Operand → V) (o : Op) (K : O × (Nat → V) → Prop) : Prop :=
  match o with
  | .alloc t => match E.ty t with
    | some i => match i.zeroVs with
      | some z => fNat z.length fun n => K (.row (.ofV z) 0 0 [], fun b => .ptr b 0 0 n)
      | none => False
    | none => False
  | .box _ x => match cellsO (ρ x) with
    | some cs => fNat cs.length fun n => K (.row (.ofV cs) 0 0 [], fun b => .ptr b 0 0 n)
    | none => False
  | .makeSlice t l c => makeK E t (ρ l) (ρ c) K
  | .buildSlice t n ps => listK E t n (ps.toList.map fun p => (p.1, ρ p.2)) K
  | o => oB MP (allocV E ρ o) "alloc" K
theorem allocK_eq (E : Env) (ρ : Operand → V) (o : Op) (K : O × (Nat → V) → Prop) : allocK E ρ o K = oB MP (allocV E ρ o) "alloc" K := by
  cases o with
  | alloc t =>
    simp only [allocK, allocV, fNat_eq]
    cases E.ty t with
    | none => rfl
    | some i => simp only; cases i.zeroVs <;> rfl
  | box t x =>
    simp only [allocK, allocV, fNat_eq]
    cases cellsO (ρ x) <;> rfl
  | buildSlice t n ps =>
    simp only [allocK, allocV, listK]
    cases E.under t with
    | none => rfl
    | some u => cases u with
      | slice e =>
        simp only [tyK_eq _ _ ""]
        cases E.ty e with
        | none => rfl
        | some i =>
          simp only [oB_some, TI.zeroVs]
          cases i.zero with
          | none => rfl
          | some z =>
            simp only
            cases Nat.ble (n * i.size) 16777216 with
            | false => rfl
            | true =>
              simp only
              cases fillV (arrPlaces i.size n 0) ((List.replicate n (z.map V.d)).flatten) (ps.toList.map fun p => (p.1, ρ p.2)) with
              | none => rfl
              | some cs => cases n <;> rfl
      | _ => rfl
  | makeSlice t l c =>
    simp only [allocK, allocV, makeK]
    cases E.under t with
    | none => rfl
    | some u => cases u with
      | slice e =>
        simp only [tyK_eq _ _ ""]
        cases E.ty e with
        | none => rfl
        | some i =>
          simp only [oB_some, TI.zeroVs]
          cases i.zero with
          | none => cases idxV (ρ l) <;> cases idxV (ρ c) <;> rfl
          | some z =>
            unfold numK
            cases ρ l with
            | d y => cases y with
              | int k a => cases a with
                | ofNat n => cases ρ c with
                  | d y => cases y with
                    | int k a => cases a with
                      | ofNat m => simp only [idxV, natI]; cases Nat.ble n m <;> cases Nat.ble (m * i.bytes) _ <;> rfl
                      | negSucc m => rfl
                    | _ => rfl
                  | _ => rfl
                | negSucc n => cases ρ c with
                  | d y => cases y <;> rfl
                  | _ => rfl
              | _ => rfl
            | _ => rfl
      | _ => rfl
  | _ => rfl
/-! ### Effects -/
def storeK (E : Env) (h : List O) (t : Nat) (a v : V) (K : List O → Prop) : Prop :=
  tyK E t fun _ s _ _ => match a with
    | .ptr b e off lim => match cellsO v with
      | some cs => match getO h b with
        | .row c cur fl cons => match Nat.beq cs.length s with
          | true => match Nat.ble (off + s) lim with
            | true => match Nat.beq e cur with
              | true => match may e off s cur fl cons with
                | true => match Nat.ble (off + cs.length) c.len with
                  | true => oB MP (c.write off cs) "store" fun c' => K (setO h b (.row c' cur cur cons))
                  | false => False
                | false => False
              | false => False
            | false => False
          | false => False
        | _ => False
      | none => False
    | _ => False
theorem storeK_eq (E : Env) (h : List O) (t : Nat) (a v : V) (w : String) (K : List O → Prop) : storeK E h t a v K = oB MP (storeO E h t a v) w K := by
  unfold storeK storeO
  rw [tyK_eq _ _ ""]
  cases E.ty t with
  | none => rfl
  | some i => cases a with
    | ptr b e off lim =>
      simp only [oB_some]
      cases cellsO v with
      | none => rfl
      | some cs =>
        simp only
        cases getO h b with
        | row c cur fl cons =>
          simp only
          cases Nat.beq cs.length i.size <;> cases Nat.ble (off + i.size) lim <;> cases Nat.beq e cur <;> cases may e off i.size cur fl cons <;> try rfl
          simp only [Cells.write]
          cases Nat.ble (off + cs.length) c.len with
          | false => rfl
          | true =>
            simp only
            cases c with
            | mx p t => cases allD cs with
              | none => rfl
              | some xs =>
                simp only
                cases Nat.ble p.length off <;> cases Nat.ble (off + cs.length) p.length <;> rfl
            | _ => cases allD cs <;> rfl
        | _ => rfl
    | _ => rfl
def rdVK (c : Cells) (off n : Nat) (K : List V → Prop) : Prop := match c with
  | .mx p t => match Nat.ble p.length off with
    | true => rdK t (off - p.length) n fun l => K (l.map .d)
    | false => rdK (p ++ t.map .d) off n K
  | .ds l => rdK (l.map .d) off n K
  | .vs l => rdK l off n K
theorem rdVK_eq (c : Cells) (off n : Nat) (K : List V → Prop) : rdVK c off n K = match c.rdV off n with | some l => K l | none => False := by
  unfold rdVK Cells.rdV
  cases c with
  | mx p t =>
    simp only
    cases Nat.ble p.length off
    · simp only [rdK, rd]; cases Nat.ble (off + n) (p ++ t.map V.d).length <;> rfl
    · simp only [rdK, rd]; cases Nat.ble (off - p.length + n) t.length <;> rfl
  | ds l => simp only [rdK, rd, Cells.toV]; cases Nat.ble (off + n) (l.map V.d).length <;> rfl
  | vs l => simp only [rdK, rd, Cells.toV]; cases Nat.ble (off + n) l.length <;> rfl
def rowK (sz : Nat) (h : List O) (x : V) (K : Nat → List V → Prop) : Prop :=
  match x with
  | .d .nil => K 0 []
  | .d .emp => K 0 []
  | .d (.slice n sz' cs) => match Nat.beq sz sz' with | true => K n (cs.map .d) | false => False
  | .d (.str s) => match Nat.beq sz 1 with | true => K s.length (s.map fun c => .d (.int .u8 c.toNat)) | false => False
  | .slice b e off n sz' => match getO h b with
    | .row c cur fl cons => match Nat.beq sz sz' with
      | true => match may e off (n * sz') cur fl cons with
        | true => rdVK c off (n * sz') fun l => K n l
        | false => False
      | false => False
    | _ => False
  | _ => False
theorem rowK_eq (sz : Nat) (h : List O) (x : V) (w : String) (K : Nat → List V → Prop) : rowK sz h x K = oB MP (rowOf sz h x) w fun p => K p.1 p.2 := by
  unfold rowK rowOf
  cases x with
  | d y => cases y with
    | slice n sz' cs => simp only; cases Nat.beq sz sz' <;> rfl
    | str s => simp only; cases Nat.beq sz 1 <;> rfl
    | _ => rfl
  | slice b e off n sz' =>
    simp only
    cases getO h b with
    | row c cur fl cons =>
      simp only
      cases Nat.beq sz sz' <;> cases may e off (n * sz') cur fl cons <;> try rfl
      simp only [rdVK_eq]
      cases c.rdV off (n * sz') <;> rfl
    | _ => rfl
  | _ => rfl
def appendK (E : Env) (h : List O) (t : Nat) (s x : V) (K : V → List O → Prop) : Prop :=
  match E.under t with
  | some (.slice et) => tyK E et fun _ w by' z => match z with
    | none => False
    | some _ => rowK w h x fun m new => match s with
      | .d .emp => match Nat.ble (m * by') 140737488355328 with
        | true => match m with
          | 0 => K (.d .emp) h
          | _ => K (.slice h.length 0 0 m w) (h ++ [.row (.ofV new) 0 0 []])
        | false => False
      | .d .nil => match Nat.ble (m * by') 140737488355328 with
        | true => match m with
          | 0 => K (.d .nil) h
          | _ => K (.slice h.length 0 0 m w) (h ++ [.row (.ofV new) 0 0 []])
        | false => False
      | .slice b ep off n sz => match getO h b with
        | .row c cur fl cons =>
          match Nat.ble ((n + m) * by') 140737488355328 with
          | true => match Nat.beq off 0 with
            | true => match Nat.beq sz w with
              | true => match may ep 0 (n * sz) cur fl cons with
                | true => match m with
                  | 0 => K (.slice b ep off n sz) h
                  | _ => K (.slice b (cur + 1) 0 (n + m) sz)
                      (setO h b (.row (c.append (n * sz) new) (cur + 1) fl (match Nat.beq (n * sz) c.len with | true => cons | false => (cur, n * sz) :: cons)))
                | false => False
              | false => False
            | false => match Nat.beq sz w with
              | true => oB MP (appendEnd h w c cur fl cons b ep off n m new) "append" fun p => K p.1 p.2
              | false => False
          | false => False
        | _ => False
      | _ => False
  | _ => False
theorem appendK_eq (E : Env) (h : List O) (t : Nat) (s x : V) (w : String) (K : V → List O → Prop) : appendK E h t s x K = oB MP (appendO E h t s x) w fun p => K p.1 p.2 := by
  unfold appendK appendO elemOfT
  cases E.under t with
  | none => rfl
  | some u => cases u with
    | slice et =>
      simp only [tyK_eq _ _ ""]
      cases E.ty et with
      | none => rfl
      | some i =>
        simp only [oB_some]
        cases hz : i.zero with
        | none => simp only; cases rowOf i.size h x <;> rfl
        | some z =>
          simp only [rowK_eq _ _ _ ""]
          cases rowOf i.size h x with
          | none => rfl
          | some p =>
            obtain ⟨m, new⟩ := p
            simp only [oB_some]
            cases s with
            | d y => cases y with
              | nil => simp only; cases Nat.ble (m * i.bytes) _ <;> cases m <;> rfl
              | emp => simp only; cases Nat.ble (m * i.bytes) _ <;> cases m <;> rfl
              | _ => rfl
            | slice b ep off n sz =>
              simp only
              cases getO h b with
              | row c cur fl cons =>
                simp only
                cases Nat.ble ((n + m) * i.bytes) _ <;> cases Nat.beq off 0 <;> cases Nat.beq sz i.size <;> cases may ep 0 (n * sz) cur fl cons <;> cases m <;> rfl
              | _ => rfl
            | _ => rfl
    | _ => rfl
def effectK (E : Env) (ρ : Operand → V) (h : List O) (o : Op) (K : V → List O → List Nat → Prop) : Prop :=
  match o with
  | .store t a x => storeK E h t (ρ a) (ρ x) fun h' => K (.d .undef) h' (namesV (ρ a))
  | .call c => match c.callee, c.args.toList.map ρ, c.argTypes.toList with
    | .builtin .append, [s, x], [t, t'] => match notInt E t' with
      | true => appendK E h t s x fun v h' => K v h' (namesV s)
      | false => False
    | _, _, _ => oB MP (effectO E ρ h (.call c)) "effect" fun p => K p.1 p.2.1 p.2.2
  | o => oB MP (effectO E ρ h o) "effect" fun p => K p.1 p.2.1 p.2.2
theorem effectK_eq (E : Env) (ρ : Operand → V) (h : List O) (o : Op) (K : V → List O → List Nat → Prop) : effectK E ρ h o K = oB MP (effectO E ρ h o) "effect" fun p => K p.1 p.2.1 p.2.2 := by
  cases o with
  | store t a x =>
    simp only [effectK, effectO, storeK_eq _ _ _ _ _ ""]
    cases storeO E h t (ρ a) (ρ x) <;> rfl
  | call c =>
    simp only [effectK]
    split
    · rename_i s x t t' h1 h2 h3
      simp only [effectO, h1, h2, h3, appendK_eq _ _ _ _ _ ""]
      cases notInt E t' <;> cases appendO E h t s x <;> rfl
    · rfl
  | _ => rfl
end Go.Ab
