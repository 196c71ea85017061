/-
  The same, with a list of the types whose values are compared cell by cell.
-/
import Derived.Test.YtldpapiaonchaaaGreatDoorZzEnv
section
namespace Go.Ab
open Go
section
variable {P : Program}
def flatOf (P : Program) (t : Nat) : Bool := match tiOf P t with | some i => i.flat | none => true
def allN (p : Nat → Bool) : List Nat → Bool
  | [] => true
  | a :: l => match p a with | true => allN p l | false => false
def tiOf2 (P : Program) (flats : List Nat) (t : Nat) : Option TI :=
  match P.info? t, P.underlying t with
  | some inf, some u => match Nat.blt 0 inf.bytes, Nat.blt 0 inf.size with
    | true, true => some { under := u, size := inf.size, bytes := inf.bytes, zero := match inf.zero with | some zv => zeroOf (isAggD u) inf.size zv | none => none, flat := memN t flats, kinds := kindsOf P t }
    | _, _ => none
  | _, _ => none
theorem tiOf2_of (P : Program) (flats : List Nat) (t : Nat) {j : TI} (h : tiOf2 P flats t = some j) : ∃ i, tiOf P t = some i ∧ j = { i with flat := memN t flats } := by
  unfold tiOf2 at h
  unfold tiOf
  split at h
  · rename_i inf u hinf hu
    simp only [hinf, hu]
    split at h
    · rename_i g1 g2
      simp only [g1, g2]
      cases h
      exact ⟨_, rfl, rfl⟩
    · cases h
  · cases h
theorem memN_mem {a : Nat} : ∀ {l : List Nat}, memN a l = true → a ∈ l
  | b :: l, h => by
    unfold memN at h
    split at h
    · rename_i hb; rw [Nat.eq_of_beq_eq_true hb]; exact List.mem_cons_self
    · exact List.mem_cons_of_mem _ (memN_mem h)
theorem allN_all {p : Nat → Bool} : ∀ {l : List Nat}, allN p l = true → ∀ a ∈ l, p a = true
  | b :: l, h, a, ha => by
    unfold allN at h
    split at h
    · rcases List.mem_cons.1 ha with rfl | ha
      · assumption
      · exact allN_all h a ha
    · cases h
def env2 (P : Program) (flats : List Nat) (glob : Nat → Option (List D)) (keep : Nat → Nat → Option (List Nat)) : Env := ⟨tiOf2 P flats, glob, fnOf P, keep⟩
theorem env2_ok (flats : List Nat) (glob : Nat → Option (List D)) (keep : Nat → Nat → Option (List Nat)) (hm : P.follows .mixedOrders = true) (hf : allN (flatOf P) flats = true) : EnvOk (env2 P flats glob keep) P where
  ty := fun t j h => by
    obtain ⟨i, hi, rfl⟩ := tiOf2_of P flats t h
    have O := tiOf_ok hi
    have hfl : memN t flats = true → i.flat = true := fun hm => by
      have := allN_all hf t (memN_mem hm)
      unfold flatOf at this
      rw [hi] at this
      exact this
    exact ⟨O.under, O.info, O.pos, fun h => O.flat (hfl h), fun h => O.key (hfl h)⟩
  fn := (envOf_ok glob keep hm).fn
  name := (envOf_ok glob keep hm).name
  mixed := hm
end
end Go.Ab
end
section
/-
  Functions of Go's library that are carried out at once.
-/
namespace Go.Ab
open Go

def indexB (c : Nat) : List UInt8 → Nat → Int
  | [], _ => -1
  | b :: l, i => match Nat.beq b.toNat c with | true => .ofNat i | false => indexB c l (i + 1)
def countB (c : Nat) : List UInt8 → Nat → Nat
  | [], n => n
  | b :: l, n => match Nat.beq b.toNat c with | true => countB c l (n + 1) | false => countB c l n
def strsOf : List V → Option (List (List UInt8))
  | [] => some []
  | .d (.str s) :: l => match strsOf l with | some r => some (s :: r) | none => none
  | _ :: _ => none
def joinT (sep : List UInt8) : List (List UInt8) → List UInt8
  | [] => []
  | x :: l => sep ++ (x ++ joinT sep l)
def joinB (sep : List UInt8) : List (List UInt8) → List UInt8
  | [] => []
  | x :: l => x ++ joinT sep l
def natIndexByte : List V → List O → Option (V × List O)
  | [.d (.str s), .d (.int .u8 (.ofNat c))], h => match Nat.blt c 256 with | true => some (.d (.int .i64 (indexB c s 0)), h) | false => none
  | _, _ => none
def natCount : List V → List O → Option (V × List O)
  | [.d (.str s), .d (.str [c])], h => some (.d (.int .i64 (.ofNat (countB c.toNat s 0))), h)
  | _, _ => none
def natJoin : List V → List O → Option (V × List O)
  | [.d (.str _), _], _ => none
  | [x, .d (.str sep)], h => match rowOf 1 h x with
    | some (n, cells) => match strsOf cells with
      | some l => match Nat.ble n 140737488355328, Nat.ble (joinB sep l).length 140737488355328 with
        | true, true => some (.d (.str (joinB sep l)), h)
        | _, _ => none
      | none => none
    | none => none
  | _, _ => none
def digB : Nat → Nat → List UInt8 → List UInt8
  | 0, _, acc => acc
  | k + 1, u, acc => match Nat.blt u 10 with
    | true => UInt8.ofNat (48 + u) :: acc
    | false => digB k (u / 10) (UInt8.ofNat (48 + u % 10) :: acc)
def itoaB : Int → List UInt8
  | .ofNat n => digB 20 n []
  | .negSucc n => 45 :: digB 20 (n + 1) []
def natItoa : List V → List O → Option (V × List O)
  | [.d (.int .i64 n)], h => match leI (-9223372036854775808) n, leI n 9223372036854775807 with
    | true, true => some (.d (.str (itoaB n)), h)
    | _, _ => none
  | _, _ => none
end Go.Ab
end
