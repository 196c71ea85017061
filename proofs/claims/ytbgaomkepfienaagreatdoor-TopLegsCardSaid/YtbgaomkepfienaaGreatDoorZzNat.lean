/-
  Functions of Go's library that are carried out at once.
-/
import Derived.Test.YtbgaomkepfienaaGreatDoorZzEnv
namespace Go.Ab
open Go

def indexB (c : Nat) : List UInt8 → Nat → Int
  | [], _ => -1
  | b :: l, i => match Nat.beq b.toNat c with | true => .ofNat i | false => indexB c l (i + 1)
def countB (c : Nat) : List UInt8 → Nat → Nat
  | [], n => n
  | b :: l, n => match Nat.beq b.toNat c with | true => countB c l (n + 1) | false => countB c l n
def strsOf : List V → Option (List (List UInt8))
  | [] => some []
  | .d (.str s) :: l => match strsOf l with | some r => some (s :: r) | none => none
  | _ :: _ => none
def joinT (sep : List UInt8) : List (List UInt8) → List UInt8
  | [] => []
  | x :: l => sep ++ (x ++ joinT sep l)
def joinB (sep : List UInt8) : List (List UInt8) → List UInt8
  | [] => []
  | x :: l => x ++ joinT sep l
def natIndexByte : List V → List O → Option (V × List O)
  | [.d (.str s), .d (.int .u8 (.ofNat c))], h => match Nat.blt c 256 with | true => some (.d (.int .i64 (indexB c s 0)), h) | false => none
  | _, _ => none
def natCount : List V → List O → Option (V × List O)
  | [.d (.str s), .d (.str [c])], h => some (.d (.int .i64 (.ofNat (countB c.toNat s 0))), h)
  | _, _ => none
def natJoin : List V → List O → Option (V × List O)
  | [.d (.str _), _], _ => none
  | [x, .d (.str sep)], h => match rowOf 1 h x with
    | some (n, cells) => match strsOf cells with
      | some l => match Nat.ble n 140737488355328, Nat.ble (joinB sep l).length 140737488355328 with
        | true, true => some (.d (.str (joinB sep l)), h)
        | _, _ => none
      | none => none
    | none => none
  | _, _ => none
def digB : Nat → Nat → List UInt8 → List UInt8
  | 0, _, acc => acc
  | k + 1, u, acc => match Nat.blt u 10 with
    | true => UInt8.ofNat (48 + u) :: acc
    | false => digB k (u / 10) (UInt8.ofNat (48 + u % 10) :: acc)
def itoaB : Int → List UInt8
  | .ofNat n => digB 20 n []
  | .negSucc n => 45 :: digB 20 (n + 1) []
def natItoa : List V → List O → Option (V × List O)
  | [.d (.int .i64 n)], h => match leI (-9223372036854775808) n, leI n 9223372036854775807 with
    | true, true => some (.d (.str (itoaB n)), h)
    | _, _ => none
  | _, _ => none
end Go.Ab
