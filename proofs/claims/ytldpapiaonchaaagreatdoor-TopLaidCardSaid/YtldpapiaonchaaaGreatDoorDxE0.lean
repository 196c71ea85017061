/-
  TopLaid: the parts of a range over a function.
-/
import Derived.Test.YtldpapiaonchaaaGreatDoorDxB
namespace Go.Proofs.Dx
open Go Go.Ab
/-- The parts of the first range over a function. -/
def rfOf : Code → Option (Code × Code)
  | .rangeFunc _ _ a b => some (a, b)
  | .seq a b => match rfOf a with | some x => some x | none => rfOf b
  | .block _ b => rfOf b
  | .loop b => rfOf b
  | .scope b => rfOf b
  | .cond _ a b => match rfOf a with | some x => some x | none => rfOf b
  | _ => none
def rfOf' (f : Func) : Code × Code := match f.body with
  | some b => (match rfOf b with | some x => x | none => (.skip, .skip))
  | none => (.skip, .skip)
noncomputable def code47 : Code × Code := rfOf' Tryz.f47
/-- A desk whose shots, targets are blocks. -/
def dkB (S N : List Int) (A : List (Int × Int)) (a b m : Nat) (t : Tb) : O := .row (.mx [.slice a 0 0 S.length 1, .slice b 0 0 N.length 1, .d (pl A), .map m] t.e) 0 0 []
def dkC (S N : List Int) (A : List (Int × Int)) (a m : Nat) (t : Tb) : O := .row (.mx [.slice a 0 0 S.length 1, .d (sl N), .d (pl A), .map m] t.e) 0 0 []
end Go.Proofs.Dx
