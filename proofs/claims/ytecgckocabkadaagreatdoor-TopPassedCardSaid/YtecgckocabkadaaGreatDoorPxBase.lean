/-
  The program of TopPassed on the abstract machine: what is known of it; a season is played.
-/
import Derived.Test.YtecgckocabkadaaGreatDoorZzEnv2
import Derived.Test.YtecgckocabkadaaGreatDoorZzNatOk
import Derived.Test.YtecgckocabkadaaGreatDoorZzRow
import Derived.Test.YtecgckocabkadaaGreatDoorShelfFewP
import Derived.Test.YtecgckocabkadaaGreatDoorProg
import Derived.KernelRfl
namespace Go.Proofs.Px
open Go Go.Ab
def keepIn : List (Nat × Nat × List Nat) → Nat → Nat → Option (List Nat)
  | [], _, _ => none
  | (f, k, l) :: r, g, j => match Nat.beq f g, Nat.beq k j with | true, true => some l | _, _ => keepIn r g j
def keeps : List (Nat × Nat × List Nat) := [(3, 26, [2, 3, 6, 7, 8, 9, 19, 21, 23, 240, 241, 242]), (3, 12, [1, 2, 3, 6, 7, 8, 9, 123, 124, 125]), (3, 6, [1, 2, 3, 6, 7, 8, 9, 78, 79, 80]), (5, 11, [1, 2, 4]), (5, 6, [1, 2, 3]), (6, 3, [2, 3, 14, 15, 16]), (11, 8, [1, 2, 3, 4, 6, 7, 8, 16, 17, 18]), (11, 5, [1, 2, 3, 4, 16, 17, 18]), (12, 6, [2, 3, 4, 6, 21, 22]), (13, 6, [2, 3, 4, 6, 21, 22]), (21, 7, [1, 2, 3, 5, 22, 23, 24]), (32, 2, [0, 1, 4, 7, 8]), (33, 2, [0, 1, 4, 7, 8]), (44, 2, [0, 4, 7, 8, 9]), (46, 3, [2, 5, 7]), (47, 1, [0, 1, 2, 10, 11]), (60, 2, [0, 1, 4, 7, 8])]
/-- Types whose values are compared cell by cell. -/
def flats : List Nat := [38, 7, 8, 34, 35, 37, 39, 42, 45, 47, 54, 58, 62, 103, 115, 117, 120, 125, 139, 146, 147, 150, 153, 154, 156, 159, 160, 162, 163, 165, 168, 169, 170, 174, 175, 188, 189, 195, 198, 199]
noncomputable def E : Env := env2 Tryz.prog flats (fun g => match Nat.beq g 0 with | true => some pow10D | false => none) (keepIn keeps)
theorem HE : EnvOk E Tryz.prog := env2_ok _ _ _ (by kernel_rfl) (by kernel_rfl)
theorem lib : LibOk Tryz.prog 190 84 177 37 0 where
  eI := ⟨_, Tryz.func190, by kernel_rfl, by kernel_rfl⟩
  eC := ⟨_, Tryz.func84, by kernel_rfl, by kernel_rfl⟩
  eJ := ⟨_, Tryz.func177, by kernel_rfl, by kernel_rfl⟩
  eA := ⟨_, Tryz.func37, by kernel_rfl, by kernel_rfl⟩
  ib := Tryz.stringslite_IndexByte
  ct := Tryz.strings_Count_one
  j0 := Tryz.strings_Join_none
  jn := Tryz.strings_Join
  it := Tryz.strconv_Itoa
  gp := by kernel_rfl
/-- Functions whose results are written on. -/
def hot : List Nat := [19,20,34,35,36,38,49,50,57,58,62,63,64,65,66,67,68,69,70,71,72,73,74,75,77,86,88,89,90,91,92,93,94,97,98,99,100,101,103,104,106,107,108,109,110,111,112,114,115,116,117,119,120,121,145,148,149,159,164]
def frz (f : Nat) : Bool := match memN f hot with | true => false | false => true
/-- The run, carried out by the kernel. -/
theorem plays_run : (evalP MP E (libX 190 84 177 37) frz 100000 60).1 7 [] [] (fun v h => v = .d (.bool true) ∧ h = []) = ((V.d (.bool true) = V.d (.bool true)) ∧ (([] : List O) = [])) := by kernel_rfl
theorem plays_ok : Rets Tryz.prog E 7 [] (.d (.bool true)) :=
  ⟨(evalP_ok HE (nat_ok lib rfl) frz 100000 60).1 7 [] [] _ (by rw [plays_run]; exact ⟨rfl, rfl⟩)⟩
end Go.Proofs.Px
