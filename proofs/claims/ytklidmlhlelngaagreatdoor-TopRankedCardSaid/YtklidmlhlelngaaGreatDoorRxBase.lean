/-
  The program of TopRanked on the abstract machine: what is known of it; a season is played.
-/
import Derived.Test.YtklidmlhlelngaaGreatDoorZzEnv2
import Derived.Test.YtklidmlhlelngaaGreatDoorZzNatOk
import Derived.Test.YtklidmlhlelngaaGreatDoorZzRow
import Derived.Test.YtklidmlhlelngaaGreatDoorShelfFewR
import Derived.Test.YtklidmlhlelngaaGreatDoorProg
import Derived.KernelRfl
namespace Go.Proofs.Rx
open Go Go.Ab
def keepIn : List (Nat × Nat × List Nat) → Nat → Nat → Option (List Nat)
  | [], _, _ => none
  | (f, k, l) :: r, g, j => match Nat.beq f g, Nat.beq k j with | true, true => some l | _, _ => keepIn r g j
def keeps : List (Nat × Nat × List Nat) := [(3, 38, [1, 10, 12, 22, 25, 26, 27, 204, 205, 210, 211, 212]), (3, 33, [1, 10, 12, 22, 204, 205]), (3, 27, [1, 5, 10, 12, 22, 182, 183, 184]), (3, 6, [1, 2, 3, 4, 5, 10, 11, 12, 62, 63, 64]), (4, 3, [2, 3, 12, 13, 14]), (6, 12, [1, 2, 5]), (6, 6, [1, 2, 3]), (8, 9, [2, 3, 4, 6, 7, 21, 22, 29, 30]), (8, 6, [2, 3, 4, 6, 21, 22]), (11, 10, [1, 2, 3, 4, 8, 9, 12]), (11, 5, [1, 2, 3, 4, 8, 9, 11]), (13, 6, [2, 3, 4, 6, 22, 23]), (21, 7, [5, 7, 19]), (22, 2, [0, 2, 8, 9]), (23, 24, [0, 1, 6, 7, 13, 14]), (23, 14, [0, 1, 5, 6, 7, 9, 10, 11, 12, 36, 37]), (23, 9, [0, 1, 5, 6, 7, 9, 10, 36, 37]), (23, 3, [0, 1, 5, 6, 7, 17, 36, 37]), (26, 2, [0, 3, 4, 7, 8]), (27, 3, [1, 3, 6, 7, 8, 9, 11, 12]), (28, 2, [0, 1, 4, 7, 8]), (36, 6, [1, 2, 3, 6, 7, 8, 11, 14]), (36, 3, [1, 2, 3, 6, 7, 11]), (38, 1, [0, 2, 3]), (46, 1, [0, 1, 8, 9]), (75, 2, [0, 1, 4, 7, 8])]
/-- Types whose values are compared cell by cell. -/
def flats : List Nat := [51, 7, 8, 50, 48, 40, 60, 97, 114, 116, 122, 127, 140, 147, 148, 151, 154, 155, 157, 160, 161, 163, 164, 166, 169, 170, 171, 175, 176, 189, 190, 196, 199, 200, 46]
noncomputable def E : Env := env2 Tryz.prog flats (fun g => match Nat.beq g 0 with | true => some pow10D | false => none) (keepIn keeps)
theorem HE : EnvOk E Tryz.prog := env2_ok _ _ _ (by kernel_rfl) (by kernel_rfl)
theorem lib : LibOk Tryz.prog 184 77 171 32 0 where
  eI := ⟨_, Tryz.func184, by kernel_rfl, by kernel_rfl⟩
  eC := ⟨_, Tryz.func77, by kernel_rfl, by kernel_rfl⟩
  eJ := ⟨_, Tryz.func171, by kernel_rfl, by kernel_rfl⟩
  eA := ⟨_, Tryz.func32, by kernel_rfl, by kernel_rfl⟩
  ib := Tryz.stringslite_IndexByte
  ct := Tryz.strings_Count_one
  j0 := Tryz.strings_Join_none
  jn := Tryz.strings_Join
  it := Tryz.strconv_Itoa
  gp := by kernel_rfl
/-- Functions whose results are written on. -/
def hot : List Nat := [17, 18, 29, 30, 31, 33, 39, 40, 48, 49, 54, 55, 56, 57, 58, 59, 60, 61, 62, 63, 64, 65, 66, 67, 69, 79, 81, 82, 83, 84, 85, 86, 87, 90, 91, 92, 93, 94, 96, 97, 99, 100, 101, 102, 103, 104, 105, 107, 108, 109, 110, 112, 113, 114, 138, 141, 142, 152, 157]
def frz (f : Nat) : Bool := match memN f hot with | true => false | false => true
/-- The run, carried out by the kernel. -/
theorem plays_run : (evalP MP E (libX 184 77 171 32) frz 100000 60).1 7 [] [] (fun v h => v = .d (.bool true) ∧ h = []) = ((V.d (.bool true) = V.d (.bool true)) ∧ (([] : List O) = [])) := by kernel_rfl
theorem plays_ok : Rets Tryz.prog E 7 [] (.d (.bool true)) :=
  ⟨(evalP_ok HE (nat_ok lib rfl) frz 100000 60).1 7 [] [] _ (by rw [plays_run]; exact ⟨rfl, rfl⟩)⟩
end Go.Proofs.Rx
