/-
  The program of TopDecidedEarly on the abstract machine: what is known of it; a season is played.
-/
import Derived.Test.YtedodndgpjonkaaGreatDoorZzEnv2
import Derived.Test.YtedodndgpjonkaaGreatDoorZzNatOk
import Derived.Test.YtedodndgpjonkaaGreatDoorZzRow
import Derived.Test.YtedodndgpjonkaaGreatDoorShelfFewC
import Derived.Test.YtedodndgpjonkaaGreatDoorProg
import Derived.KernelRfl
namespace Go.Proofs.Cx
open Go Go.Ab
def keepIn : List (Nat × Nat × List Nat) → Nat → Nat → Option (List Nat)
  | [], _, _ => none
  | (f, k, l) :: r, g, j => match Nat.beq f g, Nat.beq k j with | true, true => some l | _, _ => keepIn r g j
def keeps : List (Nat × Nat × List Nat) := [(3, 41, [2, 4, 236, 237]), (3, 17, [1, 2, 4, 7, 8, 10, 100, 101]), (3, 4, [1, 2, 4, 60, 61, 62]), (5, 3, [2, 3, 6, 7, 8]), (6, 40, [1, 2, 8, 9, 10, 11, 12]), (6, 32, [1, 2, 8, 9]), (6, 29, [1, 2, 8]), (6, 24, [1, 2, 7]), (6, 19, [1, 2, 5, 6]), (6, 16, [1, 2, 5]), (6, 11, [1, 2, 4]), (6, 6, [1, 2, 3]), (14, 6, [2, 3, 4, 5, 6, 23, 24]), (15, 4, [0, 1, 4, 12, 13]), (20, 3, [0, 1, 4, 5, 6]), (23, 3, [2, 3, 4, 5, 9, 10]), (27, 4, [4, 5, 6, 15, 16]), (28, 2, [1, 2, 4, 5, 10, 11]), (29, 2, [0, 1, 4, 7, 8]), (31, 5, [0, 2, 3, 4]), (31, 2, [0, 2, 3]), (32, 3, [1, 2, 4, 5, 6]), (41, 7, [4, 5, 40, 41, 42]), (42, 5, [5, 6, 8, 17]), (45, 5, [1, 2, 3, 6, 9]), (57, 5, [2, 3, 4, 12, 13, 14]), (59, 8, [1, 4, 5, 36, 37, 38]), (59, 3, [1, 2, 4, 5, 12, 13, 14]), (61, 6, [2, 3, 4, 5]), (62, 4, [1, 2, 4, 5, 6, 7]), (63, 3, [1, 2, 3, 6, 7, 8]), (71, 2, [0, 1, 4, 5]), (74, 2, [0, 1, 4, 7, 8]), (75, 5, [0, 1, 4, 5, 6]), (78, 3, [2, 3, 4, 5, 10, 11]), (79, 3, [2, 3, 6, 7, 8]), (80, 5, [3, 6, 7, 8, 17, 18, 19]), (81, 1, [0, 1, 2, 7, 8]), (82, 7, [1, 2, 4, 5, 6, 7, 8]), (82, 3, [1, 2, 4, 5, 6]), (83, 6, [3, 6, 7, 8, 9, 10]), (104, 2, [0, 1, 4, 7, 8]), (106, 2, [0, 1, 2, 3, 8, 9]), (154, 1, [0, 1, 2, 6]), (154, 4, [0, 1, 2, 6, 7]), (212, 1, [0, 1, 2, 3, 8]), (212, 4, [0, 1, 2, 3, 8, 9])]
/-- Types whose values are compared cell by cell. -/
def flats : List Nat := [105, 106, 107, 7, 8, 39, 31, 46, 84, 98, 100, 115, 120, 142, 152, 153, 155, 158, 159, 161, 164, 165, 167, 168, 170, 173, 174, 175, 179, 180, 192, 193, 199, 202, 203]
noncomputable def E : Env := env2 Tryz.prog flats (fun g => match Nat.beq g 0 with | true => some pow10D | false => none) (keepIn keeps)
theorem HE : EnvOk E Tryz.prog := env2_ok _ _ _ (by kernel_rfl) (by kernel_rfl)
theorem lib : LibOk Tryz.prog 215 112 199 36 0 where
  eI := ⟨_, Tryz.func215, by kernel_rfl, by kernel_rfl⟩
  eC := ⟨_, Tryz.func112, by kernel_rfl, by kernel_rfl⟩
  eJ := ⟨_, Tryz.func199, by kernel_rfl, by kernel_rfl⟩
  eA := ⟨_, Tryz.func36, by kernel_rfl, by kernel_rfl⟩
  ib := Tryz.stringslite_IndexByte
  ct := Tryz.strings_Count_one
  j0 := Tryz.strings_Join_none
  jn := Tryz.strings_Join
  it := Tryz.strconv_Itoa
  gp := by kernel_rfl
/-- Functions whose results are written on. -/
def hot : List Nat := [16, 17, 33, 34, 35, 37, 46, 47, 65, 66, 85, 86, 87, 88, 89, 90, 91, 92, 93, 94, 95, 96, 97, 98, 99, 114, 115, 116, 117, 118, 119, 120, 121, 124, 125, 126, 127, 128, 130, 131, 133, 134, 135, 136, 137, 138, 139, 141, 142, 143, 144, 146, 147, 148, 169, 172, 173, 181, 186]
def frz (f : Nat) : Bool := match memN f hot with | true => false | false => true
/-- The run, carried out by the kernel. -/
theorem plays_run : (evalP MP E (libX 215 112 199 36) frz 100000 60).1 4 [] [] (fun v h => v = .d (.bool true) ∧ h = []) = ((V.d (.bool true) = V.d (.bool true)) ∧ (([] : List O) = [])) := by kernel_rfl
theorem plays_ok : Rets Tryz.prog E 4 [] (.d (.bool true)) :=
  ⟨(evalP_ok HE (nat_ok lib rfl) frz 100000 60).1 4 [] [] _ (by rw [plays_run]; exact ⟨rfl, rfl⟩)⟩
end Go.Proofs.Cx
