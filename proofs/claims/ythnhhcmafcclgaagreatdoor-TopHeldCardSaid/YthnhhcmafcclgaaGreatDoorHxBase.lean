/-
  The program of TopHeld on the abstract machine: what is known of it; a season is played.
-/
import Derived.Test.YthnhhcmafcclgaaGreatDoorZzEnv2
import Derived.Test.YthnhhcmafcclgaaGreatDoorZzNatOk
import Derived.Test.YthnhhcmafcclgaaGreatDoorZzRow
import Derived.Test.YthnhhcmafcclgaaGreatDoorShelfFewH
import Derived.Test.YthnhhcmafcclgaaGreatDoorProg
import Derived.KernelRfl
namespace Go.Proofs.Hx
open Go Go.Ab
def keepIn : List (Nat × Nat × List Nat) → Nat → Nat → Option (List Nat)
  | [], _, _ => none
  | (f, k, l) :: r, g, j => match Nat.beq f g, Nat.beq k j with | true, true => some l | _, _ => keepIn r g j
def keeps : List (Nat × Nat × List Nat) := [(4, 3, [2, 3, 12, 13, 14]), (5, 6, [1, 2, 3]), (11, 8, [1, 2, 3, 4, 8, 10, 11]), (12, 4, [1, 2, 3, 4, 8, 9, 10, 11, 12, 13, 14]), (13, 8, [1, 2, 3, 6, 7, 9, 10]), (27, 5, [3, 4, 5, 6, 31, 32]), (32, 3, [4, 5, 6, 7, 11, 12, 13]), (39, 2, [0, 1, 4]), (48, 2, [0, 1, 4, 7, 8])]
/-- Types whose values are compared cell by cell. -/
def flats : List Nat := [50, 7, 8, 49, 194, 59, 88, 104, 106, 111, 116, 132, 139, 140, 143, 146, 147, 149, 152, 153, 155, 156, 158, 161, 162, 163, 167, 168, 181, 182, 188, 191, 192]
noncomputable def E : Env := env2 Tryz.prog flats (fun g => match Nat.beq g 0 with | true => some pow10D | false => none) (keepIn keeps)
theorem HE : EnvOk E Tryz.prog := env2_ok _ _ _ (by kernel_rfl) (by kernel_rfl)
theorem lib : LibOk Tryz.prog 179 72 166 25 0 where
  eI := ⟨_, Tryz.func179, by kernel_rfl, by kernel_rfl⟩
  eC := ⟨_, Tryz.func72, by kernel_rfl, by kernel_rfl⟩
  eJ := ⟨_, Tryz.func166, by kernel_rfl, by kernel_rfl⟩
  eA := ⟨_, Tryz.func25, by kernel_rfl, by kernel_rfl⟩
  ib := Tryz.stringslite_IndexByte
  ct := Tryz.strings_Count_one
  j0 := Tryz.strings_Join_none
  jn := Tryz.strings_Join
  it := Tryz.strconv_Itoa
  gp := by kernel_rfl
/-- Functions whose results are written on. -/
def hot : List Nat := [16, 17, 22, 23, 24, 26, 35, 36, 45, 46, 50, 51, 52, 53, 54, 55, 56, 57, 58, 59, 60, 61, 62, 63, 65, 74, 76, 77, 78, 79, 80, 81, 82, 85, 86, 87, 88, 89, 91, 92, 94, 95, 96, 97, 98, 99, 100, 102, 103, 104, 105, 107, 108, 109, 133, 136, 137, 147, 152]
def frz (f : Nat) : Bool := match memN f hot with | true => false | false => true
/-- The run, carried out by the kernel. -/
theorem plays_run : (evalP MP E (libX 179 72 166 25) frz 100000 60).1 6 [] [] (fun v h => v = .d (.bool true) ∧ h = []) = ((V.d (.bool true) = V.d (.bool true)) ∧ (([] : List O) = [])) := by kernel_rfl
theorem plays_ok : Rets Tryz.prog E 6 [] (.d (.bool true)) :=
  ⟨(evalP_ok HE (nat_ok lib rfl) frz 100000 60).1 6 [] [] _ (by rw [plays_run]; exact ⟨rfl, rfl⟩)⟩
end Go.Proofs.Hx
