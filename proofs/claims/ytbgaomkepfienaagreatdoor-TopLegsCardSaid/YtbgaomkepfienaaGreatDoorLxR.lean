/-
  TopLegs: from the arguments to the call.
-/
import Derived.Test.YtbgaomkepfienaaGreatDoorLxK
import Derived.Test.YtbgaomkepfienaaGreatDoorZzRow2
import Derived.Test.YtbgaomkepfienaaGreatDoorCards
import Derived.Test.YtbgaomkepfienaaGreatDoorTie
import Derived.Lay
import Derived.Deep.DeepWitnessRowRef
import Derived.Stop.Joined
import Derived.SizedLaws
namespace Go.Proofs.Lx
open Go Go.Ab Go.RowKit Go.WideShapes Go.ChangeShapes Go.ChangeAt Go.Proofs.YtbgaomkepfienaaGreatDoor
set_option maxRecDepth 100000
set_option maxHeartbeats 1000000
theorem u3 : Tryz.prog.underlying 3 = some (.int .i64) := by kernel_rfl
theorem u4 : Tryz.prog.underlying 4 = some .bool := by kernel_rfl
theorem u22 : Tryz.prog.underlying 22 = some (.slice 3) := by kernel_rfl
theorem u25 : Tryz.prog.underlying 25 = some (.slice 22) := by kernel_rfl
theorem c3 : Tryz.prog.cellsOf 3 = 1 := by kernel_rfl
theorem c22 : Tryz.prog.cellsOf 22 = 1 := by kernel_rfl
theorem c24 : Tryz.prog.cellsOf 24 = 6 := by kernel_rfl
theorem c25 : Tryz.prog.cellsOf 25 = 1 := by kernel_rfl
theorem c27 : Tryz.prog.cellsOf 27 = 2 := by kernel_rfl
theorem s24 : shapeOf Tryz.prog 24 = [(22, 0), (3, 1), (3, 2), (3, 3), (3, 4), (3, 5)] := by kernel_rfl
theorem s27 : shapeOf Tryz.prog 27 = [(22, 0), (25, 1)] := by kernel_rfl
theorem row_fits {k : Nat} {g : List D} (h : Fits Tryz.prog k 22 g) : ∃ r : List Int, g = [rowD r] ∧ True := by
  obtain ⟨l, h1, _, _⟩ := fits_ints u22 c3 u3 h
  exact ⟨l, h1, trivial⟩
theorem flat_rows (R : List (List Int)) : (R.flatMap fun r => [rowD r]) = encLL R := by
  induction R with
  | nil => rfl
  | cons a l ih => rw [List.flatMap_cons, ih]; rfl
theorem rows_fits {k : Nat} {xs : List D} (h : Fits Tryz.prog k 25 xs) : ∃ R : List (List Int), xs = [.slice R.length 1 (encLL R)] := by
  obtain ⟨R, h1, _, _⟩ := fits_slice (enc := fun r => [rowD r]) (p := fun _ => True) u25 c22 (fun g _ hf => row_fits hf) h
  rw [flat_rows] at h1
  exact ⟨R, h1⟩
theorem rules_arg {k : Nat} {x : D} (h : ArgFits Tryz.prog k 24 x) : ∃ r : Ru, x = ruD r := by
  obtain ⟨xs, rfl, hf⟩ := argFits_struct h (by rw [s24]; simp)
  obtain ⟨h1, h2⟩ := fits_struct s24 (by simp) hf
  rw [c24] at h1
  match xs, h1 with
  | [a, b, c, d, e, f], _ =>
    obtain ⟨P, ha, _, _⟩ := fits_ints u22 c3 u3 (h2 (22, 0) (by simp))
    obtain ⟨v1, hb, _⟩ := fits_int u3 (h2 (3, 1) (by simp))
    obtain ⟨v2, hc, _⟩ := fits_int u3 (h2 (3, 2) (by simp))
    obtain ⟨v3, hd, _⟩ := fits_int u3 (h2 (3, 3) (by simp))
    obtain ⟨v4, he, _⟩ := fits_int u3 (h2 (3, 4) (by simp))
    obtain ⟨v5, hg, _⟩ := fits_int u3 (h2 (3, 5) (by simp))
    simp [c3, c22] at ha hb hc hd he hg
    subst ha; subst hb; subst hc; subst hd; subst he; subst hg
    exact ⟨⟨P, v1, v2, v3, v4, v5⟩, rfl⟩
theorem squad_arg {k : Nat} {x : D} (h : ArgFits Tryz.prog k 27 x) : ∃ s : Sq, x = sqD s := by
  obtain ⟨xs, rfl, hf⟩ := argFits_struct h (by rw [s27]; simp)
  obtain ⟨h1, h2⟩ := fits_struct s27 (by simp) hf
  rw [c27] at h1
  match xs, h1 with
  | [a, b], _ =>
    obtain ⟨P, ha, _, _⟩ := fits_ints u22 c3 u3 (h2 (22, 0) (by simp))
    obtain ⟨R, hb⟩ := rows_fits (h2 (25, 1) (by simp))
    simp [c22, c25] at ha hb
    subst ha; subst hb
    exact ⟨⟨P, R⟩, rfl⟩
theorem list_arg {k : Nat} {x : D} (h : ArgFits Tryz.prog k 22 x) : ∃ F : List Int, x = sl F := by
  have h1 := argFits_plain h (fun fs => by rw [u22]; simp) (fun n e => by rw [u22]; simp)
  obtain ⟨F, h2, _, _⟩ := fits_ints u22 c3 u3 h1
  exact ⟨F, (List.cons.inj h2).1⟩
theorem gP : Tryz.prog.globalNamed "internal/strconv.uint64pow10" = some 0 := by kernel_rfl
theorem plainLaid : (Rows.topLegsRow.laid.all fun x => x.2.handleName?.isNone) = true := by kernel_rfl
theorem table {W : World} (h : laidMetH Tryz.prog Rows.topLegsRow.laid W) : Lib.TabIs Tryz.prog W "internal/strconv.uint64pow10" .u64 Lib.pow10Tab := by
  rw [MakeChecks.laidMetH_plain _ _ _ plainLaid] at h
  exact Lib.tabIs_of_head (n := 20) (t := 203) (e := 126) gP (by kernel_rfl) (by kernel_rfl) (by kernel_rfl) (by kernel_rfl) (by kernel_rfl) (laidMet.tail (laidMet.tail h))
theorem glob_hold {W : World} (hL : laidMetH Tryz.prog Rows.topLegsRow.laid W) : ∀ g cs, E.glob g = some cs → ZAll W g ∧ VRdAt (ZAll W) W g 0 cs ∧ SizedAt W g cs.length := fun g cs hg => by
  have hg' : (match Nat.beq g 0 with | true => some pow10D | false => none) = some cs := hg
  split at hg'
  · rename_i h0
    cases hg'
    rw [Nat.eq_of_beq_eq_true h0]
    exact tab_at gP (table hL)
  · cases hg'
theorem okArgs : ∀ t ∈ [24, 27, 22, 22, 22], okTy Tryz.prog 6 t = true := by
  have h : ([24, 27, 22, 22, 22].all fun t => okTy Tryz.prog 6 t) = true := by kernel_rfl
  exact fun t ht => List.all_eq_true.1 h t ht
end Go.Proofs.Lx
