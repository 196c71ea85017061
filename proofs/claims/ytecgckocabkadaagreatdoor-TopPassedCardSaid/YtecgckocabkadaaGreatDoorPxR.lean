/- PxR: a part of the proof of this claim. -/
import Derived.Test.YtecgckocabkadaaGreatDoorPxI
import Derived.Test.YtecgckocabkadaaGreatDoorZzRow2
import Derived.Test.YtecgckocabkadaaGreatDoorCards
import Derived.Test.YtecgckocabkadaaGreatDoorTie
import Derived.Lay
import Derived.Deep.DeepWitnessRowRef
import Derived.Stop.Joined
namespace Go.Proofs.Px
open Go Go.Ab Go.RowKit Go.WideShapes Go.ChangeShapes Go.ChangeAt Go.Proofs.YtecgckocabkadaaGreatDoor
set_option maxRecDepth 100000
set_option maxHeartbeats 1000000
theorem u3 : Tryz.prog.underlying 3 = some (.int .i64) := by kernel_rfl
theorem u4 : Tryz.prog.underlying 4 = some .bool := by kernel_rfl
theorem u22 : Tryz.prog.underlying 22 = some (.slice 35) := by kernel_rfl
theorem u23 : Tryz.prog.underlying 23 = some (.slice 3) := by kernel_rfl
theorem c3 : Tryz.prog.cellsOf 3 = 1 := by kernel_rfl
theorem c35 : Tryz.prog.cellsOf 35 = 2 := by kernel_rfl
theorem s35 : shapeOf Tryz.prog 35 = [(3, 0), (3, 1)] := by kernel_rfl
theorem c25 : Tryz.prog.cellsOf 25 = 4 := by kernel_rfl
theorem s25 : shapeOf Tryz.prog 25 = [(3, 0), (3, 1), (22, 2), (23, 3)] := by kernel_rfl
theorem test_fits {k : Nat} {g : List D} (hg : g.length = 2) (h : Fits Tryz.prog k 35 g) : ∃ p : Int × Int, g = [.int .i64 p.1, .int .i64 p.2] ∧ True := by
  obtain ⟨_, h2⟩ := fits_struct s35 (by simp) h
  match g, hg with
  | [a, b], _ =>
    obtain ⟨x, hx, _⟩ := fits_int u3 (h2 (3, 0) (by simp))
    obtain ⟨y, hy, _⟩ := fits_int u3 (h2 (3, 1) (by simp))
    simp [c3] at hx hy
    subst hx; subst hy
    exact ⟨(x, y), rfl, trivial⟩
theorem scale_arg {k : Nat} {x : D} (h : ArgFits Tryz.prog k 25 x) : ∃ e l ts rs, x = scD e l ts rs ∧ ts.length ≤ maxLen ∧ rs.length ≤ maxLen := by
  obtain ⟨xs, rfl, hf⟩ := argFits_struct h (by rw [s25]; simp)
  obtain ⟨h1, h2⟩ := fits_struct s25 (by simp) hf
  rw [c25] at h1
  match xs, h1 with
  | [a, b, c, d], _ =>
    obtain ⟨e, he, _⟩ := fits_int u3 (h2 (3, 0) (by simp))
    obtain ⟨l, hl, _⟩ := fits_int u3 (h2 (3, 1) (by simp))
    obtain ⟨ts, ht, ht1, _⟩ := fits_slice (enc := fun p : Int × Int => [D.int .i64 p.1, D.int .i64 p.2]) (p := fun _ => True) u22 c35 (fun g hg hf => test_fits hg hf) (h2 (22, 2) (by simp))
    obtain ⟨rs, hr, hr1, _⟩ := fits_ints u23 c3 u3 (h2 (23, 3) (by simp))
    have c22 : Tryz.prog.cellsOf 22 = 1 := by kernel_rfl
    have c23 : Tryz.prog.cellsOf 23 = 1 := by kernel_rfl
    simp [c3, c22, c23] at he hl ht hr
    subst he; subst hl; subst ht; subst hr
    exact ⟨e, l, ts, rs, rfl, ht1, hr1⟩
theorem gP : Tryz.prog.globalNamed "internal/strconv.uint64pow10" = some 0 := by kernel_rfl
theorem plainLaid : (Rows.topPassedRow.laid.all fun x => x.2.handleName?.isNone) = true := by kernel_rfl
theorem table {W : World} (h : laidMetH Tryz.prog Rows.topPassedRow.laid W) : Lib.TabIs Tryz.prog W "internal/strconv.uint64pow10" .u64 Lib.pow10Tab := by
  rw [MakeChecks.laidMetH_plain _ _ _ plainLaid] at h
  exact Lib.tabIs_of_head (n := 20) (t := 211) (e := 135) gP (by kernel_rfl) (by kernel_rfl) (by kernel_rfl) (by kernel_rfl) (by kernel_rfl) (laidMet.tail (laidMet.tail h))
theorem glob_hold {W : World} (hL : laidMetH Tryz.prog Rows.topPassedRow.laid W) : ∀ g cs, E.glob g = some cs → ZAll W g ∧ VRdAt (ZAll W) W g 0 cs ∧ SizedAt W g cs.length := fun g cs hg => by
  have hg' : (match Nat.beq g 0 with | true => some pow10D | false => none) = some cs := hg
  split at hg'
  · rename_i h0
    cases hg'
    rw [Nat.eq_of_beq_eq_true h0]
    exact tab_at gP (table hL)
  · cases hg'
theorem okArgs : ∀ t ∈ [25, 3, 23], okTy Tryz.prog 4 t = true := by
  have h : ([25, 3, 23].all fun t => okTy Tryz.prog 4 t) = true := by kernel_rfl
  exact fun t ht => List.all_eq_true.1 h t ht
theorem args_law {W : World} (hL : laidMetH Tryz.prog Rows.topPassedRow.laid W) {args : Array Value} {xs : List D} (hx : VRdL (ZAll W) W xs args.toList) (hf : ArgsFit Tryz.prog 4 [25, 3, 23] xs) :
    Calls Tryz.prog 3 args W fun e W' => e = .returned (.bool true) ∧ Below W.heap.size W W' := by
  obtain ⟨x1, l1, rfl, f1, x2, l2, rfl, f2, x3, l3, rfl, f3, rfl⟩ := hf
  obtain ⟨e, l, ts, rs, rfl, _, _⟩ := scale_arg f1
  have no3 : ∀ fs, Tryz.prog.underlying 3 ≠ some (.struct fs) := fun fs => by rw [u3]; simp
  have no3' : ∀ n e, Tryz.prog.underlying 3 ≠ some (.array n e) := fun n e => by rw [u3]; simp
  have no23 : ∀ fs, Tryz.prog.underlying 23 ≠ some (.struct fs) := fun fs => by rw [u23]; simp
  have no23' : ∀ n e, Tryz.prog.underlying 23 ≠ some (.array n e) := fun n e => by rw [u23]; simp
  obtain ⟨off, ho, _⟩ := fits_int u3 (argFits_plain f2 no3 no3')
  obtain ⟨ws, hw, _, _⟩ := fits_ints u23 c3 u3 (argFits_plain f3 no23 no23')
  simp only [List.cons.injEq, and_true] at ho hw
  subst ho; subst hw
  exact calls_of (xs := [scD e l ts rs, .int .i64 off, .slice ws.length 1 (encI ws)]) (top_ok (e := e) (l := l) (off := off) (ts := ts) (rs := rs) (ws := ws)) hx (glob_hold hL)
end Go.Proofs.Px
