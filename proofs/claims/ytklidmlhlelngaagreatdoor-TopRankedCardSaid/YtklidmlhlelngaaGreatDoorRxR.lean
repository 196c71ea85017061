/-
  TopRanked: from the arguments to the call.
-/
import Derived.Test.YtklidmlhlelngaaGreatDoorRxM
import Derived.Test.YtklidmlhlelngaaGreatDoorZzRow2
import Derived.Test.YtklidmlhlelngaaGreatDoorCards
import Derived.Test.YtklidmlhlelngaaGreatDoorTie
import Derived.Lay
import Derived.Deep.DeepWitnessRowRef
import Derived.Stop.Joined
import Derived.SizedLaws
namespace Go.Proofs.Rx
open Go Go.Ab Go.RowKit Go.WideShapes Go.ChangeShapes Go.ChangeAt Go.Proofs.YtklidmlhlelngaaGreatDoor
set_option maxRecDepth 100000
set_option maxHeartbeats 1000000
theorem u3 : Tryz.prog.underlying 3 = some (.int .i64) := by kernel_rfl
theorem u4 : Tryz.prog.underlying 4 = some .bool := by kernel_rfl
theorem u22 : Tryz.prog.underlying 22 = some (.slice 35) := by kernel_rfl
theorem u25 : Tryz.prog.underlying 25 = some (.slice 3) := by kernel_rfl
theorem c3 : Tryz.prog.cellsOf 3 = 1 := by kernel_rfl
theorem c22 : Tryz.prog.cellsOf 22 = 1 := by kernel_rfl
theorem c25 : Tryz.prog.cellsOf 25 = 1 := by kernel_rfl
theorem c35 : Tryz.prog.cellsOf 35 = 3 := by kernel_rfl
theorem c24 : Tryz.prog.cellsOf 24 = 3 := by kernel_rfl
theorem s35 : shapeOf Tryz.prog 35 = [(3, 0), (3, 1), (3, 2)] := by kernel_rfl
theorem s24 : shapeOf Tryz.prog 24 = [(3, 0), (3, 1), (22, 2)] := by kernel_rfl
theorem b35 : Tryz.prog.bytesOf 35 = 24 := by kernel_rfl
theorem run_fits {k : Nat} {g : List D} (hg : g.length = 3) (h : Fits Tryz.prog k 35 g) : ∃ p : Run3, g = encU p ∧ True := by
  obtain ⟨_, h2⟩ := fits_struct s35 (by simp) h
  match g, hg with
  | [a, b, c], _ =>
    obtain ⟨x, hx, _⟩ := fits_int u3 (h2 (3, 0) (by simp))
    obtain ⟨y, hy, _⟩ := fits_int u3 (h2 (3, 1) (by simp))
    obtain ⟨z, hz, _⟩ := fits_int u3 (h2 (3, 2) (by simp))
    simp [c3] at hx hy hz
    subst hx; subst hy; subst hz
    exact ⟨⟨x, y, z⟩, rfl, trivial⟩
theorem lab_arg {k : Nat} {x : D} (h : ArgFits Tryz.prog k 24 x) : ∃ s st ds, x = laD s st ds := by
  obtain ⟨xs, rfl, hf⟩ := argFits_struct h (by rw [s24]; simp)
  obtain ⟨h1, h2⟩ := fits_struct s24 (by simp) hf
  rw [c24] at h1
  match xs, h1 with
  | [a, b, c], _ =>
    obtain ⟨s, he, _⟩ := fits_int u3 (h2 (3, 0) (by simp))
    obtain ⟨st, hl, _⟩ := fits_int u3 (h2 (3, 1) (by simp))
    obtain ⟨ds, ht, ht1, _⟩ := fits_slice (enc := encU) (p := fun _ => True) u22 c35 (fun g hg hf => run_fits hg hf) (h2 (22, 2) (by simp))
    simp [c3, c22] at he hl ht
    subst he; subst hl; subst ht
    exact ⟨s, st, ds, rfl⟩
/-- What lies within reach is no longer than what can be copied. -/
theorem runs_bound {H : Type} {enc : TypeId × Value → H} {W : World} {v : Value} {d : DataW H} {p : List MemPlace} {s st : Int} {dl : List Run3} (h : DataW.Trod enc Tryz.prog W 0 (fun _ => true) true 24 v d p)
    (hx : VRd (ZAll W) W (laD s st dl) v) (hw : ∀ n ∈ d.weights Tryz.prog 24, n ≤ reachBytes) : dl.length * 24 ≤ 140737488355328 := by
  obtain ⟨fuel, hf⟩ := h
  obtain ⟨vs, rfl, ⟨v0, l0, e0, _, v1, l1, e1, _, v2, l2, e2, hv2, e3⟩, _⟩ := hx
  obtain ⟨a, cap, rfl, _⟩ := hv2
  have hcs : (Value.agg vs).cells.toList = [v0, v1, .slice a dl.length cap] := by
    show vs.toList = _
    rw [e0, e1, e2, e3]
  rw [hcs] at hf
  have hs := s24
  unfold shapeOf at hs
  split at hs
  · rename_i fs hfs
    obtain ⟨xs, n, rfl, hxd, _, hxl, hfi⟩ := DataW.trod_struct hfs hf
    have hsz : fs.size = 3 := by have := congrArg List.length hs; simpa using this
    obtain ⟨f2, hf2⟩ : ∃ f2, fs[2]? = some f2 := ⟨fs[2]'(by omega), by simp⟩
    have hf2' : f2.type = 22 ∧ f2.offset = 2 := by
      have h2 := congrArg (fun l => l[2]?) hs
      simp only [List.getElem?_map, Array.getElem?_toList, hf2, Option.map_some, List.getElem?_cons_succ, List.getElem?_cons_zero, Option.some.injEq, Prod.mk.injEq] at h2
      exact h2
    have h2 := hfi 2 f2 hf2
    rw [hf2'.1, hf2'.2, c22] at h2
    obtain ⟨x2, hx2⟩ : ∃ x2, xs[2]? = some x2 := ⟨xs[2]'(by omega), by simp⟩
    rw [hx2] at h2
    rcases DataW.trod_slice u22 h2 with ⟨h3, _⟩ | ⟨a', len, cap', elems, rest, n', rfl, h3, h4, _, _, _, hel, _⟩
    · simp at h3
      omega
    · simp at h3
      obtain ⟨_, h5, _⟩ := h3
      have hd : d = .agg (xs.map (·.1)) := congrArg Prod.fst hxd
      have hmem : (elems.length + rest.length) * Tryz.prog.bytesOf 35 ∈ d.weights Tryz.prog 24 := by
        rw [hd]
        simp only [DataW.weights, hfs]
        refine DataW.weights_mem_each (j := 2) (t := 22) (d := x2.1) ?_ ?_ _ ?_
        · simp [hf2, hf2'.1]
        · simp [hx2]
        · rw [h4]; simp [DataW.weights]
      have := hw _ hmem
      rw [b35] at this
      unfold reachBytes at this
      have h6 : elems.length * 24 ≤ (elems.length + rest.length) * 24 := Nat.mul_le_mul_right _ (Nat.le_add_right ..)
      omega
  · cases hs
theorem gP : Tryz.prog.globalNamed "internal/strconv.uint64pow10" = some 0 := by kernel_rfl
theorem plainLaid : (Rows.topRankedRow.laid.all fun x => x.2.handleName?.isNone) = true := by kernel_rfl
theorem table {W : World} (h : laidMetH Tryz.prog Rows.topRankedRow.laid W) : Lib.TabIs Tryz.prog W "internal/strconv.uint64pow10" .u64 Lib.pow10Tab := by
  rw [MakeChecks.laidMetH_plain _ _ _ plainLaid] at h
  exact Lib.tabIs_of_head (n := 20) (t := 212) (e := 136) gP (by kernel_rfl) (by kernel_rfl) (by kernel_rfl) (by kernel_rfl) (by kernel_rfl) (laidMet.tail (laidMet.tail h))
theorem glob_hold {W : World} (hL : laidMetH Tryz.prog Rows.topRankedRow.laid W) : ∀ g cs, E.glob g = some cs → ZAll W g ∧ VRdAt (ZAll W) W g 0 cs ∧ SizedAt W g cs.length := fun g cs hg => by
  have hg' : (match Nat.beq g 0 with | true => some pow10D | false => none) = some cs := hg
  split at hg'
  · rename_i h0
    cases hg'
    rw [Nat.eq_of_beq_eq_true h0]
    exact tab_at gP (table hL)
  · cases hg'
theorem okArgs : ∀ t ∈ [24, 25, 25, 3, 3], okTy Tryz.prog 6 t = true := by
  have h : ([24, 25, 25, 3, 3].all fun t => okTy Tryz.prog 6 t) = true := by kernel_rfl
  exact fun t ht => List.all_eq_true.1 h t ht
end Go.Proofs.Rx
