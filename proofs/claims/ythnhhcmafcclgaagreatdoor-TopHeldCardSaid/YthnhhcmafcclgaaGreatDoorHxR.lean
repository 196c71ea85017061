/-
  TopHeld: from the arguments to the call.
-/
import Derived.Test.YthnhhcmafcclgaaGreatDoorHxK
import Derived.Test.YthnhhcmafcclgaaGreatDoorZzRow2
import Derived.Test.YthnhhcmafcclgaaGreatDoorCards
import Derived.Test.YthnhhcmafcclgaaGreatDoorTie
import Derived.Lay
import Derived.Deep.DeepWitnessRowRef
import Derived.Stop.Joined
import Derived.SizedLaws
namespace Go.Proofs.Hx
open Go Go.Ab Go.RowKit Go.WideShapes Go.ChangeShapes Go.ChangeAt Go.Proofs.YthnhhcmafcclgaaGreatDoor
set_option maxRecDepth 100000
set_option maxHeartbeats 1000000
theorem u3 : Tryz.prog.underlying 3 = some (.int .i64) := by kernel_rfl
theorem u4 : Tryz.prog.underlying 4 = some .bool := by kernel_rfl
theorem u22 : Tryz.prog.underlying 22 = some (.slice 52) := by kernel_rfl
theorem u25 : Tryz.prog.underlying 25 = some (.slice 3) := by kernel_rfl
theorem c3 : Tryz.prog.cellsOf 3 = 1 := by kernel_rfl
theorem c22 : Tryz.prog.cellsOf 22 = 1 := by kernel_rfl
theorem c25 : Tryz.prog.cellsOf 25 = 1 := by kernel_rfl
theorem c50 : Tryz.prog.cellsOf 50 = 2 := by kernel_rfl
theorem c52 : Tryz.prog.cellsOf 52 = 6 := by kernel_rfl
theorem c24 : Tryz.prog.cellsOf 24 = 3 := by kernel_rfl
theorem c27 : Tryz.prog.cellsOf 27 = 3 := by kernel_rfl
theorem cc29 : Tryz.prog.cellsOf 29 = 2 := by kernel_rfl
theorem s50 : shapeOf Tryz.prog 50 = [(3, 0), (3, 1)] := by kernel_rfl
theorem s52 : shapeOf Tryz.prog 52 = [(50, 0), (50, 2), (50, 4)] := by kernel_rfl
theorem s24 : shapeOf Tryz.prog 24 = [(3, 0), (3, 1), (22, 2)] := by kernel_rfl
theorem s27 : shapeOf Tryz.prog 27 = [(25, 0), (25, 1), (25, 2)] := by kernel_rfl
theorem s29 : shapeOf Tryz.prog 29 = [(3, 0), (3, 1)] := by kernel_rfl
theorem b52 : Tryz.prog.bytesOf 52 = 48 := by kernel_rfl
theorem span_fits {k : Nat} {a b : D} (h : Fits Tryz.prog k 50 [a, b]) : ∃ x y, a = .int .i64 x ∧ b = .int .i64 y := by
  obtain ⟨_, h2⟩ := fits_struct s50 (by simp) h
  obtain ⟨x, hx, _⟩ := fits_int u3 (h2 (3, 0) (by simp))
  obtain ⟨y, hy, _⟩ := fits_int u3 (h2 (3, 1) (by simp))
  simp [c3] at hx hy
  exact ⟨x, y, hx, hy⟩
theorem day_fits {k : Nat} {g : List D} (hg : g.length = 6) (h : Fits Tryz.prog k 52 g) : ∃ p : Dy6, g = encDy p ∧ True := by
  obtain ⟨_, h2⟩ := fits_struct s52 (by simp) h
  match g, hg with
  | [a, b, c, d, e, f], _ =>
    have h3 := h2 (50, 0) (by simp)
    have h4 := h2 (50, 2) (by simp)
    have h5 := h2 (50, 4) (by simp)
    simp only [c50, List.drop_zero, List.drop_succ_cons, List.take_succ_cons, List.take_zero] at h3 h4 h5
    obtain ⟨x1, y1, rfl, rfl⟩ := span_fits h3
    obtain ⟨x2, y2, rfl, rfl⟩ := span_fits h4
    obtain ⟨x3, y3, rfl, rfl⟩ := span_fits h5
    exact ⟨⟨x1, y1, x2, y2, x3, y3⟩, rfl, trivial⟩
theorem winter_arg {k : Nat} {x : D} (h : ArgFits Tryz.prog k 24 x) : ∃ s st ds, x = wD s st ds := by
  obtain ⟨xs, rfl, hf⟩ := argFits_struct h (by rw [s24]; simp)
  obtain ⟨h1, h2⟩ := fits_struct s24 (by simp) hf
  rw [c24] at h1
  match xs, h1 with
  | [a, b, c], _ =>
    obtain ⟨s, he, _⟩ := fits_int u3 (h2 (3, 0) (by simp))
    obtain ⟨st, hl, _⟩ := fits_int u3 (h2 (3, 1) (by simp))
    obtain ⟨ds, ht, ht1, _⟩ := fits_slice (enc := encDy) (p := fun _ => True) u22 c52 (fun g hg hf => day_fits hg hf) (h2 (22, 2) (by simp))
    simp [c3, c22] at he hl ht
    subst he; subst hl; subst ht
    exact ⟨s, st, ds, rfl⟩
theorem weather_arg {k : Nat} {x : D} (h : ArgFits Tryz.prog k 27 x) : ∃ n m l, x = weD n m l := by
  obtain ⟨xs, rfl, hf⟩ := argFits_struct h (by rw [s27]; simp)
  obtain ⟨h1, h2⟩ := fits_struct s27 (by simp) hf
  rw [c27] at h1
  match xs, h1 with
  | [a, b, c], _ =>
    obtain ⟨n, h3, _, _⟩ := fits_ints u25 c3 u3 (h2 (25, 0) (by simp))
    obtain ⟨m, h4, _, _⟩ := fits_ints u25 c3 u3 (h2 (25, 1) (by simp))
    obtain ⟨l, h5, _, _⟩ := fits_ints u25 c3 u3 (h2 (25, 2) (by simp))
    simp [c25] at h3 h4 h5
    subst h3; subst h4; subst h5
    exact ⟨n, m, l, rfl⟩
theorem proof_arg {k : Nat} {x : D} (h : ArgFits Tryz.prog k 29 x) : ∃ a b, x = plD a b := by
  obtain ⟨xs, rfl, hf⟩ := argFits_struct h (by rw [s29]; simp)
  obtain ⟨h1, h2⟩ := fits_struct s29 (by simp) hf
  rw [cc29] at h1
  match xs, h1 with
  | [a, b], _ =>
    obtain ⟨x, h3, _⟩ := fits_int u3 (h2 (3, 0) (by simp))
    obtain ⟨y, h4, _⟩ := fits_int u3 (h2 (3, 1) (by simp))
    simp [c3] at h3 h4
    subst h3; subst h4
    exact ⟨x, y, rfl⟩
/-- What lies within reach is no longer than what can be copied. -/
theorem days_bound {H : Type} {enc : TypeId × Value → H} {W : World} {v : Value} {d : DataW H} {p : List MemPlace} {s st : Int} {dl : List Dy6} (h : DataW.Trod enc Tryz.prog W 0 (fun _ => true) true 24 v d p)
    (hx : VRd (ZAll W) W (wD s st dl) v) (hw : ∀ n ∈ d.weights Tryz.prog 24, n ≤ reachBytes) : dl.length * 48 ≤ 140737488355328 := by
  obtain ⟨fuel, hf⟩ := h
  obtain ⟨vs, rfl, ⟨v0, l0, e0, _, v1, l1, e1, _, v2, l2, e2, hv2, e3⟩, _⟩ := hx
  obtain ⟨a, cap, rfl, _⟩ := hv2
  have hcs : (Value.agg vs).cells.toList = [v0, v1, .slice a dl.length cap] := by
    show vs.toList = _
    rw [e0, e1, e2, e3]
  rw [hcs] at hf
  have hs := s24
  unfold shapeOf at hs
  split at hs
  · rename_i fs hfs
    obtain ⟨xs, n, rfl, hxd, _, hxl, hfi⟩ := DataW.trod_struct hfs hf
    have hsz : fs.size = 3 := by have := congrArg List.length hs; simpa using this
    obtain ⟨f2, hf2⟩ : ∃ f2, fs[2]? = some f2 := ⟨fs[2]'(by omega), by simp⟩
    have hf2' : f2.type = 22 ∧ f2.offset = 2 := by
      have h2 := congrArg (fun l => l[2]?) hs
      simp only [List.getElem?_map, Array.getElem?_toList, hf2, Option.map_some, List.getElem?_cons_succ, List.getElem?_cons_zero, Option.some.injEq, Prod.mk.injEq] at h2
      exact h2
    have h2 := hfi 2 f2 hf2
    rw [hf2'.1, hf2'.2, c22] at h2
    obtain ⟨x2, hx2⟩ : ∃ x2, xs[2]? = some x2 := ⟨xs[2]'(by omega), by simp⟩
    rw [hx2] at h2
    rcases DataW.trod_slice u22 h2 with ⟨h3, _⟩ | ⟨a', len, cap', elems, rest, n', rfl, h3, h4, _, _, _, hel, _⟩
    · simp at h3
      omega
    · simp at h3
      obtain ⟨_, h5, _⟩ := h3
      have hd : d = .agg (xs.map (·.1)) := congrArg Prod.fst hxd
      have hmem : (elems.length + rest.length) * Tryz.prog.bytesOf 52 ∈ d.weights Tryz.prog 24 := by
        rw [hd]
        simp only [DataW.weights, hfs]
        refine DataW.weights_mem_each (j := 2) (t := 22) (d := x2.1) ?_ ?_ _ ?_
        · simp [hf2, hf2'.1]
        · simp [hx2]
        · rw [h4]; simp [DataW.weights]
      have := hw _ hmem
      rw [b52] at this
      unfold reachBytes at this
      have h6 : elems.length * 48 ≤ (elems.length + rest.length) * 48 := Nat.mul_le_mul_right _ (Nat.le_add_right ..)
      omega
  · cases hs
theorem gP : Tryz.prog.globalNamed "internal/strconv.uint64pow10" = some 0 := by kernel_rfl
theorem plainLaid : (Rows.topHeldRow.laid.all fun x => x.2.handleName?.isNone) = true := by kernel_rfl
theorem table {W : World} (h : laidMetH Tryz.prog Rows.topHeldRow.laid W) : Lib.TabIs Tryz.prog W "internal/strconv.uint64pow10" .u64 Lib.pow10Tab := by
  rw [MakeChecks.laidMetH_plain _ _ _ plainLaid] at h
  exact Lib.tabIs_of_head (n := 20) (t := 205) (e := 128) gP (by kernel_rfl) (by kernel_rfl) (by kernel_rfl) (by kernel_rfl) (by kernel_rfl) (laidMet.tail (laidMet.tail h))
theorem glob_hold {W : World} (hL : laidMetH Tryz.prog Rows.topHeldRow.laid W) : ∀ g cs, E.glob g = some cs → ZAll W g ∧ VRdAt (ZAll W) W g 0 cs ∧ SizedAt W g cs.length := fun g cs hg => by
  have hg' : (match Nat.beq g 0 with | true => some pow10D | false => none) = some cs := hg
  split at hg'
  · rename_i h0
    cases hg'
    rw [Nat.eq_of_beq_eq_true h0]
    exact tab_at gP (table hL)
  · cases hg'
theorem okArgs : ∀ t ∈ [24, 27, 29], okTy Tryz.prog 6 t = true := by
  have h : ([24, 27, 29].all fun t => okTy Tryz.prog 6 t) = true := by kernel_rfl
  exact fun t ht => List.all_eq_true.1 h t ht
end Go.Proofs.Hx
