/-
  TopLaid: from the arguments to the call.
-/
import Derived.Test.YtldpapiaonchaaaGreatDoorDxZ
import Derived.Test.YtldpapiaonchaaaGreatDoorZzRow
import Derived.Test.YtldpapiaonchaaaGreatDoorCards
import Derived.Test.YtldpapiaonchaaaGreatDoorTie
import Derived.Lay
import Derived.Deep.DeepWitnessRowRef
import Derived.Stop.Joined
import Derived.SizedLaws
section
namespace Go.Proofs.Dx
open Go Go.Ab Go.RowKit Go.WideShapes Go.ChangeShapes Go.ChangeAt Go.Proofs.YtldpapiaonchaaaGreatDoor
set_option maxRecDepth 100000
set_option maxHeartbeats 1000000
theorem u3 : Tryz.prog.underlying 3 = some (.int .i64) := by kernel_rfl
theorem u4 : Tryz.prog.underlying 4 = some .bool := by kernel_rfl
theorem u22 : Tryz.prog.underlying 22 = some (.slice 3) := by kernel_rfl
theorem u23 : Tryz.prog.underlying 23 = some (.slice 57) := by kernel_rfl
theorem u26 : Tryz.prog.underlying 26 = some (.slice 22) := by kernel_rfl
theorem c3 : Tryz.prog.cellsOf 3 = 1 := by kernel_rfl
theorem c22 : Tryz.prog.cellsOf 22 = 1 := by kernel_rfl
theorem c23 : Tryz.prog.cellsOf 23 = 1 := by kernel_rfl
theorem cc57 : Tryz.prog.cellsOf 57 = 2 := by kernel_rfl
theorem c25 : Tryz.prog.cellsOf 25 = 3 := by kernel_rfl
theorem s57 : shapeOf Tryz.prog 57 = [(3, 0), (3, 1)] := by kernel_rfl
theorem s25 : shapeOf Tryz.prog 25 = [(22, 0), (22, 1), (23, 2)] := by kernel_rfl
theorem b57 : Tryz.prog.bytesOf 57 = 16 := by kernel_rfl
theorem pair_fits {k : Nat} {g : List D} (hg : g.length = 2) (h : Fits Tryz.prog k 57 g) : ∃ p : Int × Int, g = [.int .i64 p.1, .int .i64 p.2] ∧ True := by
  obtain ⟨_, h2⟩ := fits_struct s57 (by simp) h
  match g, hg with
  | [a, b], _ =>
    obtain ⟨x, hx, _⟩ := fits_int u3 (h2 (3, 0) (by simp))
    obtain ⟨y, hy, _⟩ := fits_int u3 (h2 (3, 1) (by simp))
    simp [c3] at hx hy
    subst hx; subst hy
    exact ⟨(x, y), rfl, trivial⟩
theorem row_fits {k : Nat} {g : List D} (h : Fits Tryz.prog k 22 g) : ∃ r : List Int, g = [rowD r] ∧ True := by
  obtain ⟨l, h1, _, _⟩ := fits_ints u22 c3 u3 h
  exact ⟨l, h1, trivial⟩
theorem flat_rows (R : List (List Int)) : (R.flatMap fun r => [rowD r]) = encLL R := by
  induction R with
  | nil => rfl
  | cons a l ih => rw [List.flatMap_cons, ih]; rfl
theorem rows_fits {k : Nat} {xs : List D} (h : Fits Tryz.prog k 26 xs) : ∃ R : List (List Int), xs = [.slice R.length 1 (encLL R)] := by
  obtain ⟨R, h1, _, _⟩ := fits_slice (enc := fun r => [rowD r]) (p := fun _ => True) u26 c22 (fun g _ hf => row_fits hf) h
  rw [flat_rows] at h1
  exact ⟨R, h1⟩
theorem rows_arg {k : Nat} {x : D} (h : ArgFits Tryz.prog k 26 x) : ∃ R : List (List Int), x = .slice R.length 1 (encLL R) := by
  obtain ⟨R, h2⟩ := rows_fits (argFits_plain h (fun fs => by rw [u26]; simp) (fun n e => by rw [u26]; simp))
  exact ⟨R, (List.cons.inj h2).1⟩
theorem list_arg {k : Nat} {x : D} (h : ArgFits Tryz.prog k 22 x) : ∃ F : List Int, x = sl F := by
  obtain ⟨F, h2, _, _⟩ := fits_ints u22 c3 u3 (argFits_plain h (fun fs => by rw [u22]; simp) (fun n e => by rw [u22]; simp))
  exact ⟨F, (List.cons.inj h2).1⟩
theorem int_arg {k : Nat} {x : D} (h : ArgFits Tryz.prog k 3 x) : ∃ n : Int, x = .int .i64 n := by
  obtain ⟨n, h2, _⟩ := fits_int u3 (argFits_plain h (fun fs => by rw [u3]; simp) (fun n e => by rw [u3]; simp))
  exact ⟨n, (List.cons.inj h2).1⟩
theorem bout_arg {k : Nat} {x : D} (h : ArgFits Tryz.prog k 25 x) : ∃ S N A, x = boD S N A := by
  obtain ⟨xs, rfl, hf⟩ := argFits_struct h (by rw [s25]; simp)
  obtain ⟨h1, h2⟩ := fits_struct s25 (by simp) hf
  rw [c25] at h1
  match xs, h1 with
  | [a, b, c], _ =>
    obtain ⟨S, he, _, _⟩ := fits_ints u22 c3 u3 (h2 (22, 0) (by simp))
    obtain ⟨N, hl, _, _⟩ := fits_ints u22 c3 u3 (h2 (22, 1) (by simp))
    obtain ⟨A, ht, ht1, _⟩ := fits_slice (enc := fun p : Int × Int => [.int .i64 p.1, .int .i64 p.2]) (p := fun _ => True) u23 cc57 (fun g hg hf => pair_fits hg hf) (h2 (23, 2) (by simp))
    simp [c22, c23] at he hl ht
    subst he; subst hl; subst ht
    exact ⟨S, N, A, rfl⟩
/-- What lies within reach is no longer than what can be copied. -/
theorem across_bound {H : Type} {enc : TypeId × Value → H} {W : World} {v : Value} {d : DataW H} {p : List MemPlace} {S N : List Int} {A : List (Int × Int)} (h : DataW.Trod enc Tryz.prog W 0 (fun _ => true) true 25 v d p)
    (hx : VRd (ZAll W) W (boD S N A) v) (hw : ∀ n ∈ d.weights Tryz.prog 25, n ≤ reachBytes) : A.length * 16 ≤ 140737488355328 := by
  obtain ⟨fuel, hf⟩ := h
  obtain ⟨vs, rfl, ⟨v0, l0, e0, _, v1, l1, e1, _, v2, l2, e2, hv2, e3⟩, _⟩ := hx
  obtain ⟨a, cap, rfl, _⟩ := hv2
  have hcs : (Value.agg vs).cells.toList = [v0, v1, .slice a A.length cap] := by
    show vs.toList = _
    rw [e0, e1, e2, e3]
  rw [hcs] at hf
  have hs := s25
  unfold shapeOf at hs
  split at hs
  · rename_i fs hfs
    obtain ⟨xs, n, rfl, hxd, _, hxl, hfi⟩ := DataW.trod_struct hfs hf
    have hsz : fs.size = 3 := by have := congrArg List.length hs; simpa using this
    obtain ⟨f2, hf2⟩ : ∃ f2, fs[2]? = some f2 := ⟨fs[2]'(by omega), by simp⟩
    have hf2' : f2.type = 23 ∧ f2.offset = 2 := by
      have h2 := congrArg (fun l => l[2]?) hs
      simp only [List.getElem?_map, Array.getElem?_toList, hf2, Option.map_some, List.getElem?_cons_succ, List.getElem?_cons_zero, Option.some.injEq, Prod.mk.injEq] at h2
      exact h2
    have h2 := hfi 2 f2 hf2
    rw [hf2'.1, hf2'.2, c23] at h2
    obtain ⟨x2, hx2⟩ : ∃ x2, xs[2]? = some x2 := ⟨xs[2]'(by omega), by simp⟩
    rw [hx2] at h2
    rcases DataW.trod_slice u23 h2 with ⟨h3, _⟩ | ⟨a', len, cap', elems, rest, n', rfl, h3, h4, _, _, _, hel, _⟩
    · simp at h3
      omega
    · simp at h3
      obtain ⟨_, h5, _⟩ := h3
      have hd : d = .agg (xs.map (·.1)) := congrArg Prod.fst hxd
      have hmem : (elems.length + rest.length) * Tryz.prog.bytesOf 57 ∈ d.weights Tryz.prog 25 := by
        rw [hd]
        simp only [DataW.weights, hfs]
        refine DataW.weights_mem_each (j := 2) (t := 23) (d := x2.1) ?_ ?_ _ ?_
        · simp [hf2, hf2'.1]
        · simp [hx2]
        · rw [h4]; simp [DataW.weights]
      have := hw _ hmem
      rw [b57] at this
      unfold reachBytes at this
      have h6 : elems.length * 16 ≤ (elems.length + rest.length) * 16 := Nat.mul_le_mul_right _ (Nat.le_add_right ..)
      omega
  · cases hs
theorem gP : Tryz.prog.globalNamed "internal/strconv.uint64pow10" = some 0 := by kernel_rfl
theorem plainLaid : (Rows.topLaidRow.laid.all fun x => x.2.handleName?.isNone) = true := by kernel_rfl
theorem table {W : World} (h : laidMetH Tryz.prog Rows.topLaidRow.laid W) : Lib.TabIs Tryz.prog W "internal/strconv.uint64pow10" .u64 Lib.pow10Tab := by
  rw [MakeChecks.laidMetH_plain _ _ _ plainLaid] at h
  exact Lib.tabIs_of_head (n := 20) (t := 222) (e := 146) gP (by kernel_rfl) (by kernel_rfl) (by kernel_rfl) (by kernel_rfl) (by kernel_rfl) (laidMet.tail (laidMet.tail h))
theorem glob_hold {W : World} (hL : laidMetH Tryz.prog Rows.topLaidRow.laid W) : ∀ g cs, E.glob g = some cs → ZAll W g ∧ VRdAt (ZAll W) W g 0 cs ∧ SizedAt W g cs.length := fun g cs hg => by
  have hg' : (match Nat.beq g 0 with | true => some pow10D | false => none) = some cs := hg
  split at hg'
  · rename_i h0
    cases hg'
    rw [Nat.eq_of_beq_eq_true h0]
    exact tab_at gP (table hL)
  · cases hg'
theorem okArgs : ∀ t ∈ [25, 26, 22, 3, 3], okTy Tryz.prog 6 t = true := by
  have h : ([25, 26, 22, 3, 3].all fun t => okTy Tryz.prog 6 t) = true := by kernel_rfl
  exact fun t ht => List.all_eq_true.1 h t ht
end Go.Proofs.Dx
end
section
/-
  TopLaid: what the row asks of the call.
-/
namespace Go.Proofs.YtldpapiaonchaaaGreatDoor.TopLaidProof
open Go Go.Ab Go.Proofs.Dx Go.RowKit Go.WideShapes Go.ChangeShapes Go.ChangeAt
set_option maxRecDepth 100000
set_option maxHeartbeats 1000000
theorem own : ownKnob Tryz.prog.godebug = none := by kernel_rfl
theorem lists : ([25, 26, 22, 3, 3].all fun t => Tryz.prog.readableRec t && decide (t < Tryz.prog.types.size)) = true := by kernel_rfl
theorem results : Tryz.f3.resultTypes = #[4] := by kernel_rfl
theorem contract (H : Type) (enc : TypeId × Value → H) (W : World) (base : Nat) (args : Array Value) (ds gs : List (DataW H)) (before : List MemPlace) (more : List TypeId)
    (hval : ∀ (j : Nat) t v, Tryz.f3.params[j]? = some t → args[j]? = some v → Value.okWide Tryz.prog W .any base t v)
    (hW : DataW.Whole enc Tryz.prog Tryz.f3.params.toList Rows.topLaidSpec.vars false W args.toList ds gs before)
    (hsz : (DataW.weightsEach Tryz.prog (Tryz.f3.params.toList ++ more) (ds ++ gs)).all (· ≤ reachBytes) = true) (hL : laidMetH Tryz.prog Rows.topLaidRow.laid W) :
    Calls Tryz.prog 3 args W fun e W' => ∃ v, e = .returned v ∧ Rows.topLaidSpec.post enc Tryz.prog Tryz.f3 false true false false W args v W' := by
  have hpar : Tryz.f3.params.toList = [25, 26, 22, 3, 3] := by rw [Tryz.params3]
  have hv : Rows.topLaidSpec.vars = [] := rfl
  have hW' := hW
  rw [hv] at hW'
  obtain ⟨rfl, hA⟩ := vars_none hW'
  rw [hpar] at hA hsz
  obtain ⟨xs, k1, k2⟩ := args_fit (k := 6) okArgs (fun j t v h1 h2 => hval j t v (by rw [← Array.getElem?_toList, hpar]; exact h1) (by rw [← Array.getElem?_toList]; exact h2)) hA
  obtain ⟨v1, vs1, d1, ds1, p1, _, ha1, rfl, _, h1, r1⟩ := trodAll_cons hA
  obtain ⟨v2, vs2, d2, ds2, _, _, _, rfl, _, _, r2⟩ := trodAll_cons r1
  obtain ⟨v3, vs3, d3, ds3, _, _, _, rfl, _, _, r3⟩ := trodAll_cons r2
  obtain ⟨v4, vs4, d4, ds4, _, _, _, rfl, _, _, r4⟩ := trodAll_cons r3
  obtain ⟨v5, vs5, d5, ds5, _, _, _, rfl, _, _, r5⟩ := trodAll_cons r4
  obtain ⟨_, rfl, _⟩ := trodAll_nil r5
  have hfn : Rows.topLaidSpec.fn H [d1, d2, d3, d4, d5] = { results := [.lit (.bool true)], args := [d1, d2, d3, d4, d5] } := rfl
  obtain ⟨x1, l1, rfl, f1, x2, l2, rfl, f2, x3, l3, rfl, f3, x4, l4, rfl, f4, x5, l5, rfl, f5, rfl⟩ := k2
  obtain ⟨S, N, A, rfl⟩ := bout_arg f1
  obtain ⟨R, rfl⟩ := rows_arg f2
  obtain ⟨l, rfl⟩ := list_arg f3
  obtain ⟨a, rfl⟩ := int_arg f4
  obtain ⟨b, rfl⟩ := int_arg f5
  have hb : A.length * 16 ≤ 140737488355328 := by
    have hk := k1
    rw [ha1] at hk
    obtain ⟨u, us, e, hx, _⟩ := hk
    obtain ⟨rfl, _⟩ := List.cons.inj e
    refine across_bound h1 hx fun q hq => ?_
    have := List.all_eq_true.1 hsz q (DataW.weights_mem_each (j := 0) rfl rfl q hq)
    simpa using this
  refine (calls_of (xs := [boD S N A, .slice R.length 1 (encLL R), sl l, .int .i64 a, .int .i64 b]) (Laid3 S N A R l a b hb) k1 (glob_hold hL)).mono fun e W' ⟨he, hbl⟩ => ?_
  subst he
  refine ⟨_, rfl, post_true hv hW hfn results u4 (by kernel_rfl) ?_ hbl⟩
  intro t ht
  rw [hpar] at ht
  have := List.all_eq_true.1 lists t ht
  simpa using this
end Go.Proofs.YtldpapiaonchaaaGreatDoor.TopLaidProof
end
