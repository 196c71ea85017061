/-
  TopRanked: what the row asks of the call.
-/
import Derived.Test.YtklidmlhlelngaaGreatDoorRxR
namespace Go.Proofs.YtklidmlhlelngaaGreatDoor.TopRankedProof
open Go Go.Ab Go.Proofs.Rx Go.RowKit Go.WideShapes Go.ChangeShapes Go.ChangeAt
set_option maxRecDepth 100000
set_option maxHeartbeats 1000000
theorem own : ownKnob Tryz.prog.godebug = none := by kernel_rfl
theorem lists : ([24, 25, 25, 3, 3].all fun t => Tryz.prog.readableRec t && decide (t < Tryz.prog.types.size)) = true := by kernel_rfl
theorem results : Tryz.f3.resultTypes = #[4] := by kernel_rfl
theorem contract (H : Type) (enc : TypeId × Value → H) (W : World) (base : Nat) (args : Array Value) (ds gs : List (DataW H)) (before : List MemPlace) (more : List TypeId)
    (hval : ∀ (j : Nat) t v, Tryz.f3.params[j]? = some t → args[j]? = some v → Value.okWide Tryz.prog W .any base t v)
    (hW : DataW.Whole enc Tryz.prog Tryz.f3.params.toList Rows.topRankedSpec.vars false W args.toList ds gs before)
    (hsz : (DataW.weightsEach Tryz.prog (Tryz.f3.params.toList ++ more) (ds ++ gs)).all (· ≤ reachBytes) = true) (hL : laidMetH Tryz.prog Rows.topRankedRow.laid W) :
    Calls Tryz.prog 3 args W fun e W' => ∃ v, e = .returned v ∧ Rows.topRankedSpec.post enc Tryz.prog Tryz.f3 false true false false W args v W' := by
  have hpar : Tryz.f3.params.toList = [24, 25, 25, 3, 3] := by rw [Tryz.params3]
  have hv : Rows.topRankedSpec.vars = [] := rfl
  have hW' := hW
  rw [hv] at hW'
  obtain ⟨rfl, hA⟩ := vars_none hW'
  rw [hpar] at hA hsz
  obtain ⟨xs, k1, k2⟩ := args_fit (k := 6) okArgs (fun j t v h1 h2 => hval j t v (by rw [← Array.getElem?_toList, hpar]; exact h1) (by rw [← Array.getElem?_toList]; exact h2)) hA
  obtain ⟨v1, vs1, d1, ds1, p1, _, ha1, rfl, _, h1, r1⟩ := trodAll_cons hA
  obtain ⟨v2, vs2, d2, ds2, _, _, _, rfl, _, _, r2⟩ := trodAll_cons r1
  obtain ⟨v3, vs3, d3, ds3, _, _, _, rfl, _, _, r3⟩ := trodAll_cons r2
  obtain ⟨v4, vs4, d4, ds4, _, _, _, rfl, _, _, r4⟩ := trodAll_cons r3
  obtain ⟨v5, vs5, d5, ds5, _, _, _, rfl, _, _, r5⟩ := trodAll_cons r4
  obtain ⟨_, rfl, _⟩ := trodAll_nil r5
  have hfn : Rows.topRankedSpec.fn H [d1, d2, d3, d4, d5] = { results := [.lit (.bool true)], args := [d1, d2, d3, d4, d5] } := rfl
  obtain ⟨x1, l1, rfl, f1, x2, l2, rfl, f2, x3, l3, rfl, f3, x4, l4, rfl, f4, x5, l5, rfl, f5, rfl⟩ := k2
  obtain ⟨s, st, dl, rfl⟩ := lab_arg f1
  have no3 : ∀ fs, Tryz.prog.underlying 3 ≠ some (.struct fs) := fun fs => by rw [u3]; simp
  have no3' : ∀ n e, Tryz.prog.underlying 3 ≠ some (.array n e) := fun n e => by rw [u3]; simp
  have no25 : ∀ fs, Tryz.prog.underlying 25 ≠ some (.struct fs) := fun fs => by rw [u25]; simp
  have no25' : ∀ n e, Tryz.prog.underlying 25 ≠ some (.array n e) := fun n e => by rw [u25]; simp
  obtain ⟨ws, hw2, _, _⟩ := fits_ints u25 c3 u3 (argFits_plain f2 no25 no25')
  obtain ⟨ch, hw3, _, _⟩ := fits_ints u25 c3 u3 (argFits_plain f3 no25 no25')
  obtain ⟨a, hw4, _⟩ := fits_int u3 (argFits_plain f4 no3 no3')
  obtain ⟨b, hw5, _⟩ := fits_int u3 (argFits_plain f5 no3 no3')
  simp only [List.cons.injEq, and_true] at hw2 hw3 hw4 hw5
  subst hw2; subst hw3; subst hw4; subst hw5
  have hb : dl.length * 24 ≤ 140737488355328 := by
    have hk := k1
    rw [ha1] at hk
    obtain ⟨u, us, e, hx, _⟩ := hk
    obtain ⟨rfl, _⟩ := List.cons.inj e
    refine runs_bound h1 hx fun q hq => ?_
    have := List.all_eq_true.1 hsz q (DataW.weights_mem_each (j := 0) rfl rfl q hq)
    simpa using this
  refine (calls_of (xs := [laD s st dl, .slice ws.length 1 (encI ws), .slice ch.length 1 (encI ch), .int .i64 a, .int .i64 b]) (top_ok s st a b dl ws ch hb) k1 (glob_hold hL)).mono fun e W' ⟨he, hbl⟩ => ?_
  subst he
  refine ⟨_, rfl, post_true hv hW hfn results u4 (by kernel_rfl) ?_ hbl⟩
  intro t ht
  rw [hpar] at ht
  have := List.all_eq_true.1 lists t ht
  simpa using this
end Go.Proofs.YtklidmlhlelngaaGreatDoor.TopRankedProof
