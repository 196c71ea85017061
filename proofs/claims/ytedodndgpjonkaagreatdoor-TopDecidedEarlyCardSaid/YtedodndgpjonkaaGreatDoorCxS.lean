/-
  TopDecidedEarly: what the row asks of the call.
-/
import Derived.Test.YtedodndgpjonkaaGreatDoorCxR
namespace Go.Proofs.YtedodndgpjonkaaGreatDoor.TopDecidedEarlyProof
open Go Go.Ab Go.Proofs.Cx Go.RowKit Go.WideShapes Go.ChangeShapes Go.ChangeAt
set_option maxRecDepth 100000
set_option maxHeartbeats 1000000
theorem own : ownKnob Tryz.prog.godebug = none := by kernel_rfl
theorem lists : ([25, 23].all fun t => Tryz.prog.readableRec t && decide (t < Tryz.prog.types.size)) = true := by kernel_rfl
theorem results : Tryz.f3.resultTypes = #[4] := by kernel_rfl
theorem contract (H : Type) (enc : TypeId × Value → H) (W : World) (base : Nat) (args : Array Value) (ds gs : List (DataW H)) (before : List MemPlace) (more : List TypeId)
    (hval : ∀ (j : Nat) t v, Tryz.f3.params[j]? = some t → args[j]? = some v → Value.okWide Tryz.prog W .any base t v)
    (hW : DataW.Whole enc Tryz.prog Tryz.f3.params.toList Rows.topDecidedEarlySpec.vars false W args.toList ds gs before)
    (hsz : (DataW.weightsEach Tryz.prog (Tryz.f3.params.toList ++ more) (ds ++ gs)).all (· ≤ reachBytes) = true) (hL : laidMetH Tryz.prog Rows.topDecidedEarlyRow.laid W) :
    Calls Tryz.prog 3 args W fun e W' => ∃ v, e = .returned v ∧ Rows.topDecidedEarlySpec.post enc Tryz.prog Tryz.f3 false true false false W args v W' := by
  have hpar : Tryz.f3.params.toList = [25, 23] := by rw [Tryz.params3]
  have hv : Rows.topDecidedEarlySpec.vars = [] := rfl
  have hW' := hW
  rw [hv] at hW'
  obtain ⟨rfl, hA⟩ := vars_none hW'
  rw [hpar] at hA hsz
  obtain ⟨xs, k1, k2⟩ := args_fit (k := 6) okArgs (fun j t v h1 h2 => hval j t v (by rw [← Array.getElem?_toList, hpar]; exact h1) (by rw [← Array.getElem?_toList]; exact h2)) hA
  obtain ⟨v1, vs1, d1, ds1, p1, _, ha1, rfl, _, h1, r1⟩ := trodAll_cons hA
  obtain ⟨v2, vs2, d2, ds2, _, _, _, rfl, _, _, r2⟩ := trodAll_cons r1
  obtain ⟨_, rfl, _⟩ := trodAll_nil r2
  have hfn : Rows.topDecidedEarlySpec.fn H [d1, d2] = { results := [.lit (.bool true)], args := [d1, d2] } := rfl
  obtain ⟨x1, l1, rfl, f1, x2, l2, rfl, f2, rfl⟩ := k2
  obtain ⟨nn, rr, bb, Q, R, rfl⟩ := cup_arg f1
  obtain ⟨F, rfl⟩ := further_arg f2
  have hb : ∀ r ∈ R, r.length * 8 ≤ 140737488355328 := by
    have hk := k1
    rw [ha1] at hk
    obtain ⟨u, us, e, hx, _⟩ := hk
    obtain ⟨rfl, _⟩ := List.cons.inj e
    refine rows_bound h1 hx fun q hq => ?_
    have := List.all_eq_true.1 hsz q (DataW.weights_mem_each (j := 0) rfl rfl q hq)
    simpa using this
  refine (calls_of (xs := [cupD nn rr bb Q R, .slice F.length 1 (encLL F)]) (top_ok nn rr bb Q R F hb) k1 (glob_hold hL)).mono fun e W' ⟨he, hbl⟩ => ?_
  subst he
  refine ⟨_, rfl, post_true hv hW hfn results u4 (by kernel_rfl) ?_ hbl⟩
  intro t ht
  rw [hpar] at ht
  have := List.all_eq_true.1 lists t ht
  simpa using this
end Go.Proofs.YtedodndgpjonkaaGreatDoor.TopDecidedEarlyProof
