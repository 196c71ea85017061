/- PxS: a part of the proof of this claim. -/
import Derived.Test.YtecgckocabkadaaGreatDoorPxR
namespace Go.Proofs.YtecgckocabkadaaGreatDoor.TopPassedProof
open Go Go.Ab Go.Proofs.Px Go.RowKit Go.WideShapes Go.ChangeShapes Go.ChangeAt
set_option maxRecDepth 100000
set_option maxHeartbeats 1000000
theorem own : ownKnob Tryz.prog.godebug = none := by kernel_rfl
theorem lists : ([25, 3, 23].all fun t => Tryz.prog.readableRec t && decide (t < Tryz.prog.types.size)) = true := by kernel_rfl
theorem results : Tryz.f3.resultTypes = #[4] := by kernel_rfl
theorem contract (H : Type) (enc : TypeId × Value → H) (W : World) (base : Nat) (args : Array Value) (ds gs : List (DataW H)) (before : List MemPlace)
    (hval : ∀ (j : Nat) t v, Tryz.f3.params[j]? = some t → args[j]? = some v → Value.okWide Tryz.prog W .any base t v)
    (hW : DataW.Whole enc Tryz.prog Tryz.f3.params.toList Rows.topPassedSpec.vars false W args.toList ds gs before) (hL : laidMetH Tryz.prog Rows.topPassedRow.laid W) :
    Calls Tryz.prog 3 args W fun e W' => ∃ v, e = .returned v ∧ Rows.topPassedSpec.post enc Tryz.prog Tryz.f3 false true false false W args v W' := by
  have hpar : Tryz.f3.params.toList = [25, 3, 23] := by rw [Tryz.params3]
  have hv : Rows.topPassedSpec.vars = [] := rfl
  have hW' := hW
  rw [hv] at hW'
  obtain ⟨rfl, hA⟩ := vars_none hW'
  have hA' := hA
  rw [hpar] at hA
  obtain ⟨xs, k1, k2⟩ := args_fit (k := 4) okArgs (fun j t v h1 h2 => hval j t v (by rw [← Array.getElem?_toList, hpar]; exact h1) (by rw [← Array.getElem?_toList]; exact h2)) hA
  have hfn : Rows.topPassedSpec.fn H ds = { results := [.lit (.bool true)], args := ds } := by
    obtain ⟨v1, vs1, d1, ds1, _, _, _, rfl, _, _, r1⟩ := trodAll_cons hA
    obtain ⟨v2, vs2, d2, ds2, _, _, _, rfl, _, _, r2⟩ := trodAll_cons r1
    obtain ⟨v3, vs3, d3, ds3, _, _, _, rfl, _, _, r3⟩ := trodAll_cons r2
    obtain ⟨_, rfl, _⟩ := trodAll_nil r3
    rfl
  refine (args_law hL k1 k2).mono fun e W' ⟨he, hb⟩ => ?_
  subst he
  refine ⟨_, rfl, post_true hv hW hfn results u4 (by kernel_rfl) ?_ hb⟩
  intro t ht
  rw [hpar] at ht
  have := List.all_eq_true.1 lists t ht
  simpa using this
end Go.Proofs.YtecgckocabkadaaGreatDoor.TopPassedProof
