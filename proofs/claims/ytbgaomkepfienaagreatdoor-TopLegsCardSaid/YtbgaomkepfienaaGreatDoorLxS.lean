/-
  TopLegs: what the row asks of the call.
-/
import Derived.Test.YtbgaomkepfienaaGreatDoorLxR
namespace Go.Proofs.YtbgaomkepfienaaGreatDoor.TopLegsProof
open Go Go.Ab Go.Proofs.Lx Go.RowKit Go.WideShapes Go.ChangeShapes Go.ChangeAt
set_option maxRecDepth 100000
set_option maxHeartbeats 1000000
theorem own : ownKnob Tryz.prog.godebug = none := by kernel_rfl
theorem lists : ([24, 27, 22, 22, 22].all fun t => Tryz.prog.readableRec t && decide (t < Tryz.prog.types.size)) = true := by kernel_rfl
theorem results : Tryz.f3.resultTypes = #[4] := by kernel_rfl
theorem contract (H : Type) (enc : TypeId × Value → H) (W : World) (base : Nat) (args : Array Value) (ds gs : List (DataW H)) (before : List MemPlace) (more : List TypeId)
    (hval : ∀ (j : Nat) t v, Tryz.f3.params[j]? = some t → args[j]? = some v → Value.okWide Tryz.prog W .any base t v)
    (hW : DataW.Whole enc Tryz.prog Tryz.f3.params.toList Rows.topLegsSpec.vars false W args.toList ds gs before)
    (hsz : (DataW.weightsEach Tryz.prog (Tryz.f3.params.toList ++ more) (ds ++ gs)).all (· ≤ reachBytes) = true) (hL : laidMetH Tryz.prog Rows.topLegsRow.laid W) :
    Calls Tryz.prog 3 args W fun e W' => ∃ v, e = .returned v ∧ Rows.topLegsSpec.post enc Tryz.prog Tryz.f3 false true false false W args v W' := by
  have hpar : Tryz.f3.params.toList = [24, 27, 22, 22, 22] := by rw [Tryz.params3]
  have hv : Rows.topLegsSpec.vars = [] := rfl
  have hW' := hW
  rw [hv] at hW'
  obtain ⟨rfl, hA⟩ := vars_none hW'
  rw [hpar] at hA hsz
  obtain ⟨xs, k1, k2⟩ := args_fit (k := 6) okArgs (fun j t v h1 h2 => hval j t v (by rw [← Array.getElem?_toList, hpar]; exact h1) (by rw [← Array.getElem?_toList]; exact h2)) hA
  obtain ⟨v1, vs1, d1, ds1, _, _, _, rfl, _, _, r1⟩ := trodAll_cons hA
  obtain ⟨v2, vs2, d2, ds2, _, _, _, rfl, _, _, r2⟩ := trodAll_cons r1
  obtain ⟨v3, vs3, d3, ds3, _, _, _, rfl, _, _, r3⟩ := trodAll_cons r2
  obtain ⟨v4, vs4, d4, ds4, _, _, _, rfl, _, _, r4⟩ := trodAll_cons r3
  obtain ⟨v5, vs5, d5, ds5, _, _, _, rfl, _, _, r5⟩ := trodAll_cons r4
  obtain ⟨_, rfl, _⟩ := trodAll_nil r5
  have hfn : Rows.topLegsSpec.fn H [d1, d2, d3, d4, d5] = { results := [.lit (.bool true)], args := [d1, d2, d3, d4, d5] } := rfl
  obtain ⟨x1, l1, rfl, f1, x2, l2, rfl, f2, x3, l3, rfl, f3, x4, l4, rfl, f4, x5, l5, rfl, f5, rfl⟩ := k2
  obtain ⟨r, rfl⟩ := rules_arg f1
  obtain ⟨s, rfl⟩ := squad_arg f2
  obtain ⟨a, rfl⟩ := list_arg f3
  obtain ⟨b, rfl⟩ := list_arg f4
  obtain ⟨c, rfl⟩ := list_arg f5
  refine (calls_of (xs := [ruD r, sqD s, sl a, sl b, sl c]) (Legs3 r s a b c) k1 (glob_hold hL)).mono fun e W' ⟨he, hbl⟩ => ?_
  subst he
  refine ⟨_, rfl, post_true hv hW hfn results u4 (by kernel_rfl) ?_ hbl⟩
  intro t ht
  rw [hpar] at ht
  have := List.all_eq_true.1 lists t ht
  simpa using this
end Go.Proofs.YtbgaomkepfienaaGreatDoor.TopLegsProof
