/- DyW: a part of the proof of this claim. -/
import Derived.Test.YtldpapiaonchaaaGreatDoorDyR
namespace Go.Proofs.YtldpapiaonchaaaGreatDoor.TopLaidProof
open Go Go.Ab Go.Proofs.Dx Go.RowKit Go.WideShapes Go.ChangeShapes Go.ChangeAt
set_option maxRecDepth 100000
set_option maxHeartbeats 1000000
def argv : Array Value := #[.agg #[.slice none 0 0, .slice none 0 0, .slice none 0 0], .slice none 0 0, .slice none 0 0, .int .i64 0, .int .i64 0]
noncomputable def laidWorld (os : Os) : World := World.laidAll Tryz.prog os Rows.topLaidRow.laid
theorem laid_met (os : Os) : laidMetH Tryz.prog Rows.topLaidRow.laid ((laidWorld os).forCall (fun _ _ => 0) ⟨#[], argv, []⟩).memory := by
  rw [MakeChecks.laidMetH_plain _ _ _ plainLaid]
  exact laidMet_laidAll _ (by kernel_rfl) (by kernel_rfl)
theorem reads (os : Os) {H : Type} (enc : TypeId × Value → H) : ∃ ds places, DataW.whole enc Tryz.prog ((laidWorld os).forCall (fun _ _ => 0) ⟨#[], argv, []⟩).memory Tryz.f3.params.toList Rows.topLaidSpec.vars false argv.toList 8 = some (ds, [], places) :=
  ⟨[.agg [.nil, .nil, .nil], .nil, .nil, .lit (.int .i64 0), .lit (.int .i64 0)], [], by kernel_rfl⟩
theorem w1 (os : Os) : ((laidWorld os).forCall (fun _ _ => 0) ⟨#[], argv, []⟩).variablesZipB Tryz.checked.prog = true := by kernel_rfl
theorem w2 (os : Os) : (((laidWorld os).forCall (fun _ _ => 0) ⟨#[], argv, []⟩).heap.toList.drop Tryz.checked.prog.globals.size).take ((begin Tryz.checked.prog (fun _ _ => 0) default).world.heap.size - Tryz.checked.prog.globals.size) =
      (begin Tryz.checked.prog (fun _ _ => 0) default).world.heap.toList.drop Tryz.checked.prog.globals.size := by kernel_rfl
theorem w3 (os : Os) : Input.okWideB Tryz.checked.prog ((laidWorld os).forCall (fun _ _ => 0) ⟨#[], argv, []⟩) 3 ⟨#[], argv, []⟩ = true := by kernel_rfl
theorem w0 : Tryz.checked.prog.inits.idxOf? 3 = none := by kernel_rfl
theorem w4 (os : Os) {H : Type} (enc : TypeId × Value → H) : (OpenSpec.ofChange Rows.topLaidSpec).bare.sizedB enc Tryz.checked.prog Tryz.f3 false ((laidWorld os).forCall (fun _ _ => 0) ⟨#[], argv, []⟩).memory argv 8 = true := by kernel_rfl
theorem pre (os : Os) {H : Type} (enc : TypeId × Value → H) : (OpenSpec.ofChange Rows.topLaidSpec).preRow enc Tryz.checked.prog Tryz.f3 Rows.topLaidRow.domain false Rows.topLaidRow.laid ((laidWorld os).forCall (fun _ _ => 0) ⟨#[], argv, []⟩).memory argv := by
  obtain ⟨ds, places, hx⟩ := reads os enc
  exact OpenSpec.preRow_of_cond (P := Tryz.prog) 8 hx rfl (fun k hk => by cases hk) (w4 os enc) (laid_met os)
theorem wit (os : Os) {H : Type} (enc : TypeId × Value → H) :
    ∃ (w : World) (tape : Tape) (i : Input), w.os = os ∧ (w.forCall tape i).Shaped Tryz.checked.prog ∧ i.vars = [] ∧ Input.okWide Tryz.checked.prog (w.forCall tape i) .any w.heap.size 3 i ∧
      (OpenSpec.ofChange Rows.topLaidSpec).preRow enc Tryz.checked.prog Tryz.f3 Rows.topLaidRow.domain false Rows.topLaidRow.laid (w.forCall tape i).memory i.args ∧ ({} : Assume).holds Tryz.checked.prog (lone (Frame.enter Tryz.checked.prog 3 i.args .normal) [] (w.forCall tape i)) :=
  witness_zip (enc := enc) (C := Tryz.checked) (laidWorld os) argv (World.laidAll_os _ _ _) (w1 os) (w2 os) (w3 os) (pre os enc)
theorem contract' (H : Type) (enc : TypeId × Value → H) (F : Stop.Interp) (W : World) (base : Nat) (args : Array Value) (ds gs : List (DataW H)) (before : List MemPlace) (more : List TypeId)
    (hval : ∀ (j : Nat) t v, Tryz.f3.params[j]? = some t → args[j]? = some v → Value.okWide Tryz.checked.prog W .any base t v)
    (hW : DataW.Whole enc Tryz.checked.prog Tryz.f3.params.toList (OpenSpec.ofChange Rows.topLaidSpec).vars false W args.toList ds gs before)
    (hsz : (DataW.weightsEach Tryz.checked.prog (Tryz.f3.params.toList ++ more) (ds ++ gs)).all (· ≤ reachBytes) = true) (hL : laidMetH Tryz.checked.prog Rows.topLaidRow.laid W) :
    Calls Tryz.checked.prog 3 args W fun e W' => ∃ v, e = .returned v ∧ ((OpenSpec.ofChange Rows.topLaidSpec).at F).post enc Tryz.checked.prog Tryz.f3 false true false false W args v W' :=
  contract H enc W base args ds gs before more hval hW hsz hL
theorem lifted (os : Os) (started : os.Started) (H : Type) (enc : TypeId × Value → H) (F : Stop.Interp) :
    ReturnsInHanded {} Tryz.checked os 3 .any ((OpenSpec.ofChange Rows.topLaidSpec).preRow enc Tryz.checked.prog Tryz.f3 Rows.topLaidRow.domain false Rows.topLaidRow.laid) (((OpenSpec.ofChange Rows.topLaidSpec).at F).post enc Tryz.checked.prog Tryz.f3 false true false false) :=
  returnsInHanded_of_row (C := Tryz.checked) (s := OpenSpec.ofChange Rows.topLaidSpec) own started w0 Tryz.func3 (wit os enc) (fun W base args ds gs before hval hW _ _ hsz hL _ _ => contract' H enc F W base args ds gs before _ hval hW hsz hL)
end Go.Proofs.YtldpapiaonchaaaGreatDoor.TopLaidProof
