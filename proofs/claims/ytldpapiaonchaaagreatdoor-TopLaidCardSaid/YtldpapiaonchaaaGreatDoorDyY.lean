/- DyY: a part of the proof of this claim. -/
import Derived.Test.YtldpapiaonchaaaGreatDoorDyW
namespace Go.Proofs.YtldpapiaonchaaaGreatDoor.TopLaidProof
open Go Go.Ab Go.Proofs.Dx Go.RowKit Go.WideShapes Go.ChangeShapes Go.ChangeAt
set_option maxRecDepth 100000
set_option maxHeartbeats 1000000
theorem f1 : Tryz.pinned.checked.prog.funcNamed Rows.topLaidRow.func = some 3 := by kernel_rfl
theorem f2 : joinedFacts Tryz.pinned.checked.prog 3 Tryz.f3 (OpenSpec.ofChange Rows.topLaidSpec).bare Rows.topLaidRow = true := by
  unfold joinedFacts
  simp only [Bool.and_eq_true]
  and_intros
  all_goals (as_aux_lemma => kernel_rfl)
theorem f3 : (Tryz.f3.isInstance Tryz.pinned.checked.prog Rows.topLaidRow.origin Rows.topLaidRow.targs) := of_decide_eq_true (by kernel_rfl)
theorem f4 : (Tryz.f3.isWrapper Tryz.pinned.checked.prog Rows.topLaidRow.wrapper Rows.topLaidRow.mainSum) := (by unfold Func.isWrapper; first | (rw [if_pos (by decide +kernel)]; kernel_rfl) | (rw [if_neg (by decide +kernel)]; exact ⟨rfl, rfl⟩))
end Go.Proofs.YtldpapiaonchaaaGreatDoor.TopLaidProof
