/- PxY: a part of the proof of this claim. -/
import Derived.Test.YtecgckocabkadaaGreatDoorPxW
namespace Go.Proofs.YtecgckocabkadaaGreatDoor.TopPassedProof
open Go Go.Ab Go.Proofs.Px Go.RowKit Go.WideShapes Go.ChangeShapes Go.ChangeAt
set_option maxRecDepth 100000
set_option maxHeartbeats 1000000
theorem f1 : Tryz.pinned.checked.prog.funcNamed Rows.topPassedRow.func = some 3 := by kernel_rfl
theorem f2 : joinedFacts Tryz.pinned.checked.prog 3 Tryz.f3 (OpenSpec.ofChange Rows.topPassedSpec).bare Rows.topPassedRow = true := by
  unfold joinedFacts
  simp only [Bool.and_eq_true]
  and_intros
  all_goals (as_aux_lemma => kernel_rfl)
theorem f3 : (Tryz.f3.isInstance Tryz.pinned.checked.prog Rows.topPassedRow.origin Rows.topPassedRow.targs) := of_decide_eq_true (by kernel_rfl)
theorem f4 : (Tryz.f3.isWrapper Tryz.pinned.checked.prog Rows.topPassedRow.wrapper Rows.topPassedRow.mainSum) := (by unfold Func.isWrapper; first | (rw [if_pos (by decide +kernel)]; kernel_rfl) | (rw [if_neg (by decide +kernel)]; exact ⟨rfl, rfl⟩))
end Go.Proofs.YtecgckocabkadaaGreatDoor.TopPassedProof
