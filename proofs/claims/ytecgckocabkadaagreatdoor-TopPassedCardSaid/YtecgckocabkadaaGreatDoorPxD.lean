/- PxD: a part of the proof of this claim. -/
import Derived.Test.YtecgckocabkadaaGreatDoorPxC
namespace Go.Proofs.Px
open Go Go.Ab
set_option maxRecDepth 100000
set_option maxHeartbeats 1000000
theorem light1_ok (lo hi : Int) : Rets Tryz.prog E 45 [.d (spD lo hi)] (.d (.int .i64 lo)) := by
  refine sm_of HE true (by kernel_rfl) ?_
  unfold spD
  conv => whnf
  exact ⟨rfl, rfl⟩
theorem heavy1_ok (lo hi : Int) : Rets Tryz.prog E 55 [.d (spD lo hi)] (.d (.int .i64 hi)) := by
  refine sm_of HE true (by kernel_rfl) ?_
  unfold spD
  conv => whnf
  exact ⟨rfl, rfl⟩
theorem light_ok : Rets Tryz.prog E 29 [] (.d (.agg [.func 45 [] []])) := by
  refine sm_of HE true (by kernel_rfl) ?_
  conv => whnf
  exact ⟨rfl, rfl⟩
theorem heavy_ok : Rets Tryz.prog E 48 [] (.d (.agg [.func 55 [] []])) := by
  refine sm_of HE true (by kernel_rfl) ?_
  conv => whnf
  exact ⟨rfl, rfl⟩
/-- The state that a desk begins with. -/
def stL (lo hi : Int) : List D := [.int .i64 lo, .int .i64 hi, .bool false, .bool false, .bool false, .bool false, .bool false, .bool false, .bool false, .bool false,
    .bool false, .bool false, .bool false, .bool false, .bool false, .bool false, .bool false, .bool false]
section
variable {e l : Int} {ts : List (Int × Int)} {rs : List Int} {lo hi : Int}
theorem weight_ok (G : Good e l ts rs) (hb : -1000 ≤ lo ∧ lo ≤ hi ∧ hi ≤ 1000) {i : Nat} {n : Int} (hi' : rs[i]? = some n) :
    Rets Tryz.prog E 27 [.d (.ptr (deskL e l ts rs lo hi) 0), .d (.int .i64 i), .d (spD lo hi)] (.d (spD (n - hi - e) (n - lo + e))) := by
  have hlt : Nat.blt i rs.length = true := by have := (List.getElem?_eq_some_iff.1 hi').1; simpa [Nat.blt_eq] using this
  have hn := G.r n (List.mem_of_getElem? hi')
  have he := G.e
  refine sm_of HE true (by kernel_rfl) ?_
  unfold spD deskL
  conv => whnf
  rw [hlt]
  conv => whnf
  rw [encI_get1 hi']
  conv => whnf
  rw [wrap_i64 (n := n - hi) (by omega) (by omega), wrap_i64 (n := n - hi - e) (by omega) (by omega), wrap_i64 (n := n - lo) (by omega) (by omega), wrap_i64 (n := n - lo + e) (by omega) (by omega)]
  exact ⟨rfl, rfl⟩
theorem canL_ok (G : Good e l ts rs) (hb : -1000 ≤ lo ∧ lo ≤ hi ∧ hi ≤ 1000) {i : Nat} {n : Int} (hi' : rs[i]? = some n) :
    Rets Tryz.prog E 28 [.d (.ptr (deskL e l ts rs lo hi) 0), .d (.int .i64 i), .d (.agg (stL lo hi)), .d (.agg [.func 45 [] []])] (.d (.bool (leI l (n - hi - e)))) := by
  refine sm_of HE true (by kernel_rfl) ?_
  unfold stL
  conv => whnf
  refine Rets.use (weight_ok G hb hi') ?_
  conv => whnf
  refine Rets.use (light1_ok _ _) ?_
  conv => whnf
  exact ⟨rfl, rfl⟩
theorem canH_ok (G : Good e l ts rs) (hb : -1000 ≤ lo ∧ lo ≤ hi ∧ hi ≤ 1000) {i : Nat} {n : Int} (hi' : rs[i]? = some n) :
    Rets Tryz.prog E 28 [.d (.ptr (deskL e l ts rs lo hi) 0), .d (.int .i64 i), .d (.agg (stL lo hi)), .d (.agg [.func 55 [] []])] (.d (.bool (leI l (n - lo + e)))) := by
  refine sm_of HE true (by kernel_rfl) ?_
  unfold stL
  conv => whnf
  refine Rets.use (weight_ok G hb hi') ?_
  conv => whnf
  refine Rets.use (heavy1_ok _ _) ?_
  conv => whnf
  exact ⟨rfl, rfl⟩
theorem may_all (c off n : Nat) : may c off n c 0 [] = true := by
  unfold may
  rw [Nat.ble_eq_true_of_le (Nat.zero_le c)]
  exact Nat.ble_eq_true_of_le (Nat.le_refl c)
theorem row_all {α : Type} {l : List α} {n : Nat} (h : l.length = n) : (l.drop 0).take n = l := by rw [List.drop_zero, List.take_of_length_le (by omega)]
/-- What a rifle can weigh. -/
def wgt (e lo hi n : Int) : Int × Int := (n - hi - e, n - lo + e)
theorem take_succ_map {α β : Type} {f : α → β} {l : List α} {i : Nat} {a : α} (h : l[i]? = some a) : (l.take (i + 1)).map f = (l.take i).map f ++ [f a] := by
  rw [List.take_add_one, h]; simp
theorem encP_snoc (l : List (Int × Int)) (p : Int × Int) : encP (l ++ [p]) = encP l ++ [.int .i64 p.1, .int .i64 p.2] := by simp [encP]
theorem weights_ok (hc : chk e l ts rs = 0) (hlo : (offs e ts (-1000) 1000).1 = lo) (hhi : (offs e ts (-1000) 1000).2 = hi) (hb : -1000 ≤ lo ∧ lo ≤ hi ∧ hi ≤ 1000) :
    Rets Tryz.prog E 12 [.d (scD e l ts rs)] (.d (.tuple [.slice rs.length 2 (encP (rs.map (wgt e lo hi))), .int .i64 0])) := by
  have G := chk_zero hc
  have h := asked_ok e l ts rs hc
  rw [hlo, hhi, show ltI hi lo = false by rw [ltI_eq]; simp; omega] at h
  simp only at h
  refine sm_of HE true (by kernel_rfl) ?_
  unfold scD
  conv => whnf
  refine Rets.use h ?_
  conv => whnf
  refine loops_by (fun x : Option (Nat × List (Int × Int)) => match x with
      | none => ⟨38, [(2, .d .nil), (3, .d (.int .i64 0)), (4, .d (.ptr (deskL e l ts rs lo hi) 0)), (6, .d .nil), (21, .d (.int .i64 rs.length)), (22, .d (.int .i64 0))], .unk, [], []⟩
      | some (k, acc) => ⟨38, [(2, .d .nil), (3, .d (.int .i64 0)), (4, .d (.ptr (deskL e l ts rs lo hi) 0)), (6, .slice 0 k 0 (k + 1) 2), (21, .d (.int .i64 rs.length)), (22, .d (.int .i64 (k + 1 : Nat)))], .unk, [.row (.ds (encP acc)) k 0 []], []⟩)
    (fun x => match x with | none => True | some (k, acc) => k + 1 ≤ rs.length ∧ acc = (rs.take (k + 1)).map (wgt e lo hi)) (fun x => match x with | none => rs.length | some (k, _) => rs.length - (k + 1)) none trivial ?_
  have hrn := G.rn
  rintro n (_ | ⟨k, acc⟩) hI ih
  · conv => whnf
    cases h1 : ltI (0 : Int) (rs.length : Int)
    · rw [ltI_eq] at h1; have := of_decide_eq_false h1; omega
    · obtain ⟨n0, hn0⟩ : ∃ n0, rs[0]? = some n0 := ⟨rs[0]'(by omega), by simp⟩
      conv => whnf
      refine Rets.use (weight_ok G hb (i := 0) hn0) ?_
      conv => whnf
      exact ih (some (0, [wgt e lo hi n0])) ⟨by omega, by rw [take_succ_map hn0]; rfl⟩ (by simp only; omega)
  · obtain ⟨hle, hid⟩ := hI
    have hal : acc.length = k + 1 := by rw [hid]; simp; omega
    have hel : (encP acc).length = (k + 1) * 2 := by rw [encP_length, hal]
    conv => whnf
    cases h1 : ltI ((k + 1 : Nat) : Int) (rs.length : Int)
    · have hn : rs.length = k + 1 := by rw [ltI_eq] at h1; have := of_decide_eq_false h1; omega
      conv => whnf
      rw [may_all]
      conv => whnf
      rw [show Nat.ble (0 + (k + 1) * 2) (encP acc).length = true from Nat.ble_eq_true_of_le (by omega)]
      conv => whnf
      refine ⟨?_, rfl⟩
      rw [row_all hel, hid, hn, List.take_of_length_le (by omega)]
    · have hlt : k + 1 < rs.length := by rw [ltI_eq] at h1; have := of_decide_eq_true h1; omega
      obtain ⟨n0, hn0⟩ : ∃ n0, rs[k + 1]? = some n0 := ⟨rs[k + 1], by simp [hlt]⟩
      conv => whnf
      refine Rets.use (weight_ok G hb (i := k + 1) hn0) ?_
      conv => whnf
      rw [show Nat.ble ((k + 1 + 1) * 16) 140737488355328 = true from Nat.ble_eq_true_of_le (by omega)]
      conv => whnf
      rw [may_all]
      conv => whnf
      rw [show Nat.beq ((k + 1) * 2) (Cells.ds (encP acc)).len = true by simp only [Cells.len, hel]; exact Nat.beq_refl _, wrap_succ (by omega), List.take_of_length_le (by omega)]
      have e1 : encP acc ++ [D.int .i64 (n0 - hi - e), D.int .i64 (n0 - lo + e)] = encP (acc ++ [wgt e lo hi n0]) := (encP_snoc acc (wgt e lo hi n0)).symm
      rw [e1]
      exact ih (some (k + 1, acc ++ [wgt e lo hi n0])) ⟨by omega, by rw [take_succ_map hn0, hid]⟩ (by simp only; omega)
end
end Go.Proofs.Px
