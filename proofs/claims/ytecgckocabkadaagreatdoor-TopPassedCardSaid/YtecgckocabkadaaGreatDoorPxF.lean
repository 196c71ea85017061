/- PxF: a part of the proof of this claim. -/
import Derived.Test.YtecgckocabkadaaGreatDoorPxE
namespace Go.Proofs.Px
open Go Go.Ab
set_option maxRecDepth 100000
set_option maxHeartbeats 1000000
/-- The parts of the first range over a function. -/
def rfOf : Code → Option (Code × Code)
  | .rangeFunc _ _ a b => some (a, b)
  | .seq a b => match rfOf a with | some x => some x | none => rfOf b
  | .block _ b => rfOf b
  | .loop b => rfOf b
  | .cond _ a b => match rfOf a with | some x => some x | none => rfOf b
  | _ => none
def rfOf' (f : Func) : Code × Code := match f.body with
  | some b => (match rfOf b with | some x => x | none => (.skip, .skip))
  | none => (.skip, .skip)
noncomputable def code46 : Code × Code := rfOf' Tryz.f46
section
variable {e l : Int} {ts : List (Int × Int)} {rs : List Int} {lo hi : Int}
/-- The record of AppendSeq's range, its box, and what has been appended. -/
noncomputable def hp46 (x : Option (Nat × List Int)) : List O := match x with
  | none => [.loop ⟨.ready, none, 46, 13, [(2, .ptr 2 0 0 1), (5, .d .undef), (7, .d .undef)], .unk, [7], code46.1, code46.2, 1⟩, .dfr, .row (.ds [.nil]) 0 0 []]
  | some (k, acc) => [.loop ⟨.ready, none, 46, 13, [(2, .ptr 2 0 0 1), (5, .d .undef), (7, .d .undef)], .unk, [7], code46.1, code46.2, 1⟩, .dfr, .row (.vs [.slice 3 k 0 (k + 1) 1]) 0 0 [], .row (.ds (encI acc)) k 0 []]
theorem stL_pass {lo hi : Int} {i : Nat} (h : i < 8) : (stL lo hi)[0 + 2 + i * 1]? = some (.bool false) := by
  have h8 : i = 0 ∨ i = 1 ∨ i = 2 ∨ i = 3 ∨ i = 4 ∨ i = 5 ∨ i = 6 ∨ i = 7 := by omega
  rcases h8 with rfl | rfl | rfl | rfl | rfl | rfl | rfl | rfl <;> rfl
theorem stL_fail {lo hi : Int} {i : Nat} (h : i < 8) : (stL lo hi)[0 + 10 + i * 1]? = some (.bool false) := by
  have h8 : i = 0 ∨ i = 1 ∨ i = 2 ∨ i = 3 ∨ i = 4 ∨ i = 5 ∨ i = 6 ∨ i = 7 := by omega
  rcases h8 with rfl | rfl | rfl | rfl | rfl | rfl | rfl | rfl <;> rfl
def isOpen (e l lo hi : Int) (n : Int) : Bool := andB (notB (leI l (n - hi - e))) (leI l (n - lo + e))
def keepOf (l : List Int) : Option (Nat × List Int) := match l with
  | [] => none
  | a :: r => some (r.length, a :: r)
theorem open1_ok (G : Good e l ts rs) (hb : -1000 ≤ lo ∧ lo ≤ hi ∧ hi ≤ 1000) :
    Sm Tryz.prog E 47 [.yield 0, .d (.ptr [.ptr (deskL e l ts rs lo hi) 0] 0), .d (.ptr (stL lo hi) 0)] (hp46 none) (fun v h => v = .d (.tuple []) ∧ h = hp46 (keepOf (idxs (isOpen e l lo hi) rs 0))) := by
  refine sm_of HE true (by kernel_rfl) ?_
  have hrn := G.rn
  conv => whnf
  refine loops_by (fun x : Nat × Option (Nat × List Int) => ⟨48, [(0, .yield 0), (1, .d (.ptr [.ptr (deskL e l ts rs lo hi) 0] 0)), (2, .d (.ptr (stL lo hi) 0)), (10, .d (.int .i64 rs.length)), (11, .d (.int .i64 x.1))], .unk, hp46 x.2, []⟩)
    (fun x => x.1 ≤ rs.length ∧ match x.2 with | none => idxs (isOpen e l lo hi) (rs.take x.1) 0 = [] | some (k, acc) => acc.length = k + 1 ∧ idxs (isOpen e l lo hi) (rs.take x.1) 0 = acc) (fun x => rs.length - x.1) (0, none) ⟨Nat.zero_le _, rfl⟩ ?_
  rintro n ⟨i, (_ | ⟨k, acc⟩)⟩ ⟨hle, hI⟩ ih
  · simp only at hle hI
    conv => whnf
    cases h1 : ltI (i : Int) (rs.length : Int)
    · have hn : rs.length ≤ i := by rw [ltI_eq] at h1; have := of_decide_eq_false h1; omega
      rw [List.take_of_length_le hn] at hI
      rw [hI]
      conv => whnf
      exact ⟨rfl, rfl⟩
    · have hlt : i < rs.length := by rw [ltI_eq] at h1; have := of_decide_eq_true h1; omega
      have hb' : Nat.blt i 8 = true := by simp [Nat.blt_eq]; omega
      obtain ⟨n0, hn0⟩ : ∃ n0, rs[i]? = some n0 := ⟨rs[i], by simp [hlt]⟩
      have hs := idxs_take (q := isOpen e l lo hi) hn0
      rw [hI] at hs
      conv => whnf
      rw [hb']
      conv => whnf
      rw [stL_pass (i := i) (by omega)]
      conv => whnf
      rw [hb']
      conv => whnf
      rw [stL_fail (i := i) (by omega)]
      conv => whnf
      refine Rets.use light_ok ?_
      conv => whnf
      refine Rets.use (canL_ok G hb hn0) ?_
      conv => whnf
      unfold isOpen at hs
      cases h2 : leI l (n0 - hi - e)
      · conv => whnf
        refine Rets.use heavy_ok ?_
        conv => whnf
        refine Rets.use (canH_ok G hb hn0) ?_
        conv => whnf
        cases h3 : leI l (n0 - lo + e)
        · conv => whnf
          rw [h2, h3] at hs
          rw [wrap_succ (by omega)]
          exact ih (i + 1, none) ⟨by simp only; omega, hs⟩ (by simp only; omega)
        · conv => whnf
          rw [h2, h3] at hs
          refine sy_of HE ?_
          conv => whnf
          rw [wrap_succ (by omega)]
          exact ih (i + 1, some (0, [(i : Int)])) ⟨by simp only; omega, rfl, hs⟩ (by simp only; omega)
      · conv => whnf
        rw [h2] at hs
        rw [wrap_succ (by omega)]
        exact ih (i + 1, none) ⟨by simp only; omega, hs⟩ (by simp only; omega)
  · simp only at hle hI
    obtain ⟨hal, hid⟩ := hI
    have hel : (encI acc).length = (k + 1) * 1 := by rw [encI_length, hal]; omega
    have hkl : k + 1 ≤ rs.length := by
      have := idxs_length (isOpen e l lo hi) (rs.take i) 0
      rw [hid, hal] at this
      have h2 : (rs.take i).length ≤ rs.length := List.length_take_le' ..
      simp at this; omega
    conv => whnf
    cases h1 : ltI (i : Int) (rs.length : Int)
    · have hn : rs.length ≤ i := by rw [ltI_eq] at h1; have := of_decide_eq_false h1; omega
      rw [List.take_of_length_le hn] at hid
      rw [hid]
      have hk : keepOf acc = some (k, acc) := by
        cases acc with
        | nil => simp at hal
        | cons a r => simp at hal; subst hal; rfl
      rw [hk]
      conv => whnf
      exact ⟨rfl, rfl⟩
    · have hlt : i < rs.length := by rw [ltI_eq] at h1; have := of_decide_eq_true h1; omega
      have hb' : Nat.blt i 8 = true := by simp [Nat.blt_eq]; omega
      obtain ⟨n0, hn0⟩ : ∃ n0, rs[i]? = some n0 := ⟨rs[i], by simp [hlt]⟩
      have hs := idxs_take (q := isOpen e l lo hi) hn0
      rw [hid] at hs
      conv => whnf
      rw [hb']
      conv => whnf
      rw [stL_pass (i := i) (by omega)]
      conv => whnf
      rw [hb']
      conv => whnf
      rw [stL_fail (i := i) (by omega)]
      conv => whnf
      refine Rets.use light_ok ?_
      conv => whnf
      refine Rets.use (canL_ok G hb hn0) ?_
      conv => whnf
      unfold isOpen at hs
      cases h2 : leI l (n0 - hi - e)
      · conv => whnf
        refine Rets.use heavy_ok ?_
        conv => whnf
        refine Rets.use (canH_ok G hb hn0) ?_
        conv => whnf
        cases h3 : leI l (n0 - lo + e)
        · conv => whnf
          rw [h2, h3] at hs
          rw [wrap_succ (by omega)]
          exact ih (i + 1, some (k, acc)) ⟨by simp only; omega, hal, hs.trans (List.append_nil _)⟩ (by simp only; omega)
        · conv => whnf
          rw [h2, h3] at hs
          refine sy_of HE ?_
          conv => whnf
          rw [show Nat.ble ((k + 1 + 1) * 8) 140737488355328 = true from Nat.ble_eq_true_of_le (by omega)]
          conv => whnf
          rw [may_all]
          conv => whnf
          rw [show Nat.beq ((k + 1) * 1) (Cells.ds (encI acc)).len = true by simp only [Cells.len, hel]; exact Nat.beq_refl _, wrap_succ (by omega), List.take_of_length_le (by omega)]
          have e1 : encI acc ++ [D.int .i64 (i : Int)] = encI (acc ++ [(i : Int)]) := (encI_snoc acc i).symm
          rw [e1]
          exact ih (i + 1, some (k + 1, acc ++ [(i : Int)])) ⟨by simp only; omega, by simp [hal], hs⟩ (by simp only; omega)
      · conv => whnf
        rw [h2] at hs
        rw [wrap_succ (by omega)]
        exact ih (i + 1, some (k, acc)) ⟨by simp only; omega, hal, hs.trans (List.append_nil _)⟩ (by simp only; omega)
theorem openIt_ok : Rets Tryz.prog E 31 [.d (.ptr (deskL e l ts rs lo hi) 0), .d (.agg (stL lo hi))] (.d (.func 47 [] [.ptr [.ptr (deskL e l ts rs lo hi) 0] 0, .ptr (stL lo hi) 0])) := by
  refine sm_of HE true (by kernel_rfl) ?_
  unfold stL
  conv => whnf
  exact ⟨rfl, rfl⟩
theorem appendSeq_ok (G : Good e l ts rs) (hb : -1000 ≤ lo ∧ lo ≤ hi ∧ hi ≤ 1000) :
    Rets Tryz.prog E 46 [.d .nil, .d (.func 47 [] [.ptr [.ptr (deskL e l ts rs lo hi) 0] 0, .ptr (stL lo hi) 0])] (.d (listD (idxs (isOpen e l lo hi) rs 0))) := by
  refine sm_of HE true (by kernel_rfl) ?_
  conv => whnf
  refine Sm.mono (open1_ok G hb) ?_
  rintro v h ⟨rfl, rfl⟩
  generalize idxs (isOpen e l lo hi) rs 0 = acc
  cases acc with
  | nil =>
    conv => whnf
    exact ⟨rfl, rfl⟩
  | cons a r =>
    conv => whnf
    rw [may_all]
    have hel : (encI (a :: r)).length = (r.length + 1) * 1 := by rw [encI_length]; simp
    conv => whnf
    rw [show Nat.ble (0 + (r.length + 1) * 1) (encI (a :: r)).length = true from Nat.ble_eq_true_of_le (by omega)]
    conv => whnf
    refine ⟨?_, rfl⟩
    rw [row_all hel]; rfl
theorem collect_ok (G : Good e l ts rs) (hb : -1000 ≤ lo ∧ lo ≤ hi ∧ hi ≤ 1000) :
    Rets Tryz.prog E 30 [.d (.func 47 [] [.ptr [.ptr (deskL e l ts rs lo hi) 0] 0, .ptr (stL lo hi) 0])] (.d (listD (idxs (isOpen e l lo hi) rs 0))) := by
  refine sm_of HE true (by kernel_rfl) ?_
  conv => whnf
  refine Rets.use (appendSeq_ok G hb) ?_
  generalize idxs (isOpen e l lo hi) rs 0 = acc
  cases acc with
  | nil =>
    conv => whnf
    exact ⟨rfl, rfl⟩
  | cons a r =>
    conv => whnf
    exact ⟨rfl, rfl⟩
theorem open_ok (hc : chk e l ts rs = 0) (hlo : (offs e ts (-1000) 1000).1 = lo) (hhi : (offs e ts (-1000) 1000).2 = hi) (hb : -1000 ≤ lo ∧ lo ≤ hi ∧ hi ≤ 1000) :
    Rets Tryz.prog E 14 [.d (scD e l ts rs)] (.d (.tuple [listD (idxs (isOpen e l lo hi) rs 0), .int .i64 0])) := by
  have G := chk_zero hc
  have h := asked_ok e l ts rs hc
  rw [hlo, hhi, show ltI hi lo = false by rw [ltI_eq]; simp; omega] at h
  simp only at h
  refine sm_of HE true (by kernel_rfl) ?_
  unfold scD
  conv => whnf
  refine Rets.use h ?_
  conv => whnf
  refine Rets.use openIt_ok ?_
  conv => whnf
  refine Rets.use (collect_ok G hb) ?_
  generalize idxs (isOpen e l lo hi) rs 0 = acc
  cases acc with
  | nil =>
    conv => whnf
    exact ⟨rfl, rfl⟩
  | cons a r =>
    conv => whnf
    exact ⟨rfl, rfl⟩
end
end Go.Proofs.Px
