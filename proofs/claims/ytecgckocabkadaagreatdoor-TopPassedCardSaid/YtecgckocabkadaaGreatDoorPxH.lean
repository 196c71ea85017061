/- PxH: a part of the proof of this claim. -/
import Derived.Test.YtecgckocabkadaaGreatDoorPxL
namespace Go.Proofs.Px
open Go Go.Ab
set_option maxRecDepth 100000
set_option maxHeartbeats 1000000
def oneI (a : Int) : List O := [.row (.ds [.int .i64 a]) 0 0 []]
theorem idx33s (a : Int) : Sm Tryz.prog E 33 [.slice 0 0 0 1 1, .d (.func 17 [] [])] (oneI a) (fun v h => v = .d (.int .i64 (match farB a with | true => 0 | false => -1)) ∧ h = oneI a) := by
  refine sm_of HE true (by kernel_rfl) ?_
  unfold oneI
  conv => whnf
  refine ⟨2, ?_⟩
  conv => whnf
  refine Rets.use (far1_ok a) ?_
  conv => whnf
  cases h : farB a
  · conv => whnf
    exact ⟨rfl, rfl⟩
  · conv => whnf
    exact ⟨rfl, rfl⟩
theorem c16s (a : Int) : Sm Tryz.prog E 16 [.slice 0 0 0 1 1, .d (.func 17 [] [])] (oneI a) (fun v h => v = .d (.bool (farB a)) ∧ h = oneI a) := by
  refine sm_of HE true (by kernel_rfl) ?_
  conv => whnf
  refine Sm.mono (idx33s a) ?_
  rintro v h ⟨rfl, rfl⟩
  conv => whnf
  cases h : farB a
  · exact ⟨rfl, rfl⟩
  · exact ⟨rfl, rfl⟩
theorem far_one (a : Int) : Sm Tryz.prog E 4 [.slice 0 0 0 1 1] (oneI a) (fun v h => v = .d (.bool (farB a)) ∧ h = oneI a) := by
  refine sm_of HE true (by kernel_rfl) ?_
  conv => whnf
  refine Sm.mono (c16s a) ?_
  rintro v h ⟨rfl, rfl⟩
  conv => whnf
  exact ⟨rfl, rfl⟩
theorem wk_list (l : List Int) (n : Int) : Wk (.tuple [listD l, .int .i64 n]) (.tuple [.slice l.length 1 (encI l), .int .i64 n]) := by
  cases l with
  | cons a r => exact fun _ _ _ h => h
  | nil =>
    rintro Z w v ⟨vs, rfl, ⟨a, as1, e1, h1, h2⟩⟩
    exact ⟨vs, rfl, ⟨a, as1, e1, Wk.nil 1 Z w a h1, h2⟩⟩
theorem has_idx {q : Int → Bool} {rs : List Int} {k : Nat} {n : Int} (h : rs[k]? = some n) (hl : rs.length ≤ 15) :
    Rets Tryz.prog E 15 [.d (.slice (idxs q rs 0).length 1 (encI (idxs q rs 0))), .d (.int .i64 k)] (.d (.bool (q n))) := by
  have := contains_ok (idxs q rs 0) k (by have := idxs_length q rs 0; omega)
  rw [among h] at this
  exact this
section
variable {e l : Int} {ts : List (Int × Int)} {rs : List Int} {lo hi : Int}
theorem passed_ok' (hc : chk e l ts rs = 0) (hlo : (offs e ts (-1000) 1000).1 = lo) (hhi : (offs e ts (-1000) 1000).2 = hi) (hb : -1000 ≤ lo ∧ lo ≤ hi ∧ hi ≤ 1000) :
    Rets Tryz.prog E 13 [.d (scD e l ts rs)] (.d (.tuple [.slice (idxs (passes e l hi) rs 0).length 1 (encI (idxs (passes e l hi) rs 0)), .int .i64 0])) := Rets.weaken (passed_ok hc hlo hhi hb) (wk_list _ _)
theorem open_ok' (hc : chk e l ts rs = 0) (hlo : (offs e ts (-1000) 1000).1 = lo) (hhi : (offs e ts (-1000) 1000).2 = hi) (hb : -1000 ≤ lo ∧ lo ≤ hi ∧ hi ≤ 1000) :
    Rets Tryz.prog E 14 [.d (scD e l ts rs)] (.d (.tuple [.slice (idxs (isOpen e l lo hi) rs 0).length 1 (encI (idxs (isOpen e l lo hi) rs 0)), .int .i64 0])) := Rets.weaken (open_ok hc hlo hhi hb) (wk_list _ _)
end
end Go.Proofs.Px
