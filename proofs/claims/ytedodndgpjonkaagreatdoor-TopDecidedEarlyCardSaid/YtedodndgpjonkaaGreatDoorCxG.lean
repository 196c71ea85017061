/-
  TopDecidedEarly: the program's check of a cup: counts, ranges, order.
-/
import Derived.Test.YtedodndgpjonkaaGreatDoorCxA
namespace Go.Proofs.Cx
open Go Go.Ab Go.Proofs.Cw
set_option maxRecDepth 100000
set_option maxHeartbeats 20000000
def hpA (nn rr bb : Int) (P : List Int) (R : List (List Int)) : List O := [.row (.vs [.func 50 [] [.ptr 1 0 0 5]]) 0 0 [], .row (.ds (cupL nn rr bb P R)) 0 0 []]
def hpF (f : Nat) : List O := [.row (.ds [.func f [] []]) 0 0 []]
theorem c50 (n : Nat) (rr bb : Int) (P : List Int) (R : List (List Int)) (r : List Int) (hr : r.length = n) :
    Sm Tryz.prog E 50 [.d (.slice r.length 1 (encI r)), .ptr 0 0 0 5] [.row (.ds (cupL n rr bb P R)) 0 0 []] (fun v h => v = .d (.bool true) ∧ h = [.row (.ds (cupL n rr bb P R)) 0 0 []]) := by
  refine sm_of HE true (by kernel_rfl) ?_
  unfold cupL
  conv => whnf
  rw [eqI_tt (a := (r.length : Int)) (b := (n : Int)) (by omega)]
  exact ⟨rfl, rfl⟩
theorem c68a (n : Nat) (rr bb : Int) (P : List Int) (R : List (List Int)) (r : List Int) (hr : r.length = n) :
    Sm Tryz.prog E 68 [.d (.slice r.length 1 (encI r)), .ptr 0 0 0 1] (hpA n rr bb P R) (fun v h => v = .d (.bool false) ∧ h = hpA n rr bb P R) := by
  refine sm_of HE true (by kernel_rfl) ?_
  unfold hpA cupL
  conv => whnf
  refine Sm.mono (c50 n rr bb P R r hr) ?_
  rintro v h ⟨rfl, rfl⟩
  conv => whnf
  exact ⟨rfl, rfl⟩
theorem c52 (x : Int) (hx : 0 ≤ x ∧ x ≤ 1000) : Rets Tryz.prog E 52 [.d (.int .i64 x)] (.d (.bool true)) := by
  refine sm_of HE true (by kernel_rfl) ?_
  conv => whnf
  refine Rets.use (within_ok x 0 1000) ?_
  rw [inB_of hx.1 hx.2]
  conv => whnf
  exact ⟨rfl, rfl⟩
theorem c54 (x : Int) (hx : 0 ≤ x ∧ x ≤ 60) : Rets Tryz.prog E 54 [.d (.int .i64 x)] (.d (.bool true)) := by
  refine sm_of HE true (by kernel_rfl) ?_
  conv => whnf
  refine Rets.use (within_ok x 0 60) ?_
  rw [inB_of hx.1 hx.2]
  conv => whnf
  exact ⟨rfl, rfl⟩
theorem c70b (x : Int) (hx : 0 ≤ x ∧ x ≤ 1000) : Sm Tryz.prog E 70 [.d (.int .i64 x), .ptr 0 0 0 1] (hpF 52) (fun v h => v = .d (.bool false) ∧ h = hpF 52) := by
  refine sm_of HE true (by kernel_rfl) ?_
  unfold hpF
  conv => whnf
  refine Rets.use (c52 x hx) ?_
  conv => whnf
  exact ⟨rfl, rfl⟩
theorem c70c (x : Int) (hx : 0 ≤ x ∧ x ≤ 60) : Sm Tryz.prog E 70 [.d (.int .i64 x), .ptr 0 0 0 1] (hpF 54) (fun v h => v = .d (.bool false) ∧ h = hpF 54) := by
  refine sm_of HE true (by kernel_rfl) ?_
  unfold hpF
  conv => whnf
  refine Rets.use (c54 x hx) ?_
  conv => whnf
  exact ⟨rfl, rfl⟩
theorem idxA (n : Nat) (rr bb : Int) (P : List Int) (R : List (List Int)) (l : List (List Int)) (hl : l.length < 4611686018427387904) (hc : ∀ r ∈ l, r.length = n) :
    Sm Tryz.prog E 74 [.d (.slice l.length 1 (encLL l)), .func 68 [] [.ptr 0 0 0 1]] (hpA n rr bb P R) (fun v h => v = .d (.int .i64 (-1)) ∧ h = (hpA n rr bb P R)) := by
  refine sm_of HE true (by kernel_rfl) ?_
  conv => whnf
  refine loops_by (fun i : Nat => ⟨19, [(0, .d (.slice l.length 1 (encLL l))), (1, .func 68 [] [.ptr 0 0 0 1]), (4, .d (.int .i64 0)), (7, .d (.int .i64 l.length)), (8, .d (.int .i64 i))], .unk, (hpA n rr bb P R), []⟩)
    (fun i => i ≤ l.length) (fun i => l.length - i) 0 (Nat.zero_le _) ?_
  intro f i hi ih
  conv => whnf
  cases h1 : ltI (i : Int) (l.length : Int)
  · conv => whnf
    exact ⟨rfl, rfl⟩
  have hlt := ltI_t h1
  have hb := blt_t (i := i) (n := l.length) (by omega)
  obtain ⟨x, hx⟩ := at_some (l := l) (i := i) (by omega)
  conv => whnf
  rw [hb]
  conv => whnf
  rw [encLL_get1 hx]
  conv => whnf
  refine Sm.mono (c68a n rr bb P R x (hc x (List.mem_of_getElem? hx))) ?_
  rintro v h ⟨rfl, rfl⟩
  conv => whnf
  rw [wrap_succ (by omega)]
  exact ih (i + 1) (by omega) (by omega)
theorem conA (n : Nat) (rr bb : Int) (P : List Int) (R : List (List Int)) (l : List (List Int)) (hl : l.length < 4611686018427387904) (hc : ∀ r ∈ l, r.length = n) :
    Sm Tryz.prog E 56 [.d (.slice l.length 1 (encLL l)), .func 68 [] [.ptr 0 0 0 1]] (hpA n rr bb P R) (fun v h => v = .d (.bool false) ∧ h = (hpA n rr bb P R)) := by
  refine sm_of HE true (by kernel_rfl) ?_
  conv => whnf
  refine Sm.mono (idxA n rr bb P R l hl hc) ?_
  rintro v h ⟨rfl, rfl⟩
  conv => whnf
  exact ⟨rfl, rfl⟩
theorem idxB  (l : List Int) (hl : l.length < 4611686018427387904) (hc : ∀ r ∈ l, 0 ≤ r ∧ r ≤ 1000) :
    Sm Tryz.prog E 104 [.d (.slice l.length 1 (encI l)), .func 70 [] [.ptr 0 0 0 1]] (hpF 52) (fun v h => v = .d (.int .i64 (-1)) ∧ h = (hpF 52)) := by
  refine sm_of HE true (by kernel_rfl) ?_
  conv => whnf
  refine loops_by (fun i : Nat => ⟨19, [(0, .d (.slice l.length 1 (encI l))), (1, .func 70 [] [.ptr 0 0 0 1]), (4, .d (.int .i64 0)), (7, .d (.int .i64 l.length)), (8, .d (.int .i64 i))], .unk, (hpF 52), []⟩)
    (fun i => i ≤ l.length) (fun i => l.length - i) 0 (Nat.zero_le _) ?_
  intro f i hi ih
  conv => whnf
  cases h1 : ltI (i : Int) (l.length : Int)
  · conv => whnf
    exact ⟨rfl, rfl⟩
  have hlt := ltI_t h1
  have hb := blt_t (i := i) (n := l.length) (by omega)
  obtain ⟨x, hx⟩ := at_some (l := l) (i := i) (by omega)
  conv => whnf
  rw [hb]
  conv => whnf
  rw [encI_get1 hx]
  conv => whnf
  refine Sm.mono (c70b x (hc x (List.mem_of_getElem? hx))) ?_
  rintro v h ⟨rfl, rfl⟩
  conv => whnf
  rw [wrap_succ (by omega)]
  exact ih (i + 1) (by omega) (by omega)
theorem conB  (l : List Int) (hl : l.length < 4611686018427387904) (hc : ∀ r ∈ l, 0 ≤ r ∧ r ≤ 1000) :
    Sm Tryz.prog E 69 [.d (.slice l.length 1 (encI l)), .func 70 [] [.ptr 0 0 0 1]] (hpF 52) (fun v h => v = .d (.bool false) ∧ h = (hpF 52)) := by
  refine sm_of HE true (by kernel_rfl) ?_
  conv => whnf
  refine Sm.mono (idxB  l hl hc) ?_
  rintro v h ⟨rfl, rfl⟩
  conv => whnf
  exact ⟨rfl, rfl⟩
theorem idxC  (l : List Int) (hl : l.length < 4611686018427387904) (hc : ∀ r ∈ l, 0 ≤ r ∧ r ≤ 60) :
    Sm Tryz.prog E 104 [.d (.slice l.length 1 (encI l)), .func 70 [] [.ptr 0 0 0 1]] (hpF 54) (fun v h => v = .d (.int .i64 (-1)) ∧ h = (hpF 54)) := by
  refine sm_of HE true (by kernel_rfl) ?_
  conv => whnf
  refine loops_by (fun i : Nat => ⟨19, [(0, .d (.slice l.length 1 (encI l))), (1, .func 70 [] [.ptr 0 0 0 1]), (4, .d (.int .i64 0)), (7, .d (.int .i64 l.length)), (8, .d (.int .i64 i))], .unk, (hpF 54), []⟩)
    (fun i => i ≤ l.length) (fun i => l.length - i) 0 (Nat.zero_le _) ?_
  intro f i hi ih
  conv => whnf
  cases h1 : ltI (i : Int) (l.length : Int)
  · conv => whnf
    exact ⟨rfl, rfl⟩
  have hlt := ltI_t h1
  have hb := blt_t (i := i) (n := l.length) (by omega)
  obtain ⟨x, hx⟩ := at_some (l := l) (i := i) (by omega)
  conv => whnf
  rw [hb]
  conv => whnf
  rw [encI_get1 hx]
  conv => whnf
  refine Sm.mono (c70c x (hc x (List.mem_of_getElem? hx))) ?_
  rintro v h ⟨rfl, rfl⟩
  conv => whnf
  rw [wrap_succ (by omega)]
  exact ih (i + 1) (by omega) (by omega)
theorem conC  (l : List Int) (hl : l.length < 4611686018427387904) (hc : ∀ r ∈ l, 0 ≤ r ∧ r ≤ 60) :
    Sm Tryz.prog E 69 [.d (.slice l.length 1 (encI l)), .func 70 [] [.ptr 0 0 0 1]] (hpF 54) (fun v h => v = .d (.bool false) ∧ h = (hpF 54)) := by
  refine sm_of HE true (by kernel_rfl) ?_
  conv => whnf
  refine Sm.mono (idxC  l hl hc) ?_
  rintro v h ⟨rfl, rfl⟩
  conv => whnf
  exact ⟨rfl, rfl⟩
theorem allA (n : Nat) (rr bb : Int) (P : List Int) (R : List (List Int)) (l : List (List Int)) (hl : l.length < 4611686018427387904) (hc : ∀ r ∈ l, r.length = n) :
    Sm Tryz.prog E 49 [.d (.slice l.length 1 (encLL l)), .func 50 [] [.ptr 0 0 0 5]] [.row (.ds (cupL n rr bb P R)) 0 0 []] (fun v h => v = .d (.bool true) ∧ h = [.row (.ds (cupL n rr bb P R)) 0 0 []]) := by
  refine sm_of HE true (by kernel_rfl) ?_
  unfold cupL
  conv => whnf
  refine Sm.mono (conA n rr bb P R l hl hc) ?_
  rintro v h ⟨rfl, rfl⟩
  conv => whnf
  exact ⟨rfl, rfl⟩
theorem allB (l : List Int) (hl : l.length < 4611686018427387904) (hc : ∀ r ∈ l, 0 ≤ r ∧ r ≤ 1000) :
    Rets Tryz.prog E 51 [.d (.slice l.length 1 (encI l)), .d (.func 52 [] [])] (.d (.bool true)) := by
  refine sm_of HE true (by kernel_rfl) ?_
  conv => whnf
  refine Sm.mono (conB l hl hc) ?_
  rintro v h ⟨rfl, rfl⟩
  conv => whnf
  exact ⟨rfl, rfl⟩
theorem allC (l : List Int) (hl : l.length < 4611686018427387904) (hc : ∀ r ∈ l, 0 ≤ r ∧ r ≤ 60) :
    Rets Tryz.prog E 51 [.d (.slice l.length 1 (encI l)), .d (.func 54 [] [])] (.d (.bool true)) := by
  refine sm_of HE true (by kernel_rfl) ?_
  conv => whnf
  refine Sm.mono (conC l hl hc) ?_
  rintro v h ⟨rfl, rfl⟩
  conv => whnf
  exact ⟨rfl, rfl⟩
theorem c53 (r : List Int) (hl : r.length < 4611686018427387904) (hc : ∀ x ∈ r, 0 ≤ x ∧ x ≤ 60) : Rets Tryz.prog E 53 [.d (.slice r.length 1 (encI r))] (.d (.bool true)) := by
  refine sm_of HE true (by kernel_rfl) ?_
  conv => whnf
  refine Rets.use (allC r hl hc) ?_
  conv => whnf
  exact ⟨rfl, rfl⟩
theorem c68d (r : List Int) (hr : r.length < 4611686018427387904 ∧ ∀ x ∈ r, 0 ≤ x ∧ x ≤ 60) :
    Sm Tryz.prog E 68 [.d (.slice r.length 1 (encI r)), .ptr 0 0 0 1] (hpF 53) (fun v h => v = .d (.bool false) ∧ h = hpF 53) := by
  refine sm_of HE true (by kernel_rfl) ?_
  unfold hpF
  conv => whnf
  refine Rets.use (c53 r hr.1 hr.2) ?_
  conv => whnf
  exact ⟨rfl, rfl⟩
theorem idxD  (l : List (List Int)) (hl : l.length < 4611686018427387904) (hc : ∀ r ∈ l, r.length < 4611686018427387904 ∧ ∀ x ∈ r, 0 ≤ x ∧ x ≤ 60) :
    Sm Tryz.prog E 74 [.d (.slice l.length 1 (encLL l)), .func 68 [] [.ptr 0 0 0 1]] (hpF 53) (fun v h => v = .d (.int .i64 (-1)) ∧ h = (hpF 53)) := by
  refine sm_of HE true (by kernel_rfl) ?_
  conv => whnf
  refine loops_by (fun i : Nat => ⟨19, [(0, .d (.slice l.length 1 (encLL l))), (1, .func 68 [] [.ptr 0 0 0 1]), (4, .d (.int .i64 0)), (7, .d (.int .i64 l.length)), (8, .d (.int .i64 i))], .unk, (hpF 53), []⟩)
    (fun i => i ≤ l.length) (fun i => l.length - i) 0 (Nat.zero_le _) ?_
  intro f i hi ih
  conv => whnf
  cases h1 : ltI (i : Int) (l.length : Int)
  · conv => whnf
    exact ⟨rfl, rfl⟩
  have hlt := ltI_t h1
  have hb := blt_t (i := i) (n := l.length) (by omega)
  obtain ⟨x, hx⟩ := at_some (l := l) (i := i) (by omega)
  conv => whnf
  rw [hb]
  conv => whnf
  rw [encLL_get1 hx]
  conv => whnf
  refine Sm.mono (c68d x (hc x (List.mem_of_getElem? hx))) ?_
  rintro v h ⟨rfl, rfl⟩
  conv => whnf
  rw [wrap_succ (by omega)]
  exact ih (i + 1) (by omega) (by omega)
theorem conD  (l : List (List Int)) (hl : l.length < 4611686018427387904) (hc : ∀ r ∈ l, r.length < 4611686018427387904 ∧ ∀ x ∈ r, 0 ≤ x ∧ x ≤ 60) :
    Sm Tryz.prog E 56 [.d (.slice l.length 1 (encLL l)), .func 68 [] [.ptr 0 0 0 1]] (hpF 53) (fun v h => v = .d (.bool false) ∧ h = (hpF 53)) := by
  refine sm_of HE true (by kernel_rfl) ?_
  conv => whnf
  refine Sm.mono (idxD  l hl hc) ?_
  rintro v h ⟨rfl, rfl⟩
  conv => whnf
  exact ⟨rfl, rfl⟩
theorem allD (l : List (List Int)) (hl : l.length < 4611686018427387904) (hc : ∀ r ∈ l, r.length < 4611686018427387904 ∧ ∀ x ∈ r, 0 ≤ x ∧ x ≤ 60) :
    Rets Tryz.prog E 49 [.d (.slice l.length 1 (encLL l)), .d (.func 53 [] [])] (.d (.bool true)) := by
  refine sm_of HE true (by kernel_rfl) ?_
  conv => whnf
  refine Sm.mono (conD l hl hc) ?_
  rintro v h ⟨rfl, rfl⟩
  conv => whnf
  exact ⟨rfl, rfl⟩
/-! ### Order -/
theorem nan_ok (x : Int) : Rets Tryz.prog E 105 [.d (.int .i64 x)] (.d (.bool false)) := by
  refine sm_of HE true (by kernel_rfl) ?_
  conv => whnf
  rw [eqI_tt (a := x) rfl]
  exact ⟨rfl, rfl⟩
def cmpI (x y : Int) : Int := match ltI x y with | true => -1 | false => match ltI y x with | true => 1 | false => 0
theorem compare_ok (x y : Int) : Rets Tryz.prog E 73 [.d (.int .i64 x), .d (.int .i64 y)] (.d (.int .i64 (cmpI x y))) := by
  refine sm_of HE true (by kernel_rfl) ?_
  unfold cmpI
  conv => whnf
  refine Rets.use (nan_ok x) ?_
  conv => whnf
  refine Rets.use (nan_ok y) ?_
  conv => whnf
  cases h1 : ltI x y
  · conv => whnf
    cases h2 : ltI y x
    · conv => whnf
      exact ⟨rfl, rfl⟩
    · conv => whnf
      exact ⟨rfl, rfl⟩
  · conv => whnf
    exact ⟨rfl, rfl⟩
theorem less_ok (x y : Int) : Rets Tryz.prog E 160 [.d (.int .i64 x), .d (.int .i64 y)] (.d (.bool (ltI x y))) := by
  refine sm_of HE true (by kernel_rfl) ?_
  conv => whnf
  refine Rets.use (nan_ok x) ?_
  conv => whnf
  exact ⟨rfl, rfl⟩
theorem c72 (a b : Int) : Rets Tryz.prog E 72 [.d (.int .i64 a), .d (.int .i64 b)] (.d (.int .i64 (cmpI b a))) := by
  refine sm_of HE true (by kernel_rfl) ?_
  conv => whnf
  refine Rets.use (compare_ok b a) ?_
  conv => whnf
  exact ⟨rfl, rfl⟩
theorem cmp_nn {a b : Int} (h : b ≤ a) : ltI (cmpI a b) 0 = false := by
  unfold cmpI
  rw [ltI_ff h]
  simp only
  cases ltI b a <;> rfl
theorem sorted_ok (l : List Int) (hl : l.length ≤ 1000) (hf : ∀ (i : Nat) x y, l[i]? = some x → l[i + 1]? = some y → y ≤ x) (h0 : 1 ≤ l.length) :
    Rets Tryz.prog E 71 [.d (.slice l.length 1 (encI l)), .d (.func 72 [] [])] (.d (.bool true)) := by
  obtain ⟨m, hm⟩ : ∃ m, l.length = m + 1 := ⟨l.length - 1, by omega⟩
  refine sm_of HE true (by kernel_rfl) ?_
  conv => whnf
  rw [wrap_i64 (n := (l.length : Int) - 1) (by omega) (by omega), show (l.length : Int) - 1 = (m : Nat) by omega]
  refine loops_by (fun i : Nat => ⟨25, [(0, .d (.slice l.length 1 (encI l))), (1, .d (.func 72 [] [])), (4, .d (.bool false)), (5, .d (.int .i64 i))], .unk, [], []⟩)
    (fun i => i ≤ m) (fun i => i) m (Nat.le_refl _) ?_
  intro f i hi ih
  conv => whnf
  cases h1 : ltI 0 (i : Int)
  · conv => whnf
    exact ⟨rfl, rfl⟩
  have h1 := ltI_t h1
  obtain ⟨j, rfl⟩ : ∃ j, i = j + 1 := ⟨i - 1, by omega⟩
  have hb := blt_t (i := j) (n := l.length) (by omega)
  have hb1 := blt_t (i := j + 1) (n := l.length) (by omega)
  obtain ⟨x, hx⟩ := at_some (l := l) (i := j) (by omega)
  obtain ⟨y, hy⟩ := at_some (l := l) (i := j + 1) (by omega)
  conv => whnf
  rw [hb1]
  conv => whnf
  rw [encI_get1 hy]
  conv => whnf
  rw [wrap_i64 (n := ((j + 1 : Nat) : Int) - 1) (by omega) (by omega), show ((j + 1 : Nat) : Int) - 1 = (j : Int) by omega]
  conv => whnf
  rw [hb]
  conv => whnf
  rw [encI_get1 hx]
  conv => whnf
  refine Rets.use (c72 y x) ?_
  conv => whnf
  rw [cmp_nn (hf j x y hx hy)]
  conv => whnf
  rw [wrap_i64 (n := ((j + 1 : Nat) : Int) - 1) (by omega) (by omega), show ((j + 1 : Nat) : Int) - 1 = (j : Int) by omega]
  exact ih j (by omega) (by omega)
theorem falls_ok (l : List Int) (hl : l.length ≤ 1000) (hf : ∀ (i : Nat) x y, l[i]? = some x → l[i + 1]? = some y → y ≤ x) (h0 : 1 ≤ l.length) :
    Rets Tryz.prog E 55 [.d (.slice l.length 1 (encI l))] (.d (.bool true)) := by
  refine sm_of HE true (by kernel_rfl) ?_
  conv => whnf
  refine Rets.use (sorted_ok l hl hf h0) ?_
  conv => whnf
  exact ⟨rfl, rfl⟩
end Go.Proofs.Cx
