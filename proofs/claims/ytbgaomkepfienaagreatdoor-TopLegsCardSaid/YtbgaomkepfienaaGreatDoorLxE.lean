/-
  TopLegs: the program's check of rules and of a squad; copies; orders compared.
-/
import Derived.Test.YtbgaomkepfienaaGreatDoorLxC
namespace Go.Proofs.Lx
open Go Go.Ab Go.Proofs.Lw
set_option maxRecDepth 100000
set_option maxHeartbeats 20000000
theorem cloneRules (r : Ru) (O : r.pc.length ≤ 1000) : Rets Tryz.prog E 5 [.d (ruD r)] (.d (ruD r)) := by
  refine sm_of HE true (by kernel_rfl) ?_
  unfold ruD ruL
  conv => whnf
  refine Rets.use (clone18 r.pc (by omega)) ?_
  conv => whnf
  exact ⟨rfl, rfl⟩
theorem cloneSquad (s : Sq) (h1 : s.sc.length ≤ 1000) (h2 : s.T.length ≤ 1000) (h3 : ∀ l ∈ s.T, l.length ≤ 1000) : Rets Tryz.prog E 6 [.d (sqD s)] (.d (sqD s)) := by
  refine sm_of HE true (by kernel_rfl) ?_
  unfold sqD sqL
  conv => whnf
  refine Rets.use (clone18 s.sc (by omega)) ?_
  conv => whnf
  refine Rets.use (cloneAll s.T h2 (fun l hl => by have := h3 l hl; omega)) ?_
  conv => whnf
  exact ⟨rfl, rfl⟩
/-! ### Orders compared -/
theorem nan_ok (x : Int) : Rets Tryz.prog E 42 [.d (.int .i64 x)] (.d (.bool false)) := by
  refine sm_of HE true (by kernel_rfl) ?_
  conv => whnf
  rw [eqI_tt (a := x) rfl]
  exact ⟨rfl, rfl⟩
def cmpI (x y : Int) : Int := match ltI x y with | true => -1 | false => match ltI y x with | true => 1 | false => 0
theorem compare_ok (x y : Int) : Rets Tryz.prog E 25 [.d (.int .i64 x), .d (.int .i64 y)] (.d (.int .i64 (cmpI x y))) := by
  refine sm_of HE true (by kernel_rfl) ?_
  unfold cmpI
  conv => whnf
  refine Rets.use (nan_ok x) ?_
  conv => whnf
  refine Rets.use (nan_ok y) ?_
  conv => whnf
  cases h1 : ltI x y
  · conv => whnf
    cases h2 : ltI y x
    · conv => whnf
      exact ⟨rfl, rfl⟩
    · conv => whnf
      exact ⟨rfl, rfl⟩
  · conv => whnf
    exact ⟨rfl, rfl⟩
theorem cmp_drop {a b : List Int} {i : Nat} {x y : Int} (hx : a[i]? = some x) (hy : b[i]? = some y) : cmpLI (a.drop i) (b.drop i) = match ltI x y with | true => -1 | false => match ltI y x with | true => 1 | false => cmpLI (a.drop (i + 1)) (b.drop (i + 1)) := by
  rw [drop_at hx, drop_at hy]
  show (if x < y then (-1 : Int) else if y < x then 1 else _) = _
  rw [ltI_eq, ltI_eq]
  by_cases h1 : x < y
  · simp [h1]
  · by_cases h2 : y < x <;> simp [h1, h2]
theorem Compare13 (a b : List Int) (ha : a.length < 4611686018427387904) : Rets Tryz.prog E 13 [.d (sl a), .d (sl b)] (.d (.int .i64 (cmpLI a b))) := by
  refine sm_of HE true (by kernel_rfl) ?_
  unfold sl
  conv => whnf
  refine loops_by (fun i : Nat => ⟨36, [(0, .d (.slice a.length 1 (encI a))), (1, .d (.slice b.length 1 (encI b))), (4, .d (.int .i64 0)), (9, .d (.slice a.length 1 (encI a))), (10, .d (.int .i64 a.length)), (11, .d (.int .i64 i))], .unk, [], []⟩)
    (fun i => i ≤ a.length ∧ i ≤ b.length ∧ cmpLI a b = cmpLI (a.drop i) (b.drop i)) (fun i => a.length - i) 0 ⟨Nat.zero_le _, Nat.zero_le _, rfl⟩ ?_
  rintro f i ⟨hi, hib, hc⟩ ih
  conv => whnf
  cases h1 : ltI (i : Int) (a.length : Int)
  · have h1 := ltI_f h1
    have hd : a.drop i = [] := List.drop_eq_nil_of_le (by omega)
    conv => whnf
    cases h2 : ltI (a.length : Int) (b.length : Int)
    · have h2 := ltI_f h2
      have hdb : b.drop i = [] := List.drop_eq_nil_of_le (by omega)
      conv => whnf
      rw [hc, hd, hdb]
      exact ⟨rfl, rfl⟩
    · have h2 := ltI_t h2
      obtain ⟨y, hy⟩ := at_some (l := b) (i := i) (by omega)
      conv => whnf
      rw [hc, hd, drop_at hy]
      exact ⟨rfl, rfl⟩
  have h1 := ltI_t h1
  have hba := blt_t (i := i) (n := a.length) (by omega)
  obtain ⟨x, hx⟩ := at_some (l := a) (i := i) (by omega)
  conv => whnf
  rw [hba]
  conv => whnf
  rw [encI_get1 hx]
  conv => whnf
  cases h2 : leI (b.length : Int) (i : Int)
  case true =>
    have h2 : b.length ≤ i := by rw [leI_eq] at h2; have := of_decide_eq_true h2; omega
    have hdb : b.drop i = [] := List.drop_eq_nil_of_le (by omega)
    conv => whnf
    rw [hc, drop_at hx, hdb]
    exact ⟨rfl, rfl⟩
  have h2 : i < b.length := by rw [leI_eq] at h2; have := of_decide_eq_false h2; omega
  have hbb := blt_t (i := i) (n := b.length) (by omega)
  obtain ⟨y, hy⟩ := at_some (l := b) (i := i) (by omega)
  conv => whnf
  rw [hbb]
  conv => whnf
  rw [encI_get1 hy]
  conv => whnf
  refine Rets.use (compare_ok x y) ?_
  have hcd := cmp_drop hx hy
  unfold cmpI
  cases h3 : ltI x y
  · cases h4 : ltI y x
    · rw [h3, h4] at hcd
      conv => whnf
      rw [wrap_succ (by omega)]
      exact ih (i + 1) ⟨by omega, by omega, by rw [hc, hcd]⟩ (by omega)
    · rw [h3, h4] at hcd
      conv => whnf
      rw [hc, hcd]
      exact ⟨rfl, rfl⟩
  · rw [h3] at hcd
    conv => whnf
    rw [hc, hcd]
    exact ⟨rfl, rfl⟩
/-! ### Checks -/
def hpA (r : Ru) : List O := [.row (.vs [.func 34 [] [.ptr 1 0 0 6]]) 0 0 [], .row (.ds (ruL r)) 0 0 []]
def hpF (f : Nat) : List O := [.row (.ds [.func f [] []]) 0 0 []]
theorem c34 (r : Ru) (l : List Int) (hl : l.length = r.pc.length) :
    Sm Tryz.prog E 34 [.d (.slice l.length 1 (encI l)), .ptr 0 0 0 6] [.row (.ds (ruL r)) 0 0 []] (fun v h => v = .d (.bool true) ∧ h = [.row (.ds (ruL r)) 0 0 []]) := by
  refine sm_of HE true (by kernel_rfl) ?_
  unfold ruL
  conv => whnf
  rw [eqI_tt (a := (l.length : Int)) (b := (r.pc.length : Int)) (by omega)]
  exact ⟨rfl, rfl⟩
theorem c50a (r : Ru) (l : List Int) (hl : l.length = r.pc.length) :
    Sm Tryz.prog E 50 [.d (.slice l.length 1 (encI l)), .ptr 0 0 0 1] (hpA r) (fun v h => v = .d (.bool false) ∧ h = hpA r) := by
  refine sm_of HE true (by kernel_rfl) ?_
  unfold hpA ruL
  conv => whnf
  refine Sm.mono (c34 r l hl) ?_
  rintro v h ⟨rfl, rfl⟩
  conv => whnf
  exact ⟨rfl, rfl⟩
theorem c51 (x : Int) (hx : 0 ≤ x ∧ x ≤ 3) : Rets Tryz.prog E 51 [.d (.int .i64 x)] (.d (.bool true)) := by
  refine sm_of HE true (by kernel_rfl) ?_
  conv => whnf
  refine Rets.use (within_ok x 0 3) ?_
  rw [inB_of hx.1 hx.2]
  conv => whnf
  exact ⟨rfl, rfl⟩
theorem c38 (x : Int) (hx : 0 ≤ x ∧ x ≤ 100000) : Rets Tryz.prog E 38 [.d (.int .i64 x)] (.d (.bool true)) := by
  refine sm_of HE true (by kernel_rfl) ?_
  conv => whnf
  refine Rets.use (within_ok x 0 100000) ?_
  rw [inB_of hx.1 hx.2]
  conv => whnf
  exact ⟨rfl, rfl⟩
theorem c53b (x : Int) (hx : 0 ≤ x ∧ x ≤ 3) : Sm Tryz.prog E 53 [.d (.int .i64 x), .ptr 0 0 0 1] (hpF 51) (fun v h => v = .d (.bool false) ∧ h = hpF 51) := by
  refine sm_of HE true (by kernel_rfl) ?_
  unfold hpF
  conv => whnf
  refine Rets.use (c51 x hx) ?_
  conv => whnf
  exact ⟨rfl, rfl⟩
theorem c53c (x : Int) (hx : 0 ≤ x ∧ x ≤ 100000) : Sm Tryz.prog E 53 [.d (.int .i64 x), .ptr 0 0 0 1] (hpF 38) (fun v h => v = .d (.bool false) ∧ h = hpF 38) := by
  refine sm_of HE true (by kernel_rfl) ?_
  unfold hpF
  conv => whnf
  refine Rets.use (c38 x hx) ?_
  conv => whnf
  exact ⟨rfl, rfl⟩
theorem idxA (q : Ru) (l : List (List Int)) (hl : l.length < 4611686018427387904) (hc : ∀ r ∈ l, r.length = q.pc.length) :
    Sm Tryz.prog E 66 [.d (.slice l.length 1 (encLL l)), .func 50 [] [.ptr 0 0 0 1]] (hpA q) (fun v h => v = .d (.int .i64 (-1)) ∧ h = (hpA q)) := by
  refine sm_of HE true (by kernel_rfl) ?_
  conv => whnf
  refine loops_by (fun i : Nat => ⟨19, [(0, .d (.slice l.length 1 (encLL l))), (1, .func 50 [] [.ptr 0 0 0 1]), (4, .d (.int .i64 0)), (7, .d (.int .i64 l.length)), (8, .d (.int .i64 i))], .unk, (hpA q), []⟩)
    (fun i => i ≤ l.length) (fun i => l.length - i) 0 (Nat.zero_le _) ?_
  intro f i hi ih
  conv => whnf
  cases h1 : ltI (i : Int) (l.length : Int)
  · conv => whnf
    exact ⟨rfl, rfl⟩
  have hlt := ltI_t h1
  have hb := blt_t (i := i) (n := l.length) (by omega)
  obtain ⟨x, hx⟩ := at_some (l := l) (i := i) (by omega)
  conv => whnf
  rw [hb]
  conv => whnf
  rw [encLL_get1 hx]
  conv => whnf
  refine Sm.mono (c50a q x (hc x (List.mem_of_getElem? hx))) ?_
  rintro v h ⟨rfl, rfl⟩
  conv => whnf
  rw [wrap_succ (by omega)]
  exact ih (i + 1) (by omega) (by omega)
theorem conA (q : Ru) (l : List (List Int)) (hl : l.length < 4611686018427387904) (hc : ∀ r ∈ l, r.length = q.pc.length) :
    Sm Tryz.prog E 49 [.d (.slice l.length 1 (encLL l)), .func 50 [] [.ptr 0 0 0 1]] (hpA q) (fun v h => v = .d (.bool false) ∧ h = (hpA q)) := by
  refine sm_of HE true (by kernel_rfl) ?_
  conv => whnf
  refine Sm.mono (idxA q l hl hc) ?_
  rintro v h ⟨rfl, rfl⟩
  conv => whnf
  exact ⟨rfl, rfl⟩
theorem idxB  (l : List Int) (hl : l.length < 4611686018427387904) (hc : ∀ r ∈ l, 0 ≤ r ∧ r ≤ 3) :
    Sm Tryz.prog E 67 [.d (.slice l.length 1 (encI l)), .func 53 [] [.ptr 0 0 0 1]] (hpF 51) (fun v h => v = .d (.int .i64 (-1)) ∧ h = (hpF 51)) := by
  refine sm_of HE true (by kernel_rfl) ?_
  conv => whnf
  refine loops_by (fun i : Nat => ⟨19, [(0, .d (.slice l.length 1 (encI l))), (1, .func 53 [] [.ptr 0 0 0 1]), (4, .d (.int .i64 0)), (7, .d (.int .i64 l.length)), (8, .d (.int .i64 i))], .unk, (hpF 51), []⟩)
    (fun i => i ≤ l.length) (fun i => l.length - i) 0 (Nat.zero_le _) ?_
  intro f i hi ih
  conv => whnf
  cases h1 : ltI (i : Int) (l.length : Int)
  · conv => whnf
    exact ⟨rfl, rfl⟩
  have hlt := ltI_t h1
  have hb := blt_t (i := i) (n := l.length) (by omega)
  obtain ⟨x, hx⟩ := at_some (l := l) (i := i) (by omega)
  conv => whnf
  rw [hb]
  conv => whnf
  rw [encI_get1 hx]
  conv => whnf
  refine Sm.mono (c53b x (hc x (List.mem_of_getElem? hx))) ?_
  rintro v h ⟨rfl, rfl⟩
  conv => whnf
  rw [wrap_succ (by omega)]
  exact ih (i + 1) (by omega) (by omega)
theorem conB  (l : List Int) (hl : l.length < 4611686018427387904) (hc : ∀ r ∈ l, 0 ≤ r ∧ r ≤ 3) :
    Sm Tryz.prog E 52 [.d (.slice l.length 1 (encI l)), .func 53 [] [.ptr 0 0 0 1]] (hpF 51) (fun v h => v = .d (.bool false) ∧ h = (hpF 51)) := by
  refine sm_of HE true (by kernel_rfl) ?_
  conv => whnf
  refine Sm.mono (idxB  l hl hc) ?_
  rintro v h ⟨rfl, rfl⟩
  conv => whnf
  exact ⟨rfl, rfl⟩
theorem idxC  (l : List Int) (hl : l.length < 4611686018427387904) (hc : ∀ r ∈ l, 0 ≤ r ∧ r ≤ 100000) :
    Sm Tryz.prog E 67 [.d (.slice l.length 1 (encI l)), .func 53 [] [.ptr 0 0 0 1]] (hpF 38) (fun v h => v = .d (.int .i64 (-1)) ∧ h = (hpF 38)) := by
  refine sm_of HE true (by kernel_rfl) ?_
  conv => whnf
  refine loops_by (fun i : Nat => ⟨19, [(0, .d (.slice l.length 1 (encI l))), (1, .func 53 [] [.ptr 0 0 0 1]), (4, .d (.int .i64 0)), (7, .d (.int .i64 l.length)), (8, .d (.int .i64 i))], .unk, (hpF 38), []⟩)
    (fun i => i ≤ l.length) (fun i => l.length - i) 0 (Nat.zero_le _) ?_
  intro f i hi ih
  conv => whnf
  cases h1 : ltI (i : Int) (l.length : Int)
  · conv => whnf
    exact ⟨rfl, rfl⟩
  have hlt := ltI_t h1
  have hb := blt_t (i := i) (n := l.length) (by omega)
  obtain ⟨x, hx⟩ := at_some (l := l) (i := i) (by omega)
  conv => whnf
  rw [hb]
  conv => whnf
  rw [encI_get1 hx]
  conv => whnf
  refine Sm.mono (c53c x (hc x (List.mem_of_getElem? hx))) ?_
  rintro v h ⟨rfl, rfl⟩
  conv => whnf
  rw [wrap_succ (by omega)]
  exact ih (i + 1) (by omega) (by omega)
theorem conC  (l : List Int) (hl : l.length < 4611686018427387904) (hc : ∀ r ∈ l, 0 ≤ r ∧ r ≤ 100000) :
    Sm Tryz.prog E 52 [.d (.slice l.length 1 (encI l)), .func 53 [] [.ptr 0 0 0 1]] (hpF 38) (fun v h => v = .d (.bool false) ∧ h = (hpF 38)) := by
  refine sm_of HE true (by kernel_rfl) ?_
  conv => whnf
  refine Sm.mono (idxC  l hl hc) ?_
  rintro v h ⟨rfl, rfl⟩
  conv => whnf
  exact ⟨rfl, rfl⟩
theorem allA (r : Ru) (l : List (List Int)) (hl : l.length < 4611686018427387904) (hc : ∀ q ∈ l, q.length = r.pc.length) :
    Sm Tryz.prog E 33 [.d (.slice l.length 1 (encLL l)), .func 34 [] [.ptr 0 0 0 6]] [.row (.ds (ruL r)) 0 0 []] (fun v h => v = .d (.bool true) ∧ h = [.row (.ds (ruL r)) 0 0 []]) := by
  refine sm_of HE true (by kernel_rfl) ?_
  unfold ruL
  conv => whnf
  refine Sm.mono (conA r l hl hc) ?_
  rintro v h ⟨rfl, rfl⟩
  conv => whnf
  exact ⟨rfl, rfl⟩
theorem allB (l : List Int) (hl : l.length < 4611686018427387904) (hc : ∀ r ∈ l, 0 ≤ r ∧ r ≤ 3) :
    Rets Tryz.prog E 37 [.d (.slice l.length 1 (encI l)), .d (.func 51 [] [])] (.d (.bool true)) := by
  refine sm_of HE true (by kernel_rfl) ?_
  conv => whnf
  refine Sm.mono (conB l hl hc) ?_
  rintro v h ⟨rfl, rfl⟩
  conv => whnf
  exact ⟨rfl, rfl⟩
theorem classed_ok (l : List Int) (hl : l.length < 4611686018427387904) (hc : Cls l) : Rets Tryz.prog E 35 [.d (.slice l.length 1 (encI l))] (.d (.bool true)) := by
  refine sm_of HE true (by kernel_rfl) ?_
  conv => whnf
  refine Rets.use (allB l hl hc) ?_
  conv => whnf
  exact ⟨rfl, rfl⟩
theorem allC (l : List Int) (hl : l.length < 4611686018427387904) (hc : ∀ r ∈ l, 0 ≤ r ∧ r ≤ 100000) :
    Rets Tryz.prog E 37 [.d (.slice l.length 1 (encI l)), .d (.func 38 [] [])] (.d (.bool true)) := by
  refine sm_of HE true (by kernel_rfl) ?_
  conv => whnf
  refine Sm.mono (conC l hl hc) ?_
  rintro v h ⟨rfl, rfl⟩
  conv => whnf
  exact ⟨rfl, rfl⟩
theorem c36 (r : List Int) (hl : r.length < 4611686018427387904) (hc : ∀ x ∈ r, 0 ≤ x ∧ x ≤ 100000) : Rets Tryz.prog E 36 [.d (.slice r.length 1 (encI r))] (.d (.bool true)) := by
  refine sm_of HE true (by kernel_rfl) ?_
  conv => whnf
  refine Rets.use (allC r hl hc) ?_
  conv => whnf
  exact ⟨rfl, rfl⟩
theorem c50d (r : List Int) (hr : r.length < 4611686018427387904 ∧ ∀ x ∈ r, 0 ≤ x ∧ x ≤ 100000) :
    Sm Tryz.prog E 50 [.d (.slice r.length 1 (encI r)), .ptr 0 0 0 1] (hpF 36) (fun v h => v = .d (.bool false) ∧ h = hpF 36) := by
  refine sm_of HE true (by kernel_rfl) ?_
  unfold hpF
  conv => whnf
  refine Rets.use (c36 r hr.1 hr.2) ?_
  conv => whnf
  exact ⟨rfl, rfl⟩
theorem idxD  (l : List (List Int)) (hl : l.length < 4611686018427387904) (hc : ∀ r ∈ l, r.length < 4611686018427387904 ∧ ∀ x ∈ r, 0 ≤ x ∧ x ≤ 100000) :
    Sm Tryz.prog E 66 [.d (.slice l.length 1 (encLL l)), .func 50 [] [.ptr 0 0 0 1]] (hpF 36) (fun v h => v = .d (.int .i64 (-1)) ∧ h = (hpF 36)) := by
  refine sm_of HE true (by kernel_rfl) ?_
  conv => whnf
  refine loops_by (fun i : Nat => ⟨19, [(0, .d (.slice l.length 1 (encLL l))), (1, .func 50 [] [.ptr 0 0 0 1]), (4, .d (.int .i64 0)), (7, .d (.int .i64 l.length)), (8, .d (.int .i64 i))], .unk, (hpF 36), []⟩)
    (fun i => i ≤ l.length) (fun i => l.length - i) 0 (Nat.zero_le _) ?_
  intro f i hi ih
  conv => whnf
  cases h1 : ltI (i : Int) (l.length : Int)
  · conv => whnf
    exact ⟨rfl, rfl⟩
  have hlt := ltI_t h1
  have hb := blt_t (i := i) (n := l.length) (by omega)
  obtain ⟨x, hx⟩ := at_some (l := l) (i := i) (by omega)
  conv => whnf
  rw [hb]
  conv => whnf
  rw [encLL_get1 hx]
  conv => whnf
  refine Sm.mono (c50d x (hc x (List.mem_of_getElem? hx))) ?_
  rintro v h ⟨rfl, rfl⟩
  conv => whnf
  rw [wrap_succ (by omega)]
  exact ih (i + 1) (by omega) (by omega)
theorem conD  (l : List (List Int)) (hl : l.length < 4611686018427387904) (hc : ∀ r ∈ l, r.length < 4611686018427387904 ∧ ∀ x ∈ r, 0 ≤ x ∧ x ≤ 100000) :
    Sm Tryz.prog E 49 [.d (.slice l.length 1 (encLL l)), .func 50 [] [.ptr 0 0 0 1]] (hpF 36) (fun v h => v = .d (.bool false) ∧ h = (hpF 36)) := by
  refine sm_of HE true (by kernel_rfl) ?_
  conv => whnf
  refine Sm.mono (idxD  l hl hc) ?_
  rintro v h ⟨rfl, rfl⟩
  conv => whnf
  exact ⟨rfl, rfl⟩
theorem allD (l : List (List Int)) (hl : l.length < 4611686018427387904) (hc : ∀ r ∈ l, r.length < 4611686018427387904 ∧ ∀ x ∈ r, 0 ≤ x ∧ x ≤ 100000) :
    Rets Tryz.prog E 33 [.d (.slice l.length 1 (encLL l)), .d (.func 36 [] [])] (.d (.bool true)) := by
  refine sm_of HE true (by kernel_rfl) ?_
  conv => whnf
  refine Sm.mono (conD l hl hc) ?_
  rintro v h ⟨rfl, rfl⟩
  conv => whnf
  exact ⟨rfl, rfl⟩
/-! ### Limits -/
def hpL (r : Ru) : List O := [.row (.vs [.func 48 [] [.ptr 1 0 0 6]]) 0 0 [], .row (.ds (ruL r)) 0 0 []]
theorem c61 (r : Ru) : Rets Tryz.prog E 61 [.d (ruD r)] (.d (.int .i64 r.e)) := by
  refine sm_of HE true (by kernel_rfl) ?_
  unfold ruD ruL
  conv => whnf
  exact ⟨rfl, rfl⟩
theorem c48_61 (r : Ru) (O : OkR r) : Sm Tryz.prog E 48 [.d (.agg [.func 61 [] [], .int .i64 1, .int .i64 4]), .ptr 0 0 0 6] [.row (.ds (ruL r)) 0 0 []] (fun v h => v = .d (.bool true) ∧ h = [.row (.ds (ruL r)) 0 0 []]) := by
  refine sm_of HE true (by kernel_rfl) ?_
  unfold ruL
  conv => whnf
  refine Rets.use (c61 r) ?_
  conv => whnf
  refine Rets.use (within_ok r.e 1 4) ?_
  rw [inB_of O.e.1 O.e.2]
  conv => whnf
  exact ⟨rfl, rfl⟩
theorem c60_61 (r : Ru) (O : OkR r) : Sm Tryz.prog E 60 [.d (.agg [.func 61 [] [], .int .i64 1, .int .i64 4]), .ptr 0 0 0 1] (hpL r) (fun v h => v = .d (.bool false) ∧ h = hpL r) := by
  refine sm_of HE true (by kernel_rfl) ?_
  unfold hpL ruL
  conv => whnf
  refine Sm.mono (c48_61 r O) ?_
  rintro v h ⟨rfl, rfl⟩
  conv => whnf
  exact ⟨rfl, rfl⟩
theorem c62 (r : Ru) : Rets Tryz.prog E 62 [.d (ruD r)] (.d (.int .i64 r.laps)) := by
  refine sm_of HE true (by kernel_rfl) ?_
  unfold ruD ruL
  conv => whnf
  exact ⟨rfl, rfl⟩
theorem c48_62 (r : Ru) (O : OkR r) : Sm Tryz.prog E 48 [.d (.agg [.func 62 [] [], .int .i64 1, .int .i64 5]), .ptr 0 0 0 6] [.row (.ds (ruL r)) 0 0 []] (fun v h => v = .d (.bool true) ∧ h = [.row (.ds (ruL r)) 0 0 []]) := by
  refine sm_of HE true (by kernel_rfl) ?_
  unfold ruL
  conv => whnf
  refine Rets.use (c62 r) ?_
  conv => whnf
  refine Rets.use (within_ok r.laps 1 5) ?_
  rw [inB_of O.laps.1 O.laps.2]
  conv => whnf
  exact ⟨rfl, rfl⟩
theorem c60_62 (r : Ru) (O : OkR r) : Sm Tryz.prog E 60 [.d (.agg [.func 62 [] [], .int .i64 1, .int .i64 5]), .ptr 0 0 0 1] (hpL r) (fun v h => v = .d (.bool false) ∧ h = hpL r) := by
  refine sm_of HE true (by kernel_rfl) ?_
  unfold hpL ruL
  conv => whnf
  refine Sm.mono (c48_62 r O) ?_
  rintro v h ⟨rfl, rfl⟩
  conv => whnf
  exact ⟨rfl, rfl⟩
theorem c63 (r : Ru) : Rets Tryz.prog E 63 [.d (ruD r)] (.d (.int .i64 r.spare)) := by
  refine sm_of HE true (by kernel_rfl) ?_
  unfold ruD ruL
  conv => whnf
  exact ⟨rfl, rfl⟩
theorem c48_63 (r : Ru) (O : OkR r) : Sm Tryz.prog E 48 [.d (.agg [.func 63 [] [], .int .i64 0, .int .i64 600]), .ptr 0 0 0 6] [.row (.ds (ruL r)) 0 0 []] (fun v h => v = .d (.bool true) ∧ h = [.row (.ds (ruL r)) 0 0 []]) := by
  refine sm_of HE true (by kernel_rfl) ?_
  unfold ruL
  conv => whnf
  refine Rets.use (c63 r) ?_
  conv => whnf
  refine Rets.use (within_ok r.spare 0 600) ?_
  rw [inB_of O.spare.1 O.spare.2]
  conv => whnf
  exact ⟨rfl, rfl⟩
theorem c60_63 (r : Ru) (O : OkR r) : Sm Tryz.prog E 60 [.d (.agg [.func 63 [] [], .int .i64 0, .int .i64 600]), .ptr 0 0 0 1] (hpL r) (fun v h => v = .d (.bool false) ∧ h = hpL r) := by
  refine sm_of HE true (by kernel_rfl) ?_
  unfold hpL ruL
  conv => whnf
  refine Sm.mono (c48_63 r O) ?_
  rintro v h ⟨rfl, rfl⟩
  conv => whnf
  exact ⟨rfl, rfl⟩
theorem c64 (r : Ru) : Rets Tryz.prog E 64 [.d (ruD r)] (.d (.int .i64 r.loop)) := by
  refine sm_of HE true (by kernel_rfl) ?_
  unfold ruD ruL
  conv => whnf
  exact ⟨rfl, rfl⟩
theorem c48_64 (r : Ru) (O : OkR r) : Sm Tryz.prog E 48 [.d (.agg [.func 64 [] [], .int .i64 0, .int .i64 600]), .ptr 0 0 0 6] [.row (.ds (ruL r)) 0 0 []] (fun v h => v = .d (.bool true) ∧ h = [.row (.ds (ruL r)) 0 0 []]) := by
  refine sm_of HE true (by kernel_rfl) ?_
  unfold ruL
  conv => whnf
  refine Rets.use (c64 r) ?_
  conv => whnf
  refine Rets.use (within_ok r.loop 0 600) ?_
  rw [inB_of O.loop.1 O.loop.2]
  conv => whnf
  exact ⟨rfl, rfl⟩
theorem c60_64 (r : Ru) (O : OkR r) : Sm Tryz.prog E 60 [.d (.agg [.func 64 [] [], .int .i64 0, .int .i64 600]), .ptr 0 0 0 1] (hpL r) (fun v h => v = .d (.bool false) ∧ h = hpL r) := by
  refine sm_of HE true (by kernel_rfl) ?_
  unfold hpL ruL
  conv => whnf
  refine Sm.mono (c48_64 r O) ?_
  rintro v h ⟨rfl, rfl⟩
  conv => whnf
  exact ⟨rfl, rfl⟩
theorem c65 (r : Ru) : Rets Tryz.prog E 65 [.d (ruD r)] (.d (.int .i64 r.un)) := by
  refine sm_of HE true (by kernel_rfl) ?_
  unfold ruD ruL
  conv => whnf
  exact ⟨rfl, rfl⟩
theorem c48_65 (r : Ru) (O : OkR r) : Sm Tryz.prog E 48 [.d (.agg [.func 65 [] [], .int .i64 0, .int .i64 6000]), .ptr 0 0 0 6] [.row (.ds (ruL r)) 0 0 []] (fun v h => v = .d (.bool true) ∧ h = [.row (.ds (ruL r)) 0 0 []]) := by
  refine sm_of HE true (by kernel_rfl) ?_
  unfold ruL
  conv => whnf
  refine Rets.use (c65 r) ?_
  conv => whnf
  refine Rets.use (within_ok r.un 0 6000) ?_
  rw [inB_of O.un.1 O.un.2]
  conv => whnf
  exact ⟨rfl, rfl⟩
theorem c60_65 (r : Ru) (O : OkR r) : Sm Tryz.prog E 60 [.d (.agg [.func 65 [] [], .int .i64 0, .int .i64 6000]), .ptr 0 0 0 1] (hpL r) (fun v h => v = .d (.bool false) ∧ h = hpL r) := by
  refine sm_of HE true (by kernel_rfl) ?_
  unfold hpL ruL
  conv => whnf
  refine Sm.mono (c48_65 r O) ?_
  rintro v h ⟨rfl, rfl⟩
  conv => whnf
  exact ⟨rfl, rfl⟩
def limD : D := .slice 5 3 [.func 61 [] [], .int .i64 1, .int .i64 4, .func 62 [] [], .int .i64 1, .int .i64 5, .func 63 [] [], .int .i64 0, .int .i64 600, .func 64 [] [], .int .i64 0, .int .i64 600, .func 65 [] [], .int .i64 0, .int .i64 6000]
theorem limits_ok : Rets Tryz.prog E 47 [] (.d limD) := by
  refine sm_of HE true (by kernel_rfl) ?_
  unfold limD
  conv => whnf
  exact ⟨rfl, rfl⟩
theorem idxL (r : Ru) (O : OkR r) : Sm Tryz.prog E 90 [.d limD, .func 60 [] [.ptr 0 0 0 1]] (hpL r) (fun v h => v = .d (.int .i64 (-1)) ∧ h = hpL r) := by
  refine sm_of HE true (by kernel_rfl) ?_
  unfold limD
  conv => whnf
  refine ⟨6, ?_⟩
  conv => whnf
  refine Sm.mono (c60_61 r O) ?_
  rintro v h ⟨rfl, rfl⟩
  conv => whnf
  refine Sm.mono (c60_62 r O) ?_
  rintro v h ⟨rfl, rfl⟩
  conv => whnf
  refine Sm.mono (c60_63 r O) ?_
  rintro v h ⟨rfl, rfl⟩
  conv => whnf
  refine Sm.mono (c60_64 r O) ?_
  rintro v h ⟨rfl, rfl⟩
  conv => whnf
  refine Sm.mono (c60_65 r O) ?_
  rintro v h ⟨rfl, rfl⟩
  conv => whnf
  exact ⟨rfl, rfl⟩
theorem conL (r : Ru) (O : OkR r) : Sm Tryz.prog E 59 [.d limD, .func 60 [] [.ptr 0 0 0 1]] (hpL r) (fun v h => v = .d (.bool false) ∧ h = hpL r) := by
  refine sm_of HE true (by kernel_rfl) ?_
  conv => whnf
  refine Sm.mono (idxL r O) ?_
  rintro v h ⟨rfl, rfl⟩
  conv => whnf
  exact ⟨rfl, rfl⟩
theorem allL (r : Ru) (O : OkR r) : Sm Tryz.prog E 46 [.d limD, .func 48 [] [.ptr 0 0 0 6]] [.row (.ds (ruL r)) 0 0 []] (fun v h => v = .d (.bool true) ∧ h = [.row (.ds (ruL r)) 0 0 []]) := by
  refine sm_of HE true (by kernel_rfl) ?_
  unfold ruL
  conv => whnf
  refine Sm.mono (conL r O) ?_
  rintro v h ⟨rfl, rfl⟩
  conv => whnf
  exact ⟨rfl, rfl⟩
theorem CheckRules31 (r : Ru) (O : OkR r) : Rets Tryz.prog E 31 [.d (ruD r)] (.d (.int .i64 0)) := by
  refine sm_of HE true (by kernel_rfl) ?_
  unfold ruD ruL
  conv => whnf
  refine Rets.use (within_ok r.pc.length 1 4) ?_
  rw [inB_of (n := r.pc.length) (lo := 1) (hi := 4) (by have := O.pcl; omega) (by have := O.pcl; omega)]
  conv => whnf
  refine Rets.use (classed_ok r.pc (by have := O.pcl; omega) O.pcv) ?_
  conv => whnf
  refine Rets.use limits_ok ?_
  conv => whnf
  refine Sm.mono (allL r O) ?_
  rintro v h ⟨rfl, rfl⟩
  conv => whnf
  exact ⟨rfl, rfl⟩
theorem CheckSquad20 (r : Ru) (s : Sq) (O : OkS r s) : Rets Tryz.prog E 20 [.d (ruD r), .d (sqD s)] (.d (.int .i64 0)) := by
  have hS := O.scl
  have hT := O.tl
  have hL := O.ru.pcl
  refine sm_of HE true (by kernel_rfl) ?_
  unfold ruD ruL sqD sqL
  conv => whnf
  refine Rets.use (CheckRules31 r O.ru) ?_
  conv => whnf
  refine Rets.use (within_ok s.sc.length 1 8) ?_
  rw [inB_of (n := s.sc.length) (lo := 1) (hi := 8) (by omega) (by omega)]
  conv => whnf
  rw [eqI_tt (a := (s.T.length : Int)) (b := (s.sc.length : Int)) (by omega)]
  conv => whnf
  refine Sm.mono (allA r s.T (by omega) O.rows) ?_
  rintro v h ⟨rfl, rfl⟩
  conv => whnf
  refine Rets.use (classed_ok s.sc (by omega) O.scv) ?_
  conv => whnf
  refine Rets.use (allD s.T (by omega) (fun l hl => ⟨by have := O.rows l hl; omega, O.tv l hl⟩)) ?_
  conv => whnf
  exact ⟨rfl, rfl⟩
end Go.Proofs.Lx
