/-
  TopDecidedEarly: what is asked of the program; copies.
-/
import Derived.Test.YtedodndgpjonkaaGreatDoorCxQ
namespace Go.Proofs.Cx
open Go Go.Ab Go.Proofs.Cw
set_option maxRecDepth 100000
set_option maxHeartbeats 40000000
theorem index_ok (l : List Int) (s : Int) (hl : l.length < 4611686018427387904) : Sm Tryz.prog E 29 [.d (.slice l.length 1 (encI l)), .d (.int .i64 s)] []
    (fun v h => (∃ x, v = .d (.int .i64 x) ∧ leI 0 x = decide (s ∈ l)) ∧ h = []) := by
  refine sm_of HE true (by kernel_rfl) ?_
  conv => whnf
  refine loops_by (fun i : Nat => ⟨19, [(0, .d (.slice l.length 1 (encI l))), (1, .d (.int .i64 s)), (4, .d (.int .i64 0)), (7, .d (.int .i64 l.length)), (8, .d (.int .i64 i))], .unk, [], []⟩)
    (fun i => i ≤ l.length ∧ ∀ (t : Nat) y, t < i → l[t]? = some y → s ≠ y) (fun i => l.length - i) 0 ⟨Nat.zero_le _, fun t y h => absurd h (by omega)⟩ ?_
  intro f i ⟨hi, hA⟩ ih
  conv => whnf
  cases h1 : ltI (i : Int) (l.length : Int)
  · have := ltI_f h1
    conv => whnf
    refine ⟨⟨-1, rfl, ?_⟩, rfl⟩
    rw [decide_eq_false fun hm => ?_]
    · rfl
    · obtain ⟨t, ht⟩ := List.getElem?_of_mem hm
      exact hA t s (by have := lt_of_at ht; omega) ht rfl
  have hlt := ltI_t h1
  have hb := blt_t (i := i) (n := l.length) (by omega)
  obtain ⟨x, hx⟩ := at_some (l := l) (i := i) (by omega)
  conv => whnf
  rw [hb]
  conv => whnf
  rw [encI_get1 hx]
  conv => whnf
  cases h2 : eqI s x
  · have h2 := eqI_f h2
    conv => whnf
    rw [wrap_succ (by omega)]
    exact ih (i + 1) ⟨by omega, fun t y ht hy => by
      by_cases hti : t = i
      · subst hti; rw [hx] at hy; cases hy; exact h2
      · exact hA t y (by omega) hy⟩ (by omega)
  · obtain rfl := eqI_t h2
    conv => whnf
    refine ⟨⟨i, rfl, ?_⟩, rfl⟩
    rw [decide_eq_true (List.mem_of_getElem? hx), leI_eq, decide_eq_true (by omega)]
theorem contains_ok (l : List Int) (s : Int) (hl : l.length < 4611686018427387904) : Rets Tryz.prog E 12 [.d (.slice l.length 1 (encI l)), .d (.int .i64 s)] (.d (.bool (decide (s ∈ l)))) := by
  refine sm_of HE true (by kernel_rfl) ?_
  conv => whnf
  refine Sm.mono (index_ok l s hl) ?_
  rintro v h ⟨⟨x, rfl, hx⟩, rfl⟩
  rw [← hx]
  conv => whnf
  exact ⟨rfl, rfl⟩
theorem equal_ok (l : List Int) (s : Int) (hl : l.length < 4611686018427387904) : Sm Tryz.prog E 15 [.d (.slice l.length 1 (encI l)), .slice 0 0 0 1 1] [.row (.ds [.int .i64 s]) 0 0 []]
    (fun v h => v = .d (.bool (decide (l = [s]))) ∧ h = [.row (.ds [.int .i64 s]) 0 0 []]) := by
  refine sm_of HE true (by kernel_rfl) ?_
  conv => whnf
  cases h0 : eqI (l.length : Int) ((1 : Nat) : Int)
  · have h0 := eqI_f h0
    rw [decide_eq_false fun h => by rw [h] at h0; exact h0 rfl]
    conv => whnf
    exact ⟨rfl, rfl⟩
  have h0 := eqI_t h0
  obtain ⟨x, rfl⟩ : ∃ x, l = [x] := List.length_eq_one_iff.1 (by omega)
  conv => whnf
  refine ⟨2, ?_⟩
  conv => whnf
  cases h1 : eqI x s
  · have h1 := eqI_f h1
    rw [decide_eq_false fun h => by cases h; exact h1 rfl]
    conv => whnf
    exact ⟨rfl, rfl⟩
  · obtain rfl := eqI_t h1
    rw [decide_eq_true rfl]
    conv => whnf
    exact ⟨rfl, rfl⟩
/-! ### Copies -/
theorem cloneAll (R : List (List Int)) (hR : R.length ≤ 1000) (hr : ∀ r ∈ R, r.length * 8 ≤ 140737488355328) : Rets Tryz.prog E 5 [.d (.slice R.length 1 (encLL R))] (.d (.slice R.length 1 (encLL R))) := by
  refine Rets.weaken ?_ (wk_rows _)
  refine sm_of HE true (by kernel_rfl) ?_
  conv => whnf
  refine loops_by (fun x : Nat => ⟨19, [(2, .d .nil), (3, slL 0 x), (6, .d (.slice R.length 1 (encLL R))), (7, .d (.int .i64 R.length)), (8, .d (.int .i64 x))], .unk, rwL x (R.take x), []⟩)
    (fun x => x ≤ R.length) (fun x => R.length - x) 0 (Nat.zero_le _) ?_
  intro f i hi ih
  cases i with
  | zero =>
    conv => whnf
    cases h1 : ltI ((0 : Nat) : Int) (R.length : Int)
    · have := ltI_f h1
      obtain rfl : R = [] := List.eq_nil_of_length_eq_zero (by omega)
      conv => whnf
      exact ⟨rfl, rfl⟩
    have hlt := ltI_t h1
    have hb := blt_t (i := 0) (n := R.length) (by omega)
    obtain ⟨r, hr'⟩ := at_some (l := R) (i := 0) (by omega)
    have ht : R.take 1 = [r] := by rw [take_snoc hr']; rfl
    conv => whnf
    rw [hb]
    conv => whnf
    rw [encLL_get1 hr']
    conv => whnf
    refine Rets.use (clone18 r (hr r (List.mem_of_getElem? hr'))) ?_
    conv => whnf
    rw [wrap_succ (by omega)]
    have k := ih 1 (by omega) (by omega)
    rw [ht] at k
    exact k
  | succ k =>
    have hlk : (R.take (k + 1)).length = k + 1 := by simp; omega
    conv => whnf
    cases h1 : ltI ((k + 1 : Nat) : Int) (R.length : Int)
    · have := ltI_f h1
      have hk : R.length = k + 1 := by omega
      rw [List.take_of_length_le (by omega)]
      conv => whnf
      rw [may_all]
      conv => whnf
      have hel : (encLL R).length = (k + 1) * 1 := by rw [encLL_length, hk]; omega
      rw [ble_t (i := 0 + (k + 1) * 1) (by omega)]
      conv => whnf
      refine ⟨?_, rfl⟩
      rw [row_all hel]
      cases R with
      | nil => simp at hk
      | cons a l =>
        simp only [List.length_cons, Nat.add_right_cancel_iff] at hk
        subst hk
        rfl
    have hlt := ltI_t h1
    have hb := blt_t (i := k + 1) (n := R.length) (by omega)
    obtain ⟨r, hr'⟩ := at_some (l := R) (i := k + 1) (by omega)
    conv => whnf
    rw [hb]
    conv => whnf
    rw [encLL_get1 hr']
    conv => whnf
    refine Rets.use (clone18 r (hr r (List.mem_of_getElem? hr'))) ?_
    conv => whnf
    rw [ble_t (i := (k + 1 + 1) * 24) (n := 140737488355328) (by omega)]
    conv => whnf
    rw [may_all]
    conv => whnf
    rw [len_beqL hlk, wrap_succ (by omega), List.take_of_length_le (by rw [encLL_length, hlk]; omega)]
    have e1 : ∀ (l : List (List Int)) (x : List Int), encLL l ++ [D.slice x.length 1 (encI x)] = encLL (l ++ [x]) := fun l x => (encLL_snoc l x).symm
    rw [e1, ← take_snoc hr']
    exact ih (k + 1 + 1) (by omega) (by omega)
def CaP (R : List (List Int)) (v : V) (h : List O) : Prop := (R = [] ∧ v = .d .nil ∧ h = []) ∨ (∃ k, R.length = k + 1 ∧ v = .slice 0 k 0 (k + 1) 1 ∧ h = [.row (.ds (encLL R)) k 0 []])
theorem cloneAllH (R : List (List Int)) (hR : R.length ≤ 1000) (hr : ∀ r ∈ R, r.length * 8 ≤ 140737488355328) : Sm Tryz.prog E 5 [.d (.slice R.length 1 (encLL R))] [] (CaP R) := by
  refine sm_of HE false (by kernel_rfl) ?_
  conv => whnf
  refine loops_by (fun x : Nat => ⟨19, [(2, .d .nil), (3, slL 0 x), (6, .d (.slice R.length 1 (encLL R))), (7, .d (.int .i64 R.length)), (8, .d (.int .i64 x))], .unk, rwL x (R.take x), []⟩)
    (fun x => x ≤ R.length) (fun x => R.length - x) 0 (Nat.zero_le _) ?_
  intro f i hi ih
  cases i with
  | zero =>
    conv => whnf
    cases h1 : ltI ((0 : Nat) : Int) (R.length : Int)
    · have := ltI_f h1
      obtain rfl : R = [] := List.eq_nil_of_length_eq_zero (by omega)
      conv => whnf
      exact .inl ⟨rfl, rfl, rfl⟩
    have hlt := ltI_t h1
    have hb := blt_t (i := 0) (n := R.length) (by omega)
    obtain ⟨r, hr'⟩ := at_some (l := R) (i := 0) (by omega)
    have ht : R.take 1 = [r] := by rw [take_snoc hr']; rfl
    conv => whnf
    rw [hb]
    conv => whnf
    rw [encLL_get1 hr']
    conv => whnf
    refine Rets.use (clone18 r (hr r (List.mem_of_getElem? hr'))) ?_
    conv => whnf
    rw [wrap_succ (by omega)]
    have k := ih 1 (by omega) (by omega)
    rw [ht] at k
    exact k
  | succ k =>
    have hlk : (R.take (k + 1)).length = k + 1 := by simp; omega
    conv => whnf
    cases h1 : ltI ((k + 1 : Nat) : Int) (R.length : Int)
    · have := ltI_f h1
      have hk : R.length = k + 1 := by omega
      rw [List.take_of_length_le (by omega)]
      conv => whnf
      exact .inr ⟨k, hk, rfl, rfl⟩
    have hlt := ltI_t h1
    have hb := blt_t (i := k + 1) (n := R.length) (by omega)
    obtain ⟨r, hr'⟩ := at_some (l := R) (i := k + 1) (by omega)
    conv => whnf
    rw [hb]
    conv => whnf
    rw [encLL_get1 hr']
    conv => whnf
    refine Rets.use (clone18 r (hr r (List.mem_of_getElem? hr'))) ?_
    conv => whnf
    rw [ble_t (i := (k + 1 + 1) * 24) (n := 140737488355328) (by omega)]
    conv => whnf
    rw [may_all]
    conv => whnf
    rw [len_beqL hlk, wrap_succ (by omega), List.take_of_length_le (by rw [encLL_length, hlk]; omega)]
    have e1 : ∀ (l : List (List Int)) (x : List Int), encLL l ++ [D.slice x.length 1 (encI x)] = encLL (l ++ [x]) := fun l x => (encLL_snoc l x).symm
    rw [e1, ← take_snoc hr']
    exact ih (k + 1 + 1) (by omega) (by omega)
section
variable {n rc : Nat} {bb : Int} {P : List Int} {R : List (List Int)}
theorem clone8 (C : Cu n rc bb P R) : Rets Tryz.prog E 8 [.d (cupD n rc bb P R)] (.d (cupD n rc bb P R)) := by
  have O := C.ok
  have k1 := O.sk
  have k4 := O.pts
  have k5 := O.done
  have k6 := C.r12
  have hc := cloneAll R (by omega) fun r hr => by have := O.rows r hr; omega
  refine sm_of HE true (by kernel_rfl) ?_
  unfold cupD cupL
  conv => whnf
  refine Rets.use (clone18 P (by omega)) ?_
  conv => whnf
  refine Rets.use hc ?_
  conv => whnf
  exact ⟨rfl, rfl⟩
/-! ### What is asked -/
theorem Can7 (C : Cu n rc bb P R) : Rets Tryz.prog E 7 [.d (cupD n rc bb P R)] (.d (.tuple [.slice (numL (canL P bb.toNat n rc R)).length 1 (encI (numL (canL P bb.toNat n rc R))), .int .i64 0])) := by
  have h1 := asked_ok C.ok
  have h2 := ansCan C
  generalize numL (canL P bb.toNat n rc R) = L at *
  refine sm_of HE true (by kernel_rfl) ?_
  unfold cupD at h1 h2 ⊢
  unfold cupL at h1 h2 ⊢
  conv => whnf
  refine Rets.use h1 ?_
  conv => whnf
  refine Rets.use possible_ok ?_
  conv => whnf
  refine Rets.use h2 ?_
  conv => whnf
  exact ⟨rfl, rfl⟩
theorem Sure9 (C : Cu n rc bb P R) : Rets Tryz.prog E 9 [.d (cupD n rc bb P R)] (.d (.tuple [.slice (numL (sureL P bb.toNat n rc R)).length 1 (encI (numL (sureL P bb.toNat n rc R))), .int .i64 0])) := by
  have h1 := asked_ok C.ok
  have h2 := ansSure C
  generalize numL (sureL P bb.toNat n rc R) = L at *
  refine sm_of HE true (by kernel_rfl) ?_
  unfold cupD at h1 h2 ⊢
  unfold cupL at h1 h2 ⊢
  conv => whnf
  refine Rets.use h1 ?_
  conv => whnf
  refine Rets.use certain_ok ?_
  conv => whnf
  refine Rets.use h2 ?_
  conv => whnf
  exact ⟨rfl, rfl⟩
def ShoP (n rc : Nat) (bb : Int) (P : List Int) (R : List (List Int)) (s : Nat) (v : V) (h : List O) : Prop :=
  ((isCan P bb.toNat n rc R s = true ∧ v = .d (.tuple [.slice (won n s (rc - R.length)).length 1 (encLL (won n s (rc - R.length))), .int .i64 0])) ∨ (isCan P bb.toNat n rc R s = false ∧ v = .d (.tuple [.nil, .int .i64 6]))) ∧ h = []
theorem Show10 (C : Cu n rc bb P R) {s : Nat} (hs : s < n) : Sm Tryz.prog E 10 [.d (cupD n rc bb P R), .d (.int .i64 s)] [] (ShoP n rc bb P R s) := by
  have h1 := named_ok C.ok (s := s) (by omega)
  have h2 := can_ok C hs
  have h3 := wonW C hs
  unfold ShoP
  generalize isCan P bb.toNat n rc R s = b at *
  refine sm_of HE true (by kernel_rfl) ?_
  unfold cupD at h1 h2 h3 ⊢
  unfold cupL at h1 h2 h3 ⊢
  conv => whnf
  refine Rets.use h1 ?_
  conv => whnf
  refine Rets.use h2 ?_
  cases b
  · conv => whnf
    exact ⟨.inr ⟨rfl, rfl⟩, rfl⟩
  · conv => whnf
    refine Rets.use h3 ?_
    conv => whnf
    exact ⟨.inl ⟨rfl, rfl⟩, rfl⟩
def AgaP (n rc : Nat) (bb : Int) (P : List Int) (R : List (List Int)) (s : Nat) (v : V) (h : List O) : Prop :=
  ((∃ t, t < n ∧ isAg P bb.toNat n rc R s t = true ∧ v = .d (.tuple [.slice (won n t (rc - R.length)).length 1 (encLL (won n t (rc - R.length))), .int .i64 0])) ∨ ((∀ t, t < n → isAg P bb.toNat n rc R s t = false) ∧ v = .d (.tuple [.nil, .int .i64 6]))) ∧ h = []
theorem Against11 (C : Cu n rc bb P R) {s : Nat} (hs : s < n) : Sm Tryz.prog E 11 [.d (cupD n rc bb P R), .d (.int .i64 s)] [] (AgaP n rc bb P R s) := by
  have h1 := named_ok C.ok (s := s) (by omega)
  have h2 := against_ok C hs
  refine sm_of HE true (by kernel_rfl) ?_
  unfold cupD at h1 h2 ⊢
  unfold cupL at h1 h2 ⊢
  conv => whnf
  refine Rets.use h1 ?_
  conv => whnf
  refine Sm.mono h2 ?_
  rintro v h ⟨⟨t, ht, h3, rfl⟩ | ⟨h3, rfl⟩, rfl⟩
  · conv => whnf
    exact ⟨.inl ⟨t, ht, h3, rfl⟩, rfl⟩
  · conv => whnf
    exact ⟨.inr ⟨h3, rfl⟩, rfl⟩
theorem Cu.take (C : Cu n rc bb P R) (m : Nat) : Cu n rc bb P (R.take m) := by
  have O := C.ok
  rw [← List.take_append_drop m R] at O
  exact ⟨O.less, C.r12⟩
def DecP (n rc : Nat) (bb : Int) (P : List Int) (R : List (List Int)) (v : V) (h : List O) : Prop :=
  ((∃ m s l, m ≤ R.length ∧ decB P bb.toNat n rc (R.take m) = true ∧ sureL P bb.toNat n rc (R.take m) = s :: l ∧ (∀ k, k < m → decB P bb.toNat n rc (R.take k) = false) ∧ v = .d (.tuple [.int .i64 (m : Nat), .int .i64 (s : Nat), .int .i64 0])) ∨
    ((∀ m, m ≤ R.length → decB P bb.toNat n rc (R.take m) = false) ∧ v = .d (.tuple [.int .i64 0, .int .i64 0, .int .i64 6]))) ∧ h = []
theorem Decided14 (C : Cu n rc bb P R) : Sm Tryz.prog E 14 [.d (cupD n rc bb P R)] [] (DecP n rc bb P R) := by
  have h1 := asked_ok C.ok
  have k5 := C.ok.done
  have k6 := C.r12
  have h23 : ∀ m, ∃ cL sL, cL = canL P bb.toNat n rc (R.take m) ∧ sL = sureL P bb.toNat n rc (R.take m) ∧ Rets Tryz.prog E 23 [.d (.agg [.func 26 [] []]), .d (cupD n rc bb P (R.take m))] (.d (.slice (numL cL).length 1 (encI (numL cL)))) ∧
      Rets Tryz.prog E 23 [.d (.agg [.func 39 [] []]), .d (cupD n rc bb P (R.take m))] (.d (.slice (numL sL).length 1 (encI (numL sL)))) ∧ decB P bb.toNat n rc (R.take m) = (decide (0 < sL.length) && decide (cL.length = 1)) :=
    fun m => ⟨_, _, rfl, rfl, ansCan (C.take m), ansSure (C.take m), rfl⟩
  refine sm_of HE true (by kernel_rfl) ?_
  unfold cupD at h1 h23 ⊢
  unfold cupL at h1 h23 ⊢
  conv => whnf
  refine Rets.use h1 ?_
  conv => whnf
  rw [wrap_succ (by omega)]
  refine loops_by (fun i : Nat => ⟨58, [(2, .d (.int .i64 0)), (3, .d (.int .i64 0)), (4, .d (.int .i64 0)), (5, .ptr 0 0 0 5), (6, .d (.int .i64 (-1))), (23, .d (.int .i64 (R.length + 1 : Nat))), (24, .d (.int .i64 i))], .unk, [.row (.ds (cupL n rc bb P R)) 0 0 []], []⟩)
    (fun i => i ≤ R.length + 1 ∧ ∀ k, k < i → decB P bb.toNat n rc (R.take k) = false) (fun i => R.length + 1 - i) 0 ⟨Nat.zero_le _, fun t h => absurd h (by omega)⟩ ?_
  intro f i ⟨hi, hA⟩ ih
  conv => whnf
  cases g1 : ltI (i : Int) ((R.length + 1 : Nat) : Int)
  · have := ltI_f g1
    conv => whnf
    exact ⟨.inr ⟨fun m hm => hA m (by omega), rfl⟩, rfl⟩
  have hlt := ltI_t g1
  obtain ⟨cl, sl, hcl, hsl, h2, h3, hd⟩ := h23 i
  have hbl := ble_t (i := i) (n := R.length) (by omega)
  have htk : (R.take i).length = i := by simp; omega
  have e1 : ((encLL R).take (i * 1)).drop (0 * 1) = encLL (R.take i) := by rw [Nat.zero_mul, List.drop_zero, Nat.mul_one, encLL_take]
  have step : decB P bb.toNat n rc (R.take i) = false → ∀ k, k < i + 1 → decB P bb.toNat n rc (R.take k) = false := fun h t ht => by
    by_cases hti : t = i
    · subst hti; exact h
    · exact hA t (by omega)
  rw [htk] at h2 h3
  conv => whnf
  rw [hbl]
  conv => whnf
  rw [e1]
  conv => whnf
  refine Rets.use possible_ok ?_
  conv => whnf
  refine Rets.use h2 ?_
  conv => whnf
  refine Rets.use certain_ok ?_
  conv => whnf
  refine Rets.use h3 ?_
  have hnl : (numL sl).length = sl.length := by simp [numL]
  have hncl : (numL cl).length = cl.length := by simp [numL]
  conv => whnf
  cases g2 : ltI 0 ((numL sl).length : Int)
  · have g2 := ltI_f g2
    rw [decide_eq_false (by omega)] at hd
    conv => whnf
    rw [wrap_succ (by omega)]
    exact ih (i + 1) ⟨by omega, step hd⟩ (by omega)
  have g2 := ltI_t g2
  rw [decide_eq_true (by omega)] at hd
  conv => whnf
  cases g3 : eqI ((numL cl).length : Int) 1
  · have g3 := eqI_f g3
    rw [decide_eq_false (by omega)] at hd
    conv => whnf
    rw [wrap_succ (by omega)]
    exact ih (i + 1) ⟨by omega, step hd⟩ (by omega)
  have g3 := eqI_t g3
  rw [decide_eq_true (by omega)] at hd
  obtain ⟨s, l, rfl⟩ : ∃ s l, sl = s :: l := by
    cases sl with
    | nil => exact absurd g2 (by simp [numL])
    | cons s l => exact ⟨s, l, rfl⟩
  conv => whnf
  exact ⟨.inl ⟨i, s, l, by omega, hd, hsl.symm, hA, rfl⟩, rfl⟩
end
end Go.Proofs.Cx
