/-
  TopDecidedEarly: who can be first, who surely is, by the program.
-/
import Derived.Test.YtedodndgpjonkaaGreatDoorCxP
namespace Go.Proofs.Cx
open Go Go.Ab Go.Proofs.Cw
set_option maxRecDepth 100000
set_option maxHeartbeats 40000000
/-- A cup in order, small. -/
structure Cu (n rc : Nat) (bb : Int) (P : List Int) (R : List (List Int)) : Prop where
  ok : Ok n rc bb P R
  r12 : rc ≤ 12
theorem won_len (n s k : Nat) : (won n s k).length = k := by simp [won]
theorem won_row {n s k : Nat} {r : List Int} (h : r ∈ won n s k) : r.length = n := by
  obtain rfl := List.eq_of_mem_replicate h
  exact wrow_length n s
section
variable {n rc : Nat} {bb : Int} {P : List Int} {R : List (List Int)}
theorem rankW (C : Cu n rc bb P R) {s t : Nat} (hs : s < n) (ht : t < n) :
    Rets Tryz.prog E 42 [.d (cupD n rc bb P (R ++ won n t (rc - R.length))), .d (.int .i64 s)] (.d (.int .i64 ((rnk P bb.toNat (R ++ won n t (rc - R.length)) n s + 1 : Nat)))) := by
  have O := C.ok
  have k1 := O.sk
  have k2 := O.rc
  have k3 := O.bs
  have k5 := O.done
  have k6 := C.r12
  have O2 := O.won (s := t) (k := rc - R.length) (by omega) (by omega)
  rw [Int.toNat_natCast] at O2
  have hc := rc_of O2
  rw [Int.toNat_natCast] at hc
  exact rank42 (pt_of O2) hc rfl hs (by omega) (by rw [List.length_append, won_len]; omega) (by rw [List.length_append, won_len]; omega)
theorem wonW (C : Cu n rc bb P R) {t : Nat} (ht : t < n) :
    Rets Tryz.prog E 27 [.d (cupD n rc bb P R), .d (.int .i64 t)] (.d (.slice (won n t (rc - R.length)).length 1 (encLL (won n t (rc - R.length))))) := by
  have O := C.ok
  have k1 := O.sk
  have k5 := O.done
  have k6 := C.r12
  exact won_ok n rc bb P R ht (by omega) (by omega) (by omega) (by omega)
theorem withW (C : Cu n rc bb P R) {t : Nat} (ht : t < n) :
    Rets Tryz.prog E 41 [.d (cupD n rc bb P R), .d (.slice (won n t (rc - R.length)).length 1 (encLL (won n t (rc - R.length))))] (.d (cupD n rc bb P (R ++ won n t (rc - R.length)))) := by
  have O := C.ok
  have k1 := O.sk
  have k4 := O.pts
  have k5 := O.done
  have k6 := C.r12
  refine with41 n rc bb P R _ (by omega) (by rw [won_len]; omega) (by omega) fun r hr => ?_
  rcases List.mem_append.1 hr with h | h
  · have := O.rows r h; omega
  · have := won_row h; omega
theorem eq_one (m : Nat) : eqI ((m + 1 : Nat) : Int) 1 = decide (m = 0) := by
  rw [eqI_eq]
  by_cases h : m = 0
  · subst h; rfl
  · rw [decide_eq_false h, decide_eq_false (by omega)]
theorem gt_one (m : Nat) : ltI 1 ((m + 1 : Nat) : Int) = !decide (m = 0) := by
  rw [ltI_eq]
  by_cases h : m = 0
  · subst h; rfl
  · rw [decide_eq_false h, decide_eq_true (by omega)]; rfl
theorem can_ok (C : Cu n rc bb P R) {s : Nat} (hs : s < n) : Rets Tryz.prog E 26 [.d (cupD n rc bb P R), .d (.int .i64 s)] (.d (.bool (isCan P bb.toNat n rc R s))) := by
  have h1 := wonW C hs
  have h2 := withW C hs
  have h3 := rankW C hs hs
  unfold isCan
  rw [← eq_one]
  generalize won n s (rc - R.length) = W at *
  generalize R ++ W = RW at *
  generalize rnk P bb.toNat RW n s = m at *
  refine sm_of HE true (by kernel_rfl) ?_
  unfold cupD at h1 h2 h3 ⊢
  unfold cupL at h1 h2 h3 ⊢
  conv => whnf
  refine Rets.use h1 ?_
  conv => whnf
  refine Rets.use h2 ?_
  conv => whnf
  refine Rets.use h3 ?_
  conv => whnf
  exact ⟨rfl, rfl⟩
def AgP (n rc : Nat) (bb : Int) (P : List Int) (R : List (List Int)) (s : Nat) (v : V) (h : List O) : Prop :=
  ((∃ t, t < n ∧ isAg P bb.toNat n rc R s t = true ∧ v = .d (.tuple [.slice (won n t (rc - R.length)).length 1 (encLL (won n t (rc - R.length))), .bool true])) ∨ ((∀ t, t < n → isAg P bb.toNat n rc R s t = false) ∧ v = .d (.tuple [.nil, .bool false]))) ∧ h = []
theorem against_ok (C : Cu n rc bb P R) {s : Nat} (hs : s < n) : Sm Tryz.prog E 28 [.d (cupD n rc bb P R), .d (.int .i64 s)] [] (AgP n rc bb P R s) := by
  have hn12 : n ≤ 12 := by have := C.ok.sk; omega
  have h123 : ∀ t, t < n → ∃ (W RW : List (List Int)) (m : Nat), W = won n t (rc - R.length) ∧ Rets Tryz.prog E 27 [.d (cupD n rc bb P R), .d (.int .i64 t)] (.d (.slice W.length 1 (encLL W))) ∧
      Rets Tryz.prog E 41 [.d (cupD n rc bb P R), .d (.slice W.length 1 (encLL W))] (.d (cupD n rc bb P RW)) ∧ Rets Tryz.prog E 42 [.d (cupD n rc bb P RW), .d (.int .i64 s)] (.d (.int .i64 ((m + 1 : Nat)))) ∧
      isAg P bb.toNat n rc R s t = (!decide (t = s) && !decide (m = 0)) := fun t ht => ⟨_, _, _, rfl, wonW C ht, withW C ht, rankW C hs ht, rfl⟩
  refine sm_of HE true (by kernel_rfl) ?_
  unfold cupD at h123 ⊢
  unfold cupL at h123 ⊢
  conv => whnf
  refine loops_by (fun i : Nat => ⟨30, [(1, .d (.int .i64 s)), (2, .ptr 0 0 0 5), (4, .d .nil), (5, .d (.bool false)), (10, .d (.int .i64 n)), (11, .d (.int .i64 i))], .unk, [.row (.ds (cupL n rc bb P R)) 0 0 []], []⟩)
    (fun i => i ≤ n ∧ ∀ t, t < i → isAg P bb.toNat n rc R s t = false) (fun i => n - i) 0 ⟨Nat.zero_le _, fun t h => absurd h (by omega)⟩ ?_
  intro f i ⟨hi, hA⟩ ih
  conv => whnf
  cases g1 : ltI (i : Int) (n : Int)
  · have := ltI_f g1
    conv => whnf
    exact ⟨.inr ⟨fun t ht => hA t (by omega), rfl⟩, rfl⟩
  have hlt := ltI_t g1
  obtain ⟨W, RW, m, hW, h1, h2, h3, hag⟩ := h123 i (by omega)
  have step : isAg P bb.toNat n rc R s i = false → ∀ t, t < i + 1 → isAg P bb.toNat n rc R s t = false := fun h t ht => by
    by_cases hti : t = i
    · subst hti; exact h
    · exact hA t (by omega)
  conv => whnf
  refine Rets.use h1 ?_
  conv => whnf
  cases g2 : eqI (i : Int) (s : Int)
  case true =>
    have g2 := eqI_t g2
    rw [decide_eq_true (show i = s by omega)] at hag
    conv => whnf
    rw [wrap_succ (by omega)]
    exact ih (i + 1) ⟨by omega, step (by rw [hag]; rfl)⟩ (by omega)
  have g2 := eqI_f g2
  rw [decide_eq_false (show ¬ i = s by omega), ← gt_one] at hag
  conv => whnf
  refine Rets.use h2 ?_
  conv => whnf
  refine Rets.use h3 ?_
  conv => whnf
  cases g3 : ltI 1 ((m + 1 : Nat) : Int)
  · rw [g3] at hag
    conv => whnf
    rw [wrap_succ (by omega)]
    exact ih (i + 1) ⟨by omega, step (by rw [hag]; rfl)⟩ (by omega)
  · rw [g3] at hag
    subst hW
    conv => whnf
    exact ⟨.inl ⟨i, by omega, by rw [hag]; rfl, rfl⟩, rfl⟩
theorem sure_ok (C : Cu n rc bb P R) {s : Nat} (hs : s < n) : Rets Tryz.prog E 39 [.d (cupD n rc bb P R), .d (.int .i64 s)] (.d (.bool (isSure P bb.toNat n rc R s))) := by
  have ha := against_ok C hs
  refine sm_of HE true (by kernel_rfl) ?_
  unfold cupD at ha ⊢
  unfold cupL at ha ⊢
  conv => whnf
  refine Sm.mono ha ?_
  rintro v h ⟨⟨t, ht, h1, rfl⟩ | ⟨h1, rfl⟩, rfl⟩
  · have e : isSure P bb.toNat n rc R s = false := by
      unfold isSure
      rw [List.any_eq_true.2 ⟨t, List.mem_range.2 ht, h1⟩]; rfl
    rw [e]
    conv => whnf
    exact ⟨rfl, rfl⟩
  · have e : isSure P bb.toNat n rc R s = true := by
      unfold isSure
      rw [List.any_eq_false.2 fun t ht => by rw [h1 t (List.mem_range.1 ht)]; simp]; rfl
    rw [e]
    conv => whnf
    exact ⟨rfl, rfl⟩
theorem possible_ok : Rets Tryz.prog E 22 [] (.d (.agg [.func 26 [] []])) := by
  refine sm_of HE true (by kernel_rfl) ?_
  conv => whnf
  exact ⟨rfl, rfl⟩
theorem certain_ok : Rets Tryz.prog E 24 [] (.d (.agg [.func 39 [] []])) := by
  refine sm_of HE true (by kernel_rfl) ?_
  conv => whnf
  exact ⟨rfl, rfl⟩
def numL (l : List Nat) : List Int := l.map Int.ofNat
theorem ansCan (C : Cu n rc bb P R) : Rets Tryz.prog E 23 [.d (.agg [.func 26 [] []]), .d (cupD n rc bb P R)] (.d (.slice (numL (canL P bb.toNat n rc R)).length 1 (encI (numL (canL P bb.toNat n rc R))))) := by
  refine Rets.weaken ?_ (wk_one _)
  have hn12 : n ≤ 12 := by have := C.ok.sk; omega
  have hq : ∀ i, i < n → Rets Tryz.prog E 26 [.d (cupD n rc bb P R), .d (.int .i64 i)] (.d (.bool (isCan P bb.toNat n rc R i))) := fun i hi => can_ok C hi
  unfold canL numL
  generalize isCan P bb.toNat n rc R = p at *
  refine sm_of HE true (by kernel_rfl) ?_
  unfold cupD at hq ⊢
  unfold cupL at hq ⊢
  conv => whnf
  refine loops_by (fun x : Nat × Nat × List Int => match x with
      | (i, k, acc) => ⟨24, [(2, .ptr 0 0 0 1), (3, .ptr 1 0 0 5), (4, .d .nil), (5, slV 2 k), (9, .d (.int .i64 n)), (10, .d (.int .i64 i))], .unk, .row (.ds [.func 26 [] []]) 0 0 [] :: .row (.ds (cupL n rc bb P R)) 0 0 [] :: rwO k acc, []⟩)
    (fun x => x.1 ≤ n ∧ x.2.2.length = x.2.1 ∧ x.2.2 = ((List.range x.1).filter p).map Int.ofNat) (fun x => n - x.1) (0, 0, []) ⟨Nat.zero_le _, rfl, rfl⟩ ?_
  rintro f ⟨i, k0, acc⟩ ⟨hi, hk0, hacc⟩ ih
  simp only at hi hk0 hacc
  have hal : acc.length ≤ i := by rw [hacc, List.length_map]; exact Nat.le_trans (List.length_filter_le ..) (by simp)
  have hf := filter_range (p := p) (i := i)
  cases k0 with
  | zero =>
    obtain rfl : acc = [] := List.eq_nil_of_length_eq_zero hk0
    conv => whnf
    cases g1 : ltI (i : Int) (n : Int)
    · have := ltI_f g1
      have hin : i = n := by omega
      subst hin
      rw [← hacc]
      conv => whnf
      exact ⟨rfl, rfl⟩
    have hlt := ltI_t g1
    conv => whnf
    refine Rets.use (hq i (by omega)) ?_
    conv => whnf
    cases g2 : p i
    · rw [g2] at hf
      simp only [List.append_nil] at hf
      conv => whnf
      rw [wrap_succ (by omega)]
      exact ih (i + 1, 0, []) ⟨by simp only; omega, rfl, by simp only; rw [hf]; exact hacc⟩ (by simp only; omega)
    · rw [g2] at hf
      simp only at hf
      conv => whnf
      rw [wrap_succ (by omega)]
      exact ih (i + 1, 1, [(i : Int)]) ⟨by simp only; omega, rfl, by simp only; rw [hf, List.map_append, ← hacc]; rfl⟩ (by simp only; omega)
  | succ m =>
    conv => whnf
    cases g1 : ltI (i : Int) (n : Int)
    · have := ltI_f g1
      have hin : i = n := by omega
      subst hin
      rw [← hacc]
      conv => whnf
      rw [may_all]
      conv => whnf
      have hel : (encI acc).length = (m + 1) * 1 := by rw [encI_length, hk0]; simp
      rw [ble_t (i := 0 + (m + 1) * 1) (by omega)]
      conv => whnf
      refine ⟨?_, rfl⟩
      rw [row_all hel]
      cases acc with
      | nil => cases hk0
      | cons a l =>
        simp only [List.length_cons, Nat.add_right_cancel_iff] at hk0
        subst hk0
        rfl
    have hlt := ltI_t g1
    conv => whnf
    refine Rets.use (hq i (by omega)) ?_
    conv => whnf
    cases g2 : p i
    · rw [g2] at hf
      simp only [List.append_nil] at hf
      conv => whnf
      rw [wrap_succ (by omega)]
      exact ih (i + 1, m + 1, acc) ⟨by simp only; omega, hk0, by simp only; rw [hf]; exact hacc⟩ (by simp only; omega)
    · rw [g2] at hf
      simp only at hf
      conv => whnf
      rw [ble_t (i := (m + 1 + 1) * 8) (n := 140737488355328) (by omega)]
      conv => whnf
      rw [may_all]
      conv => whnf
      rw [len_beq hk0, wrap_succ (by omega), List.take_of_length_le (by rw [encI_length]; omega)]
      have e1 : ∀ (l : List Int) (x : Int), encI l ++ [D.int .i64 x] = encI (l ++ [x]) := fun l x => (encI_snoc l x).symm
      rw [e1]
      exact ih (i + 1, m + 2, acc ++ [(i : Int)]) ⟨by simp only; omega, by simp [hk0], by simp only; rw [hf, List.map_append, ← hacc]; rfl⟩ (by simp only; omega)
theorem ansSure (C : Cu n rc bb P R) : Rets Tryz.prog E 23 [.d (.agg [.func 39 [] []]), .d (cupD n rc bb P R)] (.d (.slice (numL (sureL P bb.toNat n rc R)).length 1 (encI (numL (sureL P bb.toNat n rc R))))) := by
  refine Rets.weaken ?_ (wk_one _)
  have hn12 : n ≤ 12 := by have := C.ok.sk; omega
  have hq : ∀ i, i < n → Rets Tryz.prog E 39 [.d (cupD n rc bb P R), .d (.int .i64 i)] (.d (.bool (isSure P bb.toNat n rc R i))) := fun i hi => sure_ok C hi
  unfold sureL numL
  generalize isSure P bb.toNat n rc R = p at *
  refine sm_of HE true (by kernel_rfl) ?_
  unfold cupD at hq ⊢
  unfold cupL at hq ⊢
  conv => whnf
  refine loops_by (fun x : Nat × Nat × List Int => match x with
      | (i, k, acc) => ⟨24, [(2, .ptr 0 0 0 1), (3, .ptr 1 0 0 5), (4, .d .nil), (5, slV 2 k), (9, .d (.int .i64 n)), (10, .d (.int .i64 i))], .unk, .row (.ds [.func 39 [] []]) 0 0 [] :: .row (.ds (cupL n rc bb P R)) 0 0 [] :: rwO k acc, []⟩)
    (fun x => x.1 ≤ n ∧ x.2.2.length = x.2.1 ∧ x.2.2 = ((List.range x.1).filter p).map Int.ofNat) (fun x => n - x.1) (0, 0, []) ⟨Nat.zero_le _, rfl, rfl⟩ ?_
  rintro f ⟨i, k0, acc⟩ ⟨hi, hk0, hacc⟩ ih
  simp only at hi hk0 hacc
  have hal : acc.length ≤ i := by rw [hacc, List.length_map]; exact Nat.le_trans (List.length_filter_le ..) (by simp)
  have hf := filter_range (p := p) (i := i)
  cases k0 with
  | zero =>
    obtain rfl : acc = [] := List.eq_nil_of_length_eq_zero hk0
    conv => whnf
    cases g1 : ltI (i : Int) (n : Int)
    · have := ltI_f g1
      have hin : i = n := by omega
      subst hin
      rw [← hacc]
      conv => whnf
      exact ⟨rfl, rfl⟩
    have hlt := ltI_t g1
    conv => whnf
    refine Rets.use (hq i (by omega)) ?_
    conv => whnf
    cases g2 : p i
    · rw [g2] at hf
      simp only [List.append_nil] at hf
      conv => whnf
      rw [wrap_succ (by omega)]
      exact ih (i + 1, 0, []) ⟨by simp only; omega, rfl, by simp only; rw [hf]; exact hacc⟩ (by simp only; omega)
    · rw [g2] at hf
      simp only at hf
      conv => whnf
      rw [wrap_succ (by omega)]
      exact ih (i + 1, 1, [(i : Int)]) ⟨by simp only; omega, rfl, by simp only; rw [hf, List.map_append, ← hacc]; rfl⟩ (by simp only; omega)
  | succ m =>
    conv => whnf
    cases g1 : ltI (i : Int) (n : Int)
    · have := ltI_f g1
      have hin : i = n := by omega
      subst hin
      rw [← hacc]
      conv => whnf
      rw [may_all]
      conv => whnf
      have hel : (encI acc).length = (m + 1) * 1 := by rw [encI_length, hk0]; simp
      rw [ble_t (i := 0 + (m + 1) * 1) (by omega)]
      conv => whnf
      refine ⟨?_, rfl⟩
      rw [row_all hel]
      cases acc with
      | nil => cases hk0
      | cons a l =>
        simp only [List.length_cons, Nat.add_right_cancel_iff] at hk0
        subst hk0
        rfl
    have hlt := ltI_t g1
    conv => whnf
    refine Rets.use (hq i (by omega)) ?_
    conv => whnf
    cases g2 : p i
    · rw [g2] at hf
      simp only [List.append_nil] at hf
      conv => whnf
      rw [wrap_succ (by omega)]
      exact ih (i + 1, m + 1, acc) ⟨by simp only; omega, hk0, by simp only; rw [hf]; exact hacc⟩ (by simp only; omega)
    · rw [g2] at hf
      simp only at hf
      conv => whnf
      rw [ble_t (i := (m + 1 + 1) * 8) (n := 140737488355328) (by omega)]
      conv => whnf
      rw [may_all]
      conv => whnf
      rw [len_beq hk0, wrap_succ (by omega), List.take_of_length_le (by rw [encI_length]; omega)]
      have e1 : ∀ (l : List Int) (x : Int), encI l ++ [D.int .i64 x] = encI (l ++ [x]) := fun l x => (encI_snoc l x).symm
      rw [e1]
      exact ih (i + 1, m + 2, acc ++ [(i : Int)]) ⟨by simp only; omega, by simp [hk0], by simp only; rw [hf, List.map_append, ← hacc]; rfl⟩ (by simp only; omega)
end
end Go.Proofs.Cx
