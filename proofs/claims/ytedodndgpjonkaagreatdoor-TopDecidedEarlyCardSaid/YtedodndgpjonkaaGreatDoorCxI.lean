/-
  TopDecidedEarly: a race does not clash; the program's check.
-/
import Derived.Test.YtedodndgpjonkaaGreatDoorCxH
section
namespace Go.Proofs.Cx
open Go Go.Ab Go.Proofs.Cw
set_option maxRecDepth 100000
set_option maxHeartbeats 20000000
theorem c76 (x : Int) : Rets Tryz.prog E 76 [.d (.int .i64 x)] (.d (.bool (eqI x 0))) := by
  refine sm_of HE true (by kernel_rfl) ?_
  conv => whnf
  exact ⟨rfl, rfl⟩
theorem idxZ (L : List Int) (e fl : Nat) (hL : L.length ≤ 1000) (hfl : fl ≤ e) :
    Sm Tryz.prog E 104 [.slice 0 e 0 L.length 1, .d (.func 76 [] [])] [.row (.ds (encI L)) e fl []]
      (fun v h => (∃ i : Int, v = .d (.int .i64 i) ∧ ((i = -1 ∧ ∀ x ∈ L, x ≠ 0) ∨ ∃ j : Nat, i = j ∧ L[j]? = some 0 ∧ ∀ (t : Nat) y, t < j → L[t]? = some y → y ≠ 0)) ∧ h = [.row (.ds (encI L)) e fl []]) := by
  refine sm_of HE true (by kernel_rfl) ?_
  conv => whnf
  refine loops_by (fun i : Nat => ⟨19, [(0, .slice 0 e 0 L.length 1), (1, .d (.func 76 [] [])), (4, .d (.int .i64 0)), (7, .d (.int .i64 L.length)), (8, .d (.int .i64 i))], .unk, [.row (.ds (encI L)) e fl []], []⟩)
    (fun i => i ≤ L.length ∧ ∀ (t : Nat) y, t < i → L[t]? = some y → y ≠ 0) (fun i => L.length - i) 0 ⟨Nat.zero_le _, fun t y h => absurd h (by omega)⟩ ?_
  intro f i ⟨hi, hA⟩ ih
  conv => whnf
  cases h1 : ltI (i : Int) (L.length : Int)
  · have := ltI_f h1
    conv => whnf
    refine ⟨⟨-1, rfl, .inl ⟨rfl, fun x hx => ?_⟩⟩, rfl⟩
    obtain ⟨t, ht⟩ := List.getElem?_of_mem hx
    exact hA t x (by have := lt_of_at ht; omega) ht
  have hlt := ltI_t h1
  have hb := blt_t (i := i) (n := L.length) (by omega)
  obtain ⟨x, hx⟩ := at_some (l := L) (i := i) (by omega)
  conv => whnf
  rw [hb]
  conv => whnf
  rw [ble_t (i := 0 + i * 1 + 1) (Nat.le_refl _)]
  conv => whnf
  rw [may_fl hfl]
  conv => whnf
  rw [encI_get0 hx]
  conv => whnf
  refine Rets.use (c76 x) ?_
  conv => whnf
  cases h2 : eqI x 0
  · have h2 := eqI_f h2
    conv => whnf
    rw [wrap_succ (by omega)]
    exact ih (i + 1) ⟨by omega, fun t y ht hy => by
      by_cases hti : t = i
      · subst hti; rw [hx] at hy; cases hy; exact h2
      · exact hA t y (by omega) hy⟩ (by omega)
  · obtain rfl := eqI_t h2
    conv => whnf
    exact ⟨⟨i, rfl, .inr ⟨i, rfl, hx, hA⟩⟩, rfl⟩
theorem nz_take {L : List Int} {j : Nat} {y : Int} (h : L[j]? = some y) : nz (L.take (j + 1)) = nz (L.take j) ++ (if y = 0 then [] else [y]) := by
  unfold nz
  rw [take_snoc h, List.filter_append]
  by_cases hy : y = 0 <;> simp [hy]
theorem nz_all {L : List Int} (h : ∀ (t : Nat) y, L[t]? = some y → y ≠ 0) : nz L = L := by
  unfold nz
  refine List.filter_eq_self.2 fun x hx => ?_
  obtain ⟨t, ht⟩ := List.getElem?_of_mem hx
  simp [h t x ht]
theorem nz_len (L : List Int) : (nz L).length ≤ L.length := List.length_filter_le ..
def DelP (L : List Int) (e : Nat) (v : V) (h : List O) : Prop := v = .slice 0 e 0 (nz L).length 1 ∧ ∃ L' fl', fl' ≤ e ∧ h = [.row (.ds (encI L')) e fl' []] ∧ L'.length = L.length ∧ L'.take (nz L).length = nz L
theorem wr_zero : ∀ (l : List Int) (i : Nat), i ≤ l.length → wr (encI l) i (encI (List.replicate (l.length - i) 0)) = encI (l.take i ++ List.replicate (l.length - i) 0)
  | [], i, h => by
    have : i = 0 := by simpa using h
    subst this
    rfl
  | a :: l, 0, _ => by
    have := wr_zero l 0 (Nat.zero_le _)
    simp only [List.length_cons, Nat.sub_zero, List.take_zero, List.nil_append, List.replicate_succ] at this ⊢
    show (_ :: wr (encI l) 0 (encI (List.replicate l.length 0))) = _
    rw [this]
    rfl
  | a :: l, i + 1, h => by
    have := wr_zero l i (by simpa using h)
    simp only [List.length_cons, Nat.add_sub_add_right, List.take_succ_cons, List.cons_append]
    cases hr : encI (List.replicate (l.length - i) 0) with
    | nil =>
      have h0 : l.length - i = 0 := by have := congrArg List.length hr; simpa [encI] using this
      rw [h0]
      simp only [List.replicate_zero, List.append_nil]
      rw [List.take_of_length_le (by omega)]
      unfold wr
      rfl
    | cons x m =>
      show (_ :: wr (encI l) i (x :: m)) = _
      rw [← hr, this]
      rfl
theorem clear_int (M : List Int) {e fl i c : Nat} (hM : M.length = i + (c + 1)) (hfl : fl ≤ e) :
    clearO E [.row (.ds (encI M)) e fl []] 22 (.slice 0 e (0 + i * 1) (c + 1) 1) = some [.row (.ds (encI (M.take i ++ List.replicate (c + 1) 0))) e e []] := by
  have hw : (Cells.ds (encI M)).write (0 + i * 1) ((List.replicate (c + 1) [V.d (D.int .i64 0)]).flatten) = some (.ds (encI (M.take i ++ List.replicate (c + 1) 0))) := by
    have e1 : (List.replicate (c + 1) [V.d (D.int .i64 0)]).flatten = (encI (List.replicate (c + 1) 0)).map V.d := by
      generalize c + 1 = m
      induction m with
      | zero => rfl
      | succ m ih => rw [List.replicate_succ, List.flatten_cons, ih, List.replicate_succ]; rfl
    rw [e1]
    unfold Cells.write
    rw [ble_t (i := 0 + i * 1 + ((encI (List.replicate (c + 1) 0)).map V.d).length) (by simp only [Cells.len, encI_length, List.length_map, List.length_replicate]; omega), allD_map]
    simp only
    have := wr_zero M i (by omega)
    rw [show M.length - i = c + 1 by omega] at this
    rw [show 0 + i * 1 = i by omega, this]
  conv =>
    lhs
    whnf
  rw [show Nat.beq e e = true from Nat.beq_refl e]
  conv =>
    lhs
    whnf
  rw [may_fl hfl]
  conv =>
    lhs
    whnf
  change (match (Cells.ds (encI M)).write (0 + i * 1) ((List.replicate (c + 1) [V.d (D.int .i64 0)]).flatten) with | some c' => some (setO [O.row (Cells.ds (encI M)) e fl []] 0 (O.row c' e e [])) | none => none) = _
  rw [hw]
  rfl
theorem del_ok (L : List Int) (e fl : Nat) (hL : L.length ≤ 1000) (hfl : fl ≤ e) :
    Sm Tryz.prog E 75 [.slice 0 e 0 L.length 1, .d (.func 76 [] [])] [.row (.ds (encI L)) e fl []] (DelP L e) := by
  refine sm_of HE true (by kernel_rfl) ?_
  conv => whnf
  refine Sm.mono (idxZ L e fl hL hfl) ?_
  rintro v h ⟨⟨i0, rfl, ⟨rfl, hall⟩ | ⟨j0, rfl, hj0, hA⟩⟩, rfl⟩
  · conv => whnf
    have hn : nz L = L := nz_all fun t y ht => hall y (List.mem_of_getElem? ht)
    refine ⟨by rw [hn]; rfl, L, fl, hfl, rfl, rfl, by rw [hn, List.take_length]⟩
  have hjl := lt_of_at hj0
  have hnz0 : nz (L.take (j0 + 1)) = L.take j0 := by
    rw [nz_take hj0, if_pos rfl, List.append_nil]
    exact nz_all fun t y ht => by
      rw [List.getElem?_take] at ht
      split at ht
      · exact hA t y (by assumption) ht
      · cases ht
  conv => whnf
  rw [wrap_succ (by omega)]
  refine loops_by (fun x : Nat × Nat × List Int × Nat => match x with
      | (i, j, M, fl) => ⟨42, [(0, .slice 0 e 0 L.length 1), (1, .d (.func 76 [] [])), (4, .d .nil), (5, .d (.int .i64 i)), (6, .d (.int .i64 j))], .unk, [.row (.ds (encI M)) e fl []], []⟩)
    (fun x => x.1 < x.2.1 ∧ x.2.1 ≤ L.length ∧ x.2.2.1.length = L.length ∧ x.2.2.1.take x.1 = nz (L.take x.2.1) ∧ x.2.2.1.drop x.2.1 = L.drop x.2.1 ∧ x.2.2.2 ≤ e) (fun x => L.length - x.2.1) (j0, j0 + 1, L, fl) ⟨Nat.lt_succ_self _, hjl, rfl, hnz0.symm, rfl, hfl⟩ ?_
  rintro f ⟨i, j, M, fl2⟩ ⟨hij, hj, hM, hT, hD, hfl2⟩ ih
  simp only at hij hj hM hT hD hfl2
  conv => whnf
  cases h1 : ltI (j : Int) (L.length : Int)
  · have := ltI_f h1
    have eL : L.take j = L := List.take_of_length_le (by omega)
    rw [eL] at hT
    have hi : i = (nz L).length := by rw [← hT]; simp; omega
    obtain ⟨c, hc⟩ : ∃ c, L.length - i = c + 1 := ⟨L.length - i - 1, by omega⟩
    conv => whnf
    rw [ble_t (i := i) (n := L.length) (by omega)]
    conv => whnf
    rw [hc]
    conv in (effectO _ _ _ _) => whnf
    conv in (clearO _ _ _ _) =>
      arg 4
      whnf
    rw [clear_int M (by omega) hfl2]
    conv => whnf
    rw [ble_t (i := i) (n := L.length) (by omega)]
    conv => whnf
    refine ⟨by rw [← hi]; rfl, M.take i ++ List.replicate (c + 1) 0, e, Nat.le_refl _, rfl, by simp; omega, ?_⟩
    rw [← hi, List.take_append_of_le_length (by simp; omega), List.take_take, Nat.min_self]
    exact hT
  have hlt := ltI_t h1
  have hb := blt_t (i := j) (n := L.length) (by omega)
  obtain ⟨y, hy⟩ := at_some (l := L) (i := j) (by omega)
  have hyM : M[j]? = some y := by
    have := congrArg (·[0]?) hD
    simp only [List.getElem?_drop, Nat.add_zero] at this
    rw [this]; exact hy
  have hDn : M.drop (j + 1) = L.drop (j + 1) := by rw [← List.drop_drop, hD, List.drop_drop]
  have hnz := nz_take hy
  conv => whnf
  rw [hb]
  conv => whnf
  rw [ble_t (i := 0 + j * 1 + 1) (Nat.le_refl _)]
  conv => whnf
  rw [may_fl hfl2]
  conv => whnf
  rw [encI_get0 hyM]
  conv => whnf
  refine Rets.use (c76 y) ?_
  cases h2 : eqI y 0
  case true =>
    have h2 := eqI_t h2
    rw [if_pos h2, List.append_nil] at hnz
    conv => whnf
    rw [wrap_succ (by omega)]
    exact ih (i, j + 1, M, fl2) ⟨by simp only; omega, by simp only; omega, hM, by simp only; rw [hnz]; exact hT, hDn, hfl2⟩ (by simp only; omega)
  have h2 := eqI_f h2
  rw [if_neg h2] at hnz
  have hbi := blt_t (i := i) (n := L.length) (by omega)
  conv => whnf
  rw [hbi]
  conv => whnf
  rw [ble_t (i := 0 + i * 1 + 1) (Nat.le_refl _)]
  conv => whnf
  rw [show Nat.beq e e = true from Nat.beq_refl e]
  conv => whnf
  rw [may_fl hfl2]
  conv => whnf
  rw [ble_t (i := 0 + i * 1 + [V.d (D.int .i64 y)].length) (by simp only [List.length_cons, List.length_nil, Cells.len, encI_length]; omega)]
  conv => whnf
  rw [write_int (i := i) (x := y) (by omega) (by omega)]
  conv => whnf
  rw [wrap_succ (by omega)]
  conv => whnf
  rw [wrap_succ (by omega)]
  exact ih (i + 1, j + 1, M.set i y, e) ⟨by simp only; omega, by simp only; omega, by simp only; rw [List.length_set]; exact hM, by
    simp only
    rw [hnz, ← hT, take_snoc (x := y) (by rw [List.getElem?_set_self (by omega)]), List.take_set_of_le (Nat.le_refl _)], by
    simp only
    rw [List.drop_set_of_lt (by omega)]; exact hDn, Nat.le_refl _⟩ (by simp only; omega)
theorem clone58 (a : Int) (l : List Int) (hl : l.length ≤ 1000) : Sm Tryz.prog E 58 [.d (.slice (a :: l).length 1 (encI (a :: l)))] [] (fun v h => v = .slice 0 0 0 (a :: l).length 1 ∧ h = [.row (.ds (encI (a :: l))) 0 0 []]) := by
  refine sm_of HE false (by kernel_rfl) ?_
  conv => whnf
  rw [ble_t (i := (a :: l).length * 8) (n := 140737488355328) (by simp; omega)]
  conv => whnf
  rw [ofV_map]
  conv => whnf
  exact ⟨rfl, rfl⟩
theorem clone58d (a : Int) (l : List Int) (hl : l.length ≤ 1000) : Rets Tryz.prog E 58 [.d (.slice (a :: l).length 1 (encI (a :: l)))] (.d (.slice (a :: l).length 1 (encI (a :: l)))) := by
  refine sm_of HE true (by kernel_rfl) ?_
  conv => whnf
  rw [ble_t (i := (a :: l).length * 8) (n := 140737488355328) (by simp; omega)]
  conv => whnf
  rw [ofV_map]
  have hel : (encI (a :: l)).length = (a :: l).length * 1 := by rw [encI_length]; simp
  conv => whnf
  rw [ble_t (i := 0 + (a :: l).length * 1) (by omega)]
  conv => whnf
  refine ⟨?_, rfl⟩
  rw [row_all hel]
/-! ### A race does not clash -/
def SameP (L : List Int) (e fl : Nat) (v : V) (h : List O) : Prop := v = .d (.tuple []) ∧ h = [.row (.ds (encI L)) e fl []]
theorem isort0 (L : List Int) (e fl : Nat) : Sm Tryz.prog E 154 [.slice 0 e 0 0 1, .d (.int .i64 0), .d (.int .i64 0)] [.row (.ds (encI L)) e fl []] (SameP L e fl) := by
  refine sm_of HE true (by kernel_rfl) ?_
  conv => whnf
  refine ⟨1, ?_⟩
  conv => whnf
  exact ⟨rfl, rfl⟩
theorem pdq0 (L : List Int) (e fl : Nat) (x : Int) : Sm Tryz.prog E 106 [.slice 0 e 0 0 1, .d (.int .i64 0), .d (.int .i64 0), .d (.int .i64 x)] [.row (.ds (encI L)) e fl []] (SameP L e fl) := by
  refine sm_of HE true (by kernel_rfl) ?_
  conv => whnf
  refine ⟨1, ?_⟩
  conv => whnf
  refine Sm.mono (isort0 L e fl) ?_
  rintro v h ⟨rfl, rfl⟩
  conv => whnf
  exact ⟨rfl, rfl⟩
theorem sort0 (L : List Int) (e fl : Nat) : Sm Tryz.prog E 77 [.slice 0 e 0 0 1] [.row (.ds (encI L)) e fl []] (SameP L e fl) := by
  refine sm_of HE true (by kernel_rfl) ?_
  conv => whnf
  refine Sm.mono (len_ok 0 (by omega)) ?_
  rintro v h ⟨⟨x, rfl⟩, rfl⟩
  conv => whnf
  refine Sm.mono (pdq0 L e fl x) ?_
  rintro v h ⟨rfl, rfl⟩
  conv => whnf
  exact ⟨rfl, rfl⟩
def FreeP (l : List Int) (i : Nat) (free : Int) : Prop := (i = 0 ∧ free = 1) ∨ ∃ (j : Nat) (p : Int), i = j + 1 ∧ l[j]? = some p ∧ free = p + ((l.take (j + 1)).countP (fun x => decide (x = p)) : Nat)
theorem cnt_none {l : List Int} (hs : l.Pairwise (· ≤ ·)) {j : Nat} {q p : Int} (h : l[j]? = some q) (hqp : q < p) : (l.take (j + 1)).countP (fun x => decide (x = p)) = 0 := by
  refine List.countP_eq_zero.2 fun x hx => ?_
  obtain ⟨t, ht⟩ := List.getElem?_of_mem hx
  rw [List.getElem?_take] at ht
  split at ht
  · have hle : x ≤ q := by
      by_cases htj : t = j
      · subst htj; rw [h] at ht; cases ht; exact Int.le_refl _
      · exact sorted_at hs (show t < j by omega) ht h
    simp; omega
  · cases ht
theorem clash_loop {r l L' : List Int} {fl m : Nat} (O : RaceOk r) (hp : l.Perm (nz r)) (hs : l.Pairwise (· ≤ ·)) (hl : L'.take m = l) (hm : m ≤ L'.length) (hm12 : m ≤ 12) (hlm : l.length = m) :
    ∀ (i : Nat) (free : Int) (p : Int), i < m → L'[i]? = some p → FreeP l i free → (i = 0 → free ≤ p ∧ 1 ≤ p ∧ p ≤ 60 ∧ FreeP l 1 (p + 1)) ∧
      (∀ j q, i = j + 1 → L'[j]? = some q → 1 ≤ p ∧ p ≤ 60 ∧ free ≤ 100 ∧ 0 ≤ free ∧ (p = q → FreeP l (i + 1) (free + 1)) ∧ (p ≠ q → free ≤ p ∧ FreeP l (i + 1) (p + 1))) := by
  intro i free p hi hip hF
  have hat : ∀ (t : Nat) y, t < m → L'[t]? = some y → l[t]? = some y := fun t y ht hy => by rw [← hl, List.getElem?_take, if_pos ht]; exact hy
  have hlp := hat i p hi hip
  have hmem := cl_mem O hp hlp
  have hct := countP_take (p := fun x => decide (x = p)) hlp
  rw [decide_eq_true rfl] at hct
  refine ⟨fun h0 => ?_, fun j q hj hq => ?_⟩
  · subst h0
    rcases hF with ⟨_, rfl⟩ | ⟨j, _, h, _⟩
    · refine ⟨hmem.2.2.1, hmem.2.2.1, hmem.2.2.2, .inr ⟨0, p, rfl, hlp, ?_⟩⟩
      rw [hct]; simp
    · omega
  · subst hj
    have hlq := hat j q (by omega) hq
    rcases hF with ⟨h, _⟩ | ⟨j', q', h, hq', hf⟩
    · omega
    obtain rfl : j' = j := by omega
    rw [hlq] at hq'
    cases hq'
    have hc12 : (l.take (j' + 1)).countP (fun x => decide (x = q)) ≤ l.length := Nat.le_trans List.countP_le_length (by simp; omega)
    have hmq := cl_mem O hp hlq
    refine ⟨hmem.2.2.1, hmem.2.2.2, by omega, by omega, fun hpq => ?_, fun hpq => ?_⟩
    · subst hpq
      exact .inr ⟨j' + 1, p, rfl, hlp, by rw [hct, hf]; simp; omega⟩
    · have hnx := cl_next O hp hs hlq hlp (fun h => hpq h.symm)
      have hqp : q < p := by
        have := sorted_at hs (show j' < j' + 1 by omega) hlq hlp
        omega
      exact ⟨by omega, .inr ⟨j' + 1, p, rfl, hlp, by rw [hct, cnt_none hs hlq hqp]; simp⟩⟩
theorem clash_ok (r : List Int) (O : RaceOk r) (h1 : 1 ≤ r.length) (h12 : r.length ≤ 12) : Rets Tryz.prog E 57 [.d (.slice r.length 1 (encI r))] (.d (.bool false)) := by
  obtain ⟨a, t, rfl⟩ : ∃ a t, r = a :: t := by
    cases r with
    | nil => simp at h1
    | cons a l => exact ⟨a, l, rfl⟩
  have hcl := clone58 a t (by simp at h12; omega)
  have hnl := nz_len (a :: t)
  generalize a :: t = r at *
  refine sm_of HE true (by kernel_rfl) ?_
  conv => whnf
  refine Sm.mono hcl ?_
  rintro v h ⟨rfl, rfl⟩
  conv => whnf
  refine Sm.mono (del_ok r 0 0 (by omega) (Nat.le_refl _)) ?_
  rintro v h ⟨rfl, L1, fl1, hfl1, rfl, hL1, ht1⟩
  obtain ⟨m, hm⟩ : ∃ m, (nz r).length = m := ⟨_, rfl⟩
  rw [hm] at ht1 hnl ⊢
  have fin : ∀ (L' : List Int) (fl : Nat), fl ≤ 0 → L'.length = L1.length → (L'.take m).Perm (nz r) → (L'.take m).Pairwise (· ≤ ·) → True := fun _ _ _ _ _ _ => trivial
  cases m with
  | zero =>
    conv => whnf
    refine Sm.mono (sort0 L1 0 fl1) ?_
    rintro v h ⟨rfl, rfl⟩
    conv => whnf
    refine ⟨1, ?_⟩
    conv => whnf
    exact ⟨rfl, rfl⟩
  | succ q =>
    conv => whnf
    refine Sm.mono (sort_ok L1 0 fl1 q (by omega) (by omega) (by omega) hfl1) ?_
    rintro v h ⟨rfl, L2, fl2, hfl2, rfl, hd, hp, hs⟩
    rw [ht1] at hp
    have hL2 : L2.length = L1.length := by
      have h1 := congrArg List.length hd
      have h2 := hp.length_eq
      simp only [List.length_drop, List.length_take] at h1 h2
      omega
    obtain ⟨l, hl⟩ : ∃ l, L2.take (q + 1) = l := ⟨_, rfl⟩
    rw [hl] at hp hs
    have hll : l.length = q + 1 := by rw [hp.length_eq, hm]
    have key := clash_loop (m := q + 1) (fl := fl2) O hp hs hl (by omega) (by omega) hll
    conv => whnf
    refine loops_by (fun x : Nat × Int => match x with
        | (i, free) => ⟨39, [(2, .d (.bool false)), (3, .slice 0 0 0 (q + 1) 1), (4, .d (.int .i64 free)), (12, .slice 0 0 0 (q + 1) 1), (13, .d (.int .i64 (q + 1 : Nat))), (14, .d (.int .i64 i))], .unk, [.row (.ds (encI L2)) 0 fl2 []], []⟩)
      (fun x => x.1 ≤ q + 1 ∧ FreeP l x.1 x.2) (fun x => q + 1 - x.1) (0, 1) ⟨Nat.zero_le _, .inl ⟨rfl, rfl⟩⟩ ?_
    rintro f ⟨i, free⟩ ⟨hi, hF⟩ ih
    simp only at hi hF
    conv => whnf
    cases g1 : ltI (i : Int) ((q + 1 : Nat) : Int)
    · have := ltI_f g1
      rcases hF with ⟨h, _⟩ | ⟨j, p, rfl, hj, hf⟩
      · omega
      have := cl_end O hp hj
      conv => whnf
      rw [show ltI 61 free = false from ltI_ff (by omega)]
      exact ⟨rfl, rfl⟩
    have hlt := ltI_t g1
    have hb := blt_t (i := i) (n := q + 1) (by omega)
    obtain ⟨p, hip⟩ := at_some (l := L2) (i := i) (by omega)
    obtain ⟨k1, k2⟩ := key i free p (by omega) hip hF
    conv => whnf
    rw [hb]
    conv => whnf
    rw [ble_t (i := 0 + i * 1 + 1) (Nat.le_refl _)]
    conv => whnf
    rw [may_fl hfl2]
    conv => whnf
    rw [encI_get0 hip]
    cases i with
    | zero =>
      obtain ⟨c1, c2, c3, c4⟩ := k1 rfl
      conv => whnf
      rw [ltI_ff c1]
      conv => whnf
      rw [wrap_i64 (n := p + 1) (by omega) (by omega)]
      exact ih (1, p + 1) ⟨by simp only; omega, c4⟩ (by simp only; omega)
    | succ j =>
      obtain ⟨y, hy⟩ := at_some (l := L2) (i := j) (by omega)
      obtain ⟨c1, c2, c3, c4, c5, c6⟩ := k2 j y rfl hy
      have hbj := blt_t (i := j) (n := q + 1) (by omega)
      conv => whnf
      rw [eqI_ff (a := ((j + 1 : Nat) : Int)) (b := 0) (by omega)]
      conv => whnf
      rw [wrap_i64 (n := ((j + 1 : Nat) : Int) - 1) (by omega) (by omega), show ((j + 1 : Nat) : Int) - 1 = (j : Int) by omega]
      conv => whnf
      rw [hbj]
      conv => whnf
      rw [ble_t (i := 0 + j * 1 + 1) (Nat.le_refl _)]
      conv => whnf
      rw [may_fl hfl2]
      conv => whnf
      rw [encI_get0 hy]
      conv => whnf
      cases g2 : eqI p y
      · obtain ⟨d1, d2⟩ := c6 (eqI_f g2)
        conv => whnf
        rw [ltI_ff d1]
        conv => whnf
        rw [wrap_i64 (n := p + 1) (by omega) (by omega)]
        conv => whnf
        rw [wrap_succ (by omega)]
        exact ih (j + 1 + 1, p + 1) ⟨by simp only; omega, d2⟩ (by simp only; omega)
      · have d2 := c5 (eqI_t g2)
        conv => whnf
        rw [wrap_i64 (n := free + 1) (by omega) (by omega)]
        conv => whnf
        rw [wrap_succ (by omega)]
        exact ih (j + 1 + 1, free + 1) ⟨by simp only; omega, d2⟩ (by simp only; omega)
end Go.Proofs.Cx
end
section
/-
  TopDecidedEarly: the program's check of a cup; what is asked.
-/
namespace Go.Proofs.Cx
open Go Go.Ab Go.Proofs.Cw
set_option maxRecDepth 100000
set_option maxHeartbeats 20000000
theorem idxE  (l : List (List Int)) (hl : l.length < 4611686018427387904) (hc : ∀ r ∈ l, RaceOk r ∧ 1 ≤ r.length ∧ r.length ≤ 12) :
    Sm Tryz.prog E 74 [.d (.slice l.length 1 (encLL l)), .d (.func 57 [] [])] [] (fun v h => v = .d (.int .i64 (-1)) ∧ h = []) := by
  refine sm_of HE true (by kernel_rfl) ?_
  conv => whnf
  refine loops_by (fun i : Nat => ⟨19, [(0, .d (.slice l.length 1 (encLL l))), (1, .d (.func 57 [] [])), (4, .d (.int .i64 0)), (7, .d (.int .i64 l.length)), (8, .d (.int .i64 i))], .unk, [], []⟩)
    (fun i => i ≤ l.length) (fun i => l.length - i) 0 (Nat.zero_le _) ?_
  intro f i hi ih
  conv => whnf
  cases h1 : ltI (i : Int) (l.length : Int)
  · conv => whnf
    exact ⟨rfl, rfl⟩
  have hlt := ltI_t h1
  have hb := blt_t (i := i) (n := l.length) (by omega)
  obtain ⟨x, hx⟩ := at_some (l := l) (i := i) (by omega)
  conv => whnf
  rw [hb]
  conv => whnf
  rw [encLL_get1 hx]
  conv => whnf
  refine Rets.use (clash_ok x (hc x (List.mem_of_getElem? hx)).1 (hc x (List.mem_of_getElem? hx)).2.1 (hc x (List.mem_of_getElem? hx)).2.2) ?_
  conv => whnf
  rw [wrap_succ (by omega)]
  exact ih (i + 1) (by omega) (by omega)
theorem conE  (l : List (List Int)) (hl : l.length < 4611686018427387904) (hc : ∀ r ∈ l, RaceOk r ∧ 1 ≤ r.length ∧ r.length ≤ 12) :
    Sm Tryz.prog E 56 [.d (.slice l.length 1 (encLL l)), .d (.func 57 [] [])] [] (fun v h => v = .d (.bool false) ∧ h = []) := by
  refine sm_of HE true (by kernel_rfl) ?_
  conv => whnf
  refine Sm.mono (idxE  l hl hc) ?_
  rintro v h ⟨rfl, rfl⟩
  conv => whnf
  exact ⟨rfl, rfl⟩
theorem check_ok {nn rr bb : Int} {P : List Int} {R : List (List Int)} (O : Ok nn rr bb P R) : Rets Tryz.prog E 38 [.d (cupD nn rr bb P R)] (.d (.int .i64 0)) := by
  obtain ⟨n, rfl⟩ : ∃ n : Nat, nn = n := ⟨nn.toNat, by have := O.sk; omega⟩
  have k1 := O.sk
  have k2 := O.rc
  have k3 := O.bs
  have k4 := O.pts
  have k5 := O.done
  have hrow : ∀ r ∈ R, r.length = n := fun r hr => by have := O.rows r hr; omega
  refine sm_of HE true (by kernel_rfl) ?_
  unfold cupD cupL
  conv => whnf
  refine Rets.use (within_ok n 1 12) ?_
  rw [inB_of k1.1 k1.2]
  conv => whnf
  refine Rets.use (within_ok rr 1 20) ?_
  rw [inB_of k2.1 k2.2]
  conv => whnf
  refine Rets.use (within_ok bb 1 rr) ?_
  rw [inB_of k3.1 k3.2]
  conv => whnf
  refine Rets.use (within_ok P.length 1 60) ?_
  rw [inB_of (n := (P.length : Int)) (by omega) (by omega)]
  conv => whnf
  rw [ltI_ff k5]
  conv => whnf
  refine Sm.mono (allA n rr bb P R R (by omega) hrow) ?_
  rintro v h ⟨rfl, rfl⟩
  unfold cupL
  conv => whnf
  refine Rets.use (allB P (by omega) O.pr) ?_
  conv => whnf
  refine Rets.use (allD R (by omega) fun r hr => ⟨by have := hrow r hr; omega, O.plr r hr⟩) ?_
  conv => whnf
  refine Rets.use (falls_ok P (by omega) O.falls (by omega)) ?_
  conv => whnf
  refine Sm.mono (conE R (by omega) fun r hr => ⟨O.race hr, by have := hrow r hr; omega, by have := hrow r hr; omega⟩) ?_
  rintro v h ⟨rfl, rfl⟩
  conv => whnf
  exact ⟨rfl, rfl⟩
theorem asked_ok {nn rr bb : Int} {P : List Int} {R : List (List Int)} (O : Ok nn rr bb P R) : Rets Tryz.prog E 21 [.d (cupD nn rr bb P R)] (.d (.tuple [cupD nn rr bb P R, .int .i64 0])) := by
  refine sm_of HE true (by kernel_rfl) ?_
  have := check_ok O
  unfold cupD cupL at this ⊢
  conv => whnf
  refine Rets.use this ?_
  conv => whnf
  exact ⟨rfl, rfl⟩
theorem named_ok {nn rr bb : Int} {P : List Int} {R : List (List Int)} (O : Ok nn rr bb P R) {s : Nat} (hs : (s : Int) < nn) : Rets Tryz.prog E 25 [.d (cupD nn rr bb P R), .d (.int .i64 s)] (.d (.tuple [cupD nn rr bb P R, .int .i64 0])) := by
  have k1 := O.sk
  refine sm_of HE true (by kernel_rfl) ?_
  have := asked_ok O
  unfold cupD cupL at this ⊢
  conv => whnf
  refine Rets.use this ?_
  conv => whnf
  rw [wrap_i64 (n := nn - 1) (by omega) (by omega)]
  refine Rets.use (within_ok s 0 (nn - 1)) ?_
  rw [inB_of (n := (s : Int)) (by omega) (by omega)]
  conv => whnf
  exact ⟨rfl, rfl⟩
end Go.Proofs.Cx
end
