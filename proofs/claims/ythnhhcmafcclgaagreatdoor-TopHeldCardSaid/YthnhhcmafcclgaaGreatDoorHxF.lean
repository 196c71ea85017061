/-
  TopHeld: the reference: what a proof proves.
-/
import Derived.Test.YthnhhcmafcclgaaGreatDoorHxE
namespace Go.Proofs.Hx
open Go Go.Ab Go.Proofs.Hw
set_option maxRecDepth 100000
set_option maxHeartbeats 1000000
def wz (ds : List Dy6) : List Hw.Dy := ds.map fun d => (d.nh, d.ml, d.lh)
theorem pv_at {st from_ day : Int} {ds : List Dy6} {i : Nat} {d : Dy6} (h : ds[i]? = some d) (left : Int) : pv st from_ day ((wz ds).drop i) i left = pv st from_ day ((d.nh, d.ml, d.lh) :: (wz ds).drop (i + 1)) i left := by
  have hz : (wz ds)[i]? = some (d.nh, d.ml, d.lh) := by unfold wz; rw [List.getElem?_map, h]; rfl
  obtain ⟨hi, hd⟩ := List.getElem?_eq_some_iff.1 hz
  rw [List.drop_eq_getElem_cons hi, hd]
def prvI (st s from_ day : Int) (ds : List Dy6) : Int × Int :=
  match orB (notB (inB day 0 ((ds.length : Int) - 1))) (notB (inB from_ (-1) day)) with
  | true => (0, 1)
  | false => match pv st from_ day (wz ds) 0 s with
    | none => (0, 8)
    | some x => match leI 0 x with
      | true => (0, 8)
      | false => (-x, 0)
def prvD (x : Int × Int) : D := .tuple [.int .i64 x.1, .int .i64 x.2]
theorem Proves_ok (s st from_ day : Int) (ds : List Dy6) (hc : chk s st ds = 0) :
    Rets Tryz.prog E 13 [.d (wD s st ds), .d (.int .i64 from_), .d (.int .i64 day)] (.d (prvD (prvI st s from_ day ds))) := by
  have G := chk_zero hc
  have hn60 := G.n
  have hst := G.store
  have hs0 := G.stock
  have hel := encW_length ds
  have hchk := refCheck_ok s st ds (by omega)
  rw [hc] at hchk
  refine sm_of HE true (by kernel_rfl) ?_
  unfold wD prvI
  conv => whnf
  refine Rets.use hchk ?_
  conv => whnf
  rw [wrap_i64 (n := (ds.length : Int) - 1) (by omega) (by omega)]
  refine Rets.use (outside_ok day 0 ((ds.length : Int) - 1)) ?_
  conv => whnf
  cases g1 : inB day 0 ((ds.length : Int) - 1)
  · conv => whnf
    exact ⟨rfl, rfl⟩
  conv => whnf
  refine Rets.use (outside_ok from_ (-1) day) ?_
  conv => whnf
  cases g2 : inB from_ (-1) day
  · conv => whnf
    exact ⟨rfl, rfl⟩
  have d1 := inB_true g1
  have d2 := inB_true g2
  conv => whnf
  refine loops_by (fun x : Nat × Int => ⟨80, [(1, .d (.int .i64 from_)), (2, .d (.int .i64 day)), (3, .ptr 0 0 0 3), (6, .d (.int .i64 0)), (7, .d (.int .i64 0)), (9, .d (.int .i64 x.2)), (10, .d (.int .i64 x.1))], .unk,
      [.row (.ds [.int .i64 s, .int .i64 st, .slice ds.length 6 (encW ds)]) 0 0 []], []⟩)
    (fun x => ((x.1 : Int) ≤ day ∧ 0 ≤ x.2 ∧ x.2 ≤ 1000000 + 100000 * (x.1 : Int) ∧ pv st from_ day (wz ds) 0 s = pv st from_ day ((wz ds).drop x.1) x.1 x.2) ∨
      ((x.1 : Int) = day + 1 ∧ -1000000 ≤ x.2 ∧ x.2 ≤ 10000000 ∧ pv st from_ day (wz ds) 0 s = some x.2)) (fun x => (day + 1 - (x.1 : Int)).toNat) (0, s) (.inl ⟨by simp only; omega, hs0.1, by simp only; omega, rfl⟩) ?_
  rintro f ⟨i, left⟩ hI ih
  simp only at hI
  conv => whnf
  cases h1 : leI (i : Int) day
  · rw [leI_eq] at h1
    have h1 := of_decide_eq_false h1
    rcases hI with hI | ⟨j1, j2, j3, j4⟩
    · omega
    rw [j4]
    conv => whnf
    cases h2 : leI 0 left
    · conv => whnf
      rw [wrap_i64 (n := -left) (by omega) (by omega)]
      refine ⟨?_, rfl⟩
      simp only [h2]; rfl
    · conv => whnf
      refine ⟨?_, rfl⟩
      simp only [h2]; rfl
  rw [leI_eq] at h1
  have h1 := of_decide_eq_true h1
  rcases hI with ⟨j1, j2, j3, j4⟩ | hI
  case inr => omega
  have hlt : i < ds.length := by omega
  have hb : Nat.blt i ds.length = true := by simpa [Nat.blt_eq] using hlt
  obtain ⟨d, hd⟩ : ∃ a, ds[i]? = some a := ⟨ds[i], by simp [hlt]⟩
  obtain ⟨B1, B2, B3⟩ := G.d d (List.mem_of_getElem? hd)
  rw [pv_at hd] at j4
  conv => whnf
  rw [hb]
  conv => whnf
  rw [show Nat.ble (i * 6 + 6) (encW ds).length = true from Nat.ble_eq_true_of_le (by omega)]
  conv => whnf
  rw [encW_at hd]
  conv => whnf
  cases h2 : ltI (i : Int) from_
  case true =>
    rw [ltI_eq] at h2
    have h2 := of_decide_eq_true h2
    conv => whnf
    rw [wrap_succ (by omega)]
    exact ih (i + 1, left) (.inl ⟨by simp only; omega, j2, by simp only; omega, by rw [j4, pv_skip h2]⟩) (by simp only; omega)
  rw [ltI_eq] at h2
  have h2 := of_decide_eq_false h2
  conv => whnf
  cases h3 : eqI (i : Int) from_
  · have h3' : (i : Int) ≠ from_ := by rw [eqI_eq] at h3; exact of_decide_eq_false h3
    have hL := lft_else (store := st) (d := (d.nh, d.ml, d.lh)) (left := left) h3'
    simp only at hL
    conv => whnf
    cases h4 : ltI d.lh left
    · rw [ltI_eq] at h4
      have h4 := of_decide_eq_false h4
      have hX : lft st from_ (d.nh, d.ml, d.lh) i left = d.ml - d.nh := by rw [hL]; omega
      conv => whnf
      rw [wrap_i64 (n := d.ml - d.nh) (by omega) (by omega)]
      cases q1 : ltI (d.ml - d.nh) 0
      · rw [ltI_eq] at q1
        have q1 := of_decide_eq_false q1
        conv => whnf
        rw [wrap_succ (by omega)]
        refine ih (i + 1, d.ml - d.nh) ?_ (by simp only; omega)
        by_cases he : (i : Int) = day
        · subst he
          exact .inr ⟨by simp only; omega, by simp only; omega, by simp only; omega, by rw [j4, pv_end (by omega), hX]⟩
        · exact .inl ⟨by simp only; omega, by simp only; omega, by simp only; omega, by rw [j4, pv_mid (by omega) (by omega) (by omega), hX]⟩
      · rw [ltI_eq] at q1
        have q1 := of_decide_eq_true q1
        conv => whnf
        cases q2 : ltI (i : Int) day
        · rw [ltI_eq] at q2
          have q2 := of_decide_eq_false q2
          obtain rfl : (i : Int) = day := by omega
          conv => whnf
          rw [wrap_succ (by omega)]
          exact ih (i + 1, d.ml - d.nh) (.inr ⟨by simp only; omega, by simp only; omega, by simp only; omega, by rw [j4, pv_end (by omega), hX]⟩) (by simp only; omega)
        · rw [ltI_eq] at q2
          have q2 := of_decide_eq_true q2
          have hp : pv st from_ day (wz ds) 0 s = none := by rw [j4, pv, if_neg h2, if_pos ⟨by omega, q2⟩]
          rw [hp]
          conv => whnf
          exact ⟨rfl, rfl⟩
    · rw [ltI_eq] at h4
      have h4 := of_decide_eq_true h4
      have hX : lft st from_ (d.nh, d.ml, d.lh) i left = d.ml + left - d.lh - d.nh := by rw [hL]; omega
      conv => whnf
      rw [wrap_i64 (n := d.ml + left) (by omega) (by omega), wrap_i64 (n := d.ml + left - d.lh) (by omega) (by omega), wrap_i64 (n := d.ml + left - d.lh - d.nh) (by omega) (by omega)]
      cases q1 : ltI (d.ml + left - d.lh - d.nh) 0
      · rw [ltI_eq] at q1
        have q1 := of_decide_eq_false q1
        conv => whnf
        rw [wrap_succ (by omega)]
        refine ih (i + 1, d.ml + left - d.lh - d.nh) ?_ (by simp only; omega)
        by_cases he : (i : Int) = day
        · subst he
          exact .inr ⟨by simp only; omega, by simp only; omega, by simp only; omega, by rw [j4, pv_end (by omega), hX]⟩
        · exact .inl ⟨by simp only; omega, by simp only; omega, by simp only; omega, by rw [j4, pv_mid (by omega) (by omega) (by omega), hX]⟩
      · rw [ltI_eq] at q1
        have q1 := of_decide_eq_true q1
        conv => whnf
        cases q2 : ltI (i : Int) day
        · rw [ltI_eq] at q2
          have q2 := of_decide_eq_false q2
          obtain rfl : (i : Int) = day := by omega
          conv => whnf
          rw [wrap_succ (by omega)]
          exact ih (i + 1, d.ml + left - d.lh - d.nh) (.inr ⟨by simp only; omega, by simp only; omega, by simp only; omega, by rw [j4, pv_end (by omega), hX]⟩) (by simp only; omega)
        · rw [ltI_eq] at q2
          have q2 := of_decide_eq_true q2
          have hp : pv st from_ day (wz ds) 0 s = none := by rw [j4, pv, if_neg h2, if_pos ⟨by omega, q2⟩]
          rw [hp]
          conv => whnf
          exact ⟨rfl, rfl⟩
  · obtain rfl : (i : Int) = from_ := eqI_true h3
    have hX : lft st (i : Int) (d.nh, d.ml, d.lh) i left = st - d.nh := lft_from
    conv => whnf
    rw [wrap_i64 (n := st - d.nh) (by omega) (by omega)]
    cases q1 : ltI (st - d.nh) 0
    · rw [ltI_eq] at q1
      have q1 := of_decide_eq_false q1
      conv => whnf
      rw [wrap_succ (by omega)]
      refine ih (i + 1, st - d.nh) ?_ (by simp only; omega)
      by_cases he : (i : Int) = day
      · subst he
        exact .inr ⟨by simp only; omega, by simp only; omega, by simp only; omega, by rw [j4, pv_end (by omega), hX]⟩
      · exact .inl ⟨by simp only; omega, by simp only; omega, by simp only; omega, by rw [j4, pv_mid (by omega) (by omega) (by omega), hX]⟩
    · rw [ltI_eq] at q1
      have q1 := of_decide_eq_true q1
      conv => whnf
      cases q2 : ltI (i : Int) day
      · rw [ltI_eq] at q2
        have q2 := of_decide_eq_false q2
        obtain rfl : (i : Int) = day := by omega
        conv => whnf
        rw [wrap_succ (by omega)]
        exact ih (i + 1, st - d.nh) (.inr ⟨by simp only; omega, by simp only; omega, by simp only; omega, by rw [j4, pv_end (by omega), hX]⟩) (by simp only; omega)
      · rw [ltI_eq] at q2
        have q2 := of_decide_eq_true q2
        have hp : pv st (i : Int) day (wz ds) 0 s = none := by rw [j4, pv, if_neg h2, if_pos ⟨by omega, q2⟩]
        rw [hp]
        conv => whnf
        exact ⟨rfl, rfl⟩
end Go.Proofs.Hx
