/-
  TopHeld itself: it returns true.
-/
import Derived.Test.YthnhhcmafcclgaaGreatDoorHxJ
namespace Go.Proofs.Hx
open Go Go.Ab Go.Proofs.Hw
set_option maxRecDepth 100000
set_option maxHeartbeats 4000000
section
variable {s st : Int} {ds : List Dy6} {tn tm tl : List Int} {pf pd : Int}
def plD (pf pd : Int) : D := .agg [.int .i64 pf, .int .i64 pd]
theorem top_ok (hl : ds.length * 48 ≤ 140737488355328) : Rets Tryz.prog E 3 [.d (wD s st ds), .d (weD tn tm tl), .d (plD pf pd)] (.d (.bool true)) := by
  refine sm_of HE true (by kernel_rfl) ?_
  unfold wD weD plD
  conv => whnf
  refine Rets.use (winter_ok s st ds hl) ?_
  unfold wD
  conv => whnf
  cases g1 : ltI 70 (ds.length : Int)
  case true =>
    conv => whnf
    refine Rets.use plays_ok ?_
    conv => whnf
    exact ⟨rfl, rfl⟩
  conv => whnf
  cases g2 : ltI 70 (tn.length : Int)
  case true =>
    conv => whnf
    refine Rets.use plays_ok ?_
    conv => whnf
    exact ⟨rfl, rfl⟩
  conv => whnf
  cases g3 : ltI 70 (tm.length : Int)
  case true =>
    conv => whnf
    refine Rets.use plays_ok ?_
    conv => whnf
    exact ⟨rfl, rfl⟩
  conv => whnf
  cases g4 : ltI 70 (tl.length : Int)
  case true =>
    conv => whnf
    refine Rets.use plays_ok ?_
    conv => whnf
    exact ⟨rfl, rfl⟩
  conv => whnf
  have d70 : ds.length ≤ 70 := by rw [ltI_eq] at g1; have := of_decide_eq_false g1; omega
  refine Rets.use (refCheck_ok s st ds (by omega)) ?_
  conv => whnf
  cases g5 : eqI (chk s st ds) 0
  case false =>
    conv => whnf
    refine Rets.use plays_ok ?_
    conv => whnf
    exact ⟨rfl, rfl⟩
  have hc : chk s st ds = 0 := eqI_true g5
  have G := chk_zero hc
  obtain ⟨k, g, hkg⟩ : ∃ k g, fu st (wz ds) s 0 (-1) = (k, g) := ⟨_, _, rfl⟩
  have hfl : fl st (wz ds) s 0 = k := by have := fu_fst st (wz ds) s 0 (-1); rw [hkg] at this; exact this.symm
  have hF := First_ok hc hkg
  have hW := Why_ok hc hkg
  have hH := Happens_ok' (n := ds.map (·.nh)) (m := ds.map (·.ml)) (l := ds.map (·.lh)) hc (by simp) (by simp) (by simp) (worst_in G)
  rw [zip3_map, hfl] at hH
  have hWe := Weather_ok s st ds (ds.map (·.nh)) (ds.map (·.ml)) (ds.map (·.lh)) hc
  rw [wea_worst G] at hWe
  have hcl := clone_ok s st ds (by omega)
  have hPt := Proves_ok s st pf pd ds hc
  have hWt := Weather_ok s st ds tn tm tl hc
  unfold firD at hF
  unfold whyD at hW
  unfold wD at hcl
  conv => whnf
  refine Rets.use hcl ?_
  conv => whnf
  refine Rets.use hF ?_
  have hpl := prv_law (from_ := pf) (day := pd) hkg
  obtain ⟨pn, pe, hpp⟩ : ∃ pn pe, prvI st s pf pd ds = (pn, pe) := ⟨_, _, rfl⟩
  rw [hpp] at hpl hPt
  unfold prvD at hPt
  simp only at hpl hPt
  cases hk : eqI k (-1)
  · have hk' : k ≠ -1 := by rw [eqI_eq] at hk; exact of_decide_eq_false hk
    obtain ⟨x, hx, hx0⟩ := why_law hkg hk'
    have hPw := Proves_ok s st g k ds hc
    rw [hx] at hPw
    unfold prvD at hPw
    simp only at hPw
    conv => whnf
    refine Rets.use hcl ?_
    conv => whnf
    refine Rets.use hW ?_
    rw [hk]
    conv => whnf
    refine Rets.use hcl ?_
    conv => whnf
    refine Rets.use (Worst_ok s st ds hc) ?_
    unfold weD
    conv => whnf
    refine Rets.use hWe ?_
    conv => whnf
    refine Rets.use hH ?_
    conv => whnf
    rw [hk]
    conv => whnf
    rw [ne_self]
    conv => whnf
    refine Rets.use hPw ?_
    conv => whnf
    rw [show ltI (-x) 1 = false by rw [ltI_eq]; simp; omega]
    conv => whnf
    rw [ne_self]
    conv => whnf
    refine Rets.use hPt ?_
    conv => whnf
    cases p1 : eqI pe 0
    · conv => whnf
      refine Rets.use hWt ?_
      conv => whnf
      cases w1 : eqI (wea ds tn tm tl) 0
      · conv => whnf
        refine Rets.use plays_ok ?_
        conv => whnf
        exact ⟨rfl, rfl⟩
      · obtain ⟨l1, l2, l3, l4⟩ := wea_zero (eqI_true w1)
        have hH2 := Happens_ok' hc l1 l2 l3 (weather_in G (eqI_true w1))
        have hfw := fl_worse st (wz ds) (zip3 tn tm tl) s s 0 (weaB_false l4 l1 l2 l3).1 (Int.le_refl _)
        rw [hfl] at hfw
        obtain ⟨dy, hdy⟩ : ∃ dy, dy = fl st (zip3 tn tm tl) s 0 := ⟨_, rfl⟩
        rw [← hdy] at hfw hH2
        conv => whnf
        refine Rets.use hH2 ?_
        conv => whnf
        cases w2 : eqI dy (-1)
        · have hdn : dy ≠ -1 := by rw [eqI_eq] at w2; exact of_decide_eq_false w2
          conv => whnf
          rw [show leI k dy = true by rw [leI_eq]; simp; omega]
          conv => whnf
          refine Rets.use plays_ok ?_
          conv => whnf
          exact ⟨rfl, rfl⟩
        · conv => whnf
          refine Rets.use plays_ok ?_
          conv => whnf
          exact ⟨rfl, rfl⟩
    · have pe0 : pe = 0 := eqI_true p1
      conv => whnf
      cases p2 : ltI 0 pn
      · conv => whnf
        refine Rets.use hWt ?_
        conv => whnf
        cases w1 : eqI (wea ds tn tm tl) 0
        · conv => whnf
          refine Rets.use plays_ok ?_
          conv => whnf
          exact ⟨rfl, rfl⟩
        · obtain ⟨l1, l2, l3, l4⟩ := wea_zero (eqI_true w1)
          have hH2 := Happens_ok' hc l1 l2 l3 (weather_in G (eqI_true w1))
          have hfw := fl_worse st (wz ds) (zip3 tn tm tl) s s 0 (weaB_false l4 l1 l2 l3).1 (Int.le_refl _)
          rw [hfl] at hfw
          obtain ⟨dy, hdy⟩ : ∃ dy, dy = fl st (zip3 tn tm tl) s 0 := ⟨_, rfl⟩
          rw [← hdy] at hfw hH2
          conv => whnf
          refine Rets.use hH2 ?_
          conv => whnf
          cases w2 : eqI dy (-1)
          · have hdn : dy ≠ -1 := by rw [eqI_eq] at w2; exact of_decide_eq_false w2
            conv => whnf
            rw [show leI k dy = true by rw [leI_eq]; simp; omega]
            conv => whnf
            refine Rets.use plays_ok ?_
            conv => whnf
            exact ⟨rfl, rfl⟩
          · conv => whnf
            refine Rets.use plays_ok ?_
            conv => whnf
            exact ⟨rfl, rfl⟩
      · rw [ltI_eq] at p2
        have hp := hpl pe0 (of_decide_eq_true p2)
        conv => whnf
        rw [show ltI pd k = false by rw [ltI_eq]; simp; omega]
        conv => whnf
        refine Rets.use hWt ?_
        conv => whnf
        cases w1 : eqI (wea ds tn tm tl) 0
        · conv => whnf
          refine Rets.use plays_ok ?_
          conv => whnf
          exact ⟨rfl, rfl⟩
        · obtain ⟨l1, l2, l3, l4⟩ := wea_zero (eqI_true w1)
          have hH2 := Happens_ok' hc l1 l2 l3 (weather_in G (eqI_true w1))
          have hfw := fl_worse st (wz ds) (zip3 tn tm tl) s s 0 (weaB_false l4 l1 l2 l3).1 (Int.le_refl _)
          rw [hfl] at hfw
          obtain ⟨dy, hdy⟩ : ∃ dy, dy = fl st (zip3 tn tm tl) s 0 := ⟨_, rfl⟩
          rw [← hdy] at hfw hH2
          conv => whnf
          refine Rets.use hH2 ?_
          conv => whnf
          cases w2 : eqI dy (-1)
          · have hdn : dy ≠ -1 := by rw [eqI_eq] at w2; exact of_decide_eq_false w2
            conv => whnf
            rw [show leI k dy = true by rw [leI_eq]; simp; omega]
            conv => whnf
            refine Rets.use plays_ok ?_
            conv => whnf
            exact ⟨rfl, rfl⟩
          · conv => whnf
            refine Rets.use plays_ok ?_
            conv => whnf
            exact ⟨rfl, rfl⟩
  · have hk' : k = -1 := eqI_true hk
    conv => whnf
    refine Rets.use hcl ?_
    conv => whnf
    refine Rets.use hW ?_
    rw [hk]
    conv => whnf
    refine Rets.use hcl ?_
    conv => whnf
    refine Rets.use (Worst_ok s st ds hc) ?_
    unfold weD
    conv => whnf
    refine Rets.use hWe ?_
    conv => whnf
    refine Rets.use hH ?_
    conv => whnf
    rw [hk]
    conv => whnf
    refine Rets.use hPt ?_
    conv => whnf
    cases p1 : eqI pe 0
    · conv => whnf
      refine Rets.use hWt ?_
      conv => whnf
      cases w1 : eqI (wea ds tn tm tl) 0
      · conv => whnf
        refine Rets.use plays_ok ?_
        conv => whnf
        exact ⟨rfl, rfl⟩
      · obtain ⟨l1, l2, l3, l4⟩ := wea_zero (eqI_true w1)
        have hH2 := Happens_ok' hc l1 l2 l3 (weather_in G (eqI_true w1))
        have hfw := fl_worse st (wz ds) (zip3 tn tm tl) s s 0 (weaB_false l4 l1 l2 l3).1 (Int.le_refl _)
        rw [hfl] at hfw
        obtain ⟨dy, hdy⟩ : ∃ dy, dy = fl st (zip3 tn tm tl) s 0 := ⟨_, rfl⟩
        rw [← hdy] at hfw hH2
        conv => whnf
        refine Rets.use hH2 ?_
        conv => whnf
        cases w2 : eqI dy (-1)
        · have : dy ≠ -1 := by rw [eqI_eq] at w2; exact of_decide_eq_false w2
          omega
        · conv => whnf
          refine Rets.use plays_ok ?_
          conv => whnf
          exact ⟨rfl, rfl⟩
    · have pe0 : pe = 0 := eqI_true p1
      conv => whnf
      cases p2 : ltI 0 pn
      · conv => whnf
        refine Rets.use hWt ?_
        conv => whnf
        cases w1 : eqI (wea ds tn tm tl) 0
        · conv => whnf
          refine Rets.use plays_ok ?_
          conv => whnf
          exact ⟨rfl, rfl⟩
        · obtain ⟨l1, l2, l3, l4⟩ := wea_zero (eqI_true w1)
          have hH2 := Happens_ok' hc l1 l2 l3 (weather_in G (eqI_true w1))
          have hfw := fl_worse st (wz ds) (zip3 tn tm tl) s s 0 (weaB_false l4 l1 l2 l3).1 (Int.le_refl _)
          rw [hfl] at hfw
          obtain ⟨dy, hdy⟩ : ∃ dy, dy = fl st (zip3 tn tm tl) s 0 := ⟨_, rfl⟩
          rw [← hdy] at hfw hH2
          conv => whnf
          refine Rets.use hH2 ?_
          conv => whnf
          cases w2 : eqI dy (-1)
          · have : dy ≠ -1 := by rw [eqI_eq] at w2; exact of_decide_eq_false w2
            omega
          · conv => whnf
            refine Rets.use plays_ok ?_
            conv => whnf
            exact ⟨rfl, rfl⟩
      · rw [ltI_eq] at p2
        have hp := hpl pe0 (of_decide_eq_true p2)
        omega
end
end Go.Proofs.Hx
