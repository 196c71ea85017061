/- PxI: a part of the proof of this claim. -/
import Derived.Test.YtecgckocabkadaaGreatDoorPxH
namespace Go.Proofs.Px
open Go Go.Ab
set_option maxRecDepth 100000
set_option maxHeartbeats 1000000
theorem fork_loops {G : Prop} {α : Type} {m : Nat} {sl : Option (List Nat)} {body : S → (Ex → S → Prop) → Prop} {Q : Ex → S → Prop} (st : α → S) (I : α → Prop) (μ : α → Nat)
    (step : ∀ (n : Nat) (x : α), I x → (∀ y, I y → μ y < μ x → hd m sl body n (st y) Q) → hd m sl body (n + 1) (st x) Q)
    (leaf : (∀ x, I x → Loops fun n => hd m sl body n (st x) Q) → G) : G := leaf fun x hx => loops_by st I μ x hx step
section
variable {e l off : Int} {ts : List (Int × Int)} {rs ws : List Int}
theorem top_ok :
    Rets Tryz.prog E 3 [.d (scD e l ts rs), .d (.int .i64 off), .d (.slice ws.length 1 (encI ws))] (.d (.bool true)) := by
  refine sm_of HE true (by kernel_rfl) ?_
  unfold scD
  conv => whnf
  cases g1 : ltI 15 (ts.length : Int)
  case true =>
    conv => whnf
    refine Rets.use plays_ok ?_
    conv => whnf
    exact ⟨rfl, rfl⟩
  conv => whnf
  cases g2 : ltI 15 (rs.length : Int)
  case true =>
    conv => whnf
    refine Rets.use plays_ok ?_
    conv => whnf
    exact ⟨rfl, rfl⟩
  conv => whnf
  cases g3 : ltI 20 (ws.length : Int)
  case true =>
    conv => whnf
    refine Rets.use plays_ok ?_
    conv => whnf
    exact ⟨rfl, rfl⟩
  conv => whnf
  have w20 : ws.length ≤ 20 := by rw [ltI_eq] at g3; have := of_decide_eq_false g3; omega
  refine Rets.use (far_ok ws (by omega)) ?_
  cases g4 : anyB farB ws
  case true =>
    conv => whnf
    refine Rets.use plays_ok ?_
    conv => whnf
    exact ⟨rfl, rfl⟩
  conv => whnf
  refine Sm.mono (far_one off) ?_
  rintro v h ⟨rfl, rfl⟩
  unfold oneI
  cases g5 : farB off
  case true =>
    conv => whnf
    refine Rets.use plays_ok ?_
    conv => whnf
    exact ⟨rfl, rfl⟩
  conv => whnf
  have t15 : ts.length ≤ 15 := by rw [ltI_eq] at g1; have := of_decide_eq_false g1; omega
  have r15 : rs.length ≤ 15 := by rw [ltI_eq] at g2; have := of_decide_eq_false g2; omega
  refine Rets.use (scale_ok (e := e) (l := l) (rs := rs) (by omega)) ?_
  unfold scD
  conv => whnf
  refine Rets.use (refCheck_ok e l ts rs (by omega) (by omega)) ?_
  conv => whnf
  cases g6 : eqI (chk e l ts rs) 0
  case false =>
    conv => whnf
    refine Rets.use plays_ok ?_
    conv => whnf
    exact ⟨rfl, rfl⟩
  have hc : chk e l ts rs = 0 := eqI_true g6
  have G := chk_zero hc
  have hof : -1000000 ≤ off ∧ off ≤ 1000000 := by
    unfold farB at g5; rw [ltI_eq, ltI_eq] at g5
    by_cases a : off < -1000000 <;> by_cases b : (1000000 : Int) < off <;> simp [orB, a, b] at g5
    omega
  have hws : ∀ w ∈ ws, -1000000 ≤ w ∧ w ≤ 1000000 := fun w hw => by
    have := anyB_false g4 w hw
    unfold farB at this; rw [ltI_eq, ltI_eq] at this
    by_cases a : w < -1000000 <;> by_cases b : (1000000 : Int) < w <;> simp [orB, a, b] at this
    omega
  conv => whnf
  apply fork_loops (fun x : Nat × Int × Int × Bool => ⟨338, [(1, .d (.int .i64 off)), (2, .d (.slice ws.length 1 (encI ws))), (3, .ptr 0 0 0 4), (6, .d (.bool false)), (7, .d (.int .i64 x.2.1)), (8, .d (.int .i64 x.2.2.1)), (9, .d (.bool x.2.2.2)), (78, .d (.slice ts.length 2 (encP ts))), (79, .d (.int .i64 ts.length)), (80, .d (.int .i64 x.1))], .unk,
      [.row (.ds [.int .i64 e, .int .i64 l, .slice ts.length 2 (encP ts), .slice rs.length 1 (encI rs)]) 0 0 []], []⟩)
    (fun x => x.1 ≤ ts.length ∧ raw e (ts.drop x.1) x.2.1 x.2.2.1 = raw e ts (-1000) 1000 ∧ (x.2.2.2 = true → ws.length = rs.length ∧ x.2.1 ≤ off ∧ off ≤ x.2.2.1)) (fun x => ts.length - x.1)
  case leaf =>
    intro key
    cases c1 : eqI (ws.length : Int) (rs.length : Int)
    · conv => whnf
      exact key (0, -1000, 1000, false) ⟨Nat.zero_le _, rfl, fun h => by cases h⟩
    have hlen : ws.length = rs.length := by have := eqI_true c1; omega
    conv => whnf
    cases c2 : leI (-1000) off
    · conv => whnf
      exact key (0, -1000, 1000, false) ⟨Nat.zero_le _, rfl, fun h => by cases h⟩
    rw [leI_eq] at c2
    have c2 := of_decide_eq_true c2
    conv => whnf
    cases c3 : leI off 1000
    · conv => whnf
      exact key (0, -1000, 1000, false) ⟨Nat.zero_le _, rfl, fun h => by cases h⟩
    rw [leI_eq] at c3
    have c3 := of_decide_eq_true c3
    conv => whnf
    exact key (0, -1000, 1000, true) ⟨Nat.zero_le _, rfl, fun _ => ⟨hlen, c2, c3⟩⟩
  case step =>
    rintro n ⟨i, lo, hi, b⟩ ⟨hle, hid, hag⟩ ih
    simp only at hle hid hag
    conv => whnf
    have hoffs := raw_offs e ts (-1000) 1000 (Int.le_refl _) (Int.le_refl _)
    cases h1 : ltI (i : Int) (ts.length : Int)
    · have hn : ts.length ≤ i := by rw [ltI_eq] at h1; have := of_decide_eq_false h1; omega
      rw [List.drop_eq_nil_of_le hn, raw, hoffs] at hid
      conv => whnf
      have hoL : lo = (offs e ts (-1000) 1000).1 := congrArg Prod.fst hid
      have hoH : hi = (offs e ts (-1000) 1000).2 := congrArg Prod.snd hid
      have hgr := offs_grow e ts (-1000) 1000
      rw [← hoL, ← hoH] at hgr
      refine loops_by (fun x : Nat × Bool => ⟨338, [(1, .d (.int .i64 off)), (2, .d (.slice ws.length 1 (encI ws))), (3, .ptr 0 0 0 4), (6, .d (.bool false)), (7, .d (.int .i64 lo)), (8, .d (.int .i64 hi)), (9, .d (.bool x.2)), (123, .d (.slice rs.length 1 (encI rs))), (124, .d (.int .i64 rs.length)), (125, .d (.int .i64 x.1))], .unk,
        [.row (.ds [.int .i64 e, .int .i64 l, .slice ts.length 2 (encP ts), .slice rs.length 1 (encI rs)]) 0 0 []], []⟩)
        (fun x => x.1 ≤ rs.length ∧ (x.2 = true → ws.length = rs.length ∧ lo ≤ off ∧ off ≤ hi ∧ ∀ (j : Nat) (n w : Int), j < x.1 → rs[j]? = some n → ws[j]? = some w → n - w - off ≤ e ∧ -e ≤ n - w - off)) (fun x => rs.length - x.1) (0, b) ⟨Nat.zero_le _, fun h => ⟨(hag h).1, (hag h).2.1, (hag h).2.2, fun j n w hj => absurd hj (Nat.not_lt_zero _)⟩⟩ ?_
      clear hag ih
      rintro n' ⟨i, b⟩ ⟨hle, hag⟩ ih
      simp only at hle hag
      conv => whnf
      cases h2 : ltI (i : Int) (rs.length : Int)
      · have hn : rs.length ≤ i := by rw [ltI_eq] at h2; have := of_decide_eq_false h2; omega
        have hag' : b = true → ws.length = rs.length ∧ lo ≤ off ∧ off ≤ hi ∧ ∀ (j : Nat) (n w : Int), rs[j]? = some n → ws[j]? = some w → n - w - off ≤ e ∧ -e ≤ n - w - off := fun h => by
          obtain ⟨a1, a2, a3, a4⟩ := hag h
          exact ⟨a1, a2, a3, fun j n w hn' => a4 j n w (by have := (List.getElem?_eq_some_iff.1 hn').1; omega) hn'⟩
        conv => whnf
        refine Rets.use (clone_ok (e := e) (l := l) (by omega) (by omega)) ?_
        unfold scD
        conv => whnf
        refine Rets.use (offset_ok e l ts rs hc) ?_
        rw [← hoL, ← hoH]
        cases h3 : ltI hi lo
        · conv => whnf
          refine Rets.use (clone_ok (e := e) (l := l) (by omega) (by omega)) ?_
          unfold scD
          conv => whnf
          refine Sm.mono (clash_ok e l ts rs hc) ?_
          rw [clash_iff, ← hoL, ← hoH, h3]
          rintro v h ⟨rfl, rfl⟩
          have hlh : lo ≤ hi := by rw [ltI_eq] at h3; have := of_decide_eq_false h3; omega
          have hbb : -1000 ≤ lo ∧ lo ≤ hi ∧ hi ≤ 1000 := ⟨by omega, hlh, by omega⟩
          conv => whnf
          rw [h3]
          conv => whnf
          refine Rets.use (clone_ok (e := e) (l := l) (by omega) (by omega)) ?_
          unfold scD
          conv => whnf
          refine Rets.use (weights_ok hc hoL.symm hoH.symm hbb) ?_
          conv => whnf
          refine Rets.use (clone_ok (e := e) (l := l) (by omega) (by omega)) ?_
          unfold scD
          conv => whnf
          refine Rets.use (passed_ok' hc hoL.symm hoH.symm hbb) ?_
          conv => whnf
          refine Rets.use (clone_ok (e := e) (l := l) (by omega) (by omega)) ?_
          unfold scD
          conv => whnf
          refine Rets.use (open_ok' hc hoL.symm hoH.symm hbb) ?_
          conv => whnf
          rw [ne_self]
          conv => whnf
          rw [ne_self]
          conv => whnf
          rw [ne_self]
          conv => whnf
          refine loops_by (fun k : Nat => ⟨338, [(2, .d (.slice ws.length 1 (encI ws))), (3, .ptr 0 0 0 4), (6, .d (.bool false)), (7, .d (.int .i64 lo)), (8, .d (.int .i64 hi)), (9, .d (.bool b)), (19, .d (.slice rs.length 2 (encP (rs.map (wgt e lo hi))))),
              (21, .d (.slice (idxs (passes e l hi) rs 0).length 1 (encI (idxs (passes e l hi) rs 0)))), (23, .d (.slice (idxs (isOpen e l lo hi) rs 0).length 1 (encI (idxs (isOpen e l lo hi) rs 0)))), (240, .d (.slice rs.length 1 (encI rs))), (241, .d (.int .i64 rs.length)), (242, .d (.int .i64 k))], .unk,
              [.row (.ds [.int .i64 e, .int .i64 l, .slice ts.length 2 (encP ts), .slice rs.length 1 (encI rs)]) 0 0 []], []⟩)
            (fun k => k ≤ rs.length) (fun k => rs.length - k) 0 (Nat.zero_le _) ?_
          clear hag ih
          intro n'' k hkle ih
          conv => whnf
          cases h4 : ltI (k : Int) (rs.length : Int)
          · conv => whnf
            refine Rets.use plays_ok ?_
            conv => whnf
            exact ⟨rfl, rfl⟩
          · have hlt : k < rs.length := by rw [ltI_eq] at h4; have := of_decide_eq_true h4; omega
            have hkb : Nat.blt k rs.length = true := by simpa [Nat.blt_eq] using hlt
            obtain ⟨a, ha⟩ : ∃ a, rs[k]? = some a := ⟨rs[k], by simp [hlt]⟩
            have b1 := G.r a (List.mem_of_getElem? ha)
            have hE := G.e
            have hma : (rs.map (wgt e lo hi))[k]? = some (a - hi - e, a - lo + e) := by rw [List.getElem?_map, ha]; rfl
            conv => whnf
            rw [hkb]
            conv => whnf
            rw [encI_get1 ha]
            conv => whnf
            rw [wrap_i64 (n := a - hi) (by omega) (by omega), wrap_i64 (n := a - hi - e) (by omega) (by omega), wrap_i64 (n := a - lo) (by omega) (by omega), wrap_i64 (n := a - lo + e) (by omega) (by omega)]
            refine Rets.use (has_idx ha r15) ?_
            conv => whnf
            refine Rets.use (has_idx ha r15) ?_
            conv => whnf
            rw [hkb]
            conv => whnf
            rw [show Nat.ble (k * 2 + 2) (encP (rs.map (wgt e lo hi))).length = true from Nat.ble_eq_true_of_le (by rw [encP_length, List.length_map]; omega)]
            conv => whnf
            rw [encP_at hma]
            conv => whnf
            rw [show notB (andB (eqI (a - hi - e, a - lo + e).fst (a - hi - e)) (andB (eqI (a - hi - e, a - lo + e).snd (a - lo + e)) true)) = false by simp only [eqI_self]; rfl]
            conv => whnf
            rw [show notB (eqB (passes e l hi a) (leI l (a - hi - e))) = false from eqB_self _]
            conv => whnf
            cases h5 : ltI (a - hi - e) l
            · conv => whnf
              have hps : passes e l hi a = true := by unfold passes leI; rw [h5]
              have hop : isOpen e l lo hi a = false := by unfold isOpen leI; rw [h5]; rfl
              rw [show notB (eqB (isOpen e l lo hi a) false) = false by rw [hop]; rfl]
              rw [ltI_eq] at h5
              have h5 := of_decide_eq_false h5
              cases b
              · conv => whnf
                rw [wrap_succ (by omega)]
                exact ih (k + 1) hlt (by omega)
              · obtain ⟨a1, a2, a3, a4⟩ := hag' rfl
                obtain ⟨w, hw⟩ : ∃ w, ws[k]? = some w := ⟨ws[k]'(by omega), by simp⟩
                have a5 := a4 k a w ha hw
                conv => whnf
                rw [show Nat.blt k ws.length = true by rw [a1]; exact hkb]
                conv => whnf
                rw [encI_get1 hw]
                conv => whnf
                refine Rets.use (inside_ok w (a - hi - e) (a - lo + e)) ?_
                rw [show inB w (a - hi - e) (a - lo + e) = true by rw [inB_eq]; exact decide_eq_true ⟨by omega, by omega⟩]
                conv => whnf
                rw [hps]
                conv => whnf
                rw [show Nat.blt k ws.length = true by rw [a1]; exact hkb]
                conv => whnf
                rw [encI_get1 hw]
                conv => whnf
                rw [show ltI w l = false by rw [ltI_eq]; exact decide_eq_false (by omega)]
                conv => whnf
                rw [wrap_succ (by omega)]
                exact ih (k + 1) hlt (by omega)
            · conv => whnf
              have hps : passes e l hi a = false := by unfold passes leI; rw [h5]
              have hop : isOpen e l lo hi a = leI l (a - lo + e) := by unfold isOpen; rw [show leI l (a - hi - e) = false by unfold leI; rw [h5]]; rfl
              rw [show notB (eqB (isOpen e l lo hi a) (leI l (a - lo + e))) = false by rw [hop]; exact eqB_self _]
              rw [ltI_eq] at h5
              have h5 := of_decide_eq_true h5
              cases b
              · conv => whnf
                rw [wrap_succ (by omega)]
                exact ih (k + 1) hlt (by omega)
              · obtain ⟨a1, a2, a3, a4⟩ := hag' rfl
                obtain ⟨w, hw⟩ : ∃ w, ws[k]? = some w := ⟨ws[k]'(by omega), by simp⟩
                have a5 := a4 k a w ha hw
                conv => whnf
                rw [show Nat.blt k ws.length = true by rw [a1]; exact hkb]
                conv => whnf
                rw [encI_get1 hw]
                conv => whnf
                refine Rets.use (inside_ok w (a - hi - e) (a - lo + e)) ?_
                rw [show inB w (a - hi - e) (a - lo + e) = true by rw [inB_eq]; exact decide_eq_true ⟨by omega, by omega⟩]
                conv => whnf
                rw [hps]
                conv => whnf
                rw [hop]
                cases h6 : leI l (a - lo + e)
                · rw [leI_eq] at h6
                  have h6 := of_decide_eq_false h6
                  conv => whnf
                  rw [show Nat.blt k ws.length = true by rw [a1]; exact hkb]
                  conv => whnf
                  rw [encI_get1 hw]
                  conv => whnf
                  rw [show leI l w = false by rw [leI_eq]; exact decide_eq_false (by omega)]
                  conv => whnf
                  rw [wrap_succ (by omega)]
                  exact ih (k + 1) hlt (by omega)
                · conv => whnf
                  rw [wrap_succ (by omega)]
                  exact ih (k + 1) hlt (by omega)
        · conv => whnf
          refine Rets.use (clone_ok (e := e) (l := l) (by omega) (by omega)) ?_
          unfold scD
          conv => whnf
          refine Sm.mono (clash_ok e l ts rs hc) ?_
          rw [clash_iff, ← hoL, ← hoH, h3]
          rintro v h ⟨rfl, i0, k0, rfl⟩
          conv => whnf
          rw [h3]
          cases b
          · conv => whnf
            refine Rets.use plays_ok ?_
            conv => whnf
            exact ⟨rfl, rfl⟩
          · obtain ⟨_, a2, a3, _⟩ := hag' rfl
            rw [ltI_eq] at h3; have := of_decide_eq_true h3; omega
      · have hlt : i < rs.length := by rw [ltI_eq] at h2; have := of_decide_eq_true h2; omega
        have hb : Nat.blt i rs.length = true := by simpa [Nat.blt_eq] using hlt
        obtain ⟨a, ha⟩ : ∃ a, rs[i]? = some a := ⟨rs[i], by simp [hlt]⟩
        have b1 := G.r a (List.mem_of_getElem? ha)
        have hE := G.e
        conv => whnf
        rw [hb]
        conv => whnf
        rw [encI_get1 ha]
        cases b
        · conv => whnf
          rw [wrap_succ (by omega)]
          exact ih (i + 1, false) ⟨by simp only; omega, fun h => by cases h⟩ (by simp only; omega)
        · obtain ⟨hlen, hlo, hhi, hal⟩ := hag rfl
          conv => whnf
          have hbw : Nat.blt i ws.length = true := by rw [hlen]; exact hb
          obtain ⟨w, hw⟩ : ∃ w, ws[i]? = some w := ⟨ws[i]'(by omega), by simp⟩
          have b2 := hws w (List.mem_of_getElem? hw)
          conv => whnf
          rw [hbw]
          conv => whnf
          rw [encI_get1 hw]
          conv => whnf
          rw [wrap_i64 (n := a - w) (by omega) (by omega), wrap_i64 (n := a - w - off) (by omega) (by omega), wrap_i64 (n := -e) (by omega) (by omega)]
          refine Rets.use (inside_ok (a - w - off) (-e) e) ?_
          conv => whnf
          rw [wrap_succ (by omega)]
          refine ih (i + 1, inB (a - w - off) (-e) e) ⟨by simp only; omega, fun h => ⟨hlen, hlo, hhi, fun j n' w' hj hn' hw' => ?_⟩⟩ (by simp only; omega)
          have hin := inB_true h
          by_cases hji : j = i
          · subst hji
            rw [ha] at hn'; rw [hw] at hw'; cases hn'; cases hw'
            omega
          · exact hal j n' w' (by simp only at hj; omega) hn' hw'
    · have hlt : i < ts.length := by rw [ltI_eq] at h1; have := of_decide_eq_true h1; omega
      have hb : Nat.blt i ts.length = true := by simpa [Nat.blt_eq] using hlt
      obtain ⟨a, ha⟩ : ∃ a, ts[i]? = some a := ⟨ts[i], by simp [hlt]⟩
      obtain ⟨b1, b2⟩ := G.t a (List.mem_of_getElem? ha)
      have hE := G.e
      conv => whnf
      rw [hb]
      conv => whnf
      rw [show Nat.ble (i * 2 + 2) (encP ts).length = true from Nat.ble_eq_true_of_le (by rw [encP_length]; omega)]
      conv => whnf
      rw [encP_at ha]
      conv => whnf
      have hstep := raw_at (e := e) ha lo hi
      cases b
      · conv => whnf
        rw [wrap_i64 (n := a.2 - a.1) (by omega) (by omega), wrap_i64 (n := a.2 - a.1 - e) (by omega) (by omega), wrap_i64 (n := a.2 - a.1 + e) (by omega) (by omega), wrap_succ (by omega)]
        exact ih (i + 1, maxI lo (a.2 - a.1 - e), minI hi (a.2 - a.1 + e), false) ⟨by simp only; omega, by simp only; rw [← hstep]; exact hid, fun h => by cases h⟩ (by simp only; omega)
      · obtain ⟨hlen, hlo, hhi⟩ := hag rfl
        conv => whnf
        rw [wrap_i64 (n := a.2 - a.1) (by omega) (by omega), wrap_i64 (n := a.2 - a.1 - e) (by omega) (by omega), wrap_i64 (n := a.2 - a.1 + e) (by omega) (by omega), wrap_i64 (n := a.2 - a.1 - off) (by omega) (by omega), wrap_i64 (n := -e) (by omega) (by omega)]
        refine Rets.use (inside_ok (a.2 - a.1 - off) (-e) e) ?_
        conv => whnf
        rw [wrap_succ (by omega)]
        refine ih (i + 1, maxI lo (a.2 - a.1 - e), minI hi (a.2 - a.1 + e), inB (a.2 - a.1 - off) (-e) e) ⟨by simp only; omega, by simp only; rw [← hstep]; exact hid, fun h => ?_⟩ (by simp only; omega)
        have := inB_true h
        simp only [maxI_eq, minI_eq]
        exact ⟨hlen, by omega, by omega⟩
end
end Go.Proofs.Px
