/-
  TopRanked itself: it returns true.
-/
import Derived.Test.YtklidmlhlelngaaGreatDoorRxL
namespace Go.Proofs.Rx
open Go Go.Ab Go.Proofs.Rw
set_option maxRecDepth 100000
set_option maxHeartbeats 4000000
theorem top_ok (sk er a b : Int) (rs : List Run3) (st ch : List Int) (hl : rs.length * 24 ≤ 140737488355328) :
    Rets Tryz.prog E 3 [.d (laD sk er rs), .d (.slice st.length 1 (encI st)), .d (.slice ch.length 1 (encI ch)), .d (.int .i64 a), .d (.int .i64 b)] (.d (.bool true)) := by
  refine sm_of HE true (by kernel_rfl) ?_
  unfold laD labL
  conv => whnf
  refine Rets.use (lab_ok sk er rs hl) ?_
  unfold laD labL
  conv => whnf
  cases g1 : ltI 45 (rs.length : Int)
  case true =>
    conv => whnf
    refine Rets.use plays_ok ?_
    conv => whnf
    exact ⟨rfl, rfl⟩
  conv => whnf
  cases g2 : ltI 50 (ch.length : Int)
  case true =>
    conv => whnf
    refine Rets.use plays_ok ?_
    conv => whnf
    exact ⟨rfl, rfl⟩
  conv => whnf
  cases g3 : ltI 20 (st.length : Int)
  case true =>
    conv => whnf
    refine Rets.use plays_ok ?_
    conv => whnf
    exact ⟨rfl, rfl⟩
  conv => whnf
  have d45 : rs.length ≤ 45 := by rw [ltI_eq] at g1; have := of_decide_eq_false g1; omega
  have d50 : ch.length ≤ 50 := by rw [ltI_eq] at g2; have := of_decide_eq_false g2; omega
  have d20 : st.length ≤ 20 := by rw [ltI_eq] at g3; have := of_decide_eq_false g3; omega
  refine Rets.use (far_ok st (by omega)) ?_
  conv => whnf
  cases g4 : anyB farB st
  case true =>
    conv => whnf
    refine Rets.use plays_ok ?_
    conv => whnf
    exact ⟨rfl, rfl⟩
  conv => whnf
  refine Rets.use (refCheck_ok sk er rs (by omega)) ?_
  conv => whnf
  cases g5 : eqI (chk sk er rs) 0
  case false =>
    conv => whnf
    refine Rets.use plays_ok ?_
    conv => whnf
    exact ⟨rfl, rfl⟩
  have hc : chk sk er rs = 0 := eqI_true g5
  have G := chk_zero hc
  have hk := G.skis
  have hfar : ∀ i, -1000000 ≤ ga st i ∧ ga st i ≤ 1000000 := by
    intro i
    unfold ga
    rcases hi : st[i]? with _ | x
    · simp
    · have h := anyB_false g4 x (List.mem_of_getElem? hi)
      unfold farB at h
      have orf : ∀ {a b : Bool}, orB a b = false → a = false ∧ b = false := by intro a b; cases a <;> cases b <;> simp [orB]
      obtain ⟨h1, h2⟩ := orf h
      rw [ltI_eq] at h1 h2
      have h1 := of_decide_eq_false h1
      have h2 := of_decide_eq_false h2
      show -1000000 ≤ x ∧ x ≤ 1000000
      omega
  have hel := encR_length rs
  conv => whnf
  refine loops_by (fun x : Nat × Bool => ⟨254, [(1, .d (.slice st.length 1 (encI st))), (2, .d (.slice ch.length 1 (encI ch))), (3, .d (.int .i64 a)), (4, .d (.int .i64 b)), (5, .ptr 0 0 0 3), (10, .d (.bool false)), (11, .ptr 1 0 0 3), (12, .d (.bool x.2)), (62, .d (.slice rs.length 3 (encR rs))), (63, .d (.int .i64 rs.length)), (64, .d (.int .i64 x.1))], .unk, [.row (.ds (labL sk er rs)) 0 0 [], .row (.ds (labL sk er rs)) 0 0 []], []⟩)
    (fun x => x.1 ≤ rs.length ∧ (x.2 = true → (st.length : Int) = sk ∧ ∀ r ∈ rs.take x.1, -er ≤ r.ld - (ga st r.a.toNat - ga st r.b.toNat) ∧ r.ld - (ga st r.a.toNat - ga st r.b.toNat) ≤ er)) (fun x => rs.length - x.1) (0, eqI st.length sk) ⟨Nat.zero_le _, fun h => ⟨eqI_true h, by simp⟩⟩ ?_
  rintro f ⟨i, ag⟩ ⟨hi, hag⟩ ih
  simp only at hi hag
  unfold labL
  conv => whnf
  cases h1 : ltI (i : Int) (rs.length : Int)
  case true =>
    have hlt : i < rs.length := by rw [ltI_eq] at h1; have := of_decide_eq_true h1; omega
    have hb : Nat.blt i rs.length = true := by simpa [Nat.blt_eq] using hlt
    obtain ⟨r, hr⟩ : ∃ r, rs[i]? = some r := ⟨rs[i], by simp [hlt]⟩
    conv => whnf
    rw [hb]
    conv => whnf
    rw [show Nat.ble (i * 3 + 3) (encR rs).length = true from Nat.ble_eq_true_of_le (by omega)]
    conv => whnf
    rw [encR_at hr]
    conv => whnf
    cases ag
    case false =>
      conv => whnf
      rw [wrap_succ (by omega)]
      exact ih (i + 1, false) ⟨hlt, fun h => by cases h⟩ (by simp only; omega)
    obtain ⟨hs, hrs⟩ := hag rfl
    have hrr := G.r r (List.mem_of_getElem? hr)
    obtain ⟨ra, rb, ld⟩ := r
    simp only at hrr
    obtain ⟨na, rfl⟩ : ∃ n : Nat, ra = n := ⟨ra.toNat, by omega⟩
    obtain ⟨nb, rfl⟩ : ∃ n : Nat, rb = n := ⟨rb.toNat, by omega⟩
    have hna : Nat.blt na st.length = true := by rw [Nat.blt_eq]; omega
    have hnb : Nat.blt nb st.length = true := by rw [Nat.blt_eq]; omega
    have fa := hfar na
    have fb := hfar nb
    conv => whnf
    rw [hna]
    conv => whnf
    rw [encI_get1 (ga_at (st := st) (by omega))]
    conv => whnf
    rw [hnb]
    conv => whnf
    rw [encI_get1 (ga_at (st := st) (by omega))]
    conv => whnf
    rw [wrap_i64 (n := -er) (by have := G.err; omega) (by have := G.err; omega)]
    rw [wrap_i64 (n := ga st na - ga st nb) (by omega) (by omega)]
    rw [wrap_i64 (n := ld - (ga st na - ga st nb)) (by omega) (by omega)]
    have nxt : (-er ≤ ld - (ga st na - ga st nb) ∧ ld - (ga st na - ga st nb) ≤ er) → ∀ r ∈ rs.take (i + 1), -er ≤ r.ld - (ga st r.a.toNat - ga st r.b.toNat) ∧ r.ld - (ga st r.a.toNat - ga st r.b.toNat) ≤ er := by
      intro h q hq
      rw [List.take_add_one, hr] at hq
      rcases List.mem_append.1 hq with hq | hq
      · exact hrs q hq
      · simp at hq
        subst hq
        exact h
    cases h2 : leI (-er) (ld - (ga st na - ga st nb))
    case false =>
      conv => whnf
      rw [wrap_succ (by omega)]
      exact ih (i + 1, false) ⟨hlt, fun h => by cases h⟩ (by simp only; omega)
    conv => whnf
    cases h3 : leI (ld - (ga st na - ga st nb)) er
    case false =>
      conv => whnf
      rw [wrap_succ (by omega)]
      exact ih (i + 1, false) ⟨hlt, fun h => by cases h⟩ (by simp only; omega)
    conv => whnf
    rw [wrap_succ (by omega)]
    rw [leI_eq] at h2 h3
    exact ih (i + 1, true) ⟨hlt, fun _ => ⟨hs, nxt ⟨of_decide_eq_true h2, of_decide_eq_true h3⟩⟩⟩ (by simp only; omega)
  case false =>
    have hi2 : i = rs.length := by rw [ltI_eq] at h1; have := of_decide_eq_false h1; omega
    subst hi2
    clear ih
    generalize hgg : ((rs.length, ag) : Nat × Bool).2 = g
    obtain rfl : ag = g := hgg
    have hA : ag = true → Ag sk er rs st := fun h => ⟨(hag h).1, by have := (hag h).2; rwa [List.take_length] at this⟩
    clear hag
    have hcl := clone_ok sk er rs (by omega)
    unfold laD labL at hcl
    have hch := ChainShows_ok sk er a b rs ch hc d50
    have hR := Round_ok sk er rs hc rfl
    unfold laD labL at hch hR
    conv => whnf
    refine Rets.use hcl ?_
    conv => whnf
    rcases agE_cases (clo (prs er rs) o0) sk with ⟨k1, k2, k3⟩ | ⟨k1, k2, j, k3⟩
    case inr =>
      have hag : ag = false := by
        cases ag
        · rfl
        · have := ag_mono (hA rfl) j j k3
          omega
      subst hag
      rw [k2] at hR
      have hF := Faster_bad sk er rs hc rfl k1
      unfold laD labL at hF
      refine Rets.use hF ?_
      conv => whnf
      refine Rets.use hcl ?_
      conv => whnf
      refine Rets.use hR ?_
      conv => whnf
      refine Sm.mono hch ?_
      rintro v h ⟨rfl, x, e, rfl, _⟩
      conv => whnf
      cases h4 : eqI e 0
      case false =>
        conv => whnf
        refine Rets.use plays_ok ?_
        conv => whnf
        exact ⟨rfl, rfl⟩
      conv => whnf
      cases x
      case false =>
        conv => whnf
        refine Rets.use plays_ok ?_
        conv => whnf
        exact ⟨rfl, rfl⟩
      conv => whnf
      cases h5 : eqI a b
      case true =>
        conv => whnf
        rw [h5]
        conv => whnf
        refine Rets.use plays_ok ?_
        conv => whnf
        exact ⟨rfl, rfl⟩
      conv => whnf
      rw [h5]
      conv => whnf
      refine Rets.use plays_ok ?_
      conv => whnf
      exact ⟨rfl, rfl⟩
    case inl =>
      obtain ⟨L, hL⟩ : ∃ L, L = allP (clo (prs er rs) o0) sk.toNat sk.toNat := ⟨_, rfl⟩
      rw [k2] at hR
      have hF := Faster_ok sk er rs hc rfl k1 hL
      unfold laD labL at hF
      refine Rets.use hF ?_
      conv => whnf
      refine Rets.use hcl ?_
      conv => whnf
      refine Rets.use hR ?_
      conv => whnf
      obtain ⟨Pl, hPl⟩ : ∃ Pl, Pl = plc (clo (prs er rs) o0) sk.toNat sk.toNat := ⟨_, rfl⟩
      have hP := Places_ok sk er rs hc rfl k1 hPl
      unfold laD labL at hP
      have hsn : notB (eqI (sk.toNat : Int) sk) = false := by rw [eqI_eq, Int.toNat_of_nonneg (by omega)]; simp [notB]
      have hLl : L.length < 1000 := by
        have h1 := allP_length (clo (prs er rs) o0) sk.toNat sk.toNat
        have h2 : sk.toNat * sk.toNat ≤ 8 * 8 := Nat.mul_le_mul (by omega) (by omega)
        rw [hL]
        omega
      apply fork_loops (fun i : Nat => ⟨254, [(1, .d (.slice st.length 1 (encI st))), (5, .ptr 0 0 0 3), (10, .d (.bool false)), (12, .d (.bool ag)), (22, .d (.slice sk.toNat 2 (encP Pl))), (182, .d (.slice L.length 2 (encP L))), (183, .d (.int .i64 L.length)), (184, .d (.int .i64 i))], .unk,
        [.row (.ds (labL sk er rs)) 0 0 []], []⟩) (fun i => i ≤ L.length) (fun i => L.length - i)
      case leaf =>
        intro key
        cases ag
        case false =>
          conv => whnf
          refine Sm.mono hch ?_
          rintro v h ⟨rfl, x, e, rfl, hx⟩
          conv => whnf
          cases h4 : eqI e 0
          case false =>
            conv => whnf
            refine Rets.use hcl ?_
            conv => whnf
            refine Rets.use hP ?_
            conv => whnf
            rw [hsn]
            conv => whnf
            exact key 0 (Nat.zero_le _)
          conv => whnf
          cases x
          case false =>
            conv => whnf
            refine Rets.use hcl ?_
            conv => whnf
            refine Rets.use hP ?_
            conv => whnf
            rw [hsn]
            conv => whnf
            exact key 0 (Nat.zero_le _)
          obtain ⟨q1, q2, q3⟩ := shows_clo G (hx rfl (eqI_true h4))
          conv => whnf
          cases h5 : eqI a b
          case true =>
            have := eqI_true h5
            subst this
            rw [k3 a.toNat (by omega)] at q1
            cases q1
          conv => whnf
          rw [h5]
          conv => whnf
          have hct := contains_ok L a b hLl
          rw [hL] at hct
          rw [pairs_has q1 q2 q3, ← hL] at hct
          refine Rets.use hct ?_
          conv => whnf
          refine Rets.use hcl ?_
          conv => whnf
          refine Rets.use hP ?_
          conv => whnf
          rw [hsn]
          conv => whnf
          exact key 0 (Nat.zero_le _)
        case true =>
          conv => whnf
          refine Sm.mono hch ?_
          rintro v h ⟨rfl, x, e, rfl, hx⟩
          conv => whnf
          cases h4 : eqI e 0
          case false =>
            conv => whnf
            refine Rets.use hcl ?_
            conv => whnf
            refine Rets.use hP ?_
            conv => whnf
            rw [hsn]
            conv => whnf
            exact key 0 (Nat.zero_le _)
          conv => whnf
          cases x
          case false =>
            conv => whnf
            refine Rets.use hcl ?_
            conv => whnf
            refine Rets.use hP ?_
            conv => whnf
            rw [hsn]
            conv => whnf
            exact key 0 (Nat.zero_le _)
          obtain ⟨q1, q2, q3⟩ := shows_clo G (hx rfl (eqI_true h4))
          conv => whnf
          cases h5 : eqI a b
          case true =>
            have := eqI_true h5
            subst this
            rw [k3 a.toNat (by omega)] at q1
            cases q1
          conv => whnf
          rw [h5]
          conv => whnf
          have hct := contains_ok L a b hLl
          rw [hL] at hct
          rw [pairs_has q1 q2 q3, ← hL] at hct
          refine Rets.use hct ?_
          conv => whnf
          refine Rets.use hcl ?_
          conv => whnf
          refine Rets.use hP ?_
          conv => whnf
          rw [hsn]
          conv => whnf
          exact key 0 (Nat.zero_le _)
      case step =>
        rintro n i hi ih
        clear hch hR hF hP hcl
        conv => whnf
        cases h1 : ltI (i : Int) (L.length : Int)
        case true =>
          have hlt : i < L.length := by rw [ltI_eq] at h1; have := of_decide_eq_true h1; omega
          have hb : Nat.blt i L.length = true := by simpa [Nat.blt_eq] using hlt
          have help := encP_length L
          obtain ⟨p, hp⟩ : ∃ p, L[i]? = some p := ⟨L[i], by simp [hlt]⟩
          have hpm := List.mem_of_getElem? hp
          conv => whnf
          rw [hb]
          conv => whnf
          rw [show Nat.ble (i * 2 + 2) (encP L).length = true from Nat.ble_eq_true_of_le (by omega)]
          conv => whnf
          rw [encP_at hp]
          conv => whnf
          cases ag
          case false =>
            conv => whnf
            rw [wrap_succ (by omega)]
            exact ih (i + 1) hlt (by omega)
          rw [hL] at hpm
          obtain ⟨fa, sl, hfa, hsl, hfs, rfl⟩ := mem_allP.1 hpm
          have A := hA rfl
          have hlen := A.len
          have hmo := ag_mono A fa sl hfs
          have hna : Nat.blt fa st.length = true := by rw [Nat.blt_eq]; omega
          have hnb : Nat.blt sl st.length = true := by rw [Nat.blt_eq]; omega
          conv => whnf
          rw [hna]
          conv => whnf
          rw [encI_get1 (ga_at (st := st) (by omega))]
          conv => whnf
          rw [hnb]
          conv => whnf
          rw [encI_get1 (ga_at (st := st) (by omega))]
          conv => whnf
          rw [show leI (ga st fa) (ga st sl) = false by rw [leI_eq]; simp; omega]
          conv => whnf
          rw [wrap_succ (by omega)]
          exact ih (i + 1) hlt (by omega)
        case false =>
          have hi2 : i = L.length := by rw [ltI_eq] at h1; have := of_decide_eq_false h1; omega
          subst hi2
          clear ih h1
          conv => whnf
          refine loops_by (fun i : Nat => ⟨254, [(1, .d (.slice st.length 1 (encI st))), (10, .d (.bool false)), (12, .d (.bool ag)), (22, .d (.slice sk.toNat 2 (encP Pl))), (204, .d (.int .i64 sk)), (205, .d (.int .i64 i))], .unk, [], []⟩)
            (fun i => i ≤ sk.toNat) (fun i => sk.toNat - i) 0 (Nat.zero_le _) ?_
          rintro f2 s hs ih
          conv => whnf
          cases h1 : ltI (s : Int) sk
          case false =>
            conv => whnf
            refine Rets.use plays_ok ?_
            conv => whnf
            exact ⟨rfl, rfl⟩
          have hsk : s < sk.toNat := by rw [ltI_eq] at h1; have := of_decide_eq_true h1; omega
          conv => whnf
          cases ag
          case false =>
            conv => whnf
            refine Rets.use plays_ok ?_
            conv => whnf
            exact ⟨rfl, rfl⟩
          have A := hA rfl
          have hlen := A.len
          have hns : Nat.blt s st.length = true := by rw [Nat.blt_eq]; omega
          conv => whnf
          refine loops_by (fun i : Nat => ⟨254, [(1, .d (.slice st.length 1 (encI st))), (10, .d (.bool false)), (12, .d (.bool true)), (22, .d (.slice sk.toNat 2 (encP Pl))), (25, .d (.int .i64 s)), (26, .d (.int .i64 (ahd st s i))), (27, .d (.int .i64 (alk st s i))), (204, .d (.int .i64 sk)), (205, .d (.int .i64 s)), (210, .d (.slice st.length 1 (encI st))), (211, .d (.int .i64 st.length)), (212, .d (.int .i64 i))], .unk, [], []⟩)
            (fun i => i ≤ st.length) (fun i => st.length - i) 0 (Nat.zero_le _) ?_
          rintro f3 i hi2 ih2
          have b1 : ahd st s i ≤ i := cnt_lt' _ _
          have b2 : alk st s i ≤ i := cnt_lt' _ _
          conv => whnf
          cases h2 : ltI (i : Int) (st.length : Int)
          case true =>
            have hlt : i < st.length := by rw [ltI_eq] at h2; have := of_decide_eq_true h2; omega
            have hb : Nat.blt i st.length = true := by simpa [Nat.blt_eq] using hlt
            have nx := ih2 (i + 1) hlt (by omega)
            rw [ahd_succ, alk_succ] at nx
            conv => whnf
            rw [hb]
            conv => whnf
            rw [encI_get1 (ga_at hlt)]
            conv => whnf
            rw [hns]
            conv => whnf
            rw [encI_get1 (ga_at (st := st) (by omega))]
            conv => whnf
            cases h3 : ltI (ga st s) (ga st i)
            case true =>
              rw [ltI_eq] at h3
              have h3 := of_decide_eq_true h3
              rw [if_pos h3, if_neg (by omega)] at nx
              conv => whnf
              rw [wrap_succ (by omega), wrap_succ (by omega)]
              exact nx
            rw [ltI_eq] at h3
            have h3 := of_decide_eq_false h3
            rw [if_neg h3] at nx
            conv => whnf
            rw [hns]
            conv => whnf
            rw [encI_get1 (ga_at (st := st) (by omega))]
            conv => whnf
            cases h4 : eqI (ga st i) (ga st s)
            case true =>
              have h4 := eqI_true h4
              rw [if_pos h4] at nx
              conv => whnf
              rw [wrap_succ (by omega), wrap_succ (by omega)]
              exact nx
            rw [eqI_eq] at h4
            have h4 := of_decide_eq_false h4
            rw [if_neg h4] at nx
            conv => whnf
            rw [wrap_succ (by omega)]
            exact nx
          case false =>
            have hi3 : i = st.length := by rw [ltI_eq] at h2; have := of_decide_eq_false h2; omega
            subst hi3
            have hpl := place_law A s
            have hbs : Nat.blt s sk.toNat = true := by rw [Nat.blt_eq]; omega
            have hPs : Pl[s]? = some (plE (clo (prs er rs) o0) st.length s) := by
              rw [hPl, show sk.toNat = st.length by omega]
              unfold plc
              simp [show s < st.length by omega]
            have hell := encP_length Pl
            have hPll : Pl.length = sk.toNat := by rw [hPl]; exact plc_length _ _ _
            conv => whnf
            rw [hbs]
            conv => whnf
            rw [encP_get1 hPs]
            conv => whnf
            rw [wrap_i64 (n := 1 + (ahd st s st.length : Int)) (by omega) (by omega)]
            rw [show ltI (1 + (ahd st s st.length : Int)) (plE (clo (prs er rs) o0) st.length s).1 = false by rw [ltI_eq]; simp; omega]
            conv => whnf
            rw [hbs]
            conv => whnf
            rw [encP_get hPs]
            conv => whnf
            rw [wrap_i64 (n := (ahd st s st.length : Int) + (alk st s st.length : Int)) (by omega) (by omega)]
            rw [show ltI (plE (clo (prs er rs) o0) st.length s).2 ((ahd st s st.length : Int) + (alk st s st.length : Int)) = false by rw [ltI_eq]; simp; omega]
            conv => whnf
            rw [wrap_succ (by omega)]
            exact ih (s + 1) hsk (by omega)
end Go.Proofs.Rx
