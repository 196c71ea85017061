/-
  TopDecidedEarly itself: it returns true.
-/
import Derived.Test.YtedodndgpjonkaaGreatDoorCxU
import Derived.Test.YtedodndgpjonkaaGreatDoorCxF
namespace Go.Proofs.Cx
open Go Go.Ab Go.Proofs.Cw
set_option maxRecDepth 100000
set_option maxHeartbeats 100000000
theorem fork_loops {G : Prop} {α : Type} {m : Nat} {sl : Option (List Nat)} {body : S → (Ex → S → Prop) → Prop} {Q : Ex → S → Prop} (st : α → S) (I : α → Prop) (μ : α → Nat)
    (step : ∀ (n : Nat) (x : α), I x → (∀ y, I y → μ y < μ x → Ab.hd m sl body n (st y) Q) → Ab.hd m sl body (n + 1) (st x) Q)
    (leaf : (∀ x, I x → Loops fun n => Ab.hd m sl body n (st x) Q) → G) : G := leaf fun x hx => loops_by st I μ x hx step
section
variable {n rc : Nat} {bb : Int} {P : List Int} {R : List (List Int)}
theorem mem_numL {l : List Nat} {s : Nat} : (s : Int) ∈ numL l ↔ s ∈ l := by
  unfold numL
  rw [List.mem_map]
  constructor
  · rintro ⟨t, ht, h⟩
    have : t = s := by simp only [Int.ofNat_eq_natCast] at h; omega
    rw [← this]; exact ht
  · exact fun h => ⟨s, h, rfl⟩
theorem in_can {s : Nat} (hs : s < n) : decide ((s : Int) ∈ numL (canL P bb.toNat n rc R)) = isCan P bb.toNat n rc R s := by
  cases h : isCan P bb.toNat n rc R s
  · refine decide_eq_false fun hm => ?_
    have := (List.mem_filter.1 (mem_numL.1 hm)).2
    rw [h] at this; cases this
  · exact decide_eq_true (mem_numL.2 (List.mem_filter.2 ⟨List.mem_range.2 hs, h⟩))
theorem in_sure {s : Nat} (hs : s < n) : decide ((s : Int) ∈ numL (sureL P bb.toNat n rc R)) = isSure P bb.toNat n rc R s := by
  cases h : isSure P bb.toNat n rc R s
  · refine decide_eq_false fun hm => ?_
    have := (List.mem_filter.1 (mem_numL.1 hm)).2
    rw [h] at this; cases this
  · exact decide_eq_true (mem_numL.2 (List.mem_filter.2 ⟨List.mem_range.2 hs, h⟩))
theorem pln_won {t k : Nat} (ht : t < n) : Pln (won n t k) := by
  intro r hr p hp h0
  obtain rfl := List.eq_of_mem_replicate hr
  have : p = 1 := by
    rcases List.mem_or_eq_of_mem_set hp with h1 | h1
    · have := List.eq_of_mem_replicate h1; omega
    · exact h1
  subst this
  rw [shr_wrow ht]
  exact Nat.le_refl 1
theorem sho_won (C : Cu n rc bb P R) {s t : Nat} (ht : t < n) {is : Bool} {e : Int} (h : ShP n rc bb P R (won n t (rc - R.length)) s is e) : e = 0 ∧ (is = true ↔ Fst P bb.toNat n (R ++ won n t (rc - R.length)) s) := by
  have O := C.ok
  have k5 := O.done
  have O2 := O.won (s := t) (k := rc - R.length) (by omega) (by omega)
  rw [Int.toNat_natCast] at O2
  have he := h.2 O2 (by rw [won_len]; omega) (pln_won ht)
  have h3 := (h.1 he).2.2
  rw [Int.toNat_natCast] at h3
  exact ⟨he, h3⟩
theorem sho_can (C : Cu n rc bb P R) {s : Nat} (hs : s < n) (hc : isCan P bb.toNat n rc R s = true) {is : Bool} {e : Int} (h : ShP n rc bb P R (won n s (rc - R.length)) s is e) : e = 0 ∧ is = true := by
  obtain ⟨h1, h2⟩ := sho_won C hs h
  exact ⟨h1, h2.2 (can_iff.1 hc)⟩
theorem sho_ag (C : Cu n rc bb P R) {s t : Nat} (ht : t < n) (ha : isAg P bb.toNat n rc R s t = true) {is : Bool} {e : Int} (h : ShP n rc bb P R (won n t (rc - R.length)) s is e) : e = 0 ∧ is = false := by
  obtain ⟨h1, h2⟩ := sho_won C ht h
  refine ⟨h1, ?_⟩
  cases is
  · rfl
  · exact absurd (h2.1 rfl) (ag_iff.1 ha).2
theorem sho_any (C : Cu n rc bb P R) {F : List (List Int)} {s : Nat} (hs : s < n) {is : Bool} {e : Int} (h : ShP n rc bb P R F s is e) (he : e = 0) : (is = true → isCan P bb.toNat n rc R s = true) ∧ (is = false → isSure P bb.toNat n rc R s = false) := by
  obtain ⟨O2, hl, hi⟩ := h.1 he
  rw [Int.toNat_natCast] at hi
  have V := C.ok.vp
  have k5 := C.ok.done
  have hF : Cw.VR n F := fun r hr => ⟨by have := O2.rows r (by simp [hr]); omega, O2.plr r (by simp [hr])⟩
  refine ⟨fun h1 => can_iff.2 (fst_can V hF (by omega) hs (hi.1 h1)), fun h1 => ?_⟩
  cases h2 : isSure P bb.toNat n rc R s
  · rfl
  · have := hi.2 (sure_fst V hF (by omega) hs (sure_iff.1 h2))
    rw [h1] at this; cases this
theorem not_sure {s : Nat} : (∃ t, t < n ∧ isAg P bb.toNat n rc R s t = true) → isSure P bb.toNat n rc R s = false := by
  rintro ⟨t, ht, h1⟩
  unfold isSure
  rw [List.any_eq_true.2 ⟨t, List.mem_range.2 ht, h1⟩]; rfl
theorem is_sure {s : Nat} : (∀ t, t < n → isAg P bb.toNat n rc R s t = false) → isSure P bb.toNat n rc R s = true := by
  intro h1
  unfold isSure
  rw [List.any_eq_false.2 fun t ht => by rw [h1 t (List.mem_range.1 ht)]; simp]; rfl
end
theorem top_ok (nn rr bb : Int) (P : List Int) (R F : List (List Int)) (hb : ∀ r ∈ R, r.length * 8 ≤ 140737488355328) :
    Rets Tryz.prog E 3 [.d (cupD nn rr bb P R), .d (.slice F.length 1 (encLL F))] (.d (.bool true)) := by
  refine sm_of HE true (by kernel_rfl) ?_
  unfold cupD cupL
  conv => whnf
  cases g1 : ltI 7 nn
  case true =>
    conv => whnf
    refine Rets.use plays_ok ?_
    conv => whnf
    exact ⟨rfl, rfl⟩
  conv => whnf
  cases g2 : ltI 8 rr
  case true =>
    conv => whnf
    refine Rets.use plays_ok ?_
    conv => whnf
    exact ⟨rfl, rfl⟩
  conv => whnf
  cases g3 : ltI 65 (P.length : Int)
  case true =>
    conv => whnf
    refine Rets.use plays_ok ?_
    conv => whnf
    exact ⟨rfl, rfl⟩
  conv => whnf
  cases g4 : ltI 10 (R.length : Int)
  case true =>
    conv => whnf
    refine Rets.use plays_ok ?_
    conv => whnf
    exact ⟨rfl, rfl⟩
  conv => whnf
  cases g5 : ltI 10 (F.length : Int)
  case true =>
    conv => whnf
    refine Rets.use plays_ok ?_
    conv => whnf
    exact ⟨rfl, rfl⟩
  conv => whnf
  have d1 := ltI_f g1
  have d2 := ltI_f g2
  have d3 := ltI_f g3
  have d4 := ltI_f g4
  have d5 := ltI_f g5
  clear g1 g2 g3 g4 g5
  refine Sm.mono (cloneAllH R (by omega) hb) ?_
  rintro v h hv
  apply fork_loops (fun x : Option (Nat × Nat × Nat × List (List Int)) => match x with
    | none => ⟨257, [(1, .d (.slice F.length 1 (encLL F))), (2, .ptr 0 0 0 5), (4, .d (.bool false)), (60, .d .nil), (61, .d (.int .i64 0)), (62, .d (.int .i64 0))], .unk, [.row (.ds (cupL nn rr bb P R)) 0 0 []], []⟩
    | some (ep, N, i, RF) => ⟨257, [(1, .d (.slice F.length 1 (encLL F))), (2, .ptr 0 0 0 5), (4, .d (.bool false)), (60, .slice 1 ep 0 N 1), (61, .d (.int .i64 N)), (62, .d (.int .i64 i))], .unk, [.row (.ds (cupL nn rr bb P R)) 0 0 [], .row (.ds (encLL RF)) ep 0 []], []⟩)
    (fun x => match x with | none => R ++ F = [] | some (_, N, i, RF) => RF = R ++ F ∧ N = RF.length ∧ i ≤ RF.length ∧ ∀ (j : Nat) r, j < i → RF[j]? = some r → r.length ≤ 12)
    (fun x => match x with | none => 0 | some (_, N, i, _) => N - i)
  case leaf =>
    intro key
    rcases hv with ⟨hR0, hv, hh⟩ | ⟨k, hk, hv, hh⟩
    · cases F with
      | nil =>
        subst hv hh
        conv => whnf
        exact key none (by rw [hR0]; rfl)
      | cons g F =>
        have hgl : (g :: F).length = F.length + 1 := rfl
        subst hv hh
        conv => whnf
        rw [ble_t (i := (g :: F).length * 24) (n := 140737488355328) (by omega)]
        conv => whnf
        rw [ofV_map]
        exact key (some (0, (g :: F).length, 0, g :: F)) ⟨by rw [hR0]; rfl, rfl, Nat.zero_le _, fun j r h => absurd h (by omega)⟩
    · cases F with
      | nil =>
        subst hv hh
        conv => whnf
        rw [ble_t (i := (k + 1 + ([] : List (List Int)).length) * 24) (n := 140737488355328) (by simp only [List.length_nil]; omega)]
        conv => whnf
        rw [may_all]
        conv => whnf
        exact key (some (k, k + 1, 0, R)) ⟨(List.append_nil R).symm, hk.symm, Nat.zero_le _, fun j r h => absurd h (by omega)⟩
      | cons g F =>
        have hgl : (g :: F).length = F.length + 1 := rfl
        subst hv hh
        conv => whnf
        rw [ble_t (i := (k + 1 + (g :: F).length) * 24) (n := 140737488355328) (by omega)]
        conv => whnf
        rw [may_all]
        have hel : (encLL R).length = (k + 1) * 1 := by rw [encLL_length, hk]; omega
        conv => whnf
        rw [show Nat.beq ((k + 1) * 1) (Cells.ds (encLL R)).len = true from by simp only [Cells.len, hel]; exact Nat.beq_refl _]
        rw [append_ds hel, ← encLL_append]
        exact key (some (k + 1, k + 1 + (g :: F).length, 0, R ++ g :: F)) ⟨rfl, by rw [List.length_append, hk], Nat.zero_le _, fun j r h => absurd h (by omega)⟩
  rintro f x hx ih
  cases x with
  | none =>
    simp only at hx
    have hrows : ∀ r ∈ R ++ F, r.length ≤ 12 := fun r hr => by rw [hx] at hr; cases hr
    clear ih
    conv => whnf
    refine Sm.mono (refCheck nn rr bb P R) ?_
    rintro v h ⟨⟨e, rfl, he⟩, rfl⟩
    conv => whnf
    cases g6 : eqI e 0
    case false =>
      conv => whnf
      refine Rets.use plays_ok ?_
      conv => whnf
      exact ⟨rfl, rfl⟩
    obtain rfl := eqI_t g6
    have O := he.1 rfl
    clear he
    obtain ⟨n, rfl⟩ : ∃ n : Nat, nn = n := ⟨nn.toNat, by have := O.sk; omega⟩
    obtain ⟨rc, rfl⟩ : ∃ rc : Nat, rr = rc := ⟨rr.toNat, by have := O.rc; omega⟩
    have C : Cu n rc bb P R := ⟨O, by omega⟩
    have hcl := clone8 C
    have hcan := Can7 C
    have hsure := Sure9 C
    obtain ⟨Lc, hLc⟩ : ∃ L, L = numL (canL P bb.toNat n rc R) := ⟨_, rfl⟩
    obtain ⟨Ls, hLs⟩ : ∃ L, L = numL (sureL P bb.toNat n rc R) := ⟨_, rfl⟩
    rw [← hLc] at hcan
    rw [← hLs] at hsure
    conv => whnf
    refine Rets.use hcl ?_
    unfold cupD cupL
    conv => whnf
    refine Rets.use hcan ?_
    conv => whnf
    refine Rets.use hcl ?_
    unfold cupD cupL
    conv => whnf
    refine Rets.use hsure ?_
    conv => whnf
    have hn12 : n ≤ 12 := by have := O.sk; omega
    have hn1 : 1 ≤ n := by have := O.sk; omega
    have hlcl : Lc.length < 1000 := by
      rw [hLc]
      unfold numL canL
      rw [List.length_map]
      exact Nat.lt_of_le_of_lt (List.length_filter_le ..) (by simp; omega)
    have hlsl : Ls.length < 1000 := by
      rw [hLs]
      unfold numL sureL
      rw [List.length_map]
      exact Nat.lt_of_le_of_lt (List.length_filter_le ..) (by simp; omega)
    have hne : Lc.length ≠ 0 := fun h => by
      have h1 := List.eq_nil_of_length_eq_zero h
      rw [hLc] at h1
      unfold numL at h1
      exact can_ne O.vp (b := bb.toNat) (n := n) (rc := rc) (D := R) hn1 (List.map_eq_nil_iff.1 h1)
    rw [eqI_ff (a := (Lc.length : Int)) (b := 0) (by omega)]
    conv => whnf
    refine loops_by (fun i : Nat => ⟨257, [(1, .d (.slice F.length 1 (encLL F))), (2, .ptr 0 0 0 5), (4, .d (.bool false)), (7, .ptr 1 0 0 5), (8, .d (.slice Lc.length 1 (encI Lc))), (10, .d (.slice Ls.length 1 (encI Ls))), (100, .d (.int .i64 n)), (101, .d (.int .i64 i))], .unk, [.row (.ds (cupL n rc bb P R)) 0 0 [], .row (.ds (cupL n rc bb P R)) 0 0 []], []⟩)
      (fun i => i ≤ n) (fun i => n - i) 0 (Nat.zero_le _) ?_
    intro f2 i hi ih
    conv => whnf
    cases h2 : ltI (i : Int) (n : Int)
    case true =>
      have hlt := ltI_t h2
      have hin : i < n := by omega
      have kc := contains_ok Lc i (by omega)
      have ks := contains_ok Ls i (by omega)
      rw [hLc, in_can hin, ← hLc] at kc
      rw [hLs, in_sure hin, ← hLs] at ks
      have hwl : ∀ t, (won n t (rc - R.length)).length ≤ 1000 := fun t => by rw [won_len]; omega
      have hwr : ∀ t, ∀ r ∈ won n t (rc - R.length), r.length ≤ 1000 := fun t r hr => by rw [won_row hr]; omega
      have shF := refShows O F (by omega) (fun r hr => by have := hrows r (by simp [hr]); omega) (s := i) (by omega)
      conv => whnf
      refine Rets.use hcl ?_
      unfold cupD cupL
      conv => whnf
      refine Sm.mono (Show10 C hin) ?_
      rintro v h ⟨⟨c1, rfl⟩ | ⟨c1, rfl⟩, rfl⟩
      · conv => whnf
        refine Rets.use hcl ?_
        unfold cupD cupL
        conv => whnf
        refine Sm.mono (Against11 C hin) ?_
        rintro v h ⟨⟨t, ht, a1, rfl⟩ | ⟨a1, rfl⟩, rfl⟩
        · have c2 : isSure P bb.toNat n rc R i = false := not_sure ⟨t, ht, a1⟩
          conv => whnf
          refine Rets.use kc ?_
          rw [c1]
          conv => whnf
          refine Rets.use ks ?_
          rw [c2]
          conv => whnf
          refine Sm.mono (refShows O (won n i (rc - R.length)) (hwl i) (hwr i) (s := i) (by omega)) ?_
          rintro v h ⟨⟨is1, e1, rfl, s1⟩, rfl⟩
          obtain ⟨rfl, rfl⟩ := sho_can C hin c1 s1
          conv => whnf
          refine Sm.mono (refShows O (won n t (rc - R.length)) (hwl t) (hwr t) (s := i) (by omega)) ?_
          rintro v h ⟨⟨is2, e2, rfl, s2⟩, rfl⟩
          obtain ⟨rfl, rfl⟩ := sho_ag C ht a1 s2
          conv => whnf
          refine Sm.mono shF ?_
          rintro v h ⟨⟨is3, e3, rfl, s3⟩, rfl⟩
          conv => whnf
          cases q3 : eqI e3 0
          case false =>
            conv => whnf
            rw [wrap_succ (by omega)]
            exact ih (i + 1) (by omega) (by omega)
          have any := sho_any C hin s3 (eqI_t q3)
          cases is3
          · conv => whnf
            refine Rets.use ks ?_
            rw [c2]
            conv => whnf
            rw [wrap_succ (by omega)]
            exact ih (i + 1) (by omega) (by omega)
          · conv => whnf
            refine Rets.use kc ?_
            rw [c1]
            conv => whnf
            rw [wrap_succ (by omega)]
            exact ih (i + 1) (by omega) (by omega)
        · have c2 : isSure P bb.toNat n rc R i = true := is_sure a1
          conv => whnf
          refine Rets.use kc ?_
          rw [c1]
          conv => whnf
          refine Rets.use ks ?_
          rw [c2]
          conv => whnf
          refine Sm.mono (refShows O (won n i (rc - R.length)) (hwl i) (hwr i) (s := i) (by omega)) ?_
          rintro v h ⟨⟨is1, e1, rfl, s1⟩, rfl⟩
          obtain ⟨rfl, rfl⟩ := sho_can C hin c1 s1
          conv => whnf
          refine Sm.mono shF ?_
          rintro v h ⟨⟨is3, e3, rfl, s3⟩, rfl⟩
          conv => whnf
          cases q3 : eqI e3 0
          case false =>
            conv => whnf
            rw [wrap_succ (by omega)]
            exact ih (i + 1) (by omega) (by omega)
          have any := sho_any C hin s3 (eqI_t q3)
          cases is3
          · conv => whnf
            refine Rets.use ks ?_
            exact absurd (c2.symm.trans (any.2 rfl)) (by decide)
          · conv => whnf
            refine Rets.use kc ?_
            rw [c1]
            conv => whnf
            rw [wrap_succ (by omega)]
            exact ih (i + 1) (by omega) (by omega)
      · conv => whnf
        refine Rets.use hcl ?_
        unfold cupD cupL
        conv => whnf
        refine Sm.mono (Against11 C hin) ?_
        rintro v h ⟨⟨t, ht, a1, rfl⟩ | ⟨a1, rfl⟩, rfl⟩
        · have c2 : isSure P bb.toNat n rc R i = false := not_sure ⟨t, ht, a1⟩
          conv => whnf
          refine Rets.use kc ?_
          rw [c1]
          conv => whnf
          refine Rets.use ks ?_
          rw [c2]
          conv => whnf
          refine Sm.mono (refShows O (won n t (rc - R.length)) (hwl t) (hwr t) (s := i) (by omega)) ?_
          rintro v h ⟨⟨is2, e2, rfl, s2⟩, rfl⟩
          obtain ⟨rfl, rfl⟩ := sho_ag C ht a1 s2
          conv => whnf
          refine Sm.mono shF ?_
          rintro v h ⟨⟨is3, e3, rfl, s3⟩, rfl⟩
          conv => whnf
          cases q3 : eqI e3 0
          case false =>
            conv => whnf
            rw [wrap_succ (by omega)]
            exact ih (i + 1) (by omega) (by omega)
          have any := sho_any C hin s3 (eqI_t q3)
          cases is3
          · conv => whnf
            refine Rets.use ks ?_
            rw [c2]
            conv => whnf
            rw [wrap_succ (by omega)]
            exact ih (i + 1) (by omega) (by omega)
          · exact absurd (c1.symm.trans (any.1 rfl)) (by decide)
        · have c2 : isSure P bb.toNat n rc R i = true := is_sure a1
          conv => whnf
          refine Rets.use kc ?_
          rw [c1]
          conv => whnf
          refine Rets.use ks ?_
          rw [c2]
          conv => whnf
          refine Sm.mono shF ?_
          rintro v h ⟨⟨is3, e3, rfl, s3⟩, rfl⟩
          conv => whnf
          cases q3 : eqI e3 0
          case false =>
            conv => whnf
            rw [wrap_succ (by omega)]
            exact ih (i + 1) (by omega) (by omega)
          have any := sho_any C hin s3 (eqI_t q3)
          cases is3
          · conv => whnf
            refine Rets.use ks ?_
            exact absurd (c2.symm.trans (any.2 rfl)) (by decide)
          · exact absurd (c1.symm.trans (any.1 rfl)) (by decide)
    have := ltI_f h2
    have hd : ∀ m, m ≤ R.length → Sm Tryz.prog E 14 [.d (cupD n rc bb P (R.take m))] [] (DecP n rc bb P (R.take m)) := fun m _ => Decided14 (C.take m)
    conv => whnf
    refine Rets.use hcl ?_
    unfold cupD cupL
    conv => whnf
    refine Sm.mono (Decided14 C) ?_
    rintro v h ⟨⟨m, s, l, hm, hdm, hsm, hbef, rfl⟩ | ⟨hnone, rfl⟩, rfl⟩
    case inr =>
      have hd0 := hnone R.length (Nat.le_refl _)
      rw [List.take_length] at hd0
      unfold decB at hd0
      have hl1 : Ls.length = (sureL P bb.toNat n rc R).length := by rw [hLs]; simp [numL]
      have hl2 : Lc.length = (canL P bb.toNat n rc R).length := by rw [hLc]; simp [numL]
      conv => whnf
      cases q1 : eqI (Ls.length : Int) 1
      · conv => whnf
        refine Rets.use plays_ok ?_
        conv => whnf
        exact ⟨rfl, rfl⟩
      have q1 := eqI_t q1
      cases q2 : eqI (Lc.length : Int) 1
      · conv => whnf
        rw [q2]
        conv => whnf
        refine Rets.use plays_ok ?_
        conv => whnf
        exact ⟨rfl, rfl⟩
      have q2 := eqI_t q2
      rw [decide_eq_true (by omega), decide_eq_true (by omega)] at hd0
      cases hd0
    obtain ⟨f1, f2⟩ := dec_end (b := bb.toNat) (rc := rc) (D := R) O.vp (by have := O.vr; rw [Int.toNat_natCast] at this; exact this) (by have := O.done; omega) hdm hsm
    have hLc1 : Lc = [(s : Int)] := by rw [hLc, f1]; rfl
    have hLs1 : Ls = [(s : Int)] := by rw [hLs, f2]; rfl
    have es := equal_ok Ls s (by omega)
    have ec := equal_ok Lc s (by omega)
    rw [decide_eq_true hLs1] at es
    rw [decide_eq_true hLc1] at ec
    conv => whnf
    rw [show ltI (m : Int) 0 = false from ltI_ff (by omega)]
    conv => whnf
    rw [show ltI (R.length : Int) (m : Int) = false from ltI_ff (by omega)]
    conv => whnf
    refine Sm.mono es ?_
    rintro v h ⟨rfl, rfl⟩
    conv => whnf
    refine Sm.mono ec ?_
    rintro v h ⟨rfl, rfl⟩
    conv => whnf
    refine loops_by (fun k : Nat => ⟨257, [(2, .ptr 0 0 0 5), (4, .d (.bool false)), (236, .d (.int .i64 m)), (237, .d (.int .i64 k))], .unk, [.row (.ds (cupL n rc bb P R)) 0 0 []], []⟩)
      (fun k => k ≤ m) (fun k => m - k) 0 (Nat.zero_le _) ?_
    intro f3 k hk ih3
    conv => whnf
    cases h3 : ltI (k : Int) (m : Int)
    · conv => whnf
      refine Rets.use plays_ok ?_
      conv => whnf
      exact ⟨rfl, rfl⟩
    have h3 := ltI_t h3
    have e1 : ((encLL R).take (k * 1)).drop (0 * 1) = encLL (R.take k) := by rw [Nat.zero_mul, List.drop_zero, Nat.mul_one, encLL_take]
    have htk : (R.take k).length = k := by simp; omega
    have hdk := hd k (by omega)
    unfold cupD cupL at hdk
    rw [htk] at hdk
    conv => whnf
    refine Rets.use hcl ?_
    unfold cupD cupL
    conv => whnf
    rw [ble_t (i := k) (n := R.length) (by omega)]
    conv => whnf
    rw [e1]
    conv => whnf
    refine Sm.mono hdk ?_
    rintro v h ⟨⟨m', s', l', hm', hd', _, _, rfl⟩ | ⟨_, rfl⟩, rfl⟩
    · rw [htk] at hm'
      rw [List.take_take, Nat.min_eq_left hm', hbef m' (by omega)] at hd'
      cases hd'
    conv => whnf
    rw [wrap_succ (by omega)]
    exact ih3 (k + 1) (by omega) (by omega)
  | some y =>
    obtain ⟨ep, N, i, RF⟩ := y
    simp only at hx
    obtain ⟨hRF, hN, hi, hA⟩ := hx
    have hl20 : RF.length ≤ 20 := by rw [hRF, List.length_append]; omega
    conv => whnf
    cases h1 : ltI (i : Int) (N : Int)
    case true =>
      have hlt := ltI_t h1
      have hbi := blt_t (i := i) (n := N) (by omega)
      obtain ⟨r, hr⟩ := at_some (l := RF) (i := i) (by omega)
      conv => whnf
      rw [hbi]
      conv => whnf
      rw [ble_t (i := 0 + i * 1 + 1) (Nat.le_refl _)]
      conv => whnf
      rw [may_fl (Nat.zero_le ep)]
      conv => whnf
      rw [encLL_get0 hr]
      conv => whnf
      cases h2 : ltI 12 (r.length : Int)
      case true =>
        conv => whnf
        refine Rets.use plays_ok ?_
        conv => whnf
        exact ⟨rfl, rfl⟩
      have h2 := ltI_f h2
      conv => whnf
      rw [wrap_succ (by omega)]
      exact ih (some (ep, N, i + 1, RF)) ⟨hRF, hN, by omega, fun j q hj hq => by
        by_cases hji : j = i
        · subst hji; rw [hr] at hq; cases hq; omega
        · exact hA j q (by omega) hq⟩ (by simp only; omega)
    have h1 := ltI_f h1
    have hrows : ∀ r ∈ R ++ F, r.length ≤ 12 := fun r hr => by
      rw [← hRF] at hr
      obtain ⟨j, hj⟩ := List.getElem?_of_mem hr
      exact hA j r (by have := lt_of_at hj; omega) hj
    clear ih hA
    conv => whnf
    refine Sm.mono (refCheck nn rr bb P R) ?_
    rintro v h ⟨⟨e, rfl, he⟩, rfl⟩
    conv => whnf
    cases g6 : eqI e 0
    case false =>
      conv => whnf
      refine Rets.use plays_ok ?_
      conv => whnf
      exact ⟨rfl, rfl⟩
    obtain rfl := eqI_t g6
    have O := he.1 rfl
    clear he
    obtain ⟨n, rfl⟩ : ∃ n : Nat, nn = n := ⟨nn.toNat, by have := O.sk; omega⟩
    obtain ⟨rc, rfl⟩ : ∃ rc : Nat, rr = rc := ⟨rr.toNat, by have := O.rc; omega⟩
    have C : Cu n rc bb P R := ⟨O, by omega⟩
    have hcl := clone8 C
    have hcan := Can7 C
    have hsure := Sure9 C
    obtain ⟨Lc, hLc⟩ : ∃ L, L = numL (canL P bb.toNat n rc R) := ⟨_, rfl⟩
    obtain ⟨Ls, hLs⟩ : ∃ L, L = numL (sureL P bb.toNat n rc R) := ⟨_, rfl⟩
    rw [← hLc] at hcan
    rw [← hLs] at hsure
    conv => whnf
    refine Rets.use hcl ?_
    unfold cupD cupL
    conv => whnf
    refine Rets.use hcan ?_
    conv => whnf
    refine Rets.use hcl ?_
    unfold cupD cupL
    conv => whnf
    refine Rets.use hsure ?_
    conv => whnf
    have hn12 : n ≤ 12 := by have := O.sk; omega
    have hn1 : 1 ≤ n := by have := O.sk; omega
    have hlcl : Lc.length < 1000 := by
      rw [hLc]
      unfold numL canL
      rw [List.length_map]
      exact Nat.lt_of_le_of_lt (List.length_filter_le ..) (by simp; omega)
    have hlsl : Ls.length < 1000 := by
      rw [hLs]
      unfold numL sureL
      rw [List.length_map]
      exact Nat.lt_of_le_of_lt (List.length_filter_le ..) (by simp; omega)
    have hne : Lc.length ≠ 0 := fun h => by
      have h1 := List.eq_nil_of_length_eq_zero h
      rw [hLc] at h1
      unfold numL at h1
      exact can_ne O.vp (b := bb.toNat) (n := n) (rc := rc) (D := R) hn1 (List.map_eq_nil_iff.1 h1)
    rw [eqI_ff (a := (Lc.length : Int)) (b := 0) (by omega)]
    conv => whnf
    refine loops_by (fun i : Nat => ⟨257, [(1, .d (.slice F.length 1 (encLL F))), (2, .ptr 0 0 0 5), (4, .d (.bool false)), (7, .ptr 1 0 0 5), (8, .d (.slice Lc.length 1 (encI Lc))), (10, .d (.slice Ls.length 1 (encI Ls))), (100, .d (.int .i64 n)), (101, .d (.int .i64 i))], .unk, [.row (.ds (cupL n rc bb P R)) 0 0 [], .row (.ds (cupL n rc bb P R)) 0 0 []], []⟩)
      (fun i => i ≤ n) (fun i => n - i) 0 (Nat.zero_le _) ?_
    intro f2 i hi ih
    conv => whnf
    cases h2 : ltI (i : Int) (n : Int)
    case true =>
      have hlt := ltI_t h2
      have hin : i < n := by omega
      have kc := contains_ok Lc i (by omega)
      have ks := contains_ok Ls i (by omega)
      rw [hLc, in_can hin, ← hLc] at kc
      rw [hLs, in_sure hin, ← hLs] at ks
      have hwl : ∀ t, (won n t (rc - R.length)).length ≤ 1000 := fun t => by rw [won_len]; omega
      have hwr : ∀ t, ∀ r ∈ won n t (rc - R.length), r.length ≤ 1000 := fun t r hr => by rw [won_row hr]; omega
      have shF := refShows O F (by omega) (fun r hr => by have := hrows r (by simp [hr]); omega) (s := i) (by omega)
      conv => whnf
      refine Rets.use hcl ?_
      unfold cupD cupL
      conv => whnf
      refine Sm.mono (Show10 C hin) ?_
      rintro v h ⟨⟨c1, rfl⟩ | ⟨c1, rfl⟩, rfl⟩
      · conv => whnf
        refine Rets.use hcl ?_
        unfold cupD cupL
        conv => whnf
        refine Sm.mono (Against11 C hin) ?_
        rintro v h ⟨⟨t, ht, a1, rfl⟩ | ⟨a1, rfl⟩, rfl⟩
        · have c2 : isSure P bb.toNat n rc R i = false := not_sure ⟨t, ht, a1⟩
          conv => whnf
          refine Rets.use kc ?_
          rw [c1]
          conv => whnf
          refine Rets.use ks ?_
          rw [c2]
          conv => whnf
          refine Sm.mono (refShows O (won n i (rc - R.length)) (hwl i) (hwr i) (s := i) (by omega)) ?_
          rintro v h ⟨⟨is1, e1, rfl, s1⟩, rfl⟩
          obtain ⟨rfl, rfl⟩ := sho_can C hin c1 s1
          conv => whnf
          refine Sm.mono (refShows O (won n t (rc - R.length)) (hwl t) (hwr t) (s := i) (by omega)) ?_
          rintro v h ⟨⟨is2, e2, rfl, s2⟩, rfl⟩
          obtain ⟨rfl, rfl⟩ := sho_ag C ht a1 s2
          conv => whnf
          refine Sm.mono shF ?_
          rintro v h ⟨⟨is3, e3, rfl, s3⟩, rfl⟩
          conv => whnf
          cases q3 : eqI e3 0
          case false =>
            conv => whnf
            rw [wrap_succ (by omega)]
            exact ih (i + 1) (by omega) (by omega)
          have any := sho_any C hin s3 (eqI_t q3)
          cases is3
          · conv => whnf
            refine Rets.use ks ?_
            rw [c2]
            conv => whnf
            rw [wrap_succ (by omega)]
            exact ih (i + 1) (by omega) (by omega)
          · conv => whnf
            refine Rets.use kc ?_
            rw [c1]
            conv => whnf
            rw [wrap_succ (by omega)]
            exact ih (i + 1) (by omega) (by omega)
        · have c2 : isSure P bb.toNat n rc R i = true := is_sure a1
          conv => whnf
          refine Rets.use kc ?_
          rw [c1]
          conv => whnf
          refine Rets.use ks ?_
          rw [c2]
          conv => whnf
          refine Sm.mono (refShows O (won n i (rc - R.length)) (hwl i) (hwr i) (s := i) (by omega)) ?_
          rintro v h ⟨⟨is1, e1, rfl, s1⟩, rfl⟩
          obtain ⟨rfl, rfl⟩ := sho_can C hin c1 s1
          conv => whnf
          refine Sm.mono shF ?_
          rintro v h ⟨⟨is3, e3, rfl, s3⟩, rfl⟩
          conv => whnf
          cases q3 : eqI e3 0
          case false =>
            conv => whnf
            rw [wrap_succ (by omega)]
            exact ih (i + 1) (by omega) (by omega)
          have any := sho_any C hin s3 (eqI_t q3)
          cases is3
          · conv => whnf
            refine Rets.use ks ?_
            exact absurd (c2.symm.trans (any.2 rfl)) (by decide)
          · conv => whnf
            refine Rets.use kc ?_
            rw [c1]
            conv => whnf
            rw [wrap_succ (by omega)]
            exact ih (i + 1) (by omega) (by omega)
      · conv => whnf
        refine Rets.use hcl ?_
        unfold cupD cupL
        conv => whnf
        refine Sm.mono (Against11 C hin) ?_
        rintro v h ⟨⟨t, ht, a1, rfl⟩ | ⟨a1, rfl⟩, rfl⟩
        · have c2 : isSure P bb.toNat n rc R i = false := not_sure ⟨t, ht, a1⟩
          conv => whnf
          refine Rets.use kc ?_
          rw [c1]
          conv => whnf
          refine Rets.use ks ?_
          rw [c2]
          conv => whnf
          refine Sm.mono (refShows O (won n t (rc - R.length)) (hwl t) (hwr t) (s := i) (by omega)) ?_
          rintro v h ⟨⟨is2, e2, rfl, s2⟩, rfl⟩
          obtain ⟨rfl, rfl⟩ := sho_ag C ht a1 s2
          conv => whnf
          refine Sm.mono shF ?_
          rintro v h ⟨⟨is3, e3, rfl, s3⟩, rfl⟩
          conv => whnf
          cases q3 : eqI e3 0
          case false =>
            conv => whnf
            rw [wrap_succ (by omega)]
            exact ih (i + 1) (by omega) (by omega)
          have any := sho_any C hin s3 (eqI_t q3)
          cases is3
          · conv => whnf
            refine Rets.use ks ?_
            rw [c2]
            conv => whnf
            rw [wrap_succ (by omega)]
            exact ih (i + 1) (by omega) (by omega)
          · exact absurd (c1.symm.trans (any.1 rfl)) (by decide)
        · have c2 : isSure P bb.toNat n rc R i = true := is_sure a1
          conv => whnf
          refine Rets.use kc ?_
          rw [c1]
          conv => whnf
          refine Rets.use ks ?_
          rw [c2]
          conv => whnf
          refine Sm.mono shF ?_
          rintro v h ⟨⟨is3, e3, rfl, s3⟩, rfl⟩
          conv => whnf
          cases q3 : eqI e3 0
          case false =>
            conv => whnf
            rw [wrap_succ (by omega)]
            exact ih (i + 1) (by omega) (by omega)
          have any := sho_any C hin s3 (eqI_t q3)
          cases is3
          · conv => whnf
            refine Rets.use ks ?_
            exact absurd (c2.symm.trans (any.2 rfl)) (by decide)
          · exact absurd (c1.symm.trans (any.1 rfl)) (by decide)
    have := ltI_f h2
    have hd : ∀ m, m ≤ R.length → Sm Tryz.prog E 14 [.d (cupD n rc bb P (R.take m))] [] (DecP n rc bb P (R.take m)) := fun m _ => Decided14 (C.take m)
    conv => whnf
    refine Rets.use hcl ?_
    unfold cupD cupL
    conv => whnf
    refine Sm.mono (Decided14 C) ?_
    rintro v h ⟨⟨m, s, l, hm, hdm, hsm, hbef, rfl⟩ | ⟨hnone, rfl⟩, rfl⟩
    case inr =>
      have hd0 := hnone R.length (Nat.le_refl _)
      rw [List.take_length] at hd0
      unfold decB at hd0
      have hl1 : Ls.length = (sureL P bb.toNat n rc R).length := by rw [hLs]; simp [numL]
      have hl2 : Lc.length = (canL P bb.toNat n rc R).length := by rw [hLc]; simp [numL]
      conv => whnf
      cases q1 : eqI (Ls.length : Int) 1
      · conv => whnf
        refine Rets.use plays_ok ?_
        conv => whnf
        exact ⟨rfl, rfl⟩
      have q1 := eqI_t q1
      cases q2 : eqI (Lc.length : Int) 1
      · conv => whnf
        rw [q2]
        conv => whnf
        refine Rets.use plays_ok ?_
        conv => whnf
        exact ⟨rfl, rfl⟩
      have q2 := eqI_t q2
      rw [decide_eq_true (by omega), decide_eq_true (by omega)] at hd0
      cases hd0
    obtain ⟨f1, f2⟩ := dec_end (b := bb.toNat) (rc := rc) (D := R) O.vp (by have := O.vr; rw [Int.toNat_natCast] at this; exact this) (by have := O.done; omega) hdm hsm
    have hLc1 : Lc = [(s : Int)] := by rw [hLc, f1]; rfl
    have hLs1 : Ls = [(s : Int)] := by rw [hLs, f2]; rfl
    have es := equal_ok Ls s (by omega)
    have ec := equal_ok Lc s (by omega)
    rw [decide_eq_true hLs1] at es
    rw [decide_eq_true hLc1] at ec
    conv => whnf
    rw [show ltI (m : Int) 0 = false from ltI_ff (by omega)]
    conv => whnf
    rw [show ltI (R.length : Int) (m : Int) = false from ltI_ff (by omega)]
    conv => whnf
    refine Sm.mono es ?_
    rintro v h ⟨rfl, rfl⟩
    conv => whnf
    refine Sm.mono ec ?_
    rintro v h ⟨rfl, rfl⟩
    conv => whnf
    refine loops_by (fun k : Nat => ⟨257, [(2, .ptr 0 0 0 5), (4, .d (.bool false)), (236, .d (.int .i64 m)), (237, .d (.int .i64 k))], .unk, [.row (.ds (cupL n rc bb P R)) 0 0 []], []⟩)
      (fun k => k ≤ m) (fun k => m - k) 0 (Nat.zero_le _) ?_
    intro f3 k hk ih3
    conv => whnf
    cases h3 : ltI (k : Int) (m : Int)
    · conv => whnf
      refine Rets.use plays_ok ?_
      conv => whnf
      exact ⟨rfl, rfl⟩
    have h3 := ltI_t h3
    have e1 : ((encLL R).take (k * 1)).drop (0 * 1) = encLL (R.take k) := by rw [Nat.zero_mul, List.drop_zero, Nat.mul_one, encLL_take]
    have htk : (R.take k).length = k := by simp; omega
    have hdk := hd k (by omega)
    unfold cupD cupL at hdk
    rw [htk] at hdk
    conv => whnf
    refine Rets.use hcl ?_
    unfold cupD cupL
    conv => whnf
    rw [ble_t (i := k) (n := R.length) (by omega)]
    conv => whnf
    rw [e1]
    conv => whnf
    refine Sm.mono hdk ?_
    rintro v h ⟨⟨m', s', l', hm', hd', _, _, rfl⟩ | ⟨_, rfl⟩, rfl⟩
    · rw [htk] at hm'
      rw [List.take_take, Nat.min_eq_left hm', hbef m' (by omega)] at hd'
      cases hd'
    conv => whnf
    rw [wrap_succ (by omega)]
    exact ih3 (k + 1) (by omega) (by omega)
end Go.Proofs.Cx
