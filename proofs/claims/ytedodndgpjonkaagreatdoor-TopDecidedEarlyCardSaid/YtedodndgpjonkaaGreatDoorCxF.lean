/-
  TopDecidedEarly: the reference's cups with more races; what races show.
-/
import Derived.Test.YtedodndgpjonkaaGreatDoorCxE
namespace Go.Proofs.Cx
open Go Go.Ab Go.Proofs.Cw
set_option maxRecDepth 100000
set_option maxHeartbeats 20000000
theorem append_ds {l m : List D} {k : Nat} (h : l.length = k) : (Cells.ds l).append k (m.map V.d) = .ds (l ++ m) := by
  unfold Cells.append
  rw [allD_map]
  simp only
  rw [List.take_of_length_le (by omega)]
theorem wk_cup (a b c d : D) : Wk (.agg [a, b, c, d, .nil]) (.agg [a, b, c, d, .slice 0 1 []]) := by
  rintro Z w v ⟨vs, rfl, ⟨v1, l1, e1, h1, v2, l2, e2, h2, v3, l3, e3, h3, v4, l4, e4, h4, v5, l5, e5, h5, h6⟩, ho⟩
  exact ⟨vs, rfl, ⟨v1, l1, e1, h1, v2, l2, e2, h2, v3, l3, e3, h3, v4, l4, e4, h4, v5, l5, e5, Wk.nil 1 Z w v5 h5, h6⟩, ho⟩
theorem with_ok (nn rr bb : Int) (P : List Int) (R F : List (List Int)) (hR : R.length ≤ 1000) (hF : F.length ≤ 1000) :
    Rets Tryz.prog E 44 [.d (cupD nn rr bb P R), .d (.slice F.length 1 (encLL F))] (.d (cupD nn rr bb P (R ++ F))) := by
  cases R with
  | nil =>
    cases F with
    | nil =>
      refine Rets.weaken ?_ (wk_cup _ _ _ _)
      refine sm_of HE true (by kernel_rfl) ?_
      unfold cupD cupL
      conv => whnf
      exact ⟨rfl, rfl⟩
    | cons g F =>
      simp only [List.length_cons] at hF
      refine sm_of HE true (by kernel_rfl) ?_
      unfold cupD cupL
      conv => whnf
      rw [ble_t (i := (g :: F).length * 24) (n := 140737488355328) (by simp; omega)]
      conv => whnf
      rw [ofV_map]
      conv => whnf
      have hel : (encLL (g :: F)).length = (g :: F).length * 1 := by rw [encLL_length]; simp
      rw [ble_t (i := 0 + (g :: F).length * 1) (by omega)]
      conv => whnf
      refine ⟨?_, rfl⟩
      rw [row_all hel]
      rfl
  | cons a R =>
    simp only [List.length_cons] at hR
    cases F with
    | nil =>
      refine sm_of HE true (by kernel_rfl) ?_
      unfold cupD cupL
      conv => whnf
      rw [ble_t (i := (a :: R).length * 24) (n := 140737488355328) (by simp; omega)]
      conv => whnf
      rw [ofV_map]
      conv => whnf
      rw [ble_t (i := ((a :: R).length + ([] : List (List Int)).length) * 24) (n := 140737488355328) (by simp; omega)]
      conv => whnf
      have hel : (encLL (a :: R)).length = (a :: R).length * 1 := by rw [encLL_length]; simp
      rw [ble_t (i := 0 + (a :: R).length * 1) (by omega)]
      conv => whnf
      refine ⟨?_, rfl⟩
      rw [row_all hel, List.append_nil]
    | cons g F =>
      simp only [List.length_cons] at hF
      refine sm_of HE true (by kernel_rfl) ?_
      unfold cupD cupL
      conv => whnf
      rw [ble_t (i := (a :: R).length * 24) (n := 140737488355328) (by simp; omega)]
      conv => whnf
      rw [ofV_map]
      conv => whnf
      rw [ble_t (i := ((a :: R).length + (g :: F).length) * 24) (n := 140737488355328) (by simp; omega)]
      conv => whnf
      have hel : (encLL (a :: R)).length = (a :: R).length * 1 := by rw [encLL_length]; simp
      rw [show Nat.beq ((a :: R).length * 1) (Cells.ds (encLL (a :: R))).len = true by simp only [Cells.len, hel]; exact Nat.beq_refl _]
      conv => whnf
      rw [append_ds hel, ← encLL_append]
      have hel2 : (encLL (a :: R ++ g :: F)).length = ((a :: R).length + (g :: F).length) * 1 := by rw [encLL_length, List.length_append]; omega
      have hl : (a :: R ++ g :: F).length = (a :: R).length + (g :: F).length := List.length_append
      rw [hl]
      conv => whnf
      rw [ble_t (i := 0 + ((a :: R).length + (g :: F).length) * 1) (by omega)]
      conv => whnf
      refine ⟨?_, rfl⟩
      rw [row_all hel2]
/-- No two share a place. -/
def Pln (F : List (List Int)) : Prop := ∀ r ∈ F, ∀ p ∈ r, 0 < p → shr r p ≤ 1
theorem refPlain (F : List (List Int)) (hF : F.length ≤ 1000) (hr : ∀ r ∈ F, r.length ≤ 1000) :
    Sm Tryz.prog E 31 [.d (.slice F.length 1 (encLL F))] [] (fun v h => (∃ b : Bool, v = .d (.bool b) ∧ (b = true ↔ Pln F)) ∧ h = []) := by
  refine sm_of HE true (by kernel_rfl) ?_
  conv => whnf
  refine loops_by (fun i : Nat => ⟨43, [(0, .d (.slice F.length 1 (encLL F))), (2, .d (.bool false)), (3, .d (.int .i64 i))], .unk, [], []⟩)
    (fun i => i ≤ F.length ∧ ∀ (j : Nat) r, j < i → F[j]? = some r → ∀ p ∈ r, 0 < p → shr r p ≤ 1) (fun i => F.length - i) 0 ⟨Nat.zero_le _, fun j r h => absurd h (by omega)⟩ ?_
  intro f i ⟨hi, hA⟩ ih
  conv => whnf
  cases h1 : ltI (i : Int) (F.length : Int)
  · have := ltI_f h1
    conv => whnf
    refine ⟨⟨true, rfl, ⟨fun _ r hr => ?_, fun _ => rfl⟩⟩, rfl⟩
    obtain ⟨j, hj⟩ := List.getElem?_of_mem hr
    exact hA j r (by have := lt_of_at hj; omega) hj
  have hlt := ltI_t h1
  have hb := blt_t (i := i) (n := F.length) (by omega)
  obtain ⟨r, hr'⟩ := at_some (l := F) (i := i) (by omega)
  have hrl := hr r (List.mem_of_getElem? hr')
  conv => whnf
  refine loops_by (fun k : Nat => ⟨43, [(0, .d (.slice F.length 1 (encLL F))), (2, .d (.bool false)), (3, .d (.int .i64 i)), (4, .d (.int .i64 k))], .unk, [], []⟩)
    (fun k => k ≤ r.length ∧ ∀ (t : Nat) p, t < k → r[t]? = some p → 0 < p → shr r p ≤ 1) (fun k => r.length - k) 0 ⟨Nat.zero_le _, fun j r h => absurd h (by omega)⟩ ?_
  intro f2 k ⟨hk, hB⟩ ih2
  conv => whnf
  rw [hb]
  conv => whnf
  rw [encLL_get1 hr']
  conv => whnf
  cases h2 : ltI (k : Int) (r.length : Int)
  · have := ltI_f h2
    conv => whnf
    rw [wrap_succ (by omega)]
    exact ih (i + 1) ⟨by omega, fun j q hj hq => by
      by_cases hji : j = i
      · subst hji; rw [hr'] at hq; cases hq
        intro p hp
        obtain ⟨t, ht⟩ := List.getElem?_of_mem hp
        exact hB t p (by have := lt_of_at ht; omega) ht
      · exact hA j q (by omega) hq⟩ (by omega)
  have hkl := ltI_t h2
  have hbk := blt_t (i := k) (n := r.length) (by omega)
  obtain ⟨p, hp⟩ := at_some (l := r) (i := k) (by omega)
  conv => whnf
  rw [hb]
  conv => whnf
  rw [encLL_get1 hr']
  conv => whnf
  rw [hbk]
  conv => whnf
  rw [encI_get1 hp]
  conv => whnf
  have step : (0 < p → shr r p ≤ 1) → ∀ (t : Nat) p, t < k + 1 → r[t]? = some p → 0 < p → shr r p ≤ 1 := fun h t q ht hq => by
    by_cases htk : t = k
    · subst htk; rw [hp] at hq; cases hq; exact h
    · exact hB t q (by omega) hq
  cases h3 : ltI 0 p
  · have h3 := ltI_f h3
    conv => whnf
    rw [wrap_succ (by omega)]
    exact ih2 (k + 1) ⟨by omega, step fun h => absurd h (by omega)⟩ (by omega)
  have h3 := ltI_t h3
  conv => whnf
  rw [hb]
  conv => whnf
  rw [encLL_get1 hr']
  conv => whnf
  rw [hb]
  conv => whnf
  rw [encLL_get1 hr']
  conv => whnf
  rw [hbk]
  conv => whnf
  rw [encI_get1 hp]
  conv => whnf
  refine Rets.use (sharing_ok r p (by omega)) ?_
  conv => whnf
  cases h4 : ltI 1 (shr r p : Int)
  · have h4 := ltI_f h4
    conv => whnf
    rw [wrap_succ (by omega)]
    exact ih2 (k + 1) ⟨by omega, step fun _ => by omega⟩ (by omega)
  · have h4 := ltI_t h4
    conv => whnf
    refine ⟨⟨false, rfl, ⟨fun h => (Bool.false_ne_true h).elim, fun h => ?_⟩⟩, rfl⟩
    exfalso
    have := h r (List.mem_of_getElem? hr') p (List.mem_of_getElem? hp) h3
    omega
/-! ### What is shown -/
def cup0 : D := .agg [.int .i64 0, .int .i64 0, .int .i64 0, .nil, .nil]
theorem refAfter {nn rr bb : Int} {P : List Int} {R : List (List Int)} (O : Ok nn rr bb P R) (F : List (List Int)) (hF : F.length ≤ 1000) :
    Sm Tryz.prog E 30 [.d (cupD nn rr bb P R), .d (.slice F.length 1 (encLL F))] []
      (fun v h => ((v = .d (.tuple [cupD nn rr bb P (R ++ F), .int .i64 0]) ∧ Ok nn rr bb P (R ++ F)) ∨ (∃ e, v = .d (.tuple [cup0, .int .i64 e]) ∧ e ≠ 0 ∧ ¬ Ok nn rr bb P (R ++ F))) ∧ h = []) := by
  have hR : R.length ≤ 1000 := by have := O.done; have := O.rc; omega
  refine sm_of HE true (by kernel_rfl) ?_
  unfold cupD cupL
  conv => whnf
  refine Sm.mono (refCheck nn rr bb P R) ?_
  rintro v h ⟨⟨e, rfl, he⟩, rfl⟩
  obtain rfl := he.2 O
  conv => whnf
  refine Rets.use (with_ok nn rr bb P R F hR hF) ?_
  unfold cupD cupL
  conv => whnf
  refine Sm.mono (refCheck nn rr bb P (R ++ F)) ?_
  rintro v h ⟨⟨e, rfl, he⟩, rfl⟩
  conv => whnf
  cases h0 : eqI e 0
  · have h0 := eqI_f h0
    conv => whnf
    exact ⟨.inr ⟨e, rfl, h0, fun h => h0 (he.2 h)⟩, rfl⟩
  · obtain rfl := eqI_t h0
    conv => whnf
    exact ⟨.inl ⟨rfl, he.1 rfl⟩, rfl⟩
/-- What is shown of further races. -/
def ShP (nn rr bb : Int) (P : List Int) (R F : List (List Int)) (s : Nat) (is : Bool) (e : Int) : Prop :=
  (e = 0 → Ok nn rr bb P (R ++ F) ∧ (F.length : Int) = rr - R.length ∧ (is = true ↔ Fst P bb.toNat nn.toNat (R ++ F) s)) ∧
  (Ok nn rr bb P (R ++ F) → (F.length : Int) = rr - R.length → Pln F → e = 0)
theorem refShows {nn rr bb : Int} {P : List Int} {R : List (List Int)} (O : Ok nn rr bb P R) (F : List (List Int)) (hF : F.length ≤ 1000) (hr : ∀ r ∈ F, r.length ≤ 1000) {s : Nat} (hs : (s : Int) < nn) :
    Sm Tryz.prog E 13 [.d (cupD nn rr bb P R), .d (.int .i64 s), .d (.slice F.length 1 (encLL F))] []
      (fun v h => (∃ is e, v = .d (.tuple [.bool is, .int .i64 e]) ∧ ShP nn rr bb P R F s is e) ∧ h = []) := by
  have hR : R.length ≤ 1000 := by have := O.done; have := O.rc; omega
  have hO := O.sk
  have hO2 := O.rc
  have hO3 := O.bs
  refine sm_of HE true (by kernel_rfl) ?_
  unfold cupD cupL
  conv => whnf
  refine Sm.mono (refCheck nn rr bb P R) ?_
  rintro v h ⟨⟨e, rfl, he⟩, rfl⟩
  obtain rfl := he.2 O
  conv => whnf
  rw [wrap_i64 (n := nn - 1) (by omega) (by omega)]
  refine Rets.use (outside_ok s 0 (nn - 1)) ?_
  rw [inB_of (n := (s : Int)) (by omega) (by omega)]
  conv => whnf
  rw [wrap_i64 (n := rr - R.length) (by omega) (by omega)]
  cases h0 : eqI (F.length : Int) (rr - R.length)
  · have h0 := eqI_f h0
    conv => whnf
    exact ⟨⟨false, 2, rfl, fun h => absurd h (by decide), fun _ h => absurd h h0⟩, rfl⟩
  have h0 := eqI_t h0
  conv => whnf
  refine Sm.mono (refAfter O F hF) ?_
  rintro v h ⟨⟨rfl, O2⟩ | ⟨e, rfl, h1, h2⟩, rfl⟩
  case inr =>
    unfold cup0
    conv => whnf
    rw [eqI_ff h1]
    conv => whnf
    exact ⟨⟨false, e, rfl, fun h => absurd h h1, fun h => absurd h h2⟩, rfl⟩
  unfold cupD cupL
  conv => whnf
  refine Sm.mono (refPlain F hF hr) ?_
  rintro v h ⟨⟨b, rfl, hb⟩, rfl⟩
  cases b
  · conv => whnf
    exact ⟨⟨false, 8, rfl, fun h => absurd h (by decide), fun _ _ h => absurd (hb.2 h) Bool.false_ne_true⟩, rfl⟩
  conv => whnf
  refine Rets.use (rank_ok (rr := rr) (n := nn.toNat) (pt_of O2) (rc_of O2) (by omega) (by omega) (by omega)) ?_
  conv => whnf
  refine ⟨⟨_, 0, rfl, fun _ => ⟨O2, h0, ?_⟩, fun _ _ _ => rfl⟩, rfl⟩
  rw [eqI_eq, decide_eq_true_iff, ← rnk_zero]
  omega
end Go.Proofs.Cx
