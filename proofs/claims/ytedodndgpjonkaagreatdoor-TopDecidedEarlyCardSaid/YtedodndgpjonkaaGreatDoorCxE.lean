/-
  TopDecidedEarly: the reference's check of a cup.
-/
import Derived.Test.YtedodndgpjonkaaGreatDoorCxC
namespace Go.Proofs.Cx
open Go Go.Ab Go.Proofs.Cw
set_option maxRecDepth 100000
set_option maxHeartbeats 20000000
theorem badE {e : Int} {Q : Prop} (h1 : e ≠ 0) (h2 : ¬ Q) : e = 0 ↔ Q := ⟨fun h => absurd h h1, fun h => absurd h h2⟩
theorem refCheck (nn rr bb : Int) (P : List Int) (R : List (List Int)) :
    Sm Tryz.prog E 6 [.d (cupD nn rr bb P R)] [] (fun v h => (∃ e, v = .d (.int .i64 e) ∧ (e = 0 ↔ Ok nn rr bb P R)) ∧ h = []) := by
  refine sm_of HE true (by kernel_rfl) ?_
  unfold cupD cupL
  conv => whnf
  refine Rets.use (outside_ok nn 1 12) ?_
  cases g1 : inB nn 1 12
  · conv => whnf
    exact ⟨⟨3, rfl, badE (by decide) fun O => inB_false g1 O.sk⟩, rfl⟩
  have k1 := inB_true g1
  conv => whnf
  refine Rets.use (outside_ok rr 1 20) ?_
  cases g2 : inB rr 1 20
  · conv => whnf
    exact ⟨⟨3, rfl, badE (by decide) fun O => inB_false g2 O.rc⟩, rfl⟩
  have k2 := inB_true g2
  conv => whnf
  refine Rets.use (outside_ok bb 1 rr) ?_
  cases g3 : inB bb 1 rr
  · conv => whnf
    exact ⟨⟨3, rfl, badE (by decide) fun O => inB_false g3 O.bs⟩, rfl⟩
  have k3 := inB_true g3
  conv => whnf
  cases g4 : ltI (P.length : Int) 1
  case true =>
    have := ltI_t g4
    conv => whnf
    exact ⟨⟨2, rfl, badE (by decide) fun O => by have := O.pts; omega⟩, rfl⟩
  have k4 := ltI_f g4
  conv => whnf
  cases g5 : ltI 60 (P.length : Int)
  case true =>
    have := ltI_t g5
    conv => whnf
    exact ⟨⟨2, rfl, badE (by decide) fun O => by have := O.pts; omega⟩, rfl⟩
  have k5 := ltI_f g5
  conv => whnf
  cases g6 : ltI rr (R.length : Int)
  case true =>
    have := ltI_t g6
    conv => whnf
    exact ⟨⟨2, rfl, badE (by decide) fun O => by have := O.done; omega⟩, rfl⟩
  have k6 := ltI_f g6
  obtain ⟨n, rfl⟩ : ∃ n : Nat, nn = n := ⟨nn.toNat, by omega⟩
  conv => whnf
  refine loops_by (fun i : Nat => ⟨174, [(1, .ptr 0 0 0 5), (2, .d (.int .i64 0)), (3, .d (.int .i64 i))], .unk, [.row (.ds (cupL n rr bb P R)) 0 0 []], []⟩)
    (fun i => i ≤ R.length ∧ ∀ (j : Nat) r, j < i → R[j]? = some r → r.length = n) (fun i => R.length - i) 0 ⟨Nat.zero_le _, fun j r h => absurd h (by omega)⟩ ?_
  intro f i ⟨hi, hA⟩ ih
  conv => whnf
  cases h1 : ltI (i : Int) (R.length : Int)
  case true =>
    have hlt := ltI_t h1
    have hb := blt_t (i := i) (n := R.length) (by omega)
    obtain ⟨r, hr⟩ := at_some (l := R) (i := i) (by omega)
    conv => whnf
    rw [hb]
    conv => whnf
    rw [encLL_get1 hr]
    conv => whnf
    cases h2 : eqI (r.length : Int) (n : Int)
    · have := eqI_f h2
      conv => whnf
      exact ⟨⟨2, rfl, badE (by decide) fun O => this (O.rows r (List.mem_of_getElem? hr))⟩, rfl⟩
    · have h2 := eqI_t h2
      conv => whnf
      rw [wrap_succ (by omega)]
      exact ih (i + 1) ⟨by omega, fun j r' hj hr' => by
        by_cases hji : j = i
        · subst hji; rw [hr] at hr'; cases hr'; omega
        · exact hA j r' (by omega) hr'⟩ (by omega)
  have := ltI_f h1
  have hA : ∀ (j : Nat) r, R[j]? = some r → r.length = n := fun j r hr => hA j r (by have := lt_of_at hr; omega) hr
  conv => whnf
  refine loops_by (fun i : Nat => ⟨174, [(1, .ptr 0 0 0 5), (2, .d (.int .i64 0)), (4, .d (.int .i64 i))], .unk, [.row (.ds (cupL n rr bb P R)) 0 0 []], []⟩)
    (fun i => i ≤ P.length ∧ ∀ (j : Nat) x, j < i → P[j]? = some x → 0 ≤ x ∧ x ≤ 1000) (fun i => P.length - i) 0 ⟨Nat.zero_le _, fun j r h => absurd h (by omega)⟩ ?_
  intro f i ⟨hi, hB⟩ ih
  conv => whnf
  cases h1 : ltI (i : Int) (P.length : Int)
  case true =>
    have hlt := ltI_t h1
    have hb := blt_t (i := i) (n := P.length) (by omega)
    obtain ⟨x, hx⟩ := at_some (l := P) (i := i) (by omega)
    conv => whnf
    rw [hb]
    conv => whnf
    rw [encI_get1 hx]
    conv => whnf
    refine Rets.use (outside_ok x 0 1000) ?_
    cases h2 : inB x 0 1000
    · conv => whnf
      exact ⟨⟨3, rfl, badE (by decide) fun O => inB_false h2 (O.pr x (List.mem_of_getElem? hx))⟩, rfl⟩
    · have h2 := inB_true h2
      conv => whnf
      rw [wrap_succ (by omega)]
      exact ih (i + 1) ⟨by omega, fun j r' hj hr' => by
        by_cases hji : j = i
        · subst hji; rw [hx] at hr'; cases hr'; omega
        · exact hB j r' (by omega) hr'⟩ (by omega)
  have := ltI_f h1
  have hB : ∀ (j : Nat) x, P[j]? = some x → 0 ≤ x ∧ x ≤ 1000 := fun j r hr => hB j r (by have := lt_of_at hr; omega) hr
  conv => whnf
  refine loops_by (fun i : Nat => ⟨174, [(1, .ptr 0 0 0 5), (2, .d (.int .i64 0)), (5, .d (.int .i64 i))], .unk, [.row (.ds (cupL n rr bb P R)) 0 0 []], []⟩)
    (fun i => i ≤ R.length ∧ ∀ (j : Nat) r, j < i → R[j]? = some r → ∀ (k : Nat) q, r[k]? = some q → 0 ≤ q ∧ q ≤ 60) (fun i => R.length - i) 0 ⟨Nat.zero_le _, fun j r h => absurd h (by omega)⟩ ?_
  intro f i ⟨hi, hC⟩ ih
  conv => whnf
  cases h1 : ltI (i : Int) (R.length : Int)
  case true =>
    have hlt := ltI_t h1
    have hb := blt_t (i := i) (n := R.length) (by omega)
    obtain ⟨r, hr⟩ := at_some (l := R) (i := i) (by omega)
    have hrl := hA i r hr
    conv => whnf
    refine loops_by (fun k : Nat => ⟨174, [(1, .ptr 0 0 0 5), (2, .d (.int .i64 0)), (5, .d (.int .i64 i)), (6, .d (.int .i64 k))], .unk, [.row (.ds (cupL n rr bb P R)) 0 0 []], []⟩)
      (fun k => k ≤ n ∧ ∀ (t : Nat) q, t < k → r[t]? = some q → 0 ≤ q ∧ q ≤ 60) (fun k => n - k) 0 ⟨Nat.zero_le _, fun j r h => absurd h (by omega)⟩ ?_
    intro f2 k ⟨hk, hD⟩ ih2
    conv => whnf
    cases h2 : ltI (k : Int) (n : Int)
    · have := ltI_f h2
      conv => whnf
      rw [wrap_succ (by omega)]
      exact ih (i + 1) ⟨by omega, fun j r' hj hr' => by
        by_cases hji : j = i
        · subst hji; rw [hr] at hr'; cases hr'
          exact fun t q hq => hD t q (by have := lt_of_at hq; omega) hq
        · exact hC j r' (by omega) hr'⟩ (by omega)
    · have hkn := ltI_t h2
      have hbk := blt_t (i := k) (n := r.length) (by omega)
      obtain ⟨q, hq⟩ := at_some (l := r) (i := k) (by omega)
      conv => whnf
      rw [hb]
      conv => whnf
      rw [encLL_get1 hr]
      conv => whnf
      rw [hbk]
      conv => whnf
      rw [encI_get1 hq]
      conv => whnf
      refine Rets.use (outside_ok q 0 60) ?_
      cases h3 : inB q 0 60
      · conv => whnf
        exact ⟨⟨3, rfl, badE (by decide) fun O => inB_false h3 (O.plr r (List.mem_of_getElem? hr) q (List.mem_of_getElem? hq))⟩, rfl⟩
      · have h3 := inB_true h3
        conv => whnf
        rw [wrap_succ (by omega)]
        exact ih2 (k + 1) ⟨by omega, fun t q' ht hq' => by
          by_cases htk : t = k
          · subst htk; rw [hq] at hq'; cases hq'; omega
          · exact hD t q' (by omega) hq'⟩ (by omega)
  have := ltI_f h1
  have hC : ∀ (j : Nat) r, R[j]? = some r → ∀ (k : Nat) q, r[k]? = some q → 0 ≤ q ∧ q ≤ 60 := fun j r hr => hC j r (by have := lt_of_at hr; omega) hr
  conv => whnf
  refine loops_by (fun i : Nat => ⟨174, [(1, .ptr 0 0 0 5), (2, .d (.int .i64 0)), (7, .d (.int .i64 (i + 1 : Nat)))], .unk, [.row (.ds (cupL n rr bb P R)) 0 0 []], []⟩)
    (fun i => i + 1 ≤ P.length ∧ ∀ (j : Nat) x y, j < i → P[j]? = some x → P[j + 1]? = some y → y ≤ x) (fun i => P.length - i) 0 ⟨by omega, fun j r y h => absurd h (by omega)⟩ ?_
  intro f i ⟨hi, hD⟩ ih
  conv => whnf
  cases h1 : ltI ((i + 1 : Nat) : Int) (P.length : Int)
  case true =>
    have hlt := ltI_t h1
    have hb := blt_t (i := i) (n := P.length) (by omega)
    have hb1 := blt_t (i := i + 1) (n := P.length) (by omega)
    obtain ⟨x, hx⟩ := at_some (l := P) (i := i) (by omega)
    obtain ⟨y, hy⟩ := at_some (l := P) (i := i + 1) (by omega)
    conv => whnf
    rw [hb1]
    conv => whnf
    rw [encI_get1 hy]
    conv => whnf
    rw [wrap_i64 (n := ((i + 1 : Nat) : Int) - 1) (by omega) (by omega), show ((i + 1 : Nat) : Int) - 1 = (i : Int) by omega]
    conv => whnf
    rw [hb]
    conv => whnf
    rw [encI_get1 hx]
    conv => whnf
    cases h2 : ltI x y
    · have h2 := ltI_f h2
      conv => whnf
      rw [wrap_succ (by omega)]
      exact ih (i + 1) ⟨by omega, fun j x' y' hj hx' hy' => by
        by_cases hji : j = i
        · subst hji; rw [hx] at hx'; cases hx'; rw [hy] at hy'; cases hy'; exact h2
        · exact hD j x' y' (by omega) hx' hy'⟩ (by omega)
    · have h2 := ltI_t h2
      conv => whnf
      exact ⟨⟨4, rfl, badE (by decide) fun O => by have := O.falls i x y hx hy; omega⟩, rfl⟩
  have := ltI_f h1
  have hD : ∀ (j : Nat) x y, P[j]? = some x → P[j + 1]? = some y → y ≤ x := fun j x y hx hy => hD j x y (by have := lt_of_at hy; omega) hx hy
  conv => whnf
  refine loops_by (fun i : Nat => ⟨174, [(1, .ptr 0 0 0 5), (2, .d (.int .i64 0)), (8, .d (.int .i64 i))], .unk, [.row (.ds (cupL n rr bb P R)) 0 0 []], []⟩)
    (fun i => i ≤ R.length ∧ ∀ (j : Nat) r, j < i → R[j]? = some r → ∀ p ∈ r, p ≠ 0 → p + shr r p - 1 ≤ 60 ∧ ∀ q ∈ r, p < q → p + shr r p - 1 < q) (fun i => R.length - i) 0 ⟨Nat.zero_le _, fun j r h => absurd h (by omega)⟩ ?_
  intro f i ⟨hi, hE⟩ ih
  conv => whnf
  cases h1 : ltI (i : Int) (R.length : Int)
  case false =>
    have := ltI_f h1
    have hE : ∀ (j : Nat) r, R[j]? = some r → ∀ p ∈ r, p ≠ 0 → p + shr r p - 1 ≤ 60 ∧ ∀ q ∈ r, p < q → p + shr r p - 1 < q := fun j r hr => hE j r (by have := lt_of_at hr; omega) hr
    conv => whnf
    refine ⟨⟨0, rfl, fun _ => ?_, fun _ => rfl⟩, rfl⟩
    exact ⟨k1, k2, k3, by omega, k6, fun r hr => by
        obtain ⟨j, hj⟩ := List.getElem?_of_mem hr
        have := hA j r hj
        omega, fun x hx => by
        obtain ⟨j, hj⟩ := List.getElem?_of_mem hx
        exact hB j x hj, fun r hr q hq => by
        obtain ⟨j, hj⟩ := List.getElem?_of_mem hr
        obtain ⟨k, hk⟩ := List.getElem?_of_mem hq
        exact hC j r hj k q hk, fun j x y hx hy => hD j x y hx hy, fun r hr p hp h0 => by
        obtain ⟨j, hj⟩ := List.getElem?_of_mem hr
        exact (hE j r hj p hp h0).1, fun r hr p hp h0 => by
        obtain ⟨j, hj⟩ := List.getElem?_of_mem hr
        exact (hE j r hj p hp h0).2⟩
  have hlt := ltI_t h1
  have hb := blt_t (i := i) (n := R.length) (by omega)
  obtain ⟨r, hr⟩ := at_some (l := R) (i := i) (by omega)
  have hrl := hA i r hr
  have hrC := hC i r hr
  conv => whnf
  refine loops_by (fun k : Nat => ⟨174, [(1, .ptr 0 0 0 5), (2, .d (.int .i64 0)), (8, .d (.int .i64 i)), (9, .d (.int .i64 k))], .unk, [.row (.ds (cupL n rr bb P R)) 0 0 []], []⟩)
    (fun k => k ≤ n ∧ ∀ (t : Nat) p, t < k → r[t]? = some p → p ≠ 0 → p + shr r p - 1 ≤ 60 ∧ ∀ q ∈ r, p < q → p + shr r p - 1 < q) (fun k => n - k) 0 ⟨Nat.zero_le _, fun j r h => absurd h (by omega)⟩ ?_
  intro f2 k ⟨hk, hF⟩ ih2
  conv => whnf
  cases h2 : ltI (k : Int) (n : Int)
  case false =>
    have := ltI_f h2
    conv => whnf
    rw [wrap_succ (by omega)]
    exact ih (i + 1) ⟨by omega, fun j r' hj hr' => by
      by_cases hji : j = i
      · subst hji; rw [hr] at hr'; cases hr'
        intro p hp
        obtain ⟨t, ht⟩ := List.getElem?_of_mem hp
        exact hF t p (by have := lt_of_at ht; omega) ht
      · exact hE j r' (by omega) hr'⟩ (by omega)
  have hkn := ltI_t h2
  have hbk := blt_t (i := k) (n := r.length) (by omega)
  obtain ⟨p, hp⟩ := at_some (l := r) (i := k) (by omega)
  have hpb := hrC k p hp
  have hsl : shr r p ≤ r.length := List.countP_le_length
  conv => whnf
  rw [hb]
  conv => whnf
  rw [encLL_get1 hr]
  conv => whnf
  rw [hbk]
  conv => whnf
  rw [encI_get1 hp]
  conv => whnf
  cases h3 : eqI p 0
  case true =>
    have h3 := eqI_t h3
    conv => whnf
    rw [wrap_succ (by omega)]
    exact ih2 (k + 1) ⟨by omega, fun t q' ht hq' => by
      by_cases htk : t = k
      · subst htk; rw [hp] at hq'; cases hq'; exact fun h0 => absurd h3 h0
      · exact hF t q' (by omega) hq'⟩ (by omega)
  have h3 := eqI_f h3
  conv => whnf
  rw [hb]
  conv => whnf
  rw [encLL_get1 hr]
  conv => whnf
  refine Rets.use (sharing_ok r p (by omega)) ?_
  conv => whnf
  rw [wrap_i64 (n := p + shr r p) (by omega) (by omega)]
  rw [wrap_i64 (n := p + shr r p - 1) (by omega) (by omega)]
  cases h4 : ltI 60 (p + shr r p - 1)
  case true =>
    have h4 := ltI_t h4
    conv => whnf
    exact ⟨⟨7, rfl, badE (by decide) fun O => by have := O.last r (List.mem_of_getElem? hr) p (List.mem_of_getElem? hp) h3; omega⟩, rfl⟩
  have h4 := ltI_f h4
  conv => whnf
  refine loops_by (fun o : Nat => ⟨174, [(1, .ptr 0 0 0 5), (2, .d (.int .i64 0)), (8, .d (.int .i64 i)), (9, .d (.int .i64 k)), (10, .d (.int .i64 p)), (11, .d (.int .i64 (p + shr r p - 1))), (12, .d (.int .i64 o))], .unk, [.row (.ds (cupL n rr bb P R)) 0 0 []], []⟩)
    (fun o => o ≤ n ∧ ∀ (t : Nat) q, t < o → r[t]? = some q → p < q → p + shr r p - 1 < q) (fun o => n - o) 0 ⟨Nat.zero_le _, fun j r h => absurd h (by omega)⟩ ?_
  intro f3 o ⟨ho, hG⟩ ih3
  conv => whnf
  cases h5 : ltI (o : Int) (n : Int)
  case false =>
    have := ltI_f h5
    conv => whnf
    rw [wrap_succ (by omega)]
    exact ih2 (k + 1) ⟨by omega, fun t p' ht hp' => by
      by_cases htk : t = k
      · subst htk; rw [hp] at hp'; cases hp'
        refine fun _ => ⟨h4, fun q hq => ?_⟩
        obtain ⟨t, ht⟩ := List.getElem?_of_mem hq
        exact hG t q (by have := lt_of_at ht; omega) ht
      · exact hF t p' (by omega) hp'⟩ (by omega)
  have hon := ltI_t h5
  have hbo := blt_t (i := o) (n := r.length) (by omega)
  obtain ⟨q, hq⟩ := at_some (l := r) (i := o) (by omega)
  conv => whnf
  rw [hb]
  conv => whnf
  rw [encLL_get1 hr]
  conv => whnf
  rw [hbo]
  conv => whnf
  rw [encI_get1 hq]
  conv => whnf
  cases h6 : ltI p q
  · have h6 := ltI_f h6
    conv => whnf
    rw [wrap_succ (by omega)]
    exact ih3 (o + 1) ⟨by omega, fun t q' ht hq' => by
      by_cases hto : t = o
      · subst hto; rw [hq] at hq'; cases hq'; exact fun h => absurd h (by omega)
      · exact hG t q' (by omega) hq'⟩ (by omega)
  have h6 := ltI_t h6
  conv => whnf
  cases h7 : leI q (p + shr r p - 1)
  · have h7 : p + shr r p - 1 < q := by rw [leI_eq] at h7; have := of_decide_eq_false h7; omega
    conv => whnf
    rw [wrap_succ (by omega)]
    exact ih3 (o + 1) ⟨by omega, fun t q' ht hq' => by
      by_cases hto : t = o
      · subst hto; rw [hq] at hq'; cases hq'; exact fun _ => h7
      · exact hG t q' (by omega) hq'⟩ (by omega)
  · have h7 : q ≤ p + shr r p - 1 := by rw [leI_eq] at h7; exact of_decide_eq_true h7
    conv => whnf
    exact ⟨⟨7, rfl, badE (by decide) fun O => by have := O.free r (List.mem_of_getElem? hr) p (List.mem_of_getElem? hp) h3 q (List.mem_of_getElem? hq) h6; omega⟩, rfl⟩
end Go.Proofs.Cx
