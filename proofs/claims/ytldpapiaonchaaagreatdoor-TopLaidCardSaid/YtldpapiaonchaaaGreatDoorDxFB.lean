/-
  TopLaid: lanes that were met; all targets assigned.
-/
import Derived.Test.YtldpapiaonchaaaGreatDoorDxEB
import Derived.Test.YtldpapiaonchaaaGreatDoorDxF0
namespace Go.Proofs.Dx
open Go Go.Ab Go.Proofs.Dw
set_option maxRecDepth 100000
set_option maxHeartbeats 40000000
def hdB (S N : List Int) (A ps : List (Int × Int)) (t : Tb) : List O := [dkB S N A 1 2 3 t, .row (.ds (encI S)) 0 0 [], .row (.ds (encI N)) 0 0 [], mpO ps]
theorem marked49B (S N : List Int) (A ps : List (Int × Int)) (t : Tb) (L : t.Ls) (hn : N.length ≤ 8) :
    Sm Tryz.prog E 49 [.ptr 0 0 0 92] (hdB S N A ps t) (fun v h => v = lsV (metL t N.length) ∧ h = hdB S N A ps t) := by
  refine sm_of HE true (by kernel_rfl) ?_
  unfold hdB
  unfold dkB mpO
  conv => whnf
  refine loops_by (fun x : Nat × Nat × List Int => match x with | (q, k, acc) => ⟨27, [(0, .ptr 0 0 0 92), (2, .d .nil), (3, slV 4 k), (10, .d (.int .i64 N.length)), (11, .d (.int .i64 q))], .unk, hdB S N A ps t ++ rwO k acc, []⟩)
    (fun x => x.1 ≤ N.length ∧ x.2.2 = nL (metL t x.1) ∧ x.2.1 = x.2.2.length) (fun x => N.length - x.1) (0, 0, []) ⟨Nat.zero_le _, rfl, rfl⟩ ?_
  rintro f ⟨q, k, acc⟩ ⟨hq, ha, hk⟩ ih
  simp only at hq ha hk
  by_cases hqN : q < N.length
  rotate_left
  · obtain rfl : q = N.length := by omega
    have h1 := ltI_ff (a := (N.length : Int)) (b := (N.length : Int)) (Int.le_refl _)
    cases k with
    | zero =>
      have h0 : metL t N.length = [] := List.eq_nil_of_length_eq_zero (by rw [← nL_length, ← ha, ← hk])
      unfold hdB
      unfold dkB mpO
      conv => whnf
      rw [h1]
      conv => whnf
      rw [h0]
      exact ⟨rfl, rfl⟩
    | succ k =>
      obtain ⟨a, w, hw⟩ : ∃ a w, metL t N.length = a :: w := by
        cases hm : metL t N.length with
        | nil => rw [ha, hm] at hk; cases hk
        | cons a w => exact ⟨a, w, rfl⟩
      have hkw : k = w.length := by rw [ha, hw, nL_length] at hk; simpa using hk
      have hel : (encI acc).length = (k + 1) * 1 := by rw [encI_length, ← hk]; omega
      unfold hdB
      unfold dkB mpO
      conv => whnf
      rw [h1]
      conv => whnf
      rw [may_all]
      conv => whnf
      rw [ble_t (i := 0 + (k + 1) * 1) (n := (encI acc).length) (by omega)]
      conv => whnf
      refine ⟨?_, rfl⟩
      rw [row_all hel, ha, hw, hkw]
      rfl
  obtain ⟨m1, hm1⟩ := at_some (l := t.M1) (i := q) (by rw [L.m1]; omega)
  cases k with
  | zero =>
    unfold hdB
    unfold dkB mpO
    conv => whnf
    rw [ltI_tt (a := (q : Int)) (b := (N.length : Int)) (by omega)]
    conv => whnf
    rw [blt_t (i := q) (n := 8) (by omega)]
    conv => whnf
    rw [ble_t (i := 0 + 76 + 1 * 8 + q * 1 + 1) (n := 92) (by show 84 + q * 1 + 1 ≤ 92; omega)]
    conv => whnf
    rw [blt_mx (by show 4 ≤ 84 + q * 1; omega)]
    conv => whnf
    rw [Tb.at_m1 (i := q) L hm1 (by show 84 + q * 1 - 4 = _; omega)]
    conv => whnf
    cases m1
    case false =>
      conv => whnf
      rw [wrap_succ (by omega)]
      exact ih (q + 1, 0, acc) ⟨by simp only; omega, by simp only; rw [metL_no hm1]; exact ha, hk⟩ (by simp only; omega)
    conv => whnf
    obtain rfl : acc = [] := List.eq_nil_of_length_eq_zero hk.symm
    rw [wrap_succ (by omega)]
    exact ih (q + 1, 1, [(q : Int)]) ⟨by simp only; omega, by simp only; rw [metL_yes hm1, nL_snoc, ← ha]; rfl, rfl⟩ (by simp only; omega)
  | succ k =>
    unfold hdB
    unfold dkB mpO
    conv => whnf
    rw [ltI_tt (a := (q : Int)) (b := (N.length : Int)) (by omega)]
    conv => whnf
    rw [blt_t (i := q) (n := 8) (by omega)]
    conv => whnf
    rw [ble_t (i := 0 + 76 + 1 * 8 + q * 1 + 1) (n := 92) (by show 84 + q * 1 + 1 ≤ 92; omega)]
    conv => whnf
    rw [blt_mx (by show 4 ≤ 84 + q * 1; omega)]
    conv => whnf
    rw [Tb.at_m1 (i := q) L hm1 (by show 84 + q * 1 - 4 = _; omega)]
    conv => whnf
    cases m1
    case false =>
      conv => whnf
      rw [wrap_succ (by omega)]
      exact ih (q + 1, k + 1, acc) ⟨by simp only; omega, by simp only; rw [metL_no hm1]; exact ha, hk⟩ (by simp only; omega)
    conv => whnf
    have hkn : k + 1 ≤ 8 := by have := metL_len t q; rw [ha, nL_length] at hk; omega
    rw [ble_t (i := (k + 1 + 1) * 8) (n := 140737488355328) (by omega)]
    conv => whnf
    rw [may_all]
    conv => whnf
    rw [len_beq hk.symm, wrap_succ (by omega), List.take_of_length_le (by rw [encI_length, ← hk]; omega)]
    have e1 : ∀ (l : List Int) (x : Int), encI l ++ [D.int .i64 x] = encI (l ++ [x]) := fun l x => (encI_snoc l x).symm
    rw [e1]
    exact ih (q + 1, k + 1 + 1, acc ++ [(q : Int)]) ⟨by simp only; omega, by simp only; rw [metL_yes hm1, nL_snoc, ← ha], by simp only; rw [List.length_append, ← hk]; rfl⟩ (by simp only; omega)
def SolvePB (S N : List Int) (A ps : List (Int × Int)) (v : V) (h : List O) : Prop := ∃ d : Tb, d.Ok S ps ∧ h = hdB S N A ps d ∧ ((v = .d .nil ∧ Asg S.length (fn S) (fn N) (cP ps) d.st.h) ∨
  (∃ w : List Nat, v = lsV w ∧ w ≠ [] ∧ w.Pairwise (· < ·) ∧ (∀ l ∈ w, l < S.length) ∧ 0 < lack S.length (fn S) (fn N) (cP ps) (fun l => l ∈ w) S.length))
theorem solve27B {S N : List Int} {A ps : List (Int × Int)} (h6 : S.length ≤ 6) (hN : N.length = S.length) (h8 : ∀ s, s < S.length → fn S s ≤ 8) (h0 : ∀ s, s < S.length → 0 ≤ fn S s) (hNb : ∀ l, l < S.length → 0 ≤ fn N l ∧ fn N l ≤ 8) :
    Sm Tryz.prog E 27 [.ptr 0 0 0 92] (hdB S N A ps Tb.z) (SolvePB S N A ps) := by
  refine sm_of HE true (by kernel_rfl) ?_
  unfold hdB
  unfold dkB mpO
  conv => whnf
  refine loops_by (fun x : Nat × Tb => match x with | (i, t) => ⟨33, [(1, .ptr 4 0 0 1), (2, .d .nil), (3, .ptr 5 0 0 1), (11, .slice 2 0 0 N.length 1), (12, .d (.int .i64 N.length)), (13, .d (.int .i64 i))], .unk, [dkB S N A 1 2 3 t, .row (.ds (encI S)) 0 0 [], .row (.ds (encI N)) 0 0 [], mpO ps, .row (.vs [.ptr 0 0 0 92]) 0 0 [], .row (.vs [.func 47 [] [.ptr 4 0 0 1, .ptr 5 0 0 1]]) 0 0 []], []⟩)
    (fun x => x.1 ≤ S.length ∧ x.2.Ok S ps ∧ Part S.length (fn S) (cP ps) (soFar N x.1 0) x.2.st.h) (fun x => S.length - x.1) (0, Tb.z) ⟨Nat.zero_le _, (z_ok (by omega) h0).1, (z_ok (by omega) h0).2.congr fun l _ => by unfold soFar; rw [if_neg (by omega)]; split <;> rfl⟩ ?_
  rintro f ⟨i, t⟩ ⟨hi, O, P⟩ ih
  simp only at hi O P
  unfold dkB mpO
  conv => whnf
  cases h1 : ltI (i : Int) (N.length : Int)
  case false =>
    have h1 := ltI_f h1
    obtain rfl : i = S.length := by omega
    conv => whnf
    exact ⟨t, O, rfl, .inl ⟨rfl, P.congr fun l hl => by unfold soFar; rw [if_pos hl]⟩⟩
  have h1 := ltI_t h1
  have hiS : i < S.length := by omega
  have hx := at_fn (l := N) (q := i) (by omega)
  have hxb := hNb i hiS
  obtain ⟨x, hxx⟩ : ∃ x : Nat, fn N i = x := ⟨(fn N i).toNat, by omega⟩
  rw [hxx] at hx hxb
  conv => whnf
  rw [blt_t (i := i) (n := N.length) (by omega)]
  conv => whnf
  rw [ble_t (i := 0 + i * 1 + 1) (Nat.le_refl _)]
  conv => whnf
  rw [encI_get0 hx]
  conv => whnf
  refine loops_by (fun y : Nat × Tb => match y with | (j, t) => ⟨33, [(1, .ptr 4 0 0 1), (2, .d .nil), (3, .ptr 5 0 0 1), (4, .d (.int .i64 i)), (11, .slice 2 0 0 N.length 1), (12, .d (.int .i64 N.length)), (13, .d (.int .i64 i)), (18, .d (.int .i64 x)), (19, .d (.int .i64 j))], .unk, [dkB S N A 1 2 3 t, .row (.ds (encI S)) 0 0 [], .row (.ds (encI N)) 0 0 [], mpO ps, .row (.vs [.ptr 0 0 0 92]) 0 0 [], .row (.vs [.func 47 [] [.ptr 4 0 0 1, .ptr 5 0 0 1]]) 0 0 []], []⟩)
    (fun y => y.1 ≤ x ∧ y.2.Ok S ps ∧ Part S.length (fn S) (cP ps) (soFar N i y.1) y.2.st.h) (fun y => x - y.1) (0, t) ⟨Nat.zero_le _, O, P⟩ ?_
  rintro f2 ⟨j, t⟩ ⟨hj, O, P⟩ ih2
  simp only at hj O P
  unfold dkB mpO
  conv => whnf
  cases h2 : ltI (j : Int) (x : Int)
  case false =>
    have h2 := ltI_f h2
    obtain rfl : j = x := by omega
    conv => whnf
    rw [wrap_succ (by omega)]
    exact ih (i + 1, t) ⟨by simp only; omega, O, P.congr fun l _ => soFar_next hxx l⟩ (by simp only; omega)
  have h2 := ltI_t h2
  conv => whnf
  rw [clear_met]
  rotate_left
  · rfl
  · exact O.ls
  have hfind := find47B (A := A) h6 hN h8 (unm t.clr S.length + 1) t.clr i (clr_ok O) hiS (Nat.lt_succ_self _)
  unfold hfB at hfind
  unfold dkB mpO at hfind
  conv => whnf
  refine Sm.mono hfind ?_
  rintro v h ⟨d, Od, rfl, ⟨rfl, G⟩ | ⟨rfl, Ny⟩⟩
  · unfold hfB
    unfold dkB mpO
    conv => whnf
    rw [wrap_succ (by omega)]
    exact ih2 (j + 1, d) ⟨by simp only; omega, Od, (G.part _ P).congr fun l _ => soFar_inc N i j l⟩ (by simp only; omega)
  · unfold hfB
    have hmk := marked49B S N A ps d Od.ls (by omega)
    unfold hdB at hmk
    unfold dkB mpO at hmk
    unfold dkB mpO
    conv => whnf
    refine Sm.mono hmk ?_
    rintro v h ⟨rfl, rfl⟩
    have hlk := Ny.lack (D := fn N) (fun s _ => clr_m0 t s) (fun l _ => clr_m1 t l) P hiS (fun l hl => by
      have := hNb l hl
      unfold soFar
      split
      · exact Int.le_refl _
      · split
        · rename_i h; subst h; rw [hxx]; omega
        · exact this.1) (by unfold soFar; rw [if_neg (by omega), if_pos rfl, hxx]; omega)
    have hne : metL d N.length ≠ [] := fun h => by
      have := metL_mem (t := d) (n := N.length) (l := i)
      rw [h] at this
      exact absurd (this.2 ⟨by omega, Ny.own⟩) (by simp)
    have hmw := metL_sorted d N.length
    have hml : ∀ l ∈ metL d N.length, l < S.length := fun l hl => by have := (metL_mem.1 hl).1; omega
    have hlk2 : 0 < lack S.length (fn S) (fn N) (cP ps) (fun l => l ∈ metL d N.length) S.length := by
      rw [lack_congr (W' := fun l => d.st.m1 l) S.length fun l hl => ?_]
      · exact hlk
      · rw [metL_mem]; exact ⟨fun h => h.2, fun h => ⟨by omega, h⟩⟩
    generalize metL d N.length = w at hne hmw hml hlk2 ⊢
    cases w with
    | nil => exact absurd rfl hne
    | cons a w =>
      conv => whnf
      exact ⟨d, Od, rfl, .inr ⟨a :: w, rfl, hne, hmw, hml, hlk2⟩⟩
end Go.Proofs.Dx
