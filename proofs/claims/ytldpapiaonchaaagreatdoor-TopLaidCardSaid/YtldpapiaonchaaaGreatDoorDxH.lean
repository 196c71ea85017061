/-
  TopLaid: the most hits, a desk without a skier and a lane, the span of hits.
-/
import Derived.Test.YtldpapiaonchaaaGreatDoorDxFB
import Derived.Test.YtldpapiaonchaaaGreatDoorDxFA
import Derived.Test.YtldpapiaonchaaaGreatDoorDxG
import Derived.Test.YtldpapiaonchaaaGreatDoorDxH0
section
namespace Go.Proofs.Dx
open Go Go.Ab Go.Proofs.Dw
set_option maxRecDepth 100000
set_option maxHeartbeats 40000000
theorem least33 (a b : Int) : Sm Tryz.prog E 33 [.d (.int .i64 a), .slice 0 0 0 1 1] [.row (.ds [.int .i64 b]) 0 0 []] (fun v h => v = .d (.int .i64 (if b < a then b else a)) ∧ h = [.row (.ds [.int .i64 b]) 0 0 []]) := by
  refine sm_of HE true (by kernel_rfl) ?_
  conv => whnf
  refine loops_by (fun x : Nat × Int => match x with | (i, a) => ⟨18, [(0, .d (.int .i64 a)), (4, .d (.int .i64 0)), (7, .slice 0 0 0 1 1), (8, .d (.int .i64 1)), (9, .d (.int .i64 i))], .unk, [.row (.ds [.int .i64 b]) 0 0 []], []⟩)
    (fun x => (x.1 = 0 ∧ x.2 = a) ∨ (x.1 = 1 ∧ x.2 = if b < a then b else a)) (fun x => 1 - x.1) (0, a) (.inl ⟨rfl, rfl⟩) ?_
  rintro f ⟨i, c⟩ (⟨hi, hc⟩ | ⟨hi, hc⟩) ih
  · simp only at hi hc
    subst hi hc
    conv => whnf
    refine ih (1, _) (.inr ⟨rfl, ?_⟩) (by simp)
    simp only
    unfold minI
    rw [ltI_eq]
    by_cases h : b < c
    · rw [if_pos h, decide_eq_true h]
    · rw [if_neg h, decide_eq_false h]
  · simp only at hi hc
    subst hi hc
    conv => whnf
    exact ⟨rfl, rfl⟩
theorem most37 (S N : List Int) (A ps : List (Int × Int)) (t : Tb) {s l : Nat} (hs : s < S.length) (hl : l < N.length) :
    Sm Tryz.prog E 37 [.ptr 0 0 0 92, .d (.int .i64 s), .d (.int .i64 l)] (hdA S N A ps t) (fun v h => v = .d (.int .i64 (mostI S N ps s l)) ∧ h = hdA S N A ps t) := by
  have hx := at_fn hs
  have hy := at_fn hl
  refine sm_of HE true (by kernel_rfl) ?_
  unfold hdA dkA mpO
  conv => whnf
  have hcan := can48A S N A ps t s l
  unfold dkA mpO at hcan
  refine Sm.mono hcan ?_
  rintro v h ⟨rfl, rfl⟩
  unfold mostI
  cases hc : cB ps s l
  · conv => whnf
    exact ⟨rfl, rfl⟩
  · conv => whnf
    rw [blt_t hs]
    conv => whnf
    rw [encI_get1 hx]
    conv => whnf
    rw [blt_t hl]
    conv => whnf
    rw [encI_get1 hy]
    conv => whnf
    refine Sm.mono (least33 (fn S s) (fn N l)) ?_
    rintro v h ⟨rfl, rfl⟩
    conv => whnf
    exact ⟨rfl, rfl⟩
/-- A desk without a skier and a lane: its shots, its targets, whom can have hit what. -/
def woS (S : List Int) (s : Nat) (x : Int) : List Int := S.set s (fn S s - x)
def woP (S : List Int) (A : List (Int × Int)) (s l : Nat) : List (Int × Int) := del (mayL S.length A) ((s : Int), (l : Int))
theorem without36 (S N : List Int) (A : List (Int × Int)) (t : Tb) {s l : Nat} (hs : s < S.length) (hN : N.length = S.length) (hl : l < S.length) (h8 : S.length ≤ 8) (hA : A.length ≤ 1000) {x : Int} (hx : 0 ≤ x ∧ x ≤ 100) (hS : 0 ≤ fn S s ∧ fn S s ≤ 100) (hNl : 0 ≤ fn N l ∧ fn N l ≤ 100) :
    Sm Tryz.prog E 36 [.ptr 0 0 0 92, .d (.int .i64 s), .d (.int .i64 l), .d (.int .i64 x)] (hdA S N A (mayL S.length A) t) (fun v h => v = .ptr 2 0 0 92 ∧ h = [dkA S N A 1 t, mpO (mayL S.length A), dkB (woS S s x) (woS N l x) A 3 4 5 Tb.z, .row (.ds (encI (woS S s x))) 0 0 [], .row (.ds (encI (woS N l x))) 0 0 [], mpO (woP S A s l)]) := by
  have hxs := at_fn hs
  have hxl := at_fn (l := N) (q := l) (by omega)
  have hSl : (woS S s x).length = S.length := by unfold woS; rw [List.length_set]
  have hNl2 : (woS N l x).length = S.length := by unfold woS; rw [List.length_set, hN]
  have hNlN : (woS N l x).length = N.length := by unfold woS; rw [List.length_set]
  refine sm_of HE false (by kernel_rfl) ?_
  unfold hdA dkA mpO
  conv => whnf
  refine Sm.mono (clone23b S (by omega) (by omega)) ?_
  rintro v h ⟨rfl, rfl⟩
  conv => whnf
  refine Sm.mono (clone23b N (by omega) (by omega)) ?_
  rintro v h ⟨rfl, rfl⟩
  conv => whnf
  rw [blt_t (i := s) (n := S.length) hs]
  conv => whnf
  rw [ble_t (i := 0 + s * 1 + 1) (Nat.le_refl _)]
  conv => whnf
  rw [encI_get0 hxs]
  conv => whnf
  rw [wrap_i64 (n := fn S s - x) (by omega) (by omega)]
  conv => whnf
  rw [blt_t (i := s) (n := S.length) hs]
  conv => whnf
  rw [ble_t (i := 0 + s * 1 + 1) (Nat.le_refl _)]
  conv => whnf
  rw [ble_t (i := 0 + s * 1 + [V.d (D.int .i64 (fn S s - x))].length) (by simp only [List.length_cons, List.length_nil, Cells.len, encI_length]; omega)]
  conv => whnf
  rw [write_int (i := s) (x := fn S s - x) (by omega) (by omega)]
  conv => whnf
  rw [blt_t (i := l) (n := N.length) (by omega)]
  conv => whnf
  rw [ble_t (i := 0 + l * 1 + 1) (Nat.le_refl _)]
  conv => whnf
  rw [encI_get0 hxl]
  conv => whnf
  rw [wrap_i64 (n := fn N l - x) (by omega) (by omega)]
  conv => whnf
  rw [blt_t (i := l) (n := N.length) (by omega)]
  conv => whnf
  rw [ble_t (i := 0 + l * 1 + 1) (Nat.le_refl _)]
  conv => whnf
  rw [ble_t (i := 0 + l * 1 + [V.d (D.int .i64 (fn N l - x))].length) (by simp only [List.length_cons, List.length_nil, Cells.len, encI_length]; omega)]
  conv => whnf
  rw [write_int (i := l) (x := fn N l - x) (by omega) (by omega)]
  conv => whnf
  have hop := opened32B (woS S s x) (woS N l x) A (by omega) hA
  unfold dkB mpO at hop
  rw [hSl, hNlN] at hop
  unfold woS at hop
  refine Sm.mono hop ?_
  rintro v h ⟨rfl, rfl⟩
  conv => whnf
  rw [del_pair (ps := mayL S.length A) (p := s) (q := l)]
  rotate_left
  · rfl
  · rfl
  · rfl
  conv => whnf
  refine ⟨rfl, ?_⟩
  unfold dkB woP
  rw [hSl, hNlN]
  rfl
end Go.Proofs.Dx
end
section
/-
  TopLaid: the span of hits.
-/
namespace Go.Proofs.Dx
open Go Go.Ab Go.Proofs.Dw
set_option maxRecDepth 100000
set_option maxHeartbeats 40000000
/-- A bout in order, of at most six lanes. -/
structure Bo (S N : List Int) (A : List (Int × Int)) : Prop where
  h1 : 1 ≤ S.length
  h6 : S.length ≤ 6
  hN : N.length = S.length
  s : ∀ q, q < S.length → 0 ≤ fn S q ∧ fn S q ≤ 8
  n : ∀ q, q < S.length → 0 ≤ fn N q ∧ fn N q ≤ 5
  a : A.length ≤ 70
theorem wo_bounds {S N : List Int} {A : List (Int × Int)} (O : Bo S N A) {s l : Nat} (hs : s < S.length) (hl : l < S.length) {x : Int} (hx0 : 0 ≤ x) (hxm : x ≤ mostI S N (mayL S.length A) s l) :
    x ≤ fn S s ∧ x ≤ fn N l := by
  have h1 := O.s s hs
  have h2 := O.n l hl
  unfold mostI at hxm
  cases hc : cB (mayL S.length A) s l
  · rw [hc] at hxm; simp at hxm; omega
  · rw [hc] at hxm; simp only [if_true] at hxm; split at hxm <;> omega
/-- The search, a skier and a lane set apart. -/
theorem wo_solve {S N : List Int} {A : List (Int × Int)} (O : Bo S N A) {s l : Nat} (hs : s < S.length) (hl : l < S.length) {x : Int} (hx0 : 0 ≤ x) (hxm : x ≤ mostI S N (mayL S.length A) s l) :
    Sm Tryz.prog E 27 [.ptr 0 0 0 92] (hdB (woS S s x) (woS N l x) A (woP S A s l) Tb.z) (fun v h => ∃ d : Tb, h = hdB (woS S s x) (woS N l x) A (woP S A s l) d ∧ ((v = .d .nil ∧ Fe S N (mayL S.length A) s l x) ∨
      (∃ a w, v = lsV (a :: w) ∧ ¬ Fe S N (mayL S.length A) s l x ∧ (a :: w).Pairwise (· < ·) ∧ (∀ k ∈ a :: w, k < S.length) ∧ 0 < lack S.length (wS (fn S) s x) (wS (fn N) l x) (wC (cP (mayL S.length A)) s l) (fun k => k ∈ a :: w) S.length))) := by
  have hb := wo_bounds O hs hl hx0 hxm
  have h6 := O.h6
  have hN := O.hN
  have hSl : (woS S s x).length = S.length := by unfold woS; rw [List.length_set]
  have hNl : (woS N l x).length = S.length := by unfold woS; rw [List.length_set, hN]
  have b1 : ∀ q, q < S.length → 0 ≤ fn (woS S s x) q ∧ fn (woS S s x) q ≤ 8 := fun q hq => by
    have := O.s q hq
    unfold woS
    rw [fn_wS hs]
    unfold wS
    split
    · rename_i h; subst h; omega
    · exact this
  have b2 : ∀ q, q < S.length → 0 ≤ fn (woS N l x) q ∧ fn (woS N l x) q ≤ 8 := fun q hq => by
    have := O.n q hq
    unfold woS
    rw [fn_wS (by omega)]
    unfold wS
    split
    · rename_i h; subst h; omega
    · omega
  refine Sm.mono (solve27B (S := woS S s x) (N := woS N l x) (A := A) (ps := woP S A s l) (by omega) (by omega) (fun q hq => (b1 q (by omega)).2) (fun q hq => (b1 q (by omega)).1) (fun q hq => b2 q (by omega))) ?_
  rintro v h ⟨d, _, rfl, h⟩
  rw [hSl] at h
  refine ⟨d, rfl, ?_⟩
  have hfe := wo_fe (A := A) hN hs hl hx0 hxm
  rcases h with ⟨rfl, As⟩ | ⟨w, rfl, hne, hpw, hlt, hlk⟩
  · exact .inl ⟨rfl, hfe.1 ⟨_, As⟩⟩
  · obtain ⟨a, w, rfl⟩ : ∃ a w', w = a :: w' := by
      cases w with
      | nil => exact absurd rfl hne
      | cons a w => exact ⟨a, w, rfl⟩
    refine .inr ⟨a, w, rfl, fun hf => ?_, hpw, hlt, ?_⟩
    · obtain ⟨h, As⟩ := hfe.2 hf
      have := Part.short As (fun k => k ∈ a :: w)
      unfold woS woP at hlk
      omega
    · have := wo_lack (A := A) x hN hs hl (fun k => k ∈ a :: w)
      unfold woS woP at hlk
      rw [← this]; exact hlk
theorem span34 {S N : List Int} {A : List (Int × Int)} (O : Bo S N A) (t : Tb) {s l : Nat} (hs : s < S.length) (hl : l < S.length) (he : ∃ h, Asg S.length (fn S) (fn N) (cP (mayL S.length A)) h) :
    Sm Tryz.prog E 34 [.ptr 0 0 0 92, .d (.int .i64 s), .d (.int .i64 l)] (hdA S N A (mayL S.length A) t) (fun v h => (∃ lo hi, v = .d (.agg [.int .i64 lo, .int .i64 hi]) ∧ SpanP S N (mayL S.length A) s l lo hi) ∧ h = hdA S N A (mayL S.length A) t) := by
  have h6 := O.h6
  have hN := O.hN
  have hs8 := O.s s hs
  have hl8 := O.n l hl
  have hA := O.a
  have hm := most37 S N A (mayL S.length A) t hs (l := l) (by omega)
  have hmb : 0 ≤ mostI S N (mayL S.length A) s l ∧ mostI S N (mayL S.length A) s l ≤ 8 := by
    unfold mostI
    split
    · split <;> omega
    · omega
  refine sm_of HE true (by kernel_rfl) ?_
  unfold hdA dkA mpO at hm ⊢
  conv => whnf
  refine Sm.mono hm ?_
  rintro v h ⟨rfl, rfl⟩
  conv => whnf
  rw [wrap_i64 (n := mostI S N (mayL S.length A) s l + 1) (by omega) (by omega)]
  refine loops_by (fun y : Nat × Int × Int => match y with | (x, lo, hi) => ⟨34, [(0, .ptr 0 0 0 92), (1, .d (.int .i64 s)), (2, .d (.int .i64 l)), (6, .ptr 2 0 0 2), (7, .ptr 3 0 0 2), (14, .d (.int .i64 (mostI S N (mayL S.length A) s l + 1))), (15, .d (.int .i64 x))], .unk,
      [dkA S N A 1 t, mpO (mayL S.length A), .row (.ds [.int .i64 0, .int .i64 0]) 0 0 [], .row (.ds [.int .i64 lo, .int .i64 hi]) 0 0 []], []⟩)
    (fun y => (y.1 : Int) ≤ mostI S N (mayL S.length A) s l + 1 ∧ SpanI S N (mayL S.length A) s l y.1 y.2.1 y.2.2) (fun y => (mostI S N (mayL S.length A) s l + 1).toNat - y.1) (0, -1, 0) ⟨by simp only; omega, .inl ⟨rfl, rfl, fun y h1 h2 => absurd h1 (by simp only at h2; omega)⟩⟩ ?_
  rintro f ⟨x, lo, hi⟩ ⟨hx, I⟩ ih
  simp only at hx I
  unfold dkA mpO
  conv => whnf
  cases h1 : ltI (x : Int) (mostI S N (mayL S.length A) s l + 1)
  case false =>
    have h1 := ltI_f h1
    have hxe : (x : Int) = mostI S N (mayL S.length A) s l + 1 := by omega
    rw [hxe] at I
    conv => whnf
    exact ⟨⟨lo, hi, rfl, I.done hs hl he⟩, rfl⟩
  have h1 := ltI_t h1
  have hw := without36 S N A t hs hN hl (by omega) (by omega) (x := x) (by omega) (by omega) (by omega)
  have hso := wo_solve O hs hl (x := x) (by omega) (by omega)
  unfold hdA dkA mpO dkB at hw
  unfold hdB dkB mpO at hso
  conv => whnf
  refine Sm.mono hw ?_
  rintro v h ⟨rfl, rfl⟩
  conv => whnf
  refine Sm.mono hso ?_
  rintro v h ⟨d, rfl, ⟨rfl, hfe⟩ | ⟨a, w, rfl, hfe, _⟩⟩
  · rcases I with ⟨rfl, rfl, hI⟩ | ⟨h0, hlx, hlo, hhi, hI⟩
    · conv => whnf
      rw [wrap_succ (by omega)]
      refine ih (x + 1, x, x) ⟨by simp only; omega, .inr ⟨by simp only; omega, by simp only; omega, hfe, hfe, fun y h2 h3 => ?_⟩⟩ (by simp only; omega)
      have := hI y (h3.most hs hl).1
      simp only at h2 ⊢
      by_cases hy : y < x
      · exact absurd h3 (this hy)
      · omega
    · conv => whnf
      rw [ltI_ff (a := lo) (b := 0) h0]
      conv => whnf
      rw [wrap_succ (by omega)]
      refine ih (x + 1, lo, x) ⟨by simp only; omega, .inr ⟨h0, by simp only; omega, hlo, hfe, fun y h2 h3 => ?_⟩⟩ (by simp only; omega)
      simp only at h2 ⊢
      by_cases hy : y < x
      · have := hI y hy h3
        exact ⟨by omega, by omega⟩
      · exact ⟨by omega, by omega⟩
  · conv => whnf
    rw [wrap_succ (by omega)]
    refine ih (x + 1, lo, hi) ⟨by simp only; omega, ?_⟩ (by simp only; omega)
    simp only
    rcases I with ⟨rfl, rfl, hI⟩ | ⟨h0, hlx, hlo, hhi, hI⟩
    · refine .inl ⟨rfl, rfl, fun y h2 h3 h4 => ?_⟩
      by_cases hy : y < x
      · exact hI y h2 hy h4
      · obtain rfl : y = x := by omega
        exact hfe h4
    · refine .inr ⟨h0, by omega, hlo, hhi, fun y h2 h3 => ?_⟩
      by_cases hy : y < x
      · exact hI y hy h3
      · obtain rfl : y = x := by omega
        exact absurd h3 hfe
end Go.Proofs.Dx
end
