/-
  TopLaid: a bout is asked; hits, lanes that are short, reasons.
-/
import Derived.Test.YtldpapiaonchaaaGreatDoorDxP
import Derived.Test.YtldpapiaonchaaaGreatDoorDxH
section
namespace Go.Proofs.Dx
open Go Go.Ab Go.Proofs.Dw
set_option maxRecDepth 100000
set_option maxHeartbeats 40000000
structure OkT (S N : List Int) (A : List (Int × Int)) : Prop where
  ok : OkB S N A
  h6 : S.length ≤ 6
  hA : A.length ≤ 70
theorem OkT.bo {S N : List Int} {A : List (Int × Int)} (O : OkT S N A) : Bo S N A := ⟨O.ok.h1.1, O.h6, O.ok.hN, O.ok.s, O.ok.n, O.hA⟩
def Ex1 (S N : List Int) (A : List (Int × Int)) : Prop := ∃ h, Asg S.length (fn S) (fn N) (cP (mayL S.length A)) h
theorem asked26 {S N : List Int} {A : List (Int × Int)} (O : OkT S N A) : Sm Tryz.prog E 26 [.d (boD S N A)] [] (fun v h => v = .tuple [.ptr 0 0 0 92, .d (.int .i64 0)] ∧ h = hdA S N A (mayL S.length A) Tb.z) := by
  have h6 := O.h6
  have hA := O.hA
  have hck := Check46 O.ok (by omega)
  have hop := opened32A S N A (by omega) (by omega)
  refine sm_of HE false (by kernel_rfl) ?_
  unfold boD boL at hck ⊢
  unfold dkA mpO at hop
  conv => whnf
  refine Rets.use hck ?_
  conv => whnf
  refine Sm.mono hop ?_
  rintro v h ⟨rfl, rfl⟩
  unfold hdA dkA mpO
  conv => whnf
  exact ⟨rfl, rfl⟩
theorem solveT {S N : List Int} {A : List (Int × Int)} (O : OkT S N A) : Sm Tryz.prog E 27 [.ptr 0 0 0 92] (hdA S N A (mayL S.length A) Tb.z) (SolvePA S N A (mayL S.length A)) :=
  solve27A O.h6 O.ok.hN (fun s hs => (O.ok.s s hs).2) (fun s hs => (O.ok.s s hs).1) (fun l hl => by have := O.ok.n l hl; omega)
theorem not_ex {S N : List Int} {A : List (Int × Int)} {w : List Nat} (h : 0 < lack S.length (fn S) (fn N) (cP (mayL S.length A)) (fun l => l ∈ w) S.length) : ¬ Ex1 S N A := fun ⟨_, B⟩ => by have := Part.short B (fun l => l ∈ w); omega
theorem solved22 {S N : List Int} {A : List (Int × Int)} (O : OkT S N A) : Sm Tryz.prog E 22 [.d (boD S N A)] [] (fun v h => ∃ t : Tb, h = hdA S N A (mayL S.length A) t ∧ t.Ls ∧ ((v = .tuple [.ptr 0 0 0 92, .d (.int .i64 0)] ∧ Asg S.length (fn S) (fn N) (cP (mayL S.length A)) t.st.h) ∨ (v = .tuple [.ptr 0 0 0 92, .d (.int .i64 7)] ∧ ¬ Ex1 S N A))) := by
  have hak := asked26 O
  have hso := solveT O
  refine sm_of HE false (by kernel_rfl) ?_
  unfold boD boL at hak ⊢
  unfold hdA dkA mpO at hak hso
  conv => whnf
  refine Sm.mono hak ?_
  rintro v h ⟨rfl, rfl⟩
  conv => whnf
  refine Sm.mono hso ?_
  rintro v h ⟨d, Od, rfl, ⟨rfl, As⟩ | ⟨w, rfl, hne, _, _, hlk⟩⟩
  · unfold hdA dkA mpO
    conv => whnf
    exact ⟨d, rfl, Od.ls, .inl ⟨rfl, As⟩⟩
  · have hx := not_ex hlk
    cases w with
    | nil => exact absurd rfl hne
    | cons a w =>
      unfold hdA dkA mpO
      conv => whnf
      exact ⟨d, rfl, Od.ls, .inr ⟨rfl, hx⟩⟩
theorem pointed35 {S N : List Int} {A : List (Int × Int)} (O : OkT S N A) (he : Ex1 S N A) (s l : Int) : Sm Tryz.prog E 35 [.d (boD S N A), .d (.int .i64 s), .d (.int .i64 l)] [] (fun v h =>
    (∃ t : Tb, h = hdA S N A (mayL S.length A) t ∧ v = .tuple [.ptr 0 0 0 92, .d (.int .i64 0)] ∧ (0 ≤ s ∧ s ≤ S.length - 1) ∧ (0 ≤ l ∧ l ≤ S.length - 1)) ∨
    (h = [] ∧ v = .d (.tuple [.nilptr, .int .i64 1]) ∧ ¬ ((0 ≤ s ∧ s ≤ S.length - 1) ∧ (0 ≤ l ∧ l ≤ S.length - 1)))) := by
  have hak := asked26 O
  have hso := solveT O
  have hN := O.ok.hN
  have h6 := O.h6
  have h1 := O.ok.h1
  refine sm_of HE false (by kernel_rfl) ?_
  unfold boD boL at hak ⊢
  unfold hdA dkA mpO at hak hso
  conv => whnf
  refine Sm.mono hak ?_
  rintro v h ⟨rfl, rfl⟩
  conv => whnf
  rw [wrap_i64 (n := (S.length : Int) - 1) (by omega) (by omega)]
  refine Rets.use (within_ok s 0 _) ?_
  cases g1 : inB s 0 ((S.length : Int) - 1)
  · have g1 := inB_false g1
    conv => whnf
    exact .inr ⟨rfl, rfl, fun h => g1 h.1⟩
  have g1 := inB_true g1
  conv => whnf
  rw [wrap_i64 (n := (N.length : Int) - 1) (by omega) (by omega)]
  refine Rets.use (within_ok l 0 _) ?_
  cases g2 : inB l 0 ((N.length : Int) - 1)
  · have g2 := inB_false g2
    conv => whnf
    exact .inr ⟨rfl, rfl, fun h => g2 (by omega)⟩
  have g2 := inB_true g2
  conv => whnf
  refine Sm.mono hso ?_
  rintro v h ⟨d, Od, rfl, ⟨rfl, As⟩ | ⟨w, rfl, hne, _, _, hlk⟩⟩
  · unfold hdA dkA mpO
    conv => whnf
    exact .inl ⟨d, rfl, rfl, g1, by omega⟩
  · exact absurd he (not_ex hlk)
theorem Hits14 {S N : List Int} {A : List (Int × Int)} (O : OkT S N A) (he : Ex1 S N A) (s l : Int) : Sm Tryz.prog E 14 [.d (boD S N A), .d (.int .i64 s), .d (.int .i64 l)] [] (fun v h => h = [] ∧
    ((∃ (a b : Nat) (lo hi : Int), s = a ∧ l = b ∧ a < S.length ∧ b < S.length ∧ v = .d (.tuple [.agg [.int .i64 lo, .int .i64 hi], .int .i64 0]) ∧ SpanP S N (mayL S.length A) a b lo hi) ∨
     (v = .d (.tuple [.agg [.int .i64 0, .int .i64 0], .int .i64 1]) ∧ ¬ ((0 ≤ s ∧ s ≤ S.length - 1) ∧ (0 ≤ l ∧ l ≤ S.length - 1))))) := by
  have hpt := pointed35 O he s l
  refine sm_of HE true (by kernel_rfl) ?_
  unfold boD boL at hpt ⊢
  conv => whnf
  refine Sm.mono hpt ?_
  rintro v h (⟨t, rfl, rfl, g1, g2⟩ | ⟨rfl, rfl, g⟩)
  · obtain ⟨a, rfl⟩ : ∃ a : Nat, s = a := ⟨s.toNat, by omega⟩
    obtain ⟨b, rfl⟩ : ∃ b : Nat, l = b := ⟨l.toNat, by omega⟩
    have hsp := span34 O.bo t (s := a) (l := b) (by omega) (by omega) he
    unfold hdA dkA mpO at hsp ⊢
    conv => whnf
    refine Sm.mono hsp ?_
    rintro v h ⟨⟨lo, hi, rfl, P⟩, rfl⟩
    conv => whnf
    exact ⟨rfl, .inl ⟨a, b, lo, hi, rfl, rfl, by omega, by omega, rfl, P⟩⟩
  · conv => whnf
    exact ⟨rfl, .inr ⟨rfl, g⟩⟩
theorem Short9 {S N : List Int} {A : List (Int × Int)} (O : OkT S N A) : Sm Tryz.prog E 9 [.d (boD S N A)] [] (fun v h => h = [] ∧
    ((v = .d (.tuple [.nil, .int .i64 6]) ∧ Ex1 S N A) ∨ (∃ (a : Nat) (w : List Nat), v = .d (.tuple [.slice (w.length + 1) 1 (encI (nL (a :: w))), .int .i64 0]) ∧ (a :: w).Pairwise (· < ·) ∧ (∀ k ∈ a :: w, k < S.length) ∧ 0 < lack S.length (fn S) (fn N) (cP (mayL S.length A)) (fun l => l ∈ a :: w) S.length))) := by
  have hak := asked26 O
  have hso := solveT O
  refine sm_of HE true (by kernel_rfl) ?_
  unfold boD boL at hak ⊢
  unfold hdA dkA mpO at hak hso
  conv => whnf
  refine Sm.mono hak ?_
  rintro v h ⟨rfl, rfl⟩
  conv => whnf
  refine Sm.mono hso ?_
  rintro v h ⟨d, Od, rfl, ⟨rfl, As⟩ | ⟨w, rfl, hne, hpw, hlt, hlk⟩⟩
  · unfold hdA dkA mpO
    conv => whnf
    exact ⟨rfl, .inl ⟨rfl, _, As⟩⟩
  · cases w with
    | nil => exact absurd rfl hne
    | cons a w =>
      unfold hdA dkA mpO
      conv => whnf
      exact ⟨rfl, .inr ⟨a, w, rfl, hpw, hlt, hlk⟩⟩
end Go.Proofs.Dx
end
section
/-
  TopLaid: reasons for the ends of a span.
-/
namespace Go.Proofs.Dx
open Go Go.Ab Go.Proofs.Dw
set_option maxRecDepth 100000
set_option maxHeartbeats 40000000
/-- Lanes that are short if a skier has hit a lane so often. -/
def WhyP (S N : List Int) (A : List (Int × Int)) (a b : Nat) (x : Int) (d : D) : Prop :=
  ∃ (c : Nat) (w : List Nat), d = .slice (w.length + 1) 1 (encI (nL (c :: w))) ∧ (c :: w).Pairwise (· < ·) ∧ (∀ k ∈ c :: w, k < S.length) ∧ 0 < lack S.length (wS (fn S) a x) (wS (fn N) b x) (wC (cP (mayL S.length A)) a b) (fun k => k ∈ c :: w) S.length
def ReasP (S N : List Int) (A : List (Int × Int)) (a b : Nat) (d1 d2 : D) : Prop := ∃ lo hi, SpanP S N (mayL S.length A) a b lo hi ∧
  ((lo = 0 ∧ d1 = .nil) ∨ (0 < lo ∧ WhyP S N A a b (lo - 1) d1)) ∧ ((hi = mostI S N (mayL S.length A) a b ∧ d2 = .nil) ∨ (hi < mostI S N (mayL S.length A) a b ∧ WhyP S N A a b (hi + 1) d2))
theorem Reasons15 {S N : List Int} {A : List (Int × Int)} (O : OkT S N A) (he : Ex1 S N A) {a b : Nat} (ha : a < S.length) (hb : b < S.length) : Sm Tryz.prog E 15 [.d (boD S N A), .d (.int .i64 a), .d (.int .i64 b)] [] (fun v h => h = [] ∧ ∃ d1 d2, v = .d (.tuple [d1, d2, .int .i64 0]) ∧ ReasP S N A a b d1 d2) := by
  have hpt := pointed35 O he a b
  have hN := O.ok.hN
  have h6 := O.h6
  have hA := O.hA
  have hsb := O.ok.s a ha
  have hnb := O.ok.n b hb
  refine sm_of HE true (by kernel_rfl) ?_
  unfold boD boL at hpt ⊢
  conv => whnf
  refine Sm.mono hpt ?_
  rintro v h (⟨t, rfl, rfl, g1, g2⟩ | ⟨rfl, rfl, g⟩)
  rotate_left
  · exact absurd ⟨⟨by omega, by omega⟩, by omega, by omega⟩ g
  have hsp := span34 O.bo t ha hb he
  have hmo := most37 S N A (mayL S.length A) t ha (l := b) (by omega)
  have hwo := fun (x : Int) (h1 : 0 ≤ x) (h2 : x ≤ 100) => without36 S N A t ha hN hb (by omega) (by omega) (x := x) ⟨h1, h2⟩ (by omega) (by omega)
  have hso := fun (x : Int) (h1 : 0 ≤ x) (h2 : x ≤ mostI S N (mayL S.length A) a b) => wo_solve O.bo ha hb h1 h2
  have hmb : mostI S N (mayL S.length A) a b ≤ 8 := by
    unfold mostI
    split
    · split <;> omega
    · omega
  unfold hdA dkA mpO at hsp hmo ⊢
  unfold hdA dkA mpO dkB at hwo
  unfold hdB dkB mpO at hso
  conv => whnf
  refine Sm.mono hsp ?_
  rintro v h ⟨⟨lo, hi, rfl, P⟩, rfl⟩
  have hlo := P.flo.most ha hb
  have hhi := P.fhi.most ha hb
  conv => whnf
  cases g3 : ltI 0 lo
  · have g3 := ltI_f g3
    conv => whnf
    refine Sm.mono hmo ?_
    rintro v h ⟨rfl, rfl⟩
    conv => whnf
    cases g4 : ltI hi (mostI S N (mayL S.length A) a b)
    · have g4 := ltI_f g4
      conv => whnf
      exact ⟨rfl, _, _, rfl, lo, hi, P, .inl ⟨by omega, rfl⟩, .inl ⟨by omega, rfl⟩⟩
    · have g4 := ltI_t g4
      conv => whnf
      rw [wrap_i64 (n := hi + 1) (by omega) (by omega)]
      refine Sm.mono (hwo (hi + 1) (by omega) (by omega)) ?_
      rintro v h ⟨rfl, rfl⟩
      conv => whnf
      refine Sm.mono (hso (hi + 1) (by omega) (by omega)) ?_
      rintro v h ⟨d, rfl, ⟨rfl, hfe⟩ | ⟨c2, w2, rfl, _, i1, i2, i3⟩⟩
      · have := P.all _ hfe; omega
      · conv => whnf
        exact ⟨rfl, _, _, rfl, lo, hi, P, .inl ⟨by omega, rfl⟩, .inr ⟨g4, c2, w2, rfl, i1, i2, i3⟩⟩
  · have g3 := ltI_t g3
    conv => whnf
    rw [wrap_i64 (n := lo - 1) (by omega) (by omega)]
    refine Sm.mono (hwo (lo - 1) (by omega) (by omega)) ?_
    rintro v h ⟨rfl, rfl⟩
    conv => whnf
    refine Sm.mono (hso (lo - 1) (by omega) (by omega)) ?_
    rintro v h ⟨d, rfl, ⟨rfl, hfe⟩ | ⟨c1, w1, rfl, _, j1, j2, j3⟩⟩
    · have := P.all _ hfe; omega
    conv => whnf
    refine Sm.mono hmo ?_
    rintro v h ⟨rfl, rfl⟩
    conv => whnf
    cases g4 : ltI hi (mostI S N (mayL S.length A) a b)
    · have g4 := ltI_f g4
      conv => whnf
      exact ⟨rfl, _, _, rfl, lo, hi, P, .inr ⟨g3, c1, w1, rfl, j1, j2, j3⟩, .inl ⟨by omega, rfl⟩⟩
    · have g4 := ltI_t g4
      conv => whnf
      rw [wrap_i64 (n := hi + 1) (by omega) (by omega)]
      refine Sm.mono (hwo (hi + 1) (by omega) (by omega)) ?_
      rintro v h ⟨rfl, rfl⟩
      conv => whnf
      refine Sm.mono (hso (hi + 1) (by omega) (by omega)) ?_
      rintro v h ⟨d, rfl, ⟨rfl, hfe⟩ | ⟨c2, w2, rfl, _, i1, i2, i3⟩⟩
      · have := P.all _ hfe; omega
      · conv => whnf
        exact ⟨rfl, _, _, rfl, lo, hi, P, .inr ⟨g3, c1, w1, rfl, j1, j2, j3⟩, .inr ⟨g4, c2, w2, rfl, i1, i2, i3⟩⟩
end Go.Proofs.Dx
end
