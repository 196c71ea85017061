/-
  TopLaid: the reference: whether a table is an assignment.
-/
import Derived.Test.YtldpapiaonchaaaGreatDoorDxL0
namespace Go.Proofs.Dx
open Go Go.Ab Go.Proofs.Dw
set_option maxRecDepth 100000
set_option maxHeartbeats 40000000
def hf (H : List (List Int)) (s l : Nat) : Int := fn ((H[s]?).getD []) l
structure FitP (S N : List Int) (A : List (Int × Int)) (H : List (List Int)) : Prop where
  len : H.length = S.length
  rows : ∀ r ∈ H, r.length = S.length
  asg : Asg S.length (fn S) (fn N) (cP (mayL S.length A)) (hf H)
theorem Fits10 {S N : List Int} {A : List (Int × Int)} (O : OkB S N A) (hA : A.length < 4611686018427387904) (H : List (List Int)) (hH : H.length < 4611686018427387904) :
    Sm Tryz.prog E 10 [.d (boD S N A), .d (.slice H.length 1 (encLL H))] [] (fun v h => (∃ b e, v = .d (.tuple [.bool b, .int .i64 e]) ∧ (b = true ↔ FitP S N A H) ∧ (b = true → e = 0)) ∧ h = []) := by
  have hN := O.hN
  have hn8 := O.h1
  have hck := Check5 S N A hA
  have hcan := fun (s l : Nat) => can28 S N A s l hA
  have no : ∀ e : Int, ¬ FitP S N A H → (∃ b e', V.d (.tuple [.bool false, .int .i64 e]) = V.d (.tuple [.bool b, .int .i64 e']) ∧ (b = true ↔ FitP S N A H) ∧ (b = true → e' = 0)) := fun e h => ⟨false, e, rfl, ⟨fun h1 => (Bool.noConfusion h1 : _), fun h1 => absurd h1 h⟩, fun h1 => (Bool.noConfusion h1 : _)⟩
  refine sm_of HE true (by kernel_rfl) ?_
  unfold boD boL at hck hcan ⊢
  conv => whnf
  refine Sm.mono hck ?_
  rintro v h ⟨⟨e, rfl, he⟩, rfl⟩
  obtain rfl := he.2 O
  conv => whnf
  cases g : eqI (H.length : Int) (S.length : Int)
  · have g := eqI_f g
    conv => whnf
    exact ⟨no 2 fun F => g (by rw [F.len]), rfl⟩
  have g : H.length = S.length := by have := eqI_t g; omega
  conv => whnf
  refine loops_by (fun i : Nat => ⟨116, [(1, .d (.slice H.length 1 (encLL H))), (2, .ptr 0 0 0 3), (4, .d (.bool false)), (5, .d (.int .i64 0)), (7, .d (.int .i64 S.length)), (8, .d (.int .i64 i))], .unk, [.row (.ds (boL S N A)) 0 0 []], []⟩) (fun i => i ≤ S.length ∧ ∀ (q : Nat) r, q < i → H[q]? = some r → r.length = S.length) (fun i => S.length - i) 0 ⟨Nat.zero_le _, fun q r h => absurd h (by omega)⟩ ?_
  rintro f i ⟨hi, hI⟩ ih
  unfold boL
  conv => whnf
  cases h1 : ltI (i : Int) (S.length : Int)
  case true =>
    have h1 := ltI_t h1
    obtain ⟨r, hr⟩ := at_some (l := H) (i := i) (by omega)
    conv => whnf
    rw [blt_t (i := i) (n := H.length) (by omega)]
    conv => whnf
    rw [encLL_get1 hr]
    conv => whnf
    cases h2 : eqI (r.length : Int) (S.length : Int)
    · have h2 := eqI_f h2
      conv => whnf
      exact ⟨no 2 fun F => h2 (by rw [F.rows r (List.mem_of_getElem? hr)]), rfl⟩
    have h2 := eqI_t h2
    conv => whnf
    rw [wrap_succ (by omega)]
    refine ih (i + 1) ⟨by omega, fun q r' hq hr' => ?_⟩ (by omega)
    by_cases hqi : q = i
    · subst hqi; rw [hr] at hr'; cases hr'; omega
    · exact hI q r' (by omega) hr'
  have h1 := ltI_f h1
  have hrow : ∀ q, q < S.length → ∃ r, H[q]? = some r ∧ r.length = S.length ∧ ∀ k, k < S.length → r[k]? = some (hf H q k) := fun q hq => by
    obtain ⟨r, hr⟩ := at_some (l := H) (i := q) (by omega)
    have hl := hI q r (by omega) hr
    refine ⟨r, hr, hl, fun k hk => ?_⟩
    unfold hf
    rw [hr]
    exact at_fn (by omega)
  have hrows : ∀ r ∈ H, r.length = S.length := fun r hr => by
    obtain ⟨q, hq⟩ := List.getElem?_of_mem hr
    exact hI q r (by have := lt_of_at hq; omega) hq
  clear ih hI
  conv => whnf
  refine loops_by (fun i : Nat => ⟨116, [(1, .d (.slice H.length 1 (encLL H))), (2, .ptr 0 0 0 3), (4, .d (.bool false)), (5, .d (.int .i64 0)), (7, .d (.int .i64 S.length)), (9, .d (.int .i64 i))], .unk, [.row (.ds (boL S N A)) 0 0 []], []⟩)
    (fun i => i ≤ S.length ∧ ∀ q, q < i → (∀ k, k < S.length → 0 ≤ hf H q k ∧ (0 < hf H q k → cP (mayL S.length A) q k)) ∧ sumR S.length (fun k => hf H q k) ≤ fn S q ∧ sumR S.length (fun k => hf H k q) = fn N q) (fun i => S.length - i) 0 ⟨Nat.zero_le _, fun q h => absurd h (by omega)⟩ ?_
  rintro f2 i ⟨hi, hI⟩ ih
  unfold boL
  conv => whnf
  cases h1 : ltI (i : Int) (S.length : Int)
  case false =>
    have h1 := ltI_f h1
    obtain rfl : i = S.length := by omega
    conv => whnf
    exact ⟨⟨true, 0, rfl, ⟨fun _ => ⟨g, hrows, ⟨fun s l hs hl => ((hI s hs).1 l hl).1, fun s l hs hl => ((hI s hs).1 l hl).2, fun s hs => (hI s hs).2.1, fun l hl => (hI l hl).2.2⟩⟩, fun _ => rfl⟩, fun _ => rfl⟩, rfl⟩
  have h1 := ltI_t h1
  have hiS : i < S.length := by omega
  obtain ⟨r, hr, hrl, hrk⟩ := hrow i hiS
  conv => whnf
  refine loops_by (fun x : Nat × Int × Int => match x with | (k, a, b) => ⟨116, [(1, .d (.slice H.length 1 (encLL H))), (2, .ptr 0 0 0 3), (4, .d (.bool false)), (5, .d (.int .i64 0)), (7, .d (.int .i64 S.length)), (9, .d (.int .i64 i)), (10, .d (.int .i64 a)), (11, .d (.int .i64 b)), (12, .d (.int .i64 k))], .unk, [.row (.ds (boL S N A)) 0 0 []], []⟩)
    (fun x => x.1 ≤ S.length ∧ x.2.1 = sumR x.1 (fun k => hf H i k) ∧ x.2.2 = sumR x.1 (fun k => hf H k i) ∧ (0 ≤ x.2.1 ∧ x.2.1 ≤ 5 * x.1) ∧ (0 ≤ x.2.2 ∧ x.2.2 ≤ 5 * x.1) ∧ ∀ k, k < x.1 → 0 ≤ hf H i k ∧ (0 < hf H i k → cP (mayL S.length A) i k)) (fun x => S.length - x.1) (0, 0, 0) ⟨Nat.zero_le _, rfl, rfl, ⟨by decide, by decide⟩, ⟨by decide, by decide⟩, fun k h => absurd h (by simp)⟩ ?_
  rintro f3 ⟨k, a, b⟩ ⟨hk, ha, hb, hab, hbb, hK⟩ ih3
  simp only at hk ha hb hab hbb hK
  unfold boL
  conv => whnf
  cases h2 : ltI (k : Int) (S.length : Int)
  case true =>
    have h2 := ltI_t h2
    have hkS : k < S.length := by omega
    obtain ⟨r2, hr2, hr2l, hr2k⟩ := hrow k hkS
    have hx := hrk k hkS
    have hy := hr2k i hiS
    conv => whnf
    rw [blt_t (i := i) (n := H.length) (by omega)]
    conv => whnf
    rw [encLL_get1 hr]
    conv => whnf
    rw [blt_t (i := k) (n := r.length) (by omega)]
    conv => whnf
    rw [encI_get1 hx]
    conv => whnf
    refine Rets.use (outside_ok (hf H i k) 0 5) ?_
    cases h3 : inB (hf H i k) 0 5
    · have h3 := inB_false h3
      conv => whnf
      exact ⟨no 0 fun F => h3 (by have := hit_le F.asg hiS hkS; have := O.n k hkS; omega), rfl⟩
    have h3 := inB_true h3
    conv => whnf
    rw [blt_t (i := k) (n := H.length) (by omega)]
    conv => whnf
    rw [encLL_get1 hr2]
    conv => whnf
    rw [blt_t (i := i) (n := r2.length) (by omega)]
    conv => whnf
    rw [encI_get1 hy]
    conv => whnf
    refine Rets.use (outside_ok (hf H k i) 0 5) ?_
    cases h4 : inB (hf H k i) 0 5
    · have h4 := inB_false h4
      conv => whnf
      exact ⟨no 0 fun F => h4 (by have := hit_le F.asg hkS hiS; have := O.n i hiS; omega), rfl⟩
    have h4 := inB_true h4
    conv => whnf
    rw [blt_t (i := i) (n := H.length) (by omega)]
    conv => whnf
    rw [encLL_get1 hr]
    conv => whnf
    rw [blt_t (i := k) (n := r.length) (by omega)]
    conv => whnf
    rw [encI_get1 hx]
    conv => whnf
    have hnext : ∀ c : 0 < hf H i k → cP (mayL S.length A) i k, (0 ≤ a + hf H i k ∧ a + hf H i k ≤ 5 * ((k + 1 : Nat) : Int)) ∧ (0 ≤ b + hf H k i ∧ b + hf H k i ≤ 5 * ((k + 1 : Nat) : Int)) ∧ ∀ j, j < k + 1 → 0 ≤ hf H i j ∧ (0 < hf H i j → cP (mayL S.length A) i j) := fun c => by
      refine ⟨by omega, by omega, fun j hj => ?_⟩
      by_cases hjk : j = k
      · subst hjk; exact ⟨h3.1, c⟩
      · exact hK j (by omega)
    cases h5 : ltI 0 (hf H i k)
    case false =>
      have h5 := ltI_f h5
      conv => whnf
      rw [blt_t (i := i) (n := H.length) (by omega)]
      conv => whnf
      rw [encLL_get1 hr]
      conv => whnf
      rw [blt_t (i := k) (n := r.length) (by omega)]
      conv => whnf
      rw [encI_get1 hx]
      conv => whnf
      rw [wrap_i64 (n := a + hf H i k) (by omega) (by omega)]
      conv => whnf
      rw [blt_t (i := k) (n := H.length) (by omega)]
      conv => whnf
      rw [encLL_get1 hr2]
      conv => whnf
      rw [blt_t (i := i) (n := r2.length) (by omega)]
      conv => whnf
      rw [encI_get1 hy]
      conv => whnf
      rw [wrap_i64 (n := b + hf H k i) (by omega) (by omega)]
      conv => whnf
      rw [wrap_succ (by omega)]
      have hn := hnext fun h => absurd h (by omega)
      exact ih3 (k + 1, a + hf H i k, b + hf H k i) ⟨by simp only; omega, by simp only; rw [sumR_succ, ← ha], by simp only; rw [sumR_succ, ← hb], hn.1, hn.2.1, hn.2.2⟩ (by simp only; omega)
    have h5 := ltI_t h5
    conv => whnf
    refine Rets.use (hcan i k) ?_
    cases h6 : canB A i k
    case false =>
      conv => whnf
      exact ⟨no 0 fun F => Bool.noConfusion (h6.symm.trans ((canB_iff hiS).2 (F.asg.can i k hiS hkS h5))), rfl⟩
    conv => whnf
    rw [blt_t (i := i) (n := H.length) (by omega)]
    conv => whnf
    rw [encLL_get1 hr]
    conv => whnf
    rw [blt_t (i := k) (n := r.length) (by omega)]
    conv => whnf
    rw [encI_get1 hx]
    conv => whnf
    rw [wrap_i64 (n := a + hf H i k) (by omega) (by omega)]
    conv => whnf
    rw [blt_t (i := k) (n := H.length) (by omega)]
    conv => whnf
    rw [encLL_get1 hr2]
    conv => whnf
    rw [blt_t (i := i) (n := r2.length) (by omega)]
    conv => whnf
    rw [encI_get1 hy]
    conv => whnf
    rw [wrap_i64 (n := b + hf H k i) (by omega) (by omega)]
    conv => whnf
    rw [wrap_succ (by omega)]
    have hn := hnext fun _ => (canB_iff hiS).1 h6
    exact ih3 (k + 1, a + hf H i k, b + hf H k i) ⟨by simp only; omega, by simp only; rw [sumR_succ, ← ha], by simp only; rw [sumR_succ, ← hb], hn.1, hn.2.1, hn.2.2⟩ (by simp only; omega)
  have h2 := ltI_f h2
  obtain rfl : k = S.length := by omega
  have hx := at_fn hiS
  have hy := at_fn (l := N) (q := i) (by omega)
  conv => whnf
  rw [blt_t (i := i) (n := S.length) (by omega)]
  conv => whnf
  rw [encI_get1 hx]
  conv => whnf
  cases h3 : ltI (fn S i) a
  case true =>
    have h3 := ltI_t h3
    conv => whnf
    exact ⟨no 0 fun F => by have := F.asg.row i hiS; omega, rfl⟩
  have h3 := ltI_f h3
  conv => whnf
  rw [blt_t (i := i) (n := N.length) (by omega)]
  conv => whnf
  rw [encI_get1 hy]
  conv => whnf
  cases h4 : eqI b (fn N i)
  case false =>
    have h4 := eqI_f h4
    conv => whnf
    exact ⟨no 0 fun F => h4 (by rw [hb]; exact F.asg.col i hiS), rfl⟩
  have h4 := eqI_t h4
  conv => whnf
  rw [wrap_succ (by omega)]
  refine ih (i + 1) ⟨by omega, fun q hq => ?_⟩ (by omega)
  by_cases hqi : q = i
  · subst hqi; exact ⟨hK, by rw [← ha]; exact h3, by rw [← hb]; exact h4⟩
  · exact hI q (by omega)
end Go.Proofs.Dx
