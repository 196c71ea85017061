/-
  TopLaid: the reference: what lanes prove, what they show.
-/
import Derived.Test.YtldpapiaonchaaaGreatDoorDxL0
namespace Go.Proofs.Dx
open Go Go.Ab Go.Proofs.Dw
set_option maxRecDepth 100000
set_option maxHeartbeats 40000000
noncomputable def lkW (S N : List Int) (A : List (Int × Int)) (w : List Nat) (but : Nat) : Int := lack S.length (fn S) (fn N) (cP (mayL S.length A)) (fun k => k ∈ w) but
theorem lk_bits {S N : List Int} {A : List (Int × Int)} {w : List Nat} {m : Nat} (h : ∀ j, m.testBit j = true ↔ j ∈ w) (but : Nat) : lack S.length (fn S) (fn N) (cP (mayL S.length A)) (fun l => m.testBit l = true) but = lkW S N A w but := lack_congr but fun l _ => h l
theorem lkW_in {S N : List Int} {A : List (Int × Int)} (O : OkB S N A) (w : List Nat) (but : Nat) : -100 ≤ lkW S N A w but ∧ lkW S N A w but ≤ 100 := by
  have h8 := O.h1
  have := sum_in (k := S.length) (Nat.le_refl _) fun q hq => lkg_in O (fun k => k ∈ w) but q hq
  rw [lkg_lack] at this
  unfold lkW
  omega
theorem Proves11 {S N : List Int} {A : List (Int × Int)} (O : OkB S N A) (hA : A.length < 4611686018427387904) (l : List Int) (hl : l.length < 4611686018427387904) : Sm Tryz.prog E 11 [.d (boD S N A), .d (sl l)] [] (fun v h => (∃ k e, v = .d (.tuple [.int .i64 k, .int .i64 e]) ∧
    ((e = 0 ∧ ∃ w, l = nL w ∧ LaOk S.length w ∧ k = lkW S N A w S.length ∧ 0 < k) ∨ (e ≠ 0 ∧ ∀ w, l = nL w → LaOk S.length w → lkW S N A w S.length ≤ 0))) ∧ h = []) := by
  have hN := O.hN
  have hn8 := O.h1
  have hck := Check5 S N A hA
  have hla := lanes29 S N A l (by omega) hl
  have hlk := fun (set : Nat) (h : set < 1000000) => lacking30 O hA set h (-1) S.length (fun s hs => ⟨fun h => absurd h (by omega), fun h => absurd h (by omega)⟩)
  refine sm_of HE true (by kernel_rfl) ?_
  unfold boD boL at hck hla hlk ⊢
  conv => whnf
  refine Sm.mono hck ?_
  rintro v h ⟨⟨e, rfl, he⟩, rfl⟩
  obtain rfl := he.2 O
  conv => whnf
  refine Sm.mono hla ?_
  rintro v h ⟨⟨st, e, rfl, hP⟩, rfl⟩
  rw [hN] at hP
  conv => whnf
  cases g : eqI e 0
  case false =>
    have g := eqI_f g
    conv => whnf
    rcases hP with ⟨h, _⟩ | ⟨_, h⟩
    · exact absurd h g
    · exact ⟨⟨0, e, rfl, .inr ⟨g, fun w hw h2 => absurd h2 (h w hw)⟩⟩, rfl⟩
  obtain rfl := eqI_t g
  obtain ⟨w, m, rfl, hw, rfl, hm, hbit⟩ : ∃ (w : List Nat) (m : Nat), l = nL w ∧ LaOk S.length w ∧ st = m ∧ m < 1000000 ∧ ∀ j, m.testBit j = true ↔ j ∈ w := by
    rcases hP with ⟨_, h⟩ | ⟨h, _⟩
    · exact h
    · exact absurd rfl h
  have hlk := hlk m hm
  rw [lk_bits hbit] at hlk
  conv => whnf
  refine Rets.use hlk ?_
  conv => whnf
  cases g2 : ltI (lkW S N A w S.length) 1
  case true =>
    have g2 := ltI_t g2
    conv => whnf
    refine ⟨⟨0, 8, rfl, .inr ⟨by decide, fun w2 hw2 _ => ?_⟩⟩, rfl⟩
    obtain rfl := nL_inj hw2
    omega
  have g2 := ltI_f g2
  conv => whnf
  exact ⟨⟨_, 0, rfl, .inl ⟨rfl, w, rfl, hw, rfl, by omega⟩⟩, rfl⟩
/-- What lanes show. -/
structure ShowP (S N : List Int) (A : List (Int × Int)) (s l : Nat) (w : List Nat) (lo hi : Int) : Prop where
  lo1 : l ∈ w → (∀ k ∈ w, k ≠ l → ¬ cP (mayL S.length A) s k) → lo = if 0 < lkW S N A w s then lkW S N A w s else 0
  lo2 : ¬ (l ∈ w ∧ ∀ k ∈ w, k ≠ l → ¬ cP (mayL S.length A) s k) → lo = 0
  hi1 : l ∉ w → (∃ k ∈ w, k ≠ l ∧ cP (mayL S.length A) s k) → hi = if fn S s - lkW S N A w s < mostI S N (mayL S.length A) s l then fn S s - lkW S N A w s else mostI S N (mayL S.length A) s l
  hi2 : ¬ (l ∉ w ∧ ∃ k ∈ w, k ≠ l ∧ cP (mayL S.length A) s k) → hi = mostI S N (mayL S.length A) s l
theorem min_most {S N : List Int} {A : List (Int × Int)} {s l : Nat} (hs : s < S.length) (h : canB A s l = true) : minI (fn S s) (fn N l) = mostI S N (mayL S.length A) s l := by
  have hc : cB (mayL S.length A) s l = true := decide_eq_true ((canB_iff hs).1 h)
  unfold mostI minI
  rw [hc, ltI_eq]
  by_cases h : fn N l < fn S s
  · rw [decide_eq_true h]; simp [h]
  · rw [decide_eq_false h]; simp [h]
theorem zero_most {S N : List Int} {A : List (Int × Int)} {s l : Nat} (hs : s < S.length) (h : canB A s l = false) : mostI S N (mayL S.length A) s l = 0 := by
  have hc : cB (mayL S.length A) s l = false := decide_eq_false (fun h2 => by rw [(canB_iff hs).2 h2] at h; cases h)
  unfold mostI
  rw [hc]; simp
theorem Shows16 {S N : List Int} {A : List (Int × Int)} (O : OkB S N A) (hA : A.length < 4611686018427387904) {s q : Nat} (hs : s < S.length) (hq : q < S.length) (he : ∃ h, Asg S.length (fn S) (fn N) (cP (mayL S.length A)) h) (l : List Int) (hl : l.length < 4611686018427387904) :
    Sm Tryz.prog E 16 [.d (boD S N A), .d (.int .i64 s), .d (.int .i64 q), .d (sl l)] [] (fun v h => (∃ lo hi e, v = .d (.tuple [.agg [.int .i64 lo, .int .i64 hi], .int .i64 e]) ∧
    ((e = 0 ∧ ∃ w, l = nL w ∧ LaOk S.length w ∧ ShowP S N A s q w lo hi) ∨ (e ≠ 0 ∧ ∀ w, l = nL w → ¬ LaOk S.length w))) ∧ h = []) := by
  have hN := O.hN
  have hn8 := O.h1
  have hck := Check5 S N A hA
  have hla := lanes29 S N A l (by omega) hl
  have hlk := fun (set : Nat) (h : set < 1000000) => lacking30 O hA set h (s : Int) s (fun q _ => ⟨fun h => by omega, fun h => by omega⟩)
  have hpo := possible38 O hA he
  have hcan := fun (l : Nat) => can28 S N A s l hA
  have hsb := O.s s hs
  have hqb := O.n q hq
  have hx := at_fn hs
  have hy := at_fn (l := N) (q := q) (by omega)
  refine sm_of HE true (by kernel_rfl) ?_
  unfold boD boL at hck hla hlk hpo hcan ⊢
  conv => whnf
  refine Sm.mono hck ?_
  rintro v h ⟨⟨e, rfl, he⟩, rfl⟩
  obtain rfl := he.2 O
  conv => whnf
  rw [wrap_i64 (n := (S.length : Int) - 1) (by omega) (by omega)]
  refine Rets.use (outside_ok (s : Int) 0 _) ?_
  rw [inB_of (n := (s : Int)) (lo := 0) (hi := (S.length : Int) - 1) (by omega) (by omega)]
  conv => whnf
  rw [wrap_i64 (n := (N.length : Int) - 1) (by omega) (by omega)]
  refine Rets.use (outside_ok (q : Int) 0 _) ?_
  rw [inB_of (n := (q : Int)) (lo := 0) (hi := (N.length : Int) - 1) (by omega) (by omega)]
  conv => whnf
  refine Sm.mono hla ?_
  rintro v h ⟨⟨st, e, rfl, hP⟩, rfl⟩
  rw [hN] at hP
  conv => whnf
  cases g : eqI e 0
  case false =>
    have g := eqI_f g
    conv => whnf
    rcases hP with ⟨h, _⟩ | ⟨_, h⟩
    · exact absurd h g
    · exact ⟨⟨0, 0, e, rfl, .inr ⟨g, h⟩⟩, rfl⟩
  obtain rfl := eqI_t g
  obtain ⟨w, m, rfl, hw, rfl, hm, hbit⟩ : ∃ (w : List Nat) (m : Nat), l = nL w ∧ LaOk S.length w ∧ st = m ∧ m < 1000000 ∧ ∀ j, m.testBit j = true ↔ j ∈ w := by
    rcases hP with ⟨_, h⟩ | ⟨h, _⟩
    · exact h
    · exact absurd rfl h
  have hlk := hlk m hm
  rw [lk_bits hbit] at hlk
  have hhas := has39 m q hm (by omega)
  have hbq := hbit q
  have hlw := lkW_in O w s
  rw [nL_length] at hl
  unfold sl
  rw [nL_length]
  conv => whnf
  refine Rets.use hpo ?_
  conv => whnf
  refine loops_by (fun x : Nat × Bool => match x with | (i, b) => ⟨138, [(1, .d (.int .i64 s)), (2, .d (.int .i64 q)), (3, .d (.slice w.length 1 (encI (nL w)))), (4, .ptr 0 0 0 3), (8, .ptr 1 0 0 2), (9, .d (.int .i64 0)), (11, .d (.int .i64 m)), (13, .d (.bool b)), (14, .d (.int .i64 i))], .unk, [.row (.ds (boL S N A)) 0 0 [], .row (.ds [.int .i64 0, .int .i64 0]) 0 0 []], []⟩)
    (fun x => x.1 ≤ w.length ∧ (x.2 = true ↔ ∃ (j k : Nat), j < x.1 ∧ w[j]? = some k ∧ k ≠ q ∧ cP (mayL S.length A) s k)) (fun x => w.length - x.1) (0, false) ⟨Nat.zero_le _, ⟨fun h => (Bool.noConfusion h : _), fun ⟨j, k, h, _⟩ => absurd h (by simp)⟩⟩ ?_
  rintro f ⟨i, b⟩ ⟨hi, hb⟩ ih
  simp only at hi hb
  unfold boL
  conv => whnf
  cases h1 : ltI (i : Int) (w.length : Int)
  case true =>
    have h1 := ltI_t h1
    obtain ⟨k, hk⟩ := at_some (l := w) (i := i) (by omega)
    have hkn := nL_at hk
    conv => whnf
    cases b
    case true =>
      conv => whnf
      rw [wrap_succ (by omega)]
      refine ih (i + 1, true) ⟨by simp only; omega, ⟨fun _ => ?_, fun _ => rfl⟩⟩ (by simp only; omega)
      obtain ⟨j, k, h2, h3⟩ := hb.1 rfl
      exact ⟨j, k, by simp only; omega, h3⟩
    have hno : ¬ ∃ (j k : Nat), j < i ∧ w[j]? = some k ∧ k ≠ q ∧ cP (mayL S.length A) s k := fun h => Bool.noConfusion (hb.2 h)
    conv => whnf
    rw [blt_t (i := i) (n := w.length) (by omega)]
    conv => whnf
    rw [encI_get1 hkn]
    conv => whnf
    cases h2 : eqI (k : Int) (q : Int)
    case true =>
      have h2 := eqI_t h2
      conv => whnf
      rw [wrap_succ (by omega)]
      refine ih (i + 1, false) ⟨by simp only; omega, ⟨fun h => (Bool.noConfusion h : _), fun ⟨j, k2, h3, h4, h5, h6⟩ => ?_⟩⟩ (by simp only; omega)
      simp only at h3
      by_cases hji : j = i
      · subst hji; rw [hk] at h4; cases h4; exact absurd (by omega) h5
      · exact absurd ⟨j, k2, by omega, h4, h5, h6⟩ hno
    have h2 := eqI_f h2
    conv => whnf
    rw [blt_t (i := i) (n := w.length) (by omega)]
    conv => whnf
    rw [encI_get1 hkn]
    conv => whnf
    refine Rets.use (hcan k) ?_
    cases h3 : canB A s k
    case false =>
      conv => whnf
      rw [wrap_succ (by omega)]
      refine ih (i + 1, false) ⟨by simp only; omega, ⟨fun h => (Bool.noConfusion h : _), fun ⟨j, k2, h4, h5, h6, h7⟩ => ?_⟩⟩ (by simp only; omega)
      simp only at h4
      by_cases hji : j = i
      · subst hji; rw [hk] at h5; cases h5; rw [(canB_iff hs).2 h7] at h3; cases h3
      · exact absurd ⟨j, k2, by omega, h5, h6, h7⟩ hno
    conv => whnf
    rw [wrap_succ (by omega)]
    exact ih (i + 1, true) ⟨by simp only; omega, ⟨fun _ => ⟨i, k, by simp only; omega, hk, fun h => h2 (by rw [h]), (canB_iff hs).1 h3⟩, fun _ => rfl⟩⟩ (by simp only; omega)
  have h1 := ltI_f h1
  obtain rfl : i = w.length := by omega
  have hb : b = true ↔ ∃ k ∈ w, k ≠ q ∧ cP (mayL S.length A) s k := by
    rw [hb]
    constructor
    · rintro ⟨j, k, _, h2, h3⟩; exact ⟨k, List.mem_of_getElem? h2, h3⟩
    · rintro ⟨k, h2, h3⟩
      obtain ⟨j, hj⟩ := List.getElem?_of_mem h2
      exact ⟨j, k, lt_of_at hj, hj, h3⟩
  have hbf : b = false → ∀ k ∈ w, k ≠ q → ¬ cP (mayL S.length A) s k := fun h k h2 h3 h4 => by rw [hb.2 ⟨k, h2, h3, h4⟩] at h; cases h
  conv => whnf
  refine Rets.use (hcan q) ?_
  cases h2 : canB A s q
  · have hmo := zero_most (N := N) hs h2
    conv => whnf
    refine Rets.use hlk ?_
    conv => whnf
    refine Rets.use hhas ?_
    cases h3 : m.testBit q
    · have hnq : q ∉ w := fun h => by rw [hbq.2 h] at h3; cases h3
      conv => whnf
      refine Rets.use hhas ?_
      rw [h3]
      cases b
      · conv => whnf
        exact ⟨⟨0, 0, 0, rfl, .inl ⟨rfl, w, rfl, hw, ⟨fun h => absurd h hnq, fun _ => rfl, fun _ ⟨k, h4, h5, h6⟩ => absurd h6 (hbf rfl k h4 h5), fun _ => hmo.symm⟩⟩⟩, rfl⟩
      · have hoth := hb.1 rfl
        conv => whnf
        rw [blt_t (i := s) (n := S.length) hs]
        conv => whnf
        rw [encI_get1 hx]
        conv => whnf
        rw [wrap_i64 (n := fn S s - lkW S N A w s) (by omega) (by omega)]
        cases h4 : ltI (fn S s - lkW S N A w s) (0)
        · have h4 := ltI_f h4
          conv => whnf
          refine ⟨⟨0, 0, 0, rfl, .inl ⟨rfl, w, rfl, hw, ⟨fun h => absurd h hnq, fun _ => rfl, fun _ _ => ?_, fun h => absurd ⟨hnq, hoth⟩ h⟩⟩⟩, rfl⟩
          rw [← hmo.symm, if_neg (by omega)]
        · have h4 := ltI_t h4
          conv => whnf
          rw [blt_t (i := s) (n := S.length) hs]
          conv => whnf
          rw [encI_get1 hx]
          conv => whnf
          rw [wrap_i64 (n := fn S s - lkW S N A w s) (by omega) (by omega)]
          conv => whnf
          refine ⟨⟨0, fn S s - lkW S N A w s, 0, rfl, .inl ⟨rfl, w, rfl, hw, ⟨fun h => absurd h hnq, fun _ => rfl, fun _ _ => ?_, fun h => absurd ⟨hnq, hoth⟩ h⟩⟩⟩, rfl⟩
          rw [← hmo.symm, if_pos (by omega)]
    · have hiq : q ∈ w := hbq.1 h3
      cases b
      · conv => whnf
        cases h4 : ltI 0 (lkW S N A w s)
        · have h4 := ltI_f h4
          conv => whnf
          refine Rets.use hhas ?_
          rw [h3]
          conv => whnf
          refine ⟨⟨0, 0, 0, rfl, .inl ⟨rfl, w, rfl, hw, ⟨fun _ _ => ?_, fun h => rfl, fun h => absurd hiq h, fun _ => hmo.symm⟩⟩⟩, rfl⟩
          rw [if_neg (by omega)]
        · have h4 := ltI_t h4
          conv => whnf
          refine Rets.use hhas ?_
          rw [h3]
          conv => whnf
          refine ⟨⟨lkW S N A w s, 0, 0, rfl, .inl ⟨rfl, w, rfl, hw, ⟨fun _ _ => ?_, fun h => absurd ⟨hiq, hbf rfl⟩ h, fun h => absurd hiq h, fun _ => hmo.symm⟩⟩⟩, rfl⟩
          rw [if_pos (by omega)]
      · obtain ⟨k, h5, h6, h7⟩ := hb.1 rfl
        conv => whnf
        refine Rets.use hhas ?_
        rw [h3]
        conv => whnf
        exact ⟨⟨0, 0, 0, rfl, .inl ⟨rfl, w, rfl, hw, ⟨fun _ h => absurd h7 (h k h5 h6), fun _ => rfl, fun h => absurd hiq h, fun _ => hmo.symm⟩⟩⟩, rfl⟩
  · have hmo := min_most (N := N) hs h2
    conv => whnf
    rw [blt_t (i := s) (n := S.length) hs]
    conv => whnf
    rw [encI_get1 hx]
    conv => whnf
    rw [blt_t (i := q) (n := N.length) (by omega)]
    conv => whnf
    rw [encI_get1 hy]
    conv => whnf
    rw [hmo]
    conv => whnf
    refine Rets.use hlk ?_
    conv => whnf
    refine Rets.use hhas ?_
    cases h3 : m.testBit q
    · have hnq : q ∉ w := fun h => by rw [hbq.2 h] at h3; cases h3
      conv => whnf
      refine Rets.use hhas ?_
      rw [h3]
      cases b
      · conv => whnf
        exact ⟨⟨0, (mostI S N (mayL S.length A) s q), 0, rfl, .inl ⟨rfl, w, rfl, hw, ⟨fun h => absurd h hnq, fun _ => rfl, fun _ ⟨k, h4, h5, h6⟩ => absurd h6 (hbf rfl k h4 h5), fun _ => (Eq.refl (mostI S N (mayL S.length A) s q))⟩⟩⟩, rfl⟩
      · have hoth := hb.1 rfl
        conv => whnf
        rw [blt_t (i := s) (n := S.length) hs]
        conv => whnf
        rw [encI_get1 hx]
        conv => whnf
        rw [wrap_i64 (n := fn S s - lkW S N A w s) (by omega) (by omega)]
        cases h4 : ltI (fn S s - lkW S N A w s) ((mostI S N (mayL S.length A) s q))
        · have h4 := ltI_f h4
          conv => whnf
          refine ⟨⟨0, (mostI S N (mayL S.length A) s q), 0, rfl, .inl ⟨rfl, w, rfl, hw, ⟨fun h => absurd h hnq, fun _ => rfl, fun _ _ => ?_, fun h => absurd ⟨hnq, hoth⟩ h⟩⟩⟩, rfl⟩
          rw [← (Eq.refl (mostI S N (mayL S.length A) s q)), if_neg (by omega)]
        · have h4 := ltI_t h4
          conv => whnf
          rw [blt_t (i := s) (n := S.length) hs]
          conv => whnf
          rw [encI_get1 hx]
          conv => whnf
          rw [wrap_i64 (n := fn S s - lkW S N A w s) (by omega) (by omega)]
          conv => whnf
          refine ⟨⟨0, fn S s - lkW S N A w s, 0, rfl, .inl ⟨rfl, w, rfl, hw, ⟨fun h => absurd h hnq, fun _ => rfl, fun _ _ => ?_, fun h => absurd ⟨hnq, hoth⟩ h⟩⟩⟩, rfl⟩
          rw [← (Eq.refl (mostI S N (mayL S.length A) s q)), if_pos (by omega)]
    · have hiq : q ∈ w := hbq.1 h3
      cases b
      · conv => whnf
        cases h4 : ltI 0 (lkW S N A w s)
        · have h4 := ltI_f h4
          conv => whnf
          refine Rets.use hhas ?_
          rw [h3]
          conv => whnf
          refine ⟨⟨0, (mostI S N (mayL S.length A) s q), 0, rfl, .inl ⟨rfl, w, rfl, hw, ⟨fun _ _ => ?_, fun h => rfl, fun h => absurd hiq h, fun _ => (Eq.refl (mostI S N (mayL S.length A) s q))⟩⟩⟩, rfl⟩
          rw [if_neg (by omega)]
        · have h4 := ltI_t h4
          conv => whnf
          refine Rets.use hhas ?_
          rw [h3]
          conv => whnf
          refine ⟨⟨lkW S N A w s, (mostI S N (mayL S.length A) s q), 0, rfl, .inl ⟨rfl, w, rfl, hw, ⟨fun _ _ => ?_, fun h => absurd ⟨hiq, hbf rfl⟩ h, fun h => absurd hiq h, fun _ => (Eq.refl (mostI S N (mayL S.length A) s q))⟩⟩⟩, rfl⟩
          rw [if_pos (by omega)]
      · obtain ⟨k, h5, h6, h7⟩ := hb.1 rfl
        conv => whnf
        refine Rets.use hhas ?_
        rw [h3]
        conv => whnf
        exact ⟨⟨0, (mostI S N (mayL S.length A) s q), 0, rfl, .inl ⟨rfl, w, rfl, hw, ⟨fun _ h => absurd h7 (h k h5 h6), fun _ => rfl, fun h => absurd hiq h, fun _ => (Eq.refl (mostI S N (mayL S.length A) s q))⟩⟩⟩, rfl⟩
end Go.Proofs.Dx
