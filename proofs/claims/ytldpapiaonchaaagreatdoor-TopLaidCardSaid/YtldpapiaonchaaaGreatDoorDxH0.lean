/-
  TopLaid: a desk without a skier and a lane, as the plain law has it.
-/
import Derived.Test.YtldpapiaonchaaaGreatDoorDxG0
section
namespace Go.Proofs.Dx
open Go Go.Ab Go.Proofs.Dw
set_option maxRecDepth 100000
theorem asg_congr {n : Nat} {S S' D D' : Nat → Int} {can can' : Nat → Nat → Prop} {h : Nat → Nat → Int} (A : Asg n S D can h) (hS : ∀ q, q < n → S q = S' q) (hD : ∀ l, l < n → D l = D' l) (hc : ∀ q l, q < n → l < n → can q l → can' q l) : Asg n S' D' can' h :=
  ⟨A.pos, fun s l h1 h2 h3 => hc s l h1 h2 (A.can s l h1 h2 h3), fun s hs => by rw [← hS s hs]; exact A.row s hs, fun l hl => by rw [← hD l hl]; exact A.col l hl⟩
open Classical in
theorem lack_congr2 {n : Nat} {S S' D D' : Nat → Int} {can can' : Nat → Nat → Prop} (W : Nat → Prop) (but : Nat) (hS : ∀ q, q < n → S q = S' q) (hD : ∀ l, l < n → D l = D' l) (hc : ∀ q l, q < n → l < n → (can q l ↔ can' q l)) : lack n S D can W but = lack n S' D' can' W but := by
  unfold lack
  congr 1
  · exact sumR_congr fun l hl => by rw [hD l hl]
  · refine sumR_congr fun s hs => ?_
    have : (∃ l, l < n ∧ W l ∧ can s l) ↔ ∃ l, l < n ∧ W l ∧ can' s l := ⟨fun ⟨l, h1, h2, h3⟩ => ⟨l, h1, h2, (hc s l hs h1).1 h3⟩, fun ⟨l, h1, h2, h3⟩ => ⟨l, h1, h2, (hc s l hs h1).2 h3⟩⟩
    simp only [this, hS s hs]
theorem fn_set {S : List Int} {s q : Nat} {x : Int} (hs : s < S.length) : fn (S.set s x) q = if q = s then x else fn S q := by
  unfold fn
  rw [List.getElem?_set]
  by_cases h : s = q
  · subst h; rw [if_pos rfl, if_pos hs, if_pos rfl]; rfl
  · rw [if_neg h, if_neg (fun h2 => h h2.symm)]
theorem fn_wS {S : List Int} {s q : Nat} {x : Int} (hs : s < S.length) : fn (S.set s (fn S s - x)) q = wS (fn S) s x q := by
  rw [fn_set hs]
  unfold wS
  by_cases h : q = s
  · rw [if_pos h, if_pos h, h]
  · rw [if_neg h, if_neg h]
theorem cP_del {n : Nat} {A : List (Int × Int)} {s l : Nat} (q k : Nat) : cP (del (mayL n A) ((s : Int), (l : Int))) q k ↔ wC (cP (mayL n A)) s l q k := by
  unfold cP wC
  rw [del_mem (may_nodup n A)]
  refine and_congr Iff.rfl (not_congr ?_)
  constructor
  · intro h; injection h with h1 h2; exact ⟨by omega, by omega⟩
  · rintro ⟨rfl, rfl⟩; rfl
/-- An assignment in which a skier has hit a lane so often. -/
def Fe (S N : List Int) (ps : List (Int × Int)) (s l : Nat) (x : Int) : Prop := ∃ h, Asg S.length (fn S) (fn N) (cP ps) h ∧ h s l = x
def mostI (S N : List Int) (ps : List (Int × Int)) (s l : Nat) : Int := if cB ps s l then (if fn N l < fn S s then fn N l else fn S s) else 0
theorem Fe.most {S N : List Int} {ps : List (Int × Int)} {s l : Nat} {x : Int} (h : Fe S N ps s l x) (hs : s < S.length) (hl : l < S.length) : 0 ≤ x ∧ x ≤ mostI S N ps s l := by
  obtain ⟨h, A, rfl⟩ := h
  obtain ⟨h1, h2, h3, h4⟩ := hit_le A hs hl
  refine ⟨h1, ?_⟩
  unfold mostI
  cases hc : cB ps s l
  · have := cB_f hc
    have h5 : ¬ 0 < h s l := fun h6 => this (h4 h6)
    simp only [Bool.false_eq_true, if_false]; omega
  · simp only [if_true]; split <;> omega
/-- What is found when the hits are set apart. -/
theorem wo_fe {S N : List Int} {A : List (Int × Int)} {s l : Nat} {x : Int} (hN : N.length = S.length) (hs : s < S.length) (hl : l < S.length) (hx0 : 0 ≤ x) (hxm : x ≤ mostI S N (mayL S.length A) s l) :
    (∃ h, Asg S.length (fn (S.set s (fn S s - x))) (fn (N.set l (fn N l - x))) (cP (del (mayL S.length A) ((s : Int), (l : Int)))) h) ↔ Fe S N (mayL S.length A) s l x := by
  constructor
  · rintro ⟨h, B⟩
    have B' : Asg S.length (wS (fn S) s x) (wS (fn N) l x) (wC (cP (mayL S.length A)) s l) h := asg_congr B (fun q _ => fn_wS hs) (fun q _ => fn_wS (by omega)) fun q k _ _ h1 => (cP_del q k).1 h1
    refine ⟨_, wo_to B' hs hl hx0 fun h1 => ?_, wo_same x h⟩
    unfold mostI at hxm
    cases hc : cB (mayL S.length A) s l
    · rw [hc] at hxm; simp at hxm; omega
    · exact cB_t hc
  · rintro ⟨h, B, rfl⟩
    exact ⟨_, asg_congr (wo_from B hs hl) (fun q _ => (fn_wS hs).symm) (fun q _ => (fn_wS (by omega)).symm) fun q k _ _ h1 => (cP_del q k).2 h1⟩
theorem wo_lack {S N : List Int} {A : List (Int × Int)} {s l : Nat} (x : Int) (hN : N.length = S.length) (hs : s < S.length) (hl : l < S.length) (W : Nat → Prop) :
    lack S.length (fn (S.set s (fn S s - x))) (fn (N.set l (fn N l - x))) (cP (del (mayL S.length A) ((s : Int), (l : Int)))) W S.length = lack S.length (wS (fn S) s x) (wS (fn N) l x) (wC (cP (mayL S.length A)) s l) W S.length :=
  lack_congr2 W _ (fun q _ => fn_wS hs) (fun q _ => fn_wS (by omega)) fun q k _ _ => cP_del q k
/-- The span of hits so far: numbers below x were tried. -/
def SpanI (S N : List Int) (ps : List (Int × Int)) (s l : Nat) (x lo hi : Int) : Prop :=
  (lo = -1 ∧ hi = 0 ∧ ∀ y, 0 ≤ y → y < x → ¬ Fe S N ps s l y) ∨ (0 ≤ lo ∧ lo < x ∧ Fe S N ps s l lo ∧ Fe S N ps s l hi ∧ ∀ y, y < x → Fe S N ps s l y → lo ≤ y ∧ y ≤ hi)
structure SpanP (S N : List Int) (ps : List (Int × Int)) (s l : Nat) (lo hi : Int) : Prop where
  flo : Fe S N ps s l lo
  fhi : Fe S N ps s l hi
  all : ∀ y, Fe S N ps s l y → lo ≤ y ∧ y ≤ hi
theorem SpanI.done {S N : List Int} {ps : List (Int × Int)} {s l : Nat} {lo hi : Int} (I : SpanI S N ps s l (mostI S N ps s l + 1) lo hi) (hs : s < S.length) (hl : l < S.length) (he : ∃ h, Asg S.length (fn S) (fn N) (cP ps) h) : SpanP S N ps s l lo hi := by
  obtain ⟨h, A⟩ := he
  have hf : Fe S N ps s l (h s l) := ⟨h, A, rfl⟩
  rcases I with ⟨_, _, h1⟩ | ⟨_, _, h1, h2, h3⟩
  · have := hf.most hs hl
    exact absurd hf (h1 _ this.1 (by omega))
  · exact ⟨h1, h2, fun y hy => h3 y (by have := hy.most hs hl; omega) hy⟩
end Go.Proofs.Dx
end
section
/-
  TopLaid: the reference: a bout is checked.
-/
namespace Go.Proofs.Dx
open Go Go.Ab Go.Proofs.Dw
set_option maxRecDepth 100000
set_option maxHeartbeats 40000000
def boL (S N : List Int) (A : List (Int × Int)) : List D := [sl S, sl N, pl A]
def boD (S N : List Int) (A : List (Int × Int)) : D := .agg (boL S N A)
structure OkB (S N : List Int) (A : List (Int × Int)) : Prop where
  h1 : 1 ≤ S.length ∧ S.length ≤ 8
  hN : N.length = S.length
  s : ∀ q, q < S.length → 0 ≤ fn S q ∧ fn S q ≤ 8
  n : ∀ q, q < S.length → 0 ≤ fn N q ∧ fn N q ≤ 5
  a : ∀ p ∈ A, (0 ≤ p.1 ∧ p.1 ≤ S.length - 1) ∧ (0 ≤ p.2 ∧ p.2 ≤ S.length - 1) ∧ p.1 ≠ p.2
  o : ∀ (i : Nat) p q, A[i]? = some p → A[i + 1]? = some q → 100 * p.1 + p.2 < 100 * q.1 + q.2
theorem encP_fst0 {l : List (Int × Int)} {i : Nat} {p : Int × Int} (h : l[i]? = some p) : (encP l)[i * 2 + 0]? = some (.int .i64 p.1) := encP_fst h
theorem wrap_pred {i : Nat} (h : i < 4611686018427387904) : IntKind.i64.wrap (((i + 1 : Nat) : Int) - 1) = (i : Int) := by rw [wrap_i64] <;> omega
theorem badE {e : Int} {Q : Prop} (h1 : e ≠ 0) (h2 : ¬ Q) : e = 0 ↔ Q := ⟨fun h => absurd h h1, fun h => absurd h h2⟩
theorem Check5 (S N : List Int) (A : List (Int × Int)) (hA : A.length < 4611686018427387904) : Sm Tryz.prog E 5 [.d (boD S N A)] [] (fun v h => (∃ e, v = .d (.int .i64 e) ∧ (e = 0 ↔ OkB S N A)) ∧ h = []) := by
  refine sm_of HE true (by kernel_rfl) ?_
  unfold boD boL
  conv => whnf
  cases g1 : ltI (S.length : Int) 1
  case true =>
    have g1 := ltI_t g1
    conv => whnf
    exact ⟨⟨2, rfl, badE (by decide) fun O => by have := O.h1; omega⟩, rfl⟩
  have g1 := ltI_f g1
  conv => whnf
  cases g2 : ltI 8 (S.length : Int)
  case true =>
    have g2 := ltI_t g2
    conv => whnf
    exact ⟨⟨2, rfl, badE (by decide) fun O => by have := O.h1; omega⟩, rfl⟩
  have g2 := ltI_f g2
  conv => whnf
  cases g3 : eqI (N.length : Int) (S.length : Int)
  case false =>
    have g3 := eqI_f g3
    conv => whnf
    exact ⟨⟨2, rfl, badE (by decide) fun O => by have := O.hN; omega⟩, rfl⟩
  have g3 := eqI_t g3
  have hN : N.length = S.length := by omega
  conv => whnf
  refine loops_by (fun i : Nat => ⟨112, [(1, .ptr 0 0 0 3), (2, .d (.int .i64 0)), (3, .d (.int .i64 S.length)), (4, .d (.int .i64 i))], .unk, [.row (.ds (boL S N A)) 0 0 []], []⟩)
    (fun i => i ≤ S.length ∧ ∀ q, q < i → (0 ≤ fn S q ∧ fn S q ≤ 8) ∧ (0 ≤ fn N q ∧ fn N q ≤ 5)) (fun i => S.length - i) 0 ⟨Nat.zero_le _, fun q h => absurd h (by omega)⟩ ?_
  rintro f i ⟨hi, hI⟩ ih
  conv => whnf
  cases h1 : ltI (i : Int) (S.length : Int)
  case true =>
    have h1 := ltI_t h1
    have hx := at_fn (l := S) (q := i) (by omega)
    have hy := at_fn (l := N) (q := i) (by omega)
    conv => whnf
    rw [blt_t (i := i) (n := S.length) (by omega)]
    conv => whnf
    rw [encI_get1 hx]
    conv => whnf
    refine Rets.use (outside_ok (fn S i) 0 8) ?_
    cases h2 : inB (fn S i) 0 8
    · have h2 := inB_false h2
      conv => whnf
      exact ⟨⟨3, rfl, badE (by decide) fun O => h2 (O.s i (by omega))⟩, rfl⟩
    have h2 := inB_true h2
    conv => whnf
    rw [blt_t (i := i) (n := N.length) (by omega)]
    conv => whnf
    rw [encI_get1 hy]
    conv => whnf
    refine Rets.use (outside_ok (fn N i) 0 5) ?_
    cases h3 : inB (fn N i) 0 5
    · have h3 := inB_false h3
      conv => whnf
      exact ⟨⟨3, rfl, badE (by decide) fun O => h3 (O.n i (by omega))⟩, rfl⟩
    have h3 := inB_true h3
    conv => whnf
    rw [wrap_succ (by omega)]
    refine ih (i + 1) ⟨by omega, fun q hq => ?_⟩ (by omega)
    by_cases hqi : q = i
    · subst hqi; exact ⟨h2, h3⟩
    · exact hI q (by omega)
  have h1 := ltI_f h1
  have hI : ∀ q, q < S.length → (0 ≤ fn S q ∧ fn S q ≤ 8) ∧ (0 ≤ fn N q ∧ fn N q ≤ 5) := fun q hq => hI q (by omega)
  conv => whnf
  refine loops_by (fun i : Nat => ⟨112, [(1, .ptr 0 0 0 3), (2, .d (.int .i64 0)), (3, .d (.int .i64 S.length)), (5, .d (.int .i64 i))], .unk, [.row (.ds (boL S N A)) 0 0 []], []⟩)
    (fun i => i ≤ A.length ∧ ∀ (q : Nat) p, q < i → A[q]? = some p → (0 ≤ p.1 ∧ p.1 ≤ S.length - 1) ∧ (0 ≤ p.2 ∧ p.2 ≤ S.length - 1) ∧ p.1 ≠ p.2) (fun i => A.length - i) 0 ⟨Nat.zero_le _, fun q p h => absurd h (by omega)⟩ ?_
  rintro f2 i2 ⟨hi2, hJ⟩ ih2
  conv => whnf
  cases k1 : ltI (i2 : Int) (A.length : Int)
  case true =>
    have k1 := ltI_t k1
    obtain ⟨p, hp⟩ := at_some (l := A) (i := i2) (by omega)
    conv => whnf
    rw [blt_t (i := i2) (n := A.length) (by omega)]
    conv => whnf
    rw [ble_t (i := i2 * 2 + 2) (n := (encP A).length) (by rw [encP_length]; omega)]
    conv => whnf
    rw [encP_at hp]
    conv => whnf
    rw [wrap_i64 (n := (S.length : Int) - 1) (by omega) (by omega)]
    refine Rets.use (outside_ok p.1 0 _) ?_
    cases k2 : inB p.1 0 ((S.length : Int) - 1)
    · have k2 := inB_false k2
      conv => whnf
      exact ⟨⟨1, rfl, badE (by decide) fun O => k2 (O.a p (List.mem_of_getElem? hp)).1⟩, rfl⟩
    have k2 := inB_true k2
    conv => whnf
    rw [wrap_i64 (n := (S.length : Int) - 1) (by omega) (by omega)]
    refine Rets.use (outside_ok p.2 0 _) ?_
    cases k3 : inB p.2 0 ((S.length : Int) - 1)
    · have k3 := inB_false k3
      conv => whnf
      exact ⟨⟨1, rfl, badE (by decide) fun O => k3 (O.a p (List.mem_of_getElem? hp)).2.1⟩, rfl⟩
    have k3 := inB_true k3
    conv => whnf
    cases k4 : eqI p.1 p.2
    case true =>
      have k4 := eqI_t k4
      conv => whnf
      exact ⟨⟨1, rfl, badE (by decide) fun O => (O.a p (List.mem_of_getElem? hp)).2.2 k4⟩, rfl⟩
    have k4 := eqI_f k4
    conv => whnf
    rw [wrap_succ (by omega)]
    refine ih2 (i2 + 1) ⟨by omega, fun q r hq hr => ?_⟩ (by omega)
    by_cases hqi : q = i2
    · subst hqi; rw [hp] at hr; cases hr; exact ⟨k2, k3, k4⟩
    · exact hJ q r (by omega) hr
  have k1 := ltI_f k1
  have hJ : ∀ p ∈ A, (0 ≤ p.1 ∧ p.1 ≤ S.length - 1) ∧ (0 ≤ p.2 ∧ p.2 ≤ S.length - 1) ∧ p.1 ≠ p.2 := fun p hp => by
    obtain ⟨q, hq⟩ := List.getElem?_of_mem hp
    exact hJ q p (by have := lt_of_at hq; omega) hq
  conv => whnf
  refine loops_by (fun i : Nat => ⟨112, [(1, .ptr 0 0 0 3), (2, .d (.int .i64 0)), (7, .d (.int .i64 (i + 1 : Nat)))], .unk, [.row (.ds (boL S N A)) 0 0 []], []⟩)
    (fun i => i ≤ A.length ∧ ∀ (q : Nat) p r, q < i → A[q]? = some p → A[q + 1]? = some r → 100 * p.1 + p.2 < 100 * r.1 + r.2) (fun i => A.length - i) 0 ⟨Nat.zero_le _, fun q p r h => absurd h (by omega)⟩ ?_
  rintro f3 i3 ⟨hi3, hK⟩ ih3
  conv => whnf
  cases l1 : ltI ((i3 + 1 : Nat) : Int) (A.length : Int)
  case false =>
    have l1 := ltI_f l1
    conv => whnf
    refine ⟨⟨0, rfl, ⟨fun _ => ⟨by omega, hN, fun q hq => (hI q hq).1, fun q hq => (hI q hq).2, hJ, fun q p r hp hr => ?_⟩, fun _ => rfl⟩⟩, rfl⟩
    exact hK q p r (by have := lt_of_at hr; omega) hp hr
  have l1 := ltI_t l1
  obtain ⟨p, hp⟩ := at_some (l := A) (i := i3) (by omega)
  obtain ⟨r, hr⟩ := at_some (l := A) (i := i3 + 1) (by omega)
  have bp := hJ p (List.mem_of_getElem? hp)
  have br := hJ r (List.mem_of_getElem? hr)
  conv => whnf
  rw [blt_t (i := i3 + 1) (n := A.length) (by omega)]
  conv => whnf
  rw [encP_fst0 hr]
  conv => whnf
  rw [wrap_i64 (n := 100 * r.1) (by omega) (by omega)]
  conv => whnf
  rw [blt_t (i := i3 + 1) (n := A.length) (by omega)]
  conv => whnf
  rw [encP_snd hr]
  conv => whnf
  rw [wrap_i64 (n := 100 * r.1 + r.2) (by omega) (by omega)]
  conv => whnf
  rw [wrap_pred (by omega)]
  conv => whnf
  rw [blt_t (i := i3) (n := A.length) (by omega)]
  conv => whnf
  rw [encP_fst0 hp]
  conv => whnf
  rw [wrap_i64 (n := 100 * p.1) (by omega) (by omega)]
  conv => whnf
  rw [wrap_pred (by omega)]
  conv => whnf
  rw [blt_t (i := i3) (n := A.length) (by omega)]
  conv => whnf
  rw [encP_snd hp]
  conv => whnf
  rw [wrap_i64 (n := 100 * p.1 + p.2) (by omega) (by omega)]
  cases l2 : leI (100 * r.1 + r.2) (100 * p.1 + p.2)
  case true =>
    have l2 : 100 * r.1 + r.2 ≤ 100 * p.1 + p.2 := by rw [leI_eq] at l2; exact of_decide_eq_true l2
    conv => whnf
    exact ⟨⟨4, rfl, badE (by decide) fun O => by have := O.o i3 p r hp hr; omega⟩, rfl⟩
  have l2 : ¬ 100 * r.1 + r.2 ≤ 100 * p.1 + p.2 := by rw [leI_eq] at l2; exact of_decide_eq_false l2
  conv => whnf
  rw [wrap_succ (by omega)]
  refine ih3 (i3 + 1) ⟨by omega, fun q p' r' hq hp' hr' => ?_⟩ (by omega)
  by_cases hqi : q = i3
  · subst hqi; rw [hp] at hp'; rw [hr] at hr'; cases hp'; cases hr'; omega
  · exact hK q p' r' (by omega) hp' hr'
end Go.Proofs.Dx
end
