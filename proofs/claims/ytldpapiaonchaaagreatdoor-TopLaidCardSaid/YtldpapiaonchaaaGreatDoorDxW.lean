/-
  TopLaid: the law's own functions: a bout of the reference, a copy, a number in a span, a pair in a list.
-/
import Derived.Test.YtldpapiaonchaaaGreatDoorDxH0
import Derived.Test.YtldpapiaonchaaaGreatDoorDxT
import Derived.Test.YtldpapiaonchaaaGreatDoorDxN
import Derived.Test.YtldpapiaonchaaaGreatDoorDxQ
section
namespace Go.Proofs.Dx
open Go Go.Ab Go.Proofs.Dw
set_option maxRecDepth 100000
set_option maxHeartbeats 40000000
theorem inside17 (n lo hi : Int) (h : lo ≤ n ∧ n ≤ hi) : Rets Tryz.prog E 17 [.d (.int .i64 n), .d (.agg [.int .i64 lo, .int .i64 hi])] (.d (.bool true)) := by
  refine sm_of HE true (by kernel_rfl) ?_
  conv => whnf
  rw [show leI lo n = true from by rw [leI_eq]; exact decide_eq_true h.1]
  conv => whnf
  rw [show leI n hi = true from by rw [leI_eq]; exact decide_eq_true h.2]
  exact ⟨rfl, rfl⟩
theorem Clone8 (S N : List Int) (A : List (Int × Int)) (h1 : S.length ≤ 1000) (h2 : N.length ≤ 1000) (h3 : A.length ≤ 1000) : Rets Tryz.prog E 8 [.d (boD S N A)] (.d (boD S N A)) := by
  refine sm_of HE true (by kernel_rfl) ?_
  unfold boD boL sl pl
  conv => whnf
  refine Rets.use (clone24 S (by omega)) ?_
  conv => whnf
  refine Rets.use (clone24 N (by omega)) ?_
  conv => whnf
  refine Rets.use (clone25 A (by omega)) ?_
  conv => whnf
  exact ⟨rfl, rfl⟩
theorem Index40 (A : List (Int × Int)) (hA : A.length ≤ 1000) (p : Int × Int) (hp : p ∈ A) : Sm Tryz.prog E 40 [.d (pl A), .d (.agg [.int .i64 p.1, .int .i64 p.2])] [] (fun v h => h = [] ∧ ∃ i : Nat, v = .d (.int .i64 i)) := by
  refine sm_of HE true (by kernel_rfl) ?_
  unfold pl
  conv => whnf
  refine loops_by (fun i : Nat => ⟨19, [(0, .d (pl A)), (3, .ptr 0 0 0 2), (4, .d (.int .i64 0)), (7, .d (.int .i64 A.length)), (8, .d (.int .i64 i))], .unk, [.row (.ds [.int .i64 p.1, .int .i64 p.2]) 0 0 []], []⟩) (fun i => i ≤ A.length ∧ p ∉ A.take i) (fun i => A.length - i) 0 ⟨Nat.zero_le _, by simp⟩ ?_
  rintro f i ⟨hi, hn⟩ ih
  unfold pl
  conv => whnf
  cases h1 : ltI (i : Int) (A.length : Int)
  case false =>
    have h1 := ltI_f h1
    rw [List.take_of_length_le (by omega)] at hn
    exact absurd hp hn
  have h1 := ltI_t h1
  obtain ⟨q, hq⟩ := at_some (l := A) (i := i) (by omega)
  conv => whnf
  rw [blt_t (i := i) (n := A.length) (by omega)]
  conv => whnf
  rw [ble_t (i := i * 2 + 2) (n := (encP A).length) (by rw [encP_length]; omega)]
  conv => whnf
  rw [encP_at hq]
  conv => whnf
  cases g : andB (eqI p.1 q.1) (andB (eqI p.2 q.2) true)
  · conv => whnf
    rw [wrap_succ (by omega)]
    refine ih (i + 1) ⟨by omega, ?_⟩ (by omega)
    rw [take_snoc hq, List.mem_append, List.mem_singleton]
    rintro (h | h)
    · exact hn h
    · subst h
      rw [eqI_tt rfl, eqI_tt rfl] at g
      cases g
  · conv => whnf
    exact ⟨rfl, i, rfl⟩
theorem Contains18 (A : List (Int × Int)) (hA : A.length ≤ 1000) (p : Int × Int) (hp : p ∈ A) : Rets Tryz.prog E 18 [.d (pl A), .d (.agg [.int .i64 p.1, .int .i64 p.2])] (.d (.bool true)) := by
  have hi := Index40 A hA p hp
  refine sm_of HE true (by kernel_rfl) ?_
  unfold pl at hi ⊢
  conv => whnf
  refine Sm.mono hi ?_
  rintro v h ⟨rfl, i, rfl⟩
  conv => whnf
  exact ⟨rfl, rfl⟩
theorem wk_pairs (l : List (Int × Int)) : Wk (psV l) (.slice l.length 2 (encP l)) := by
  cases l with
  | cons a r => exact fun _ _ _ h => h
  | nil => exact Wk.nil 2
theorem Bout4 (S N : List Int) (A : List (Int × Int)) (hA : A.length * 16 ≤ 140737488355328) : Rets Tryz.prog E 4 [.d (boD S N A)] (.d (boD S N A)) := by
  refine Rets.weaken (x := .agg [sl S, sl N, psV A]) ?_ ?_
  rotate_left
  · rintro Z w v ⟨vs, rfl, ⟨v0, l0, e0, h0, v1, l1, e1, h1, v2, l2, e2, h2, e3⟩, h4⟩
    exact ⟨vs, rfl, ⟨v0, l0, e0, h0, v1, l1, e1, h1, v2, l2, e2, wk_pairs A _ _ _ h2, e3⟩, h4⟩
  refine sm_of HE true (by kernel_rfl) ?_
  unfold boD boL
  conv => whnf
  refine loops_by (fun x : Nat × List (Int × Int) => match x with | (i, R) => ⟨26, [(2, .ptr 0 0 0 3), (3, .ptr 1 0 0 3), (12, .d (pl A)), (13, .d (.int .i64 A.length)), (14, .d (.int .i64 i))], .unk, .row (.ds [.nil, .nil, .nil]) 0 0 [] :: (match i with | 0 => [.row (.ds [sl S, sl N, .nil]) 0 0 []] | k + 1 => [.row (.vs [.d (sl S), .d (sl N), .slice 2 k 0 (k + 1) 2]) 0 0 [], .row (.ds (encP R)) k 0 []]), []⟩)
    (fun x => x.1 ≤ A.length ∧ x.2 = A.take x.1) (fun x => A.length - x.1) (0, []) ⟨Nat.zero_le _, rfl⟩ ?_
  rintro f ⟨i, R⟩ ⟨hi, hR⟩ ih
  simp only at hi hR
  have hRl : R.length = i := by rw [hR, List.length_take]; omega
  by_cases hiA : i < A.length
  rotate_left
  · obtain rfl : i = A.length := by omega
    rw [List.take_length] at hR
    subst hR
    have h1 := ltI_ff (a := (R.length : Int)) (b := (R.length : Int)) (Int.le_refl _)
    clear ih
    cases R with
    | nil =>
      unfold pl sl
      conv => whnf
      exact ⟨rfl, rfl⟩
    | cons a r =>
      simp only [List.length_cons] at h1
      have hel : (encP (a :: r)).length = (r.length + 1) * 2 := by rw [encP_length]; rfl
      unfold pl sl
      simp only [List.length_cons]
      conv => whnf
      rw [h1]
      conv => whnf
      rw [may_all]
      conv => whnf
      rw [ble_t (i := 0 + (r.length + 1) * 2) (n := (encP (a :: r)).length) (by omega)]
      conv => whnf
      refine ⟨?_, rfl⟩
      rw [row_all hel]
      rfl
  obtain ⟨p, hp⟩ := at_some (l := A) (i := i) hiA
  have ht : R ++ [p] = A.take (i + 1) := by rw [take_snoc hp, hR]
  have hl1 := ltI_tt (a := (i : Int)) (b := A.length) (by omega)
  cases i with
  | zero =>
    unfold pl sl
    conv => whnf
    rw [hl1]
    conv => whnf
    rw [blt_t (i := 0) (n := A.length) hiA]
    conv => whnf
    rw [ble_t (i := 0 * 2 + 2) (n := (encP A).length) (by rw [encP_length]; omega)]
    conv => whnf
    rw [show ((encP A).drop (0 * 2)).take 2 = _ from encP_at hp]
    conv => whnf
    rw [wrap_succ (by omega)]
    obtain rfl : R = [] := List.eq_nil_of_length_eq_zero hRl
    exact ih (1, [p]) ⟨by simp only; omega, ht⟩ (by simp only; omega)
  | succ k =>
    unfold pl sl
    conv => whnf
    rw [hl1]
    conv => whnf
    rw [blt_t (i := k + 1) (n := A.length) hiA]
    conv => whnf
    rw [ble_t (i := (k + 1) * 2 + 2) (n := (encP A).length) (by rw [encP_length]; omega)]
    conv => whnf
    rw [encP_at hp]
    conv => whnf
    rw [ble_t (i := (k + 1 + 1) * 16) (n := 140737488355328) (by omega)]
    conv => whnf
    rw [may_all]
    conv => whnf
    rw [show Nat.beq ((k + 1) * 2) (Cells.ds (encP R)).len = true from by simp only [Cells.len, encP_length, hRl]; exact Nat.beq_refl _]
    rw [wrap_succ (by omega), List.take_of_length_le (by rw [encP_length, hRl]; exact Nat.le_refl _)]
    have e1 : encP R ++ [D.int .i64 p.1, D.int .i64 p.2] = encP (R ++ [p]) := by rw [encP_append]; rfl
    rw [e1]
    exact ih (k + 1 + 1, R ++ [p]) ⟨by simp only; omega, ht⟩ (by simp only; omega)
end Go.Proofs.Dx
end
section
/-
  TopLaid: reasons and crossed pairs in one form; what reasons show.
-/
namespace Go.Proofs.Dx
open Go Go.Ab Go.Proofs.Dw
set_option maxRecDepth 100000
set_option maxHeartbeats 4000000
theorem Sm_wk {f : Nat} {args : List V} {h : List O} {Q Q' : V → List O → Prop} (hs : Sm Tryz.prog E f args h Q) (hq : ∀ v g, Q v g → ∃ x y, v = .d x ∧ Wk x y ∧ Q' (.d y) g) : Sm Tryz.prog E f args h Q' := by
  obtain ⟨he, h1⟩ := hs
  refine ⟨he, fun Z μ w cargs S ha => CallsIn.mono (h1 Z μ w cargs S ha) ?_⟩
  intro e w' hp
  cases e with
  | returned cv =>
    obtain ⟨v, h', Z', μ', hQ, S', hv, F⟩ := hp
    obtain ⟨x, y, rfl, hw, hQ'⟩ := hq v h' hQ
    exact ⟨.d y, h', Z', μ', hQ', S', hw _ _ _ hv, F⟩
  | _ => exact hp.elim
theorem wk_tup3 {x1 x2 y1 y2 z : D} (h1 : Wk x1 y1) (h2 : Wk x2 y2) : Wk (.tuple [x1, x2, z]) (.tuple [y1, y2, z]) := by
  rintro Z w v ⟨vs, rfl, v0, l0, e0, k0, v1, l1, e1, k1, k2⟩
  exact ⟨vs, rfl, v0, l0, e0, h1 _ _ _ k0, v1, l1, e1, h2 _ _ _ k1, k2⟩
theorem wk_tup2 {x1 y1 z : D} (h1 : Wk x1 y1) : Wk (.tuple [x1, z]) (.tuple [y1, z]) := by
  rintro Z w v ⟨vs, rfl, v0, l0, e0, k0, k2⟩
  exact ⟨vs, rfl, v0, l0, e0, h1 _ _ _ k0, k2⟩
theorem sorted_len {w : List Nat} {n : Nat} (h1 : w.Pairwise (· < ·)) (h2 : ∀ k ∈ w, k < n) : w.length ≤ n := by
  have key : ∀ (w : List Nat) (m : Nat), w.Pairwise (· < ·) → (∀ k ∈ w, m ≤ k ∧ k < n) → w.length + m ≤ n ∨ w = [] := by
    intro w
    induction w with
    | nil => intro m _ _; exact .inr rfl
    | cons a w ih =>
      intro m h1 h2
      have ha := h2 a (by simp)
      rw [List.pairwise_cons] at h1
      rcases ih (a + 1) h1.2 (fun k hk => ⟨h1.1 k hk, (h2 k (by simp [hk])).2⟩) with h | h
      · left; simp only [List.length_cons]; omega
      · subst h; left; simp only [List.length_cons, List.length_nil]; omega
  rcases key w 0 h1 (fun k hk => ⟨Nat.zero_le _, h2 k hk⟩) with h | h
  · omega
  · subst h; exact Nat.zero_le _
theorem show_lo {S N : List Int} {A : List (Int × Int)} {s q : Nat} (hs : s < S.length) (hq : q < S.length) {lo hi a b : Int} {c : Nat} {w : List Nat} (P : SpanP S N (mayL S.length A) s q lo hi) (hlo : 0 < lo) (hl : 0 < lack S.length (wS (fn S) s (lo - 1)) (wS (fn N) q (lo - 1)) (wC (cP (mayL S.length A)) s q) (fun k => k ∈ c :: w) S.length)
    (hlt : ∀ k ∈ c :: w, k < S.length) (H : ShowP S N A s q (c :: w) a b) : a = lo := by
  obtain ⟨h, B, hx⟩ := P.flo
  obtain ⟨k1, k2, k3⟩ := low_end B (fun k => k ∈ c :: w) hs hq (x := lo - 1) (by omega) hl
  have := H.lo1 k1 fun k hk hne => k2 k (hlt k hk) hk hne
  unfold lkW at this
  rw [this, k3, if_pos (by omega)]; omega
theorem show_hi {S N : List Int} {A : List (Int × Int)} {s q : Nat} (hs : s < S.length) (hq : q < S.length) {lo hi a b : Int} {c : Nat} {w : List Nat} (P : SpanP S N (mayL S.length A) s q lo hi) (hhi : hi < mostI S N (mayL S.length A) s q) (hl : 0 < lack S.length (wS (fn S) s (hi + 1)) (wS (fn N) q (hi + 1)) (wC (cP (mayL S.length A)) s q) (fun k => k ∈ c :: w) S.length)
    (H : ShowP S N A s q (c :: w) a b) : b = hi := by
  obtain ⟨h, B, hx⟩ := P.fhi
  obtain ⟨k1, ⟨k, _, k2, k3, k4⟩, k5⟩ := high_end B (fun k => k ∈ c :: w) hs hq (x := hi + 1) (by omega) hl
  have := H.hi1 k1 ⟨k, k2, k3, k4⟩
  unfold lkW at this
  rw [this, k5, if_pos (by omega)]; omega
theorem show_no {S N : List Int} {A : List (Int × Int)} {s q : Nat} {a b : Int} (H : ShowP S N A s q [] a b) : a = 0 ∧ b = mostI S N (mayL S.length A) s q :=
  ⟨H.lo2 fun h => by simp at h, H.hi2 fun ⟨_, k, h, _⟩ => by simp at h⟩
/-- Reasons: lanes that show both ends. -/
theorem Reasons15w {S N : List Int} {A : List (Int × Int)} (O : OkT S N A) (he : Ex1 S N A) {a b : Nat} (ha : a < S.length) (hb : b < S.length) : Sm Tryz.prog E 15 [.d (boD S N A), .d (.int .i64 a), .d (.int .i64 b)] [] (fun v h => h = [] ∧ ∃ w1 w2 : List Nat, v = .d (.tuple [.slice w1.length 1 (encI (nL w1)), .slice w2.length 1 (encI (nL w2)), .int .i64 0]) ∧
    LaOk S.length w1 ∧ LaOk S.length w2 ∧ ∃ lo hi, SpanP S N (mayL S.length A) a b lo hi ∧ (∀ x y, ShowP S N A a b w1 x y → x = lo) ∧ (∀ x y, ShowP S N A a b w2 x y → y = hi)) := by
  refine Sm_wk (Reasons15 O he ha hb) ?_
  rintro v h ⟨rfl, d1, d2, rfl, lo, hi, P, k1, k2⟩
  obtain ⟨w1, m1, o1, f1⟩ : ∃ w1 : List Nat, Wk d1 (.slice w1.length 1 (encI (nL w1))) ∧ LaOk S.length w1 ∧ ∀ x y, ShowP S N A a b w1 x y → x = lo := by
    rcases k1 with ⟨h1, rfl⟩ | ⟨h1, c, w, rfl, j1, j2, j3⟩
    · exact ⟨[], Wk.nil 1, ⟨List.Pairwise.nil, by simp⟩, fun x y H => by rw [(show_no H).1, h1]⟩
    · exact ⟨c :: w, fun _ _ _ h => h, ⟨j1, j2⟩, fun x y H => show_lo ha hb P h1 j3 j2 H⟩
  obtain ⟨w2, m2, o2, f2⟩ : ∃ w2 : List Nat, Wk d2 (.slice w2.length 1 (encI (nL w2))) ∧ LaOk S.length w2 ∧ ∀ x y, ShowP S N A a b w2 x y → y = hi := by
    rcases k2 with ⟨h1, rfl⟩ | ⟨h1, c, w, rfl, j1, j2, j3⟩
    · exact ⟨[], Wk.nil 1, ⟨List.Pairwise.nil, by simp⟩, fun x y H => by rw [(show_no H).2, h1]⟩
    · exact ⟨c :: w, fun _ _ _ h => h, ⟨j1, j2⟩, fun x y H => show_hi ha hb P h1 j3 H⟩
  exact ⟨_, _, rfl, wk_tup3 m1 m2, rfl, w1, w2, rfl, o1, o2, lo, hi, P, f1, f2⟩
theorem Crossed13w {S N : List Int} {A : List (Int × Int)} (O : OkT S N A) (he : Ex1 S N A) : Sm Tryz.prog E 13 [.d (boD S N A)] [] (fun v h => h = [] ∧ ∃ C : List (Int × Int), v = .d (.tuple [.slice C.length 2 (encP C), .int .i64 0]) ∧ C.length ≤ A.length ∧ ∀ p ∈ C, Crs S N A p) := by
  refine Sm_wk (Crossed13 O he) ?_
  rintro v h ⟨rfl, C, rfl, h1, h2⟩
  exact ⟨_, _, rfl, wk_tup2 (wk_pairs C), rfl, C, rfl, h1, h2⟩
end Go.Proofs.Dx
end
