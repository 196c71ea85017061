/-
  TopLegs: the reference: what an order takes; copies of rules and squads; orders compared.
-/
import Derived.Test.YtbgaomkepfienaaGreatDoorLxA
section
namespace Go.Proofs.Lx
open Go Go.Ab Go.Proofs.Lw
set_option maxRecDepth 100000
set_option maxHeartbeats 40000000
def sl (l : List Int) : D := .slice l.length 1 (encI l)
/-- What a squad's tables hold. -/
theorem OkS.cls {r : Ru} {s : Sq} (O : OkS r s) {i : Nat} (h : i < s.sc.length) : ∃ a, s.sc[i]? = some a ∧ 0 ≤ a ∧ a ≤ 3 := by
  obtain ⟨a, ha⟩ := at_some h
  exact ⟨a, ha, O.scv a (List.mem_of_getElem? ha)⟩
theorem OkS.row {r : Ru} {s : Sq} (O : OkS r s) {i : Nat} (h : i < s.sc.length) : ∃ l, s.T[i]? = some l ∧ l.length = r.pc.length := by
  obtain ⟨l, hl⟩ := at_some (l := s.T) (i := i) (by have := O.tl; omega)
  exact ⟨l, hl, O.rows l (List.mem_of_getElem? hl)⟩
theorem OkS.time {r : Ru} {s : Sq} (O : OkS r s) {i k : Nat} {l : List Int} (h : s.T[i]? = some l) (hk : k < r.pc.length) : ∃ x, l[k]? = some x ∧ tm s.T i k = x ∧ 0 ≤ x ∧ x ≤ 100000 := by
  have hl := O.rows l (List.mem_of_getElem? h)
  obtain ⟨x, hx⟩ := at_some (l := l) (i := k) (by omega)
  exact ⟨x, hx, tm_at h hx, O.tv l (List.mem_of_getElem? h) x (List.mem_of_getElem? hx)⟩
theorem OkR.leg {r : Ru} (O : OkR r) {k : Nat} (h : k < r.pc.length) : ∃ a, r.pc[k]? = some a ∧ 0 ≤ a ∧ a ≤ 3 := by
  obtain ⟨a, ha⟩ := at_some h
  exact ⟨a, ha, O.pcv a (List.mem_of_getElem? ha)⟩
theorem takes24 (r : Ru) (s : Sq) (O : OkS r s) (c : List Nat) (hl : c.length = r.pc.length) (hs : ∀ x ∈ c, x < s.sc.length) : Sm Tryz.prog E 24 [.d (ruD r), .d (sqD s), .d (sl (nL c))] []
    (fun v h => (∃ n, v = .d (.int .i64 n) ∧ ((n < 0 ∧ ¬ OrdOk s.sc r.pc r.e.toNat c) ∨ (0 ≤ n ∧ OrdOk s.sc r.pc r.e.toNat c ∧ n = cost r.pc.length (tm s.T) (ofn c)))) ∧ h = []) := by
  have hL := O.ru.pcl
  have hE := O.ru.e
  refine sm_of HE true (by kernel_rfl) ?_
  unfold ruD ruL sqD sqL sl
  rw [nL_length]
  conv => whnf
  refine loops_by (fun x : Nat × Int => ⟨68, [(2, .d (.slice c.length 1 (encI (nL c)))), (3, .ptr 0 0 0 6), (4, .ptr 1 0 0 2), (6, .d (.int .i64 0)), (7, .d (.int .i64 x.2)), (8, .d (.int .i64 x.1))], .unk, [.row (.ds (ruL r)) 0 0 [], .row (.ds (sqL s)) 0 0 []], []⟩)
    (fun x => x.1 ≤ c.length ∧ x.2 = sumR x.1 (fun q => tm s.T (ofn c q) q) ∧ 0 ≤ x.2 ∧ x.2 ≤ x.1 * 100000 ∧ (∀ q i, q < x.1 → c[q]? = some i → mayP s.sc r.pc i q ∧ cn c i ≤ r.e.toNat)) (fun x => c.length - x.1) (0, 0) ⟨Nat.zero_le _, rfl, by decide, by decide, fun q i h => absurd h (by omega)⟩ ?_
  rintro f ⟨k, t⟩ ⟨hk, ht, ht0, ht1, hA⟩ ih
  simp only at hk ht ht0 ht1 hA
  conv => whnf
  cases h1 : ltI (k : Int) (c.length : Int)
  · have h1 := ltI_f h1
    have hkc : k = c.length := by omega
    subst hkc
    conv => whnf
    refine ⟨⟨t, rfl, .inr ⟨ht0, (ordOk_iff hl hs).2 ⟨fun q i hq => (hA q i (lt_of_at hq) hq).1, fun j hj => ?_⟩, by rw [ht, hl]; rfl⟩⟩, rfl⟩
    obtain ⟨q, hq⟩ := List.getElem?_of_mem hj
    exact (hA q j (lt_of_at hq) hq).2
  have hkl := ltI_t h1
  obtain ⟨i, hi⟩ := at_some (l := c) (i := k) (by omega)
  have hiS := hs i (List.mem_of_getElem? hi)
  have hbk := blt_t (i := k) (n := c.length) (by omega)
  conv => whnf
  refine loops_by (fun x : Nat × Nat => ⟨68, [(2, .d (.slice c.length 1 (encI (nL c)))), (3, .ptr 0 0 0 6), (4, .ptr 1 0 0 2), (6, .d (.int .i64 0)), (7, .d (.int .i64 t)), (8, .d (.int .i64 k)), (9, .d (.int .i64 x.2)), (10, .d (.int .i64 x.1))], .unk, [.row (.ds (ruL r)) 0 0 [], .row (.ds (sqL s)) 0 0 []], []⟩)
    (fun x => x.1 ≤ c.length ∧ x.2 = cn (c.take x.1) i ∧ x.2 ≤ x.1) (fun x => c.length - x.1) (0, 0) ⟨Nat.zero_le _, by simp [cn], Nat.le_refl _⟩ ?_
  rintro f2 ⟨n, o⟩ ⟨hn, ho, hon⟩ ih2
  simp only at hn ho hon
  conv => whnf
  cases h2 : ltI (n : Int) (c.length : Int)
  case true =>
    have h2 := ltI_t h2
    have hbn := blt_t (i := n) (n := c.length) (by omega)
    obtain ⟨j, hj⟩ := at_some (l := c) (i := n) (by omega)
    have hcn := cn_snoc hj i
    conv => whnf
    rw [hbn]
    conv => whnf
    rw [encI_get1 (nL_at hj)]
    conv => whnf
    rw [hbk]
    conv => whnf
    rw [encI_get1 (nL_at hi)]
    conv => whnf
    cases h3 : eqI (j : Int) (i : Int)
    · have h3 := eqI_f h3
      conv => whnf
      rw [wrap_succ (by omega)]
      refine ih2 (n + 1, o) ⟨?_, ?_, ?_⟩ ?_
      · simp only; omega
      · simp only; rw [hcn, if_neg (by omega)]; omega
      · simp only; omega
      · simp only; omega
    · have h3 := eqI_t h3
      conv => whnf
      rw [wrap_succ (by omega), wrap_succ (by omega)]
      refine ih2 (n + 1, o + 1) ⟨?_, ?_, ?_⟩ ?_
      · simp only; omega
      · simp only; rw [hcn, if_pos (by omega)]; omega
      · simp only; omega
      · simp only; omega
  have h2 := ltI_f h2
  have hnc : n = c.length := by omega
  subst hnc
  rw [List.take_length] at ho
  conv => whnf
  cases h4 : ltI r.e (o : Int)
  case true =>
    have h4 := ltI_t h4
    conv => whnf
    exact ⟨⟨-1, rfl, .inl ⟨by decide, not_of (j := i) (by omega)⟩⟩, rfl⟩
  have h4 := ltI_f h4
  obtain ⟨a, ha, _⟩ := O.cls hiS
  obtain ⟨b, hb, _⟩ := O.ru.leg (k := k) (by omega)
  obtain ⟨l, hl', hll⟩ := O.row hiS
  obtain ⟨x, hx, hxt, hx0, hx1⟩ := O.time hl' (k := k) (by omega)
  have hbi := blt_t (i := i) (n := s.sc.length) hiS
  have hbp := blt_t (i := k) (n := r.pc.length) (by omega)
  have hbT := blt_t (i := i) (n := s.T.length) (by have := O.tl; omega)
  have hbl := blt_t (i := k) (n := l.length) (by omega)
  conv => whnf
  rw [hbk]
  conv => whnf
  rw [encI_get1 (nL_at hi)]
  conv => whnf
  rw [hbi]
  conv => whnf
  rw [encI_get1 ha]
  conv => whnf
  rw [hbp]
  conv => whnf
  rw [encI_get1 hb]
  conv => whnf
  cases h5 : eqI a b
  · have h5 := eqI_f h5
    conv => whnf
    exact ⟨⟨-1, rfl, .inl ⟨by decide, not_may hi (fun h => h5 ((may_at ha hb).1 h)) hl⟩⟩, rfl⟩
  have h5 := eqI_t h5
  conv => whnf
  rw [hbk]
  conv => whnf
  rw [encI_get1 (nL_at hi)]
  conv => whnf
  rw [hbT]
  conv => whnf
  rw [encLL_get1 hl']
  conv => whnf
  rw [hbl]
  conv => whnf
  rw [encI_get1 hx]
  conv => whnf
  rw [wrap_succ (by omega), wrap_i64 (by omega) (by omega)]
  refine ih (k + 1, t + x) ⟨?_, ?_, ?_, ?_, ?_⟩ ?_
  · simp only; omega
  · simp only
    rw [sumR_succ, ← ht, ofn_at hi, hxt]
  · simp only; omega
  · simp only; omega
  · simp only
    intro q j hq hqj
    by_cases hqk : q = k
    · subst hqk; rw [hi] at hqj; cases hqj
      exact ⟨(may_at ha hb).2 h5, by omega⟩
    · exact hA q j (by omega) hqj
  · simp only; omega
end Go.Proofs.Lx
end
section
/-
  TopLegs: the reference: Takes, Proves; orders compared; copies of rules and of squads.
-/
namespace Go.Proofs.Lx
open Go Go.Ab Go.Proofs.Lw
set_option maxRecDepth 100000
set_option maxHeartbeats 40000000
/-- What the reference says of an order. -/
def TakesP (r : Ru) (s : Sq) (l : List Int) (n e : Int) : Prop :=
  (e = 0 ∧ ∃ c, l = nL c ∧ OrdOk s.sc r.pc r.e.toNat c ∧ n = cost r.pc.length (tm s.T) (ofn c)) ∨ (e ≠ 0 ∧ ∀ c, l = nL c → ¬ OrdOk s.sc r.pc r.e.toNat c)
theorem takesE {r : Ru} {s : Sq} {l : List Int} {n e : Int} (h : e ≠ 0) (h2 : ∀ c, l = nL c → ¬ OrdOk s.sc r.pc r.e.toNat c) : TakesP r s l n e := .inr ⟨h, h2⟩
theorem Takes11 (r : Ru) (s : Sq) (O : OkS r s) (l : List Int) (hll : l.length < 4611686018427387904) : Sm Tryz.prog E 11 [.d (ruD r), .d (sqD s), .d (sl l)] []
    (fun v h => (∃ n e, v = .d (.tuple [.int .i64 n, .int .i64 e]) ∧ TakesP r s l n e) ∧ h = []) := by
  have hSc := O.scl
  refine sm_of HE true (by kernel_rfl) ?_
  unfold ruD ruL sqD sqL sl
  conv => whnf
  refine Sm.mono (refSquad r s (by have := O.tl; omega) (fun q hq => by have := O.rows q hq; have := O.ru.pcl; omega)) ?_
  rintro v h ⟨⟨e, rfl, he⟩, rfl⟩
  obtain rfl := he.2 O
  conv => whnf
  cases h1 : eqI (l.length : Int) (r.pc.length : Int)
  · have h1 := eqI_f h1
    conv => whnf
    exact ⟨⟨0, 2, rfl, takesE (by decide) fun c hc hO => h1 (by rw [hc, nL_length, hO.1])⟩, rfl⟩
  have h1 := eqI_t h1
  conv => whnf
  refine loops_by (fun k : Nat => ⟨45, [(2, .d (.slice l.length 1 (encI l))), (3, .ptr 0 0 0 6), (4, .ptr 1 0 0 2), (6, .d (.int .i64 0)), (7, .d (.int .i64 0)), (9, .d (.int .i64 k))], .unk, [.row (.ds (ruL r)) 0 0 [], .row (.ds (sqL s)) 0 0 []], []⟩)
    (fun k => k ≤ l.length ∧ ∀ (j : Nat) x, j < k → l[j]? = some x → 0 ≤ x ∧ x ≤ (s.sc.length : Int) - 1) (fun k => l.length - k) 0 ⟨Nat.zero_le _, fun j x h => absurd h (by omega)⟩ ?_
  rintro f k ⟨hk, hA⟩ ih
  conv => whnf
  cases h2 : ltI (k : Int) (l.length : Int)
  · have h2 := ltI_f h2
    have hB : ∀ x ∈ l, 0 ≤ x ∧ x ≤ (s.sc.length : Int) - 1 := fun x hx => by
      obtain ⟨j, hj⟩ := List.getElem?_of_mem hx
      exact hA j x (by have := lt_of_at hj; omega) hj
    obtain ⟨c, rfl⟩ := nL_of fun x hx => (hB x hx).1
    conv => whnf
    refine Sm.mono (takes24 r s O c (by rw [nL_length] at h1; omega) fun x hx => by
      have := hB x (List.mem_map.2 ⟨x, hx, rfl⟩)
      omega) ?_
    rintro v h ⟨⟨n, rfl, hn⟩, rfl⟩
    conv => whnf
    cases h3 : ltI n 0
    · have h3 := ltI_f h3
      conv => whnf
      refine ⟨⟨n, 0, rfl, .inl ⟨rfl, c, rfl, ?_⟩⟩, rfl⟩
      rcases hn with ⟨hn, _⟩ | ⟨_, h⟩
      · omega
      · exact h
    · have h3 := ltI_t h3
      conv => whnf
      refine ⟨⟨0, 8, rfl, takesE (by decide) fun d hd => ?_⟩, rfl⟩
      rcases hn with ⟨_, hn⟩ | ⟨hn, _⟩
      · have : d = c := by
          have := List.map_inj_right (f := Int.ofNat) (fun _ _ h => Int.ofNat.inj h) |>.1 hd
          exact this.symm
        rw [this]; exact hn
      · omega
  have h2 := ltI_t h2
  have hb := blt_t (i := k) (n := l.length) (by omega)
  obtain ⟨x, hx⟩ := at_some (l := l) (i := k) (by omega)
  conv => whnf
  rw [hb]
  conv => whnf
  rw [encI_get1 hx]
  conv => whnf
  rw [wrap_i64 (by omega) (by omega)]
  refine Rets.use (outside_ok x 0 _) ?_
  cases h3 : inB x 0 ((s.sc.length : Int) - 1)
  · have h3 := inB_false h3
    conv => whnf
    refine ⟨⟨0, 1, rfl, takesE (by decide) fun c hc hO => h3 ?_⟩, rfl⟩
    subst hc
    obtain ⟨i, hi⟩ := at_some (l := c) (i := k) (by rw [nL_length] at h2; omega)
    rw [nL_at hi] at hx
    cases hx
    have := hO.2.sk k (by rw [nL_length] at h2; have := hO.1; omega)
    rw [ofn_at hi] at this
    omega
  · have h3 := inB_true h3
    conv => whnf
    rw [wrap_succ (by omega)]
    exact ih (k + 1) ⟨by omega, fun j y hj hy => by
      by_cases hji : j = k
      · subst hji; rw [hx] at hy; cases hy; exact h3
      · exact hA j y (by omega) hy⟩ (by omega)
/-! ### Prices -/
structure PrOk (r : Ru) (s : Sq) (a b : List Int) : Prop where
  al : a.length = r.pc.length
  bl : b.length = s.sc.length
  ar : ∀ x ∈ a, -1000000 ≤ x ∧ x ≤ 1000000
  br : ∀ x ∈ b, -1000000 ≤ x ∧ x ≤ 1000000
  bp : ∀ x ∈ b, 0 ≤ x
  ok : ∀ (i k : Nat) (x y : Int), a[k]? = some x → b[i]? = some y → mayP s.sc r.pc i k → x ≤ tm s.T i k + y
def ProvesP (r : Ru) (s : Sq) (a b : List Int) (n e : Int) : Prop := (e = 0 ∧ PrOk r s a b ∧ n = a.sum - r.e * b.sum) ∨ (e ≠ 0 ∧ ¬ PrOk r s a b)
theorem mul_in {e x : Int} (h1 : 1 ≤ e) (h4 : e ≤ 4) (h : -1000000 ≤ x ∧ x ≤ 1000000) : -4000000 ≤ e * x ∧ e * x ≤ 4000000 := by
  have : e = 1 ∨ e = 2 ∨ e = 3 ∨ e = 4 := by omega
  rcases this with rfl | rfl | rfl | rfl <;> omega
theorem sum_snoc {l : List Int} {k : Nat} {x : Int} (h : l[k]? = some x) : (l.take (k + 1)).sum = (l.take k).sum + x := by rw [take_snoc h]; simp
theorem Proves12 (r : Ru) (s : Sq) (O : OkS r s) (a b : List Int) : Sm Tryz.prog E 12 [.d (ruD r), .d (sqD s), .d (sl a), .d (sl b)] []
    (fun v h => (∃ n e, v = .d (.tuple [.int .i64 n, .int .i64 e]) ∧ ProvesP r s a b n e) ∧ h = []) := by
  have hSc := O.scl
  have hPc := O.ru.pcl
  have hE := O.ru.e
  refine sm_of HE true (by kernel_rfl) ?_
  unfold ruD ruL sqD sqL sl
  conv => whnf
  refine Sm.mono (refSquad r s (by have := O.tl; omega) (fun q hq => by have := O.rows q hq; omega)) ?_
  rintro v h ⟨⟨e, rfl, he⟩, rfl⟩
  obtain rfl := he.2 O
  conv => whnf
  cases h1 : eqI (a.length : Int) (r.pc.length : Int)
  · have h1 := eqI_f h1
    conv => whnf
    exact ⟨⟨0, 2, rfl, .inr ⟨by decide, fun h => h1 (by have := h.al; omega)⟩⟩, rfl⟩
  have h1 := eqI_t h1
  conv => whnf
  cases h2 : eqI (b.length : Int) (s.sc.length : Int)
  · have h2 := eqI_f h2
    conv => whnf
    exact ⟨⟨0, 2, rfl, .inr ⟨by decide, fun h => h2 (by have := h.bl; omega)⟩⟩, rfl⟩
  have h2 := eqI_t h2
  conv => whnf
  refine loops_by (fun x : Nat × Int => ⟨122, [(2, .d (.slice a.length 1 (encI a))), (3, .d (.slice b.length 1 (encI b))), (4, .ptr 0 0 0 6), (5, .ptr 1 0 0 2), (8, .d (.int .i64 0)), (9, .d (.int .i64 0)), (11, .d (.int .i64 x.2)), (12, .d (.int .i64 x.1))], .unk, [.row (.ds (ruL r)) 0 0 [], .row (.ds (sqL s)) 0 0 []], []⟩)
    (fun x => x.1 ≤ a.length ∧ x.2 = (a.take x.1).sum ∧ -(x.1 * 1000000 : Int) ≤ x.2 ∧ x.2 ≤ x.1 * 1000000 ∧ ∀ (j : Nat) x', j < x.1 → a[j]? = some x' → -1000000 ≤ x' ∧ x' ≤ 1000000) (fun x => a.length - x.1) (0, 0) ⟨Nat.zero_le _, rfl, by decide, by decide, fun j x h => absurd h (by omega)⟩ ?_
  rintro f ⟨k, o⟩ ⟨hk, ho, ho0, ho1, hA⟩ ih
  simp only at hk ho ho0 ho1 hA
  conv => whnf
  cases h3 : ltI (k : Int) (a.length : Int)
  case true =>
    have h3 := ltI_t h3
    have hb := blt_t (i := k) (n := a.length) (by omega)
    obtain ⟨x, hx⟩ := at_some (l := a) (i := k) (by omega)
    conv => whnf
    rw [hb]
    conv => whnf
    rw [encI_get1 hx]
    conv => whnf
    refine Rets.use (outside_ok x (-1000000) 1000000) ?_
    cases h4 : inB x (-1000000) 1000000
    · have h4 := inB_false h4
      conv => whnf
      exact ⟨⟨0, 3, rfl, .inr ⟨by decide, fun h => h4 (h.ar x (List.mem_of_getElem? hx))⟩⟩, rfl⟩
    have h4 := inB_true h4
    conv => whnf
    rw [hb]
    conv => whnf
    rw [encI_get1 hx]
    conv => whnf
    rw [wrap_succ (by omega), wrap_i64 (by omega) (by omega)]
    refine ih (k + 1, o + x) ⟨?_, ?_, ?_, ?_, ?_⟩ ?_
    · simp only; omega
    · simp only; rw [sum_snoc hx, ho]
    · simp only; omega
    · simp only; omega
    · simp only
      intro j y hj hy
      by_cases hji : j = k
      · subst hji; rw [hx] at hy; cases hy; exact h4
      · exact hA j y (by omega) hy
    · simp only; omega
  have h3 := ltI_f h3
  have hka : k = a.length := by omega
  subst hka
  rw [List.take_length] at ho
  have hA : ∀ x ∈ a, -1000000 ≤ x ∧ x ≤ 1000000 := fun x hx => by
    obtain ⟨j, hj⟩ := List.getElem?_of_mem hx
    exact hA j x (lt_of_at hj) hj
  conv => whnf
  refine loops_by (fun x : Nat × Int => ⟨122, [(2, .d (.slice a.length 1 (encI a))), (3, .d (.slice b.length 1 (encI b))), (4, .ptr 0 0 0 6), (5, .ptr 1 0 0 2), (8, .d (.int .i64 0)), (9, .d (.int .i64 0)), (11, .d (.int .i64 x.2)), (13, .d (.int .i64 x.1))], .unk, [.row (.ds (ruL r)) 0 0 [], .row (.ds (sqL s)) 0 0 []], []⟩)
    (fun x => x.1 ≤ b.length ∧ x.2 = a.sum - r.e * (b.take x.1).sum ∧ -(4000000 + x.1 * 4000000 : Int) ≤ x.2 ∧ x.2 ≤ 4000000 + x.1 * 4000000 ∧ ∀ (j : Nat) x', j < x.1 → b[j]? = some x' → -1000000 ≤ x' ∧ x' ≤ 1000000) (fun x => b.length - x.1) (0, o) ⟨Nat.zero_le _, by simp [ho], by simp only; omega, by simp only; omega, fun j x h => absurd h (by omega)⟩ ?_
  rintro f2 ⟨i, o2⟩ ⟨hi, ho2, ho20, ho21, hB⟩ ih2
  simp only at hi ho2 ho20 ho21 hB
  conv => whnf
  cases h5 : ltI (i : Int) (b.length : Int)
  case true =>
    have h5 := ltI_t h5
    have hb := blt_t (i := i) (n := b.length) (by omega)
    obtain ⟨x, hx⟩ := at_some (l := b) (i := i) (by omega)
    conv => whnf
    rw [hb]
    conv => whnf
    rw [encI_get1 hx]
    conv => whnf
    refine Rets.use (outside_ok x (-1000000) 1000000) ?_
    cases h6 : inB x (-1000000) 1000000
    · have h6 := inB_false h6
      conv => whnf
      exact ⟨⟨0, 3, rfl, .inr ⟨by decide, fun h => h6 (h.br x (List.mem_of_getElem? hx))⟩⟩, rfl⟩
    have h6 := inB_true h6
    have hm := mul_in hE.1 hE.2 h6
    have hd := Int.mul_add r.e (b.take i).sum x
    conv => whnf
    rw [hb]
    conv => whnf
    rw [encI_get1 hx]
    conv => whnf
    rw [wrap_succ (by omega), wrap_i64 (n := r.e * x) (by omega) (by omega), wrap_i64 (by omega) (by omega)]
    refine ih2 (i + 1, o2 - r.e * x) ⟨?_, ?_, ?_, ?_, ?_⟩ ?_
    · simp only; omega
    · simp only; rw [sum_snoc hx, hd, ho2]; omega
    · simp only; omega
    · simp only; omega
    · simp only
      intro j y hj hy
      by_cases hji : j = i
      · subst hji; rw [hx] at hy; cases hy; exact h6
      · exact hB j y (by omega) hy
    · simp only; omega
  have h5 := ltI_f h5
  have hib : i = b.length := by omega
  subst hib
  rw [List.take_length] at ho2
  have hB : ∀ x ∈ b, -1000000 ≤ x ∧ x ≤ 1000000 := fun x hx => by
    obtain ⟨j, hj⟩ := List.getElem?_of_mem hx
    exact hB j x (lt_of_at hj) hj
  conv => whnf
  refine loops_by (fun i : Nat => ⟨122, [(2, .d (.slice a.length 1 (encI a))), (3, .d (.slice b.length 1 (encI b))), (4, .ptr 0 0 0 6), (5, .ptr 1 0 0 2), (8, .d (.int .i64 0)), (9, .d (.int .i64 0)), (11, .d (.int .i64 o2)), (14, .d (.int .i64 i))], .unk, [.row (.ds (ruL r)) 0 0 [], .row (.ds (sqL s)) 0 0 []], []⟩)
    (fun i => i ≤ b.length ∧ ∀ (j : Nat) y, j < i → b[j]? = some y → 0 ≤ y ∧ ∀ (k : Nat) x, a[k]? = some x → mayP s.sc r.pc j k → x ≤ tm s.T j k + y) (fun i => b.length - i) 0 ⟨Nat.zero_le _, fun j x h => absurd h (by omega)⟩ ?_
  rintro f3 i ⟨hi3, hC⟩ ih3
  conv => whnf
  cases h7 : ltI (i : Int) (b.length : Int)
  · have h7 := ltI_f h7
    conv => whnf
    refine ⟨⟨o2, 0, rfl, .inl ⟨rfl, ⟨by omega, by omega, hA, hB, fun x hx => ?_, fun j k x y hx hy hm => ?_⟩, ho2⟩⟩, rfl⟩
    · obtain ⟨j, hj⟩ := List.getElem?_of_mem hx
      exact (hC j x (by have := lt_of_at hj; omega) hj).1
    · exact (hC j y (by have := lt_of_at hy; omega) hy).2 k x hx hm
  have h7 := ltI_t h7
  have hbi := blt_t (i := i) (n := b.length) (by omega)
  obtain ⟨y, hy⟩ := at_some (l := b) (i := i) (by omega)
  have hyr := hB y (List.mem_of_getElem? hy)
  obtain ⟨ca, hca, _⟩ := O.cls (i := i) (by omega)
  obtain ⟨row, hrow, hrl⟩ := O.row (i := i) (by omega)
  have hbs := blt_t (i := i) (n := s.sc.length) (by omega)
  have hbT := blt_t (i := i) (n := s.T.length) (by have := O.tl; omega)
  conv => whnf
  rw [hbi]
  conv => whnf
  rw [encI_get1 hy]
  conv => whnf
  cases h8 : ltI y 0
  case true =>
    have h8 := ltI_t h8
    conv => whnf
    exact ⟨⟨0, 8, rfl, .inr ⟨by decide, fun h => by have := h.bp y (List.mem_of_getElem? hy); omega⟩⟩, rfl⟩
  have h8 := ltI_f h8
  conv => whnf
  refine loops_by (fun k : Nat => ⟨122, [(2, .d (.slice a.length 1 (encI a))), (3, .d (.slice b.length 1 (encI b))), (4, .ptr 0 0 0 6), (5, .ptr 1 0 0 2), (8, .d (.int .i64 0)), (9, .d (.int .i64 0)), (11, .d (.int .i64 o2)), (14, .d (.int .i64 i)), (15, .d (.int .i64 k))], .unk, [.row (.ds (ruL r)) 0 0 [], .row (.ds (sqL s)) 0 0 []], []⟩)
    (fun k => k ≤ a.length ∧ ∀ (q : Nat) x, q < k → a[q]? = some x → mayP s.sc r.pc i q → x ≤ tm s.T i q + y) (fun k => a.length - k) 0 ⟨Nat.zero_le _, fun j x h => absurd h (by omega)⟩ ?_
  rintro f4 k ⟨hk4, hD⟩ ih4
  conv => whnf
  cases h9 : ltI (k : Int) (a.length : Int)
  · have h9 := ltI_f h9
    conv => whnf
    rw [wrap_succ (by omega)]
    exact ih3 (i + 1) ⟨by omega, fun j z hj hz => by
      by_cases hji : j = i
      · subst hji; rw [hy] at hz; cases hz
        exact ⟨h8, fun k x hx hm => hD k x (by have := lt_of_at hx; omega) hx hm⟩
      · exact hC j z (by omega) hz⟩ (by omega)
  have h9 := ltI_t h9
  have hbk := blt_t (i := k) (n := a.length) (by omega)
  obtain ⟨x, hx⟩ := at_some (l := a) (i := k) (by omega)
  have hxr := hA x (List.mem_of_getElem? hx)
  obtain ⟨cb, hcb, _⟩ := O.ru.leg (k := k) (by omega)
  obtain ⟨z, hz, hzt, hz0, hz1⟩ := O.time hrow (k := k) (by omega)
  have hbp := blt_t (i := k) (n := r.pc.length) (by omega)
  have hbr := blt_t (i := k) (n := row.length) (by omega)
  conv => whnf
  rw [hbs]
  conv => whnf
  rw [encI_get1 hca]
  conv => whnf
  rw [hbp]
  conv => whnf
  rw [encI_get1 hcb]
  conv => whnf
  cases h10 : eqI ca cb
  · have h10 := eqI_f h10
    conv => whnf
    rw [wrap_succ (by omega)]
    exact ih4 (k + 1) ⟨by omega, fun q x' hq hx' hm => by
      by_cases hqk : q = k
      · subst hqk; exact absurd ((may_at hca hcb).1 hm) h10
      · exact hD q x' (by omega) hx' hm⟩ (by omega)
  have h10 := eqI_t h10
  conv => whnf
  rw [hbk]
  conv => whnf
  rw [encI_get1 hx]
  conv => whnf
  rw [hbT]
  conv => whnf
  rw [encLL_get1 hrow]
  conv => whnf
  rw [hbr]
  conv => whnf
  rw [encI_get1 hz]
  conv => whnf
  rw [hbi]
  conv => whnf
  rw [encI_get1 hy]
  conv => whnf
  rw [wrap_i64 (n := z + y) (by omega) (by omega)]
  cases h11 : ltI (z + y) x
  case true =>
    have h11 := ltI_t h11
    conv => whnf
    refine ⟨⟨0, 8, rfl, .inr ⟨by decide, fun h => ?_⟩⟩, rfl⟩
    have := h.ok i k x y hx hy ((may_at hca hcb).2 h10)
    omega
  · have h11 := ltI_f h11
    conv => whnf
    rw [wrap_succ (by omega)]
    exact ih4 (k + 1) ⟨by omega, fun q x' hq hx' hm => by
      by_cases hqk : q = k
      · subst hqk; rw [hx] at hx'; cases hx'; omega
      · exact hD q x' (by omega) hx' hm⟩ (by omega)
end Go.Proofs.Lx
end
