/-
  TopLegs: the program: who may do what; what an order takes.
-/
import Derived.Test.YtbgaomkepfienaaGreatDoorLxE
section
namespace Go.Proofs.Lx
open Go Go.Ab Go.Proofs.Lw
set_option maxRecDepth 100000
set_option maxHeartbeats 40000000
/-- A choice: a squad with rules. -/
def chL (r : Ru) (s : Sq) : List D := [.slice s.sc.length 1 (encI s.sc), .slice s.T.length 1 (encLL s.T), .slice r.pc.length 1 (encI r.pc), .int .i64 r.e, .int .i64 r.laps, .int .i64 r.spare, .int .i64 r.loop, .int .i64 r.un]
def chD (r : Ru) (s : Sq) : D := .agg (chL r s)
theorem may23 {r : Ru} {s : Sq} (O : OkS r s) {i k : Nat} (hi : i < s.sc.length) (hk : k < r.pc.length) : Rets Tryz.prog E 23 [.d (chD r s), .d (.int .i64 i), .d (.int .i64 k)] (.d (.bool (mayB s.sc r.pc i k))) := by
  obtain ⟨a, ha, _⟩ := O.cls hi
  obtain ⟨b, hb, _⟩ := O.ru.leg hk
  have hbi := blt_t (i := i) (n := s.sc.length) hi
  have hbp := blt_t (i := k) (n := r.pc.length) hk
  have hm : mayB s.sc r.pc i k = eqI a b := by
    unfold mayB
    rw [eqI_eq]
    exact decide_eq_decide.2 (may_at ha hb)
  rw [hm]
  refine sm_of HE true (by kernel_rfl) ?_
  unfold chD chL
  conv => whnf
  rw [hbi]
  conv => whnf
  rw [encI_get1 ha]
  conv => whnf
  rw [hbp]
  conv => whnf
  rw [encI_get1 hb]
  conv => whnf
  exact ⟨rfl, rfl⟩
theorem sum54 (l : List Int) (e : Nat) (hl : l.length ≤ 100) (hb : ∀ x ∈ l, 0 ≤ x ∧ x ≤ 100000) : Sm Tryz.prog E 54 [.slice 0 e 0 l.length 1] [.row (.ds (encI l)) e 0 []] (fun v h => v = .d (.int .i64 l.sum) ∧ h = [.row (.ds (encI l)) e 0 []]) := by
  refine sm_of HE true (by kernel_rfl) ?_
  conv => whnf
  refine loops_by (fun x : Nat × Int => match x with | (k, o) => ⟨17, [(2, .d (.int .i64 0)), (3, .d (.int .i64 o)), (6, .slice 0 e 0 l.length 1), (7, .d (.int .i64 l.length)), (8, .d (.int .i64 k))], .unk, [.row (.ds (encI l)) e 0 []], []⟩)
    (fun x => x.1 ≤ l.length ∧ x.2 = (l.take x.1).sum ∧ 0 ≤ x.2 ∧ x.2 ≤ x.1 * 100000) (fun x => l.length - x.1) (0, 0) ⟨Nat.zero_le _, rfl, by decide, by decide⟩ ?_
  rintro f ⟨k, o⟩ ⟨hk, ho, ho0, ho1⟩ ih
  simp only at hk ho ho0 ho1
  conv => whnf
  cases h1 : ltI (k : Int) (l.length : Int)
  · have h1 := ltI_f h1
    rw [List.take_of_length_le (by omega)] at ho
    rw [← ho]
    conv => whnf
    exact ⟨rfl, rfl⟩
  have h1 := ltI_t h1
  have hb' := blt_t (i := k) (n := l.length) (by omega)
  obtain ⟨x, hx⟩ := at_some (l := l) (i := k) (by omega)
  have hxb := hb x (List.mem_of_getElem? hx)
  conv => whnf
  rw [hb']
  conv => whnf
  rw [ble_t (i := 0 + k * 1 + 1) (Nat.le_refl _)]
  conv => whnf
  rw [may_all]
  conv => whnf
  rw [encI_get0 hx]
  conv => whnf
  rw [wrap_succ (by omega), wrap_i64 (by omega) (by omega)]
  exact ih (k + 1, o + x) ⟨by simp only; omega, by simp only; rw [sum_snoc hx, ho], by simp only; omega, by simp only; omega⟩ (by simp only; omega)
def ab (k : Nat) : Nat := match k with | 0 => 2 | _ + 1 => 3
theorem takes40 {r : Ru} {s : Sq} (O : OkS r s) (c : List Nat) (e fl : Nat) (hfl : fl ≤ e) (hl : c.length = r.pc.length) (hs : ∀ x ∈ c, x < s.sc.length) :
    Sm Tryz.prog E 40 [.d (chD r s), .slice 0 e 0 c.length 1] [.row (.ds (encI (nL c))) e fl []]
    (fun v h => (∃ n ok, v = .d (.tuple [.int .i64 n, .bool ok]) ∧ ((ok = true ∧ tk s.sc r.pc s.T r.e.toNat c = some n) ∨ (ok = false ∧ tk s.sc r.pc s.T r.e.toNat c = none))) ∧ h = [.row (.ds (encI (nL c))) e fl []]) := by
  have hL := O.ru.pcl
  have hE := O.ru.e
  refine sm_of HE true (by kernel_rfl) ?_
  unfold chD chL
  conv => whnf
  refine loops_by (fun x : Nat × List Int => match x with | (k, A) => ⟨54, [(2, .ptr 1 0 0 8), (4, .d (.int .i64 0)), (5, .d (.bool false)), (6, .d (.func 23 [chD r s] [])), (7, slV 2 k), (8, .ptr (ab k) 0 0 8), (13, .slice 0 e 0 c.length 1), (14, .d (.int .i64 c.length)), (15, .d (.int .i64 k))], .unk,
      [.row (.ds (encI (nL c))) e fl [], .row (.ds (chL r s)) 0 0 []] ++ (rwO k (tL s.T c k) ++ [.row (.ds (encI A)) 0 0 []]), []⟩)
    (fun x => x.1 ≤ c.length ∧ x.2.length = 8 ∧ (∀ j, j < 8 → x.2[j]? = some ((cn (c.take x.1) j : Nat) : Int)) ∧ Fine s.sc r.pc r.e.toNat c x.1) (fun x => c.length - x.1) (0, List.replicate 8 0) ⟨Nat.zero_le _, rfl, fun j hj => by rw [List.getElem?_replicate, if_pos hj]; rfl, Fine.zero⟩ ?_
  rintro f ⟨k, A⟩ ⟨hk, hA, hAc, hF⟩ ih
  simp only at hk hA hAc hF
  cases k with
  | zero =>
    have h1 := ltI_tt (a := ((0 : Nat) : Int)) (b := c.length) (by omega)
    have hb' := blt_t (i := 0) (n := c.length) (by omega)
    obtain ⟨i, hi⟩ := at_some (l := c) (i := 0) (by omega)
    have hiS := hs i (List.mem_of_getElem? hi)
    have hS := O.scl
    have hb8 := blt_t (i := i) (n := 8) (by omega)
    have hcl : cn (c.take 0) i ≤ 4 := Nat.le_trans (cn_le c 0 i) (Nat.le_trans (cn_le_len c i) (by omega))
    obtain ⟨l, hl', hll⟩ := O.row hiS
    obtain ⟨x, hx, hxt, hx0, hx1⟩ := O.time hl' (k := 0) (by omega)
    have hbT := blt_t (i := i) (n := s.T.length) (by have := O.tl; omega)
    have hbl := blt_t (i := 0) (n := l.length) (by omega)
    have hof := ofn_at hi
    have hsn := fun j => cn_snoc hi j
    conv => whnf
    rw [h1]
    conv => whnf
    rw [hb']
    conv => whnf
    rw [may_fl hfl]
    conv => whnf
    rw [encI_get0 (nL_at hi)]
    conv => whnf
    rw [hb8]
    conv => whnf
    rw [ble_t (i := 0 + i * 1 + 1) (n := 8) (by omega)]
    conv => whnf
    rw [encI_get0 (hAc i (by omega))]
    conv => whnf
    rw [hb8]
    conv => whnf
    rw [ble_t (i := 0 + i * 1 + 1) (n := 8) (by omega)]
    conv => whnf
    rw [wrap_succ (by omega)]
    generalize hy : (((cn (c.take 0) i + 1 : Nat)) : Int) = y
    rw [ble_t (i := 0 + i * 1 + [V.d (D.int .i64 y)].length) (by simp only [List.length_cons, List.length_nil, Cells.len, encI_length]; omega)]
    conv => whnf
    rw [write_int (i := i) (x := y) (by omega) (by omega)]
    conv => whnf
    refine Rets.use (may23 O hiS (k := 0) (by omega)) ?_
    cases h2 : mayB s.sc r.pc i 0
    · have h2 := of_decide_eq_false h2
      conv => whnf
      exact ⟨⟨0, false, rfl, .inr ⟨rfl, tk_none.2 (not_may hi h2 hl)⟩⟩, rfl⟩
    have h2 := of_decide_eq_true h2
    have hgy : (A.set i y)[i]? = some y := List.getElem?_set_self (by omega)
    conv => whnf
    rw [hb8]
    conv => whnf
    rw [ble_t (i := 0 + i * 1 + 1) (n := 8) (by omega)]
    conv => whnf
    rw [encI_get0 hgy]
    conv => whnf
    cases h3 : ltI r.e y
    case true =>
      have h3 := ltI_t h3
      conv => whnf
      exact ⟨⟨0, false, rfl, .inr ⟨rfl, tk_none.2 (not_of_take hi (by omega))⟩⟩, rfl⟩
    have h3 := ltI_f h3
    have hF' := hF.next hi h2 (by omega)
    conv => whnf
    rw [hbT]
    conv => whnf
    rw [encLL_get1 hl']
    conv => whnf
    rw [hbl]
    conv => whnf
    rw [encI_get1 hx]
    conv => whnf
    have hAc' : ∀ j, j < 8 → (A.set i y)[j]? = some ((cn (c.take (0 + 1)) j : Nat) : Int) := fun j hj => by
      rw [hsn j, List.getElem?_set]
      by_cases hij : i = j
      · subst hij; rw [if_pos rfl, if_pos (by omega), if_pos rfl, ← hy]
      · simp only [if_neg hij, hAc j hj, Nat.add_zero]
    have e1 : tL s.T c 1 = [x] := by rw [tL_succ, hof, hxt]; rfl
    have k := ih (1, A.set i y) ⟨by simp only; omega, by simp only; rw [List.length_set]; exact hA, hAc', hF'⟩ (by simp only; omega)
    dsimp only at k
    rw [e1] at k
    rw [wrap_succ (by omega)]
    exact k
  | succ k =>
    have hlk : (tL s.T c (k + 1)).length = k + 1 := tL_length ..
    cases h0' : ltI ((k + 1 : Nat) : Int) (c.length : Int)
    · have h0 := ltI_f h0'
      have hkc : k + 1 = c.length := by omega
      conv => whnf
      rw [h0']
      conv => whnf
      have hsum := sum54 (tL s.T c (k + 1)) k (by omega) (fun y hy => by
        obtain ⟨q, hq, rfl⟩ := List.mem_map.1 hy
        have hq := List.mem_range.1 hq
        obtain ⟨i, hi⟩ := at_some (l := c) (i := q) (by omega)
        obtain ⟨l, hl', _⟩ := O.row (hs i (List.mem_of_getElem? hi))
        obtain ⟨x, _, hxt, hx0, hx1⟩ := O.time hl' (k := q) (by omega)
        rw [ofn_at hi, hxt]
        exact ⟨hx0, hx1⟩)
      rw [hlk] at hsum
      refine Sm.mono hsum ?_
      rintro v h ⟨rfl, rfl⟩
      conv => whnf
      refine ⟨⟨_, true, rfl, .inl ⟨rfl, tk_some.2 ⟨?_, ?_⟩⟩⟩, rfl⟩
      · rw [hkc] at hF; exact hF.ord hl hs
      · rw [hkc, tL_sum, hl]
    have h0 := ltI_t h0'
    have h1 := ltI_tt (a := (((k + 1) : Nat) : Int)) (b := c.length) (by omega)
    have hb' := blt_t (i := (k + 1)) (n := c.length) (by omega)
    obtain ⟨i, hi⟩ := at_some (l := c) (i := (k + 1)) (by omega)
    have hiS := hs i (List.mem_of_getElem? hi)
    have hS := O.scl
    have hb8 := blt_t (i := i) (n := 8) (by omega)
    have hcl : cn (c.take (k + 1)) i ≤ 4 := Nat.le_trans (cn_le c (k + 1) i) (Nat.le_trans (cn_le_len c i) (by omega))
    obtain ⟨l, hl', hll⟩ := O.row hiS
    obtain ⟨x, hx, hxt, hx0, hx1⟩ := O.time hl' (k := (k + 1)) (by omega)
    have hbT := blt_t (i := i) (n := s.T.length) (by have := O.tl; omega)
    have hbl := blt_t (i := (k + 1)) (n := l.length) (by omega)
    have hof := ofn_at hi
    have hsn := fun j => cn_snoc hi j
    conv => whnf
    rw [h1]
    conv => whnf
    rw [hb']
    conv => whnf
    rw [ble_t (i := 0 + (k + 1) * 1 + 1) (Nat.le_refl _)]
    conv => whnf
    rw [may_fl hfl]
    conv => whnf
    rw [encI_get0 (nL_at hi)]
    conv => whnf
    rw [hb8]
    conv => whnf
    rw [ble_t (i := 0 + i * 1 + 1) (n := 8) (by omega)]
    conv => whnf
    rw [encI_get0 (hAc i (by omega))]
    conv => whnf
    rw [hb8]
    conv => whnf
    rw [ble_t (i := 0 + i * 1 + 1) (n := 8) (by omega)]
    conv => whnf
    rw [wrap_succ (by omega)]
    generalize hy : (((cn (c.take (k + 1)) i + 1 : Nat)) : Int) = y
    rw [ble_t (i := 0 + i * 1 + [V.d (D.int .i64 y)].length) (by simp only [List.length_cons, List.length_nil, Cells.len, encI_length]; omega)]
    conv => whnf
    rw [write_int (i := i) (x := y) (by omega) (by omega)]
    conv => whnf
    refine Rets.use (may23 O hiS (k := (k + 1)) (by omega)) ?_
    cases h2 : mayB s.sc r.pc i (k + 1)
    · have h2 := of_decide_eq_false h2
      conv => whnf
      exact ⟨⟨0, false, rfl, .inr ⟨rfl, tk_none.2 (not_may hi h2 hl)⟩⟩, rfl⟩
    have h2 := of_decide_eq_true h2
    have hgy : (A.set i y)[i]? = some y := List.getElem?_set_self (by omega)
    conv => whnf
    rw [hb8]
    conv => whnf
    rw [ble_t (i := 0 + i * 1 + 1) (n := 8) (by omega)]
    conv => whnf
    rw [encI_get0 hgy]
    conv => whnf
    cases h3 : ltI r.e y
    case true =>
      have h3 := ltI_t h3
      conv => whnf
      exact ⟨⟨0, false, rfl, .inr ⟨rfl, tk_none.2 (not_of_take hi (by omega))⟩⟩, rfl⟩
    have h3 := ltI_f h3
    have hF' := hF.next hi h2 (by omega)
    conv => whnf
    rw [hbT]
    conv => whnf
    rw [encLL_get1 hl']
    conv => whnf
    rw [hbl]
    conv => whnf
    rw [encI_get1 hx]
    conv => whnf
    have hAc' : ∀ j, j < 8 → (A.set i y)[j]? = some ((cn (c.take ((k + 1) + 1)) j : Nat) : Int) := fun j hj => by
      rw [hsn j, List.getElem?_set]
      by_cases hij : i = j
      · subst hij; rw [if_pos rfl, if_pos (by omega), if_pos rfl, ← hy]
      · simp only [if_neg hij, hAc j hj, Nat.add_zero]
    rw [ble_t (i := (k + 1 + 1) * 8) (n := 140737488355328) (by omega)]
    conv => whnf
    rw [may_all]
    conv => whnf
    rw [len_beq hlk, wrap_succ (by omega), List.take_of_length_le (by rw [encI_length, hlk]; omega)]
    have e1 : ∀ (l : List Int) (x : Int), encI l ++ [D.int .i64 x] = encI (l ++ [x]) := fun l x => (encI_snoc l x).symm
    rw [e1]
    have e2 : tL s.T c (k + 1 + 1) = tL s.T c (k + 1) ++ [x] := by rw [tL_succ, hof, hxt]
    have k' := ih (k + 1 + 1, A.set i y) ⟨by simp only; omega, by simp only; rw [List.length_set]; exact hA, hAc', hF'⟩ (by simp only; omega)
    dsimp only at k'
    rw [e2] at k'
    exact k'
end Go.Proofs.Lx
end
section
/-
  TopLegs: the program's search of the best order.
-/
namespace Go.Proofs.Lx
open Go Go.Ab Go.Proofs.Lw
set_option maxRecDepth 100000
set_option maxHeartbeats 40000000
theorem clone41 (l : List Int) (e fl : Nat) (hfl : fl ≤ e) (h1 : 1 ≤ l.length) (h2 : l.length ≤ 100) : Sm Tryz.prog E 41 [.slice 0 e 0 l.length 1] [.row (.ds (encI l)) e fl []] (fun v h => v = .d (sl l) ∧ h = [.row (.ds (encI l)) e fl []]) := by
  obtain ⟨n, hn⟩ : ∃ n, l.length = n + 1 := ⟨l.length - 1, by omega⟩
  unfold sl
  rw [hn]
  refine sm_of HE true (by kernel_rfl) ?_
  conv => whnf
  rw [may_fl hfl]
  conv => whnf
  rw [ble_t (i := 0 + (n + 1) * 1) (n := (Cells.ds (encI l)).toV.length) (by simp only [Cells.toV, List.length_map, encI_length]; omega)]
  conv => whnf
  rw [ble_t (i := (n + 1) * 8) (n := 140737488355328) (by omega)]
  conv => whnf
  have hel : (encI l).length = (n + 1) * 1 := by rw [encI_length]; omega
  have hov : Cells.ofV (List.take ((n + 1) * 1) (List.drop 0 (Cells.ds (encI l)).toV)) = .ds (encI l) := by
    rw [show (Cells.ds (encI l)).toV = (encI l).map V.d from rfl, List.drop_zero, List.take_of_length_le (by rw [List.length_map]; omega), ofV_map]
  rw [hov]
  conv => whnf
  rw [ble_t (i := 0 + (n + 1) * 1) (by omega)]
  conv => whnf
  refine ⟨?_, rfl⟩
  rw [row_all hel]
theorem clone41b (l : List Int) (e fl : Nat) (hfl : fl ≤ e) (h1 : 1 ≤ l.length) (h2 : l.length ≤ 100) : Sm Tryz.prog E 41 [.slice 0 e 0 l.length 1] [.row (.ds (encI l)) e fl []] (fun v h => v = .slice 1 0 0 l.length 1 ∧ h = [.row (.ds (encI l)) e fl [], .row (.ds (encI l)) 0 0 []]) := by
  obtain ⟨n, hn⟩ : ∃ n, l.length = n + 1 := ⟨l.length - 1, by omega⟩
  rw [hn]
  refine sm_of HE false (by kernel_rfl) ?_
  conv => whnf
  rw [may_fl hfl]
  conv => whnf
  rw [ble_t (i := 0 + (n + 1) * 1) (n := (Cells.ds (encI l)).toV.length) (by simp only [Cells.toV, List.length_map, encI_length]; omega)]
  conv => whnf
  rw [ble_t (i := (n + 1) * 8) (n := 140737488355328) (by omega)]
  conv => whnf
  have hel : (encI l).length = (n + 1) * 1 := by rw [encI_length]; omega
  have hov : Cells.ofV (List.take ((n + 1) * 1) (List.drop 0 (Cells.ds (encI l)).toV)) = .ds (encI l) := by
    rw [show (Cells.ds (encI l)).toV = (encI l).map V.d from rfl, List.drop_zero, List.take_of_length_le (by rw [List.length_map]; omega), ofV_map]
  rw [hov]
  conv => whnf
  exact ⟨rfl, rfl⟩
theorem clone41n : Rets Tryz.prog E 41 [.d .nil] (.d .nil) := by
  refine sm_of HE true (by kernel_rfl) ?_
  conv => whnf
  exact ⟨rfl, rfl⟩
/-- What the search has found. -/
def bestD (st : Option (List Nat × Int)) : D := match st with | none => .nil | some ([], _) => .slice (0 + 1) 1 [] | some (a :: l, _) => .slice ((nL l).length + 1) 1 (encI (nL (a :: l)))
def leastD (st : Option (List Nat × Int)) : D := match st with | none => .int .i64 0 | some (_, n) => .int .i64 n
def HG (r : Ru) (s : Sq) (m : Nat) (st : Option (List Nat × Int)) : List O :=
  [.row (.ds (chL r s)) 0 0 [], .row (.ds [bestD st]) 0 0 [], .row (.ds [leastD st]) 0 0 [], .row (.ds [.int .i64 (-1)]) 0 0 [],
   .row (.vs [.func 39 [] [.ptr m 0 0 8, .ptr (m + 1) 0 0 1, .ptr (m + 2) 0 0 1, .ptr (m + 3) 0 0 1, .ptr (m + 4) 0 0 1]]) 0 0 []]
theorem keep_ge {tk : List Nat → Option Int} {b c : List Nat} {n m : Int} (h : tk c = some n) (h2 : m ≤ n) : keep tk (some (b, m)) c = some (b, m) := by
  unfold keep; rw [h]; simp only; rw [if_neg (by omega)]
theorem keep_lt {tk : List Nat → Option Int} {b c : List Nat} {n m : Int} (h : tk c = some n) (h2 : n < m) : keep tk (some (b, m)) c = some (c, n) := by
  unfold keep; rw [h]; simp only; rw [if_pos (by omega)]
theorem leaf39 {r : Ru} {s : Sq} (O : OkS r s) (c : List Nat) (e fl : Nat) (hfl : fl ≤ e) (hl : c.length = r.pc.length) (hs : ∀ x ∈ c, x < s.sc.length) (st : Option (List Nat × Int)) :
    Sm Tryz.prog E 39 [.slice 0 e 0 c.length 1, .ptr 1 0 0 8, .ptr 2 0 0 1, .ptr 3 0 0 1, .ptr 4 0 0 1, .ptr 5 0 0 1] (.row (.ds (encI (nL c))) e fl [] :: HG r s 1 st)
      (fun v h => v = .d (.tuple []) ∧ h = .row (.ds (encI (nL c))) e fl [] :: HG r s 1 (keep (tk s.sc r.pc s.T r.e.toNat) st c)) := by
  have hL := O.ru.pcl
  refine sm_of HE true (by kernel_rfl) ?_
  unfold HG chL
  conv => whnf
  rw [eqI_tt (a := (c.length : Int)) (b := (r.pc.length : Int)) (by omega)]
  conv => whnf
  refine Sm.mono (takes40 O c e fl hfl hl hs) ?_
  rintro v h ⟨⟨n, ok, rfl, hn⟩, rfl⟩
  rcases hn with ⟨rfl, hn⟩ | ⟨rfl, hn⟩
  · have hcl := clone41 (nL c) e fl hfl (by rw [nL_length]; omega) (by rw [nL_length]; omega)
    rw [nL_length] at hcl
    obtain ⟨a, c, rfl⟩ : ∃ a c', c = a :: c' := by
      cases c with
      | nil => simp only [List.length_nil] at hl; omega
      | cons a c' => exact ⟨a, c', rfl⟩
    cases st with
    | none =>
      have hk : keep (tk s.sc r.pc s.T r.e.toNat) none (a :: c) = some (a :: c, n) := by unfold keep; rw [hn]
      rw [hk]
      conv => whnf
      refine Sm.mono hcl ?_
      rintro v h ⟨rfl, rfl⟩
      conv => whnf
      exact ⟨rfl, rfl⟩
    | some x =>
      obtain ⟨b, m⟩ := x
      rcases b with _ | ⟨a', l'⟩
      all_goals
        conv => whnf
        cases h1 : ltI n m
        · rw [keep_ge hn (ltI_f h1)]
          conv => whnf
          exact ⟨rfl, rfl⟩
        · rw [keep_lt hn (ltI_t h1)]
          conv => whnf
          refine Sm.mono hcl ?_
          rintro v h ⟨rfl, rfl⟩
          conv => whnf
          exact ⟨rfl, rfl⟩
  · have hk : keep (tk s.sc r.pc s.T r.e.toNat) st c = st := by unfold keep; rw [hn]
    rw [hk]
    conv => whnf
    exact ⟨rfl, rfl⟩
/-- What has been found when so many have been tried as the next one. -/
noncomputable def gst (r : Ru) (s : Sq) (rem : Nat) (p : List Nat) (st : Option (List Nat × Int)) (i : Nat) : Option (List Nat × Int) :=
  (((List.range i).filter fun j => mayB s.sc r.pc j p.length).flatMap fun j => enum s.sc.length (mayB s.sc r.pc) rem (p ++ [j])).foldl (keep (tk s.sc r.pc s.T r.e.toNat)) st
theorem gst_no {r : Ru} {s : Sq} {rem : Nat} {p : List Nat} {st : Option (List Nat × Int)} {i : Nat} (h : mayB s.sc r.pc i p.length = false) : gst r s rem p st (i + 1) = gst r s rem p st i := by
  unfold gst; rw [List.range_succ, List.filter_append]; simp [h]
theorem gst_yes {r : Ru} {s : Sq} {rem : Nat} {p : List Nat} {st : Option (List Nat × Int)} {i : Nat} (h : mayB s.sc r.pc i p.length = true) :
    gst r s rem p st (i + 1) = (enum s.sc.length (mayB s.sc r.pc) rem (p ++ [i])).foldl (keep (tk s.sc r.pc s.T r.e.toNat)) (gst r s rem p st i) := by
  unfold gst; rw [List.range_succ, List.filter_append]; simp [h]
theorem gst_zero {r : Ru} {s : Sq} {rem : Nat} {p : List Nat} {st : Option (List Nat × Int)} : gst r s rem p st 0 = st := rfl
theorem grow39 {r : Ru} {s : Sq} (O : OkS r s) : ∀ (rem : Nat) (p : List Nat) (e fl : Nat) (st : Option (List Nat × Int)), fl ≤ e → p.length + rem = r.pc.length → 1 ≤ p.length → (∀ x ∈ p, x < s.sc.length) →
    Sm Tryz.prog E 39 [.slice 0 e 0 p.length 1, .ptr 1 0 0 8, .ptr 2 0 0 1, .ptr 3 0 0 1, .ptr 4 0 0 1, .ptr 5 0 0 1] (.row (.ds (encI (nL p))) e fl [] :: HG r s 1 st)
      (fun v h => v = .d (.tuple []) ∧ h = .row (.ds (encI (nL p))) e fl [] :: HG r s 1 ((enum s.sc.length (mayB s.sc r.pc) rem p).foldl (keep (tk s.sc r.pc s.T r.e.toNat)) st))
  | 0, p, e, fl, st, hfl, hl, h1, hs => leaf39 O p e fl hfl (by omega) hs st
  | rem + 1, p, e, fl, st, hfl, hl, h1, hs => by
    have hL := O.ru.pcl
    have hS := O.scl
    refine sm_of HE true (by kernel_rfl) ?_
    unfold HG chL
    conv => whnf
    rw [eqI_ff (a := (p.length : Int)) (b := (r.pc.length : Int)) (by omega)]
    conv => whnf
    refine loops_by (fun i : Nat => ⟨61, [(0, .slice 0 e 0 p.length 1), (1, .ptr 1 0 0 8), (4, .ptr 4 0 0 1), (5, .ptr 5 0 0 1), (39, .d (.int .i64 s.sc.length)), (40, .d (.int .i64 i))], .unk, .row (.ds (encI (nL p))) e fl [] :: HG r s 1 (gst r s rem p st i), []⟩)
      (fun i => i ≤ s.sc.length) (fun i => s.sc.length - i) 0 (Nat.zero_le _) ?_
    rintro f i hi ih
    conv => whnf
    cases h2 : ltI (i : Int) (s.sc.length : Int)
    · have h2 := ltI_f h2
      have hiS : i = s.sc.length := by omega
      subst hiS
      conv => whnf
      exact ⟨rfl, rfl⟩
    have h2 := ltI_t h2
    conv => whnf
    rw [eqI_ff (a := (i : Int)) (b := -1) (by omega)]
    conv => whnf
    refine Rets.use (may23 O (i := i) (k := p.length) (by omega) (by omega)) ?_
    cases h3 : mayB s.sc r.pc i p.length
    · have hg := gst_no (rem := rem) (st := st) h3
      have k := ih (i + 1) (by omega) (by omega)
      rw [hg] at k
      conv => whnf
      rw [wrap_succ (by omega)]
      exact k
    have hg := gst_yes (rem := rem) (st := st) h3
    have hcl := clone41b (nL p) e fl hfl (by rw [nL_length]; omega) (by rw [nL_length]; omega)
    rw [nL_length] at hcl
    have k := ih (i + 1) (by omega) (by omega)
    rw [hg] at k
    conv => whnf
    refine Sm.mono hcl ?_
    rintro v h ⟨rfl, rfl⟩
    conv => whnf
    rw [ble_t (i := (p.length + 1) * 8) (n := 140737488355328) (by omega)]
    conv => whnf
    have hel : (encI (nL p)).length = p.length * 1 := by rw [encI_length, nL_length, Nat.mul_one]
    have hbe : Nat.beq (p.length * 1) (Cells.ds (encI (nL p))).len = true := by simp only [Cells.len, hel]; exact Nat.beq_refl _
    have e1 : ∀ (l : List Int) (x : Int), encI l ++ [D.int .i64 x] = encI (l ++ [x]) := fun l x => (encI_snoc l x).symm
    rw [hbe, List.take_of_length_le (by omega), e1]
    have hIH := grow39 O rem (p ++ [i]) 1 0 (gst r s rem p st i) (by omega) (by simp; omega) (by simp) (fun x hx => by
      rcases List.mem_append.1 hx with hx | hx
      · exact hs x hx
      · simp only [List.mem_singleton] at hx; omega)
    rw [nL_snoc, List.length_append, List.length_singleton] at hIH
    refine Sm.mono hIH ?_
    rintro v h ⟨rfl, rfl⟩
    conv => whnf

    rw [wrap_succ (by omega)]
    exact k
end Go.Proofs.Lx
end
