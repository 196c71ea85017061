/-
  TopDecidedEarly: numbers are sorted.
-/
import Derived.Test.YtedodndgpjonkaaGreatDoorCxG
namespace Go.Proofs.Cx
open Go Go.Ab Go.Proofs.Cw
set_option maxRecDepth 100000
set_option maxHeartbeats 20000000
theorem wrap_u64 (n : Int) : IntKind.u64.wrap n = n % 18446744073709551616 := by
  simp [IntKind.wrap, IntKind.bits, IntKind.signed]
theorem len64_ok (n : Nat) (hn : n ≤ 12) : Sm Tryz.prog E 150 [.d (.int .u64 n)] [] (fun v h => (∃ x, v = .d (.int .i64 x)) ∧ h = []) := by
  have : n = 0 ∨ n = 1 ∨ n = 2 ∨ n = 3 ∨ n = 4 ∨ n = 5 ∨ n = 6 ∨ n = 7 ∨ n = 8 ∨ n = 9 ∨ n = 10 ∨ n = 11 ∨ n = 12 := by omega
  rcases this with rfl | rfl | rfl | rfl | rfl | rfl | rfl | rfl | rfl | rfl | rfl | rfl | rfl <;>
  · refine sm_of HE true (by kernel_rfl) ?_
    conv => whnf
    exact ⟨⟨_, rfl⟩, rfl⟩
theorem len_ok (n : Nat) (hn : n ≤ 12) : Sm Tryz.prog E 107 [.d (.int .u64 n)] [] (fun v h => (∃ x, v = .d (.int .i64 x)) ∧ h = []) := by
  refine sm_of HE true (by kernel_rfl) ?_
  conv => whnf
  refine Sm.mono (len64_ok n hn) ?_
  rintro v h ⟨⟨x, rfl⟩, rfl⟩
  conv => whnf
  exact ⟨⟨_, rfl⟩, rfl⟩
theorem drop_at {α : Type} {L : List α} {i : Nat} {x : α} (h : L[i]? = some x) : L.drop i = x :: L.drop (i + 1) := by
  obtain ⟨hi, rfl⟩ := List.getElem?_eq_some_iff.1 h
  exact List.drop_eq_getElem_cons hi
theorem take_snoc {α : Type} {L : List α} {i : Nat} {x : α} (h : L[i]? = some x) : L.take (i + 1) = L.take i ++ [x] := by
  rw [List.take_add_one, h]; rfl
theorem sorted_at {S : List Int} (h : S.Pairwise (· ≤ ·)) {t u : Nat} {y z : Int} (htu : t < u) (ht : S[t]? = some y) (hu : S[u]? = some z) : y ≤ z := by
  obtain ⟨h1, rfl⟩ := List.getElem?_eq_some_iff.1 ht
  obtain ⟨h2, rfl⟩ := List.getElem?_eq_some_iff.1 hu
  exact List.pairwise_iff_getElem.1 h t u h1 h2 htu
theorem isort_ok (L : List Int) (e fl q : Nat) (hq : q + 1 ≤ L.length) (hL : L.length ≤ 1000) (hfl : fl ≤ e) :
    Sm Tryz.prog E 154 [.slice 0 e 0 (q + 1) 1, .d (.int .i64 0), .d (.int .i64 (q + 1 : Nat))] [.row (.ds (encI L)) e fl []]
      (fun v h => v = .d (.tuple []) ∧ ∃ L' fl', fl' ≤ e ∧ h = [.row (.ds (encI L')) e fl' []] ∧ L'.drop (q + 1) = L.drop (q + 1) ∧ (L'.take (q + 1)).Perm (L.take (q + 1)) ∧ (L'.take (q + 1)).Pairwise (· ≤ ·)) := by
  obtain ⟨a0, l0, rfl⟩ : ∃ a l, L = a :: l := by
    cases L with
    | nil => simp at hq
    | cons a l => exact ⟨a, l, rfl⟩
  refine sm_of HE true (by kernel_rfl) ?_
  conv => whnf
  refine loops_by (fun x : Nat × List Int × Nat => match x with
      | (i, S, fl) => ⟨49, [(0, .slice 0 e 0 (q + 1) 1), (1, .d (.int .i64 0)), (2, .d (.int .i64 (q + 1 : Nat))), (6, .d (.int .i64 (i + 1 : Nat)))], .unk, [.row (.ds (encI (S ++ (a0 :: l0).drop (i + 1)))) e fl []], []⟩)
    (fun x => x.1 ≤ q ∧ x.2.1.length = x.1 + 1 ∧ x.2.1.Perm ((a0 :: l0).take (x.1 + 1)) ∧ x.2.1.Pairwise (· ≤ ·) ∧ x.2.2 ≤ e) (fun x => q - x.1) (0, [a0], fl) ⟨Nat.zero_le _, rfl, .refl _, List.pairwise_singleton _ _, hfl⟩ ?_
  generalize a0 :: l0 = L at *
  clear hfl fl
  rintro f ⟨i, S, fl⟩ ⟨hi, hS, hp, hs, hfl⟩ ih
  simp only at hi hS hp hs hfl
  conv => whnf
  cases h1 : ltI ((i + 1 : Nat) : Int) ((q + 1 : Nat) : Int)
  · have := ltI_f h1
    have hiq : i = q := by omega
    subst hiq
    conv => whnf
    refine ⟨rfl, S ++ L.drop (i + 1), fl, hfl, rfl, ?_, ?_, ?_⟩
    · rw [List.drop_append_of_le_length (by omega), List.drop_eq_nil_of_le (by omega)]; rfl
    · rw [List.take_append_of_le_length (by omega), List.take_of_length_le (by omega)]; exact hp
    · rw [List.take_append_of_le_length (by omega), List.take_of_length_le (by omega)]; exact hs
  have hlt := ltI_t h1
  obtain ⟨x, hx⟩ := at_some (l := L) (i := i + 1) (by omega)
  rw [drop_at hx]
  have hm0 : S ++ x :: L.drop (i + 1 + 1) = mid S x (i + 1) (L.drop (i + 1 + 1)) := by rw [← hS, mid_start]
  rw [hm0]
  conv => whnf
  refine loops_by (fun y : Nat × Nat => match y with
      | (j, fl) => ⟨49, [(0, .slice 0 e 0 (q + 1) 1), (1, .d (.int .i64 0)), (2, .d (.int .i64 (q + 1 : Nat))), (6, .d (.int .i64 (i + 1 : Nat))), (7, .d (.int .i64 j))], .unk, [.row (.ds (encI (mid S x j (L.drop (i + 1 + 1))))) e fl []], []⟩)
    (fun y => y.1 ≤ i + 1 ∧ y.2 ≤ e ∧ ∀ (t : Nat) z, y.1 ≤ t → S[t]? = some z → x ≤ z) (fun y => y.1) (i + 1, fl) ⟨Nat.le_refl _, hfl, fun t z ht hz => by have := lt_of_at hz; omega⟩ ?_
  rintro f2 ⟨j, fl2⟩ ⟨hj, hfl2, hge⟩ ih2
  simp only at hj hfl2 hge
  have hml : (mid S x j (L.drop (i + 1 + 1))).length = L.length := by rw [mid_length (by omega)]; simp; omega
  have hpe := mid_perm S x j
  have fin : (∀ (t : Nat) y, t < j → S[t]? = some y → y ≤ x) → (i + 1 ≤ q ∧ (mid S x j []).length = i + 1 + 1 ∧ (mid S x j []).Perm (L.take (i + 1 + 1)) ∧ (mid S x j []).Pairwise (· ≤ ·) ∧ fl2 ≤ e) := fun h =>
    ⟨by omega, by rw [mid_length (by omega)]; simp; omega, hpe.trans (by rw [take_snoc hx]; exact hp.append_right _), mid_sorted hs h hge, hfl2⟩
  conv => whnf
  cases h2 : ltI 0 (j : Int)
  · have h2 := ltI_f h2
    rw [mid_end]
    conv => whnf
    rw [wrap_succ (by omega)]
    exact ih (i + 1, mid S x j [], fl2) (fin fun t y ht => by omega) (by simp only; omega)
  have h2 := ltI_t h2
  obtain ⟨k, rfl⟩ : ∃ k, j = k + 1 := ⟨j - 1, by omega⟩
  obtain ⟨y, hy⟩ := at_some (l := S) (i := k) (by omega)
  have gx : (mid S x (k + 1) (L.drop (i + 1 + 1)))[k + 1]? = some x := mid_at (by omega)
  have gy : (mid S x (k + 1) (L.drop (i + 1 + 1)))[k]? = some y := mid_before hy
  have hset : ((mid S x (k + 1) (L.drop (i + 1 + 1))).set (k + 1) y).set k x = mid S x k (L.drop (i + 1 + 1)) := mid_set hy
  have hye := mid_end S (L.drop (i + 1 + 1)) x (k + 1)
  have bk := blt_t (i := k) (n := q + 1) (by omega)
  have bk1 := blt_t (i := k + 1) (n := q + 1) (by omega)
  have fin2 : x < y → ∀ (t : Nat) z, k ≤ t → S[t]? = some z → x ≤ z := fun hxy t z ht hz => by
    by_cases htk : t = k
    · subst htk; rw [hy] at hz; cases hz; omega
    · exact hge t z (by omega) hz
  have fin3 : y ≤ x → ∀ (t : Nat) z, t < k + 1 → S[t]? = some z → z ≤ x := fun hyx t z ht hz => by
    by_cases htk : t = k
    · subst htk; rw [hy] at hz; cases hz; exact hyx
    · exact Int.le_trans (sorted_at hs (show t < k by omega) hz hy) hyx
  generalize mid S x (k + 1) (L.drop (i + 1 + 1)) = M at *
  conv => whnf
  rw [bk1]
  conv => whnf
  rw [ble_t (i := 0 + (k + 1) * 1 + 1) (Nat.le_refl _)]
  conv => whnf
  rw [may_fl hfl2]
  conv => whnf
  rw [encI_get0 gx]
  conv => whnf
  rw [wrap_i64 (n := ((k + 1 : Nat) : Int) - 1) (by omega) (by omega), show ((k + 1 : Nat) : Int) - 1 = (k : Int) by omega]
  conv => whnf
  rw [bk]
  conv => whnf
  rw [ble_t (i := 0 + k * 1 + 1) (Nat.le_refl _)]
  conv => whnf
  rw [may_fl hfl2]
  conv => whnf
  rw [encI_get0 gy]
  conv => whnf
  refine Rets.use (less_ok x y) ?_
  conv => whnf
  cases h3 : ltI x y
  · have h3 := ltI_f h3
    rw [hye]
    conv => whnf
    rw [wrap_succ (by omega)]
    exact ih (i + 1, mid S x (k + 1) [], fl2) (fin (fin3 h3)) (by simp only; omega)
  have h3 := ltI_t h3
  conv => whnf
  rw [wrap_i64 (n := ((k + 1 : Nat) : Int) - 1) (by omega) (by omega), show ((k + 1 : Nat) : Int) - 1 = (k : Int) by omega]
  conv => whnf
  rw [bk]
  conv => whnf
  rw [ble_t (i := 0 + k * 1 + 1) (Nat.le_refl _)]
  conv => whnf
  rw [may_fl hfl2]
  conv => whnf
  rw [encI_get0 gy]
  conv => whnf
  rw [bk1]
  conv => whnf
  rw [ble_t (i := 0 + (k + 1) * 1 + 1) (Nat.le_refl _)]
  conv => whnf
  rw [may_fl hfl2]
  conv => whnf
  rw [encI_get0 gx]
  conv => whnf
  rw [bk1]
  conv => whnf
  rw [ble_t (i := 0 + (k + 1) * 1 + 1) (Nat.le_refl _)]
  conv => whnf
  rw [show Nat.beq e e = true from Nat.beq_refl e]
  conv => whnf
  rw [may_fl hfl2]
  conv => whnf
  rw [ble_t (i := 0 + (k + 1) * 1 + [V.d (D.int .i64 y)].length) (by simp only [List.length_cons, List.length_nil, Cells.len, encI_length]; omega)]
  conv => whnf
  rw [write_int (i := k + 1) (x := y) (by omega) (by omega)]
  conv => whnf
  rw [bk]
  conv => whnf
  rw [ble_t (i := 0 + k * 1 + 1) (Nat.le_refl _)]
  conv => whnf
  rw [show Nat.beq e e = true from Nat.beq_refl e]
  conv => whnf
  rw [may_fl (Nat.le_refl e)]
  conv => whnf
  rw [ble_t (i := 0 + k * 1 + [V.d (D.int .i64 x)].length) (by simp only [List.length_cons, List.length_nil, Cells.len, encI_length, List.length_set]; omega)]
  conv => whnf
  rw [write_int (i := k) (x := x) (by rw [List.length_set]; omega) (by omega), hset]
  conv => whnf
  rw [wrap_i64 (n := ((k + 1 : Nat) : Int) - 1) (by omega) (by omega), show ((k + 1 : Nat) : Int) - 1 = (k : Int) by omega]
  exact ih2 (k, e) ⟨by simp only; omega, Nat.le_refl _, fin2 h3⟩ (by simp only; omega)
/-! ### Sort -/
def SortP (L : List Int) (e q : Nat) (v : V) (h : List O) : Prop := v = .d (.tuple []) ∧ ∃ L' fl', fl' ≤ e ∧ h = [.row (.ds (encI L')) e fl' []] ∧ L'.drop (q + 1) = L.drop (q + 1) ∧ (L'.take (q + 1)).Perm (L.take (q + 1)) ∧ (L'.take (q + 1)).Pairwise (· ≤ ·)
theorem pdq_ok (L : List Int) (e fl q : Nat) (x : Int) (hq : q + 1 ≤ L.length) (hq12 : q + 1 ≤ 12) (hL : L.length ≤ 1000) (hfl : fl ≤ e) :
    Sm Tryz.prog E 106 [.slice 0 e 0 (q + 1) 1, .d (.int .i64 0), .d (.int .i64 (q + 1 : Nat)), .d (.int .i64 x)] [.row (.ds (encI L)) e fl []] (SortP L e q) := by
  refine sm_of HE true (by kernel_rfl) ?_
  conv => whnf
  refine ⟨1, ?_⟩
  conv => whnf
  rw [wrap_i64 (n := ((q + 1 : Nat) : Int) - 0) (by omega) (by omega), show leI (((q + 1 : Nat) : Int) - 0) 12 = true by rw [leI_eq]; exact decide_eq_true (by omega)]
  conv => whnf
  refine Sm.mono (isort_ok L e fl q hq hL hfl) ?_
  rintro v h ⟨rfl, L', fl', h1, rfl, h2, h3, h4⟩
  conv => whnf
  exact ⟨rfl, L', fl', h1, rfl, h2, h3, h4⟩
theorem sort_ok (L : List Int) (e fl q : Nat) (hq : q + 1 ≤ L.length) (hq12 : q + 1 ≤ 12) (hL : L.length ≤ 1000) (hfl : fl ≤ e) :
    Sm Tryz.prog E 77 [.slice 0 e 0 (q + 1) 1] [.row (.ds (encI L)) e fl []] (SortP L e q) := by
  refine sm_of HE true (by kernel_rfl) ?_
  conv => whnf
  rw [show IntKind.u64.wrap ((q + 1 : Nat) : Int) = ((q + 1 : Nat) : Int) by rw [wrap_u64]; omega]
  refine Sm.mono (len_ok (q + 1) (by omega)) ?_
  rintro v h ⟨⟨x, rfl⟩, rfl⟩
  conv => whnf
  refine Sm.mono (pdq_ok L e fl q x hq hq12 hL hfl) ?_
  rintro v h ⟨rfl, L', fl', h1, rfl, h2, h3, h4⟩
  conv => whnf
  exact ⟨rfl, L', fl', h1, rfl, h2, h3, h4⟩
end Go.Proofs.Cx
