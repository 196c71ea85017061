/-
  TopRanked: a list is turned round; what holds while a chain is looked for.
-/
import Derived.Test.YtklidmlhlelngaaGreatDoorRxF
namespace Go.Proofs.Rx
open Go Go.Ab Go.Proofs.Rw
set_option maxRecDepth 100000
set_option maxHeartbeats 4000000
theorem may_fl {e off n fl : Nat} (h : fl ≤ e) : may e off n e fl [] = true := by
  unfold may
  rw [Nat.ble_eq_true_of_le h]
  exact Nat.ble_eq_true_of_le (Nat.le_refl e)
theorem encI_set : ∀ (l : List Int) (i : Nat) (x : Int), i < l.length → wr (encI l) (i * 1) [.int .i64 x] = encI (l.set i x)
  | a :: l, 0, x, _ => by simp [encI, wr, wr_nil]
  | a :: l, i + 1, x, h => by
    have := encI_set l i x (by simpa using h)
    rw [Nat.mul_one] at this ⊢
    show (_ :: wr (encI l) i [.int .i64 x]) = _
    rw [this]; rfl
  | [], i, _, h => by simp at h
theorem write_int {l : List Int} {i off : Nat} {x : Int} (h : i < l.length) (ho : off = i * 1) : (Cells.ds (encI l)).write off [V.d (D.int .i64 x)] = some (.ds (encI (l.set i x))) := by
  subst ho
  unfold Cells.write
  rw [show Nat.ble (i * 1 + [V.d (D.int .i64 x)].length) (Cells.ds (encI l)).len = true from Nat.ble_eq_true_of_le (by simp only [List.length_cons, List.length_nil, Cells.len, encI_length]; omega)]
  simp only [allD]
  rw [encI_set l i x h]
theorem reverse_ok (l0 : List Int) (e : Nat) (hl : l0.length = e + 1) (he : e ≤ 1000) :
    Sm Tryz.prog E 38 [.slice 0 e 0 (e + 1) 1] [.row (.ds (encI l0)) e 0 []] (fun v h => v = .d (.tuple []) ∧ ∃ (l : List Int) (fl : Nat), l.length = e + 1 ∧ fl ≤ e ∧ h = [.row (.ds (encI l)) e fl []]) := by
  refine sm_of HE true (by kernel_rfl) ?_
  conv => whnf
  rw [wrap_i64 (n := ((e + 1 : Nat) : Int) - 1) (by omega) (by omega), show ((e + 1 : Nat) : Int) - 1 = (e : Int) by omega]
  refine loops_by (fun x : Nat × Nat × Nat × List Int => match x with
      | (i, j, fl, l) => ⟨28, [(0, .slice 0 e 0 (e + 1) 1), (2, .d (.int .i64 i)), (3, .d (.int .i64 j))], .unk, [.row (.ds (encI l)) e fl []], []⟩)
    (fun x => x.1 + x.2.1 = e ∧ x.2.2.1 ≤ e ∧ x.2.2.2.length = e + 1) (fun x => x.2.1) (0, e, 0, l0) ⟨Nat.zero_add _, Nat.zero_le _, hl⟩ ?_
  rintro f ⟨i, j, fl, l⟩ ⟨hi, hfl, hl⟩ ih
  simp only at hi hfl hl
  conv => whnf
  cases h1 : ltI (i : Int) (j : Int)
  · conv => whnf
    exact ⟨rfl, l, fl, hl, hfl, rfl⟩
  have hlt : i < j := by rw [ltI_eq] at h1; have := of_decide_eq_true h1; omega
  obtain ⟨j, rfl⟩ : ∃ j', j = j' + 1 := ⟨j - 1, by omega⟩
  have bi : Nat.blt i (e + 1) = true := by simp [Nat.blt_eq]; omega
  have bj : Nat.blt (j + 1) (e + 1) = true := by simp [Nat.blt_eq]; omega
  obtain ⟨x, hx⟩ : ∃ x, l[i]? = some x := ⟨l[i]'(by omega), by simp⟩
  obtain ⟨y, hy⟩ : ∃ y, l[j + 1]? = some y := ⟨l[j + 1]'(by omega), by simp⟩
  have gx : (encI l)[0 + i * 1]? = some (.int .i64 x) := by rw [Nat.zero_add]; exact encI_get1 hx
  have gy : (encI l)[0 + (j + 1) * 1]? = some (.int .i64 y) := by rw [Nat.zero_add]; exact encI_get1 hy
  conv => whnf
  rw [bj]
  conv => whnf
  rw [show Nat.ble (0 + (j + 1) * 1 + 1) (0 + (j + 1) * 1 + 1) = true from Nat.ble_eq_true_of_le (Nat.le_refl _)]
  conv => whnf
  rw [may_fl hfl]
  conv => whnf
  rw [gy]
  conv => whnf
  rw [bi]
  conv => whnf
  rw [show Nat.ble (0 + i * 1 + 1) (0 + i * 1 + 1) = true from Nat.ble_eq_true_of_le (Nat.le_refl _)]
  conv => whnf
  rw [may_fl hfl]
  conv => whnf
  rw [gx]
  conv => whnf
  rw [bi]
  conv => whnf
  rw [show Nat.ble (0 + i * 1 + 1) (0 + i * 1 + 1) = true from Nat.ble_eq_true_of_le (Nat.le_refl _)]
  conv => whnf
  rw [show Nat.beq e e = true from Nat.beq_refl e]
  conv => whnf
  rw [may_fl hfl]
  conv => whnf
  rw [show Nat.ble (0 + i * 1 + [V.d (D.int .i64 y)].length) (Cells.ds (encI l)).len = true from Nat.ble_eq_true_of_le (by simp only [List.length_cons, List.length_nil, Cells.len, encI_length]; omega)]
  conv => whnf
  rw [write_int (i := i) (x := y) (by omega) (by omega)]
  conv => whnf
  rw [bj]
  conv => whnf
  rw [show Nat.ble (0 + (j + 1) * 1 + 1) (0 + (j + 1) * 1 + 1) = true from Nat.ble_eq_true_of_le (Nat.le_refl _)]
  conv => whnf
  rw [show Nat.beq e e = true from Nat.beq_refl e]
  conv => whnf
  rw [may_fl (Nat.le_refl e)]
  conv => whnf
  rw [show Nat.ble (0 + (j + 1) * 1 + [V.d (D.int .i64 x)].length) (Cells.ds (encI (l.set i y))).len = true from Nat.ble_eq_true_of_le (by simp only [List.length_cons, List.length_nil, Cells.len, encI_length, List.length_set]; omega)]
  conv => whnf
  rw [write_int (i := j + 1) (x := x) (by rw [List.length_set]; omega) (by omega)]
  conv => whnf
  rw [wrap_succ (by omega), wrap_i64 (n := ((j + 1 : Nat) : Int) - 1) (by omega) (by omega), show ((j + 1 : Nat) : Int) - 1 = (j : Int) by omega]
  exact ih (i + 1, j, e, (l.set i y).set (j + 1) x) ⟨by simp only; omega, Nat.le_refl _, by simpa using hl⟩ (by simp only; omega)
/-! ### What holds while a chain is looked for -/
def negs : List Int → Nat
  | [] => 0
  | x :: l => (if x < 0 then 1 else 0) + negs l
theorem negs_set : ∀ {l : List Int} {q : Nat} {x i : Int}, l[q]? = some x → x < 0 → 0 ≤ i → negs (l.set q i) + 1 = negs l
  | [], _, _, _, h, _, _ => by simp at h
  | a :: l, 0, x, i, h, hx, hi => by
    simp at h; subst h
    simp only [List.set_cons_zero, negs]
    rw [if_neg (by omega), if_pos hx]; omega
  | a :: l, q + 1, x, i, h, hx, hi => by
    have := negs_set (l := l) (q := q) (i := i) (by simpa using h) hx hi
    simp only [List.set_cons_succ, negs]; omega
structure J (er : Int) (rs : List Run3) (s : Nat) (by_ met : List Int) : Prop where
  n : by_.length = 8
  z : met[0]? = some (s : Int)
  m : ∀ (k : Nat) v, met[k]? = some v → (0 ≤ v ∧ v < 8) ∧ (1 ≤ k → ∃ i, by_[v.toNat]? = some i ∧ 0 ≤ i)
  c : ∀ (v : Nat) i, by_[v]? = some i → 0 ≤ i → ∃ (r : Run3) (iN : Nat) (u : Int), i = iN ∧ rs[iN]? = some r ∧ shw er r = ((u, (v : Int)), true) ∧ ∃ k : Nat, met[k]? = some u ∧ (v ≠ s → ∀ j : Nat, met[j]? = some (v : Int) → k < j)
  l : met.length ≤ 9
theorem J_set {er : Int} {rs : List Run3} {s : Nat} {by_ met : List Int} (j : J er rs s by_ met) {r : Run3} {iN n : Nat} {u : Int} {q : Nat} {x : Int} (hr : rs[iN]? = some r) (hs : shw er r = ((u, (q : Int)), true)) (hn : met[n]? = some u) (hq : by_[q]? = some x) (hx : x < 0) :
    J er rs s (by_.set q iN) met where
  n := by rw [List.length_set]; exact j.n
  z := j.z
  m := fun k v hv => by
    obtain ⟨h1, h2⟩ := j.m k v hv
    refine ⟨h1, fun hk => ?_⟩
    obtain ⟨i, h3, h4⟩ := h2 hk
    by_cases hvq : v.toNat = q
    · rw [hvq]
      exact ⟨iN, by rw [List.getElem?_set_self (List.getElem?_eq_some_iff.1 hq).1], by omega⟩
    · exact ⟨i, by rw [List.getElem?_set_ne (Ne.symm hvq)]; exact h3, h4⟩
  c := fun v i hv hi => by
    by_cases hvq : v = q
    · subst hvq
      rw [List.getElem?_set_self (List.getElem?_eq_some_iff.1 hq).1] at hv
      cases hv
      refine ⟨r, iN, u, rfl, hr, hs, n, hn, fun hne k hk => ?_⟩
      exfalso
      rcases Nat.eq_zero_or_pos k with rfl | hk0
      · rw [j.z] at hk
        simp at hk
        omega
      · obtain ⟨i, h3, h4⟩ := (j.m k v hk).2 hk0
        rw [Int.toNat_natCast, hq] at h3
        cases h3; omega
    · rw [List.getElem?_set_ne (fun h => hvq h.symm)] at hv
      exact j.c v i hv hi
  l := j.l
theorem J_add {er : Int} {rs : List Run3} {s : Nat} {by_ met : List Int} (j : J er rs s by_ met) {r : Run3} {iN n : Nat} {u : Int} {q : Nat} {x : Int} (hr : rs[iN]? = some r) (hs : shw er r = ((u, (q : Int)), true)) (hn : met[n]? = some u) (hq : by_[q]? = some x) (hx : x < 0) (_ : q ≠ s)
    (hl : met.length + 1 ≤ 9) : J er rs s (by_.set q iN) (met ++ [(q : Int)]) where
  n := by rw [List.length_set]; exact j.n
  z := by
    have := (List.getElem?_eq_some_iff.1 j.z).1
    rw [List.getElem?_append_left this]; exact j.z
  m := fun k v hv => by
    have hq8 : q < 8 := by have := (List.getElem?_eq_some_iff.1 hq).1; have := j.n; omega
    by_cases hk : k < met.length
    · rw [List.getElem?_append_left hk] at hv
      exact (J_set j hr hs hn hq hx).m k v hv
    · rw [List.getElem?_append_right (by omega)] at hv
      have : k - met.length = 0 := by
        rcases Nat.eq_zero_or_pos (k - met.length) with h | h
        · exact h
        · rw [List.getElem?_eq_none (by simp; omega)] at hv; cases hv
      rw [this] at hv
      simp at hv; subst hv
      exact ⟨by omega, fun _ => ⟨iN, by rw [Int.toNat_natCast, List.getElem?_set_self (List.getElem?_eq_some_iff.1 hq).1], by omega⟩⟩
  c := fun v i hv hi => by
    obtain ⟨r', i', u', h1, h2, h3, k, h4, h5⟩ := (J_set j hr hs hn hq hx).c v i hv hi
    have hk := (List.getElem?_eq_some_iff.1 h4).1
    refine ⟨r', i', u', h1, h2, h3, k, by rw [List.getElem?_append_left hk]; exact h4, fun hne m hm => ?_⟩
    by_cases hm2 : m < met.length
    · rw [List.getElem?_append_left hm2] at hm
      exact h5 hne m hm
    · omega
  l := by rw [List.length_append]; simpa using hl
end Go.Proofs.Rx
