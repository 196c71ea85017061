/- PxL: a part of the proof of this claim. -/
import Derived.Test.YtecgckocabkadaaGreatDoorPxG
namespace Go.Proofs.Px
open Go Go.Ab
set_option maxRecDepth 100000
set_option maxHeartbeats 1000000
theorem maxI_eq (a b : Int) : maxI a b = max a b := by
  unfold maxI; rw [ltI_eq]
  by_cases h : a < b
  · simp [h]; omega
  · simp [h]; omega
theorem minI_eq (a b : Int) : minI a b = min a b := by
  unfold minI; rw [ltI_eq]
  by_cases h : b < a
  · simp [h]; omega
  · simp [h]; omega
/-- The offsets that the loop finds. -/
def raw (e : Int) : List (Int × Int) → Int → Int → Int × Int
  | [], lo, hi => (lo, hi)
  | p :: l, lo, hi => raw e l (maxI lo (p.2 - p.1 - e)) (minI hi (p.2 - p.1 + e))
theorem raw_at {e : Int} {l : List (Int × Int)} {i : Nat} {p : Int × Int} (h : l[i]? = some p) (lo hi : Int) : raw e (l.drop i) lo hi = raw e (l.drop (i + 1)) (maxI lo (p.2 - p.1 - e)) (minI hi (p.2 - p.1 + e)) := by
  obtain ⟨hi', rfl⟩ := List.getElem?_eq_some_iff.1 h
  rw [List.drop_eq_getElem_cons hi', raw]
theorem raw_offs (e : Int) : ∀ (l : List (Int × Int)) (lo hi : Int), -1000 ≤ lo → hi ≤ 1000 → raw e l lo hi = offs e l lo hi
  | [], _, _, _, _ => rfl
  | p :: l, lo, hi, h1, h2 => by
    simp only [raw, offs, maxI_eq, minI_eq]
    rw [show max lo (max (-1000) (p.2 - p.1 - e)) = max lo (p.2 - p.1 - e) by omega, show min hi (min 1000 (p.2 - p.1 + e)) = min hi (p.2 - p.1 + e) by omega]
    exact raw_offs e l _ _ (by omega) (by omega)
theorem offs_grow (e : Int) : ∀ (l : List (Int × Int)) (lo hi : Int), lo ≤ (offs e l lo hi).1 ∧ (offs e l lo hi).2 ≤ hi
  | [], _, _ => ⟨Int.le_refl _, Int.le_refl _⟩
  | p :: l, lo, hi => by
    have := offs_grow e l (maxI lo (maxI (-1000) (p.2 - p.1 - e))) (minI hi (minI 1000 (p.2 - p.1 + e)))
    rw [offs]
    simp only [maxI_eq, minI_eq] at this ⊢
    omega
theorem offs_in (e : Int) : ∀ (l : List (Int × Int)) (lo hi : Int) (p : Int × Int), p ∈ l → loO e p ≤ (offs e l lo hi).1 ∧ (offs e l lo hi).2 ≤ hiO e p
  | q :: l, lo, hi, p, hp => by
    rw [offs]
    rcases List.mem_cons.1 hp with rfl | hp
    · have := offs_grow e l (maxI lo (maxI (-1000) (p.2 - p.1 - e))) (minI hi (minI 1000 (p.2 - p.1 + e)))
      unfold loO hiO
      simp only [maxI_eq, minI_eq] at this ⊢
      omega
    · exact offs_in e l _ _ p hp
theorem offs_lo (e : Int) : ∀ (l : List (Int × Int)) (lo hi : Int), (offs e l lo hi).1 = lo ∨ ∃ p ∈ l, (offs e l lo hi).1 = loO e p
  | [], _, _ => .inl rfl
  | q :: l, lo, hi => by
    rw [offs]
    rcases offs_lo e l (maxI lo (maxI (-1000) (q.2 - q.1 - e))) (minI hi (minI 1000 (q.2 - q.1 + e))) with h | ⟨p, hp, h⟩
    · rw [h]
      by_cases g : lo < maxI (-1000) (q.2 - q.1 - e)
      · exact .inr ⟨q, List.mem_cons_self, by unfold loO; rw [maxI_eq lo]; omega⟩
      · exact .inl (by rw [maxI_eq lo]; omega)
    · exact .inr ⟨p, List.mem_cons_of_mem _ hp, h⟩
theorem offs_hi (e : Int) : ∀ (l : List (Int × Int)) (lo hi : Int), (offs e l lo hi).2 = hi ∨ ∃ p ∈ l, (offs e l lo hi).2 = hiO e p
  | [], _, _ => .inl rfl
  | q :: l, lo, hi => by
    rw [offs]
    rcases offs_hi e l (maxI lo (maxI (-1000) (q.2 - q.1 - e))) (minI hi (minI 1000 (q.2 - q.1 + e))) with h | ⟨p, hp, h⟩
    · rw [h]
      by_cases g : minI 1000 (q.2 - q.1 + e) < hi
      · exact .inr ⟨q, List.mem_cons_self, by unfold hiO; rw [minI_eq hi]; omega⟩
      · exact .inl (by rw [minI_eq hi]; omega)
    · exact .inr ⟨p, List.mem_cons_of_mem _ hp, h⟩
theorem anyB_true {α : Type} {p : α → Bool} : ∀ {l : List α}, anyB p l = true → ∃ a ∈ l, p a = true
  | b :: l, h => by
    unfold anyB at h
    split at h
    · exact ⟨b, List.mem_cons_self, by assumption⟩
    · obtain ⟨a, ha, hp⟩ := anyB_true h
      exact ⟨a, List.mem_cons_of_mem _ ha, hp⟩
theorem bad_iff (e : Int) (p q : Int × Int) : bad e p q = true ↔ min (hiO e p) (hiO e q) < max (loO e p) (loO e q) := by
  unfold bad; rw [ltI_eq, maxI_eq, minI_eq]; simp
theorem clashes_true {e : Int} : ∀ {l : List (Int × Int)}, clashes e l = true → ∃ p ∈ l, ∃ q ∈ l, bad e p q = true
  | a :: l, h => by
    unfold clashes at h
    split at h
    · rename_i h1
      obtain ⟨q, hq, hb⟩ := anyB_true h1
      exact ⟨a, List.mem_cons_self, q, hq, hb⟩
    · obtain ⟨p, hp, q, hq, hb⟩ := clashes_true h
      exact ⟨p, List.mem_cons_of_mem _ hp, q, List.mem_cons_of_mem _ hq, hb⟩
theorem clashes_false {e : Int} : ∀ {l : List (Int × Int)}, clashes e l = false → ∀ p ∈ l, ∀ q ∈ l, bad e p q = false
  | a :: l, h, p, hp, q, hq => by
    unfold clashes at h
    split at h
    · cases h
    rename_i h1
    have hs : ∀ x y, bad e x y = bad e y x := fun x y => by
      unfold bad; simp only [maxI_eq, minI_eq]; rw [Int.min_comm, Int.max_comm]
    rcases List.mem_cons.1 hp with rfl | hp'
    · exact anyB_false h1 q hq
    · rcases List.mem_cons.1 hq with rfl | hq'
      · rw [hs]; exact anyB_false h1 p hp
      · exact clashes_false h p hp' q hq'
theorem clash_iff (e : Int) (l : List (Int × Int)) : clashes e l = ltI (offs e l (-1000) 1000).2 (offs e l (-1000) 1000).1 := by
  rw [ltI_eq]
  cases h : clashes e l with
  | true =>
    obtain ⟨p, hp, q, hq, hb⟩ := clashes_true h
    rw [bad_iff] at hb
    have h1 := offs_in e l (-1000) 1000 p hp
    have h2 := offs_in e l (-1000) 1000 q hq
    symm; rw [decide_eq_true_iff]; omega
  | false =>
    symm; rw [decide_eq_false_iff_not]; intro hlt
    have hf := clashes_false h
    have nb : ∀ p ∈ l, ∀ q ∈ l, ¬ min (hiO e p) (hiO e q) < max (loO e p) (loO e q) := fun p hp q hq hh => by
      have := hf p hp q hq; rw [(bad_iff e p q).2 hh] at this; cases this
    have f1 : ∀ p, -1000 ≤ loO e p := fun p => by unfold loO; rw [maxI_eq]; omega
    have f2 : ∀ p, hiO e p ≤ 1000 := fun p => by unfold hiO; rw [minI_eq]; omega
    rcases offs_lo e l (-1000) 1000 with a | ⟨p, hp, a⟩ <;> rcases offs_hi e l (-1000) 1000 with b | ⟨q, hq, b⟩
    · omega
    · have := nb q hq q hq; have := f1 q; omega
    · have := nb p hp p hp; have := f2 p; omega
    · have := nb p hp q hq; omega
theorem inB_eq (n lo hi : Int) : inB n lo hi = decide (lo ≤ n ∧ n ≤ hi) := by
  unfold inB; rw [leI_eq, leI_eq]
  by_cases h1 : lo ≤ n <;> by_cases h2 : n ≤ hi <;> simp [andB, h1, h2]
theorem anyB_idxs (q : Int → Bool) (r : Nat) : ∀ (l : List Int) (i : Nat), anyB (fun x => eqI (r : Int) x) (idxs q l i) = match decide (i ≤ r) with | true => (match l[r - i]? with | some n => q n | none => false) | false => false
  | [], i => by cases h : decide (i ≤ r) <;> simp [idxs, anyB]
  | n :: l, i => by
    have ih := anyB_idxs q r l (i + 1)
    by_cases h : i = r
    · subst h
      simp only [decide_true, Nat.le_refl, Nat.sub_self, List.getElem?_cons_zero]
      have h0 : decide (i + 1 ≤ i) = false := by simp
      rw [h0] at ih
      unfold idxs
      cases hq : q n with
      | true => simp only [anyB]; rw [eqI_eq]; simp
      | false => simp only; exact ih
    · have hne : eqI (r : Int) (i : Int) = false := by rw [eqI_eq]; simp; omega
      have hs : anyB (fun x => eqI (r : Int) x) (idxs q (n :: l) i) = anyB (fun x => eqI (r : Int) x) (idxs q l (i + 1)) := by
        conv => lhs; unfold idxs
        cases q n with
        | true => simp only [anyB, hne]
        | false => rfl
      rw [hs, ih]
      by_cases h2 : i ≤ r
      · have e1 : decide (i ≤ r) = true := by simpa using h2
        have e2 : decide (i + 1 ≤ r) = true := by simp; omega
        rw [e1, e2]
        simp only
        obtain ⟨j, hj⟩ : ∃ j, r - i = j + 1 := ⟨r - i - 1, by omega⟩
        rw [hj, List.getElem?_cons_succ, show r - (i + 1) = j by omega]
      · have e1 : decide (i ≤ r) = false := by simpa using h2
        have e2 : decide (i + 1 ≤ r) = false := by simp; omega
        rw [e1, e2]
theorem among {q : Int → Bool} {l : List Int} {r : Nat} {n : Int} (h : l[r]? = some n) : anyB (fun x => eqI (r : Int) x) (idxs q l 0) = q n := by
  rw [anyB_idxs]; simp [h]
theorem eqI_self (a : Int) : eqI a a = true := by rw [eqI_eq]; simp
theorem ne_self (a : Int) : notB (eqI a a) = false := by rw [eqI_self]; rfl
theorem eqB_self (a : Bool) : notB (eqB a a) = false := by cases a <;> rfl
end Go.Proofs.Px
