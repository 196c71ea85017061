/-
  The plain law of winters: stocks, failing days, proofs.
-/

namespace Go.Proofs.Hw
abbrev Dy := Int × Int × Int
/-- What lies there after snow is made. -/
def stp (store : Int) (d : Dy) (s : Int) : Int := min store (max 0 (s - d.2.2) + d.2.1)
/-- The day that fails. -/
def fl (store : Int) : List Dy → Int → Nat → Int
  | [], _, _ => -1
  | d :: l, s, i => if stp store d s < d.1 then (i : Int) else fl store l (stp store d s - d.1) (i + 1)
/-- The day that fails, and the last day on which the store is full. -/
def fu (store : Int) : List Dy → Int → Nat → Int → Int × Int
  | [], _, _, f => (-1, f)
  | d :: l, s, i, f =>
    if stp store d s < d.1 then ((i : Int), if stp store d s = store then (i : Int) else f)
    else fu store l (stp store d s - d.1) (i + 1) (if stp store d s = store then (i : Int) else f)
theorem fu_fst (store : Int) : ∀ (l : List Dy) (s : Int) (i : Nat) (f : Int), (fu store l s i f).1 = fl store l s i
  | [], _, _, _ => rfl
  | d :: l, s, i, f => by
    unfold fu fl
    split
    · rfl
    · exact fu_fst store l _ _ _
/-- What is left behind a day, by a proof. -/
def lft (store from_ : Int) (d : Dy) (i : Nat) (left : Int) : Int := (if (i : Int) = from_ then store else d.2.1 + max 0 (left - d.2.2)) - d.1
/-- What a proof's reckoning leaves: nothing if it breaks off. -/
def pv (store from_ day : Int) : List Dy → Nat → Int → Option Int
  | [], _, left => some left
  | d :: l, i, left =>
    if (i : Int) < from_ then pv store from_ day l (i + 1) left
    else if lft store from_ d i left < 0 ∧ (i : Int) < day then none
    else if (i : Int) = day then some (lft store from_ d i left) else pv store from_ day l (i + 1) (lft store from_ d i left)
theorem pv_skip {store from_ day : Int} {d : Dy} {l : List Dy} {i : Nat} {left : Int} (h : (i : Int) < from_) : pv store from_ day (d :: l) i left = pv store from_ day l (i + 1) left := by
  rw [pv, if_pos h]
theorem pv_end {store from_ : Int} {d : Dy} {l : List Dy} {i : Nat} {left : Int} (h : from_ ≤ (i : Int)) : pv store from_ i (d :: l) i left = some (lft store from_ d i left) := by
  rw [pv, if_neg (by omega), if_neg (by omega), if_pos rfl]
theorem pv_mid {store from_ day : Int} {d : Dy} {l : List Dy} {i : Nat} {left : Int} (h : from_ ≤ (i : Int)) (h2 : (i : Int) < day) (h3 : 0 ≤ lft store from_ d i left) : pv store from_ day (d :: l) i left = pv store from_ day l (i + 1) (lft store from_ d i left) := by
  rw [pv, if_neg (by omega), if_neg (by omega), if_neg (by omega)]
theorem lft_from {store : Int} {d : Dy} {i : Nat} {left : Int} : lft store (i : Int) d i left = store - d.1 := by rw [lft, if_pos rfl]
theorem lft_else {store from_ : Int} {d : Dy} {i : Nat} {left : Int} (h : (i : Int) ≠ from_) : lft store from_ d i left = d.2.1 + max 0 (left - d.2.2) - d.1 := by rw [lft, if_neg h]
theorem fl_cases (store : Int) : ∀ (l : List Dy) (s : Int) (i : Nat), fl store l s i = -1 ∨ (i : Int) ≤ fl store l s i ∧ fl store l s i < i + l.length
  | [], _, _ => .inl rfl
  | d :: l, s, i => by
    unfold fl
    split
    · right; simp only [List.length_cons]; omega
    · rcases fl_cases store l (stp store d s - d.1) (i + 1) with h | h
      · exact .inl h
      · right; simp only [List.length_cons]; omega
/-- One weather is not better than another one. -/
def Worse : List Dy → List Dy → Prop
  | [], [] => True
  | a :: l, b :: m => b.1 ≤ a.1 ∧ a.2.1 ≤ b.2.1 ∧ b.2.2 ≤ a.2.2 ∧ Worse l m
  | _, _ => False
theorem fl_worse (store : Int) : ∀ (l m : List Dy) (s t : Int) (i : Nat), Worse l m → s ≤ t → fl store m t i = -1 ∨ fl store l s i ≠ -1 ∧ fl store l s i ≤ fl store m t i
  | [], [], _, _, _, _, _ => .inl rfl
  | a :: l, b :: m, s, t, i, ⟨h1, h2, h3, h4⟩, hst => by
    have hm : stp store a s ≤ stp store b t := by unfold stp; omega
    by_cases ha : stp store a s < a.1
    · have e : fl store (a :: l) s i = i := by rw [fl, if_pos ha]
      rcases fl_cases store (b :: m) t i with h | h
      · exact .inl h
      · right; rw [e]; omega
    · have e : fl store (a :: l) s i = fl store l (stp store a s - a.1) (i + 1) := by rw [fl, if_neg ha]
      have e' : fl store (b :: m) t i = fl store m (stp store b t - b.1) (i + 1) := by rw [fl, if_neg (by omega)]
      rw [e, e']
      exact fl_worse store l m _ _ _ h4 (by omega)
/-- The proof that is named holds. -/
theorem why_holds (store : Int) : ∀ (l : List Dy) (s : Int) (i : Nat) (f k g : Int), f < i → fu store l s i f = (k, g) → k ≠ -1 →
    g ≤ k ∧ k < i + l.length ∧ f ≤ g ∧ (g < i → g = f ∧ ∃ x, pv store g k l i s = some x ∧ x < 0) ∧ ((i : Int) ≤ g → ∀ left, ∃ x, pv store g k l i left = some x ∧ x < 0)
  | [], _, _, _, k, g, _, h, hk => by simp only [fu, Prod.mk.injEq] at h; exact absurd h.1.symm hk
  | d :: l, s, i, f, k, g, hf, h, hk => by
    unfold fu at h
    simp only [List.length_cons]
    by_cases h1 : stp store d s < d.1
    · rw [if_pos h1] at h
      simp only [Prod.mk.injEq] at h
      obtain ⟨rfl, rfl⟩ := h
      by_cases h2 : stp store d s = store
      · rw [if_pos h2]
        refine ⟨by omega, by omega, by omega, fun h => absurd h (Int.lt_irrefl _), fun _ left => ⟨_, pv_end (Int.le_refl _), ?_⟩⟩
        rw [lft_from]; omega
      · rw [if_neg h2]
        refine ⟨by omega, by omega, by omega, fun h => ⟨rfl, _, pv_end (by omega), ?_⟩, fun h => absurd h (by omega)⟩
        rw [lft_else (by omega)]
        unfold stp at h1 h2; omega
    · rw [if_neg h1] at h
      have hk' : (i : Int) < k := by
        have := fu_fst store l (stp store d s - d.1) (i + 1) (if stp store d s = store then (i : Int) else f)
        rw [h] at this
        rcases fl_cases store l (stp store d s - d.1) (i + 1) with h' | h'
        · exact absurd (this.trans h') hk
        · simp only at this; omega
      obtain ⟨a1, a2, a3, ih1, ih2⟩ := why_holds store l (stp store d s - d.1) (i + 1) _ k g (by split <;> omega) h hk
      have hfg : f ≤ g := by split at a3 <;> omega
      refine ⟨a1, by omega, hfg, ?_, ?_⟩
      · intro hg
        obtain ⟨e, x, hx, hx0⟩ := ih1 (by omega)
        by_cases h2 : stp store d s = store
        · rw [if_pos h2] at e; omega
        · rw [if_neg h2] at e
          have e1 : lft store g d i s = stp store d s - d.1 := by rw [lft_else (by omega)]; unfold stp at h2 ⊢; omega
          exact ⟨e, x, by rw [pv_mid (by omega) hk' (by omega), e1]; exact hx, hx0⟩
      · intro hg left
        by_cases hgi : g = i
        · obtain ⟨e, x, hx, hx0⟩ := ih1 (by omega)
          by_cases h2 : stp store d s = store
          · subst hgi
            have e1 : lft store (i : Int) d i left = stp store d s - d.1 := by rw [lft_from, h2]
            exact ⟨x, by rw [pv_mid (Int.le_refl _) hk' (by omega), e1]; exact hx, hx0⟩
          · rw [if_neg h2] at e; omega
        · obtain ⟨x, hx, hx0⟩ := ih2 (by omega) left
          exact ⟨x, by rw [pv_skip (by omega)]; exact hx, hx0⟩
/-- A proof that holds names a day that can fail. -/
theorem proof_names (store from_ day : Int) (hfd : from_ ≤ day) : ∀ (l : List Dy) (s left x : Int) (i : Nat), (i : Int) ≤ day → day < i + l.length → ((i : Int) ≤ from_ ∨ s ≤ left) → pv store from_ day l i left = some x → x < 0 →
    fl store l s i ≠ -1 ∧ fl store l s i ≤ day
  | [], _, _, _, _, h1, h2, _, _, _ => by simp at h2; omega
  | d :: l, s, left, x, i, h1, h2, h3, hp, hx => by
    unfold fl
    simp only [List.length_cons] at h2
    by_cases h4 : stp store d s < d.1
    · rw [if_pos h4]; omega
    rw [if_neg h4]
    by_cases h5 : (i : Int) < from_
    · rw [pv_skip h5] at hp
      exact proof_names store from_ day hfd l _ left x (i + 1) (by omega) (by omega) (.inl (by omega)) hp hx
    · have hle : stp store d s - d.1 ≤ lft store from_ d i left := by
        unfold lft stp
        split <;> omega
      by_cases h6 : (i : Int) = day
      · subst h6
        rw [pv_end (by omega)] at hp
        cases hp; omega
      · rw [pv_mid (by omega) (by omega) (by omega)] at hp
        exact proof_names store from_ day hfd l _ _ x (i + 1) (by omega) (by omega) (.inr hle) hp hx
end Go.Proofs.Hw
