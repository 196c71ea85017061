/-
  The plain law of runs: who is faster than whom by chains.
-/

namespace Go.Proofs.Rw
/-- Who is faster than whom. -/
abbrev Ord := Nat → Nat → Bool
def wth (o : Ord) (f s : Nat) : Ord := fun a b => o a b || ((a == f || o a f) && (b == s || o s b))
def clo : List (Nat × Nat) → Ord → Ord
  | [], o => o
  | p :: l, o => clo l (wth o p.1 p.2)
theorem wth_iff (o : Ord) (f s a b : Nat) : wth o f s a b = true ↔ o a b = true ∨ ((a = f ∨ o a f = true) ∧ (b = s ∨ o s b = true)) := by
  unfold wth; simp
def Tr (o : Ord) : Prop := ∀ a b c, o a b = true → o b c = true → o a c = true
theorem wth_tr {o : Ord} (h : Tr o) (f s : Nat) : Tr (wth o f s) := by
  intro a b c h1 h2
  rw [wth_iff] at h1 h2 ⊢
  rcases h1 with h1 | ⟨h1, h3⟩ <;> rcases h2 with h2 | ⟨h2, h4⟩
  · exact .inl (h a b c h1 h2)
  · right
    refine ⟨.inr ?_, h4⟩
    rcases h2 with rfl | h2
    · exact h1
    · exact h a b f h1 h2
  · right
    refine ⟨h1, .inr ?_⟩
    rcases h3 with rfl | h3
    · exact h2
    · exact h s b c h3 h2
  · exact .inr ⟨h1, h4⟩
theorem wth_mono {o : Ord} {f s a b : Nat} (h : o a b = true) : wth o f s a b = true := (wth_iff ..).2 (.inl h)
theorem clo_mono : ∀ {l : List (Nat × Nat)} {o : Ord} {a b : Nat}, o a b = true → clo l o a b = true
  | [], _, _, _, h => h
  | _ :: l, _, _, _, h => clo_mono (l := l) (wth_mono h)
theorem clo_tr : ∀ {l : List (Nat × Nat)} {o : Ord}, Tr o → Tr (clo l o)
  | [], _, h => h
  | _ :: l, _, h => clo_tr (l := l) (wth_tr h _ _)
theorem clo_in : ∀ {l : List (Nat × Nat)} {o : Ord} {p : Nat × Nat}, p ∈ l → clo l o p.1 p.2 = true
  | q :: l, o, p, h => by
    rcases List.mem_cons.1 h with rfl | h
    · show clo l (wth o p.1 p.2) p.1 p.2 = true
      exact clo_mono ((wth_iff ..).2 (.inr ⟨.inl rfl, .inl rfl⟩))
    · exact clo_in (l := l) h
/-- What is so of all pairs, and of what follows from two, is so of all. -/
theorem clo_all {l : List (Nat × Nat)} {o : Ord} (P : Nat → Nat → Prop) (ht : ∀ a b c, P a b → P b c → P a c) (hl : ∀ p ∈ l, P p.1 p.2) (ho : ∀ a b, o a b = true → P a b) : ∀ a b, clo l o a b = true → P a b := by
  induction l generalizing o with
  | nil => exact ho
  | cons p l ih =>
    refine ih (o := wth o p.1 p.2) (fun q hq => hl q (List.mem_cons_of_mem _ hq)) ?_
    intro a b h
    rw [wth_iff] at h
    have hp := hl p List.mem_cons_self
    rcases h with h | ⟨h1, h2⟩
    · exact ho a b h
    · have q1 : P a p.2 := by
        rcases h1 with rfl | h1
        · exact hp
        · exact ht _ _ _ (ho _ _ h1) hp
      rcases h2 with rfl | h2
      · exact q1
      · exact ht _ _ _ q1 (ho _ _ h2)
/-- A run of pairs, each of which begins where the one before it ends. -/
def Linked : List (Nat × Nat) → Nat → Nat → Prop
  | [], _, _ => False
  | [p], a, b => p.1 = a ∧ p.2 = b
  | p :: q :: l, a, b => p.1 = a ∧ Linked (q :: l) p.2 b
theorem linked_clo {l : List (Nat × Nat)} {o : Ord} (ht : Tr o) : ∀ {c : List (Nat × Nat)} {a b : Nat}, (∀ p ∈ c, p ∈ l) → Linked c a b → clo l o a b = true
  | [], _, _, _, h => h.elim
  | [p], a, b, hc, ⟨h1, h2⟩ => by
    subst h1; subst h2
    exact clo_in (hc p List.mem_cons_self)
  | p :: q :: c, a, b, hc, ⟨h1, h2⟩ => by
    subst h1
    exact clo_tr ht _ _ _ (clo_in (hc p List.mem_cons_self)) (linked_clo ht (fun x hx => hc x (List.mem_cons_of_mem _ hx)) h2)
/-- How many numbers below n are so. -/
def cnt (p : Nat → Bool) : Nat → Nat
  | 0 => 0
  | n + 1 => cnt p n + (if p n then 1 else 0)
theorem cnt_le {p q : Nat → Bool} : ∀ {n : Nat}, (∀ i, i < n → p i = true → q i = true) → cnt p n ≤ cnt q n
  | 0, _ => Nat.le_refl _
  | n + 1, h => by
    have := cnt_le (n := n) fun i hi => h i (by omega)
    unfold cnt
    by_cases hp : p n = true
    · rw [if_pos hp, if_pos (h n (by omega) hp)]; omega
    · rw [if_neg hp]; split <;> omega
theorem cnt_disj {p q : Nat → Bool} : ∀ {n : Nat}, (∀ i, i < n → p i = true → q i = true → False) → cnt p n + cnt q n ≤ n
  | 0, _ => Nat.le_refl _
  | n + 1, h => by
    have := cnt_disj (n := n) fun i hi => h i (by omega)
    unfold cnt
    by_cases hp : p n = true
    · rw [if_pos hp, if_neg (fun hq => h n (by omega) hp hq)]; omega
    · rw [if_neg hp]; split <;> omega
end Go.Proofs.Rw
