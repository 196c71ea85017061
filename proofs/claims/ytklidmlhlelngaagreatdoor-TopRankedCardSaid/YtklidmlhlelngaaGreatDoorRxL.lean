/-
  TopRanked: the plain facts that join what is computed.
-/
import Derived.Test.YtklidmlhlelngaaGreatDoorRxF
import Derived.Test.YtklidmlhlelngaaGreatDoorRxJ
import Derived.Test.YtklidmlhlelngaaGreatDoorRxK
namespace Go.Proofs.Rx
open Go Go.Ab Go.Proofs.Rw
set_option maxRecDepth 100000
set_option maxHeartbeats 4000000
/-- The strength of a ski. -/
def ga (st : List Int) (i : Nat) : Int := (st[i]?).getD 0
theorem ga_at {st : List Int} {i : Nat} (h : i < st.length) : st[i]? = some (ga st i) := by simp [ga, h]
/-- The strengths agree with the runs. -/
structure Ag (sk er : Int) (rs : List Run3) (st : List Int) : Prop where
  len : (st.length : Int) = sk
  r : ∀ r ∈ rs, -er ≤ r.ld - (ga st r.a.toNat - ga st r.b.toNat) ∧ r.ld - (ga st r.a.toNat - ga st r.b.toNat) ≤ er
theorem mem_prs {er : Int} {rs : List Run3} {p : Nat × Nat} : p ∈ prs er rs ↔ ∃ r ∈ rs, ∃ x, shw er r = (x, true) ∧ p = (x.1.toNat, x.2.toNat) := by
  unfold prs
  rw [List.mem_flatMap]
  constructor
  · rintro ⟨r, hr, hp⟩
    unfold one at hp
    rcases hs : shw er r with ⟨x, c⟩
    rw [hs] at hp
    cases c
    · simp at hp
    · exact ⟨r, hr, x, hs, by simpa using hp⟩
  · rintro ⟨r, hr, x, hs, hp⟩
    refine ⟨r, hr, ?_⟩
    unfold one
    rw [hs]
    simpa using hp
theorem ag_mono {sk er : Int} {rs : List Run3} {st : List Int} (A : Ag sk er rs st) : ∀ a b, clo (prs er rs) o0 a b = true → ga st b < ga st a := by
  refine clo_all (fun a b => ga st b < ga st a) (fun a b c h1 h2 => by omega) ?_ (fun a b h => by cases h)
  intro p hp
  obtain ⟨r, hr, x, hs, rfl⟩ := mem_prs.1 hp
  have h := A.r r hr
  unfold shw at hs
  rw [ltI_eq, ltI_eq] at hs
  by_cases h1 : er < r.ld
  · simp only [h1, decide_true] at hs
    cases hs
    show ga st r.b.toNat < ga st r.a.toNat
    omega
  · simp only [h1, decide_false] at hs
    by_cases h2 : r.ld < -er
    · simp only [h2, decide_true] at hs
      cases hs
      show ga st r.a.toNat < ga st r.b.toNat
      omega
    · simp only [h2, decide_false] at hs
      cases hs
theorem agE_cases (o : Ord) (sk : Int) : (agE o sk = 0 ∧ rnE o sk = 6 ∧ ∀ j : Nat, j < sk.toNat → o j j = false) ∨ (agE o sk = 7 ∧ rnE o sk = 0 ∧ ∃ j : Nat, o j j = true) := by
  unfold agE rnE
  rw [ltI_eq, leI_eq]
  rcases cnf_spec o sk.toNat 0 with ⟨h1, h2⟩ | ⟨s, h1, _, _, h2⟩
  · refine .inl ⟨by rw [h1]; rfl, by rw [h1]; rfl, fun j hj => h2 j (by omega) (by omega)⟩
  · refine .inr ⟨?_, ?_, s, h2⟩
    · rw [h1]; have : (0 : Int) ≤ s := by omega
      simp [this]
    · rw [h1]; have : ¬ (s : Int) < 0 := by omega
      simp [this]
theorem linked_of {b : Int} : ∀ (l : List (Int × Int)) (a : Int), l ≠ [] → (∀ (i : Nat) p, l[i]? = some p → (i = 0 → p.1 = a) ∧ (i + 1 = l.length → p.2 = b) ∧ ∀ q, l[i + 1]? = some q → p.2 = q.1) →
    Linked (l.map fun p => (p.1.toNat, p.2.toNat)) a.toNat b.toNat
  | [], _, h, _ => absurd rfl h
  | [p], a, _, h => by
    obtain ⟨h1, h2, _⟩ := h 0 p rfl
    exact ⟨by simp [h1 rfl], by simp [h2 rfl]⟩
  | p :: q :: l, a, _, h => by
    obtain ⟨h1, _, h3⟩ := h 0 p rfl
    refine ⟨by simp [h1 rfl], ?_⟩
    have ih := linked_of (b := b) (q :: l) p.2 (by simp) fun i x hx => by
      obtain ⟨_, k2, k3⟩ := h (i + 1) x (by simpa using hx)
      refine ⟨fun hi => ?_, fun hi => k2 (by simp at hi ⊢; omega), fun y hy => k3 y (by simpa using hy)⟩
      subst hi
      have : x = q := by simpa using hx.symm
      rw [this]
      exact (h3 q rfl).symm
    exact ih
theorem shows_clo {sk er a b : Int} {rs : List Run3} (G : Good sk er rs) (h : ShowsP er rs a b) : clo (prs er rs) o0 a.toNat b.toNat = true ∧ (0 ≤ a ∧ a ≤ sk - 1) ∧ (0 ≤ b ∧ b ≤ sk - 1) := by
  obtain ⟨l, hne, hsh, hl⟩ := h
  refine ⟨linked_clo (fun a b c h => by cases h) (c := l.map fun p => (p.1.toNat, p.2.toNat)) ?_ (linked_of l a hne hl), ?_, ?_⟩
  · intro p hp
    obtain ⟨x, hx, rfl⟩ := List.mem_map.1 hp
    obtain ⟨r, hr, hs⟩ := hsh x hx
    exact mem_prs.2 ⟨r, hr, x, hs, rfl⟩
  · match l, hne with
    | x :: t, _ =>
      obtain ⟨r, hr, hs⟩ := hsh x (by simp)
      have h1 := (hl 0 x rfl).1 rfl
      have h2 := shw_in G hr
      rw [hs] at h2
      rw [← h1]
      exact h2.1
  · have hpos : 0 < l.length := List.length_pos_iff.2 hne
    have hx : l[l.length - 1]? = some (l[l.length - 1]'(by omega)) := by simp
    obtain ⟨r, hr, hs⟩ := hsh _ (List.mem_of_getElem? hx)
    have h1 := (hl _ _ hx).2.1 (by omega)
    have h2 := shw_in G hr
    rw [hs] at h2
    rw [← h1]
    exact h2.2
theorem anyB_mem {α : Type} {p : α → Bool} {l : List α} {a : α} (ha : a ∈ l) (h : p a = true) : anyB p l = true := by
  cases hc : anyB p l
  · exact absurd (anyB_false hc a ha) (by rw [h]; simp)
  · rfl
theorem eqP_self (a b : Int) : eqP a b (a, b) = true := by
  unfold eqP
  rw [eqI_eq, eqI_eq]
  simp [andB]
theorem pairs_has {o : Ord} {sk a b : Int} (h : o a.toNat b.toNat = true) (ha : 0 ≤ a ∧ a ≤ sk - 1) (hb : 0 ≤ b ∧ b ≤ sk - 1) : anyB (eqP a b) (allP o sk.toNat sk.toNat) = true :=
  anyB_mem (mem_allP.2 ⟨a.toNat, b.toNat, by omega, by omega, h, by rw [Int.toNat_of_nonneg ha.1, Int.toNat_of_nonneg hb.1]⟩) (eqP_self a b)
/-- How many are stronger, how many as strong. -/
def ahd (st : List Int) (s m : Nat) : Nat := cnt (fun i => decide (ga st s < ga st i)) m
def alk (st : List Int) (s m : Nat) : Nat := cnt (fun i => decide (ga st i = ga st s)) m
theorem ahd_succ (st : List Int) (s m : Nat) : ahd st s (m + 1) = ahd st s m + (if ga st s < ga st m then 1 else 0) := by
  unfold ahd
  rw [cnt]
  simp
theorem alk_succ (st : List Int) (s m : Nat) : alk st s (m + 1) = alk st s m + (if ga st m = ga st s then 1 else 0) := by
  unfold alk
  rw [cnt]
  simp
theorem cnt_add (p q : Nat → Bool) (hd : ∀ i, p i = true → q i = true → False) : ∀ n, cnt p n + cnt q n = cnt (fun i => p i || q i) n
  | 0 => rfl
  | n + 1 => by
    have := cnt_add p q hd n
    unfold cnt
    have hn := hd n
    revert hn
    cases p n <;> cases q n <;> simp <;> omega
theorem place_law {sk er : Int} {rs : List Run3} {st : List Int} (A : Ag sk er rs st) (s : Nat) :
    (plE (clo (prs er rs) o0) st.length s).1 ≤ 1 + (ahd st s st.length : Int) ∧ (ahd st s st.length : Int) + (alk st s st.length : Int) ≤ (plE (clo (prs er rs) o0) st.length s).2 := by
  have hm := ag_mono A
  unfold plE
  constructor
  · have := cnt_le (p := fun i => clo (prs er rs) o0 i s) (q := fun i => decide (ga st s < ga st i)) (n := st.length) fun i _ hi => by simpa using hm i s hi
    unfold ahd
    simp only
    omega
  · have h1 := cnt_add (fun i => decide (ga st s < ga st i)) (fun i => decide (ga st i = ga st s)) (fun i h1 h2 => by simp at h1 h2; omega) st.length
    have h2 := cnt_disj (p := fun i => clo (prs er rs) o0 s i) (q := fun i => decide (ga st s < ga st i) || decide (ga st i = ga st s)) (n := st.length) fun i _ h3 h4 => by
      have := hm s i h3
      simp at h4
      omega
    unfold ahd alk
    simp only
    omega
theorem cnt_lt' (p : Nat → Bool) : ∀ n, cnt p n ≤ n
  | 0 => Nat.le_refl _
  | n + 1 => by have := cnt_lt' p n; unfold cnt; split <;> omega
theorem encP_get1 {l : List (Int × Int)} {i : Nat} {p : Int × Int} (h : l[i]? = some p) : (encP l)[i * 2 + 0]? = some (.int .i64 p.1) := by
  have := congrArg (fun l => l[0]?) (encP_at h)
  simpa [List.getElem?_take, List.getElem?_drop] using this
theorem fork_loops {G : Prop} {α : Type} {m : Nat} {sl : Option (List Nat)} {body : S → (Ex → S → Prop) → Prop} {Q : Ex → S → Prop} (st : α → S) (I : α → Prop) (μ : α → Nat)
    (step : ∀ (n : Nat) (x : α), I x → (∀ y, I y → μ y < μ x → Ab.hd m sl body n (st y) Q) → Ab.hd m sl body (n + 1) (st x) Q)
    (leaf : (∀ x, I x → Loops fun n => Ab.hd m sl body n (st x) Q) → G) : G := leaf fun x hx => loops_by st I μ x hx step
end Go.Proofs.Rx
