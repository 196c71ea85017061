/-
  TopDecidedEarly: the plain law of totals and of who is better.
-/

section
namespace Go.Proofs.Cw
set_option maxRecDepth 100000
/-! ### The best ones of some numbers -/
def befB (sc : Nat → Int) (a b : Nat) : Bool := decide (sc b < sc a ∨ (sc b = sc a ∧ a < b))
theorem bef_iff {sc : Nat → Int} {a b : Nat} : befB sc a b = true ↔ sc b < sc a ∨ (sc b = sc a ∧ a < b) := by simp [befB]
theorem bef_irr (sc : Nat → Int) (a : Nat) : befB sc a a = false := by simp [befB]
theorem bef_asymm {sc : Nat → Int} {a b : Nat} (h : befB sc a b = true) : befB sc b a = false := by
  cases hb : befB sc b a
  · rfl
  · rw [bef_iff] at h hb; omega
theorem bef_trans {sc : Nat → Int} {a b c : Nat} (h : befB sc a b = true) (h2 : befB sc b c = true) : befB sc a c = true := by rw [bef_iff] at *; omega
theorem bef_total {sc : Nat → Int} {a b : Nat} (h : a ≠ b) (h2 : befB sc a b = false) : befB sc b a = true := by
  rw [bef_iff]
  have : ¬ (sc b < sc a ∨ (sc b = sc a ∧ a < b)) := by rw [← bef_iff]; simp [h2]
  omega
/-- Sorted as they count. -/
structure Srt (sc : Nat → Int) (m : Nat) (L : List Nat) : Prop where
  perm : L.Perm (List.range m)
  pw : L.Pairwise fun a b => befB sc a b = true
theorem insert_bef (sc : Nat → Int) (x : Nat) : ∀ (L : List Nat), x ∉ L → (L.Pairwise fun a b => befB sc a b = true) → ∃ L' : List Nat, L'.Perm (x :: L) ∧ L'.Pairwise fun a b => befB sc a b = true
  | [], _, _ => ⟨[x], .refl _, by simp⟩
  | y :: L, hx, h => by
    have h0 := h
    rw [List.pairwise_cons] at h
    cases hb : befB sc x y
    · have hyx : befB sc y x = true := bef_total (fun e => hx (by simp [e])) hb
      obtain ⟨L2, h2, h3⟩ := insert_bef sc x L (fun hm => hx (by simp [hm])) h.2
      refine ⟨y :: L2, (h2.cons y).trans (.swap ..), List.pairwise_cons.2 ⟨fun z hz => ?_, h3⟩⟩
      rcases List.mem_cons.1 (h2.mem_iff.1 hz) with rfl | hz
      · exact hyx
      · exact h.1 z hz
    · refine ⟨x :: y :: L, .refl _, List.pairwise_cons.2 ⟨fun z hz => ?_, h0⟩⟩
      rcases List.mem_cons.1 hz with rfl | hz
      · exact hb
      · exact bef_trans hb (h.1 z hz)
theorem srt_ex (sc : Nat → Int) : ∀ m, ∃ L, Srt sc m L
  | 0 => ⟨[], .refl _, by simp⟩
  | m + 1 => by
    obtain ⟨L, h⟩ := srt_ex sc m
    obtain ⟨L2, h2, h3⟩ := insert_bef sc m L (fun hm => by have := h.perm.mem_iff.1 hm; simp at this) h.pw
    refine ⟨L2, h2.trans ?_, h3⟩
    rw [List.range_succ]
    exact (h.perm.cons m).trans (List.perm_append_singleton m _).symm
def rk (sc : Nat → Int) (m i : Nat) : Nat := (List.range m).countP fun k => befB sc k i
theorem split_at {L : List Nat} {j i : Nat} (h : L[j]? = some i) : L = L.take j ++ i :: L.drop (j + 1) := by
  obtain ⟨hj, rfl⟩ := List.getElem?_eq_some_iff.1 h
  rw [← List.drop_eq_getElem_cons hj, List.take_append_drop]
theorem take_len {L : List Nat} {j i : Nat} (h : L[j]? = some i) : (L.take j).length = j := by
  have := (List.getElem?_eq_some_iff.1 h).1
  simp; omega
theorem pos {sc : Nat → Int} {m : Nat} {L : List Nat} (S : Srt sc m L) {j i : Nat} (h : L[j]? = some i) : rk sc m i = j := by
  unfold rk
  rw [← S.perm.countP_eq, split_at h, List.countP_append, List.countP_cons]
  have hp := S.pw
  rw [split_at h, List.pairwise_append, List.pairwise_cons] at hp
  obtain ⟨_, ⟨h2, _⟩, h4⟩ := hp
  have e1 : (L.take j).countP (fun k => befB sc k i) = (L.take j).length := List.countP_eq_length.2 fun a ha => h4 a ha i (by simp)
  have e2 : (L.drop (j + 1)).countP (fun k => befB sc k i) = 0 := List.countP_eq_zero.2 fun a ha => by rw [bef_asymm (h2 a ha)]; simp
  rw [e1, e2, bef_irr, take_len h]
  simp
theorem filter_take (p : Nat → Bool) : ∀ (L : List Nat) (b : Nat), (∀ j i, L[j]? = some i → (p i = true ↔ j < b)) → L.filter p = L.take b
  | [], b, _ => by simp
  | x :: L, 0, h => by
    have hx : p x = false := by
      cases hp : p x
      · rfl
      · exact absurd ((h 0 x rfl).1 hp) (by omega)
    rw [List.filter_cons, hx]
    have := filter_take p L 0 fun j i hj => ⟨fun hp => absurd ((h (j + 1) i (by simpa using hj)).1 hp) (by omega), fun hj => absurd hj (by omega)⟩
    simpa using this
  | x :: L, b + 1, h => by
    have hx : p x = true := (h 0 x rfl).2 (by omega)
    rw [List.filter_cons, hx]
    have := filter_take p L b fun j i hj => by
      have h5 := h (j + 1) i (by simpa using hj)
      exact ⟨fun hp => by have := h5.1 hp; omega, fun hj => h5.2 (by omega)⟩
    simp [this]
/-- The ones that count: fewer than so many are ahead. -/
def ctd (sc : Nat → Int) (m b : Nat) : List Nat := (List.range m).filter fun i => decide (rk sc m i < b)
theorem ctd_take {sc : Nat → Int} {m b : Nat} {L : List Nat} (S : Srt sc m L) : (ctd sc m b).Perm (L.take b) := by
  unfold ctd
  rw [← filter_take (fun i => decide (rk sc m i < b)) L b fun j i hj => by rw [pos S hj]; simp]
  exact S.perm.symm.filter _
def tot (sc : Nat → Int) (m b : Nat) : Int := ((ctd sc m b).map sc).sum
theorem perm_sum {l m : List Int} (h : l.Perm m) : l.sum = m.sum := by
  induction h with
  | nil => rfl
  | cons x _ ih => simp [ih]
  | swap x y l => simp; omega
  | trans _ _ h1 h2 => rw [h1, h2]
theorem tot_take {sc : Nat → Int} {m b : Nat} {L : List Nat} (S : Srt sc m L) : tot sc m b = ((L.take b).map sc).sum := perm_sum ((ctd_take S).map sc)
theorem countP_le {p q : Nat → Bool} : ∀ (L : List Nat), (∀ a ∈ L, p a = true → q a = true) → L.countP p ≤ L.countP q
  | [], _ => Nat.le_refl _
  | x :: L, h => by
    rw [List.countP_cons, List.countP_cons]
    have := countP_le L fun a ha => h a (by simp [ha])
    have hx := h x (by simp)
    revert hx
    cases p x <;> cases q x <;> simp <;> omega
theorem dom_at {sc sc' : Nat → Int} {m : Nat} {L L' : List Nat} (S : Srt sc m L) (S' : Srt sc' m L') (hle : ∀ i, i < m → sc i ≤ sc' i) {j i i' : Nat} (h : L[j]? = some i) (h' : L'[j]? = some i') : sc i ≤ sc' i' := by
  refine Int.not_lt.1 fun hlt => ?_
  have c1 : L'.countP (fun k => decide (sc i ≤ sc' k)) ≤ j := by
    have hp := S'.pw
    rw [split_at h', List.pairwise_append, List.pairwise_cons] at hp
    obtain ⟨_, ⟨h2, _⟩, h4⟩ := hp
    rw [split_at h', List.countP_append, List.countP_cons]
    have e1 : (L'.take j).countP (fun k => decide (sc i ≤ sc' k)) ≤ (L'.take j).length := List.countP_le_length
    have e2 : (L'.drop (j + 1)).countP (fun k => decide (sc i ≤ sc' k)) = 0 := List.countP_eq_zero.2 fun a ha => by
      have := bef_iff.1 (h2 a ha)
      simp
      omega
    rw [e2, take_len h'] at *
    have : ¬ sc i ≤ sc' i' := by omega
    simp [this]
    exact e1
  have c2 : j + 1 ≤ L.countP (fun k => decide (sc i ≤ sc k)) := by
    have hp := S.pw
    rw [split_at h, List.pairwise_append, List.pairwise_cons] at hp
    obtain ⟨_, ⟨h2, _⟩, h4⟩ := hp
    rw [split_at h, List.countP_append, List.countP_cons]
    have e1 : (L.take j).countP (fun k => decide (sc i ≤ sc k)) = (L.take j).length := List.countP_eq_length.2 fun a ha => by
      have := bef_iff.1 (h4 a ha i (by simp))
      simp
      omega
    rw [e1, take_len h]
    simp
  have c3 : L.countP (fun k => decide (sc i ≤ sc k)) ≤ L'.countP (fun k => decide (sc i ≤ sc' k)) := by
    rw [S.perm.countP_eq, S'.perm.countP_eq]
    refine countP_le _ fun a ha => ?_
    have := hle a (List.mem_range.1 ha)
    simp
    omega
  omega
theorem sum_le : ∀ (l l' : List Int), l.length = l'.length → (∀ (j : Nat) a b, l[j]? = some a → l'[j]? = some b → a ≤ b) → l.sum ≤ l'.sum
  | [], [], _, _ => Int.le_refl _
  | [], _ :: _, h, _ => by simp at h
  | _ :: _, [], h, _ => by simp at h
  | x :: l, y :: l', h, hj => by
    have h1 := hj 0 x y rfl rfl
    have h2 := sum_le l l' (by simpa using h) fun j a b ha hb => hj (j + 1) a b (by simpa using ha) (by simpa using hb)
    simp
    omega
theorem tot_mono {sc sc' : Nat → Int} {m b : Nat} (hle : ∀ i, i < m → sc i ≤ sc' i) : tot sc m b ≤ tot sc' m b := by
  obtain ⟨L, S⟩ := srt_ex sc m
  obtain ⟨L', S'⟩ := srt_ex sc' m
  rw [tot_take S, tot_take S']
  have l1 := S.perm.length_eq
  have l2 := S'.perm.length_eq
  refine sum_le _ _ (by simp [l1, l2]) fun j a c ha hc => ?_
  rw [List.getElem?_map] at ha hc
  obtain ⟨i, hi, rfl⟩ := Option.map_eq_some_iff.1 ha
  obtain ⟨i', hi', rfl⟩ := Option.map_eq_some_iff.1 hc
  rw [List.getElem?_take] at hi hi'
  split at hi
  · rename_i hjb
    rw [if_pos hjb] at hi'
    exact dom_at S S' hle hi hi'
  · cases hi
/-! ### Who has the better places -/
def Gt (f g : Nat → Int) : Prop := ∃ q : Nat, 1 ≤ q ∧ q ≤ 60 ∧ g q < f q ∧ ∀ r : Nat, 1 ≤ r → r < q → f r = g r
def lexB (f g : Nat → Int) : Nat → Nat → Bool
  | 0, _ => false
  | n + 1, p => if f p = g p then lexB f g n (p + 1) else decide (g p < f p)
theorem lexB_iff (f g : Nat → Int) : ∀ n p, lexB f g n p = true ↔ ∃ q : Nat, p ≤ q ∧ q < p + n ∧ g q < f q ∧ ∀ r : Nat, p ≤ r → r < q → f r = g r
  | 0, p => by
    unfold lexB
    constructor
    · intro h; cases h
    · rintro ⟨q, h1, h2, _⟩; omega
  | n + 1, p => by
    unfold lexB
    by_cases h : f p = g p
    · rw [if_pos h, lexB_iff f g n (p + 1)]
      constructor
      · rintro ⟨q, h1, h2, h3, h4⟩
        refine ⟨q, by omega, by omega, h3, fun r hr1 hr2 => ?_⟩
        by_cases hrp : r = p
        · rw [hrp]; exact h
        · exact h4 r (by omega) hr2
      · rintro ⟨q, h1, h2, h3, h4⟩
        have : q ≠ p := fun e => by subst e; omega
        exact ⟨q, by omega, by omega, h3, fun r hr1 hr2 => h4 r (by omega) hr2⟩
    · rw [if_neg h, decide_eq_true_iff]
      constructor
      · intro h2
        exact ⟨p, by omega, by omega, h2, fun r hr1 hr2 => by omega⟩
      · rintro ⟨q, h1, h2, h3, h4⟩
        by_cases hqp : q = p
        · subst hqp; exact h3
        · exact absurd (h4 p (by omega) (by omega)) h
theorem gt_iff (f g : Nat → Int) : lexB f g 60 1 = true ↔ Gt f g := by
  rw [lexB_iff]
  constructor
  · rintro ⟨q, h1, h2, h3, h4⟩; exact ⟨q, h1, by omega, h3, h4⟩
  · rintro ⟨q, h1, h2, h3, h4⟩; exact ⟨q, h1, by omega, h3, h4⟩
theorem gt_irr (f : Nat → Int) : ¬ Gt f f := by rintro ⟨q, _, _, h, _⟩; omega
theorem gt_trans {f g h : Nat → Int} (h1 : Gt f g) (h2 : Gt g h) : Gt f h := by
  obtain ⟨q, a1, a2, a3, a4⟩ := h1
  obtain ⟨r, b1, b2, b3, b4⟩ := h2
  by_cases hqr : q < r
  · exact ⟨q, a1, a2, by rw [← b4 q a1 hqr]; exact a3, fun t ht1 ht2 => by rw [a4 t ht1 ht2, b4 t ht1 (by omega)]⟩
  · by_cases hrq : r < q
    · exact ⟨r, b1, b2, by rw [a4 r b1 hrq]; exact b3, fun t ht1 ht2 => by rw [a4 t ht1 (by omega), b4 t ht1 ht2]⟩
    · obtain rfl : q = r := by omega
      exact ⟨q, a1, a2, by omega, fun t ht1 ht2 => by rw [a4 t ht1 ht2, b4 t ht1 ht2]⟩
/-- What a form becomes by that many first places. -/
def plus1 (f : Nat → Int) (k : Int) : Nat → Int := fun p => if p = 1 then f p + k else f p
theorem up1 {base f h : Nat → Int} {k : Int} (h1 : f 1 ≤ k) (h2 : f 1 = k → ∀ p : Nat, 2 ≤ p → p ≤ 60 → f p = 0) (hg : Gt (fun p => base p + f p) h) : Gt (plus1 base k) h := by
  obtain ⟨q, a1, a2, a3, a4⟩ := hg
  have e1 : plus1 base k 1 = base 1 + k := by simp [plus1]
  have e2 : ∀ p : Nat, p ≠ 1 → plus1 base k p = base p := fun p hp => by simp [plus1, hp]
  by_cases hk : f 1 = k
  · have hz := h2 hk
    have same : ∀ p : Nat, 1 ≤ p → p ≤ 60 → plus1 base k p = base p + f p := fun p hp1 hp2 => by
      by_cases h : p = 1
      · subst h; rw [e1, hk]
      · rw [e2 p h, hz p (by omega) hp2]; omega
    exact ⟨q, a1, a2, by rw [same q a1 a2]; exact a3, fun r hr1 hr2 => by rw [same r hr1 (by omega)]; exact a4 r hr1 hr2⟩
  · refine ⟨1, by omega, by omega, ?_, fun r hr1 hr2 => by omega⟩
    rw [e1]
    by_cases hq : q = 1
    · subst hq; simp only at a3; omega
    · have := a4 1 (by omega) (by omega); simp only at this; omega
theorem up2 {base f h : Nat → Int} {k : Int} (h1 : f 1 ≤ k) (h2 : f 1 = k → ∀ p : Nat, 2 ≤ p → p ≤ 60 → f p = 0) (hg : Gt h (plus1 base k)) : Gt h (fun p => base p + f p) := by
  obtain ⟨q, a1, a2, a3, a4⟩ := hg
  have e1 : plus1 base k 1 = base 1 + k := by simp [plus1]
  have e2 : ∀ p : Nat, p ≠ 1 → plus1 base k p = base p := fun p hp => by simp [plus1, hp]
  by_cases hk : f 1 = k
  · have hz := h2 hk
    have same : ∀ p : Nat, 1 ≤ p → p ≤ 60 → plus1 base k p = base p + f p := fun p hp1 hp2 => by
      by_cases h : p = 1
      · subst h; rw [e1, hk]
      · rw [e2 p h, hz p (by omega) hp2]; omega
    exact ⟨q, a1, a2, by rw [same q a1 a2] at a3; exact a3, fun r hr1 hr2 => by have := a4 r hr1 hr2; rw [same r hr1 (by omega)] at this; exact this⟩
  · refine ⟨1, by omega, by omega, ?_, fun r hr1 hr2 => by omega⟩
    by_cases hq : q = 1
    · subst hq; rw [e1] at a3; simp only; omega
    · have := a4 1 (by omega) (by omega); rw [e1] at this; simp only; omega
theorem least {p : Nat → Prop} [DecidablePred p] : ∀ n, (∃ r, r ≤ n ∧ p r) → ∃ r, r ≤ n ∧ p r ∧ ∀ t, t < r → ¬ p t
  | 0, ⟨r, hr, h⟩ => ⟨r, hr, h, fun t ht => by omega⟩
  | n + 1, ⟨r, hr, h⟩ => by
    by_cases he : ∃ r, r ≤ n ∧ p r
    · obtain ⟨q, h1, h2, h3⟩ := least n he
      exact ⟨q, by omega, h2, h3⟩
    · exact ⟨r, hr, h, fun t ht hp => he ⟨t, by omega, hp⟩⟩
theorem up3 {base f h : Nat → Int} (hf : ∀ p, 0 ≤ f p) (hg : Gt base h) : Gt (fun p => base p + f p) h := by
  obtain ⟨q, a1, a2, a3, a4⟩ := hg
  by_cases he : ∃ r : Nat, r ≤ q ∧ (1 ≤ r ∧ 0 < f r)
  · obtain ⟨r, h1, ⟨h2, h3⟩, h4⟩ := least (p := fun r => 1 ≤ r ∧ 0 < f r) q he
    refine ⟨r, h2, by omega, ?_, fun t ht1 ht2 => ?_⟩
    · by_cases hrq : r = q
      · subst hrq; simp only; omega
      · have := a4 r h2 (by omega); simp only; omega
    · have k1 := hf t
      have k2 : ¬ 0 < f t := fun hp => h4 t ht2 ⟨ht1, hp⟩
      have := a4 t ht1 (by omega)
      simp only; omega
  · have hz : ∀ r : Nat, 1 ≤ r → r ≤ q → f r = 0 := fun r h1 h2 => by
      have k1 := hf r
      have k2 : ¬ 0 < f r := fun hp => he ⟨r, h2, h1, hp⟩
      omega
    refine ⟨q, a1, a2, by simp only; rw [hz q a1 (by omega)]; omega, fun t ht1 ht2 => ?_⟩
    have := a4 t ht1 ht2
    simp only
    rw [hz t ht1 (by omega)]; omega
theorem up4 {base f h : Nat → Int} (hf : ∀ p, 0 ≤ f p) (hg : Gt h (fun p => base p + f p)) : Gt h base := by
  obtain ⟨q, a1, a2, a3, a4⟩ := hg
  simp only at a3 a4
  by_cases he : ∃ r : Nat, r ≤ q ∧ (1 ≤ r ∧ 0 < f r)
  · obtain ⟨r, h1, ⟨h2, h3⟩, h4⟩ := least (p := fun r => 1 ≤ r ∧ 0 < f r) q he
    refine ⟨r, h2, by omega, ?_, fun t ht1 ht2 => ?_⟩
    · by_cases hrq : r = q
      · subst hrq; omega
      · have := a4 r h2 (by omega); omega
    · have k1 := hf t
      have k2 : ¬ 0 < f t := fun hp => h4 t ht2 ⟨ht1, hp⟩
      have := a4 t ht1 (by omega)
      omega
  · have hz : ∀ r : Nat, 1 ≤ r → r ≤ q → f r = 0 := fun r h1 h2 => by
      have k1 := hf r
      have k2 : ¬ 0 < f r := fun hp => he ⟨r, h2, h1, hp⟩
      omega
    refine ⟨q, a1, a2, by have := hz q a1 (by omega); omega, fun t ht1 ht2 => ?_⟩
    have := a4 t ht1 ht2
    rw [hz t ht1 (by omega)] at this; omega
end Go.Proofs.Cw
end
section
/-
  TopDecidedEarly: the plain law of cups: who can be first, who surely is.
-/
namespace Go.Proofs.Cw
set_option maxRecDepth 100000
/-- The place of a skier in a race, how many share one, what a skier has of a race. -/
def pl (race : List Int) (s : Nat) : Int := (race[s]?).getD 0
def shr (race : List Int) (p : Int) : Nat := race.countP fun q => decide (q = p)
def scr (P : List Int) (race : List Int) (s : Nat) : Int := if pl race s = 0 then 0 else (((P.drop ((pl race s).toNat - 1)).take (shr race (pl race s))).sum).tdiv (shr race (pl race s))
def row (R : List (List Int)) (j : Nat) : List Int := (R[j]?).getD []
def Tt (P : List Int) (b : Nat) (R : List (List Int)) (s : Nat) : Int := tot (fun j => scr P (row R j) s) R.length b
def plc (R : List (List Int)) (s : Nat) (p : Nat) : Int := ((R.countP fun race => decide (pl race s = (p : Int)) : Nat) : Int)
def Btr (P : List Int) (b : Nat) (R : List (List Int)) (o s : Nat) : Prop := Tt P b R s < Tt P b R o ∨ (Tt P b R s = Tt P b R o ∧ Gt (plc R o) (plc R s))
def wrow (n s : Nat) : List Int := (List.replicate n 0).set s 1
def won (n s k : Nat) : List (List Int) := List.replicate k (wrow n s)
/-- Points in order. -/
structure VP (P : List Int) : Prop where
  ne : 0 < P.length
  le : ∀ x ∈ P, 0 ≤ x ∧ x ≤ (P[0]?).getD 0
def VR (n : Nat) (R : List (List Int)) : Prop := ∀ race ∈ R, race.length = n ∧ ∀ q ∈ race, 0 ≤ q ∧ q ≤ 60
theorem sum_bound {m : Int} : ∀ (l : List Int), (∀ x ∈ l, 0 ≤ x ∧ x ≤ m) → 0 ≤ l.sum ∧ l.sum ≤ l.length * m
  | [], _ => by simp
  | x :: l, h => by
    have h1 := sum_bound l fun y hy => h y (by simp [hy])
    have h2 := h x (by simp)
    simp only [List.sum_cons, List.length_cons]
    rw [show ((l.length + 1 : Nat) : Int) * m = l.length * m + m by rw [Int.natCast_add, Int.add_mul]; simp]
    omega
theorem shr_pos {race : List Int} {s : Nat} (h : s < race.length) : 1 ≤ shr race (pl race s) := by
  unfold shr
  refine List.countP_pos_iff.2 ⟨race[s], by simp, ?_⟩
  simp [pl, h]
theorem scr_bound {P race : List Int} (V : VP P) {s : Nat} (h : s < race.length) : 0 ≤ scr P race s ∧ scr P race s ≤ (P[0]?).getD 0 := by
  have hp := shr_pos h
  have hm : (0 : Int) ≤ (P[0]?).getD 0 := by
    have hx : P[0]? = some (P[0]'V.ne) := List.getElem?_eq_getElem V.ne
    rw [hx]
    exact (V.le _ (by simp)).1
  unfold scr
  split
  · exact ⟨Int.le_refl _, hm⟩
  generalize hM : shr race (pl race s) = M at *
  have hb := sum_bound (m := (P[0]?).getD 0) ((P.drop ((pl race s).toNat - 1)).take M) fun x hx => V.le x (List.mem_of_mem_drop (List.mem_of_mem_take hx))
  have hl : ((P.drop ((pl race s).toNat - 1)).take M).length ≤ M := by simp; omega
  generalize ((P.drop ((pl race s).toNat - 1)).take M) = l at *
  generalize (P[0]?).getD 0 = m at *
  have h3 : (l.length : Int) * m ≤ M * m := Int.mul_le_mul_of_nonneg_right (by omega) hm
  refine ⟨Int.tdiv_nonneg hb.1 (by omega), ?_⟩
  rw [Int.tdiv_eq_ediv_of_nonneg hb.1]
  refine Int.ediv_le_of_le_mul (by omega) ?_
  rw [Int.mul_comm]
  omega
theorem wrow_length (n s : Nat) : (wrow n s).length = n := by simp [wrow]
theorem pl_wrow_self {n s : Nat} (h : s < n) : pl (wrow n s) s = 1 := by simp [pl, wrow, h]
theorem pl_wrow_ne {n s o : Nat} (h : o ≠ s) : pl (wrow n s) o = 0 := by
  unfold pl wrow
  rw [List.getElem?_set_ne (by omega), List.getElem?_replicate]
  split <;> rfl
theorem shr_wrow {n s : Nat} (h : s < n) : shr (wrow n s) 1 = 1 := by
  unfold shr wrow
  rw [List.countP_set (by simpa using h)]
  simp
theorem scr_wrow_self {P : List Int} (V : VP P) {n s : Nat} (h : s < n) : scr P (wrow n s) s = (P[0]?).getD 0 := by
  unfold scr
  rw [pl_wrow_self h, if_neg (by decide), shr_wrow h]
  cases P with
  | nil => exact absurd V.ne (by simp)
  | cons x P => simp
theorem scr_wrow_ne {P : List Int} {n s o : Nat} (h : o ≠ s) : scr P (wrow n s) o = 0 := by
  unfold scr
  rw [if_pos (pl_wrow_ne h)]
theorem row_left {D F : List (List Int)} {j : Nat} (h : j < D.length) : row (D ++ F) j = row D j := by unfold row; rw [List.getElem?_append_left h]
theorem row_right {D F : List (List Int)} {j : Nat} (h : D.length ≤ j) : row (D ++ F) j = row F (j - D.length) := by unfold row; rw [List.getElem?_append_right h]
theorem row_won {n s k j : Nat} (h : j < k) : row (won n s k) j = wrow n s := by simp [row, won, h]
theorem row_mem {F : List (List Int)} {j : Nat} (h : j < F.length) : row F j ∈ F := by simp [row, h]
theorem Tt_mono {P : List Int} {b : Nat} {D F G : List (List Int)} {s : Nat} (hl : F.length = G.length) (h : ∀ j, j < F.length → scr P (row F j) s ≤ scr P (row G j) s) : Tt P b (D ++ F) s ≤ Tt P b (D ++ G) s := by
  unfold Tt
  rw [List.length_append, List.length_append, ← hl]
  refine tot_mono fun j hj => ?_
  by_cases hd : j < D.length
  · rw [row_left hd, row_left hd]; exact Int.le_refl _
  · rw [row_right (by omega), row_right (by omega)]
    exact h _ (by omega)
theorem plc_append (D F : List (List Int)) (s p : Nat) : plc (D ++ F) s p = plc D s p + plc F s p := by unfold plc; rw [List.countP_append]; omega
theorem plc_won_self {n s k p : Nat} (h : s < n) : plc (won n s k) s p = if p = 1 then (k : Int) else 0 := by
  unfold plc won
  rw [List.countP_replicate, pl_wrow_self h]
  by_cases hp : p = 1
  · subst hp; simp
  · have : ¬ (1 : Int) = p := by omega
    simp [hp, this]
theorem plc_won_ne {n s o k p : Nat} (h : o ≠ s) (hp : 1 ≤ p) : plc (won n s k) o p = 0 := by
  unfold plc won
  rw [List.countP_replicate, pl_wrow_ne h]
  have : ¬ (0 : Int) = p := by omega
  simp [this]
theorem gt_congr {f f' g g' : Nat → Int} (hf : ∀ p, 1 ≤ p → f p = f' p) (hg : ∀ p, 1 ≤ p → g p = g' p) (h : Gt f g) : Gt f' g' := by
  obtain ⟨q, a1, a2, a3, a4⟩ := h
  exact ⟨q, a1, a2, by rw [← hf q a1, ← hg q a1]; exact a3, fun r h1 h2 => by rw [← hf r h1, ← hg r h1]; exact a4 r h1 h2⟩
theorem plc_nonneg (R : List (List Int)) (s p : Nat) : 0 ≤ plc R s p := by unfold plc; omega
theorem plc_le (R : List (List Int)) (s p : Nat) : plc R s p ≤ R.length := by unfold plc; have := List.countP_le_length (p := fun race => decide (pl race s = (p : Int))) (l := R); omega
theorem plc_all {R : List (List Int)} {s : Nat} (h : plc R s 1 = R.length) (p : Nat) (hp : 2 ≤ p) (_ : p ≤ 60) : plc R s p = 0 := by
  unfold plc at h ⊢
  have h1 : R.countP (fun race => decide (pl race s = ((1 : Nat) : Int))) = R.length := by omega
  have h2 := List.countP_eq_length.1 h1
  have h3 : R.countP (fun race => decide (pl race s = (p : Int))) = 0 := List.countP_eq_zero.2 fun race hr => by
    have := h2 race hr
    simp at this ⊢
    omega
  omega
section
variable {P : List Int} {b n k : Nat} {D F : List (List Int)} (V : VP P) (hF : VR n F) (hk : F.length = k) {o s : Nat} (ho : o < n) (hs : s < n) (hos : o ≠ s)
include V hF hk ho hs hos
theorem better_up (h : Btr P b (D ++ F) o s) : Btr P b (D ++ won n o k) o s := by
  have hw : (won n o k).length = k := by simp [won]
  have t1 : Tt P b (D ++ F) o ≤ Tt P b (D ++ won n o k) o := Tt_mono (by rw [hw, hk]) fun j hj => by
    rw [row_won (by omega), scr_wrow_self V ho]
    exact (scr_bound V (by rw [(hF _ (row_mem hj)).1]; exact ho)).2
  have t2 : Tt P b (D ++ won n o k) s ≤ Tt P b (D ++ F) s := Tt_mono (by rw [hw, hk]) fun j hj => by
    rw [hw] at hj
    rw [row_won hj, scr_wrow_ne (by omega)]
    exact (scr_bound V (by rw [(hF _ (row_mem (by omega))).1]; exact hs)).1
  rcases h with h | ⟨h, hg⟩
  · exact .inl (by omega)
  · by_cases he : Tt P b (D ++ won n o k) s < Tt P b (D ++ won n o k) o
    · exact .inl he
    · refine .inr ⟨by omega, ?_⟩
      have h1 : Gt (fun p => plc D o p + plc F o p) (fun p => plc D s p + plc F s p) := gt_congr (fun p _ => plc_append ..) (fun p _ => plc_append ..) hg
      have h2 := up1 (k := k) (by have := plc_le F o 1; omega) (fun he => plc_all (by omega)) (up4 (plc_nonneg F s) h1)
      refine gt_congr (fun p hp => ?_) (fun p hp => ?_) h2
      · rw [plc_append, plc_won_self ho]
        unfold plus1
        split <;> omega
      · rw [plc_append, plc_won_ne (by omega) hp]; omega
theorem better_down (h : Btr P b (D ++ won n s k) o s) : Btr P b (D ++ F) o s := by
  have hw : (won n s k).length = k := by simp [won]
  have t1 : Tt P b (D ++ F) s ≤ Tt P b (D ++ won n s k) s := Tt_mono (by rw [hw, hk]) fun j hj => by
    rw [row_won (by omega), scr_wrow_self V hs]
    exact (scr_bound V (by rw [(hF _ (row_mem hj)).1]; exact hs)).2
  have t2 : Tt P b (D ++ won n s k) o ≤ Tt P b (D ++ F) o := Tt_mono (by rw [hw, hk]) fun j hj => by
    rw [hw] at hj
    rw [row_won hj, scr_wrow_ne (by omega)]
    exact (scr_bound V (by rw [(hF _ (row_mem (by omega))).1]; exact ho)).1
  rcases h with h | ⟨h, hg⟩
  · exact .inl (by omega)
  · by_cases he : Tt P b (D ++ F) s < Tt P b (D ++ F) o
    · exact .inl he
    · refine .inr ⟨by omega, ?_⟩
      have h1 : Gt (plc D o) (plus1 (plc D s) k) := gt_congr (fun p hp => by rw [plc_append, plc_won_ne (by omega) hp]; omega) (fun p hp => by
        rw [plc_append, plc_won_self hs]
        unfold plus1
        split <;> omega) hg
      have h2 := up3 (plc_nonneg F o) (up2 (f := plc F s) (k := k) (by have := plc_le F s 1; omega) (fun he => plc_all (by omega)) h1)
      exact gt_congr (fun p _ => (plc_append ..).symm) (fun p _ => (plc_append ..).symm) h2
end
theorem btr_irr (P : List Int) (b : Nat) (R : List (List Int)) (s : Nat) : ¬ Btr P b R s s := by
  rintro (h | ⟨_, h⟩)
  · omega
  · exact gt_irr _ h
theorem btr_trans {P : List Int} {b : Nat} {R : List (List Int)} {a c d : Nat} (h1 : Btr P b R a c) (h2 : Btr P b R c d) : Btr P b R a d := by
  rcases h1 with h1 | ⟨h1, g1⟩ <;> rcases h2 with h2 | ⟨h2, g2⟩
  · exact .inl (by omega)
  · exact .inl (by omega)
  · exact .inl (by omega)
  · exact .inr ⟨by omega, gt_trans g1 g2⟩
theorem best_ex (P : List Int) (b : Nat) (R : List (List Int)) : ∀ n, 0 < n → ∃ s, s < n ∧ ∀ o, o < n → ¬ Btr P b R o s
  | 0, h => absurd h (by omega)
  | 1, _ => ⟨0, by omega, fun o ho hb => by
    have : o = 0 := by omega
    subst this
    exact btr_irr _ _ _ _ hb⟩
  | n + 2, _ => by
    obtain ⟨s, h1, h2⟩ := best_ex P b R (n + 1) (by omega)
    rcases Classical.em (Btr P b R (n + 1) s) with h | h
    · refine ⟨n + 1, by omega, fun o ho => ?_⟩
      by_cases he : o = n + 1
      · subst he; exact fun hb => btr_irr _ _ _ _ hb
      · exact fun hb => h2 o (by omega) (btr_trans hb h)
    · refine ⟨s, by omega, fun o ho => ?_⟩
      by_cases he : o = n + 1
      · subst he; exact h
      · exact h2 o (by omega)
/-- Nobody is better. -/
def Fst (P : List Int) (b n : Nat) (R : List (List Int)) (s : Nat) : Prop := ∀ o, o < n → ¬ Btr P b R o s
def Can (P : List Int) (b n : Nat) (D : List (List Int)) (k s : Nat) : Prop := Fst P b n (D ++ won n s k) s
def Sure (P : List Int) (b n : Nat) (D : List (List Int)) (k s : Nat) : Prop := ∀ t, t < n → t ≠ s → Fst P b n (D ++ won n t k) s
theorem vr_won (n s k : Nat) : VR n (won n s k) := by
  intro race hr
  obtain rfl := List.eq_of_mem_replicate hr
  refine ⟨wrow_length .., fun q hq => ?_⟩
  rcases List.mem_or_eq_of_mem_set hq with h | h
  · have := List.eq_of_mem_replicate h; omega
  · omega
section
variable {P : List Int} {b n k : Nat} {D F : List (List Int)} (V : VP P)
include V
theorem fst_can (hF : VR n F) (hk : F.length = k) {s : Nat} (hs : s < n) (h : Fst P b n (D ++ F) s) : Can P b n D k s := fun o ho hb => by
  by_cases he : o = s
  · subst he; exact btr_irr _ _ _ _ hb
  · exact h o ho (better_down V hF hk ho hs he hb)
theorem sure_fst (hF : VR n F) (hk : F.length = k) {s : Nat} (hs : s < n) (h : Sure P b n D k s) : Fst P b n (D ++ F) s := fun o ho hb => by
  by_cases he : o = s
  · subst he; exact btr_irr _ _ _ _ hb
  · exact h o ho he o ho (better_up V hF hk ho hs he hb)
theorem sure_can {s : Nat} (hs : s < n) (h : Sure P b n D k s) : Can P b n D k s := sure_fst V (vr_won n s k) (by simp [won]) hs h
theorem can_ex (hn : 0 < n) : ∃ s, s < n ∧ Can P b n D k s := by
  obtain ⟨s, h1, h2⟩ := best_ex P b (D ++ List.replicate k (List.replicate n 0)) n hn
  refine ⟨s, h1, fst_can V (F := List.replicate k (List.replicate n 0)) ?_ (by simp) h1 h2⟩
  intro race hr
  obtain rfl := List.eq_of_mem_replicate hr
  exact ⟨by simp, fun q hq => by have := List.eq_of_mem_replicate hq; omega⟩
/-- What is decided stays decided. -/
theorem can_less {E : List (List Int)} (hE : VR n E) {s : Nat} (hs : s < n) (h : Can P b n (D ++ E) k s) : Can P b n D (E.length + k) s := by
  refine fst_can V (F := E ++ won n s k) ?_ (by simp [won]) hs ?_
  · intro race hr
    rcases List.mem_append.1 hr with hr | hr
    · exact hE race hr
    · exact vr_won n s k race hr
  · rw [← List.append_assoc]; exact h
theorem sure_more {E : List (List Int)} (hE : VR n E) {s : Nat} (hs : s < n) (h : Sure P b n D (E.length + k) s) : Sure P b n (D ++ E) k s := fun t ht _ => by
  rw [List.append_assoc]
  refine sure_fst V ?_ (by simp [won]) hs h
  intro race hr
  rcases List.mem_append.1 hr with hr | hr
  · exact hE race hr
  · exact vr_won n t k race hr
end
end Go.Proofs.Cw
end
