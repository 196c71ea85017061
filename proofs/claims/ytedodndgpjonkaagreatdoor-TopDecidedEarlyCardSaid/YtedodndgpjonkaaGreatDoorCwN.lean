/-
  TopDecidedEarly: plain facts of lists: insertion, sums, counts.
-/
import Derived.Test.YtedodndgpjonkaaGreatDoorCwL
section
namespace Go.Proofs.Cw
set_option maxRecDepth 100000
/-! ### Insertion -/
/-- An element on its way into a sorted list. -/
def mid {α : Type} (S : List α) (x : α) (j : Nat) (C : List α) : List α := S.take j ++ x :: (S.drop j ++ C)
theorem mid_at {α : Type} {S C : List α} {x : α} {j : Nat} (h : j ≤ S.length) : (mid S x j C)[j]? = some x := by
  unfold mid
  rw [List.getElem?_append_right (by simp; omega)]
  have : j - (S.take j).length = 0 := by simp; omega
  rw [this]; rfl
theorem mid_before {α : Type} {S C : List α} {x y : α} {j : Nat} (h : S[j]? = some y) : (mid S x (j + 1) C)[j]? = some y := by
  have hj := (List.getElem?_eq_some_iff.1 h).1
  unfold mid
  rw [List.getElem?_append_left (by simp; omega), List.getElem?_take, if_pos (by omega), h]
theorem mid_set {α : Type} {S C : List α} {x y : α} {j : Nat} (h : S[j]? = some y) : ((mid S x (j + 1) C).set (j + 1) y).set j x = mid S x j C := by
  obtain ⟨hj, rfl⟩ := List.getElem?_eq_some_iff.1 h
  unfold mid
  have h1 : S.take (j + 1) = S.take j ++ [S[j]] := by rw [List.take_succ_eq_append_getElem hj]
  have hl : (S.take j).length = j := by simp; omega
  rw [h1, List.append_assoc]
  rw [List.set_append_right _ _ (by omega), hl, show j + 1 - j = 1 by omega]
  rw [List.set_append_right _ _ (by omega), hl, show j - j = 0 by omega]
  show S.take j ++ x :: S[j] :: (S.drop (j + 1) ++ C) = S.take j ++ x :: (S.drop j ++ C)
  rw [List.drop_eq_getElem_cons hj]
  rfl
theorem mid_set' {α : Type} {S C : List α} {x y : α} {j : Nat} (h : S[j]? = some y) : ((mid S x (j + 1) C).set j x).set (j + 1) y = mid S x j C := by
  rw [← mid_set h (x := x) (C := C), List.set_comm _ _ (by omega)]
theorem mid_length {α : Type} {S C : List α} {x : α} {j : Nat} (h : j ≤ S.length) : (mid S x j C).length = S.length + 1 + C.length := by
  unfold mid; simp; omega
theorem mid_start {α : Type} (S C : List α) (x : α) : mid S x S.length C = S ++ x :: C := by simp [mid]
theorem mid_end {α : Type} (S C : List α) (x : α) (j : Nat) : mid S x j C = (mid S x j []) ++ C := by simp [mid]
theorem mid_perm {α : Type} (S : List α) (x : α) (j : Nat) : (mid S x j []).Perm (S ++ [x]) := by
  unfold mid
  rw [List.append_nil]
  refine (List.perm_middle).trans ?_
  rw [List.take_append_drop]
  exact (List.perm_append_singleton x S).symm
/-- It has found its place. -/
theorem mid_sorted {α : Type} {R : α → α → Prop} {S : List α} {x : α} {j : Nat} (h : S.Pairwise R) (h1 : ∀ (t : Nat) y, t < j → S[t]? = some y → R y x) (h2 : ∀ (t : Nat) y, j ≤ t → S[t]? = some y → R x y) : (mid S x j []).Pairwise R := by
  unfold mid
  rw [List.append_nil, List.pairwise_append, List.pairwise_cons]
  rw [← List.take_append_drop j S, List.pairwise_append] at h
  have ht : ∀ a ∈ S.take j, R a x := fun a ha => by
    obtain ⟨t, htj, rfl⟩ := List.getElem_of_mem ha
    rw [List.getElem_take]
    rw [List.length_take] at htj
    exact h1 t _ (by omega) (by simp)
  have hd : ∀ a ∈ S.drop j, R x a := fun a ha => by
    obtain ⟨t, htj, rfl⟩ := List.getElem_of_mem ha
    rw [List.getElem_drop]
    rw [List.length_drop] at htj
    exact h2 (j + t) _ (by omega) (by simp)
  refine ⟨h.1, ⟨hd, h.2.1⟩, fun a ha b hb => ?_⟩
  rcases List.mem_cons.1 hb with rfl | hb
  · exact ht a ha
  · exact h.2.2 a ha b hb
/-! ### Sorted lists are the same -/
theorem asc_eq {l m : List Int} (hp : l.Perm m) (hl : l.Pairwise (· < ·)) (hm : m.Pairwise (· < ·)) : l = m := by
  induction l generalizing m with
  | nil => exact (List.nil_perm.1 hp).symm
  | cons x l ih =>
    cases m with
    | nil => exact absurd (List.perm_nil.1 hp) (by simp)
    | cons y m =>
      rw [List.pairwise_cons] at hl hm
      have hxy : x = y := by
        rcases List.mem_cons.1 (hp.mem_iff.1 (List.mem_cons_self (a := x) (l := l))) with h | h
        · exact h
        · rcases List.mem_cons.1 (hp.mem_iff.2 (List.mem_cons_self (a := y) (l := m))) with h2 | h2
          · exact h2.symm
          · have a1 := hm.1 x h
            have a2 := hl.1 y h2
            omega
      subst hxy
      rw [ih (List.Perm.cons_inv hp) hl.2 hm.2]
/-! ### Sums and counts, one further -/
theorem sum_snoc (l : List Int) (x : Int) : (l ++ [x]).sum = l.sum + x := by simp
theorem take_sum {P : List Int} {a j : Nat} {x : Int} (h : P[a + j]? = some x) : ((P.drop a).take (j + 1)).sum = ((P.drop a).take j).sum + x := by
  rw [List.take_add_one, List.getElem?_drop, h]
  simp
theorem take_sum_none {P : List Int} {a j : Nat} (h : P.length ≤ a + j) : ((P.drop a).take (j + 1)).sum = ((P.drop a).take j).sum := by
  rw [List.take_add_one, List.getElem?_drop, List.getElem?_eq_none h]
  simp
theorem countP_take {α : Type} {p : α → Bool} {l : List α} {i : Nat} {x : α} (h : l[i]? = some x) : (l.take (i + 1)).countP p = (l.take i).countP p + (match p x with | true => 1 | false => 0) := by
  rw [List.take_add_one, h, List.countP_append]
  cases hpx : p x <;> simp [hpx]
theorem countP_range {p : Nat → Bool} {i : Nat} : (List.range (i + 1)).countP p = (List.range i).countP p + (match p i with | true => 1 | false => 0) := by
  rw [List.range_succ, List.countP_append]
  cases h : p i <;> simp [h]
theorem filter_range {p : Nat → Bool} {i : Nat} : (List.range (i + 1)).filter p = (List.range i).filter p ++ (match p i with | true => [i] | false => []) := by
  rw [List.range_succ, List.filter_append]
  cases h : p i <;> simp [h]
/-! ### A cup that is in order -/
structure Ok (nn rr bb : Int) (P : List Int) (D : List (List Int)) : Prop where
  sk : 1 ≤ nn ∧ nn ≤ 12
  rc : 1 ≤ rr ∧ rr ≤ 20
  bs : 1 ≤ bb ∧ bb ≤ rr
  pts : 1 ≤ P.length ∧ P.length ≤ 60
  done : (D.length : Int) ≤ rr
  rows : ∀ r ∈ D, (r.length : Int) = nn
  pr : ∀ x ∈ P, 0 ≤ x ∧ x ≤ 1000
  plr : ∀ r ∈ D, ∀ q ∈ r, 0 ≤ q ∧ q ≤ 60
  falls : ∀ (i : Nat) x y, P[i]? = some x → P[i + 1]? = some y → y ≤ x
  last : ∀ r ∈ D, ∀ p ∈ r, p ≠ 0 → p + shr r p - 1 ≤ 60
  free : ∀ r ∈ D, ∀ p ∈ r, p ≠ 0 → ∀ q ∈ r, p < q → p + shr r p - 1 < q
theorem falls_first {P : List Int} (h : ∀ (i : Nat) x y, P[i]? = some x → P[i + 1]? = some y → y ≤ x) : ∀ (i : Nat) x, P[i]? = some x → x ≤ (P[0]?).getD 0
  | 0, x, hx => by rw [hx]; exact Int.le_refl _
  | i + 1, x, hx => by
    have hi : i < P.length := by have := (List.getElem?_eq_some_iff.1 hx).1; omega
    have hy : P[i]? = some P[i] := by simp
    have h1 := h i _ x hy hx
    have h2 := falls_first h i _ hy
    omega
theorem Ok.vp {sk rc bs : Int} {P : List Int} {D : List (List Int)} (O : Ok sk rc bs P D) : VP P where
  ne := by have := O.pts; omega
  le := fun x hx => ⟨(O.pr x hx).1, by
    obtain ⟨i, hi⟩ := List.getElem?_of_mem hx
    exact falls_first O.falls i x hi⟩
theorem Ok.vr {sk rc bs : Int} {P : List Int} {D : List (List Int)} (O : Ok sk rc bs P D) : VR sk.toNat D := fun r hr => ⟨by have := O.rows r hr; omega, O.plr r hr⟩
theorem Ok.less {sk rc bs : Int} {P : List Int} {D E : List (List Int)} (O : Ok sk rc bs P (D ++ E)) : Ok sk rc bs P D where
  sk := O.sk
  rc := O.rc
  bs := O.bs
  pts := O.pts
  done := by have := O.done; rw [List.length_append] at this; omega
  rows := fun r hr => O.rows r (by simp [hr])
  pr := O.pr
  plr := fun r hr => O.plr r (by simp [hr])
  falls := O.falls
  last := fun r hr => O.last r (by simp [hr])
  free := fun r hr => O.free r (by simp [hr])
theorem Ok.won {sk rc bs : Int} {P : List Int} {D : List (List Int)} (O : Ok sk rc bs P D) {s k : Nat} (hs : s < sk.toNat) (hk : (k : Int) = rc - D.length) : Ok sk rc bs P (D ++ won sk.toNat s k) where
  sk := O.sk
  rc := O.rc
  bs := O.bs
  pts := O.pts
  done := by have := O.done; rw [List.length_append]; simp [Cw.won]; omega
  rows := fun r hr => by
    have := O.sk
    rcases List.mem_append.1 hr with h | h
    · exact O.rows r h
    · obtain rfl := List.eq_of_mem_replicate h; rw [wrow_length]; omega
  pr := O.pr
  plr := fun r hr => by
    rcases List.mem_append.1 hr with h | h
    · exact O.plr r h
    · exact (vr_won _ _ _ r h).2
  falls := O.falls
  last := fun r hr p hp h0 => by
    rcases List.mem_append.1 hr with h | h
    · exact O.last r h p hp h0
    · obtain rfl := List.eq_of_mem_replicate h
      rcases List.mem_or_eq_of_mem_set hp with h1 | h1
      · exact absurd (List.eq_of_mem_replicate h1) h0
      · subst h1; rw [shr_wrow hs]; omega
  free := fun r hr p hp h0 q hq hpq => by
    rcases List.mem_append.1 hr with h | h
    · exact O.free r h p hp h0 q hq hpq
    · obtain rfl := List.eq_of_mem_replicate h
      have k1 : p = 1 := by
        rcases List.mem_or_eq_of_mem_set hp with h1 | h1
        · exact absurd (List.eq_of_mem_replicate h1) h0
        · exact h1
      rcases List.mem_or_eq_of_mem_set hq with h1 | h1
      · have := List.eq_of_mem_replicate h1; omega
      · omega
/-! ### Ranks -/
def btrB (P : List Int) (b : Nat) (R : List (List Int)) (o s : Nat) : Bool := if Tt P b R o = Tt P b R s then lexB (plc R o) (plc R s) 60 1 else decide (Tt P b R s < Tt P b R o)
theorem btrB_iff {P : List Int} {b : Nat} {R : List (List Int)} {o s : Nat} : btrB P b R o s = true ↔ Btr P b R o s := by
  unfold btrB Btr
  split
  · rename_i h
    rw [gt_iff]
    constructor
    · exact fun hg => .inr ⟨h.symm, hg⟩
    · rintro (h1 | ⟨_, h1⟩)
      · omega
      · exact h1
  · rename_i h
    rw [decide_eq_true_iff]
    constructor
    · exact .inl
    · rintro (h1 | ⟨h1, _⟩)
      · exact h1
      · exact absurd h1.symm h
theorem btrB_self (P : List Int) (b : Nat) (R : List (List Int)) (s : Nat) : btrB P b R s s = false := by
  cases h : btrB P b R s s
  · rfl
  · exact absurd (btrB_iff.1 h) (btr_irr _ _ _ _)
def rnk (P : List Int) (b : Nat) (R : List (List Int)) (n s : Nat) : Nat := (List.range n).countP fun o => btrB P b R o s
theorem rnk_zero {P : List Int} {b n s : Nat} {R : List (List Int)} : rnk P b R n s = 0 ↔ Fst P b n R s := by
  unfold rnk Fst
  rw [List.countP_eq_zero]
  simp only [List.mem_range]
  constructor
  · exact fun h o ho hb => h o ho (btrB_iff.2 hb)
  · exact fun h o ho hb => h o ho (btrB_iff.1 hb)
end Go.Proofs.Cw
end
section
/-
  TopDecidedEarly: the plain law of who can be first, and when it is decided, as lists.
-/
namespace Go.Proofs.Cw
set_option maxRecDepth 100000
section
variable (P : List Int) (b n rc : Nat)
def isCan (D : List (List Int)) (s : Nat) : Bool := decide (rnk P b (D ++ won n s (rc - D.length)) n s = 0)
/-- Somebody else who can be ahead. -/
def isAg (D : List (List Int)) (s t : Nat) : Bool := !decide (t = s) && !decide (rnk P b (D ++ won n t (rc - D.length)) n s = 0)
def isSure (D : List (List Int)) (s : Nat) : Bool := !(List.range n).any (isAg P b n rc D s)
def canL (D : List (List Int)) : List Nat := (List.range n).filter (isCan P b n rc D)
def sureL (D : List (List Int)) : List Nat := (List.range n).filter (isSure P b n rc D)
/-- It is decided. -/
def decB (D : List (List Int)) : Bool := decide (0 < (sureL P b n rc D).length) && decide ((canL P b n rc D).length = 1)
end
section
variable {P : List Int} {b n rc : Nat} {D : List (List Int)}
theorem can_iff {s : Nat} : isCan P b n rc D s = true ↔ Can P b n D (rc - D.length) s := by
  unfold isCan Can
  rw [decide_eq_true_iff, rnk_zero]
theorem ag_iff {s t : Nat} : isAg P b n rc D s t = true ↔ t ≠ s ∧ ¬ Fst P b n (D ++ won n t (rc - D.length)) s := by
  unfold isAg
  rw [← rnk_zero]
  simp
theorem sure_iff {s : Nat} : isSure P b n rc D s = true ↔ Sure P b n D (rc - D.length) s := by
  unfold isSure Sure
  rw [Bool.not_eq_true', ← Bool.not_eq_true, List.any_eq_true]
  constructor
  · intro h t ht hts
    refine Classical.byContradiction fun hf => h ⟨t, List.mem_range.2 ht, ag_iff.2 ⟨hts, hf⟩⟩
  · rintro h ⟨t, ht, ha⟩
    obtain ⟨h1, h2⟩ := ag_iff.1 ha
    exact h2 (h t (List.mem_range.1 ht) h1)
theorem mem_can {s : Nat} : s ∈ canL P b n rc D ↔ s < n ∧ Can P b n D (rc - D.length) s := by
  unfold canL
  rw [List.mem_filter, List.mem_range, can_iff]
theorem mem_sure {s : Nat} : s ∈ sureL P b n rc D ↔ s < n ∧ Sure P b n D (rc - D.length) s := by
  unfold sureL
  rw [List.mem_filter, List.mem_range, sure_iff]
theorem filter_single {p : Nat → Bool} : ∀ {n s : Nat}, s < n → p s = true → (∀ t, t < n → p t = true → t = s) → (List.range n).filter p = [s]
  | n + 1, s, h1, h2, h3 => by
    rw [filter_range]
    by_cases hs : s = n
    · subst hs
      rw [h2]
      have : (List.range s).filter p = [] := List.filter_eq_nil_iff.2 fun t ht hp => by
        have := List.mem_range.1 ht
        have := h3 t (by omega) hp
        omega
      rw [this]; rfl
    · have hn : p n = false := by
        cases hp : p n
        · rfl
        · exact absurd (h3 n (by omega) hp).symm hs
      rw [hn, filter_single (n := n) (s := s) (by omega) h2 fun t ht hp => h3 t (by omega) hp]
      rfl
variable (V : VP P)
include V
theorem can_ne (hn : 0 < n) : canL P b n rc D ≠ [] := by
  obtain ⟨s, h1, h2⟩ := can_ex (D := D) (k := rc - D.length) (b := b) V hn
  intro h
  have := mem_can.2 ⟨h1, h2⟩
  rw [h] at this
  cases this
/-- What was decided is so at the end. -/
theorem dec_end {m : Nat} (hV : VR n D) (hr : D.length ≤ rc) (h : decB P b n rc (D.take m) = true) {s : Nat} {l : List Nat} (hs : sureL P b n rc (D.take m) = s :: l) :
    canL P b n rc D = [s] ∧ sureL P b n rc D = [s] := by
  have hlen : (D.drop m).length + (rc - D.length) = rc - (D.take m).length := by simp; omega
  have hE : VR n (D.drop m) := fun r hr => hV r (List.mem_of_mem_drop hr)
  have hs1 : s ∈ sureL P b n rc (D.take m) := by rw [hs]; simp
  obtain ⟨hsn, hS⟩ := mem_sure.1 hs1
  have hc1 : s ∈ canL P b n rc (D.take m) := mem_can.2 ⟨hsn, sure_can V hsn hS⟩
  unfold decB at h
  rw [Bool.and_eq_true, decide_eq_true_iff, decide_eq_true_iff] at h
  have hcl : canL P b n rc (D.take m) = [s] := by
    match hl : canL P b n rc (D.take m), h.2 with
    | [c], _ => rw [hl] at hc1; simp at hc1; rw [hc1]
  have hD : D = D.take m ++ D.drop m := (List.take_append_drop m D).symm
  have hS2 : Sure P b n D (rc - D.length) s := by
    have := sure_more (D := D.take m) (k := rc - D.length) V hE hsn (by rw [hlen]; exact hS)
    rwa [← hD] at this
  have hall : ∀ t, t < n → Can P b n D (rc - D.length) t → t = s := fun t ht hc => by
    have h2 := can_less (D := D.take m) (E := D.drop m) (k := rc - D.length) V hE ht (by rw [← hD]; exact hc)
    rw [hlen] at h2
    have h3 : t ∈ canL P b n rc (D.take m) := mem_can.2 ⟨ht, h2⟩
    rw [hcl] at h3
    simpa using h3
  exact ⟨filter_single hsn (can_iff.2 (sure_can V hsn hS2)) fun t ht hp => hall t ht (can_iff.1 hp),
    filter_single hsn (sure_iff.2 hS2) fun t ht hp => hall t ht (sure_can V ht (sure_iff.1 hp))⟩
end
/-! ### A sorted race does not clash -/
theorem scr_le {P race : List Int} (V : VP P) (h1 : ∀ x ∈ P, x ≤ 1000) {s : Nat} (h : s < race.length) : 0 ≤ scr P race s ∧ scr P race s ≤ 1000 := by
  have h2 := scr_bound V h
  have hx : P[0]? = some (P[0]'V.ne) := List.getElem?_eq_getElem V.ne
  have := h1 (P[0]'V.ne) (by simp)
  rw [hx] at h2
  simp only [Option.getD_some] at h2
  omega
theorem Tt_le {P : List Int} {b n : Nat} {R : List (List Int)} (V : VP P) (h1 : ∀ x ∈ P, x ≤ 1000) (hV : VR n R) {s : Nat} (hs : s < n) : 0 ≤ Tt P b R s ∧ Tt P b R s ≤ R.length * 1000 := by
  unfold Tt tot
  have hb := sum_bound (m := 1000) ((ctd (fun j => scr P (row R j) s) R.length b).map fun j => scr P (row R j) s) fun x hx => by
    obtain ⟨j, hj, rfl⟩ := List.mem_map.1 hx
    unfold ctd at hj
    have hj := List.mem_range.1 (List.mem_filter.1 hj).1
    exact scr_le V h1 (by rw [(hV _ (row_mem hj)).1]; exact hs)
  have hl : (ctd (fun j => scr P (row R j) s) R.length b).length ≤ R.length := by
    unfold ctd
    have := List.length_filter_le (fun i => decide (rk (fun j => scr P (row R j) s) R.length i < b)) (List.range R.length)
    simpa using this
  rw [List.length_map] at hb
  have : ((ctd (fun j => scr P (row R j) s) R.length b).length : Int) * 1000 ≤ R.length * 1000 := by omega
  omega
end Go.Proofs.Cw
end
section
/-
  TopDecidedEarly: a race of a cup that is in order does not clash.
-/
namespace Go.Proofs.Cw
set_option maxRecDepth 100000
/-- A race in order. -/
structure RaceOk (r : List Int) : Prop where
  plr : ∀ q ∈ r, 0 ≤ q ∧ q ≤ 60
  last : ∀ p ∈ r, p ≠ 0 → p + shr r p - 1 ≤ 60
  free : ∀ p ∈ r, p ≠ 0 → ∀ q ∈ r, p < q → p + shr r p - 1 < q
theorem Ok.race {sk rc bs : Int} {P : List Int} {D : List (List Int)} (O : Ok sk rc bs P D) {r : List Int} (hr : r ∈ D) : RaceOk r := ⟨O.plr r hr, O.last r hr, O.free r hr⟩
def nz (r : List Int) : List Int := r.filter fun p => !decide (p = 0)
theorem mem_nz {r : List Int} {p : Int} : p ∈ nz r ↔ p ∈ r ∧ p ≠ 0 := by simp [nz]
section
variable {r l : List Int} (O : RaceOk r) (hp : l.Perm (nz r)) (hs : l.Pairwise (· ≤ ·))
include O hp
theorem cl_mem {i : Nat} {p : Int} (h : l[i]? = some p) : p ∈ r ∧ p ≠ 0 ∧ 1 ≤ p ∧ p ≤ 60 := by
  obtain ⟨h1, h2⟩ := mem_nz.1 (hp.mem_iff.1 (List.mem_of_getElem? h))
  have := O.plr p h1
  exact ⟨h1, h2, by omega, this.2⟩
omit O in
theorem cl_cnt (p : Int) (i : Nat) : (l.take i).countP (fun q => decide (q = p)) ≤ shr r p := by
  refine Nat.le_trans (List.Sublist.countP_le (List.take_sublist i l)) ?_
  rw [hp.countP_eq]
  exact List.Sublist.countP_le List.filter_sublist
include hs
theorem cl_next {i : Nat} {p q : Int} (h : l[i]? = some p) (h2 : l[i + 1]? = some q) (hpq : p ≠ q) : p + ((l.take (i + 1)).countP (fun x => decide (x = p)) : Nat) ≤ q := by
  have m1 := cl_mem O hp h
  have m2 := cl_mem O hp h2
  obtain ⟨hi, rfl⟩ := List.getElem?_eq_some_iff.1 h
  obtain ⟨hi2, rfl⟩ := List.getElem?_eq_some_iff.1 h2
  have hle := List.pairwise_iff_getElem.1 hs i (i + 1) hi hi2 (by omega)
  have := O.free _ m1.1 m1.2.1 _ m2.1 (by omega)
  have := cl_cnt hp l[i] (i + 1)
  omega
omit hs
theorem cl_end {i : Nat} {p : Int} (h : l[i]? = some p) : p + ((l.take (i + 1)).countP (fun x => decide (x = p)) : Nat) ≤ 61 := by
  have m1 := cl_mem O hp h
  have := O.last _ m1.1 m1.2.1
  have := cl_cnt hp p (i + 1)
  omega
end
end Go.Proofs.Cw
end
