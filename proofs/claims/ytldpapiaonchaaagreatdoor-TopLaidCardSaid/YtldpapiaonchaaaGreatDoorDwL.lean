/-
  TopLaid: the plain law of assignments: lanes that are short, what lanes show, and the search for one hit more.
-/

section
namespace Go.Proofs.Dw
set_option maxRecDepth 100000
def sumR (L : Nat) (f : Nat → Int) : Int := ((List.range L).map f).sum
theorem sumR_succ (L : Nat) (f : Nat → Int) : sumR (L + 1) f = sumR L f + f L := by
  unfold sumR; rw [List.range_succ]; simp
theorem sumR_congr {f g : Nat → Int} : ∀ {L : Nat}, (∀ q, q < L → f q = g q) → sumR L f = sumR L g
  | 0, _ => rfl
  | L + 1, h => by rw [sumR_succ, sumR_succ, sumR_congr fun q hq => h q (by omega), h L (by omega)]
theorem sumR_le {f g : Nat → Int} : ∀ {L : Nat}, (∀ q, q < L → f q ≤ g q) → sumR L f ≤ sumR L g
  | 0, _ => Int.le_refl _
  | L + 1, h => by
    have h1 := sumR_le (L := L) fun q hq => h q (by omega)
    have h2 := h L (by omega)
    rw [sumR_succ, sumR_succ]; omega
theorem sumR_lt {f g : Nat → Int} {k : Nat} : ∀ {L : Nat}, k < L → (∀ q, q < L → f q ≤ g q) → f k < g k → sumR L f < sumR L g
  | 0, hk, _, _ => absurd hk (by omega)
  | L + 1, hk, h, hlt => by
    rw [sumR_succ, sumR_succ]
    have h2 := h L (by omega)
    by_cases hkL : k = L
    · subst hkL
      have h1 := sumR_le (L := k) fun q hq => h q (by omega)
      omega
    · have h1 := sumR_lt (L := L) (by omega) (fun q hq => h q (by omega)) hlt
      omega
theorem sumR_add (f g : Nat → Int) : ∀ L, sumR L (fun q => f q + g q) = sumR L f + sumR L g
  | 0 => rfl
  | L + 1 => by rw [sumR_succ, sumR_succ, sumR_succ, sumR_add f g L]; omega
theorem sumR_sub (f g : Nat → Int) : ∀ L, sumR L (fun q => f q - g q) = sumR L f - sumR L g
  | 0 => rfl
  | L + 1 => by rw [sumR_succ, sumR_succ, sumR_succ, sumR_sub f g L]; omega
theorem sumR_zero : ∀ L, sumR L (fun _ => 0) = 0
  | 0 => rfl
  | L + 1 => by rw [sumR_succ, sumR_zero L]; rfl
theorem sumR_nonneg {f : Nat → Int} {L : Nat} (h : ∀ q, q < L → 0 ≤ f q) : 0 ≤ sumR L f := by
  have := sumR_le (L := L) (f := fun _ => 0) (g := f) h
  rw [sumR_zero] at this; exact this
theorem sumR_one (a : Int) (k : Nat) : ∀ L, sumR L (fun q => if q = k then a else 0) = if k < L then a else 0
  | 0 => by rw [if_neg (by omega)]; rfl
  | L + 1 => by
    rw [sumR_succ, sumR_one a k L]
    by_cases h : k < L
    · rw [if_pos h, if_neg (by omega), if_pos (by omega)]; omega
    · by_cases h2 : L = k
      · subst h2; simp
      · rw [if_neg h, if_neg h2, if_neg (by omega)]; rfl
theorem sumR_swap (f : Nat → Nat → Int) : ∀ n m, sumR n (fun s => sumR m (fun l => f s l)) = sumR m (fun l => sumR n (fun s => f s l))
  | 0, m => by
    have : sumR m (fun l => sumR 0 (fun s => f s l)) = sumR m (fun _ => 0) := sumR_congr fun _ _ => rfl
    rw [this, sumR_zero]; rfl
  | n + 1, m => by
    rw [sumR_succ, sumR_swap f n m]
    have : sumR m (fun l => sumR (n + 1) (fun s => f s l)) = sumR m (fun l => sumR n (fun s => f s l) + f n l) := sumR_congr fun _ _ => sumR_succ ..
    rw [this, sumR_add]
theorem sumR_part {f : Nat → Int} {k L : Nat} (hk : k < L) (h : ∀ q, q < L → 0 ≤ f q) : f k ≤ sumR L f := by
  have h1 := sumR_le (L := L) (f := fun q => if q = k then f k else 0) (g := f) fun q hq => by
    show (if q = k then f k else 0) ≤ f q
    by_cases hq2 : q = k
    · rw [if_pos hq2, hq2]; exact Int.le_refl _
    · rw [if_neg hq2]; exact h q hq
  rw [sumR_one, if_pos hk] at h1
  exact h1
section
variable (n : Nat) (S D : Nat → Int) (can : Nat → Nat → Prop)
/-- What is assigned, as far as targets of each lane are. -/
structure Part (F : Nat → Int) (h : Nat → Nat → Int) : Prop where
  pos : ∀ s l, s < n → l < n → 0 ≤ h s l
  can : ∀ s l, s < n → l < n → 0 < h s l → can s l
  row : ∀ s, s < n → sumR n (fun l => h s l) ≤ S s
  col : ∀ l, l < n → sumR n (fun s => h s l) = F l
abbrev Asg (h : Nat → Nat → Int) : Prop := Part n S can D h
open Classical in
/-- What is lacking at lanes, less what all but one skier can have hit of them. -/
noncomputable def lack (W : Nat → Prop) (but : Nat) : Int :=
  sumR n (fun l => if W l then D l else 0) - sumR n (fun s => if s ≠ but ∧ ∃ l, l < n ∧ W l ∧ can s l then S s else 0)
variable {n S D can}
open Classical in
theorem Part.own {F : Nat → Int} {h : Nat → Nat → Int} (A : Part n S can F h) (W : Nat → Prop) {s : Nat} (hs : s < n) : sumR n (fun l => if W l then h s l else 0) ≤ if (∃ l, l < n ∧ W l ∧ can s l) then S s else 0 := by
  by_cases hc : ∃ l, l < n ∧ W l ∧ can s l
  · rw [if_pos hc]
    refine Int.le_trans (sumR_le fun l hl => ?_) (A.row s hs)
    by_cases hW : W l
    · rw [if_pos hW]; exact Int.le_refl _
    · rw [if_neg hW]; exact A.pos s l hs hl
  · rw [if_neg hc]
    have : sumR n (fun l => if W l then h s l else 0) = sumR n (fun _ => 0) := sumR_congr fun l hl => by
      by_cases hW : W l
      · rw [if_pos hW]
        have h1 := A.pos s l hs hl
        have h2 : ¬ 0 < h s l := fun h3 => hc ⟨l, hl, hW, A.can s l hs hl h3⟩
        omega
      · rw [if_neg hW]
    rw [this, sumR_zero]; exact Int.le_refl _
open Classical in
/-- What lanes lack beside one skier, the skier has hit of them. -/
theorem Part.weak {h : Nat → Nat → Int} (A : Asg n S D can h) (W : Nat → Prop) (but : Nat) : lack n S D can W but ≤ if but < n then sumR n (fun l => if W l then h but l else 0) else 0 := by
  unfold lack
  have h1 : sumR n (fun l => if W l then D l else 0) = sumR n (fun s => sumR n (fun l => if W l then h s l else 0)) := by
    rw [sumR_swap]
    refine sumR_congr fun l hl => ?_
    by_cases hW : W l
    · simp only [if_pos hW]; exact (A.col l hl).symm
    · simp only [if_neg hW, sumR_zero]
  rw [h1]
  have h2 : sumR n (fun s => sumR n (fun l => if W l then h s l else 0)) ≤ sumR n (fun s => (if s ≠ but ∧ ∃ l, l < n ∧ W l ∧ can s l then S s else 0) + if s = but then sumR n (fun l => if W l then h but l else 0) else 0) := sumR_le fun s hs => by
    by_cases hb : s = but
    · subst hb
      rw [if_pos rfl, if_neg (fun h => h.1 rfl)]; omega
    · rw [if_neg hb]
      have := A.own W hs
      by_cases hc : ∃ l, l < n ∧ W l ∧ can s l
      · rw [if_pos hc] at this; rw [if_pos ⟨hb, hc⟩]; omega
      · rw [if_neg hc] at this; rw [if_neg (fun h => hc h.2)]; omega
  rw [sumR_add, sumR_one] at h2
  omega
theorem Part.short {h : Nat → Nat → Int} (A : Asg n S D can h) (W : Nat → Prop) : lack n S D can W n ≤ 0 := by
  have := A.weak W n
  rw [if_neg (by omega)] at this
  exact this
open Classical in
/-- What lanes show at least: a lane among them, no other of them in reach. -/
theorem Part.low {h : Nat → Nat → Int} (A : Asg n S D can h) (W : Nat → Prop) {s k : Nat} (hs : s < n) (hk : k < n) (ho : ∀ l, l < n → W l → l ≠ k → ¬ can s l) : lack n S D can W s ≤ h s k := by
  have h1 := A.weak W s
  rw [if_pos hs] at h1
  have h2 : sumR n (fun l => if W l then h s l else 0) ≤ sumR n (fun l => if l = k then h s k else 0) := sumR_le fun l hl => by
    by_cases hW : W l
    · rw [if_pos hW]
      by_cases hlk : l = k
      · rw [if_pos hlk, hlk]; exact Int.le_refl _
      · rw [if_neg hlk]
        have := A.can s l hs hl
        have h3 := ho l hl hW hlk
        by_cases h4 : 0 < h s l
        · exact absurd (this h4) h3
        · omega
    · rw [if_neg hW]
      by_cases hlk : l = k
      · rw [if_pos hlk]; exact A.pos s k hs hk
      · rw [if_neg hlk]; exact Int.le_refl _
  rw [sumR_one, if_pos hk] at h2
  omega
open Classical in
/-- What lanes show at most: the lane is not among them. -/
theorem Part.high {h : Nat → Nat → Int} (A : Asg n S D can h) (W : Nat → Prop) {s k : Nat} (hs : s < n) (hk : k < n) (ho : ¬ W k) : h s k ≤ S s - lack n S D can W s := by
  have h1 := A.weak W s
  rw [if_pos hs] at h1
  have h2 : sumR n (fun l => (if W l then h s l else 0) + if l = k then h s k else 0) ≤ sumR n (fun l => h s l) := sumR_le fun l hl => by
    by_cases hlk : l = k
    · subst hlk
      rw [if_neg ho, if_pos rfl]; omega
    · rw [if_neg hlk]
      by_cases hW : W l
      · rw [if_pos hW]; omega
      · rw [if_neg hW]; have := A.pos s l hs hl; omega
  rw [sumR_add, sumR_one, if_pos hk] at h2
  have h3 := A.row s hs
  omega
end
/-! ### One hit more -/
def upd (h : Nat → Nat → Int) (s l : Nat) (x : Int) : Nat → Nat → Int := fun s' l' => if s' = s ∧ l' = l then x else h s' l'
theorem upd_same (h : Nat → Nat → Int) (s l : Nat) (x : Int) : upd h s l x s l = x := if_pos ⟨rfl, rfl⟩
theorem upd_other {h : Nat → Nat → Int} {s l s' l' : Nat} {x : Int} (hn : ¬ (s' = s ∧ l' = l)) : upd h s l x s' l' = h s' l' := if_neg hn
theorem upd_row (h : Nat → Nat → Int) {s l n : Nat} (x : Int) (s' : Nat) (hl : l < n) : sumR n (fun q => upd h s l x s' q) = sumR n (fun q => h s' q) + if s' = s then x - h s l else 0 := by
  by_cases hs : s' = s
  · subst hs
    rw [if_pos rfl]
    have : sumR n (fun q => upd h s' l x s' q) = sumR n (fun q => h s' q + if q = l then x - h s' l else 0) := sumR_congr fun q _ => by
      unfold upd
      by_cases hq : q = l
      · subst hq; simp; omega
      · simp [hq]
    rw [this, sumR_add, sumR_one, if_pos hl]
  · rw [if_neg hs, Int.add_zero]
    exact sumR_congr fun q _ => upd_other fun h => hs h.1
theorem upd_col (h : Nat → Nat → Int) {s l n : Nat} (x : Int) (l' : Nat) (hs : s < n) : sumR n (fun q => upd h s l x q l') = sumR n (fun q => h q l') + if l' = l then x - h s l else 0 := by
  by_cases hl : l' = l
  · subst hl
    rw [if_pos rfl]
    have : sumR n (fun q => upd h s l' x q l') = sumR n (fun q => h q l' + if q = s then x - h s l' else 0) := sumR_congr fun q _ => by
      unfold upd
      by_cases hq : q = s
      · subst hq; simp; omega
      · simp [hq]
    rw [this, sumR_add, sumR_one, if_pos hs]
  · rw [if_neg hl, Int.add_zero]
    exact sumR_congr fun q _ => upd_other fun h => hl h.2
section
variable {n : Nat} {S : Nat → Int} {can : Nat → Nat → Prop}
theorem Part.set {F : Nat → Int} {h : Nat → Nat → Int} (A : Part n S can F h) {s l : Nat} {x : Int} (hs : s < n) (hl : l < n) (hx : 0 ≤ x) (hc : 0 < x → can s l) (hr : sumR n (fun q => h s q) + (x - h s l) ≤ S s) :
    Part n S can (fun q => F q + if q = l then x - h s l else 0) (upd h s l x) where
  pos := fun s' l' h1 h2 => by
    by_cases he : s' = s ∧ l' = l
    · rw [he.1, he.2, upd_same]; exact hx
    · rw [upd_other he]; exact A.pos s' l' h1 h2
  can := fun s' l' h1 h2 h3 => by
    by_cases he : s' = s ∧ l' = l
    · rw [he.1, he.2, upd_same] at h3; rw [he.1, he.2]; exact hc h3
    · rw [upd_other he] at h3; exact A.can s' l' h1 h2 h3
  row := fun s' h1 => by
    rw [upd_row h x s' hl]
    by_cases he : s' = s
    · subst he; rw [if_pos rfl]; exact hr
    · rw [if_neg he]; have := A.row s' h1; omega
  col := fun l' h1 => by
    rw [upd_col h x l' hs, A.col l' h1]
theorem Part.congr {F G : Nat → Int} {h : Nat → Nat → Int} (A : Part n S can F h) (hF : ∀ l, l < n → F l = G l) : Part n S can G h := ⟨A.pos, A.can, A.row, fun l hl => by rw [A.col l hl, hF l hl]⟩
/-- One hit more of a lane. -/
theorem Part.more {F : Nat → Int} {h : Nat → Nat → Int} (A : Part n S can F h) {s l : Nat} (hs : s < n) (hl : l < n) (hc : can s l) (hr : sumR n (fun q => h s q) < S s) :
    Part n S can (fun q => F q + if q = l then 1 else 0) (upd h s l (h s l + 1)) := by
  have h1 := A.pos s l hs hl
  refine (A.set (x := h s l + 1) hs hl (by omega) (fun _ => hc) (by omega)).congr fun q _ => ?_
  by_cases hq : q = l
  · simp only [if_pos hq]; omega
  · simp only [if_neg hq]
/-- A hit of another lane's becomes one of this lane's. -/
theorem Part.move {F : Nat → Int} {h : Nat → Nat → Int} {s q l : Nat} (A : Part n S can (fun p => F p + if p = q then 1 else 0) h) (hs : s < n) (hq : q < n) (hl : l < n) (hne : q ≠ l) (hc : can s l) (hp : 0 < h s q) :
    Part n S can (fun p => F p + if p = l then 1 else 0) (upd (upd h s q (h s q - 1)) s l (h s l + 1)) := by
  have h1 := A.pos s l hs hl
  have hr := A.row s hs
  have B := A.set (x := h s q - 1) hs hq (by omega) (fun _ => A.can s q hs hq hp) (by omega)
  have he : upd h s q (h s q - 1) s l = h s l := upd_other fun h => hne h.2.symm
  have C := B.set (s := s) (l := l) (x := h s l + 1) hs hl (by omega) (fun _ => hc) (by rw [upd_row h _ s hq, if_pos rfl, he]; omega)
  refine C.congr fun p _ => ?_
  rw [he]
  by_cases hp1 : p = q
  · subst hp1
    simp only [if_pos, if_neg hne]; omega
  · by_cases hp2 : p = l
    · simp only [if_pos hp2, if_neg hp1]; omega
    · simp only [if_neg hp2, if_neg hp1]; omega
end
/-- How far the search is: what is assigned, skiers and lanes that it met. -/
structure St where
  h : Nat → Nat → Int
  m0 : Nat → Prop
  m1 : Nat → Prop
section
variable (n : Nat) (S : Nat → Int) (can : Nat → Nat → Prop)
/-- A hit more was found for a lane. -/
structure Got (lane : Nat) (a b : St) : Prop where
  same : ∀ s, s < n → a.m0 s → ∀ l, l < n → b.h s l = a.h s l
  part : ∀ F, Part n S can F a.h → Part n S can (fun l => F l + if l = lane then 1 else 0) b.h
/-- None was found so far: of skiers below i. -/
structure Nay (lane i : Nat) (a b : St) : Prop where
  eq : ∀ s l, s < n → l < n → b.h s l = a.h s l
  up0 : ∀ s, a.m0 s → b.m0 s
  up1 : ∀ l, a.m1 l → b.m1 l
  own : b.m1 lane
  met : ∀ s, s < i → s < n → can s lane → b.m0 s
  lanes : ∀ l, l < n → b.m1 l → a.m1 l ∨ l = lane ∨ ∀ s, s < n → can s l → b.m0 s
  full : ∀ s, s < n → b.m0 s → a.m0 s ∨ (S s ≤ sumR n (fun l => a.h s l) ∧ ∀ l, l < n → 0 < a.h s l → b.m1 l)
/-- So far, while lanes of skier i are looked at: those below q. -/
structure Mid (lane i q : Nat) (a c : St) : Prop where
  eq : ∀ s l, s < n → l < n → c.h s l = a.h s l
  up0 : ∀ s, a.m0 s → c.m0 s
  up1 : ∀ l, a.m1 l → c.m1 l
  own : c.m1 lane
  met : ∀ s, s < i → s < n → can s lane → c.m0 s
  lanes : ∀ l, l < n → c.m1 l → a.m1 l ∨ l = lane ∨ ∀ s, s < n → can s l → c.m0 s
  full : ∀ s, s < n → c.m0 s → a.m0 s ∨ s = i ∨ (S s ≤ sumR n (fun l => a.h s l) ∧ ∀ l, l < n → 0 < a.h s l → c.m1 l)
  here : c.m0 i
  new : ¬ a.m0 i
  sat : S i ≤ sumR n (fun l => a.h i l)
  prog : ∀ l, l < q → l < n → 0 < a.h i l → c.m1 l
variable {n S can}
theorem Nay.start (a : St) (lane : Nat) : Nay n S can lane 0 a { a with m1 := fun l => a.m1 l ∨ l = lane } where
  eq := fun _ _ _ _ => rfl
  up0 := fun _ h => h
  up1 := fun _ h => .inl h
  own := .inr rfl
  met := fun s h => absurd h (by omega)
  lanes := fun l _ h => h.elim .inl fun h => .inr (.inl h)
  full := fun s _ h => .inl h
variable {lane i q : Nat} {a b c d : St}
theorem Nay.skip (h : Nay n S can lane i a b) (hi : can i lane → b.m0 i) : Nay n S can lane (i + 1) a b :=
  have hm : ∀ s, s < i + 1 → s < n → can s lane → b.m0 s := fun s h1 h2 h3 => by
    by_cases hs : s = i
    · subst hs; exact hi h3
    · exact h.met s (by omega) h2 h3
  { h with met := hm }
theorem Nay.enter (h : Nay n S can lane i a b) (hn : ¬ b.m0 i) (hs : S i ≤ sumR n (fun l => a.h i l)) : Mid n S can lane i 0 a { b with m0 := fun s => b.m0 s ∨ s = i } where
  eq := h.eq
  up0 := fun s h1 => .inl (h.up0 s h1)
  up1 := h.up1
  own := h.own
  met := fun s h1 h2 h3 => .inl (h.met s h1 h2 h3)
  lanes := fun l h1 h2 => (h.lanes l h1 h2).imp id (Or.imp id fun h3 s h4 h5 => .inl (h3 s h4 h5))
  full := fun s h1 h2 => h2.elim (fun h2 => (h.full s h1 h2).imp id .inr) fun h2 => .inr (.inl h2)
  here := .inr rfl
  new := fun h1 => hn (h.up0 i h1)
  sat := hs
  prog := fun l h1 => absurd h1 (by omega)
theorem Nay.hit (h : Nay n S can lane i a b) (hn : ¬ b.m0 i) (hi : i < n) (hl : lane < n) (hc : can i lane) (hs : sumR n (fun l => a.h i l) < S i) (hd : ∀ s l, s < n → l < n → d.h s l = upd b.h i lane (b.h i lane + 1) s l) : Got n S can lane a d where
  same := fun s h1 h2 l h3 => by
    rw [hd s l h1 h3, upd_other, h.eq s l h1 h3]
    exact fun h4 => hn (h4.1 ▸ h.up0 s h2)
  part := fun F A => by
    have B := A.more hi hl hc hs
    have he : ∀ s l, s < n → l < n → d.h s l = upd a.h i lane (a.h i lane + 1) s l := fun s l h1 h2 => by
      rw [hd s l h1 h2]; unfold upd; rw [h.eq i lane hi hl, h.eq s l h1 h2]
    exact ⟨fun s l h1 h2 => by rw [he s l h1 h2]; exact B.pos s l h1 h2, fun s l h1 h2 h3 => B.can s l h1 h2 (by rw [← he s l h1 h2]; exact h3),
      fun s h1 => by rw [sumR_congr fun l hl => he s l h1 hl]; exact B.row s h1, fun l h1 => by rw [sumR_congr fun s hs => he s l hs h1]; exact B.col l h1⟩
theorem Mid.skip (h : Mid n S can lane i q a c) (hq : q < n → 0 < a.h i q → c.m1 q) : Mid n S can lane i (q + 1) a c :=
  have hm : ∀ l, l < q + 1 → l < n → 0 < a.h i l → c.m1 l := fun l h1 h2 h3 => by
    by_cases hl : l = q
    · subst hl; exact hq h2 h3
    · exact h.prog l (by omega) h2 h3
  { h with prog := hm }
theorem Mid.no (h : Mid n S can lane i q a c) (h2 : Nay n S can q n c d) : Mid n S can lane i (q + 1) a d where
  eq := fun s l h3 h4 => (h2.eq s l h3 h4).trans (h.eq s l h3 h4)
  up0 := fun s h3 => h2.up0 s (h.up0 s h3)
  up1 := fun l h3 => h2.up1 l (h.up1 l h3)
  own := h2.up1 _ h.own
  met := fun s h3 h4 h5 => h2.up0 s (h.met s h3 h4 h5)
  lanes := fun l h3 h4 => by
    rcases h2.lanes l h3 h4 with h5 | h5 | h5
    · exact (h.lanes l h3 h5).imp id (Or.imp id fun h6 s h7 h8 => h2.up0 s (h6 s h7 h8))
    · subst h5; exact .inr (.inr fun s h6 h7 => h2.met s h6 h6 h7)
    · exact .inr (.inr h5)
  full := fun s h3 h4 => by
    have he : sumR n (fun l => c.h s l) = sumR n (fun l => a.h s l) := sumR_congr fun l hl => h.eq s l h3 hl
    rcases h2.full s h3 h4 with h5 | ⟨h5, h6⟩
    · exact (h.full s h3 h5).imp id (Or.imp id fun h7 => ⟨h7.1, fun l h8 h9 => h2.up1 l (h7.2 l h8 h9)⟩)
    · exact .inr (.inr ⟨by rw [← he]; exact h5, fun l h8 h9 => h6 l h8 (by rw [h.eq s l h3 h8]; exact h9)⟩)
  here := h2.up0 _ h.here
  new := h.new
  sat := h.sat
  prog := fun l h3 h4 h5 => by
    by_cases hl : l = q
    · subst hl; exact h2.own
    · exact h2.up1 l (h.prog l (by omega) h4 h5)
theorem Mid.done (h : Mid n S can lane i n a c) : Nay n S can lane (i + 1) a c where
  eq := h.eq
  up0 := h.up0
  up1 := h.up1
  own := h.own
  met := fun s h1 h2 h3 => by
    by_cases hs : s = i
    · subst hs; exact h.here
    · exact h.met s (by omega) h2 h3
  lanes := h.lanes
  full := fun s h1 h2 => by
    rcases h.full s h1 h2 with h3 | h3 | h3
    · exact .inl h3
    · subst h3; exact .inr ⟨h.sat, fun l h4 h5 => h.prog l h4 h4 h5⟩
    · exact .inr h3
theorem Mid.got (h : Mid n S can lane i q a c) (h2 : Got n S can q c b) (hi : i < n) (hq : q < n) (hl : lane < n) (hne : q ≠ lane) (hc : can i lane) (hp : 0 < a.h i q)
    (hd : ∀ s l, s < n → l < n → d.h s l = upd (upd b.h i q (b.h i q - 1)) i lane (b.h i lane + 1) s l) : Got n S can lane a d where
  same := fun s h1 h3 l h4 => by
    have hsi : s ≠ i := fun h5 => h.new (h5 ▸ h3)
    rw [hd s l h1 h4, upd_other (fun h5 => hsi h5.1), upd_other (fun h5 => hsi h5.1), h2.same s h1 (h.up0 s h3) l h4, h.eq s l h1 h4]
  part := fun F A => by
    have A' : Part n S can F c.h := ⟨fun s l h1 h3 => by rw [h.eq s l h1 h3]; exact A.pos s l h1 h3, fun s l h1 h3 h4 => A.can s l h1 h3 (by rw [← h.eq s l h1 h3]; exact h4),
      fun s h1 => by rw [sumR_congr fun l hl => h.eq s l h1 hl]; exact A.row s h1, fun l h1 => by rw [sumR_congr fun s hs => h.eq s l hs h1]; exact A.col l h1⟩
    have B := (h2.part F A').move (s := i) (q := q) (l := lane) hi hq hl hne hc (by rw [h2.same i hi h.here q hq, h.eq i q hi hq]; exact hp)
    exact ⟨fun s l h1 h3 => by rw [hd s l h1 h3]; exact B.pos s l h1 h3, fun s l h1 h3 h4 => B.can s l h1 h3 (by rw [← hd s l h1 h3]; exact h4),
      fun s h1 => by rw [sumR_congr fun l hl => hd s l h1 hl]; exact B.row s h1, fun l h1 => by rw [sumR_congr fun s hs => hd s l hs h1]; exact B.col l h1⟩
end
open Classical in
/-- No hit more is found: the lanes that were met are short. -/
theorem Nay.lack {n : Nat} {S D F : Nat → Int} {can : Nat → Nat → Prop} {lane : Nat} {a b : St} (h : Nay n S can lane n a b) (h0 : ∀ s, s < n → ¬ a.m0 s) (h1 : ∀ l, l < n → ¬ a.m1 l) (A : Part n S can F a.h) (hl : lane < n) (hF : ∀ l, l < n → F l ≤ D l) (hlt : F lane < D lane) :
    0 < lack n S D can (fun l => b.m1 l) n := by
  show 0 < sumR n (fun l => if b.m1 l then D l else 0) - sumR n (fun s => if s ≠ n ∧ ∃ l, l < n ∧ b.m1 l ∧ can s l then S s else 0)
  have hmet : ∀ s, s < n → (∃ l, l < n ∧ b.m1 l ∧ can s l) → b.m0 s := fun s hs ⟨l, h2, h3, h4⟩ => by
    rcases h.lanes l h2 h3 with h5 | h5 | h5
    · exact absurd h5 (h1 l h2)
    · subst h5; exact h.met s hs hs h4
    · exact h5 s hs h4
  have e1 : sumR n (fun s => if s ≠ n ∧ ∃ l, l < n ∧ b.m1 l ∧ can s l then S s else 0) ≤ sumR n (fun s => sumR n (fun l => if b.m1 l then a.h s l else 0)) := sumR_le fun s hs => by
    by_cases hc : s ≠ n ∧ ∃ l, l < n ∧ b.m1 l ∧ can s l
    · rw [if_pos hc]
      rcases h.full s hs (hmet s hs hc.2) with h5 | ⟨h5, h6⟩
      · exact absurd h5 (h0 s hs)
      · refine Int.le_trans h5 (sumR_le fun l hl => ?_)
        by_cases hp : 0 < a.h s l
        · rw [if_pos (h6 l hl hp)]; exact Int.le_refl _
        · have := A.pos s l hs hl
          by_cases hm : b.m1 l
          · rw [if_pos hm]; exact Int.le_refl _
          · rw [if_neg hm]; omega
    · rw [if_neg hc]
      refine sumR_nonneg fun l hl => ?_
      by_cases hm : b.m1 l
      · rw [if_pos hm]; exact A.pos s l hs hl
      · rw [if_neg hm]; exact Int.le_refl _
  have e2 : sumR n (fun s => sumR n (fun l => if b.m1 l then a.h s l else 0)) = sumR n (fun l => if b.m1 l then F l else 0) := by
    rw [sumR_swap]
    refine sumR_congr fun l hl => ?_
    by_cases hm : b.m1 l
    · simp only [if_pos hm]; exact A.col l hl
    · simp only [if_neg hm, sumR_zero]
  have e3 : sumR n (fun l => if b.m1 l then F l else 0) < sumR n (fun l => if b.m1 l then D l else 0) := sumR_lt hl (fun l hl => by
    by_cases hm : b.m1 l
    · simp only [if_pos hm]; exact hF l hl
    · simp only [if_neg hm]; exact Int.le_refl _) (by simp only [if_pos h.own]; exact hlt)
  omega
end Go.Proofs.Dw
end
section
/-
  TopLaid: the plain law of one skier and one lane: hits that are set apart, and the ends of their span.
-/
namespace Go.Proofs.Dw
set_option maxRecDepth 100000
/-- What is left of shots, of targets, of whom can have hit what, if a skier has hit a lane so often. -/
def wS (S : Nat → Int) (s : Nat) (x : Int) : Nat → Int := fun q => if q = s then S q - x else S q
def wC (can : Nat → Nat → Prop) (s k : Nat) : Nat → Nat → Prop := fun q l => can q l ∧ ¬ (q = s ∧ l = k)
section
variable {n : Nat} {S D : Nat → Int} {can : Nat → Nat → Prop} {s k : Nat} {x : Int}
theorem wo_to {h : Nat → Nat → Int} (A : Asg n (wS S s x) (wS D k x) (wC can s k) h) (hs : s < n) (hk : k < n) (hx : 0 ≤ x) (hc : 0 < x → can s k) : Asg n S D can (upd h s k x) := by
  have h0 : h s k = 0 := by
    have h1 := A.pos s k hs hk
    have h2 : ¬ 0 < h s k := fun h3 => (A.can s k hs hk h3).2 ⟨rfl, rfl⟩
    omega
  refine ⟨fun q l h1 h2 => ?_, fun q l h1 h2 h3 => ?_, fun q h1 => ?_, fun l h1 => ?_⟩
  · by_cases he : q = s ∧ l = k
    · rw [he.1, he.2, upd_same]; exact hx
    · rw [upd_other he]; exact A.pos q l h1 h2
  · by_cases he : q = s ∧ l = k
    · rw [he.1, he.2, upd_same] at h3; rw [he.1, he.2]; exact hc h3
    · rw [upd_other he] at h3; exact (A.can q l h1 h2 h3).1
  · rw [upd_row h x q hk, h0]
    have := A.row q h1
    unfold wS at this
    by_cases he : q = s
    · rw [if_pos he] at this ⊢; omega
    · rw [if_neg he] at this ⊢; omega
  · rw [upd_col h x l hs, h0, A.col l h1]
    unfold wS
    by_cases he : l = k
    · rw [if_pos he, if_pos he]; omega
    · rw [if_neg he, if_neg he]; omega
theorem wo_from {h : Nat → Nat → Int} (A : Asg n S D can h) (hs : s < n) (hk : k < n) : Asg n (wS S s (h s k)) (wS D k (h s k)) (wC can s k) (upd h s k 0) := by
  refine ⟨fun q l h1 h2 => ?_, fun q l h1 h2 h3 => ?_, fun q h1 => ?_, fun l h1 => ?_⟩
  · by_cases he : q = s ∧ l = k
    · rw [he.1, he.2, upd_same]; exact Int.le_refl _
    · rw [upd_other he]; exact A.pos q l h1 h2
  · by_cases he : q = s ∧ l = k
    · rw [he.1, he.2, upd_same] at h3; omega
    · rw [upd_other he] at h3; exact ⟨A.can q l h1 h2 h3, he⟩
  · rw [upd_row h 0 q hk]
    have := A.row q h1
    unfold wS
    by_cases he : q = s
    · subst he; simp only [if_true]; omega
    · rw [if_neg he, if_neg he]; omega
  · rw [upd_col h 0 l hs, A.col l h1]
    unfold wS
    by_cases he : l = k
    · subst he; simp only [if_true]; omega
    · rw [if_neg he, if_neg he]; omega
theorem wo_same (x : Int) (h : Nat → Nat → Int) : upd h s k x s k = x := upd_same ..
open Classical in
theorem lack_wo (W : Nat → Prop) (hs : s < n) (hk : k < n) :
    lack n (wS S s x) (wS D k x) (wC can s k) W n = lack n S D can W s - (if W k then x else 0) - (if ∃ l, l < n ∧ W l ∧ l ≠ k ∧ can s l then S s - x else 0) := by
  unfold lack
  have e1 : sumR n (fun l => if W l then wS D k x l else 0) = sumR n (fun l => (if W l then D l else 0) + if l = k then (if W k then -x else 0) else 0) := sumR_congr fun l _ => by
    unfold wS
    by_cases hl : l = k
    · subst hl
      by_cases hW : W l
      · simp only [if_pos hW, if_true]; omega
      · simp only [if_neg hW, if_true]; omega
    · simp only [if_neg hl, Int.add_zero]
  have e2 : sumR n (fun q => if q ≠ n ∧ ∃ l, l < n ∧ W l ∧ wC can s k q l then wS S s x q else 0) = sumR n (fun q => (if q ≠ s ∧ ∃ l, l < n ∧ W l ∧ can q l then S q else 0) + if q = s then (if ∃ l, l < n ∧ W l ∧ l ≠ k ∧ can s l then S s - x else 0) else 0) := sumR_congr fun q hq => by
    have hqn : q ≠ n := by omega
    by_cases hqs : q = s
    · subst hqs
      have hiff : (q ≠ n ∧ ∃ l, l < n ∧ W l ∧ wC can q k q l) ↔ ∃ l, l < n ∧ W l ∧ l ≠ k ∧ can q l :=
        ⟨fun ⟨_, l, h1, h2, h3, h4⟩ => ⟨l, h1, h2, fun h5 => h4 ⟨rfl, h5⟩, h3⟩, fun ⟨l, h1, h2, h3, h4⟩ => ⟨hqn, l, h1, h2, h4, fun h5 => h3 h5.2⟩⟩
      unfold wS
      simp only [hiff, if_true, ne_eq, not_true_eq_false, false_and, if_false, Int.zero_add]
    · have hiff : (q ≠ n ∧ ∃ l, l < n ∧ W l ∧ wC can s k q l) ↔ (q ≠ s ∧ ∃ l, l < n ∧ W l ∧ can q l) :=
        ⟨fun ⟨_, l, h1, h2, h3, _⟩ => ⟨hqs, l, h1, h2, h3⟩, fun ⟨_, l, h1, h2, h3⟩ => ⟨hqn, l, h1, h2, h3, fun h5 => hqs h5.1⟩⟩
      unfold wS
      simp only [hiff, if_neg hqs, Int.add_zero]
  rw [e1, e2, sumR_add, sumR_add, sumR_one, sumR_one, if_pos hs, if_pos hk]
  by_cases hW : W k
  · simp only [if_pos hW]; omega
  · simp only [if_neg hW]; omega
open Classical in
theorem weak_le {h : Nat → Nat → Int} (A : Asg n S D can h) (W : Nat → Prop) (hs : s < n) : lack n S D can W s ≤ S s := by
  have h1 := A.weak W s
  rw [if_pos hs] at h1
  have h2 := A.own W hs
  have h3 := A.row s hs
  have h4 : 0 ≤ sumR n (fun l => h s l) := sumR_nonneg fun l hl => A.pos s l hs hl
  by_cases hc : ∃ l, l < n ∧ W l ∧ can s l
  · rw [if_pos hc] at h2; omega
  · rw [if_neg hc] at h2; omega
open Classical in
theorem weak_zero {h : Nat → Nat → Int} (A : Asg n S D can h) (W : Nat → Prop) (hs : s < n) (hc : ∀ l, l < n → W l → ¬ can s l) : lack n S D can W s ≤ 0 := by
  have h1 := A.weak W s
  rw [if_pos hs] at h1
  have h2 := A.own W hs
  rw [if_neg (fun ⟨l, h3, h4, h5⟩ => hc l h3 h4 h5)] at h2
  omega
/-- Lanes that are short if there were one hit less show the least hits. -/
theorem low_end {h : Nat → Nat → Int} (A : Asg n S D can h) (W : Nat → Prop) (hs : s < n) (hk : k < n) (hx : h s k = x + 1) (hl : 0 < lack n (wS S s x) (wS D k x) (wC can s k) W n) :
    W k ∧ (∀ l, l < n → W l → l ≠ k → ¬ can s l) ∧ lack n S D can W s = x + 1 := by
  rw [lack_wo W hs hk] at hl
  have h1 := weak_le A W hs
  by_cases hW : W k
  · rw [if_pos hW] at hl
    by_cases hc : ∃ l, l < n ∧ W l ∧ l ≠ k ∧ can s l
    · rw [if_pos hc] at hl; omega
    · rw [if_neg hc] at hl
      have ho : ∀ l, l < n → W l → l ≠ k → ¬ can s l := fun l h3 h4 h5 h6 => hc ⟨l, h3, h4, h5, h6⟩
      have h2 := A.low W hs hk ho
      exact ⟨hW, ho, by omega⟩
  · rw [if_neg hW] at hl
    by_cases hc : ∃ l, l < n ∧ W l ∧ l ≠ k ∧ can s l
    · rw [if_pos hc] at hl
      have h2 := A.high W hs hk hW
      omega
    · rw [if_neg hc] at hl
      have h2 := weak_zero A W hs fun l h3 h4 h5 => hc ⟨l, h3, h4, fun h6 => hW (h6 ▸ h4), h5⟩
      omega
/-- Lanes that are short if there were one hit more show the most hits. -/
theorem high_end {h : Nat → Nat → Int} (A : Asg n S D can h) (W : Nat → Prop) (hs : s < n) (hk : k < n) (hx : h s k = x - 1) (hl : 0 < lack n (wS S s x) (wS D k x) (wC can s k) W n) :
    ¬ W k ∧ (∃ l, l < n ∧ W l ∧ l ≠ k ∧ can s l) ∧ S s - lack n S D can W s = x - 1 := by
  rw [lack_wo W hs hk] at hl
  have h1 := weak_le A W hs
  by_cases hW : W k
  · rw [if_pos hW] at hl
    by_cases hc : ∃ l, l < n ∧ W l ∧ l ≠ k ∧ can s l
    · rw [if_pos hc] at hl; omega
    · rw [if_neg hc] at hl
      have ho : ∀ l, l < n → W l → l ≠ k → ¬ can s l := fun l h3 h4 h5 h6 => hc ⟨l, h3, h4, h5, h6⟩
      have h2 := A.low W hs hk ho
      omega
  · rw [if_neg hW] at hl
    have h2 := A.high W hs hk hW
    by_cases hc : ∃ l, l < n ∧ W l ∧ l ≠ k ∧ can s l
    · rw [if_pos hc] at hl
      exact ⟨hW, hc, by omega⟩
    · rw [if_neg hc] at hl
      have h3 := weak_zero A W hs fun l h3 h4 h5 => hc ⟨l, h3, h4, fun h6 => hW (h6 ▸ h4), h5⟩
      omega
/-! ### Shots that hit nothing -/
def fS (S : Nat → Int) (s : Nat) (x : Int) : Nat → Int := fun q => if q = s then x else S q
theorem few_to {h : Nat → Nat → Int} (A : Asg n S D can h) : Asg n (fS S s (sumR n fun l => h s l)) D can h := ⟨A.pos, A.can, fun q hq => by
  unfold fS
  by_cases hs : q = s
  · subst hs; simp only [if_true]; exact Int.le_refl _
  · rw [if_neg hs]; exact A.row q hq, A.col⟩
open Classical in
theorem used_le {h : Nat → Nat → Int} (A : Asg n S D can h) (hs : s < n) : sumR n (fun l => h s l) ≤ sumR n (fun l => if can s l then D l else 0) := sumR_le fun l hl => by
  by_cases hc : can s l
  · rw [if_pos hc, ← A.col l hl]
    exact sumR_part (f := fun q => h q l) hs fun q hq => A.pos q l hq hl
  · rw [if_neg hc]
    have h1 : ¬ 0 < h s l := fun h2 => hc (A.can s l hs hl h2)
    omega
theorem hit_le {h : Nat → Nat → Int} (A : Asg n S D can h) (hs : s < n) (hk : k < n) : 0 ≤ h s k ∧ h s k ≤ S s ∧ h s k ≤ D k ∧ (0 < h s k → can s k) := by
  refine ⟨A.pos s k hs hk, ?_, ?_, A.can s k hs hk⟩
  · exact Int.le_trans (sumR_part (f := fun l => h s l) hk fun l hl => A.pos s l hs hl) (A.row s hs)
  · rw [← A.col k hk]
    exact sumR_part (f := fun q => h q k) hs fun q hq => A.pos q k hq hk
end
end Go.Proofs.Dw
end
