/-
  TopLegs: the plain law of the best order: all orders are tried, the least one that comes first is kept.
-/
import Derived.Test.YtbgaomkepfienaaGreatDoorLwL
section
namespace Go.Proofs.Lw
set_option maxRecDepth 100000
/-! ### Which list comes first -/
def lexLt : List Nat → List Nat → Prop
  | [], [] => False
  | [], _ :: _ => True
  | _ :: _, [] => False
  | a :: l, b :: m => a < b ∨ (a = b ∧ lexLt l m)
theorem lexLt_irr : ∀ l, ¬ lexLt l l
  | [] => id
  | a :: l => by
    rintro (h | ⟨_, h⟩)
    · omega
    · exact lexLt_irr l h
theorem lexLt_asymm : ∀ {l m}, lexLt l m → ¬ lexLt m l
  | [], [], h => h.elim
  | [], _ :: _, _ => id
  | _ :: _, [], h => h.elim
  | a :: l, b :: m, h => by
    rcases h with h | ⟨h, h2⟩
    · rintro (h3 | ⟨h3, _⟩) <;> omega
    · rintro (h3 | ⟨_, h4⟩)
      · omega
      · exact lexLt_asymm h2 h4
theorem lexLt_pre : ∀ (p : List Nat) {a b : Nat} (l m : List Nat), a < b → lexLt (p ++ a :: l) (p ++ b :: m)
  | [], _, _, _, _, h => .inl h
  | _ :: p, _, _, l, m, h => .inr ⟨rfl, lexLt_pre p l m h⟩
/-! ### All orders, one after the other -/
section
variable (S : Nat) (mayB : Nat → Nat → Bool)
/-- What an order can become by so many legs more. -/
def enum : Nat → List Nat → List (List Nat)
  | 0, p => [p]
  | r + 1, p => ((List.range S).filter fun i => mayB i p.length).flatMap fun i => enum r (p ++ [i])
variable {S mayB}
theorem enum_pre : ∀ {r : Nat} {p c : List Nat}, c ∈ enum S mayB r p → ∃ l, c = p ++ l ∧ l.length = r
  | 0, p, c, h => ⟨[], by simpa [enum] using h, rfl⟩
  | r + 1, p, c, h => by
    simp only [enum, List.mem_flatMap] at h
    obtain ⟨i, _, hc⟩ := h
    obtain ⟨l, rfl, hl⟩ := enum_pre hc
    exact ⟨i :: l, by simp, by simp [hl]⟩
theorem enum_in : ∀ {r : Nat} {p c : List Nat}, c ∈ enum S mayB r p → ∀ (k : Nat) i, p.length ≤ k → c[k]? = some i → i < S ∧ mayB i k = true
  | 0, p, c, h, k, i, hk, hc => by
    simp only [enum, List.mem_singleton] at h
    subst h
    rw [List.getElem?_eq_none hk] at hc; cases hc
  | r + 1, p, c, h, k, i, hk, hc => by
    simp only [enum, List.mem_flatMap, List.mem_filter, List.mem_range] at h
    obtain ⟨j, ⟨hj, hm⟩, hcm⟩ := h
    by_cases hkp : k = p.length
    · obtain ⟨l, rfl, _⟩ := enum_pre hcm
      subst hkp
      simp at hc
      subst hc
      exact ⟨hj, hm⟩
    · exact enum_in hcm k i (by simp; omega) hc
theorem enum_mem : ∀ {r : Nat} {p l : List Nat}, l.length = r → (∀ (k : Nat) i, l[k]? = some i → i < S ∧ mayB i (p.length + k) = true) → p ++ l ∈ enum S mayB r p
  | 0, p, l, hl, _ => by
    obtain rfl := List.eq_nil_of_length_eq_zero hl
    simp [enum]
  | r + 1, p, [], hl, _ => by simp at hl
  | r + 1, p, i :: l, hl, h => by
    simp only [enum, List.mem_flatMap, List.mem_filter, List.mem_range]
    have h0 := h 0 i rfl
    refine ⟨i, ⟨h0.1, by simpa using h0.2⟩, ?_⟩
    have := enum_mem (r := r) (p := p ++ [i]) (l := l) (by simpa using hl) fun k j hk => by
      have := h (k + 1) j (by simpa using hk)
      rw [List.length_append, show p.length + [i].length + k = p.length + (k + 1) by simp; omega]
      exact this
    simpa using this
theorem enum_sorted : ∀ (r : Nat) (p : List Nat), (enum S mayB r p).Pairwise lexLt
  | 0, p => List.pairwise_singleton _ _
  | r + 1, p => by
    unfold enum
    rw [List.pairwise_flatMap]
    refine ⟨fun i _ => enum_sorted r _, ?_⟩
    refine (List.pairwise_lt_range.filter _).imp fun {i j} hij x hx y hy => ?_
    obtain ⟨l, rfl, _⟩ := enum_pre hx
    obtain ⟨m, rfl, _⟩ := enum_pre hy
    simpa using lexLt_pre p l m hij
end
/-! ### The least one that comes first -/
def keep (tk : List Nat → Option Int) (st : Option (List Nat × Int)) (c : List Nat) : Option (List Nat × Int) :=
  match tk c with
  | none => st
  | some n => match st with
    | none => some (c, n)
    | some (b, m) => if n < m then some (c, n) else some (b, m)
theorem fold_none {tk : List Nat → Option Int} : ∀ {l : List (List Nat)} {st}, l.foldl (keep tk) st = none → st = none ∧ ∀ c ∈ l, tk c = none
  | [], st, h => ⟨h, by simp⟩
  | a :: l, st, h => by
    obtain ⟨h1, h2⟩ := fold_none (l := l) (st := keep tk st a) h
    unfold keep at h1
    split at h1
    · rename_i ha
      refine ⟨h1, fun c hc => ?_⟩
      rcases List.mem_cons.1 hc with rfl | hc
      · exact ha
      · exact h2 c hc
    · split at h1
      · cases h1
      · split at h1 <;> cases h1
/-- What holds of what is kept: it is one of them, takes so long, and each other one takes longer, or as long and comes behind. -/
def Kept (tk : List Nat → Option Int) (l : List (List Nat)) (st : Option (List Nat × Int)) : Prop := match st with
  | none => ∀ c ∈ l, tk c = none
  | some (b, n) => b ∈ l ∧ tk b = some n ∧ ∀ c ∈ l, ∀ m, tk c = some m → n < m ∨ (n = m ∧ ¬ lexLt c b)
theorem keep_step {tk : List Nat → Option Int} {l : List (List Nat)} {st} {c : List Nat} (h : Kept tk l st) (hlt : ∀ b ∈ l, lexLt b c) : Kept tk (l ++ [c]) (keep tk st c) := by
  unfold keep
  cases hc : tk c with
  | none =>
    cases st with
    | none =>
      intro d hd
      rcases List.mem_append.1 hd with hd | hd
      · exact h d hd
      · simp at hd; subst hd; exact hc
    | some x =>
      obtain ⟨b, n⟩ := x
      obtain ⟨h1, h2, h3⟩ := h
      refine ⟨List.mem_append_left _ h1, h2, fun d hd m hm => ?_⟩
      rcases List.mem_append.1 hd with hd | hd
      · exact h3 d hd m hm
      · simp at hd; subst hd; rw [hc] at hm; cases hm
  | some n =>
    cases st with
    | none =>
      refine ⟨by simp, hc, fun d hd m hm => ?_⟩
      rcases List.mem_append.1 hd with hd | hd
      · rw [h d hd] at hm; cases hm
      · simp at hd; subst hd
        rw [hc] at hm; cases hm
        exact .inr ⟨rfl, lexLt_irr _⟩
    | some x =>
      obtain ⟨b, m0⟩ := x
      obtain ⟨h1, h2, h3⟩ := h
      simp only
      split
      · rename_i hlt2
        refine ⟨by simp, hc, fun d hd m hm => ?_⟩
        rcases List.mem_append.1 hd with hd | hd
        · have := h3 d hd m hm
          exact .inl (by omega)
        · simp at hd; subst hd
          rw [hc] at hm; cases hm
          exact .inr ⟨rfl, lexLt_irr _⟩
      · rename_i hge
        refine ⟨List.mem_append_left _ h1, h2, fun d hd m hm => ?_⟩
        rcases List.mem_append.1 hd with hd | hd
        · exact h3 d hd m hm
        · simp at hd; subst hd
          rw [hc] at hm; cases hm
          by_cases he : m0 = n
          · exact .inr ⟨he, lexLt_asymm (hlt b h1)⟩
          · exact .inl (by omega)
theorem keep_all {tk : List Nat → Option Int} : ∀ (l done : List (List Nat)) (st), (done ++ l).Pairwise lexLt → Kept tk done st → Kept tk (done ++ l) (l.foldl (keep tk) st)
  | [], done, st, _, h => by simpa using h
  | c :: l, done, st, hp, h => by
    have h1 : Kept tk (done ++ [c]) (keep tk st c) := keep_step h fun b hb => by
      rw [List.pairwise_append] at hp
      exact hp.2.2 b hb c (by simp)
    have h2 := keep_all l (done ++ [c]) (keep tk st c) (by simpa using hp) h1
    simpa using h2
/-- The program's search. -/
theorem kept_enum {S L : Nat} {mayB : Nat → Nat → Bool} (tk : List Nat → Option Int) : Kept tk (enum S mayB L []) ((enum S mayB L []).foldl (keep tk) none) := by
  have := keep_all (tk := tk) (enum S mayB L []) [] none (by simpa using enum_sorted (S := S) (mayB := mayB) L []) (fun c hc => by cases hc)
  simpa using this
end Go.Proofs.Lw
end
section
/-
  TopLegs: the plain law of what is lowered: it stays above a bound, so it ends; at the end nothing can be lowered.
-/
namespace Go.Proofs.Lw
set_option maxRecDepth 100000
/-- What legs, skiers and those who are free are lowered to. -/
def pv (lg sk : List Int) (f : Int) : Vx → Int
  | .leg k => (lg[k]?).getD 0
  | .sk i => (sk[i]?).getD 0
  | .fr => f
def mu (lg sk : List Int) (f : Int) : Int := lg.sum + sk.sum + f
section
variable (L S E : Nat) (may : Nat → Nat → Prop) (t : Nat → Nat → Int) (o : Nat → Nat)
structure PI (lg sk : List Int) (f : Int) : Prop where
  ll : lg.length = L
  sl : sk.length = S
  rch : ∀ v, Rch L S E may t o v (pv lg sk f v)
variable {L S E may t o}
theorem sum_set : ∀ {l : List Int} {k : Nat} {a : Int} (x : Int), l[k]? = some a → (l.set k x).sum = l.sum + x - a
  | [], _, _, _, h => by simp at h
  | b :: l, 0, a, x, h => by
    simp at h; subst h
    simp; omega
  | b :: l, k + 1, a, x, h => by
    have := sum_set (l := l) (k := k) x (by simpa using h)
    simp only [List.set_cons_succ, List.sum_cons, this]; omega
theorem pv_leg {lg sk : List Int} {f : Int} {k : Nat} {a : Int} (h : lg[k]? = some a) : pv lg sk f (.leg k) = a := by simp [pv, h]
theorem pv_sk {lg sk : List Int} {f : Int} {i : Nat} {a : Int} (h : sk[i]? = some a) : pv lg sk f (.sk i) = a := by simp [pv, h]
theorem PI.zero : PI L S E may t o (List.replicate L 0) (List.replicate S 0) 0 where
  ll := by simp
  sl := by simp
  rch := fun v => by
    have : pv (List.replicate L 0) (List.replicate S 0) 0 v = 0 := by
      cases v with
      | leg k => simp only [pv, List.getElem?_replicate]; split <;> rfl
      | sk i => simp only [pv, List.getElem?_replicate]; split <;> rfl
      | fr => rfl
    rw [this]
    exact Rch.start v
theorem PI.setLeg {lg sk : List Int} {f x a : Int} {k : Nat} (h : PI L S E may t o lg sk f) (hk : lg[k]? = some a) (hx : Rch L S E may t o (.leg k) x) (hlt : x < a) :
    PI L S E may t o (lg.set k x) sk f ∧ mu (lg.set k x) sk f < mu lg sk f := by
  refine ⟨⟨by rw [List.length_set]; exact h.ll, h.sl, fun v => ?_⟩, by unfold mu; rw [sum_set x hk]; omega⟩
  have hkl := (List.getElem?_eq_some_iff.1 hk).1
  cases v with
  | leg q =>
    by_cases hq : k = q
    · subst hq
      have : pv (lg.set k x) sk f (.leg k) = x := pv_leg (by rw [List.getElem?_set_self hkl])
      rw [this]; exact hx
    · have : pv (lg.set k x) sk f (.leg q) = pv lg sk f (.leg q) := by simp only [pv]; rw [List.getElem?_set_ne hq]
      rw [this]; exact h.rch _
  | sk i => exact h.rch (.sk i)
  | fr => exact h.rch .fr
theorem PI.setSk {lg sk : List Int} {f x a : Int} {i : Nat} (h : PI L S E may t o lg sk f) (hi : sk[i]? = some a) (hx : Rch L S E may t o (.sk i) x) (hlt : x < a) :
    PI L S E may t o lg (sk.set i x) f ∧ mu lg (sk.set i x) f < mu lg sk f := by
  refine ⟨⟨h.ll, by rw [List.length_set]; exact h.sl, fun v => ?_⟩, by unfold mu; rw [sum_set x hi]; omega⟩
  have hil := (List.getElem?_eq_some_iff.1 hi).1
  cases v with
  | sk q =>
    by_cases hq : i = q
    · subst hq
      have : pv lg (sk.set i x) f (.sk i) = x := pv_sk (by rw [List.getElem?_set_self hil])
      rw [this]; exact hx
    · have : pv lg (sk.set i x) f (.sk q) = pv lg sk f (.sk q) := by simp only [pv]; rw [List.getElem?_set_ne hq]
      rw [this]; exact h.rch _
  | leg k => exact h.rch (.leg k)
  | fr => exact h.rch .fr
theorem PI.setFr {lg sk : List Int} {f x : Int} (h : PI L S E may t o lg sk f) (hx : Rch L S E may t o .fr x) (hlt : x < f) : PI L S E may t o lg sk x ∧ mu lg sk x < mu lg sk f := by
  refine ⟨⟨h.ll, h.sl, fun v => ?_⟩, by unfold mu; omega⟩
  cases v with
  | fr => exact hx
  | leg k => exact h.rch (.leg k)
  | sk i => exact h.rch (.sk i)
variable (V : Valid L S E may o)
theorem take_low {lg sk : List Int} {f a l : Int} {i k : Nat} (h : PI L S E may t o lg sk f) (hi : i < S) (hk : k < L) (hm : may i k) (ha : sk[i]? = some a) (hl : lg[k]? = some l) (hlt : l + t i k < a) :
    PI L S E may t o lg (sk.set i (l + t i k)) f ∧ mu lg (sk.set i (l + t i k)) f < mu lg sk f := by
  refine h.setSk ha ?_ hlt
  have := (h.rch (.leg k)).step (.take k i hk hi hm)
  rw [pv_leg hl] at this
  exact this
include V in
theorem give_low {lg sk : List Int} {f a l : Int} {i k : Nat} (h : PI L S E may t o lg sk f) (hk : k < L) (ho : o k = i) (ha : lg[k]? = some a) (hl : sk[i]? = some l) (hlt : l - t i k < a) :
    PI L S E may t o (lg.set k (l - t i k)) sk f ∧ mu (lg.set k (l - t i k)) sk f < mu lg sk f := by
  subst ho
  refine h.setLeg ha ?_ hlt
  have := (h.rch (.sk (o k))).step (.give k hk (V.sk k hk))
  rw [pv_sk hl] at this
  exact this
theorem room_low {lg sk : List Int} {f l : Int} {i : Nat} (h : PI L S E may t o lg sk f) (hi : i < S) (hn : cnt L o i < E) (hl : sk[i]? = some l) (hlt : l < f) : PI L S E may t o lg sk l ∧ mu lg sk l < mu lg sk f := by
  refine h.setFr ?_ hlt
  have := (h.rch (.sk i)).step (.room i hi hn)
  rw [pv_sk hl] at this
  simpa [wt] using this
theorem used_low {lg sk : List Int} {f a : Int} {i : Nat} (h : PI L S E may t o lg sk f) (hi : i < S) (hn : 0 < cnt L o i) (ha : sk[i]? = some a) (hlt : f < a) :
    PI L S E may t o lg (sk.set i f) f ∧ mu lg (sk.set i f) f < mu lg sk f := by
  refine h.setSk ha ?_ hlt
  have := (h.rch .fr).step (.used i hi hn)
  simpa [wt, pv] using this
theorem sum_low {B : Int} : ∀ {l : List Int}, (∀ (k : Nat) x, l[k]? = some x → -B ≤ x) → -(l.length * B) ≤ l.sum
  | [], _ => by simp
  | a :: l, h => by
    have h1 := h 0 a rfl
    have h2 := sum_low (l := l) fun k x hx => h (k + 1) x (by simpa using hx)
    simp only [List.sum_cons, List.length_cons]
    rw [show ((l.length + 1 : Nat) : Int) * B = l.length * B + B by rw [Int.natCast_add, Int.add_mul]; simp]
    omega
/-- It stays above a bound. -/
theorem PI.low {M : Int} (V : Valid L S E may o) (hopt : ∀ o', Valid L S E may o' → cost L t o ≤ cost L t o') (hM : 0 ≤ M) (ht : ∀ i k, i < S → k < L → 0 ≤ t i k ∧ t i k ≤ M) {lg sk : List Int} {f : Int} (h : PI L S E may t o lg sk f) :
    (∀ v, -(L * M) ≤ pv lg sk f v) ∧ -((L + S + 1 : Nat) * (L * M)) ≤ mu lg sk f := by
  have h1 : ∀ v, -(L * M) ≤ pv lg sk f v := fun v => Rch.low V hopt hM ht (h.rch v)
  refine ⟨h1, ?_⟩
  have h2 := sum_low (B := L * M) (l := lg) fun k x hx => by have := h1 (.leg k); rw [pv_leg hx] at this; exact this
  have h3 := sum_low (B := L * M) (l := sk) fun k x hx => by have := h1 (.sk k); rw [pv_sk hx] at this; exact this
  have h4 := h1 .fr
  rw [h.ll] at h2
  rw [h.sl] at h3
  unfold mu
  simp only [pv] at h4
  rw [show ((L + S + 1 : Nat) : Int) * (L * M) = L * (L * M) + S * (L * M) + L * M by rw [Int.natCast_add, Int.natCast_add, Int.add_mul, Int.add_mul]; simp]
  omega
/-- All that has been looked at, up to skier i and its leg k, cannot be lowered. -/
def Dn (L S E : Nat) (may : Nat → Nat → Prop) (t : Nat → Nat → Int) (o : Nat → Nat) (p : Vx → Int) (i0 k0 : Nat) : Prop :=
  (∀ i k, i < S → k < L → (i < i0 ∨ (i = i0 ∧ k < k0)) → (may i k → p (.sk i) ≤ p (.leg k) + t i k) ∧ (o k = i → p (.leg k) ≤ p (.sk i) - t i k)) ∧
  (∀ i, i < S → i < i0 → (cnt L o i < E → p .fr ≤ p (.sk i)) ∧ (0 < cnt L o i → p (.sk i) ≤ p .fr))
theorem Dn.zero {p : Vx → Int} : Dn L S E may t o p 0 0 := ⟨fun i k _ _ h => by omega, fun i _ h => by omega⟩
theorem Dn.leg {p : Vx → Int} {i k : Nat} (h : Dn L S E may t o p i k) (h1 : may i k → p (.sk i) ≤ p (.leg k) + t i k) (h2 : o k = i → p (.leg k) ≤ p (.sk i) - t i k) : Dn L S E may t o p i (k + 1) :=
  ⟨fun i' k' hi hk hc => by
    by_cases he : i' = i ∧ k' = k
    · obtain ⟨rfl, rfl⟩ := he; exact ⟨h1, h2⟩
    · exact h.1 i' k' hi hk (by omega), h.2⟩
theorem Dn.next {p : Vx → Int} {i : Nat} (h : Dn L S E may t o p i L) (h1 : cnt L o i < E → p .fr ≤ p (.sk i)) (h2 : 0 < cnt L o i → p (.sk i) ≤ p .fr) : Dn L S E may t o p (i + 1) 0 :=
  ⟨fun i' k' hi hk hc => h.1 i' k' hi hk (by omega), fun i' hi hc => by
    by_cases he : i' = i
    · subst he; exact ⟨h1, h2⟩
    · exact h.2 i' hi (by omega)⟩
theorem Dn.still {p : Vx → Int} (h : Dn L S E may t o p S 0) : Still L S E may t o p := ⟨fun u v he => by
  cases he with
  | take k i hk hi hm => exact (h.1 i k hi hk (.inl hi)).1 hm
  | give k hk hs => have := (h.1 (o k) k hs hk (.inl hs)).2 rfl; simp only [wt]; omega
  | room i hi hn => have := (h.2 i hi hi).1 hn; simp only [wt]; omega
  | used i hi hn => have := (h.2 i hi hi).2 hn; simp only [wt]; omega⟩
end
end Go.Proofs.Lw
end
