/-
  TopLegs: the plain law of orders as lists.
-/
import Derived.Test.YtbgaomkepfienaaGreatDoorLwN
section
namespace Go.Proofs.Lw
set_option maxRecDepth 100000
/-- An order that is a list; who may do what; how long it takes. -/
def ofn (c : List Nat) (q : Nat) : Nat := (c[q]?).getD 0
def mayP (sc pc : List Int) (i k : Nat) : Prop := (sc[i]?).getD 0 = (pc[k]?).getD 0
def tm (T : List (List Int)) (i k : Nat) : Int := (((T[i]?).getD [])[k]?).getD 0
instance (sc pc : List Int) (i k : Nat) : Decidable (mayP sc pc i k) := inferInstanceAs (Decidable ((sc[i]?).getD 0 = (pc[k]?).getD 0))
theorem ofn_at {c : List Nat} {q i : Nat} (h : c[q]? = some i) : ofn c q = i := by unfold ofn; rw [h]; rfl
theorem tm_at {T : List (List Int)} {r : List Int} {i k : Nat} {x : Int} (h : T[i]? = some r) (h2 : r[k]? = some x) : tm T i k = x := by unfold tm; rw [h]; simp [h2]
theorem may_at {sc pc : List Int} {i k : Nat} {a b : Int} (h : sc[i]? = some a) (h2 : pc[k]? = some b) : mayP sc pc i k ↔ a = b := by unfold mayP; rw [h, h2]; exact Iff.rfl
theorem sumR_take (f : Nat → Nat → Int) (c : List Nat) : ∀ n, n ≤ c.length → sumR n (fun q => f (ofn c q) q) = sumR n (fun q => f (ofn (c.take n) q) q) := fun n hn =>
  sumR_congr fun q hq => by
    have : ofn (c.take n) q = ofn c q := by unfold ofn; rw [List.getElem?_take, if_pos hq]
    rw [this]
theorem cnt_list (c : List Nat) (j : Nat) : ∀ n, n ≤ c.length → cnt n (ofn c) j = ((c.take n).countP fun x => decide (x = j) : Nat)
  | 0, _ => by simp [cnt, sumR]
  | n + 1, h => by
    have hc : c[n]? = some (c[n]'(by omega)) := by simp
    rw [cnt_succ, cnt_list c j n (by omega), List.take_add_one, hc, List.countP_append, ofn_at hc]
    by_cases hj : c[n]'(by omega) = j <;> simp [hj]
theorem cnt_full (c : List Nat) (j : Nat) : cnt c.length (ofn c) j = (c.countP fun x => decide (x = j) : Nat) := by
  rw [cnt_list c j _ (Nat.le_refl _), List.take_length]
section
variable (sc pc : List Int) (T : List (List Int)) (E : Nat)
/-- An order that is one. -/
def OrdOk (c : List Nat) : Prop := c.length = pc.length ∧ Valid pc.length sc.length E (mayP sc pc) (ofn c)
/-- What an order takes. -/
noncomputable def tk (c : List Nat) : Option Int := open Classical in if OrdOk sc pc E c then some (cost pc.length (tm T) (ofn c)) else none
variable {sc pc T E}
theorem tk_some {c : List Nat} {n : Int} : tk sc pc T E c = some n ↔ OrdOk sc pc E c ∧ n = cost pc.length (tm T) (ofn c) := by
  unfold tk
  split
  · rename_i h
    constructor
    · intro e; cases e; exact ⟨h, rfl⟩
    · rintro ⟨_, rfl⟩; rfl
  · rename_i h
    constructor
    · intro e; cases e
    · exact fun e => absurd e.1 h
theorem tk_none {c : List Nat} : tk sc pc T E c = none ↔ ¬ OrdOk sc pc E c := by
  unfold tk
  split
  · rename_i h; exact ⟨fun e => (Option.some_ne_none _ e).elim, fun e => absurd h e⟩
  · rename_i h; exact ⟨fun _ => h, fun _ => rfl⟩
def mayB (sc pc : List Int) (i k : Nat) : Bool := decide (mayP sc pc i k)
/-- All that is an order is among those that are tried. -/
theorem ord_enum {c : List Nat} (h : OrdOk sc pc E c) : c ∈ enum sc.length (mayB sc pc) pc.length [] := by
  have := enum_mem (S := sc.length) (mayB := mayB sc pc) (r := pc.length) (p := []) (l := c) h.1 fun k i hk => by
    have hkl : k < pc.length := by rw [← h.1]; exact (List.getElem?_eq_some_iff.1 hk).1
    have h1 := h.2.sk k hkl
    have h2 := h.2.cl k hkl
    rw [ofn_at hk] at h1 h2
    exact ⟨h1, by simpa [mayB] using h2⟩
  simpa using this
theorem list_of (o : Nat → Nat) (L : Nat) : ∃ c : List Nat, c.length = L ∧ ∀ q, q < L → ofn c q = o q :=
  ⟨(List.range L).map o, by simp, fun q hq => by unfold ofn; simp [hq]⟩
theorem valid_congr {L S E : Nat} {may : Nat → Nat → Prop} {o o' : Nat → Nat} (h : ∀ q, q < L → o q = o' q) (V : Valid L S E may o) : Valid L S E may o' where
  sk := fun q hq => by rw [← h q hq]; exact V.sk q hq
  cl := fun q hq => by rw [← h q hq]; exact V.cl q hq
  of := fun j => by
    have : cnt L o' j = cnt L o j := sumR_congr fun q hq => by rw [h q hq]
    rw [this]; exact V.of j
theorem cost_congr {L : Nat} {t : Nat → Nat → Int} {o o' : Nat → Nat} (h : ∀ q, q < L → o q = o' q) : cost L t o = cost L t o' := sumR_congr fun q hq => by rw [h q hq]
/-- What the search keeps: nothing, if there is no order; else the least one that comes first. -/
noncomputable def bst (sc pc : List Int) (T : List (List Int)) (E : Nat) : Option (List Nat × Int) := (enum sc.length (mayB sc pc) pc.length []).foldl (keep (tk sc pc T E)) none
theorem bst_none (h : bst sc pc T E = none) (c : List Nat) : ¬ OrdOk sc pc E c := fun hc => by
  have := (fold_none h).2 c (ord_enum hc)
  exact tk_none.1 this hc
theorem bst_some {b : List Nat} {n : Int} (h : bst sc pc T E = some (b, n)) : OrdOk sc pc E b ∧ n = cost pc.length (tm T) (ofn b) ∧ (∀ o', Valid pc.length sc.length E (mayP sc pc) o' → n ≤ cost pc.length (tm T) o') ∧
    ∀ c, OrdOk sc pc E c → n < cost pc.length (tm T) (ofn c) ∨ (n = cost pc.length (tm T) (ofn c) ∧ ¬ lexLt c b) := by
  have K := kept_enum (S := sc.length) (L := pc.length) (mayB := mayB sc pc) (tk sc pc T E)
  have hb : (enum sc.length (mayB sc pc) pc.length []).foldl (keep (tk sc pc T E)) none = some (b, n) := h
  rw [hb] at K
  obtain ⟨_, h2, h3⟩ := K
  obtain ⟨hO, hn⟩ := tk_some.1 h2
  have hall : ∀ c, OrdOk sc pc E c → n < cost pc.length (tm T) (ofn c) ∨ (n = cost pc.length (tm T) (ofn c) ∧ ¬ lexLt c b) := fun c hc => h3 c (ord_enum hc) _ (tk_some.2 ⟨hc, rfl⟩)
  refine ⟨hO, hn, fun o' V => ?_, hall⟩
  obtain ⟨c, hc1, hc2⟩ := list_of o' pc.length
  have := hall c ⟨hc1, valid_congr (fun q hq => (hc2 q hq).symm) V⟩
  rw [cost_congr hc2] at this
  omega
/-- An order is one: looked at leg by leg. -/
theorem ordOk_iff {c : List Nat} (hl : c.length = pc.length) (hs : ∀ x ∈ c, x < sc.length) : OrdOk sc pc E c ↔ (∀ (k : Nat) i, c[k]? = some i → mayP sc pc i k) ∧ ∀ j ∈ c, (c.countP fun x => decide (x = j)) ≤ E := by
  constructor
  · rintro ⟨_, V⟩
    refine ⟨fun k i hk => ?_, fun j _ => ?_⟩
    · have := V.cl k (by rw [← hl]; exact (List.getElem?_eq_some_iff.1 hk).1)
      rw [ofn_at hk] at this
      exact this
    · have := V.of j
      rw [← hl, cnt_full] at this
      omega
  · rintro ⟨h1, h2⟩
    refine ⟨hl, fun q hq => ?_, fun q hq => ?_, fun j => ?_⟩
    · have hc : c[q]? = some (c[q]'(by omega)) := by simp
      rw [ofn_at hc]
      exact hs _ (by simp)
    · have hc : c[q]? = some (c[q]'(by omega)) := by simp
      rw [ofn_at hc]
      exact h1 q _ hc
    · rw [← hl, cnt_full]
      by_cases hj : j ∈ c
      · have := h2 j hj; omega
      · have : c.countP (fun x => decide (x = j)) = 0 := List.countP_eq_zero.2 fun x hx hxj => hj (by have := of_decide_eq_true hxj; rw [← this]; exact hx)
        omega
end
end Go.Proofs.Lw
end
section
/-
  TopLegs: the plain law: lists compared; an order looked at leg by leg; sums of lists.
-/
namespace Go.Proofs.Lw
set_option maxRecDepth 100000
def nL (c : List Nat) : List Int := c.map Int.ofNat
theorem nL_length (c : List Nat) : (nL c).length = c.length := by simp [nL]
theorem nL_at {c : List Nat} {k i : Nat} (h : c[k]? = some i) : (nL c)[k]? = some (i : Int) := by simp [nL, h]
theorem nL_snoc (c : List Nat) (i : Nat) : nL (c ++ [i]) = nL c ++ [(i : Int)] := by simp [nL]
theorem nL_of {l : List Int} (h : ∀ x ∈ l, 0 ≤ x) : ∃ c, l = nL c := by
  refine ⟨l.map Int.toNat, ?_⟩
  unfold nL
  rw [List.map_map]
  conv => lhs; rw [← List.map_id l]
  refine List.map_congr_left fun x hx => ?_
  have := h x hx
  simp only [id, Function.comp, Int.ofNat_eq_natCast]
  omega
/-! ### Compare -/
def cmpLI : List Int → List Int → Int
  | [], [] => 0
  | [], _ :: _ => -1
  | _ :: _, [] => 1
  | a :: l, b :: m => if a < b then -1 else if b < a then 1 else cmpLI l m
theorem cmp_lex : ∀ c d : List Nat, cmpLI (nL c) (nL d) < 0 ↔ lexLt c d
  | [], [] => by simp [cmpLI, nL, lexLt]
  | [], _ :: _ => by simp [cmpLI, nL, lexLt]
  | _ :: _, [] => by simp [cmpLI, nL, lexLt]
  | a :: c, b :: d => by
    have ih := cmp_lex c d
    show (if (a : Int) < b then (-1 : Int) else if (b : Int) < a then 1 else cmpLI (nL c) (nL d)) < 0 ↔ (a < b ∨ (a = b ∧ lexLt c d))
    by_cases h1 : a < b
    · rw [if_pos (by omega)]
      exact ⟨fun _ => .inl h1, fun _ => by omega⟩
    · rw [if_neg (by omega)]
      by_cases h2 : b < a
      · rw [if_pos (by omega)]
        constructor
        · intro h; omega
        · rintro (h | ⟨h, _⟩) <;> omega
      · rw [if_neg (by omega), ih]
        constructor
        · exact fun h => .inr ⟨by omega, h⟩
        · rintro (h | ⟨_, h⟩)
          · omega
          · exact h
/-! ### Leg by leg -/
section
variable {sc pc : List Int} {T : List (List Int)} {E : Nat}
def cn (c : List Nat) (j : Nat) : Nat := c.countP fun x => decide (x = j)
theorem cn_snoc {c : List Nat} {k i : Nat} (h : c[k]? = some i) (j : Nat) : cn (c.take (k + 1)) j = cn (c.take k) j + (if i = j then 1 else 0) := by
  unfold cn
  rw [List.take_add_one, h, List.countP_append]
  by_cases hj : i = j <;> simp [hj]
theorem cn_le (c : List Nat) (k j : Nat) : cn (c.take k) j ≤ cn c j := List.Sublist.countP_le (List.take_sublist k c)
theorem cn_le_len (c : List Nat) (j : Nat) : cn c j ≤ c.length := List.countP_le_length
/-- What has been looked at is no more than allowed. -/
def Fine (sc pc : List Int) (E : Nat) (c : List Nat) (k : Nat) : Prop := (∀ q i, q < k → c[q]? = some i → mayP sc pc i q) ∧ ∀ j, cn (c.take k) j ≤ E
theorem Fine.zero {c : List Nat} : Fine sc pc E c 0 := ⟨fun q i h => absurd h (by omega), fun j => by simp [cn]⟩
theorem Fine.next {c : List Nat} {k i : Nat} (h : Fine sc pc E c k) (hk : c[k]? = some i) (h1 : mayP sc pc i k) (h2 : cn (c.take k) i + 1 ≤ E) : Fine sc pc E c (k + 1) := by
  refine ⟨fun q i' hq hqi => ?_, fun j => ?_⟩
  · by_cases hqk : q = k
    · subst hqk; rw [hk] at hqi; cases hqi; exact h1
    · exact h.1 q i' (by omega) hqi
  · rw [cn_snoc hk]
    have := h.2 j
    split
    · rename_i e; subst e; exact h2
    · omega
theorem Fine.ord {c : List Nat} (h : Fine sc pc E c c.length) (hl : c.length = pc.length) (hs : ∀ x ∈ c, x < sc.length) : OrdOk sc pc E c :=
  (ordOk_iff hl hs).2 ⟨fun k i hk => h.1 k i (List.getElem?_eq_some_iff.1 hk).1 hk, fun j _ => by have := h.2 j; rw [List.take_length] at this; exact this⟩
theorem not_may {c : List Nat} {k i : Nat} (hk : c[k]? = some i) (h : ¬ mayP sc pc i k) (hl : c.length = pc.length) : ¬ OrdOk sc pc E c := fun hO => by
  have := hO.2.cl k (by rw [← hl]; exact (List.getElem?_eq_some_iff.1 hk).1)
  rw [ofn_at hk] at this
  exact h this
theorem not_of {c : List Nat} {j : Nat} (h : E < cn c j) : ¬ OrdOk sc pc E c := fun hO => by
  have := hO.2.of j
  rw [← hO.1, cnt_full] at this
  unfold cn at h
  omega
theorem not_of_take {c : List Nat} {k i : Nat} (hk : c[k]? = some i) (h : E < cn (c.take k) i + 1) : ¬ OrdOk sc pc E c := by
  have h1 := cn_snoc hk i
  rw [if_pos rfl] at h1
  have h2 := cn_le c (k + 1) i
  exact not_of (j := i) (by omega)
/-- The times, leg by leg. -/
def tL (T : List (List Int)) (c : List Nat) (k : Nat) : List Int := (List.range k).map fun q => tm T (ofn c q) q
theorem tL_succ (T : List (List Int)) (c : List Nat) (k : Nat) : tL T c (k + 1) = tL T c k ++ [tm T (ofn c k) k] := by unfold tL; rw [List.range_succ]; simp
theorem tL_sum (T : List (List Int)) (c : List Nat) : (tL T c c.length).sum = cost c.length (tm T) (ofn c) := rfl
theorem tL_length (T : List (List Int)) (c : List Nat) (k : Nat) : (tL T c k).length = k := by simp [tL]
end
/-! ### Sums -/
theorem sum_sumR : ∀ l : List Int, l.sum = sumR l.length (fun k => (l[k]?).getD 0) := by
  intro l
  unfold sumR
  congr 1
  refine List.ext_getElem? fun k => ?_
  by_cases hk : k < l.length
  · simp [hk]
  · simp [hk]
theorem cnt_cn {c : List Nat} {L : Nat} (h : c.length = L) (j : Nat) : cnt L (ofn c) j = (cn c j : Nat) := by rw [← h]; exact cnt_full c j
end Go.Proofs.Lw
end
section
/-
  TopLegs: the plain law of a round in which legs, skiers and those who are free are lowered.
-/
namespace Go.Proofs.Lw
set_option maxRecDepth 100000
section
variable (L S E : Nat) (may : Nat → Nat → Prop) (t : Nat → Nat → Int) (o : Nat → Nat)
/-- In a round, when skiers before i, and legs before k of skier i, have been looked at. -/
structure Rs (mu0 : Int) (i k : Nat) (lg sk : List Int) (f : Int) (ch : Bool) : Prop where
  pi : PI L S E may t o lg sk f
  up : ∀ v, pv lg sk f v ≤ 0
  le : mu lg sk f ≤ mu0
  lt : ch = true → mu lg sk f < mu0
  dn : ch = false → Dn L S E may t o (pv lg sk f) i k
/-- What a lowering does. -/
def LowS (l : List Int) (i : Nat) (a x : Int) (ch : Bool) (l' : List Int) (ch' : Bool) : Prop := (x < a ∧ l' = l.set i x ∧ ch' = true) ∨ (a ≤ x ∧ l' = l ∧ ch' = ch)
def LowF (a x : Int) (ch : Bool) (a' : Int) (ch' : Bool) : Prop := (x < a ∧ a' = x ∧ ch' = true) ∨ (a ≤ x ∧ a' = a ∧ ch' = ch)
variable {L S E may t o}
theorem up_setSk {lg sk : List Int} {f x a : Int} {i : Nat} (h : ∀ v, pv lg sk f v ≤ 0) (hi : sk[i]? = some a) (hx : x < a) : ∀ v, pv lg (sk.set i x) f v ≤ 0 := fun v => by
  cases v with
  | sk q =>
    have hil := (List.getElem?_eq_some_iff.1 hi).1
    by_cases hq : i = q
    · subst hq
      have h1 := h (.sk i)
      rw [pv_sk hi] at h1
      rw [pv_sk (a := x) (by rw [List.getElem?_set_self hil])]; omega
    · have : pv lg (sk.set i x) f (.sk q) = pv lg sk f (.sk q) := by simp only [pv]; rw [List.getElem?_set_ne hq]
      rw [this]; exact h _
  | leg k => exact h (.leg k)
  | fr => exact h .fr
theorem up_setLeg {lg sk : List Int} {f x a : Int} {i : Nat} (h : ∀ v, pv lg sk f v ≤ 0) (hi : lg[i]? = some a) (hx : x < a) : ∀ v, pv (lg.set i x) sk f v ≤ 0 := fun v => by
  cases v with
  | leg q =>
    have hil := (List.getElem?_eq_some_iff.1 hi).1
    by_cases hq : i = q
    · subst hq
      have h1 := h (.leg i)
      rw [pv_leg hi] at h1
      rw [pv_leg (a := x) (by rw [List.getElem?_set_self hil])]; omega
    · have : pv (lg.set i x) sk f (.leg q) = pv lg sk f (.leg q) := by simp only [pv]; rw [List.getElem?_set_ne hq]
      rw [this]; exact h _
  | sk k => exact h (.sk k)
  | fr => exact h .fr
variable {mu0 : Int} {i k : Nat} {lg sk : List Int} {f a l : Int} {ch : Bool}
theorem Rs.start (h : PI L S E may t o lg sk f) (hu : ∀ v, pv lg sk f v ≤ 0) : Rs L S E may t o (mu lg sk f) 0 0 lg sk f false :=
  ⟨h, hu, Int.le_refl _, fun e => Bool.noConfusion e, fun _ => Dn.zero⟩
theorem Rs.take (h : Rs L S E may t o mu0 i k lg sk f ch) (hi : i < S) (hk : k < L) (hm : may i k) (ha : sk[i]? = some a) (hl : lg[k]? = some l) {sk' : List Int} {ch' : Bool} (hs : LowS sk i a (l + t i k) ch sk' ch') :
    Rs L S E may t o mu0 i k lg sk' f ch' ∧ (ch' = false → may i k → pv lg sk' f (.sk i) ≤ pv lg sk' f (.leg k) + t i k) := by
  rcases hs with ⟨hlt, rfl, rfl⟩ | ⟨hge, rfl, rfl⟩
  · obtain ⟨h1, h2⟩ := take_low h.pi hi hk hm ha hl hlt
    have h3 := h.le
    exact ⟨⟨h1, up_setSk h.up ha hlt, by omega, fun _ => by omega, fun e => Bool.noConfusion e⟩, fun e => Bool.noConfusion e⟩
  · exact ⟨h, fun _ _ => by rw [pv_sk ha, pv_leg hl]; exact hge⟩
theorem Rs.takeNo (h : Rs L S E may t o mu0 i k lg sk f ch) (hm : ¬ may i k) : Rs L S E may t o mu0 i k lg sk f ch ∧ (ch = false → may i k → pv lg sk f (.sk i) ≤ pv lg sk f (.leg k) + t i k) :=
  ⟨h, fun _ e => absurd e hm⟩
theorem Rs.give (V : Valid L S E may o) (h : Rs L S E may t o mu0 i k lg sk f ch ∧ (ch = false → may i k → pv lg sk f (.sk i) ≤ pv lg sk f (.leg k) + t i k)) (hk : k < L) (ho : o k = i) (ha : lg[k]? = some a) (hl : sk[i]? = some l) {lg' : List Int} {ch' : Bool} (hs : LowS lg k a (l - t i k) ch lg' ch') :
    Rs L S E may t o mu0 i (k + 1) lg' sk f ch' := by
  obtain ⟨h, hf⟩ := h
  rcases hs with ⟨hlt, rfl, rfl⟩ | ⟨hge, rfl, rfl⟩
  · obtain ⟨h1, h2⟩ := give_low V h.pi hk ho ha hl hlt
    have h3 := h.le
    exact ⟨h1, up_setLeg h.up ha hlt, by omega, fun _ => by omega, fun e => Bool.noConfusion e⟩
  · exact ⟨h.pi, h.up, h.le, h.lt, fun e => (h.dn e).leg (hf e) fun _ => by rw [pv_leg ha, pv_sk hl]; exact hge⟩
theorem Rs.giveNo (h : Rs L S E may t o mu0 i k lg sk f ch ∧ (ch = false → may i k → pv lg sk f (.sk i) ≤ pv lg sk f (.leg k) + t i k)) (ho : o k ≠ i) : Rs L S E may t o mu0 i (k + 1) lg sk f ch :=
  ⟨h.1.pi, h.1.up, h.1.le, h.1.lt, fun e => (h.1.dn e).leg (h.2 e) fun e' => absurd e' ho⟩
theorem Rs.room (h : Rs L S E may t o mu0 i L lg sk f ch) (hi : i < S) (hn : cnt L o i < E) (hl : sk[i]? = some l) {f' : Int} {ch' : Bool} (hs : LowF f l ch f' ch') :
    Rs L S E may t o mu0 i L lg sk f' ch' ∧ (ch' = false → cnt L o i < E → pv lg sk f' .fr ≤ pv lg sk f' (.sk i)) := by
  rcases hs with ⟨hlt, rfl, rfl⟩ | ⟨hge, rfl, rfl⟩
  · obtain ⟨h1, h2⟩ := room_low h.pi hi hn hl hlt
    have h3 := h.le
    have h4 := h.up (.sk i)
    rw [pv_sk hl] at h4
    exact ⟨⟨h1, fun v => by cases v with
      | fr => exact h4
      | leg q => exact h.up (.leg q)
      | sk q => exact h.up (.sk q), by omega, fun _ => by omega, fun e => Bool.noConfusion e⟩, fun e => Bool.noConfusion e⟩
  · exact ⟨h, fun _ _ => by rw [pv_sk hl]; exact hge⟩
theorem Rs.roomNo (h : Rs L S E may t o mu0 i L lg sk f ch) (hn : ¬ cnt L o i < E) : Rs L S E may t o mu0 i L lg sk f ch ∧ (ch = false → cnt L o i < E → pv lg sk f .fr ≤ pv lg sk f (.sk i)) :=
  ⟨h, fun _ e => absurd e hn⟩
theorem Rs.used (h : Rs L S E may t o mu0 i L lg sk f ch ∧ (ch = false → cnt L o i < E → pv lg sk f .fr ≤ pv lg sk f (.sk i))) (hi : i < S) (hn : 0 < cnt L o i) (ha : sk[i]? = some a) {sk' : List Int} {ch' : Bool} (hs : LowS sk i a f ch sk' ch') :
    Rs L S E may t o mu0 (i + 1) 0 lg sk' f ch' := by
  obtain ⟨h, hf⟩ := h
  rcases hs with ⟨hlt, rfl, rfl⟩ | ⟨hge, rfl, rfl⟩
  · obtain ⟨h1, h2⟩ := used_low h.pi hi hn ha hlt
    have h3 := h.le
    exact ⟨h1, up_setSk h.up ha hlt, by omega, fun _ => by omega, fun e => Bool.noConfusion e⟩
  · exact ⟨h.pi, h.up, h.le, h.lt, fun e => (h.dn e).next (hf e) fun _ => by rw [pv_sk ha]; exact hge⟩
theorem Rs.usedNo (h : Rs L S E may t o mu0 i L lg sk f ch ∧ (ch = false → cnt L o i < E → pv lg sk f .fr ≤ pv lg sk f (.sk i))) (hn : ¬ 0 < cnt L o i) : Rs L S E may t o mu0 (i + 1) 0 lg sk f ch :=
  ⟨h.1.pi, h.1.up, h.1.le, h.1.lt, fun e => (h.1.dn e).next (h.2 e) fun e' => absurd e' hn⟩
theorem LowS.len {l l' : List Int} {i : Nat} {a x : Int} {ch ch' : Bool} (h : LowS l i a x ch l' ch') : l'.length = l.length := by
  rcases h with ⟨_, rfl, _⟩ | ⟨_, rfl, _⟩
  · rw [List.length_set]
  · rfl
end
end Go.Proofs.Lw
end
