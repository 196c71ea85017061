/-
  TopLegs: the plain law of orders of legs: an order that takes least has no round of exchanges that takes less.
-/

section
namespace Go.Proofs.Lw
set_option maxRecDepth 100000
/-- Legs, skiers, and the place of those who are free. -/
inductive Vx where
  | leg (k : Nat)
  | sk (i : Nat)
  | fr
  deriving DecidableEq
/-! ### Sums over the steps of a walk; its end stands first -/
def es (φ : Vx → Vx → Int) : List Vx → Int
  | v :: u :: l => φ u v + es φ (u :: l)
  | _ => 0
def ch (ed : Vx → Vx → Prop) : List Vx → Prop
  | v :: u :: l => ed u v ∧ ch ed (u :: l)
  | _ => True
theorem es_cat (φ : Vx → Vx → Int) (x : Vx) (c : List Vx) : ∀ a : List Vx, es φ (a ++ x :: c) = es φ (a ++ [x]) + es φ (x :: c)
  | [] => by simp [es]
  | [v] => by simp [es]
  | v :: u :: a => by
    have := es_cat φ x c (u :: a)
    simp only [List.cons_append, es] at this ⊢
    omega
theorem ch_cat (ed : Vx → Vx → Prop) (x : Vx) (c : List Vx) : ∀ a : List Vx, ch ed (a ++ x :: c) ↔ ch ed (a ++ [x]) ∧ ch ed (x :: c)
  | [] => by simp [ch]
  | [v] => by simp [ch]
  | v :: u :: a => by
    have := ch_cat ed x c (u :: a)
    simp only [List.cons_append, ch] at this ⊢
    rw [this, and_assoc]
theorem es_congr {φ ψ : Vx → Vx → Int} {ed : Vx → Vx → Prop} (h : ∀ u v, ed u v → φ u v = ψ u v) : ∀ c : List Vx, ch ed c → es φ c = es ψ c
  | [], _ => rfl
  | [_], _ => rfl
  | v :: u :: l, hc => by
    simp only [es, h u v hc.1, es_congr h (u :: l) hc.2]
theorem es_sub (φ ψ : Vx → Vx → Int) : ∀ c : List Vx, es (fun u v => φ u v - ψ u v) c = es φ c - es ψ c
  | [] => rfl
  | [_] => rfl
  | v :: u :: l => by simp only [es, es_sub φ ψ (u :: l)]; omega
theorem es_add (φ ψ : Vx → Vx → Int) : ∀ c : List Vx, es (fun u v => φ u v + ψ u v) c = es φ c + es ψ c
  | [] => rfl
  | [_] => rfl
  | v :: u :: l => by simp only [es, es_add φ ψ (u :: l)]; omega
def fs (f : Vx → Int) (l : List Vx) : Int := (l.map f).sum
theorem es_src (f : Vx → Int) (x : Vx) : ∀ l : List Vx, es (fun u _ => f u) (x :: l) = fs f l
  | [] => rfl
  | u :: l => by simp only [es, es_src f u l, fs, List.map_cons, List.sum_cons]
theorem es_tgt (f : Vx → Int) (x : Vx) : ∀ (b : List Vx) (y : Vx), es (fun _ v => f v) (y :: (b ++ [x])) = f y + fs f b
  | [], y => by simp [es, fs]
  | u :: b, y => by
    have := es_tgt f x b u
    simp only [List.cons_append, es, fs, List.map_cons, List.sum_cons] at this ⊢
    omega
theorem es_turn (f : Vx → Int) (x : Vx) (b : List Vx) : es (fun u _ => f u) (x :: (b ++ [x])) = es (fun _ v => f v) (x :: (b ++ [x])) := by
  rw [es_src, es_tgt]
  simp [fs]
  omega
theorem fs_le_one {f : Vx → Int} {y : Vx} (h : ∀ v, f v = if v = y then 1 else 0) : ∀ {l : List Vx}, l.Nodup → 0 ≤ fs f l ∧ fs f l ≤ 1 ∧ (y ∉ l → fs f l = 0)
  | [], _ => by simp [fs]
  | v :: l, hn => by
    rw [List.nodup_cons] at hn
    obtain ⟨h1, h2, h3⟩ := fs_le_one h hn.2
    have hv := h v
    simp only [fs, List.map_cons, List.sum_cons] at *
    by_cases hy : v = y
    · subst hy
      have := h3 hn.1
      rw [if_pos rfl] at hv
      refine ⟨by omega, by omega, fun hm => absurd List.mem_cons_self hm⟩
    · rw [if_neg hy] at hv
      exact ⟨by omega, by omega, fun hm => by have := h3 fun hm2 => hm (List.mem_cons_of_mem _ hm2); omega⟩
theorem es_nonneg {φ : Vx → Vx → Int} {ed : Vx → Vx → Prop} (h : ∀ u v, ed u v → 0 ≤ φ u v) : ∀ c : List Vx, ch ed c → 0 ≤ es φ c
  | [], _ => Int.le_refl _
  | [_], _ => Int.le_refl _
  | v :: u :: l, hc => by
    have h1 := h u v hc.1
    have h2 := es_nonneg h (u :: l) hc.2
    simp only [es]; omega
theorem es_some {φ : Vx → Vx → Int} {ed : Vx → Vx → Prop} : ∀ c : List Vx, ch ed c → 0 < es φ c → ∃ u v, ed u v ∧ 0 < φ u v
  | [], _, h => absurd h (by simp [es])
  | [_], _, h => absurd h (by simp [es])
  | v :: u :: l, hc, h => by
    simp only [es] at h
    by_cases h1 : 0 < φ u v
    · exact ⟨u, v, hc.1, h1⟩
    · exact es_some (u :: l) hc.2 (by omega)
/-! ### Sums over legs -/
def sumR (L : Nat) (f : Nat → Int) : Int := ((List.range L).map f).sum
theorem sumR_succ (L : Nat) (f : Nat → Int) : sumR (L + 1) f = sumR L f + f L := by
  unfold sumR; rw [List.range_succ]; simp
theorem sumR_congr {f g : Nat → Int} : ∀ {L : Nat}, (∀ q, q < L → f q = g q) → sumR L f = sumR L g
  | 0, _ => rfl
  | L + 1, h => by rw [sumR_succ, sumR_succ, sumR_congr fun q hq => h q (by omega), h L (by omega)]
theorem sumR_upd {f g : Nat → Int} {k : Nat} : ∀ {L : Nat}, k < L → (∀ q, q ≠ k → f q = g q) → sumR L f = sumR L g + f k - g k
  | 0, h, _ => absurd h (by omega)
  | L + 1, h, hq => by
    rw [sumR_succ, sumR_succ]
    by_cases hk : k = L
    · subst hk
      rw [sumR_congr fun q h1 => hq q (by omega)]; omega
    · rw [sumR_upd (by omega) hq, hq L (fun e => hk e.symm)]; omega
theorem sumR_le {f g : Nat → Int} : ∀ {L : Nat}, (∀ q, q < L → f q ≤ g q) → sumR L f ≤ sumR L g
  | 0, _ => Int.le_refl _
  | L + 1, h => by
    have h1 := sumR_le (L := L) fun q hq => h q (by omega)
    have h2 := h L (by omega)
    rw [sumR_succ, sumR_succ]; omega
theorem sumR_add (f g : Nat → Int) : ∀ L, sumR L (fun q => f q + g q) = sumR L f + sumR L g
  | 0 => rfl
  | L + 1 => by rw [sumR_succ, sumR_succ, sumR_succ, sumR_add f g L]; omega
theorem sumR_const (c : Int) : ∀ L : Nat, sumR L (fun _ => c) = L * c
  | 0 => by simp [sumR]
  | L + 1 => by rw [sumR_succ, sumR_const c L, show ((L + 1 : Nat) : Int) * c = L * c + c by rw [Int.natCast_add, Int.add_mul]; simp]
/-! ### An order, exchanged along a walk -/
def upd (o : Nat → Nat) : List Vx → Nat → Nat
  | v :: u :: l => match v, u with
    | .sk i, .leg k => fun q => if q = k then i else upd o (u :: l) q
    | _, _ => upd o (u :: l)
  | _ => o
theorem upd_out (o : Nat → Nat) (k : Nat) : ∀ c : List Vx, .leg k ∉ c.tail → upd o c k = o k
  | [], _ => rfl
  | [_], _ => rfl
  | v :: u :: l, h => by
    have h1 : Vx.leg k ≠ u := fun e => h (by simp [e])
    have h2 : Vx.leg k ∉ (u :: l).tail := fun e => h (by simp at e ⊢; exact .inr e)
    have ih := upd_out o k (u :: l) h2
    unfold upd
    split
    · rename_i i k'
      have : k ≠ k' := fun e => h1 (by rw [e])
      simp only [if_neg this, ih]
    · exact ih
def swap (h : Nat → Nat → Int) (o : Nat → Nat) (u v : Vx) : Int := match u, v with | .leg k, .sk i => h k i - h k (o k) | _, _ => 0
theorem upd_sum (h : Nat → Nat → Int) (o : Nat → Nat) (L : Nat) : ∀ c : List Vx, c.tail.Nodup → (∀ k, .leg k ∈ c → k < L) → sumR L (fun q => h q (upd o c q)) = sumR L (fun q => h q (o q)) + es (swap h o) c
  | [], _, _ => by simp [upd, es]
  | [_], _, _ => by simp [upd, es]
  | v :: u :: l, hn, hk => by
    simp only [List.tail_cons, List.nodup_cons] at hn
    have ih := upd_sum h o L (u :: l) hn.2 fun k hm => hk k (List.mem_cons_of_mem _ hm)
    have hes : es (swap h o) (v :: u :: l) = swap h o u v + es (swap h o) (u :: l) := rfl
    rw [hes]
    cases v with
    | sk i =>
      cases u with
      | leg k =>
        have hkL : k < L := hk k (by simp)
        have hout := upd_out o k (.leg k :: l) hn.1
        have e1 : (upd o (.sk i :: .leg k :: l)) = fun q => if q = k then i else upd o (.leg k :: l) q := rfl
        rw [e1, sumR_upd (g := fun q => h q (upd o (.leg k :: l) q)) hkL fun q hq => by simp [hq], ih]
        simp only [if_true, hout, swap]
        omega
      | sk _ => show sumR L (fun q => h q (upd o (_ :: l) q)) = _; rw [ih]; simp [swap]
      | fr => show sumR L (fun q => h q (upd o (_ :: l) q)) = _; rw [ih]; simp [swap]
    | leg k' => 
      have : upd o (.leg k' :: u :: l) = upd o (u :: l) := by cases u <;> rfl
      rw [this, ih]; cases u <;> simp [swap]
    | fr => 
      have : upd o (.fr :: u :: l) = upd o (u :: l) := by cases u <;> rfl
      rw [this, ih]; cases u <;> simp [swap]
/-! ### What an order takes -/
section
variable (L S E : Nat) (may : Nat → Nat → Prop) (t : Nat → Nat → Int)
def cnt (L : Nat) (o : Nat → Nat) (j : Nat) : Int := sumR L fun q => if o q = j then 1 else 0
def cost (L : Nat) (t : Nat → Nat → Int) (o : Nat → Nat) : Int := sumR L fun q => t (o q) q
structure Valid (o : Nat → Nat) : Prop where
  sk : ∀ q, q < L → o q < S
  cl : ∀ q, q < L → may (o q) q
  of : ∀ j, cnt L o j ≤ E
/-- What can be exchanged. -/
inductive Ed (o : Nat → Nat) : Vx → Vx → Prop where
  | take (k i) : k < L → i < S → may i k → Ed o (.leg k) (.sk i)
  | give (k) : k < L → o k < S → Ed o (.sk (o k)) (.leg k)
  | room (i) : i < S → cnt L o i < E → Ed o (.sk i) .fr
  | used (i) : i < S → 0 < cnt L o i → Ed o .fr (.sk i)
def wt : Vx → Vx → Int
  | .leg k, .sk i => t i k
  | .sk i, .leg k => - t i k
  | _, _ => 0
variable {L S E may t}
variable {o : Nat → Nat} (V : Valid L S E may o) (hopt : ∀ o', Valid L S E may o' → cost L t o ≤ cost L t o')
theorem Ed.kL {k : Nat} : ∀ {c : List Vx}, ch (Ed L S E may o) c → 2 ≤ c.length → .leg k ∈ c → k < L
  | [], _, h, _ => by simp at h
  | [_], _, h, _ => by simp at h
  | v :: u :: l, hc, _, hm => by
    have h1 := hc.1
    rcases List.mem_cons.1 hm with rfl | hm
    · cases h1 with
      | give k h => exact h
    · cases l with
      | nil =>
        obtain rfl : Vx.leg k = u := by simpa using hm
        cases h1 with
        | take k i h => exact h
      | cons x l => exact Ed.kL hc.2 (by simp) hm
include V hopt in
/-- A round of different places costs nothing less. -/
theorem round_nonneg {x : Vx} {b : List Vx} (hn : (x :: b).Nodup) (hc : ch (Ed L S E may o) (x :: (b ++ [x]))) : 0 ≤ es (wt t) (x :: (b ++ [x])) := by
  obtain ⟨C, hC⟩ : ∃ C, C = x :: (b ++ [x]) := ⟨_, rfl⟩
  have htl : C.tail.Nodup := by
    rw [hC]
    simp only [List.tail_cons]
    rw [List.nodup_cons] at hn
    exact (List.nodup_append.2 ⟨hn.2, by simp, fun a ha b' hb' => by
      simp at hb'; subst hb'
      exact fun e => hn.1 (e ▸ ha)⟩)
  have hkL : ∀ k, .leg k ∈ C → k < L := fun k hm => by
    rw [hC] at hm
    exact Ed.kL hc (by simp) hm
  rw [← hC] at hc ⊢
  have hturn : ∀ f : Vx → Int, es (fun u _ => f u) C = es (fun _ v => f v) C := fun f => by rw [hC]; exact es_turn f x b
  have hone : ∀ j, 0 ≤ es (fun _ v => if v = .sk j then 1 else 0) C ∧ es (fun _ v => if v = .sk j then 1 else 0) C ≤ 1 := fun j => by
    have h1 := fs_le_one (f := fun v => if v = Vx.sk j then (1 : Int) else 0) (y := .sk j) (fun v => rfl) hn
    rw [hC, es_tgt]
    simp only [fs, List.map_cons, List.sum_cons] at h1 ⊢
    exact ⟨h1.1, h1.2.1⟩
  have hcost : cost L t (upd o C) = cost L t o + es (wt t) C := by
    have h1 := upd_sum (fun q i => t i q) o L C htl hkL
    have h2 : es (swap (fun q i => t i q) o) C = es (wt t) C := by
      have e1 : es (swap (fun q i => t i q) o) C = es (fun u v => (match u, v with | .leg k, .sk i => t i k | _, _ => 0) - (match u with | .leg k => t (o k) k | _ => 0)) C :=
        es_congr (ed := Ed L S E may o) (fun u v h => by cases h <;> simp [swap]) C hc
      have e2 : es (wt t) C = es (fun u v => (match u, v with | .leg k, .sk i => t i k | _, _ => 0) - (match v with | .leg k => t (o k) k | _ => 0)) C :=
        es_congr (ed := Ed L S E may o) (fun u v h => by cases h <;> simp [wt]) C hc
      rw [e1, e2, es_sub, es_sub, hturn fun u => match u with | .leg k => t (o k) k | _ => 0]
    unfold cost
    rw [h1, h2]
  have hcnt : ∀ j, cnt L (upd o C) j ≤ E := fun j => by
    have h1 := upd_sum (fun _ i => if i = j then 1 else 0) o L C htl hkL
    have e1 : es (swap (fun _ i => if i = j then 1 else 0) o) C = es (fun u v => (match u, v with | .leg _, .sk i => if i = j then 1 else 0 | _, _ => 0) - (match u with | .leg k => if o k = j then 1 else 0 | _ => 0)) C :=
      es_congr (ed := Ed L S E may o) (fun u v h => by cases h <;> simp [swap]) C hc
    rw [es_sub, hturn fun u => match u with | .leg k => if o k = j then 1 else 0 | _ => 0] at e1
    have e2 : es (fun _ v => match v with | .leg k => if o k = j then 1 else 0 | _ => 0) C = es (fun u v => match u, v with | .sk i, .leg _ => if i = j then 1 else 0 | _, _ => 0) C :=
      es_congr (ed := Ed L S E may o) (fun u v h => by cases h <;> simp) C hc
    rw [e2] at e1
    have eA : es (fun _ v => if v = Vx.sk j then (1 : Int) else 0) C = es (fun u v => (match u, v with | .leg _, .sk i => if i = j then 1 else 0 | _, _ => 0) + (match u, v with | .fr, .sk i => if i = j then 1 else 0 | _, _ => 0)) C :=
      es_congr (ed := Ed L S E may o) (fun u v h => by cases h <;> simp) C hc
    have eB : es (fun u _ => if u = Vx.sk j then (1 : Int) else 0) C = es (fun u v => (match u, v with | .sk i, .leg _ => if i = j then 1 else 0 | _, _ => 0) + (match u, v with | .sk i, .fr => if i = j then 1 else 0 | _, _ => 0)) C :=
      es_congr (ed := Ed L S E may o) (fun u v h => by cases h <;> simp) C hc
    rw [hturn fun u => if u = Vx.sk j then (1 : Int) else 0] at eB
    rw [es_add] at eA eB
    have n1 : 0 ≤ es (fun u v => match u, v with | .fr, .sk i => if i = j then (1 : Int) else 0 | _, _ => 0) C := es_nonneg (ed := Ed L S E may o) (fun u v h => by cases h <;> simp <;> split <;> simp) C hc
    have n2 : 0 ≤ es (fun u v => match u, v with | .sk i, .leg _ => if i = j then (1 : Int) else 0 | _, _ => 0) C := es_nonneg (ed := Ed L S E may o) (fun u v h => by cases h <;> simp <;> split <;> simp) C hc
    have hj := hone j
    have hEj := V.of j
    have hroom : 0 < es (fun u v => match u, v with | .sk i, .fr => if i = j then (1 : Int) else 0 | _, _ => 0) C → cnt L o j < E := fun h => by
      obtain ⟨u, v, hed, hpos⟩ := es_some C hc h
      cases hed with
      | room i hi hlt =>
        simp only at hpos
        split at hpos
        · rename_i e; rw [← e]; exact hlt
        · omega
      | take => simp at hpos
      | give => simp at hpos
      | used => simp at hpos
    unfold cnt at h1 hEj hroom ⊢
    rw [h1, e1]
    omega
  have hin : ∀ c : List Vx, ch (Ed L S E may o) c → ∀ q, q < L → upd o c q < S ∧ may (upd o c q) q := by
    intro c
    induction c with
    | nil => exact fun _ q hq => ⟨V.sk q hq, V.cl q hq⟩
    | cons v c ih =>
      cases c with
      | nil => exact fun _ q hq => ⟨V.sk q hq, V.cl q hq⟩
      | cons u l =>
        intro hc q hq
        have h2 := ih hc.2 q hq
        unfold upd
        split
        · rename_i i k
          by_cases hk : q = k
          · simp only [if_pos hk]
            have h3 := hc.1
            cases h3 with
            | take k i h4 h5 h6 => subst hk; exact ⟨h5, h6⟩
          · simp only [if_neg hk]; exact h2
        · exact h2
  have := hopt (upd o C) ⟨fun q hq => (hin C hc q hq).1, fun q hq => (hin C hc q hq).2, hcnt⟩
  omega
theorem twice_split : ∀ {l : List Vx}, ¬ l.Nodup → ∃ p y q r, l = p ++ y :: (q ++ y :: r)
  | [], h => absurd List.nodup_nil h
  | a :: l, h => by
    by_cases ha : a ∈ l
    · obtain ⟨q, r, rfl⟩ := List.append_of_mem ha
      exact ⟨[], a, q, r, rfl⟩
    · have : ¬ l.Nodup := fun hn => h (List.nodup_cons.2 ⟨ha, hn⟩)
      obtain ⟨p, y, q, r, rfl⟩ := twice_split this
      exact ⟨a :: p, y, q, r, rfl⟩
include V hopt in
theorem closed_nonneg : ∀ (n : Nat) {x : Vx} {b : List Vx}, b.length ≤ n → ch (Ed L S E may o) (x :: (b ++ [x])) → 0 ≤ es (wt t) (x :: (b ++ [x]))
  | n, x, b, hb, hc => by
    by_cases hn : (x :: b).Nodup
    · exact round_nonneg V hopt hn hc
    · obtain ⟨p, y, q, r, hpq⟩ := twice_split hn
      have hlen := congrArg List.length hpq
      simp only [List.length_cons, List.length_append] at hlen
      have e : x :: (b ++ [x]) = p ++ y :: (q ++ y :: (r ++ [x])) := by
        rw [show x :: (b ++ [x]) = (x :: b) ++ [x] from rfl, hpq]; simp
      rw [e] at hc ⊢
      rw [ch_cat] at hc
      obtain ⟨h1, h2⟩ := hc
      rw [show y :: (q ++ y :: (r ++ [x])) = (y :: q) ++ y :: (r ++ [x]) from rfl, ch_cat] at h2
      obtain ⟨h3, h4⟩ := h2
      have w1 : 0 ≤ es (wt t) (y :: (q ++ [y])) := by
        cases n with
        | zero => omega
        | succ n => exact closed_nonneg n (by omega) h3
      have w2 : 0 ≤ es (wt t) (p ++ y :: (r ++ [x])) := by
        cases n with
        | zero => omega
        | succ n =>
          have h5 : ch (Ed L S E may o) (p ++ y :: (r ++ [x])) := (ch_cat ..).2 ⟨h1, h4⟩
          cases p with
          | nil =>
            obtain rfl : x = y := (List.cons.inj hpq).1
            exact closed_nonneg n (by simp at hlen ⊢; omega) h5
          | cons a p =>
            obtain rfl : x = a := (List.cons.inj hpq).1
            have e2 : x :: p ++ y :: (r ++ [x]) = x :: ((p ++ y :: r) ++ [x]) := by simp
            rw [e2] at h5 ⊢
            exact closed_nonneg n (by simp at hlen ⊢; omega) h5
      have k1 := es_cat (wt t) y (q ++ y :: (r ++ [x])) p
      have k2 := es_cat (wt t) y (r ++ [x]) (y :: q)
      have k3 := es_cat (wt t) y (r ++ [x]) p
      simp only [List.cons_append] at k2
      omega
/-! ### What can be reached costs no less than so much -/
theorem nodup_lt : ∀ {N : Nat} {l : List Nat}, l.Nodup → (∀ a ∈ l, a < N) → l.length ≤ N
  | 0, [], _, _ => Nat.le_refl _
  | 0, a :: _, _, h => absurd (h a (by simp)) (by omega)
  | N + 1, l, hn, h => by
    have h1 := nodup_lt (N := N) (l := l.erase N) (hn.erase N) fun a ha => by
      have h2 := h a (List.mem_of_mem_erase ha)
      have h3 : a ≠ N := fun e => by subst e; exact hn.not_mem_erase ha
      omega
    have h4 := List.length_erase_le (a := N) (l := l)
    have h5 : l.length ≤ (l.erase N).length + 1 := by
      rw [List.length_erase]
      split <;> omega
    omega
def legs : List Vx → List Nat
  | [] => []
  | .leg k :: l => k :: legs l
  | _ :: l => legs l
theorem mem_legs {k : Nat} : ∀ {l : List Vx}, k ∈ legs l ↔ .leg k ∈ l
  | [] => by simp [legs]
  | .leg k' :: l => by simp [legs, mem_legs (l := l)]
  | .sk _ :: l => by simp [legs, mem_legs (l := l)]
  | .fr :: l => by simp [legs, mem_legs (l := l)]
theorem legs_nodup : ∀ {l : List Vx}, l.Nodup → (legs l).Nodup
  | [], _ => List.nodup_nil
  | .leg k :: l, h => by
    rw [List.nodup_cons] at h
    exact List.nodup_cons.2 ⟨fun hm => h.1 (mem_legs.1 hm), legs_nodup h.2⟩
  | .sk _ :: l, h => legs_nodup (l := l) (List.nodup_cons.1 h).2
  | .fr :: l, h => legs_nodup (l := l) (List.nodup_cons.1 h).2
theorem wt_low {M : Int} (hM : 0 ≤ M) (ht : ∀ i k, i < S → k < L → 0 ≤ t i k ∧ t i k ≤ M) : ∀ l : List Vx, ch (Ed L S E may o) l → -((legs l).length * M) ≤ es (wt t) l
  | [], _ => by simp [es, legs]
  | [v], _ => by
    have : 0 ≤ ((legs [v]).length : Int) * M := Int.mul_nonneg (by omega) hM
    simp only [es]; omega
  | v :: u :: l, hc => by
    have ih := wt_low hM ht (u :: l) hc.2
    have hed := hc.1
    have hes : es (wt t) (v :: u :: l) = wt t u v + es (wt t) (u :: l) := rfl
    rw [hes]
    cases hed with
    | take k i h1 h2 h3 =>
      have := ht i k h2 h1
      have e : legs (.sk i :: .leg k :: l) = legs (.leg k :: l) := rfl
      rw [e]
      simp only [wt]; omega
    | give k h1 h2 =>
      have := ht (o k) k h2 h1
      have e : legs (.leg k :: .sk (o k) :: l) = k :: legs (.sk (o k) :: l) := rfl
      rw [e, List.length_cons, Int.natCast_add, Int.add_mul]
      simp only [wt]; omega
    | room i h1 h2 =>
      have e : legs (.fr :: .sk i :: l) = legs (.sk i :: l) := rfl
      rw [e]
      simp only [wt]; omega
    | used i h1 h2 =>
      have e : legs (.sk i :: .fr :: l) = legs (.fr :: l) := rfl
      rw [e]
      simp only [wt]; omega
include V hopt in
theorem walk_low {M : Int} (hM : 0 ≤ M) (ht : ∀ i k, i < S → k < L → 0 ≤ t i k ∧ t i k ≤ M) : ∀ (n : Nat) (l : List Vx), l.length ≤ n → ch (Ed L S E may o) l → -(L * M) ≤ es (wt t) l
  | n, l, hl, hc => by
    have hLM : 0 ≤ (L : Int) * M := Int.mul_nonneg (by omega) hM
    by_cases hn : l.Nodup
    · match l, hc, hn with
      | [], _, _ => simp only [es]; omega
      | [v], _, _ => simp only [es]; omega
      | v :: u :: l, hc, hn =>
        have h1 := wt_low hM ht _ hc
        have h2 := nodup_lt (N := L) (legs_nodup hn) fun k hk => Ed.kL hc (by simp) (mem_legs.1 hk)
        have h3 : ((legs (v :: u :: l)).length : Int) * M ≤ L * M := Int.mul_le_mul_of_nonneg_right (by omega) hM
        omega
    · obtain ⟨p, y, q, r, rfl⟩ := twice_split hn
      simp only [List.length_cons, List.length_append] at hl
      have hc0 := hc
      rw [ch_cat] at hc
      obtain ⟨h1, h2⟩ := hc
      rw [show y :: (q ++ y :: r) = (y :: q) ++ y :: r from rfl, ch_cat] at h2
      obtain ⟨h3, h4⟩ := h2
      have w1 := closed_nonneg V hopt q.length (Nat.le_refl _) h3
      have w2 : -(L * M) ≤ es (wt t) (p ++ y :: r) := by
        cases n with
        | zero => omega
        | succ n => exact walk_low hM ht n (p ++ y :: r) (by simp; omega) ((ch_cat ..).2 ⟨h1, h4⟩)
      have k1 := es_cat (wt t) y (q ++ y :: r) p
      have k2 := es_cat (wt t) y r (y :: q)
      have k3 := es_cat (wt t) y r p
      simp only [List.cons_append] at k2
      omega
/-- What is reached from a start, and how cheaply. -/
def Rch (L S E : Nat) (may : Nat → Nat → Prop) (t : Nat → Nat → Int) (o : Nat → Nat) (v : Vx) (w : Int) : Prop := ∃ l, ch (Ed L S E may o) (v :: l) ∧ es (wt t) (v :: l) = w
theorem Rch.start (v : Vx) : Rch L S E may t o v 0 := ⟨[], trivial, rfl⟩
theorem Rch.step {u v : Vx} {w : Int} (h : Rch L S E may t o u w) (he : Ed L S E may o u v) : Rch L S E may t o v (w + wt t u v) := by
  obtain ⟨l, h1, h2⟩ := h
  exact ⟨u :: l, ⟨he, h1⟩, by show wt t u v + es (wt t) (u :: l) = _; omega⟩
include V hopt in
theorem Rch.low {M : Int} (hM : 0 ≤ M) (ht : ∀ i k, i < S → k < L → 0 ≤ t i k ∧ t i k ≤ M) {v : Vx} {w : Int} (h : Rch L S E may t o v w) : -(L * M) ≤ w := by
  obtain ⟨l, h1, h2⟩ := h
  have := walk_low V hopt hM ht _ _ (Nat.le_refl _) h1
  omega
end
end Go.Proofs.Lw
end
section
/-
  TopLegs: the plain law of prices: those that come of what is reached prove what the best order takes, and no prices prove more.
-/
namespace Go.Proofs.Lw
set_option maxRecDepth 100000
section
variable {L S E : Nat} {may : Nat → Nat → Prop} {t : Nat → Nat → Int} {o : Nat → Nat}
theorem sumR_mul (c : Int) (f : Nat → Int) : ∀ L, sumR L (fun q => c * f q) = c * sumR L f
  | 0 => by simp [sumR]
  | L + 1 => by rw [sumR_succ, sumR_succ, sumR_mul c f L, Int.mul_add]
theorem sumR_one (g : Nat → Int) (j : Nat) : ∀ {S : Nat}, j < S → sumR S (fun i => (if j = i then 1 else 0) * g i) = g j
  | 0, h => absurd h (by omega)
  | S + 1, h => by
    rw [sumR_succ]
    by_cases hj : j = S
    · subst hj
      rw [sumR_congr (g := fun _ => 0) fun q hq => by rw [if_neg (by omega)]; simp, sumR_const]
      simp
    · rw [sumR_one g j (by omega), if_neg hj]; simp
theorem cnt_succ (L : Nat) (o : Nat → Nat) (j : Nat) : cnt (L + 1) o j = cnt L o j + (if o L = j then 1 else 0) := sumR_succ ..
theorem cnt_nonneg (o : Nat → Nat) (j : Nat) : ∀ L, 0 ≤ cnt L o j
  | 0 => Int.le_refl _
  | L + 1 => by rw [cnt_succ]; have := cnt_nonneg o j L; split <;> omega
/-- What each has, as often as it has it. -/
theorem sum_count (g : Nat → Int) : ∀ {L : Nat}, (∀ q, q < L → o q < S) → sumR L (fun q => g (o q)) = sumR S (fun i => cnt L o i * g i)
  | 0, _ => by
    have : sumR S (fun i => cnt 0 o i * g i) = sumR S (fun _ => 0) := sumR_congr fun i _ => by show (0 : Int) * g i = 0; simp
    rw [this, sumR_const]; simp [sumR]
  | L + 1, h => by
    rw [sumR_succ, sum_count g fun q hq => h q (by omega)]
    have h1 : sumR S (fun i => cnt (L + 1) o i * g i) = sumR S (fun i => cnt L o i * g i + (if o L = i then 1 else 0) * g i) := sumR_congr fun i _ => by rw [cnt_succ, Int.add_mul]
    rw [h1, sumR_add, sumR_one g (o L) (h L (by omega))]
/-- Prices that hold prove no more than any order takes. -/
theorem weak {a b : Nat → Int} (V : Valid L S E may o) (hb : ∀ i, i < S → 0 ≤ b i) (h : ∀ i k, i < S → k < L → may i k → a k - b i ≤ t i k) : sumR L a - E * sumR S b ≤ cost L t o := by
  have h1 : sumR L a ≤ sumR L (fun q => t (o q) q + b (o q)) := sumR_le fun q hq => by have := h (o q) q (V.sk q hq) hq (V.cl q hq); omega
  rw [sumR_add, sum_count b V.sk] at h1
  have h2 : sumR S (fun i => cnt L o i * b i) ≤ sumR S (fun i => (E : Int) * b i) := sumR_le fun i hi => Int.mul_le_mul_of_nonneg_right (V.of i) (hb i hi)
  rw [sumR_mul] at h2
  unfold cost
  omega
/-- What is so when nothing can be lowered any more. -/
structure Still (L S E : Nat) (may : Nat → Nat → Prop) (t : Nat → Nat → Int) (o : Nat → Nat) (p : Vx → Int) : Prop where
  still : ∀ u v, Ed L S E may o u v → p v ≤ p u + wt t u v
def legP (p : Vx → Int) (k : Nat) : Int := p .fr - p (.leg k)
def skP (p : Vx → Int) (i : Nat) : Int := max 0 (p .fr - p (.sk i))
theorem price_ok {p : Vx → Int} (H : Still L S E may t o p) {i k : Nat} (hi : i < S) (hk : k < L) (hm : may i k) : legP p k - skP p i ≤ t i k := by
  have := H.still _ _ (.take k i hk hi hm)
  unfold legP skP
  simp only [wt] at this
  omega
theorem price_sum {p : Vx → Int} (V : Valid L S E may o) (hE : 1 ≤ E) (H : Still L S E may t o p) : sumR L (legP p) - E * sumR S (skP p) = cost L t o := by
  have h1 : sumR L (legP p) = sumR L (fun q => t (o q) q + (p .fr - p (.sk (o q)))) := sumR_congr fun q hq => by
    have h2 := H.still _ _ (.take q (o q) hq (V.sk q hq) (V.cl q hq))
    have h3 := H.still _ _ (.give q hq (V.sk q hq))
    simp only [wt] at h2 h3
    unfold legP
    omega
  rw [sumR_add, sum_count (fun i => p .fr - p (.sk i)) V.sk] at h1
  have h2 : sumR S (fun i => cnt L o i * (p .fr - p (.sk i))) = sumR S (fun i => (E : Int) * skP p i) := sumR_congr fun i hi => by
    have hc := V.of i
    have hc0 := cnt_nonneg o i L
    unfold skP
    by_cases h3 : cnt L o i = E
    · have h4 := H.still _ _ (.used i hi (by omega))
      simp only [wt] at h4
      rw [h3, Int.max_eq_right (by omega)]
    · have h4 := H.still _ _ (.room i hi (by omega))
      simp only [wt] at h4
      rw [Int.max_eq_left (by omega)]
      by_cases h5 : cnt L o i = 0
      · rw [h5]; simp
      · have h6 := H.still _ _ (.used i hi (by omega))
        simp only [wt] at h6
        rw [show p .fr - p (.sk i) = 0 by omega]; simp
  rw [h2, sumR_mul] at h1
  unfold cost
  omega
end
end Go.Proofs.Lw
end
