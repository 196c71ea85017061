/-
  TopLaid: the reference: sets of lanes; whether there is an assignment; lanes as a set.
-/
import Derived.Test.YtldpapiaonchaaaGreatDoorDxK
section
namespace Go.Proofs.Dx
open Go Go.Ab Go.Proofs.Dw
set_option maxRecDepth 100000
set_option maxHeartbeats 40000000
theorem sets52 (S N : List Int) (A : List (Int × Int)) (hN : N.length ≤ 8) : Rets Tryz.prog E 52 [.d (boD S N A)] (.d (.int .i64 (2 ^ N.length : Nat))) := by
  have hp : ∀ i, i ≤ N.length → 2 ^ i ≤ 256 := fun i hi => Nat.pow_le_pow_right (n := 2) (by decide) (show i ≤ 8 by omega)
  refine sm_of HE true (by kernel_rfl) ?_
  unfold boD boL
  conv => whnf
  refine loops_by (fun x : Nat × Nat => match x with | (i, y) => ⟨15, [(1, .ptr 0 0 0 3), (2, .d (.int .i64 0)), (3, .d (.int .i64 y)), (4, .d (.int .i64 i))], .unk, [.row (.ds (boL S N A)) 0 0 []], []⟩) (fun x => x.1 ≤ N.length ∧ x.2 = 2 ^ x.1) (fun x => N.length - x.1) (0, 1) ⟨Nat.zero_le _, rfl⟩ ?_
  rintro f ⟨i, y⟩ ⟨hi, hy⟩ ih
  simp only at hi hy
  have hb := hp i hi
  unfold boL
  conv => whnf
  cases h1 : ltI (i : Int) (N.length : Int)
  case true =>
    have h1 := ltI_t h1
    conv => whnf
    rw [show IntKind.i64.wrap (2 * (y : Int)) = ((2 * y : Nat) : Int) from by rw [wrap_i64] <;> omega]
    conv => whnf
    rw [wrap_succ (by omega)]
    exact ih (i + 1, 2 * y) ⟨by simp only; omega, by simp only; rw [hy, Nat.pow_succ]; omega⟩ (by simp only; omega)
  have h1 := ltI_f h1
  obtain rfl : i = N.length := by omega
  conv => whnf
  rw [hy]
  exact ⟨rfl, rfl⟩
theorem possible38 {S N : List Int} {A : List (Int × Int)} (O : OkB S N A) (hA : A.length < 4611686018427387904) (he : ∃ h, Asg S.length (fn S) (fn N) (cP (mayL S.length A)) h) :
    Rets Tryz.prog E 38 [.d (boD S N A), .d (.int .i64 (-1)), .d (.int .i64 (-1))] (.d (.bool true)) := by
  have hN := O.hN
  have h8 := O.h1
  have hp : 2 ^ N.length ≤ 256 := Nat.pow_le_pow_right (n := 2) (by decide) (show N.length ≤ 8 by omega)
  have hse := sets52 S N A (by omega)
  have hlk := fun (set : Nat) (h : set < 1000000) => lacking30 O hA set h (-1) S.length (fun s hs => ⟨fun h => absurd h (by omega), fun h => absurd h (by omega)⟩)
  obtain ⟨h, As⟩ := he
  refine sm_of HE true (by kernel_rfl) ?_
  unfold boD boL at hse hlk ⊢
  conv => whnf
  refine loops_by (fun i : Nat => ⟨20, [(1, .d (.int .i64 (-1))), (2, .d (.int .i64 (-1))), (3, .ptr 0 0 0 3), (6, .d (.bool false)), (7, .d (.int .i64 i))], .unk, [.row (.ds (boL S N A)) 0 0 []], []⟩) (fun i => i ≤ 2 ^ N.length) (fun i => 2 ^ N.length - i) 0 (Nat.zero_le _) ?_
  rintro f i hi ih
  have hle := As.short (fun l => i.testBit l = true)
  unfold boL
  conv => whnf
  refine Rets.use hse ?_
  conv => whnf
  cases h1 : ltI (i : Int) ((2 ^ N.length : Nat) : Int)
  case false =>
    conv => whnf
    exact ⟨rfl, rfl⟩
  have h1 := ltI_t h1
  conv => whnf
  refine Rets.use (hlk i (by omega)) ?_
  conv => whnf
  rw [ltI_ff hle]
  conv => whnf
  rw [wrap_succ (by omega)]
  exact ih (i + 1) (by omega) (by omega)
/-! ### Lanes as a set -/
theorem nL_of {l : List Int} (h : ∀ x ∈ l, 0 ≤ x) : ∃ c, l = nL c := by
  refine ⟨l.map Int.toNat, ?_⟩
  unfold nL
  rw [List.map_map]
  conv => lhs; rw [← List.map_id l]
  exact List.map_congr_left fun x hx => by have := h x hx; show x = ((x.toNat : Nat) : Int); omega
theorem nL_inj : ∀ {c d : List Nat}, nL c = nL d → c = d
  | [], [], _ => rfl
  | [], _ :: _, h => by simp [nL] at h
  | _ :: _, [], h => by simp [nL] at h
  | a :: c, b :: d, h => by
    have h' : ((a : Int) :: nL c) = (b : Int) :: nL d := h
    injection h' with h1 h2
    rw [nL_inj h2, Int.ofNat.inj h1]
/-- A number that stands for a set of lanes. -/
structure Bits (w : List Nat) (i m : Nat) : Prop where
  lt : ∀ (q k : Nat), q < i → w[q]? = some k → True
  bit : ∀ j, m.testBit j = true ↔ ∃ q, q < i ∧ w[q]? = some j
def Inc (w : List Nat) (i : Nat) : Prop := ∀ (a b : Nat) x y, a < b → b < i → w[a]? = some x → w[b]? = some y → x < y
theorem bits_next {w : List Nat} {i m k : Nat} (B : Bits w i m) (hm : m < 2 ^ k) (hk : w[i]? = some k) : Bits w (i + 1) (m + 2 ^ k) ∧ m + 2 ^ k < 2 ^ (k + 1) := by
  refine ⟨⟨fun _ _ _ _ => trivial, fun j => ?_⟩, by rw [Nat.pow_succ]; omega⟩
  have e := Nat.two_pow_add_eq_or_of_lt hm 1
  rw [Nat.mul_one] at e
  rw [Nat.add_comm, e, Nat.testBit_or, Nat.testBit_two_pow, Bool.or_eq_true, decide_eq_true_eq, B.bit j]
  constructor
  · rintro (h | ⟨q, h1, h2⟩)
    · exact ⟨i, by omega, by rw [hk, h]⟩
    · exact ⟨q, by omega, h2⟩
  · rintro ⟨q, h1, h2⟩
    by_cases hq : q = i
    · subst hq; rw [hk] at h2; cases h2; exact .inl rfl
    · exact .inr ⟨q, by omega, h2⟩
theorem inc_pair {w : List Nat} (h : Inc w w.length) : w.Pairwise (· < ·) := by
  rw [List.pairwise_iff_getElem]
  intro a b ha hb hab
  exact h a b _ _ hab hb (by simp [ha]) (by simp [hb])
/-- Lanes that are in order. -/
structure LaOk (n : Nat) (w : List Nat) : Prop where
  inc : w.Pairwise (· < ·)
  lt : ∀ k ∈ w, k < n
def LanesP (n : Nat) (l : List Int) (st e : Int) : Prop :=
  (e = 0 ∧ ∃ (w : List Nat) (m : Nat), l = nL w ∧ LaOk n w ∧ st = m ∧ m < 1000000 ∧ ∀ j, m.testBit j = true ↔ j ∈ w) ∨ (e ≠ 0 ∧ ∀ w, l = nL w → ¬ LaOk n w)
end Go.Proofs.Dx
end
section
/-
  TopLaid: the reference: lanes are read as a set.
-/
namespace Go.Proofs.Dx
open Go Go.Ab Go.Proofs.Dw
set_option maxRecDepth 100000
set_option maxHeartbeats 40000000
theorem lanes29 (S N : List Int) (A : List (Int × Int)) (l : List Int) (hN : 1 ≤ N.length ∧ N.length ≤ 8) (hl : l.length < 4611686018427387904) : Sm Tryz.prog E 29 [.d (boD S N A), .d (sl l)] [] (fun v h => (∃ st e, v = .d (.tuple [.int .i64 st, .int .i64 e]) ∧ LanesP N.length l st e) ∧ h = []) := by
  refine sm_of HE true (by kernel_rfl) ?_
  unfold boD boL
  conv => whnf
  refine loops_by (fun i : Nat => ⟨60, [(1, .d (sl l)), (2, .ptr 0 0 0 3), (4, .d (.int .i64 0)), (5, .d (.int .i64 0)), (6, .d (.int .i64 i))], .unk, [.row (.ds (boL S N A)) 0 0 []], []⟩) (fun i => i ≤ l.length ∧ ∀ (q : Nat) x, q < i → l[q]? = some x → 0 ≤ x ∧ x ≤ N.length - 1) (fun i => l.length - i) 0 ⟨Nat.zero_le _, fun q x h => absurd h (by omega)⟩ ?_
  rintro f i ⟨hi, hI⟩ ih
  unfold sl boL
  conv => whnf
  cases h1 : ltI (i : Int) (l.length : Int)
  case true =>
    have h1 := ltI_t h1
    obtain ⟨x, hx⟩ := at_some (l := l) (i := i) (by omega)
    conv => whnf
    rw [blt_t (i := i) (n := l.length) (by omega)]
    conv => whnf
    rw [encI_get1 hx]
    conv => whnf
    rw [wrap_i64 (n := (N.length : Int) - 1) (by omega) (by omega)]
    refine Rets.use (outside_ok x 0 _) ?_
    cases h2 : inB x 0 ((N.length : Int) - 1)
    · have h2 := inB_false h2
      conv => whnf
      refine ⟨⟨0, 1, rfl, .inr ⟨by decide, fun w hw O => h2 ?_⟩⟩, rfl⟩
      subst hw
      obtain ⟨k, hk⟩ := at_some (l := w) (i := i) (by rw [nL_length] at h1; omega)
      have := O.lt k (List.mem_of_getElem? hk)
      rw [nL_at hk] at hx
      cases hx
      omega
    · have h2 := inB_true h2
      conv => whnf
      rw [wrap_succ (by omega)]
      refine ih (i + 1) ⟨by omega, fun q y hq hy => ?_⟩ (by omega)
      by_cases hqi : q = i
      · subst hqi; rw [hx] at hy; cases hy; exact h2
      · exact hI q y (by omega) hy
  have h1 := ltI_f h1
  have hI : ∀ x ∈ l, 0 ≤ x ∧ x ≤ N.length - 1 := fun x hx => by
    obtain ⟨q, hq⟩ := List.getElem?_of_mem hx
    exact hI q x (by have := lt_of_at hq; omega) hq
  obtain ⟨w, rfl⟩ := nL_of fun x hx => (hI x hx).1
  have hw : ∀ k ∈ w, k < N.length := fun k hk => by
    have := hI (k : Int) (by unfold nL; exact List.mem_map.2 ⟨k, hk, rfl⟩)
    omega
  clear ih hI
  rw [nL_length] at hl
  unfold sl
  rw [nL_length]
  conv => whnf
  refine loops_by (fun x : Nat × Nat => match x with | (i, m) => ⟨60, [(1, .d (.slice w.length 1 (encI (nL w)))), (4, .d (.int .i64 0)), (5, .d (.int .i64 0)), (7, .d (.int .i64 m)), (8, .d (.int .i64 i))], .unk, [], []⟩)
    (fun x => x.1 ≤ w.length ∧ Inc w x.1 ∧ Bits w x.1 x.2 ∧ (x.2 = 0 ∧ x.1 = 0 ∨ ∃ j k, x.1 = j + 1 ∧ w[j]? = some k ∧ x.2 < 2 ^ (k + 1))) (fun x => w.length - x.1) (0, 0) ⟨Nat.zero_le _, fun a b x y _ h => absurd h (by omega), ⟨fun _ _ _ _ => trivial, fun j => ⟨fun h => absurd h (by simp), fun ⟨q, h, _⟩ => absurd h (by omega)⟩⟩, .inl ⟨rfl, rfl⟩⟩ ?_
  rintro f2 ⟨i, m⟩ ⟨hi, hInc, hB, hm⟩ ih2
  simp only at hi hInc hB hm
  conv => whnf
  cases g1 : ltI (i : Int) (w.length : Int)
  case false =>
    have g1 := ltI_f g1
    obtain rfl : i = w.length := by omega
    have hm6 : m < 1000000 := by
      rcases hm with ⟨h, _⟩ | ⟨j, k, _, hk, h⟩
      · omega
      · have := hw k (List.mem_of_getElem? hk)
        have : 2 ^ (k + 1) ≤ 2 ^ 8 := Nat.pow_le_pow_right (by decide) (by omega)
        omega
    conv => whnf
    refine ⟨⟨m, 0, rfl, .inl ⟨rfl, w, m, rfl, ⟨inc_pair hInc, hw⟩, rfl, hm6, fun j => ?_⟩⟩, rfl⟩
    rw [hB.bit j]
    constructor
    · rintro ⟨q, _, h⟩; exact List.mem_of_getElem? h
    · intro h
      obtain ⟨q, hq⟩ := List.getElem?_of_mem h
      exact ⟨q, lt_of_at hq, hq⟩
  have g1 := ltI_t g1
  obtain ⟨k, hk⟩ := at_some (l := w) (i := i) (by omega)
  have hkN := hw k (List.mem_of_getElem? hk)
  have hkn := nL_at hk
  have hp : ∀ q, q ≤ k → 2 ^ q ≤ 128 := fun q hq => Nat.pow_le_pow_right (n := 2) (by decide) (show q ≤ 7 by omega)
  cases i with
  | zero =>
    conv => whnf
    have hmk : m < 2 ^ k := by
      rcases hm with ⟨h, _⟩ | ⟨j, _, h, _⟩
      · rw [h]; exact Nat.two_pow_pos k
      · omega
    have hn := bits_next hB hmk hk
    refine loops_by (fun y : Nat × Nat => match y with | (q, b) => ⟨60, [(1, .d (.slice w.length 1 (encI (nL w)))), (4, .d (.int .i64 0)), (5, .d (.int .i64 0)), (7, .d (.int .i64 m)), (8, .d (.int .i64 ((0 : Nat)))), (9, .d (.int .i64 b)), (10, .d (.int .i64 q))], .unk, [], []⟩) (fun y => y.1 ≤ k ∧ y.2 = 2 ^ y.1) (fun y => k - y.1) (0, 1) ⟨Nat.zero_le _, rfl⟩ ?_
    rintro f3 ⟨q, b⟩ ⟨hq, hb⟩ ih3
    simp only at hq hb
    have hqb := hp q hq
    have hkb := hp k (Nat.le_refl k)
    conv => whnf
    rw [blt_t (i := 0) (n := w.length) (by omega)]
    conv => whnf
    rw [encI_get1 hkn]
    conv => whnf
    cases k1 : ltI (q : Int) (k : Int)
    case true =>
      have k1 := ltI_t k1
      conv => whnf
      rw [show IntKind.i64.wrap (2 * (b : Int)) = ((2 * b : Nat) : Int) from by rw [wrap_i64] <;> omega]
      conv => whnf
      rw [wrap_succ (by omega)]
      exact ih3 (q + 1, 2 * b) ⟨by simp only; omega, by simp only; rw [hb, Nat.pow_succ]; omega⟩ (by simp only; omega)
    have k1 := ltI_f k1
    obtain rfl : q = k := by omega
    conv => whnf
    rw [show IntKind.i64.wrap ((m : Int) + (b : Int)) = ((m + b : Nat) : Int) from by rw [wrap_i64] <;> omega]
    conv => whnf
    rw [wrap_succ (by omega)]
    refine ih2 (0 + 1, m + b) ⟨by simp only; omega, ?_, by simp only; rw [hb]; exact hn.1, .inr ⟨0, q, rfl, hk, by simp only; rw [hb]; exact hn.2⟩⟩ (by simp only; omega)
    exact fun a b x y h1 h2 => absurd h2 (by simp only; omega)
  | succ j =>
    obtain ⟨k0, hk0⟩ := at_some (l := w) (i := j) (by omega)
    have hkn0 := nL_at hk0
    conv => whnf
    rw [blt_t (i := j + 1) (n := w.length) (by omega)]
    conv => whnf
    rw [encI_get1 hkn]
    conv => whnf
    rw [show IntKind.i64.wrap (((j + 1 : Nat) : Int) - 1) = (j : Int) from by rw [wrap_i64] <;> omega]
    conv => whnf
    rw [blt_t (i := j) (n := w.length) (by omega)]
    conv => whnf
    rw [encI_get1 hkn0]
    conv => whnf
    cases g2 : leI (k : Int) (k0 : Int)
    case true =>
      have g2 : (k : Int) ≤ k0 := by rw [leI_eq] at g2; exact of_decide_eq_true g2
      conv => whnf
      refine ⟨⟨0, 4, rfl, .inr ⟨by decide, fun w2 hw2 O => ?_⟩⟩, rfl⟩
      obtain rfl := nL_inj hw2
      have hpw := List.pairwise_iff_getElem.1 O.inc j (j + 1) (by omega) (by omega) (by omega)
      rw [List.getElem?_eq_some_iff] at hk hk0
      obtain ⟨_, hk⟩ := hk
      obtain ⟨_, hk0⟩ := hk0
      rw [hk, hk0] at hpw
      omega
    have g2 : ¬ (k : Int) ≤ k0 := by rw [leI_eq] at g2; exact of_decide_eq_false g2
    conv => whnf
    have hmk : m < 2 ^ k := by
      rcases hm with ⟨_, h⟩ | ⟨j2, k2, h, hk2, h3⟩
      · omega
      · obtain rfl : j2 = j := by omega
        rw [hk0] at hk2; cases hk2
        exact Nat.lt_of_lt_of_le h3 (Nat.pow_le_pow_right (by decide) (by omega))
    have hn := bits_next hB hmk hk
    refine loops_by (fun y : Nat × Nat => match y with | (q, b) => ⟨60, [(1, .d (.slice w.length 1 (encI (nL w)))), (4, .d (.int .i64 0)), (5, .d (.int .i64 0)), (7, .d (.int .i64 m)), (8, .d (.int .i64 ((j + 1 : Nat)))), (9, .d (.int .i64 b)), (10, .d (.int .i64 q))], .unk, [], []⟩) (fun y => y.1 ≤ k ∧ y.2 = 2 ^ y.1) (fun y => k - y.1) (0, 1) ⟨Nat.zero_le _, rfl⟩ ?_
    rintro f3 ⟨q, b⟩ ⟨hq, hb⟩ ih3
    simp only at hq hb
    have hqb := hp q hq
    have hkb := hp k (Nat.le_refl k)
    conv => whnf
    rw [blt_t (i := (j + 1)) (n := w.length) (by omega)]
    conv => whnf
    rw [encI_get1 hkn]
    conv => whnf
    cases k1 : ltI (q : Int) (k : Int)
    case true =>
      have k1 := ltI_t k1
      conv => whnf
      rw [show IntKind.i64.wrap (2 * (b : Int)) = ((2 * b : Nat) : Int) from by rw [wrap_i64] <;> omega]
      conv => whnf
      rw [wrap_succ (by omega)]
      exact ih3 (q + 1, 2 * b) ⟨by simp only; omega, by simp only; rw [hb, Nat.pow_succ]; omega⟩ (by simp only; omega)
    have k1 := ltI_f k1
    obtain rfl : q = k := by omega
    conv => whnf
    rw [show IntKind.i64.wrap ((m : Int) + (b : Int)) = ((m + b : Nat) : Int) from by rw [wrap_i64] <;> omega]
    conv => whnf
    rw [wrap_succ (by omega)]
    refine ih2 ((j + 1) + 1, m + b) ⟨by simp only; omega, ?_, by simp only; rw [hb]; exact hn.1, .inr ⟨(j + 1), q, rfl, hk, by simp only; rw [hb]; exact hn.2⟩⟩ (by simp only; omega)
    simp only
    intro a b x y hab hb2 hx hy
    by_cases hbj : b = j + 1
    · subst hbj
      rw [hk] at hy; cases hy
      by_cases haj : a = j
      · subst haj; rw [hk0] at hx; cases hx; omega
      · have := hInc a j x k0 (by omega) (by omega) hx hk0; omega
    · exact hInc a b x y hab (by omega) hx hy
end Go.Proofs.Dx
end
