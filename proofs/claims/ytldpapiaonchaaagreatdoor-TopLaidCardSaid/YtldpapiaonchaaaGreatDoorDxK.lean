/-
  TopLaid: the reference: who can have hit what, sets of lanes, what they lack.
-/
import Derived.Test.YtldpapiaonchaaaGreatDoorDxH0
namespace Go.Proofs.Dx
open Go Go.Ab Go.Proofs.Dw
set_option maxRecDepth 100000
set_option maxHeartbeats 40000000
theorem has39 (set lane : Nat) (hs : set < 1000000) (hl : lane < 1000) : Rets Tryz.prog E 39 [.d (.int .i64 set), .d (.int .i64 lane)] (.d (.bool (set.testBit lane))) := by
  refine sm_of HE true (by kernel_rfl) ?_
  conv => whnf
  refine loops_by (fun x : Nat × Nat => match x with | (i, y) => ⟨16, [(0, .d (.int .i64 y)), (1, .d (.int .i64 lane)), (4, .d (.bool false)), (5, .d (.int .i64 i))], .unk, [], []⟩) (fun x => x.1 ≤ lane ∧ x.2 = set / 2 ^ x.1) (fun x => lane - x.1) (0, set) ⟨Nat.zero_le _, by simp⟩ ?_
  rintro f ⟨i, y⟩ ⟨hi, hy⟩ ih
  simp only at hi hy
  have hle : set / 2 ^ i ≤ set := Nat.div_le_self _ _
  conv => whnf
  cases h1 : ltI (i : Int) (lane : Int)
  case true =>
    have h1 := ltI_t h1
    have e : IntKind.i64.wrap ((y : Int).tdiv 2) = ((y / 2 : Nat) : Int) := by
      rw [show ((y : Int).tdiv 2) = ((y / 2 : Nat) : Int) from rfl, wrap_i64] <;> omega
    conv => whnf
    rw [e]
    conv => whnf
    rw [wrap_succ (by omega)]
    exact ih (i + 1, y / 2) ⟨by simp only; omega, by simp only; rw [hy, Nat.div_div_eq_div_mul, ← Nat.pow_succ]⟩ (by simp only; omega)
  have h1 := ltI_f h1
  obtain rfl : i = lane := by omega
  conv => whnf
  rw [show ((y : Int).tmod 2) = ((y % 2 : Nat) : Int) from rfl]
  have hm : y % 2 = 0 ∨ y % 2 = 1 := by omega
  have ht : set.testBit i = decide (y % 2 = 1) := by rw [hy]; exact Nat.testBit_eq_decide_div_mod_eq
  rw [ht]
  rcases hm with hm | hm
  · rw [hm]
    exact ⟨rfl, rfl⟩
  · rw [hm]
    exact ⟨rfl, rfl⟩
def canB (A : List (Int × Int)) (s l : Int) : Bool := decide ((s, l) ∈ A ∨ s = l)
theorem can28 (S N : List Int) (A : List (Int × Int)) (s l : Int) (hA : A.length < 4611686018427387904) : Rets Tryz.prog E 28 [.d (boD S N A), .d (.int .i64 s), .d (.int .i64 l)] (.d (.bool (canB A s l))) := by
  refine sm_of HE true (by kernel_rfl) ?_
  unfold boD boL
  conv => whnf
  refine loops_by (fun i : Nat => ⟨27, [(1, .d (.int .i64 s)), (2, .d (.int .i64 l)), (3, .ptr 0 0 0 3), (6, .d (.bool false)), (7, .d (.int .i64 i))], .unk, [.row (.ds (boL S N A)) 0 0 []], []⟩) (fun i => i ≤ A.length ∧ (s, l) ∉ A.take i) (fun i => A.length - i) 0 ⟨Nat.zero_le _, by simp⟩ ?_
  rintro f i ⟨hi, hn⟩ ih
  unfold boL
  conv => whnf
  cases h1 : ltI (i : Int) (A.length : Int)
  case false =>
    have h1 := ltI_f h1
    obtain rfl : i = A.length := by omega
    rw [List.take_length] at hn
    conv => whnf
    have e : eqI s l = canB A s l := by
      unfold canB
      rw [eqI_eq]
      exact decide_eq_decide.2 ⟨.inr, fun h => h.resolve_left hn⟩
    rw [e]
    exact ⟨rfl, rfl⟩
  have h1 := ltI_t h1
  obtain ⟨p, hp⟩ := at_some (l := A) (i := i) (by omega)
  conv => whnf
  rw [blt_t (i := i) (n := A.length) (by omega)]
  conv => whnf
  rw [ble_t (i := i * 2 + 2) (n := (encP A).length) (by rw [encP_length]; omega)]
  conv => whnf
  rw [encP_at hp]
  conv => whnf
  have hts : A.take (i + 1) = A.take i ++ [p] := take_snoc hp
  have e : andB (eqI p.1 s) (andB (eqI p.2 l) true) = decide ((s, l) = p) := by
    rw [eqI_eq, eqI_eq]
    by_cases h1 : p.1 = s
    · by_cases h2 : p.2 = l
      · rw [decide_eq_true h1, decide_eq_true h2, decide_eq_true (show (s, l) = p from Prod.ext h1.symm h2.symm)]; rfl
      · rw [decide_eq_true h1, decide_eq_false h2, decide_eq_false (fun h : (s, l) = p => h2 (congrArg Prod.snd h).symm)]; rfl
    · rw [decide_eq_false h1, decide_eq_false (fun h : (s, l) = p => h1 (congrArg Prod.fst h).symm)]; rfl
  rw [e]
  by_cases hsp : (s, l) = p
  · rw [decide_eq_true hsp]
    conv => whnf
    have : canB A s l = true := decide_eq_true (.inl (hsp ▸ List.mem_of_getElem? hp))
    rw [this]
    exact ⟨rfl, rfl⟩
  · rw [decide_eq_false hsp]
    conv => whnf
    rw [wrap_succ (by omega)]
    exact ih (i + 1) ⟨by omega, by rw [hts, List.mem_append, List.mem_singleton]; exact fun h => h.elim hn hsp⟩ (by omega)
theorem canB_iff {n s l : Nat} {A : List (Int × Int)} (hs : s < n) : canB A s l = true ↔ cP (mayL n A) s l := by
  unfold canB cP
  rw [decide_eq_true_eq, may_mem, dg_mem]
  constructor
  · rintro (h | h)
    · exact .inr h
    · exact .inl ⟨s, hs, by rw [show l = s by omega]⟩
  · rintro (⟨q, _, h⟩ | h)
    · injection h with h1 h2; exact .inr (by omega)
    · exact .inl h
open Classical in
/-- What is lacking so far: of skiers and lanes below s. -/
noncomputable def lkg (S N : List Int) (A : List (Int × Int)) (W : Nat → Prop) (but : Nat) (q : Nat) : Int :=
  (if W q then fn N q else 0) - (if q ≠ but ∧ ∃ l, l < S.length ∧ W l ∧ cP (mayL S.length A) q l then fn S q else 0)
theorem lkg_some {S N : List Int} {A : List (Int × Int)} {W : Nat → Prop} {but q : Nat} (h : q ≠ but ∧ ∃ l, l < S.length ∧ W l ∧ cP (mayL S.length A) q l) : (W q → lkg S N A W but q = fn N q - fn S q) ∧ (¬ W q → lkg S N A W but q = - fn S q) := by
  unfold lkg
  rw [if_pos h]
  exact ⟨fun h1 => by rw [if_pos h1], fun h1 => by rw [if_neg h1]; omega⟩
theorem lkg_none {S N : List Int} {A : List (Int × Int)} {W : Nat → Prop} {but q : Nat} (h : ¬ (q ≠ but ∧ ∃ l, l < S.length ∧ W l ∧ cP (mayL S.length A) q l)) : (W q → lkg S N A W but q = fn N q) ∧ (¬ W q → lkg S N A W but q = 0) := by
  unfold lkg
  rw [if_neg h]
  exact ⟨fun h1 => by rw [if_pos h1]; omega, fun h1 => by rw [if_neg h1]; omega⟩
theorem lkg_lack (S N : List Int) (A : List (Int × Int)) (W : Nat → Prop) (but : Nat) : sumR S.length (lkg S N A W but) = lack S.length (fn S) (fn N) (cP (mayL S.length A)) W but := sumR_sub _ _ _
theorem lkg_in {S N : List Int} {A : List (Int × Int)} (O : OkB S N A) (W : Nat → Prop) (but q : Nat) (hq : q < S.length) : -8 ≤ lkg S N A W but q ∧ lkg S N A W but q ≤ 5 := by
  have h1 := O.s q hq
  have h2 := O.n q hq
  unfold lkg
  split <;> split <;> omega
theorem sum_in {f : Nat → Int} {n : Nat} : ∀ {k : Nat}, k ≤ n → (∀ q, q < n → -8 ≤ f q ∧ f q ≤ 5) → -8 * (k : Int) ≤ sumR k f ∧ sumR k f ≤ 5 * (k : Int)
  | 0, _, _ => by simp [sumR]
  | k + 1, hk, h => by
    have := sum_in (k := k) (n := n) (by omega) h
    have := h k (by omega)
    rw [sumR_succ]; omega
theorem lacking30 {S N : List Int} {A : List (Int × Int)} (O : OkB S N A) (hA : A.length < 4611686018427387904) (set : Nat) (hset : set < 1000000) (but : Int) (bn : Nat) (hb : ∀ s, s < S.length → (but = s ↔ bn = s)) :
    Rets Tryz.prog E 30 [.d (boD S N A), .d (.int .i64 set), .d (.int .i64 but), .d (.int .i64 (-1)), .d (.int .i64 (-1))] (.d (.int .i64 (lack S.length (fn S) (fn N) (cP (mayL S.length A)) (fun l => set.testBit l = true) bn))) := by
  have h8 := O.h1
  have hN := O.hN
  have hcan := fun (s l : Nat) => can28 S N A s l hA
  rw [← lkg_lack]
  refine sm_of HE true (by kernel_rfl) ?_
  unfold boD boL at hcan ⊢
  conv => whnf
  refine loops_by (fun x : Nat × Int => match x with | (s, o) => ⟨76, [(1, .d (.int .i64 set)), (2, .d (.int .i64 but)), (3, .d (.int .i64 (-1))), (4, .d (.int .i64 (-1))), (5, .ptr 0 0 0 3), (10, .d (.int .i64 0)), (11, .d (.int .i64 o)), (12, .d (.int .i64 s))], .unk, [.row (.ds (boL S N A)) 0 0 []], []⟩)
    (fun x => x.1 ≤ S.length ∧ x.2 = sumR x.1 (lkg S N A (fun l => set.testBit l = true) bn)) (fun x => S.length - x.1) (0, 0) ⟨Nat.zero_le _, rfl⟩ ?_
  rintro f ⟨s, o⟩ ⟨hs, ho⟩ ih
  simp only at hs ho
  have hob := sum_in (k := s) hs fun q hq => lkg_in O (fun l => set.testBit l = true) bn q hq
  unfold boL
  conv => whnf
  cases h1 : ltI (s : Int) (S.length : Int)
  case false =>
    have h1 := ltI_f h1
    obtain rfl : s = S.length := by omega
    conv => whnf
    rw [ho]
    exact ⟨rfl, rfl⟩
  have h1 := ltI_t h1
  have hsS : s < S.length := by omega
  have hx := at_fn hsS
  have hy := at_fn (l := N) (q := s) (by omega)
  have hxb := O.s s hsS
  have hyb := O.n s hsS
  have hhas := fun l (hl : l < 1000) => has39 set l hset hl
  obtain ⟨o1, ho1⟩ : ∃ o1, o1 = o + (if set.testBit s = true then fn N s else 0) := ⟨_, rfl⟩
  have ho1b : -8 * (s : Int) ≤ o1 ∧ o1 ≤ 5 * (s : Int) + 5 := by rw [ho1]; split <;> omega
  conv => whnf
  refine Rets.use (hhas s (by omega)) ?_
  cases htb : set.testBit s
  · have e1 : o = o1 := by rw [ho1, htb]; simp
    conv => whnf
    rw [e1]
    refine loops_by (fun y : Nat × Bool => match y with | (l, b) => ⟨76, [(1, .d (.int .i64 set)), (2, .d (.int .i64 but)), (3, .d (.int .i64 (-1))), (4, .d (.int .i64 (-1))), (5, .ptr 0 0 0 3), (10, .d (.int .i64 0)), (11, .d (.int .i64 o1)), (12, .d (.int .i64 s)), (13, .d (.bool b)), (14, .d (.int .i64 l))], .unk, [.row (.ds (boL S N A)) 0 0 []], []⟩)
      (fun y => y.1 ≤ S.length ∧ (y.2 = true ↔ ∃ k, k < y.1 ∧ set.testBit k = true ∧ cP (mayL S.length A) s k)) (fun y => S.length - y.1) (0, false) ⟨Nat.zero_le _, ⟨fun h => (Bool.noConfusion h : _), fun ⟨k, h, _⟩ => absurd h (by simp)⟩⟩ ?_
    rintro f2 ⟨l, b⟩ ⟨hl, hb2⟩ ih2
    simp only at hl hb2
    unfold boL
    conv => whnf
    cases h2 : ltI (l : Int) (N.length : Int)
    case true =>
      have h2 := ltI_t h2
      conv => whnf
      cases b
      case true =>
        conv => whnf
        rw [wrap_succ (by omega)]
        refine ih2 (l + 1, true) ⟨by simp only; omega, ⟨fun _ => ?_, fun _ => rfl⟩⟩ (by simp only; omega)
        obtain ⟨k, k1, k2, k3⟩ := hb2.1 rfl
        exact ⟨k, by simp only; omega, k2, k3⟩
      have hno : ¬ ∃ k, k < l ∧ set.testBit k = true ∧ cP (mayL S.length A) s k := fun h => Bool.noConfusion (hb2.2 h)
      conv => whnf
      refine Rets.use (hhas l (by omega)) ?_
      cases htl : set.testBit l
      case false =>
        conv => whnf
        rw [wrap_succ (by omega)]
        refine ih2 (l + 1, false) ⟨by simp only; omega, ⟨fun h => (Bool.noConfusion h : _), fun ⟨k, k1, k2, k3⟩ => ?_⟩⟩ (by simp only; omega)
        simp only at k1
        by_cases hkl : k = l
        · subst hkl; rw [htl] at k2; cases k2
        · exact absurd ⟨k, by omega, k2, k3⟩ hno
      conv => whnf
      refine Rets.use (hcan s l) ?_
      cases hcl : canB A s l
      case false =>
        conv => whnf
        rw [wrap_succ (by omega)]
        refine ih2 (l + 1, false) ⟨by simp only; omega, ⟨fun h => (Bool.noConfusion h : _), fun ⟨k, k1, k2, k3⟩ => ?_⟩⟩ (by simp only; omega)
        simp only at k1
        by_cases hkl : k = l
        · subst hkl; rw [(canB_iff hsS).2 k3] at hcl; cases hcl
        · exact absurd ⟨k, by omega, k2, k3⟩ hno
      conv => whnf
      rw [wrap_succ (by omega)]
      exact ih2 (l + 1, true) ⟨by simp only; omega, ⟨fun _ => ⟨l, by simp only; omega, htl, (canB_iff hsS).1 hcl⟩, fun _ => rfl⟩⟩ (by simp only; omega)
    have h2 := ltI_f h2
    obtain rfl : l = S.length := by omega
    conv => whnf
    cases b
    · conv => whnf
      rw [wrap_succ (by omega)]
      refine ih (s + 1, _) ⟨by simp only; omega, ?_⟩ (by simp only; omega)
      simp only
      rw [sumR_succ, ← ho]
      rw [(lkg_none (N := N) (W := fun l => set.testBit l = true) (but := bn) (fun h => Bool.noConfusion (hb2.2 h.2))).2 (by rw [htb]; simp)]
      omega
    · conv => whnf
      cases hsb : eqI (s : Int) but
      · have hsb := eqI_f hsb
        conv => whnf
        rw [blt_t (i := s) (n := S.length) hsS]
        conv => whnf
        rw [encI_get1 hx]
        conv => whnf
        rw [wrap_i64 (n := o1 - fn S s) (by omega) (by omega)]
        conv => whnf
        rw [wrap_succ (by omega)]
        refine ih (s + 1, _) ⟨by simp only; omega, ?_⟩ (by simp only; omega)
        simp only
        rw [sumR_succ, ← ho]
        rw [(lkg_some (N := N) (W := fun l => set.testBit l = true) (but := bn) ⟨fun h => hsb ((hb s hsS).2 h.symm).symm, hb2.1 rfl⟩).2 (by rw [htb]; simp)]
        omega
      · have hsb := eqI_t hsb
        conv => whnf
        rw [wrap_succ (by omega)]
        refine ih (s + 1, _) ⟨by simp only; omega, ?_⟩ (by simp only; omega)
        simp only
        rw [sumR_succ, ← ho]
        rw [(lkg_none (N := N) (W := fun l => set.testBit l = true) (but := bn) (fun h => h.1 ((hb s hsS).1 hsb.symm).symm)).2 (by rw [htb]; simp)]
        omega
  · have e1 : o + fn N s = o1 := by rw [ho1, htb]; simp
    conv => whnf
    rw [blt_t (i := s) (n := N.length) (by omega)]
    conv => whnf
    rw [encI_get1 hy]
    conv => whnf
    rw [wrap_i64 (n := o + fn N s) (by omega) (by omega), e1]
    conv => whnf
    refine loops_by (fun y : Nat × Bool => match y with | (l, b) => ⟨76, [(1, .d (.int .i64 set)), (2, .d (.int .i64 but)), (3, .d (.int .i64 (-1))), (4, .d (.int .i64 (-1))), (5, .ptr 0 0 0 3), (10, .d (.int .i64 0)), (11, .d (.int .i64 o1)), (12, .d (.int .i64 s)), (13, .d (.bool b)), (14, .d (.int .i64 l))], .unk, [.row (.ds (boL S N A)) 0 0 []], []⟩)
      (fun y => y.1 ≤ S.length ∧ (y.2 = true ↔ ∃ k, k < y.1 ∧ set.testBit k = true ∧ cP (mayL S.length A) s k)) (fun y => S.length - y.1) (0, false) ⟨Nat.zero_le _, ⟨fun h => (Bool.noConfusion h : _), fun ⟨k, h, _⟩ => absurd h (by simp)⟩⟩ ?_
    rintro f2 ⟨l, b⟩ ⟨hl, hb2⟩ ih2
    simp only at hl hb2
    unfold boL
    conv => whnf
    cases h2 : ltI (l : Int) (N.length : Int)
    case true =>
      have h2 := ltI_t h2
      conv => whnf
      cases b
      case true =>
        conv => whnf
        rw [wrap_succ (by omega)]
        refine ih2 (l + 1, true) ⟨by simp only; omega, ⟨fun _ => ?_, fun _ => rfl⟩⟩ (by simp only; omega)
        obtain ⟨k, k1, k2, k3⟩ := hb2.1 rfl
        exact ⟨k, by simp only; omega, k2, k3⟩
      have hno : ¬ ∃ k, k < l ∧ set.testBit k = true ∧ cP (mayL S.length A) s k := fun h => Bool.noConfusion (hb2.2 h)
      conv => whnf
      refine Rets.use (hhas l (by omega)) ?_
      cases htl : set.testBit l
      case false =>
        conv => whnf
        rw [wrap_succ (by omega)]
        refine ih2 (l + 1, false) ⟨by simp only; omega, ⟨fun h => (Bool.noConfusion h : _), fun ⟨k, k1, k2, k3⟩ => ?_⟩⟩ (by simp only; omega)
        simp only at k1
        by_cases hkl : k = l
        · subst hkl; rw [htl] at k2; cases k2
        · exact absurd ⟨k, by omega, k2, k3⟩ hno
      conv => whnf
      refine Rets.use (hcan s l) ?_
      cases hcl : canB A s l
      case false =>
        conv => whnf
        rw [wrap_succ (by omega)]
        refine ih2 (l + 1, false) ⟨by simp only; omega, ⟨fun h => (Bool.noConfusion h : _), fun ⟨k, k1, k2, k3⟩ => ?_⟩⟩ (by simp only; omega)
        simp only at k1
        by_cases hkl : k = l
        · subst hkl; rw [(canB_iff hsS).2 k3] at hcl; cases hcl
        · exact absurd ⟨k, by omega, k2, k3⟩ hno
      conv => whnf
      rw [wrap_succ (by omega)]
      exact ih2 (l + 1, true) ⟨by simp only; omega, ⟨fun _ => ⟨l, by simp only; omega, htl, (canB_iff hsS).1 hcl⟩, fun _ => rfl⟩⟩ (by simp only; omega)
    have h2 := ltI_f h2
    obtain rfl : l = S.length := by omega
    conv => whnf
    cases b
    · conv => whnf
      rw [wrap_succ (by omega)]
      refine ih (s + 1, _) ⟨by simp only; omega, ?_⟩ (by simp only; omega)
      simp only
      rw [sumR_succ, ← ho]
      rw [(lkg_none (N := N) (W := fun l => set.testBit l = true) (but := bn) (fun h => Bool.noConfusion (hb2.2 h.2))).1 htb]
      omega
    · conv => whnf
      cases hsb : eqI (s : Int) but
      · have hsb := eqI_f hsb
        conv => whnf
        rw [blt_t (i := s) (n := S.length) hsS]
        conv => whnf
        rw [encI_get1 hx]
        conv => whnf
        rw [wrap_i64 (n := o1 - fn S s) (by omega) (by omega)]
        conv => whnf
        rw [wrap_succ (by omega)]
        refine ih (s + 1, _) ⟨by simp only; omega, ?_⟩ (by simp only; omega)
        simp only
        rw [sumR_succ, ← ho]
        rw [(lkg_some (N := N) (W := fun l => set.testBit l = true) (but := bn) ⟨fun h => hsb ((hb s hsS).2 h.symm).symm, hb2.1 rfl⟩).1 htb]
        omega
      · have hsb := eqI_t hsb
        conv => whnf
        rw [wrap_succ (by omega)]
        refine ih (s + 1, _) ⟨by simp only; omega, ?_⟩ (by simp only; omega)
        simp only
        rw [sumR_succ, ← ho]
        rw [(lkg_none (N := N) (W := fun l => set.testBit l = true) (but := bn) (fun h => h.1 ((hb s hsS).1 hsb.symm).symm)).1 htb]
        omega
end Go.Proofs.Dx
