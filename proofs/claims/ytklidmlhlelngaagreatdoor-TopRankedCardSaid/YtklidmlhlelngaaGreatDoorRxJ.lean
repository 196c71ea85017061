/-
  TopRanked: what a chain that is handed in shows.
-/
import Derived.Test.YtklidmlhlelngaaGreatDoorRxG
namespace Go.Proofs.Rx
open Go Go.Ab Go.Proofs.Rw
set_option maxRecDepth 100000
set_option maxHeartbeats 4000000
def two (sk a b : Int) : Int := match orB (notB (inB a 0 (sk - 1))) (notB (inB b 0 (sk - 1))) with
  | true => 1
  | false => 0
theorem Two_ok (sk er a b : Int) (rs : List Run3) (hc : chk sk er rs = 0) : Rets Tryz.prog E 24 [.d (laD sk er rs), .d (.int .i64 a), .d (.int .i64 b)] (.d (.int .i64 (two sk a b))) := by
  have G := chk_zero hc
  have hk := G.skis
  have hchk := refCheck_ok sk er rs (by have := G.n; omega)
  rw [hc] at hchk
  refine sm_of HE true (by kernel_rfl) ?_
  unfold laD labL two
  conv => whnf
  refine Rets.use hchk ?_
  conv => whnf
  rw [wrap_i64 (n := sk - 1) (by omega) (by omega)]
  refine Rets.use (outside_ok a 0 (sk - 1)) ?_
  conv => whnf
  cases g1 : inB a 0 (sk - 1)
  · conv => whnf
    exact ⟨rfl, rfl⟩
  conv => whnf
  rw [wrap_i64 (n := sk - 1) (by omega) (by omega)]
  refine Rets.use (outside_ok b 0 (sk - 1)) ?_
  conv => whnf
  cases g2 : inB b 0 (sk - 1)
  · conv => whnf
    exact ⟨rfl, rfl⟩
  · conv => whnf
    exact ⟨rfl, rfl⟩
/-- What is found out of a chain: nothing that is wrong is called shown. -/
def ShowsP (er : Int) (rs : List Run3) (a b : Int) : Prop :=
  ∃ l : List (Int × Int), l ≠ [] ∧ (∀ p ∈ l, ∃ r ∈ rs, shw er r = (p, true)) ∧ (∀ (i : Nat) p, l[i]? = some p → (i = 0 → p.1 = a) ∧ (i + 1 = l.length → p.2 = b) ∧ ∀ q, l[i + 1]? = some q → p.2 = q.1)
def ChQ (er : Int) (rs : List Run3) (a b : Int) (v : V) (h : List O) : Prop := h = [] ∧ ∃ (x : Bool) (e : Int), v = .d (.tuple [.bool x, .int .i64 e]) ∧ (x = true → e = 0 → ShowsP er rs a b)
theorem rshw_true {er : Int} {r : Run3} : (rshw er r = (-1, -1) ∧ (shw er r).2 = false) ∨ shw er r = (rshw er r, true) := by
  unfold rshw shw
  rw [ltI_eq, ltI_eq, ltI_eq]
  by_cases h1 : er < r.ld
  · simp [h1]
  · by_cases h2 : er < -r.ld
    · have : r.ld < -er := by omega
      simp [h1, h2, this]
    · have : ¬ r.ld < -er := by omega
      simp [h1, h2, this]
theorem eq_of_n {a b : Int} (h : notB (eqI a b) = false) : a = b := by
  rw [eqI_eq] at h
  by_cases hab : a = b
  · exact hab
  · simp [hab, notB] at h
def gg (er : Int) (rs : List Run3) (x : Int) : Int × Int := match rs[x.toNat]? with
  | some r => rshw er r
  | none => (-1, -1)
theorem ChainShows_ok (sk er a b : Int) (rs : List Run3) (chain : List Int) (hc : chk sk er rs = 0) (hl : chain.length ≤ 50) :
    Sm Tryz.prog E 11 [.d (laD sk er rs), .d (.int .i64 a), .d (.int .i64 b), .d (.slice chain.length 1 (encI chain))] [] (ChQ er rs a b) := by
  have G := chk_zero hc
  have hk := G.skis
  have hn := G.n
  have h2 := Two_ok sk er a b rs hc
  refine sm_of HE true (by kernel_rfl) ?_
  unfold laD labL
  conv => whnf
  refine Rets.use h2 ?_
  unfold two
  cases g1 : orB (notB (inB a 0 (sk - 1))) (notB (inB b 0 (sk - 1)))
  case true =>
    conv => whnf
    exact ⟨rfl, _, _, rfl, fun h => by cases h⟩
  conv => whnf
  refine loops_by (fun i : Nat => ⟨98, [(1, .d (.int .i64 a)), (2, .d (.int .i64 b)), (3, .d (.slice chain.length 1 (encI chain))), (4, .ptr 0 0 0 3), (8, .d (.bool false)), (9, .d (.int .i64 0)), (11, .d (.int .i64 i))], .unk, [.row (.ds (labL sk er rs)) 0 0 []], []⟩)
    (fun i => i ≤ chain.length ∧ ∀ j : Nat, j < i → ∀ x, chain[j]? = some x → 0 ≤ x ∧ x < rs.length) (fun i => chain.length - i) 0 ⟨Nat.zero_le _, fun j hj => absurd hj (Nat.not_lt_zero _)⟩ ?_
  rintro f i ⟨hi, hin⟩ ih
  conv => whnf
  cases h1 : ltI (i : Int) (chain.length : Int)
  case true =>
    have hlt : i < chain.length := by rw [ltI_eq] at h1; have := of_decide_eq_true h1; omega
    have hb : Nat.blt i chain.length = true := by simpa [Nat.blt_eq] using hlt
    obtain ⟨x, hx⟩ : ∃ x, chain[i]? = some x := ⟨chain[i], by simp [hlt]⟩
    conv => whnf
    rw [hb]
    conv => whnf
    rw [encI_get1 hx]
    conv => whnf
    rw [wrap_i64 (n := (rs.length : Int) - 1) (by omega) (by omega)]
    refine Rets.use (outside_ok x 0 ((rs.length : Int) - 1)) ?_
    conv => whnf
    cases g2 : inB x 0 ((rs.length : Int) - 1)
    · conv => whnf
      exact ⟨rfl, _, _, rfl, fun h => by cases h⟩
    · have hx2 := inB_true g2
      conv => whnf
      rw [wrap_succ (by omega)]
      refine ih (i + 1) ⟨by omega, fun j hj y hy => ?_⟩ (by omega)
      by_cases hji : j = i
      · subst hji; rw [hx] at hy; cases hy; omega
      · exact hin j (by omega) y hy
  have hi2 : i = chain.length := by rw [ltI_eq] at h1; have := of_decide_eq_false h1; omega
  subst hi2
  clear ih h1
  refine loops_by (fun i : Nat => ⟨98, [(1, .d (.int .i64 a)), (2, .d (.int .i64 b)), (3, .d (.slice chain.length 1 (encI chain))), (4, .ptr 0 0 0 3), (8, .d (.bool false)), (9, .d (.int .i64 0)), (12, .d (.int .i64 i))], .unk, [.row (.ds (labL sk er rs)) 0 0 []], []⟩)
    (fun i => i ≤ chain.length ∧ ∀ j : Nat, j < i → ∀ x, chain[j]? = some x → 0 ≤ (gg er rs x).1 ∧ (j = 0 → (gg er rs x).1 = a) ∧ (∀ y, chain[j + 1]? = some y → (gg er rs x).2 = (gg er rs y).1) ∧ (j + 1 = chain.length → (gg er rs x).2 = b)) (fun i => chain.length - i) 0 ⟨Nat.zero_le _, fun j hj => absurd hj (Nat.not_lt_zero _)⟩ ?_
  rintro f i ⟨hi, hgg⟩ ih
  conv => whnf
  have hat : ∀ j : Nat, j < chain.length → ∃ n r, chain[j]? = some ((n : Nat) : Int) ∧ rs[n]? = some r ∧ gg er rs (n : Int) = rshw er r ∧ r ∈ rs := by
    intro j hj
    have h3 := hin j hj chain[j] (by simp [hj])
    obtain ⟨n, hn⟩ : ∃ n : Nat, chain[j] = (n : Int) := ⟨chain[j].toNat, by omega⟩
    have hn2 : n < rs.length := by omega
    refine ⟨n, rs[n], by simp [hj, hn], by simp [hn2], ?_, by simp⟩
    unfold gg
    simp [hn2]
  cases h1 : ltI (i : Int) (chain.length : Int)
  case false =>
    have hi2 : i = chain.length := by rw [ltI_eq] at h1; have := of_decide_eq_false h1; omega
    subst hi2
    conv => whnf
    refine ⟨rfl, _, _, rfl, fun hx _ => ⟨chain.map (gg er rs), ?_, ?_, ?_⟩⟩
    · intro h0
      rw [List.map_eq_nil_iff] at h0
      subst h0
      revert hx
      decide
    · intro p hp
      obtain ⟨x, hxm, rfl⟩ := List.mem_map.1 hp
      obtain ⟨j, hj⟩ := List.getElem?_of_mem hxm
      have hjl : j < chain.length := (List.getElem?_eq_some_iff.1 hj).1
      have k1 := (hgg j hjl x hj).1
      obtain ⟨n, r, hx2, hr, hgr, hrm⟩ := hat j hjl
      rw [hj] at hx2
      cases hx2
      rw [hgr] at k1 ⊢
      rcases rshw_true (er := er) (r := r) with ⟨h3, _⟩ | h3
      · rw [h3] at k1
        omega
      · exact ⟨r, hrm, h3⟩
    · intro j p hp
      rw [List.getElem?_map] at hp
      obtain ⟨x, hj, rfl⟩ := Option.map_eq_some_iff.1 hp
      have hjl : j < chain.length := (List.getElem?_eq_some_iff.1 hj).1
      obtain ⟨_, k2, k3, k4⟩ := hgg j hjl x hj
      refine ⟨k2, fun h => k4 (by rw [List.length_map] at h; exact h), fun q hq => ?_⟩
      rw [List.getElem?_map] at hq
      obtain ⟨y, hy, rfl⟩ := Option.map_eq_some_iff.1 hq
      exact k3 y hy
  have hlt : i < chain.length := by rw [ltI_eq] at h1; have := of_decide_eq_true h1; omega
  have hb : Nat.blt i chain.length = true := by simpa [Nat.blt_eq] using hlt
  obtain ⟨n, r, hx, hr, hgr, hrm⟩ := hat i hlt
  conv => whnf
  rw [hb]
  conv => whnf
  rw [encI_get1 hx]
  conv => whnf
  refine Rets.use (refShows_ok sk er rs (G.r r hrm).2 hr) ?_
  unfold prD
  have last := fun (k1 : 0 ≤ (rshw er r).1) (k2 : i = 0 → (rshw er r).1 = a) (k3 : ∀ y, chain[i + 1]? = some y → (rshw er r).2 = (gg er rs y).1) (k4 : i + 1 = chain.length → (rshw er r).2 = b) => ih (i + 1) ⟨by omega, fun j hj y hy => by
    by_cases hji : j = i
    · subst hji; rw [hx] at hy; cases hy; rw [hgr]; exact ⟨k1, k2, k3, k4⟩
    · exact hgg j (by omega) y hy⟩ (by omega)
  conv => whnf
  generalize h0 : ltI 0 (i : Int) = c0
  cases c0
  · have hi0 : i = 0 := by rw [ltI_eq] at h0; have := of_decide_eq_false h0; omega
    conv => whnf
    rw [wrap_i64 (n := (chain.length : Int) - 1) (by omega) (by omega)]
    generalize h1 : ltI (i : Int) ((chain.length : Int) - 1) = c1
    cases c1
    · have hen : i + 1 = chain.length := by rw [ltI_eq] at h1; have := of_decide_eq_false h1; omega
      conv => whnf
      generalize h2 : ltI (rshw er r).1 0 = c2
      cases c2
      case true =>
        conv => whnf
        exact ⟨rfl, _, _, rfl, fun h => by cases h⟩
      conv => whnf
      generalize h3 : notB (eqI (rshw er r).1 a) = c3
      cases c3
      case true =>
        conv => whnf
        exact ⟨rfl, _, _, rfl, fun h => by cases h⟩
      conv => whnf
      generalize h4 : notB (eqI (rshw er r).2 b) = c4
      cases c4
      case true =>
        conv => whnf
        exact ⟨rfl, _, _, rfl, fun h => by cases h⟩
      conv => whnf
      rw [wrap_succ (by omega)]
      rw [ltI_eq] at h2
      have e2 := of_decide_eq_false h2
      have e3 := eq_of_n h3
      have e4 := eq_of_n h4
      exact last (by omega) (fun _ => e3) (fun y hy => absurd (List.getElem?_eq_some_iff.1 hy).1 (by omega)) (fun _ => e4)
    · have hen : i + 1 < chain.length := by rw [ltI_eq] at h1; have := of_decide_eq_true h1; omega
      conv => whnf
      rw [wrap_succ (by omega)]
      obtain ⟨n2, r2, hx2, hr2, hgr2, hrm2⟩ := hat (i + 1) hen
      have hb2 : Nat.blt (i + 1) chain.length = true := by simpa [Nat.blt_eq] using hen
      conv => whnf
      rw [hb2]
      conv => whnf
      rw [encI_get1 hx2]
      conv => whnf
      refine Rets.use (refShows_ok sk er rs (G.r r2 hrm2).2 hr2) ?_
      unfold prD
      conv => whnf
      generalize h2 : ltI (rshw er r).1 0 = c2
      cases c2
      case true =>
        conv => whnf
        exact ⟨rfl, _, _, rfl, fun h => by cases h⟩
      conv => whnf
      generalize h3 : notB (eqI (rshw er r).1 a) = c3
      cases c3
      case true =>
        conv => whnf
        exact ⟨rfl, _, _, rfl, fun h => by cases h⟩
      conv => whnf
      generalize h4 : notB (eqI (rshw er r).2 (rshw er r2).1) = c4
      cases c4
      case true =>
        conv => whnf
        exact ⟨rfl, _, _, rfl, fun h => by cases h⟩
      conv => whnf
      rw [wrap_succ (by omega)]
      rw [ltI_eq] at h2
      have e2 := of_decide_eq_false h2
      have e3 := eq_of_n h3
      have e4 := eq_of_n h4
      exact last (by omega) (fun _ => e3) (fun y hy => by rw [hx2] at hy; cases hy; rw [hgr2]; exact e4) (fun h => absurd h (by omega))
  · obtain ⟨i2, rfl⟩ : ∃ i2, i = i2 + 1 := ⟨i - 1, by rw [ltI_eq] at h0; have := of_decide_eq_true h0; omega⟩
    obtain ⟨n1, r1, hx1, hr1, hgr1, hrm1⟩ := hat i2 (by omega)
    have hb1 : Nat.blt i2 chain.length = true := by rw [Nat.blt_eq]; omega
    have wr1 : IntKind.i64.wrap (((i2 + 1 : Nat) : Int) - 1) = (i2 : Int) := by rw [wrap_i64] <;> omega
    conv => whnf
    rw [wr1]
    conv => whnf
    rw [hb1]
    conv => whnf
    rw [encI_get1 hx1]
    conv => whnf
    refine Rets.use (refShows_ok sk er rs (G.r r1 hrm1).2 hr1) ?_
    unfold prD
    conv => whnf
    rw [wrap_i64 (n := (chain.length : Int) - 1) (by omega) (by omega)]
    generalize h1 : ltI ((i2 + 1 : Nat) : Int) ((chain.length : Int) - 1) = c1
    cases c1
    · have hen : i2 + 1 + 1 = chain.length := by rw [ltI_eq] at h1; have := of_decide_eq_false h1; omega
      conv => whnf
      generalize h2 : ltI (rshw er r).1 0 = c2
      cases c2
      case true =>
        conv => whnf
        exact ⟨rfl, _, _, rfl, fun h => by cases h⟩
      conv => whnf
      generalize h3 : notB (eqI (rshw er r).1 (rshw er r1).2) = c3
      cases c3
      case true =>
        conv => whnf
        exact ⟨rfl, _, _, rfl, fun h => by cases h⟩
      conv => whnf
      generalize h4 : notB (eqI (rshw er r).2 b) = c4
      cases c4
      case true =>
        conv => whnf
        exact ⟨rfl, _, _, rfl, fun h => by cases h⟩
      conv => whnf
      rw [wrap_succ (by omega)]
      rw [ltI_eq] at h2
      have e2 := of_decide_eq_false h2
      have e3 := eq_of_n h3
      have e4 := eq_of_n h4
      exact last (by omega) (fun h => absurd h (by omega)) (fun y hy => absurd (List.getElem?_eq_some_iff.1 hy).1 (by omega)) (fun _ => e4)
    · have hen : i2 + 1 + 1 < chain.length := by rw [ltI_eq] at h1; have := of_decide_eq_true h1; omega
      conv => whnf
      rw [wrap_succ (by omega)]
      obtain ⟨n2, r2, hx2, hr2, hgr2, hrm2⟩ := hat (i2 + 1 + 1) hen
      have hb2 : Nat.blt (i2 + 1 + 1) chain.length = true := by simpa [Nat.blt_eq] using hen
      conv => whnf
      rw [hb2]
      conv => whnf
      rw [encI_get1 hx2]
      conv => whnf
      refine Rets.use (refShows_ok sk er rs (G.r r2 hrm2).2 hr2) ?_
      unfold prD
      conv => whnf
      generalize h2 : ltI (rshw er r).1 0 = c2
      cases c2
      case true =>
        conv => whnf
        exact ⟨rfl, _, _, rfl, fun h => by cases h⟩
      conv => whnf
      generalize h3 : notB (eqI (rshw er r).1 (rshw er r1).2) = c3
      cases c3
      case true =>
        conv => whnf
        exact ⟨rfl, _, _, rfl, fun h => by cases h⟩
      conv => whnf
      generalize h4 : notB (eqI (rshw er r).2 (rshw er r2).1) = c4
      cases c4
      case true =>
        conv => whnf
        exact ⟨rfl, _, _, rfl, fun h => by cases h⟩
      conv => whnf
      rw [wrap_succ (by omega)]
      rw [ltI_eq] at h2
      have e2 := of_decide_eq_false h2
      have e3 := eq_of_n h3
      have e4 := eq_of_n h4
      exact last (by omega) (fun h => absurd h (by omega)) (fun y hy => by rw [hx2] at hy; cases hy; rw [hgr2]; exact e4) (fun h => absurd h (by omega))
end Go.Proofs.Rx
