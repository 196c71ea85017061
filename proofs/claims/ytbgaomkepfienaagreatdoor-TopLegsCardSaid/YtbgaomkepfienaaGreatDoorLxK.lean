/-
  TopLegs: the main function: what an order takes is no less than the best, prices that hold prove no more.
-/
import Derived.Test.YtbgaomkepfienaaGreatDoorLxJ
namespace Go.Proofs.Lx
open Go Go.Ab Go.Proofs.Lw
set_option maxRecDepth 100000
set_option maxHeartbeats 40000000
theorem maxI_eq (a b : Int) : maxI a b = max a b := by
  unfold maxI
  cases h : ltI a b
  · have := ltI_f h; show a = max a b; omega
  · have := ltI_t h; show b = max a b; omega
theorem nL_inj : ∀ {c d : List Nat}, nL c = nL d → c = d
  | [], [], _ => rfl
  | [], _ :: _, h => by simp [nL] at h
  | _ :: _, [], h => by simp [nL] at h
  | a :: c, b :: d, h => by
    have h' : ((a : Int) :: nL c) = (b : Int) :: nL d := h
    injection h' with h1 h2
    rw [nL_inj h2, Int.ofNat.inj h1]
theorem at_map {l : List Int} {g : Int → Int} {k : Nat} (hk : k < l.length) : ((l.map g)[k]?).getD 0 = g ((l[k]?).getD 0) := by
  obtain ⟨x, hx⟩ := at_some hk
  rw [List.getElem?_map, hx]; rfl
theorem prices_hold {r : Ru} {s : Sq} (O : OkS r s) {b : List Nat} {n : Int} (hb : bst s.sc r.pc s.T r.e.toNat = some (b, n)) {lg sk : List Int} {f : Int} (hl : lg.length = r.pc.length) (hs : sk.length = s.sc.length)
    (hr : ∀ v, -400000 ≤ pv lg sk f v ∧ pv lg sk f v ≤ 0) (H : Still r.pc.length s.sc.length r.e.toNat (mayP s.sc r.pc) (tm s.T) (ofn b) (pv lg sk f)) :
    PrOk r s (lg.map fun x => f - x) (sk.map fun x => maxI 0 (f - x)) ∧ (lg.map fun x => f - x).sum - r.e * (sk.map fun x => maxI 0 (f - x)).sum = n := by
  have hE := O.ru.e
  have hB := bst_some hb
  have hf := hr .fr
  simp only [pv] at hf
  constructor
  · refine ⟨by rw [List.length_map, hl], by rw [List.length_map, hs], fun x hx => ?_, fun x hx => ?_, fun x hx => ?_, fun i k x y hx hy hm => ?_⟩
    · obtain ⟨y, hy, rfl⟩ := List.mem_map.1 hx
      obtain ⟨q, hq⟩ := List.getElem?_of_mem hy
      have := hr (.leg q)
      rw [pv_leg hq] at this
      omega
    · obtain ⟨y, hy, rfl⟩ := List.mem_map.1 hx
      obtain ⟨q, hq⟩ := List.getElem?_of_mem hy
      have := hr (.sk q)
      rw [pv_sk hq] at this
      rw [maxI_eq]
      omega
    · obtain ⟨y, hy, rfl⟩ := List.mem_map.1 hx
      rw [maxI_eq]
      omega
    · rw [List.getElem?_map] at hx hy
      obtain ⟨x', hx', rfl⟩ := Option.map_eq_some_iff.1 hx
      obtain ⟨y', hy', rfl⟩ := Option.map_eq_some_iff.1 hy
      have hk : k < r.pc.length := by have := lt_of_at hx'; omega
      have hi : i < s.sc.length := by have := lt_of_at hy'; omega
      have h := price_ok H hi hk hm
      unfold legP skP at h
      rw [pv_leg hx', pv_sk hy'] at h
      simp only [pv] at h
      rw [maxI_eq]
      omega
  · have h := price_sum hB.1.2 (by omega) H
    rw [hB.2.1, ← h, sum_sumR, sum_sumR, List.length_map, List.length_map, hl, hs]
    rw [show ((r.e.toNat : Nat) : Int) = r.e by omega]
    have h1 : sumR r.pc.length (fun k => ((lg.map fun x => f - x)[k]?).getD 0) = sumR r.pc.length (legP (pv lg sk f)) := sumR_congr fun q hq => by
      rw [at_map (by omega)]; rfl
    have h2 : sumR s.sc.length (fun k => ((sk.map fun x => maxI 0 (f - x))[k]?).getD 0) = sumR s.sc.length (skP (pv lg sk f)) := sumR_congr fun q hq => by
      rw [at_map (by omega), maxI_eq]; rfl
    rw [h1, h2]
theorem prices_weak {r : Ru} {s : Sq} (O : OkS r s) {b : List Nat} {n : Int} (hb : bst s.sc r.pc s.T r.e.toNat = some (b, n)) {lg sk : List Int} (h : PrOk r s lg sk) : lg.sum - r.e * sk.sum ≤ n := by
  have hE := O.ru.e
  have hB := bst_some hb
  have h1 := weak (L := r.pc.length) (S := s.sc.length) (E := r.e.toNat) (may := mayP s.sc r.pc) (t := tm s.T) (o := ofn b) (a := fun k => (lg[k]?).getD 0) (b := fun k => (sk[k]?).getD 0) hB.1.2
    (fun i hi => by
      obtain ⟨y, hy⟩ := at_some (l := sk) (i := i) (by have := h.bl; omega)
      simp only [hy, Option.getD_some]
      exact h.bp y (List.mem_of_getElem? hy))
    (fun i k hi hk hm => by
      obtain ⟨y, hy⟩ := at_some (l := sk) (i := i) (by have := h.bl; omega)
      obtain ⟨x, hx⟩ := at_some (l := lg) (i := k) (by have := h.al; omega)
      have := h.ok i k x y hx hy hm
      simp only [hx, hy, Option.getD_some]
      omega)
  rw [hB.2.1, sum_sumR lg, sum_sumR sk, h.al, h.bl]
  rw [show ((r.e.toNat : Nat) : Int) = r.e by omega] at h1
  exact h1
theorem Legs3 (r : Ru) (s : Sq) (order legs skiers : List Int) : Rets Tryz.prog E 3 [.d (ruD r), .d (sqD s), .d (sl order), .d (sl legs), .d (sl skiers)] (.d (.bool true)) := by
  refine sm_of HE true (by kernel_rfl) ?_
  unfold ruD ruL sqD sqL sl
  conv => whnf
  cases g1 : ltI 8 (r.pc.length : Int)
  case true =>
    conv => whnf
    refine Rets.use plays_ok ?_
    conv => whnf
    exact ⟨rfl, rfl⟩
  have g1 := ltI_f g1
  conv => whnf
  cases g2 : ltI 12 (s.sc.length : Int)
  case true =>
    conv => whnf
    refine Rets.use plays_ok ?_
    conv => whnf
    exact ⟨rfl, rfl⟩
  have g2 := ltI_f g2
  conv => whnf
  cases g3 : ltI 16 (s.T.length : Int)
  case true =>
    conv => whnf
    refine Rets.use plays_ok ?_
    conv => whnf
    exact ⟨rfl, rfl⟩
  have g3 := ltI_f g3
  conv => whnf
  cases g4 : ltI 12 (order.length : Int)
  case true =>
    conv => whnf
    refine Rets.use plays_ok ?_
    conv => whnf
    exact ⟨rfl, rfl⟩
  have g4 := ltI_f g4
  conv => whnf
  cases g5 : ltI 12 (legs.length : Int)
  case true =>
    conv => whnf
    refine Rets.use plays_ok ?_
    conv => whnf
    exact ⟨rfl, rfl⟩
  have g5 := ltI_f g5
  conv => whnf
  cases g6 : ltI 16 (skiers.length : Int)
  case true =>
    conv => whnf
    refine Rets.use plays_ok ?_
    conv => whnf
    exact ⟨rfl, rfl⟩
  have g6 := ltI_f g6
  conv => whnf
  refine loops_cut (fun e st => e = .exit 0 ∧ (∀ l ∈ s.T, l.length ≤ 12) ∧ (∃ i : Nat, st = ⟨200, [(2, .d (.slice order.length 1 (encI order))), (3, .d (.slice legs.length 1 (encI legs))), (4, .d (.slice skiers.length 1 (encI skiers))), (5, .ptr 0 0 0 6), (6, .ptr 1 0 0 2), (10, .d (.bool false)), (62, .d (.slice s.T.length 1 (encLL s.T))), (63, .d (.int .i64 s.T.length)), (64, .d (.int .i64 i))], .unk, [.row (.ds (ruL r)) 0 0 [], .row (.ds (sqL s)) 0 0 []], []⟩) ∨ e = .ret ∧ ∃ i : Nat, st = ⟨200, [(2, .d (.slice order.length 1 (encI order))), (3, .d (.slice legs.length 1 (encI legs))), (4, .d (.slice skiers.length 1 (encI skiers))), (5, .ptr 0 0 0 6), (6, .ptr 1 0 0 2), (10, .d (.bool true)), (62, .d (.slice s.T.length 1 (encLL s.T))), (63, .d (.int .i64 s.T.length)), (64, .d (.int .i64 i))], .unk, [.row (.ds (ruL r)) 0 0 [], .row (.ds (sqL s)) 0 0 []], []⟩) ?_ ?_
  · intro K hK
    refine loops_by (fun i : Nat => ⟨200, [(2, .d (.slice order.length 1 (encI order))), (3, .d (.slice legs.length 1 (encI legs))), (4, .d (.slice skiers.length 1 (encI skiers))), (5, .ptr 0 0 0 6), (6, .ptr 1 0 0 2), (10, .d (.bool false)), (62, .d (.slice s.T.length 1 (encLL s.T))), (63, .d (.int .i64 s.T.length)), (64, .d (.int .i64 i))], .unk, [.row (.ds (ruL r)) 0 0 [], .row (.ds (sqL s)) 0 0 []], []⟩) (fun i => i ≤ s.T.length ∧ ∀ (j : Nat) l, j < i → s.T[j]? = some l → l.length ≤ 12) (fun i => s.T.length - i) 0 ⟨Nat.zero_le _, fun j l h => absurd h (by omega)⟩ ?_
    rintro f i ⟨hi, hA⟩ ih
    conv => whnf
    cases h1 : ltI (i : Int) (s.T.length : Int)
    case false =>
      have h1 := ltI_f h1
      conv => whnf
      exact hK _ _ (.inl ⟨rfl, fun l hl => by
        obtain ⟨j, hj⟩ := List.getElem?_of_mem hl
        exact hA j l (by have := lt_of_at hj; omega) hj, i, rfl⟩)
    have h1 := ltI_t h1
    have hb := blt_t (i := i) (n := s.T.length) (by omega)
    obtain ⟨l, hl⟩ := at_some (l := s.T) (i := i) (by omega)
    conv => whnf
    rw [hb]
    conv => whnf
    rw [encLL_get1 hl]
    conv => whnf
    cases h2 : ltI 12 (l.length : Int)
    case true =>
      conv => whnf
      refine Rets.use plays_ok ?_
      conv => whnf
      exact hK _ _ (.inr ⟨rfl, i, rfl⟩)
    have h2 := ltI_f h2
    conv => whnf
    rw [wrap_succ (by omega)]
    exact ih (i + 1) ⟨by omega, fun j q hj hq => by
      by_cases hji : j = i
      · subst hji; rw [hl] at hq; cases hq; omega
      · exact hA j q (by omega) hq⟩ (by omega)
  rintro _ _ (⟨rfl, hT, i, rfl⟩ | ⟨rfl, i, rfl⟩)
  rotate_left
  · conv => whnf
    exact ⟨rfl, rfl⟩
  have hcr := cloneRules r (by omega)
  have hcs := cloneSquad s (by omega) (by omega) (fun l hl => by have := hT l hl; omega)
  have hrr := refRules r
  have hrs := refSquad r s (by omega) (fun l hl => by have := hT l hl; omega)
  unfold ruD ruL at hcr hrr hrs
  unfold sqD sqL at hcs hrs
  conv => whnf
  refine Rets.use hcr ?_
  conv => whnf
  refine Rets.use hcs ?_
  conv => whnf
  refine Sm.mono hrr ?_
  rintro v h ⟨⟨e1, rfl, he1⟩, rfl⟩
  conv => whnf
  cases g7 : eqI e1 0
  case false =>
    conv => whnf
    refine Rets.use plays_ok ?_
    conv => whnf
    exact ⟨rfl, rfl⟩
  obtain rfl := eqI_t g7
  clear g7 he1
  conv => whnf
  refine Sm.mono hrs ?_
  rintro v h ⟨⟨e2, rfl, he2⟩, rfl⟩
  conv => whnf
  cases g8 : eqI e2 0
  case false =>
    conv => whnf
    refine Rets.use plays_ok ?_
    conv => whnf
    exact ⟨rfl, rfl⟩
  obtain rfl := eqI_t g8
  have O := he2.1 rfl
  clear g8 he2
  have hbest := Best9 O
  have hpr := Prices10 O
  have htk := Takes11 r s O
  have hpv := Proves12 r s O
  unfold ruD ruL sqD sqL at hbest hpr
  unfold ruD ruL sqD sqL sl at htk hpv
  conv => whnf
  refine Rets.use hcr ?_
  conv => whnf
  refine Rets.use hcs ?_
  conv => whnf
  refine Sm.mono hbest ?_
  rintro v h ⟨hb, rfl⟩
  rcases hb with ⟨hb, rfl⟩ | ⟨b, n, hb, rfl⟩
  · have hnone := bst_none hb
    conv => whnf
    refine Rets.use hcr ?_
    conv => whnf
    refine Rets.use hcs ?_
    conv => whnf
    refine Sm.mono hpr ?_
    rintro v h ⟨hp, rfl⟩
    rcases hp with ⟨_, rfl⟩ | ⟨b, n, lg, sk, f, hb2, _⟩
    rotate_left
    · rw [hb] at hb2; cases hb2
    conv => whnf
    refine Sm.mono (htk order (by omega)) ?_
    rintro v h ⟨⟨m, g, rfl, hg⟩, rfl⟩
    conv => whnf
    cases g9 : eqI g 0
    case true =>
      obtain rfl := eqI_t g9
      rcases hg with ⟨_, c, rfl, hO, _⟩ | ⟨h, _⟩
      · exact absurd hO (hnone c)
      · exact absurd rfl h
    conv => whnf
    refine Sm.mono (hpv legs skiers) ?_
    rintro v h ⟨⟨k, g2, rfl, hk⟩, rfl⟩
    conv => whnf
    cases g10 : eqI g2 0
    case true =>
      conv => whnf
      refine Rets.use plays_ok ?_
      conv => whnf
      exact ⟨rfl, rfl⟩
    case false =>
      conv => whnf
      refine Rets.use plays_ok ?_
      conv => whnf
      exact ⟨rfl, rfl⟩
  have hB := bst_some hb
  conv => whnf
  refine Rets.use hcr ?_
  conv => whnf
  refine Rets.use hcs ?_
  conv => whnf
  refine Sm.mono hpr ?_
  rintro v h ⟨hp, rfl⟩
  rcases hp with ⟨hb2, _⟩ | ⟨b2, n2, lg, sk, f, hb2, hlg, hsk, hrange, hstill, rfl⟩
  · rw [hb] at hb2; cases hb2
  obtain ⟨rfl, rfl⟩ : b = b2 ∧ n = n2 := by rw [hb] at hb2; cases hb2; exact ⟨rfl, rfl⟩
  have hph := prices_hold O hb hlg hsk hrange hstill
  have hbl : b.length = r.pc.length := hB.1.1
  conv => whnf
  refine Sm.mono (htk (nL b) (by rw [nL_length]; omega)) ?_
  rintro v h ⟨⟨m, g, rfl, hg⟩, rfl⟩
  obtain ⟨rfl, rfl⟩ : g = 0 ∧ m = n := by
    rcases hg with ⟨rfl, c, hc, _, hm⟩ | ⟨_, hg⟩
    · obtain rfl := nL_inj hc
      exact ⟨rfl, by rw [hm, ← hB.2.1]⟩
    · exact absurd hB.1 (hg b rfl)
  clear hg
  conv => whnf
  refine Sm.mono (hpv _ _) ?_
  rintro v h ⟨⟨k, g, rfl, hg⟩, rfl⟩
  obtain ⟨rfl, rfl⟩ : g = 0 ∧ k = m := by
    rcases hg with ⟨rfl, _, hk⟩ | ⟨_, hg⟩
    · exact ⟨rfl, by rw [hk, hph.2]⟩
    · exact absurd hph.1 hg
  clear hg
  conv => whnf
  rw [eqI_tt (a := k) (b := k) rfl]
  conv => whnf
  rw [eqI_tt (a := k) (b := k) rfl]
  conv => whnf
  refine Sm.mono (htk order (by omega)) ?_
  rintro v h ⟨⟨m, g, rfl, hg⟩, rfl⟩
  conv => whnf
  cases g9 : eqI g 0
  case false =>
    conv => whnf
    refine Sm.mono (hpv legs skiers) ?_
    rintro v h ⟨⟨q, g2, rfl, hq⟩, rfl⟩
    conv => whnf
    cases g20 : eqI g2 0
    case false =>
      conv => whnf
      refine Rets.use plays_ok ?_
      conv => whnf
      exact ⟨rfl, rfl⟩
    obtain rfl := eqI_t g20
    have hqk : q ≤ k := by
      rcases hq with ⟨_, h1, rfl⟩ | ⟨h, _⟩
      · exact prices_weak O hb h1
      · exact absurd rfl h
    conv => whnf
    rw [show leI q k = true from by rw [leI_eq]; exact decide_eq_true hqk]
    conv => whnf
    refine Rets.use plays_ok ?_
    conv => whnf
    exact ⟨rfl, rfl⟩
  obtain rfl := eqI_t g9
  obtain ⟨c, rfl, hO, hm⟩ : ∃ c, order = nL c ∧ OrdOk s.sc r.pc r.e.toNat c ∧ m = cost r.pc.length (tm s.T) (ofn c) := by
    rcases hg with ⟨_, h⟩ | ⟨h, _⟩
    · exact h
    · exact absurd rfl h
  clear hg
  have hlex := hB.2.2.2 c hO
  rw [← hm] at hlex
  conv => whnf
  rw [ltI_ff (a := m) (b := k) (by omega)]
  conv => whnf
  cases g11 : eqI m k
  case false =>
    conv => whnf
    refine Sm.mono (hpv legs skiers) ?_
    rintro v h ⟨⟨q, g2, rfl, hq⟩, rfl⟩
    conv => whnf
    cases g20 : eqI g2 0
    case false =>
      conv => whnf
      refine Rets.use plays_ok ?_
      conv => whnf
      exact ⟨rfl, rfl⟩
    obtain rfl := eqI_t g20
    have hqk : q ≤ k := by
      rcases hq with ⟨_, h1, rfl⟩ | ⟨h, _⟩
      · exact prices_weak O hb h1
      · exact absurd rfl h
    conv => whnf
    rw [show leI q k = true from by rw [leI_eq]; exact decide_eq_true hqk]
    conv => whnf
    refine Rets.use plays_ok ?_
    conv => whnf
    exact ⟨rfl, rfl⟩
  obtain rfl := eqI_t g11
  conv => whnf
  refine Rets.use (Compare13 (nL c) (nL b) (by rw [nL_length] at g4 ⊢; omega)) ?_
  conv => whnf
  have hcmp : ¬ cmpLI (nL c) (nL b) < 0 := fun h => by
    have h3 := (cmp_lex c b).1 h
    rcases hlex with h4 | ⟨_, h4⟩
    · omega
    · exact h4 h3
  rw [ltI_ff (a := cmpLI (nL c) (nL b)) (b := 0) (by omega)]
  conv => whnf
  refine Sm.mono (hpv legs skiers) ?_
  rintro v h ⟨⟨q, g2, rfl, hq⟩, rfl⟩
  conv => whnf
  cases g20 : eqI g2 0
  case false =>
    conv => whnf
    refine Rets.use plays_ok ?_
    conv => whnf
    exact ⟨rfl, rfl⟩
  obtain rfl := eqI_t g20
  have hqk : q ≤ m := by
    rcases hq with ⟨_, h1, rfl⟩ | ⟨h, _⟩
    · exact prices_weak O hb h1
    · exact absurd rfl h
  conv => whnf
  rw [show leI q m = true from by rw [leI_eq]; exact decide_eq_true hqk]
  conv => whnf
  refine Rets.use plays_ok ?_
  conv => whnf
  exact ⟨rfl, rfl⟩
end Go.Proofs.Lx
