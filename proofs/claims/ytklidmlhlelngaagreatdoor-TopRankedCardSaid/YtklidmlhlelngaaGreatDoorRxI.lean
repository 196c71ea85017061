/-
  TopRanked: a chain is found, and turned round.
-/
import Derived.Test.YtklidmlhlelngaaGreatDoorRxH
namespace Go.Proofs.Rx
open Go Go.Ab Go.Proofs.Rw
set_option maxRecDepth 100000
set_option maxHeartbeats 40000000
theorem chain_ok (sk er : Int) (rs : List Run3) (G : Good sk er rs) {F : List D} (hFl : F.length = 64) {s : Nat} (hs8 : s < 8) :
    Sm Tryz.prog E 23 [.ptr 0 0 0 67, .d (.int .i64 s), .d (.int .i64 s)] (deO sk er rs F) (fun v h => h = deO sk er rs F ∧ ∃ x, v = .d x) := by
  have hdl : (deL sk er rs F).length = 67 := by simp [deL, hFl]
  have hdt : ((deL sk er rs F).drop (0 + 0)).take 3 = labL sk er rs := rfl
  refine sm_of HE true (by kernel_rfl) ?_
  unfold deO
  conv => whnf
  refine loops_by (fun x : Nat × List Int => match x with
      | (i, l) => ⟨101, [(0, .ptr 0 0 0 67), (1, .d (.int .i64 s)), (5, .ptr 1 0 0 1), (6, .d .nil), (7, .ptr 2 0 0 8), (17, .d (.int .i64 i)), (36, .d .undef), (37, .d .undef)], .unk,
        [.row (.ds (deL sk er rs F)) 0 0 [], .row (.ds [.int .i64 s]) 0 0 [], .row (.ds (encI l)) 0 0 []], []⟩)
    (fun x => x.1 ≤ 8 ∧ x.2.length = 8 ∧ ∀ j : Nat, j < x.1 → x.2[j]? = some (-1)) (fun x => 8 - x.1) (0, [0, 0, 0, 0, 0, 0, 0, 0]) ⟨Nat.zero_le _, rfl, fun j hj => absurd hj (Nat.not_lt_zero _)⟩ ?_
  rintro f0 ⟨i0, l0⟩ ⟨hi0, hl0, hm0⟩ ih0
  simp only at hi0 hl0 hm0
  conv => whnf
  cases h0 : ltI (i0 : Int) 8
  case true =>
    have hlt0 : i0 < 8 := by rw [ltI_eq] at h0; have := of_decide_eq_true h0; omega
    conv => whnf
    rw [show Nat.blt i0 8 = true by simpa [Nat.blt_eq] using hlt0]
    conv => whnf
    rw [show Nat.ble (0 + i0 * 1 + 1) 8 = true from Nat.ble_eq_true_of_le (by omega)]
    conv => whnf
    rw [show Nat.ble (0 + i0 * 1 + [V.d (absC (Value.int .i64 (-1)))].length) (Cells.ds (encI l0)).len = true from Nat.ble_eq_true_of_le (by simp only [List.length_cons, List.length_nil, Cells.len, encI_length]; omega)]
    conv => whnf
    rw [show (Cells.ds (encI l0)).write (0 + i0 * 1) [V.d (absC (Value.int .i64 (-1)))] = some (.ds (encI (l0.set i0 (-1)))) from write_int (by omega) (by omega)]
    conv => whnf
    rw [wrap_succ (by omega)]
    refine ih0 (i0 + 1, l0.set i0 (-1)) ⟨by simp only; omega, by simpa using hl0, fun j hj => ?_⟩ (by simp only; omega)
    simp only at hj ⊢
    by_cases hji : j = i0
    · subst hji; rw [List.getElem?_set_self (by omega)]
    · rw [List.getElem?_set_ne (Ne.symm hji)]; exact hm0 j (by omega)
  have hi8 : i0 = 8 := by rw [ltI_eq] at h0; have := of_decide_eq_false h0; omega
  subst hi8
  have hl1 : l0 = [-1, -1, -1, -1, -1, -1, -1, -1] := by
    apply List.ext_getElem?
    intro j
    by_cases hj : j < 8
    · rw [hm0 j hj]
      have h8 : j = 0 ∨ j = 1 ∨ j = 2 ∨ j = 3 ∨ j = 4 ∨ j = 5 ∨ j = 6 ∨ j = 7 := by omega
      rcases h8 with rfl | rfl | rfl | rfl | rfl | rfl | rfl | rfl <;> rfl
    · rw [List.getElem?_eq_none (by omega), List.getElem?_eq_none (by simp; omega)]
  conv => whnf
  refine loops_by (fun x : List Int × List Int × Nat × Nat => match x with
      | (by_, met, e, n) => ⟨101, [(0, .ptr 0 0 0 67), (1, .d (.int .i64 s)), (5, .ptr (1 + n) 0 0 1), (6, .d .nil), (7, .ptr (2 + n) 0 0 8), (9, .ptr (3 + n) 0 0 1), (10, .ptr (5 + n) 0 0 1), (36, .d .undef), (37, .d .undef)], .unk,
        .row (.ds (deL sk er rs F)) 0 0 [] :: (List.replicate n .dfr ++ [.row (.ds [.int .i64 s]) 0 0 [], .row (.ds (encI by_)) 0 0 [], .row (.vs [.slice (4 + n) e 0 (e + 1) 1]) 0 0 [], .row (.ds (encI met)) e 0 [], .row (.ds [.int .i64 n]) 0 0 []]), List.range' 1 n⟩)
    (fun x => match x with | (by_, met, e, n) => J er rs s by_ met ∧ met.length = e + 1 ∧ met.length + negs by_ = 9 ∧ n ≤ met.length) (fun x => 9 - x.2.2.2) (l0, [(s : Int)], 0, 0) ⟨?_, rfl, by rw [hl1]; rfl, Nat.zero_le _⟩ ?_
  · clear ih0 hm0
    subst hl1
    refine ⟨rfl, rfl, fun k v hv => ?_, fun v i hv hi => ?_, by simp⟩
    · rcases k with _ | k
      · simp at hv; subst hv; exact ⟨by omega, fun h => by omega⟩
      · simp at hv
    · exfalso
      have : ∀ x ∈ ([-1, -1, -1, -1, -1, -1, -1, -1] : List Int), x = -1 := by simp
      have := this i (List.mem_of_getElem? hv)
      omega
  rintro f ⟨by_, met, e, n⟩ ⟨hj, hme, hg, hnl⟩ ih
  have hml0 := hj.l
  have hn10 : n = 0 ∨ n = 1 ∨ n = 2 ∨ n = 3 ∨ n = 4 ∨ n = 5 ∨ n = 6 ∨ n = 7 ∨ n = 8 ∨ n = 9 := by omega
  rcases hn10 with rfl | rfl | rfl | rfl | rfl | rfl | rfl | rfl | rfl | rfl
  · conv => whnf
    cases h1 : ltI ((0 : Nat) : Int) ((e + 1 : Nat) : Int)
    · rw [ltI_eq] at h1; have := of_decide_eq_false h1; omega
    have hlt : 0 < met.length := by rw [ltI_eq] at h1; have := of_decide_eq_true h1; omega
    conv => whnf
    refine Rets.use (shown_ok sk er rs) ?_
    conv => whnf
    refine Sm.mono (each23 sk er rs G F (n := 0) hj hme hlt hg) ?_
    rintro v h ⟨rfl, brk, by_, met, e, rfl, hj, hme, hmm, hg⟩
    cases brk
    · conv => whnf
      exact ih (by_, met, e, 1) ⟨hj, hme, hg rfl, by omega⟩ (by simp only; omega)
    · clear hg
      have bs8 : Nat.blt s 8 = true := by simpa [Nat.blt_eq] using hs8
      obtain ⟨bs, hbs⟩ : ∃ b, by_[s]? = some b := ⟨by_[s]'(by have := hj.n; omega), by simp⟩
      have gbs : (encI by_)[0 + s * 1]? = some (.int .i64 bs) := by rw [Nat.zero_add]; exact encI_get1 hbs
      have hml := hj.l
      conv => whnf
      rw [bs8]
      conv => whnf
      rw [show Nat.ble (0 + s * 1 + 1) 8 = true from Nat.ble_eq_true_of_le (by omega)]
      conv => whnf
      rw [gbs]
      conv => whnf
      cases g5 : ltI bs 0
      case true =>
        conv => whnf
        exact ⟨rfl, _, rfl⟩
      rw [ltI_eq] at g5
      have g5 := of_decide_eq_false g5
      conv => whnf
      refine loops_by (fun x : Option (Nat × Int × Nat × List Int) => match x with
          | none => ⟨101, [(0, .ptr 0 0 0 67), (1, .d (.int .i64 s)), (6, .d .nil), (7, .ptr 2 0 0 8), (13, .d .nil), (14, .d (.int .i64 s))], .unk, [.row (.ds (deL sk er rs F)) 0 0 [], .dfr, .row (.ds (encI by_)) 0 0 []], [1]⟩
          | some (k, at_, eo, out) => ⟨101, [(0, .ptr 0 0 0 67), (1, .d (.int .i64 s)), (6, .d .nil), (7, .ptr 2 0 0 8), (13, .slice 3 eo 0 (eo + 1) 1), (14, .d (.int .i64 at_))], .unk, [.row (.ds (deL sk er rs F)) 0 0 [], .dfr, .row (.ds (encI by_)) 0 0 [], .row (.ds (encI out)) eo 0 []], [1]⟩)
        (fun x => match x with | none => True | some (k, at_, eo, out) => met[k]? = some at_ ∧ out.length = eo + 1 ∧ eo + 1 + k ≤ 9) (fun x => match x with | none => 10 | some (k, _) => k) none trivial ?_
      rintro f2 (_ | ⟨k, at_, eo, out⟩) hI2 ih2
      · obtain ⟨r, iN, u, rfl, hr, hw, kk, hk1, _⟩ := hj.c s bs hbs (by omega)
        have hbv := hbs
        have hkl := (List.getElem?_eq_some_iff.1 hk1).1
        have bv : Nat.blt s 8 = true := by simp [Nat.blt_eq]; omega
        have gv : (encI by_)[0 + s * 1]? = some (.int .i64 (iN : Int)) := by rw [Nat.zero_add]; exact encI_get1 hbv
        have hsh := shows_ok sk er rs G.err hr
        rw [hw] at hsh
        unfold shD at hsh
        simp only at hsh
        conv => whnf
        rw [bv]
        conv => whnf
        rw [show Nat.ble (0 + s * 1 + 1) 8 = true from Nat.ble_eq_true_of_le (by omega)]
        conv => whnf
        rw [gv]
        conv => whnf
        rw [bv]
        conv => whnf
        rw [show Nat.ble (0 + s * 1 + 1) 8 = true from Nat.ble_eq_true_of_le (by omega)]
        conv => whnf
        rw [gv]
        conv => whnf
        refine Rets.use hsh ?_
        conv => whnf
        exact ih2 (some (kk, u, 0, [(iN : Int)])) ⟨hk1, rfl, by omega⟩ (by simp only; omega)
      · obtain ⟨hat, hol, hk9⟩ := hI2
        obtain ⟨⟨hv0, hv8⟩, hby⟩ := hj.m k at_ hat
        obtain ⟨v, rfl⟩ : ∃ v : Nat, at_ = v := ⟨at_.toNat, by omega⟩
        conv => whnf
        cases g6 : eqI (v : Int) (s : Int)
        · have hvs : v ≠ s := fun h => by rw [h, eqI_eq] at g6; simp at g6
          have hk0 : 1 ≤ k := by
            rcases Nat.eq_zero_or_pos k with rfl | h
            · rw [hj.z] at hat; simp at hat; omega
            · exact h
          obtain ⟨i, hbv, hi0⟩ := hby hk0
          rw [Int.toNat_natCast] at hbv
          obtain ⟨r, iN, u, rfl, hr, hw, kk, hk1, hlt2⟩ := hj.c v i hbv hi0
          have hkk := hlt2 hvs k hat
          have bv : Nat.blt v 8 = true := by simp [Nat.blt_eq]; omega
          have gv : (encI by_)[0 + v * 1]? = some (.int .i64 (iN : Int)) := by rw [Nat.zero_add]; exact encI_get1 hbv
          have hsh := shows_ok sk er rs G.err hr
          rw [hw] at hsh
          unfold shD at hsh
          simp only at hsh
          conv => whnf
          rw [bv]
          conv => whnf
          rw [show Nat.ble (0 + v * 1 + 1) 8 = true from Nat.ble_eq_true_of_le (by omega)]
          conv => whnf
          rw [gv]
          conv => whnf
          rw [show Nat.ble ((eo + 1 + 1) * 8) 140737488355328 = true from Nat.ble_eq_true_of_le (by omega)]
          conv => whnf
          rw [may_all]
          conv => whnf
          rw [bv]
          conv => whnf
          rw [show Nat.ble (0 + v * 1 + 1) 8 = true from Nat.ble_eq_true_of_le (by omega)]
          conv => whnf
          rw [gv]
          conv => whnf
          refine Rets.use hsh ?_
          conv => whnf
          rw [len_beq hol, List.take_of_length_le (by rw [encI_length]; omega)]
          rw [show encI out ++ [D.int .i64 (iN : Int)] = encI (out ++ [(iN : Int)]) from (encI_snoc out (iN : Int)).symm]
          exact ih2 (some (kk, u, eo + 1, out ++ [(iN : Int)])) ⟨hk1, by rw [List.length_append, hol]; rfl, by omega⟩ (by simp only; omega)
        · conv => whnf
          refine Sm.mono (reverse_ok out eo hol (by omega)) ?_
          rintro v h ⟨rfl, l, fl, hl, hfl, rfl⟩
          conv => whnf
          rw [may_fl hfl]
          conv => whnf
          rw [show Nat.ble (0 + (eo + 1) * 1) (encI l).length = true from Nat.ble_eq_true_of_le (by rw [encI_length]; omega)]
          conv => whnf
          exact ⟨rfl, _, rfl⟩
  · conv => whnf
    cases h1 : ltI ((1 : Nat) : Int) ((e + 1 : Nat) : Int)
    · have bs8 : Nat.blt s 8 = true := by simpa [Nat.blt_eq] using hs8
      obtain ⟨bs, hbs⟩ : ∃ b, by_[s]? = some b := ⟨by_[s]'(by have := hj.n; omega), by simp⟩
      have gbs : (encI by_)[0 + s * 1]? = some (.int .i64 bs) := by rw [Nat.zero_add]; exact encI_get1 hbs
      have hml := hj.l
      conv => whnf
      rw [bs8]
      conv => whnf
      rw [show Nat.ble (0 + s * 1 + 1) 8 = true from Nat.ble_eq_true_of_le (by omega)]
      conv => whnf
      rw [gbs]
      conv => whnf
      cases g5 : ltI bs 0
      case true =>
        conv => whnf
        exact ⟨rfl, _, rfl⟩
      rw [ltI_eq] at g5
      have g5 := of_decide_eq_false g5
      conv => whnf
      refine loops_by (fun x : Option (Nat × Int × Nat × List Int) => match x with
          | none => ⟨101, [(0, .ptr 0 0 0 67), (1, .d (.int .i64 s)), (6, .d .nil), (7, .ptr 2 0 0 8), (13, .d .nil), (14, .d (.int .i64 s))], .unk, [.row (.ds (deL sk er rs F)) 0 0 [], .dfr, .row (.ds (encI by_)) 0 0 []], [1]⟩
          | some (k, at_, eo, out) => ⟨101, [(0, .ptr 0 0 0 67), (1, .d (.int .i64 s)), (6, .d .nil), (7, .ptr 2 0 0 8), (13, .slice 3 eo 0 (eo + 1) 1), (14, .d (.int .i64 at_))], .unk, [.row (.ds (deL sk er rs F)) 0 0 [], .dfr, .row (.ds (encI by_)) 0 0 [], .row (.ds (encI out)) eo 0 []], [1]⟩)
        (fun x => match x with | none => True | some (k, at_, eo, out) => met[k]? = some at_ ∧ out.length = eo + 1 ∧ eo + 1 + k ≤ 9) (fun x => match x with | none => 10 | some (k, _) => k) none trivial ?_
      rintro f2 (_ | ⟨k, at_, eo, out⟩) hI2 ih2
      · obtain ⟨r, iN, u, rfl, hr, hw, kk, hk1, _⟩ := hj.c s bs hbs (by omega)
        have hbv := hbs
        have hkl := (List.getElem?_eq_some_iff.1 hk1).1
        have bv : Nat.blt s 8 = true := by simp [Nat.blt_eq]; omega
        have gv : (encI by_)[0 + s * 1]? = some (.int .i64 (iN : Int)) := by rw [Nat.zero_add]; exact encI_get1 hbv
        have hsh := shows_ok sk er rs G.err hr
        rw [hw] at hsh
        unfold shD at hsh
        simp only at hsh
        conv => whnf
        rw [bv]
        conv => whnf
        rw [show Nat.ble (0 + s * 1 + 1) 8 = true from Nat.ble_eq_true_of_le (by omega)]
        conv => whnf
        rw [gv]
        conv => whnf
        rw [bv]
        conv => whnf
        rw [show Nat.ble (0 + s * 1 + 1) 8 = true from Nat.ble_eq_true_of_le (by omega)]
        conv => whnf
        rw [gv]
        conv => whnf
        refine Rets.use hsh ?_
        conv => whnf
        exact ih2 (some (kk, u, 0, [(iN : Int)])) ⟨hk1, rfl, by omega⟩ (by simp only; omega)
      · obtain ⟨hat, hol, hk9⟩ := hI2
        obtain ⟨⟨hv0, hv8⟩, hby⟩ := hj.m k at_ hat
        obtain ⟨v, rfl⟩ : ∃ v : Nat, at_ = v := ⟨at_.toNat, by omega⟩
        conv => whnf
        cases g6 : eqI (v : Int) (s : Int)
        · have hvs : v ≠ s := fun h => by rw [h, eqI_eq] at g6; simp at g6
          have hk0 : 1 ≤ k := by
            rcases Nat.eq_zero_or_pos k with rfl | h
            · rw [hj.z] at hat; simp at hat; omega
            · exact h
          obtain ⟨i, hbv, hi0⟩ := hby hk0
          rw [Int.toNat_natCast] at hbv
          obtain ⟨r, iN, u, rfl, hr, hw, kk, hk1, hlt2⟩ := hj.c v i hbv hi0
          have hkk := hlt2 hvs k hat
          have bv : Nat.blt v 8 = true := by simp [Nat.blt_eq]; omega
          have gv : (encI by_)[0 + v * 1]? = some (.int .i64 (iN : Int)) := by rw [Nat.zero_add]; exact encI_get1 hbv
          have hsh := shows_ok sk er rs G.err hr
          rw [hw] at hsh
          unfold shD at hsh
          simp only at hsh
          conv => whnf
          rw [bv]
          conv => whnf
          rw [show Nat.ble (0 + v * 1 + 1) 8 = true from Nat.ble_eq_true_of_le (by omega)]
          conv => whnf
          rw [gv]
          conv => whnf
          rw [show Nat.ble ((eo + 1 + 1) * 8) 140737488355328 = true from Nat.ble_eq_true_of_le (by omega)]
          conv => whnf
          rw [may_all]
          conv => whnf
          rw [bv]
          conv => whnf
          rw [show Nat.ble (0 + v * 1 + 1) 8 = true from Nat.ble_eq_true_of_le (by omega)]
          conv => whnf
          rw [gv]
          conv => whnf
          refine Rets.use hsh ?_
          conv => whnf
          rw [len_beq hol, List.take_of_length_le (by rw [encI_length]; omega)]
          rw [show encI out ++ [D.int .i64 (iN : Int)] = encI (out ++ [(iN : Int)]) from (encI_snoc out (iN : Int)).symm]
          exact ih2 (some (kk, u, eo + 1, out ++ [(iN : Int)])) ⟨hk1, by rw [List.length_append, hol]; rfl, by omega⟩ (by simp only; omega)
        · conv => whnf
          refine Sm.mono (reverse_ok out eo hol (by omega)) ?_
          rintro v h ⟨rfl, l, fl, hl, hfl, rfl⟩
          conv => whnf
          rw [may_fl hfl]
          conv => whnf
          rw [show Nat.ble (0 + (eo + 1) * 1) (encI l).length = true from Nat.ble_eq_true_of_le (by rw [encI_length]; omega)]
          conv => whnf
          exact ⟨rfl, _, rfl⟩
    have hlt : 1 < met.length := by rw [ltI_eq] at h1; have := of_decide_eq_true h1; omega
    conv => whnf
    refine Rets.use (shown_ok sk er rs) ?_
    conv => whnf
    refine Sm.mono (each23 sk er rs G F (n := 1) hj hme hlt hg) ?_
    rintro v h ⟨rfl, brk, by_, met, e, rfl, hj, hme, hmm, hg⟩
    cases brk
    · conv => whnf
      exact ih (by_, met, e, 2) ⟨hj, hme, hg rfl, by omega⟩ (by simp only; omega)
    · clear hg
      have bs8 : Nat.blt s 8 = true := by simpa [Nat.blt_eq] using hs8
      obtain ⟨bs, hbs⟩ : ∃ b, by_[s]? = some b := ⟨by_[s]'(by have := hj.n; omega), by simp⟩
      have gbs : (encI by_)[0 + s * 1]? = some (.int .i64 bs) := by rw [Nat.zero_add]; exact encI_get1 hbs
      have hml := hj.l
      conv => whnf
      rw [bs8]
      conv => whnf
      rw [show Nat.ble (0 + s * 1 + 1) 8 = true from Nat.ble_eq_true_of_le (by omega)]
      conv => whnf
      rw [gbs]
      conv => whnf
      cases g5 : ltI bs 0
      case true =>
        conv => whnf
        exact ⟨rfl, _, rfl⟩
      rw [ltI_eq] at g5
      have g5 := of_decide_eq_false g5
      conv => whnf
      refine loops_by (fun x : Option (Nat × Int × Nat × List Int) => match x with
          | none => ⟨101, [(0, .ptr 0 0 0 67), (1, .d (.int .i64 s)), (6, .d .nil), (7, .ptr 3 0 0 8), (13, .d .nil), (14, .d (.int .i64 s))], .unk, [.row (.ds (deL sk er rs F)) 0 0 [], .dfr, .dfr, .row (.ds (encI by_)) 0 0 []], [1, 2]⟩
          | some (k, at_, eo, out) => ⟨101, [(0, .ptr 0 0 0 67), (1, .d (.int .i64 s)), (6, .d .nil), (7, .ptr 3 0 0 8), (13, .slice 4 eo 0 (eo + 1) 1), (14, .d (.int .i64 at_))], .unk, [.row (.ds (deL sk er rs F)) 0 0 [], .dfr, .dfr, .row (.ds (encI by_)) 0 0 [], .row (.ds (encI out)) eo 0 []], [1, 2]⟩)
        (fun x => match x with | none => True | some (k, at_, eo, out) => met[k]? = some at_ ∧ out.length = eo + 1 ∧ eo + 1 + k ≤ 9) (fun x => match x with | none => 10 | some (k, _) => k) none trivial ?_
      rintro f2 (_ | ⟨k, at_, eo, out⟩) hI2 ih2
      · obtain ⟨r, iN, u, rfl, hr, hw, kk, hk1, _⟩ := hj.c s bs hbs (by omega)
        have hbv := hbs
        have hkl := (List.getElem?_eq_some_iff.1 hk1).1
        have bv : Nat.blt s 8 = true := by simp [Nat.blt_eq]; omega
        have gv : (encI by_)[0 + s * 1]? = some (.int .i64 (iN : Int)) := by rw [Nat.zero_add]; exact encI_get1 hbv
        have hsh := shows_ok sk er rs G.err hr
        rw [hw] at hsh
        unfold shD at hsh
        simp only at hsh
        conv => whnf
        rw [bv]
        conv => whnf
        rw [show Nat.ble (0 + s * 1 + 1) 8 = true from Nat.ble_eq_true_of_le (by omega)]
        conv => whnf
        rw [gv]
        conv => whnf
        rw [bv]
        conv => whnf
        rw [show Nat.ble (0 + s * 1 + 1) 8 = true from Nat.ble_eq_true_of_le (by omega)]
        conv => whnf
        rw [gv]
        conv => whnf
        refine Rets.use hsh ?_
        conv => whnf
        exact ih2 (some (kk, u, 0, [(iN : Int)])) ⟨hk1, rfl, by omega⟩ (by simp only; omega)
      · obtain ⟨hat, hol, hk9⟩ := hI2
        obtain ⟨⟨hv0, hv8⟩, hby⟩ := hj.m k at_ hat
        obtain ⟨v, rfl⟩ : ∃ v : Nat, at_ = v := ⟨at_.toNat, by omega⟩
        conv => whnf
        cases g6 : eqI (v : Int) (s : Int)
        · have hvs : v ≠ s := fun h => by rw [h, eqI_eq] at g6; simp at g6
          have hk0 : 1 ≤ k := by
            rcases Nat.eq_zero_or_pos k with rfl | h
            · rw [hj.z] at hat; simp at hat; omega
            · exact h
          obtain ⟨i, hbv, hi0⟩ := hby hk0
          rw [Int.toNat_natCast] at hbv
          obtain ⟨r, iN, u, rfl, hr, hw, kk, hk1, hlt2⟩ := hj.c v i hbv hi0
          have hkk := hlt2 hvs k hat
          have bv : Nat.blt v 8 = true := by simp [Nat.blt_eq]; omega
          have gv : (encI by_)[0 + v * 1]? = some (.int .i64 (iN : Int)) := by rw [Nat.zero_add]; exact encI_get1 hbv
          have hsh := shows_ok sk er rs G.err hr
          rw [hw] at hsh
          unfold shD at hsh
          simp only at hsh
          conv => whnf
          rw [bv]
          conv => whnf
          rw [show Nat.ble (0 + v * 1 + 1) 8 = true from Nat.ble_eq_true_of_le (by omega)]
          conv => whnf
          rw [gv]
          conv => whnf
          rw [show Nat.ble ((eo + 1 + 1) * 8) 140737488355328 = true from Nat.ble_eq_true_of_le (by omega)]
          conv => whnf
          rw [may_all]
          conv => whnf
          rw [bv]
          conv => whnf
          rw [show Nat.ble (0 + v * 1 + 1) 8 = true from Nat.ble_eq_true_of_le (by omega)]
          conv => whnf
          rw [gv]
          conv => whnf
          refine Rets.use hsh ?_
          conv => whnf
          rw [len_beq hol, List.take_of_length_le (by rw [encI_length]; omega)]
          rw [show encI out ++ [D.int .i64 (iN : Int)] = encI (out ++ [(iN : Int)]) from (encI_snoc out (iN : Int)).symm]
          exact ih2 (some (kk, u, eo + 1, out ++ [(iN : Int)])) ⟨hk1, by rw [List.length_append, hol]; rfl, by omega⟩ (by simp only; omega)
        · conv => whnf
          refine Sm.mono (reverse_ok out eo hol (by omega)) ?_
          rintro v h ⟨rfl, l, fl, hl, hfl, rfl⟩
          conv => whnf
          rw [may_fl hfl]
          conv => whnf
          rw [show Nat.ble (0 + (eo + 1) * 1) (encI l).length = true from Nat.ble_eq_true_of_le (by rw [encI_length]; omega)]
          conv => whnf
          exact ⟨rfl, _, rfl⟩
  · conv => whnf
    cases h1 : ltI ((2 : Nat) : Int) ((e + 1 : Nat) : Int)
    · have bs8 : Nat.blt s 8 = true := by simpa [Nat.blt_eq] using hs8
      obtain ⟨bs, hbs⟩ : ∃ b, by_[s]? = some b := ⟨by_[s]'(by have := hj.n; omega), by simp⟩
      have gbs : (encI by_)[0 + s * 1]? = some (.int .i64 bs) := by rw [Nat.zero_add]; exact encI_get1 hbs
      have hml := hj.l
      conv => whnf
      rw [bs8]
      conv => whnf
      rw [show Nat.ble (0 + s * 1 + 1) 8 = true from Nat.ble_eq_true_of_le (by omega)]
      conv => whnf
      rw [gbs]
      conv => whnf
      cases g5 : ltI bs 0
      case true =>
        conv => whnf
        exact ⟨rfl, _, rfl⟩
      rw [ltI_eq] at g5
      have g5 := of_decide_eq_false g5
      conv => whnf
      refine loops_by (fun x : Option (Nat × Int × Nat × List Int) => match x with
          | none => ⟨101, [(0, .ptr 0 0 0 67), (1, .d (.int .i64 s)), (6, .d .nil), (7, .ptr 3 0 0 8), (13, .d .nil), (14, .d (.int .i64 s))], .unk, [.row (.ds (deL sk er rs F)) 0 0 [], .dfr, .dfr, .row (.ds (encI by_)) 0 0 []], [1, 2]⟩
          | some (k, at_, eo, out) => ⟨101, [(0, .ptr 0 0 0 67), (1, .d (.int .i64 s)), (6, .d .nil), (7, .ptr 3 0 0 8), (13, .slice 4 eo 0 (eo + 1) 1), (14, .d (.int .i64 at_))], .unk, [.row (.ds (deL sk er rs F)) 0 0 [], .dfr, .dfr, .row (.ds (encI by_)) 0 0 [], .row (.ds (encI out)) eo 0 []], [1, 2]⟩)
        (fun x => match x with | none => True | some (k, at_, eo, out) => met[k]? = some at_ ∧ out.length = eo + 1 ∧ eo + 1 + k ≤ 9) (fun x => match x with | none => 10 | some (k, _) => k) none trivial ?_
      rintro f2 (_ | ⟨k, at_, eo, out⟩) hI2 ih2
      · obtain ⟨r, iN, u, rfl, hr, hw, kk, hk1, _⟩ := hj.c s bs hbs (by omega)
        have hbv := hbs
        have hkl := (List.getElem?_eq_some_iff.1 hk1).1
        have bv : Nat.blt s 8 = true := by simp [Nat.blt_eq]; omega
        have gv : (encI by_)[0 + s * 1]? = some (.int .i64 (iN : Int)) := by rw [Nat.zero_add]; exact encI_get1 hbv
        have hsh := shows_ok sk er rs G.err hr
        rw [hw] at hsh
        unfold shD at hsh
        simp only at hsh
        conv => whnf
        rw [bv]
        conv => whnf
        rw [show Nat.ble (0 + s * 1 + 1) 8 = true from Nat.ble_eq_true_of_le (by omega)]
        conv => whnf
        rw [gv]
        conv => whnf
        rw [bv]
        conv => whnf
        rw [show Nat.ble (0 + s * 1 + 1) 8 = true from Nat.ble_eq_true_of_le (by omega)]
        conv => whnf
        rw [gv]
        conv => whnf
        refine Rets.use hsh ?_
        conv => whnf
        exact ih2 (some (kk, u, 0, [(iN : Int)])) ⟨hk1, rfl, by omega⟩ (by simp only; omega)
      · obtain ⟨hat, hol, hk9⟩ := hI2
        obtain ⟨⟨hv0, hv8⟩, hby⟩ := hj.m k at_ hat
        obtain ⟨v, rfl⟩ : ∃ v : Nat, at_ = v := ⟨at_.toNat, by omega⟩
        conv => whnf
        cases g6 : eqI (v : Int) (s : Int)
        · have hvs : v ≠ s := fun h => by rw [h, eqI_eq] at g6; simp at g6
          have hk0 : 1 ≤ k := by
            rcases Nat.eq_zero_or_pos k with rfl | h
            · rw [hj.z] at hat; simp at hat; omega
            · exact h
          obtain ⟨i, hbv, hi0⟩ := hby hk0
          rw [Int.toNat_natCast] at hbv
          obtain ⟨r, iN, u, rfl, hr, hw, kk, hk1, hlt2⟩ := hj.c v i hbv hi0
          have hkk := hlt2 hvs k hat
          have bv : Nat.blt v 8 = true := by simp [Nat.blt_eq]; omega
          have gv : (encI by_)[0 + v * 1]? = some (.int .i64 (iN : Int)) := by rw [Nat.zero_add]; exact encI_get1 hbv
          have hsh := shows_ok sk er rs G.err hr
          rw [hw] at hsh
          unfold shD at hsh
          simp only at hsh
          conv => whnf
          rw [bv]
          conv => whnf
          rw [show Nat.ble (0 + v * 1 + 1) 8 = true from Nat.ble_eq_true_of_le (by omega)]
          conv => whnf
          rw [gv]
          conv => whnf
          rw [show Nat.ble ((eo + 1 + 1) * 8) 140737488355328 = true from Nat.ble_eq_true_of_le (by omega)]
          conv => whnf
          rw [may_all]
          conv => whnf
          rw [bv]
          conv => whnf
          rw [show Nat.ble (0 + v * 1 + 1) 8 = true from Nat.ble_eq_true_of_le (by omega)]
          conv => whnf
          rw [gv]
          conv => whnf
          refine Rets.use hsh ?_
          conv => whnf
          rw [len_beq hol, List.take_of_length_le (by rw [encI_length]; omega)]
          rw [show encI out ++ [D.int .i64 (iN : Int)] = encI (out ++ [(iN : Int)]) from (encI_snoc out (iN : Int)).symm]
          exact ih2 (some (kk, u, eo + 1, out ++ [(iN : Int)])) ⟨hk1, by rw [List.length_append, hol]; rfl, by omega⟩ (by simp only; omega)
        · conv => whnf
          refine Sm.mono (reverse_ok out eo hol (by omega)) ?_
          rintro v h ⟨rfl, l, fl, hl, hfl, rfl⟩
          conv => whnf
          rw [may_fl hfl]
          conv => whnf
          rw [show Nat.ble (0 + (eo + 1) * 1) (encI l).length = true from Nat.ble_eq_true_of_le (by rw [encI_length]; omega)]
          conv => whnf
          exact ⟨rfl, _, rfl⟩
    have hlt : 2 < met.length := by rw [ltI_eq] at h1; have := of_decide_eq_true h1; omega
    conv => whnf
    refine Rets.use (shown_ok sk er rs) ?_
    conv => whnf
    refine Sm.mono (each23 sk er rs G F (n := 2) hj hme hlt hg) ?_
    rintro v h ⟨rfl, brk, by_, met, e, rfl, hj, hme, hmm, hg⟩
    cases brk
    · conv => whnf
      exact ih (by_, met, e, 3) ⟨hj, hme, hg rfl, by omega⟩ (by simp only; omega)
    · clear hg
      have bs8 : Nat.blt s 8 = true := by simpa [Nat.blt_eq] using hs8
      obtain ⟨bs, hbs⟩ : ∃ b, by_[s]? = some b := ⟨by_[s]'(by have := hj.n; omega), by simp⟩
      have gbs : (encI by_)[0 + s * 1]? = some (.int .i64 bs) := by rw [Nat.zero_add]; exact encI_get1 hbs
      have hml := hj.l
      conv => whnf
      rw [bs8]
      conv => whnf
      rw [show Nat.ble (0 + s * 1 + 1) 8 = true from Nat.ble_eq_true_of_le (by omega)]
      conv => whnf
      rw [gbs]
      conv => whnf
      cases g5 : ltI bs 0
      case true =>
        conv => whnf
        exact ⟨rfl, _, rfl⟩
      rw [ltI_eq] at g5
      have g5 := of_decide_eq_false g5
      conv => whnf
      refine loops_by (fun x : Option (Nat × Int × Nat × List Int) => match x with
          | none => ⟨101, [(0, .ptr 0 0 0 67), (1, .d (.int .i64 s)), (6, .d .nil), (7, .ptr 4 0 0 8), (13, .d .nil), (14, .d (.int .i64 s))], .unk, [.row (.ds (deL sk er rs F)) 0 0 [], .dfr, .dfr, .dfr, .row (.ds (encI by_)) 0 0 []], [1, 2, 3]⟩
          | some (k, at_, eo, out) => ⟨101, [(0, .ptr 0 0 0 67), (1, .d (.int .i64 s)), (6, .d .nil), (7, .ptr 4 0 0 8), (13, .slice 5 eo 0 (eo + 1) 1), (14, .d (.int .i64 at_))], .unk, [.row (.ds (deL sk er rs F)) 0 0 [], .dfr, .dfr, .dfr, .row (.ds (encI by_)) 0 0 [], .row (.ds (encI out)) eo 0 []], [1, 2, 3]⟩)
        (fun x => match x with | none => True | some (k, at_, eo, out) => met[k]? = some at_ ∧ out.length = eo + 1 ∧ eo + 1 + k ≤ 9) (fun x => match x with | none => 10 | some (k, _) => k) none trivial ?_
      rintro f2 (_ | ⟨k, at_, eo, out⟩) hI2 ih2
      · obtain ⟨r, iN, u, rfl, hr, hw, kk, hk1, _⟩ := hj.c s bs hbs (by omega)
        have hbv := hbs
        have hkl := (List.getElem?_eq_some_iff.1 hk1).1
        have bv : Nat.blt s 8 = true := by simp [Nat.blt_eq]; omega
        have gv : (encI by_)[0 + s * 1]? = some (.int .i64 (iN : Int)) := by rw [Nat.zero_add]; exact encI_get1 hbv
        have hsh := shows_ok sk er rs G.err hr
        rw [hw] at hsh
        unfold shD at hsh
        simp only at hsh
        conv => whnf
        rw [bv]
        conv => whnf
        rw [show Nat.ble (0 + s * 1 + 1) 8 = true from Nat.ble_eq_true_of_le (by omega)]
        conv => whnf
        rw [gv]
        conv => whnf
        rw [bv]
        conv => whnf
        rw [show Nat.ble (0 + s * 1 + 1) 8 = true from Nat.ble_eq_true_of_le (by omega)]
        conv => whnf
        rw [gv]
        conv => whnf
        refine Rets.use hsh ?_
        conv => whnf
        exact ih2 (some (kk, u, 0, [(iN : Int)])) ⟨hk1, rfl, by omega⟩ (by simp only; omega)
      · obtain ⟨hat, hol, hk9⟩ := hI2
        obtain ⟨⟨hv0, hv8⟩, hby⟩ := hj.m k at_ hat
        obtain ⟨v, rfl⟩ : ∃ v : Nat, at_ = v := ⟨at_.toNat, by omega⟩
        conv => whnf
        cases g6 : eqI (v : Int) (s : Int)
        · have hvs : v ≠ s := fun h => by rw [h, eqI_eq] at g6; simp at g6
          have hk0 : 1 ≤ k := by
            rcases Nat.eq_zero_or_pos k with rfl | h
            · rw [hj.z] at hat; simp at hat; omega
            · exact h
          obtain ⟨i, hbv, hi0⟩ := hby hk0
          rw [Int.toNat_natCast] at hbv
          obtain ⟨r, iN, u, rfl, hr, hw, kk, hk1, hlt2⟩ := hj.c v i hbv hi0
          have hkk := hlt2 hvs k hat
          have bv : Nat.blt v 8 = true := by simp [Nat.blt_eq]; omega
          have gv : (encI by_)[0 + v * 1]? = some (.int .i64 (iN : Int)) := by rw [Nat.zero_add]; exact encI_get1 hbv
          have hsh := shows_ok sk er rs G.err hr
          rw [hw] at hsh
          unfold shD at hsh
          simp only at hsh
          conv => whnf
          rw [bv]
          conv => whnf
          rw [show Nat.ble (0 + v * 1 + 1) 8 = true from Nat.ble_eq_true_of_le (by omega)]
          conv => whnf
          rw [gv]
          conv => whnf
          rw [show Nat.ble ((eo + 1 + 1) * 8) 140737488355328 = true from Nat.ble_eq_true_of_le (by omega)]
          conv => whnf
          rw [may_all]
          conv => whnf
          rw [bv]
          conv => whnf
          rw [show Nat.ble (0 + v * 1 + 1) 8 = true from Nat.ble_eq_true_of_le (by omega)]
          conv => whnf
          rw [gv]
          conv => whnf
          refine Rets.use hsh ?_
          conv => whnf
          rw [len_beq hol, List.take_of_length_le (by rw [encI_length]; omega)]
          rw [show encI out ++ [D.int .i64 (iN : Int)] = encI (out ++ [(iN : Int)]) from (encI_snoc out (iN : Int)).symm]
          exact ih2 (some (kk, u, eo + 1, out ++ [(iN : Int)])) ⟨hk1, by rw [List.length_append, hol]; rfl, by omega⟩ (by simp only; omega)
        · conv => whnf
          refine Sm.mono (reverse_ok out eo hol (by omega)) ?_
          rintro v h ⟨rfl, l, fl, hl, hfl, rfl⟩
          conv => whnf
          rw [may_fl hfl]
          conv => whnf
          rw [show Nat.ble (0 + (eo + 1) * 1) (encI l).length = true from Nat.ble_eq_true_of_le (by rw [encI_length]; omega)]
          conv => whnf
          exact ⟨rfl, _, rfl⟩
  · conv => whnf
    cases h1 : ltI ((3 : Nat) : Int) ((e + 1 : Nat) : Int)
    · have bs8 : Nat.blt s 8 = true := by simpa [Nat.blt_eq] using hs8
      obtain ⟨bs, hbs⟩ : ∃ b, by_[s]? = some b := ⟨by_[s]'(by have := hj.n; omega), by simp⟩
      have gbs : (encI by_)[0 + s * 1]? = some (.int .i64 bs) := by rw [Nat.zero_add]; exact encI_get1 hbs
      have hml := hj.l
      conv => whnf
      rw [bs8]
      conv => whnf
      rw [show Nat.ble (0 + s * 1 + 1) 8 = true from Nat.ble_eq_true_of_le (by omega)]
      conv => whnf
      rw [gbs]
      conv => whnf
      cases g5 : ltI bs 0
      case true =>
        conv => whnf
        exact ⟨rfl, _, rfl⟩
      rw [ltI_eq] at g5
      have g5 := of_decide_eq_false g5
      conv => whnf
      refine loops_by (fun x : Option (Nat × Int × Nat × List Int) => match x with
          | none => ⟨101, [(0, .ptr 0 0 0 67), (1, .d (.int .i64 s)), (6, .d .nil), (7, .ptr 4 0 0 8), (13, .d .nil), (14, .d (.int .i64 s))], .unk, [.row (.ds (deL sk er rs F)) 0 0 [], .dfr, .dfr, .dfr, .row (.ds (encI by_)) 0 0 []], [1, 2, 3]⟩
          | some (k, at_, eo, out) => ⟨101, [(0, .ptr 0 0 0 67), (1, .d (.int .i64 s)), (6, .d .nil), (7, .ptr 4 0 0 8), (13, .slice 5 eo 0 (eo + 1) 1), (14, .d (.int .i64 at_))], .unk, [.row (.ds (deL sk er rs F)) 0 0 [], .dfr, .dfr, .dfr, .row (.ds (encI by_)) 0 0 [], .row (.ds (encI out)) eo 0 []], [1, 2, 3]⟩)
        (fun x => match x with | none => True | some (k, at_, eo, out) => met[k]? = some at_ ∧ out.length = eo + 1 ∧ eo + 1 + k ≤ 9) (fun x => match x with | none => 10 | some (k, _) => k) none trivial ?_
      rintro f2 (_ | ⟨k, at_, eo, out⟩) hI2 ih2
      · obtain ⟨r, iN, u, rfl, hr, hw, kk, hk1, _⟩ := hj.c s bs hbs (by omega)
        have hbv := hbs
        have hkl := (List.getElem?_eq_some_iff.1 hk1).1
        have bv : Nat.blt s 8 = true := by simp [Nat.blt_eq]; omega
        have gv : (encI by_)[0 + s * 1]? = some (.int .i64 (iN : Int)) := by rw [Nat.zero_add]; exact encI_get1 hbv
        have hsh := shows_ok sk er rs G.err hr
        rw [hw] at hsh
        unfold shD at hsh
        simp only at hsh
        conv => whnf
        rw [bv]
        conv => whnf
        rw [show Nat.ble (0 + s * 1 + 1) 8 = true from Nat.ble_eq_true_of_le (by omega)]
        conv => whnf
        rw [gv]
        conv => whnf
        rw [bv]
        conv => whnf
        rw [show Nat.ble (0 + s * 1 + 1) 8 = true from Nat.ble_eq_true_of_le (by omega)]
        conv => whnf
        rw [gv]
        conv => whnf
        refine Rets.use hsh ?_
        conv => whnf
        exact ih2 (some (kk, u, 0, [(iN : Int)])) ⟨hk1, rfl, by omega⟩ (by simp only; omega)
      · obtain ⟨hat, hol, hk9⟩ := hI2
        obtain ⟨⟨hv0, hv8⟩, hby⟩ := hj.m k at_ hat
        obtain ⟨v, rfl⟩ : ∃ v : Nat, at_ = v := ⟨at_.toNat, by omega⟩
        conv => whnf
        cases g6 : eqI (v : Int) (s : Int)
        · have hvs : v ≠ s := fun h => by rw [h, eqI_eq] at g6; simp at g6
          have hk0 : 1 ≤ k := by
            rcases Nat.eq_zero_or_pos k with rfl | h
            · rw [hj.z] at hat; simp at hat; omega
            · exact h
          obtain ⟨i, hbv, hi0⟩ := hby hk0
          rw [Int.toNat_natCast] at hbv
          obtain ⟨r, iN, u, rfl, hr, hw, kk, hk1, hlt2⟩ := hj.c v i hbv hi0
          have hkk := hlt2 hvs k hat
          have bv : Nat.blt v 8 = true := by simp [Nat.blt_eq]; omega
          have gv : (encI by_)[0 + v * 1]? = some (.int .i64 (iN : Int)) := by rw [Nat.zero_add]; exact encI_get1 hbv
          have hsh := shows_ok sk er rs G.err hr
          rw [hw] at hsh
          unfold shD at hsh
          simp only at hsh
          conv => whnf
          rw [bv]
          conv => whnf
          rw [show Nat.ble (0 + v * 1 + 1) 8 = true from Nat.ble_eq_true_of_le (by omega)]
          conv => whnf
          rw [gv]
          conv => whnf
          rw [show Nat.ble ((eo + 1 + 1) * 8) 140737488355328 = true from Nat.ble_eq_true_of_le (by omega)]
          conv => whnf
          rw [may_all]
          conv => whnf
          rw [bv]
          conv => whnf
          rw [show Nat.ble (0 + v * 1 + 1) 8 = true from Nat.ble_eq_true_of_le (by omega)]
          conv => whnf
          rw [gv]
          conv => whnf
          refine Rets.use hsh ?_
          conv => whnf
          rw [len_beq hol, List.take_of_length_le (by rw [encI_length]; omega)]
          rw [show encI out ++ [D.int .i64 (iN : Int)] = encI (out ++ [(iN : Int)]) from (encI_snoc out (iN : Int)).symm]
          exact ih2 (some (kk, u, eo + 1, out ++ [(iN : Int)])) ⟨hk1, by rw [List.length_append, hol]; rfl, by omega⟩ (by simp only; omega)
        · conv => whnf
          refine Sm.mono (reverse_ok out eo hol (by omega)) ?_
          rintro v h ⟨rfl, l, fl, hl, hfl, rfl⟩
          conv => whnf
          rw [may_fl hfl]
          conv => whnf
          rw [show Nat.ble (0 + (eo + 1) * 1) (encI l).length = true from Nat.ble_eq_true_of_le (by rw [encI_length]; omega)]
          conv => whnf
          exact ⟨rfl, _, rfl⟩
    have hlt : 3 < met.length := by rw [ltI_eq] at h1; have := of_decide_eq_true h1; omega
    conv => whnf
    refine Rets.use (shown_ok sk er rs) ?_
    conv => whnf
    refine Sm.mono (each23 sk er rs G F (n := 3) hj hme hlt hg) ?_
    rintro v h ⟨rfl, brk, by_, met, e, rfl, hj, hme, hmm, hg⟩
    cases brk
    · conv => whnf
      exact ih (by_, met, e, 4) ⟨hj, hme, hg rfl, by omega⟩ (by simp only; omega)
    · clear hg
      have bs8 : Nat.blt s 8 = true := by simpa [Nat.blt_eq] using hs8
      obtain ⟨bs, hbs⟩ : ∃ b, by_[s]? = some b := ⟨by_[s]'(by have := hj.n; omega), by simp⟩
      have gbs : (encI by_)[0 + s * 1]? = some (.int .i64 bs) := by rw [Nat.zero_add]; exact encI_get1 hbs
      have hml := hj.l
      conv => whnf
      rw [bs8]
      conv => whnf
      rw [show Nat.ble (0 + s * 1 + 1) 8 = true from Nat.ble_eq_true_of_le (by omega)]
      conv => whnf
      rw [gbs]
      conv => whnf
      cases g5 : ltI bs 0
      case true =>
        conv => whnf
        exact ⟨rfl, _, rfl⟩
      rw [ltI_eq] at g5
      have g5 := of_decide_eq_false g5
      conv => whnf
      refine loops_by (fun x : Option (Nat × Int × Nat × List Int) => match x with
          | none => ⟨101, [(0, .ptr 0 0 0 67), (1, .d (.int .i64 s)), (6, .d .nil), (7, .ptr 5 0 0 8), (13, .d .nil), (14, .d (.int .i64 s))], .unk, [.row (.ds (deL sk er rs F)) 0 0 [], .dfr, .dfr, .dfr, .dfr, .row (.ds (encI by_)) 0 0 []], [1, 2, 3, 4]⟩
          | some (k, at_, eo, out) => ⟨101, [(0, .ptr 0 0 0 67), (1, .d (.int .i64 s)), (6, .d .nil), (7, .ptr 5 0 0 8), (13, .slice 6 eo 0 (eo + 1) 1), (14, .d (.int .i64 at_))], .unk, [.row (.ds (deL sk er rs F)) 0 0 [], .dfr, .dfr, .dfr, .dfr, .row (.ds (encI by_)) 0 0 [], .row (.ds (encI out)) eo 0 []], [1, 2, 3, 4]⟩)
        (fun x => match x with | none => True | some (k, at_, eo, out) => met[k]? = some at_ ∧ out.length = eo + 1 ∧ eo + 1 + k ≤ 9) (fun x => match x with | none => 10 | some (k, _) => k) none trivial ?_
      rintro f2 (_ | ⟨k, at_, eo, out⟩) hI2 ih2
      · obtain ⟨r, iN, u, rfl, hr, hw, kk, hk1, _⟩ := hj.c s bs hbs (by omega)
        have hbv := hbs
        have hkl := (List.getElem?_eq_some_iff.1 hk1).1
        have bv : Nat.blt s 8 = true := by simp [Nat.blt_eq]; omega
        have gv : (encI by_)[0 + s * 1]? = some (.int .i64 (iN : Int)) := by rw [Nat.zero_add]; exact encI_get1 hbv
        have hsh := shows_ok sk er rs G.err hr
        rw [hw] at hsh
        unfold shD at hsh
        simp only at hsh
        conv => whnf
        rw [bv]
        conv => whnf
        rw [show Nat.ble (0 + s * 1 + 1) 8 = true from Nat.ble_eq_true_of_le (by omega)]
        conv => whnf
        rw [gv]
        conv => whnf
        rw [bv]
        conv => whnf
        rw [show Nat.ble (0 + s * 1 + 1) 8 = true from Nat.ble_eq_true_of_le (by omega)]
        conv => whnf
        rw [gv]
        conv => whnf
        refine Rets.use hsh ?_
        conv => whnf
        exact ih2 (some (kk, u, 0, [(iN : Int)])) ⟨hk1, rfl, by omega⟩ (by simp only; omega)
      · obtain ⟨hat, hol, hk9⟩ := hI2
        obtain ⟨⟨hv0, hv8⟩, hby⟩ := hj.m k at_ hat
        obtain ⟨v, rfl⟩ : ∃ v : Nat, at_ = v := ⟨at_.toNat, by omega⟩
        conv => whnf
        cases g6 : eqI (v : Int) (s : Int)
        · have hvs : v ≠ s := fun h => by rw [h, eqI_eq] at g6; simp at g6
          have hk0 : 1 ≤ k := by
            rcases Nat.eq_zero_or_pos k with rfl | h
            · rw [hj.z] at hat; simp at hat; omega
            · exact h
          obtain ⟨i, hbv, hi0⟩ := hby hk0
          rw [Int.toNat_natCast] at hbv
          obtain ⟨r, iN, u, rfl, hr, hw, kk, hk1, hlt2⟩ := hj.c v i hbv hi0
          have hkk := hlt2 hvs k hat
          have bv : Nat.blt v 8 = true := by simp [Nat.blt_eq]; omega
          have gv : (encI by_)[0 + v * 1]? = some (.int .i64 (iN : Int)) := by rw [Nat.zero_add]; exact encI_get1 hbv
          have hsh := shows_ok sk er rs G.err hr
          rw [hw] at hsh
          unfold shD at hsh
          simp only at hsh
          conv => whnf
          rw [bv]
          conv => whnf
          rw [show Nat.ble (0 + v * 1 + 1) 8 = true from Nat.ble_eq_true_of_le (by omega)]
          conv => whnf
          rw [gv]
          conv => whnf
          rw [show Nat.ble ((eo + 1 + 1) * 8) 140737488355328 = true from Nat.ble_eq_true_of_le (by omega)]
          conv => whnf
          rw [may_all]
          conv => whnf
          rw [bv]
          conv => whnf
          rw [show Nat.ble (0 + v * 1 + 1) 8 = true from Nat.ble_eq_true_of_le (by omega)]
          conv => whnf
          rw [gv]
          conv => whnf
          refine Rets.use hsh ?_
          conv => whnf
          rw [len_beq hol, List.take_of_length_le (by rw [encI_length]; omega)]
          rw [show encI out ++ [D.int .i64 (iN : Int)] = encI (out ++ [(iN : Int)]) from (encI_snoc out (iN : Int)).symm]
          exact ih2 (some (kk, u, eo + 1, out ++ [(iN : Int)])) ⟨hk1, by rw [List.length_append, hol]; rfl, by omega⟩ (by simp only; omega)
        · conv => whnf
          refine Sm.mono (reverse_ok out eo hol (by omega)) ?_
          rintro v h ⟨rfl, l, fl, hl, hfl, rfl⟩
          conv => whnf
          rw [may_fl hfl]
          conv => whnf
          rw [show Nat.ble (0 + (eo + 1) * 1) (encI l).length = true from Nat.ble_eq_true_of_le (by rw [encI_length]; omega)]
          conv => whnf
          exact ⟨rfl, _, rfl⟩
  · conv => whnf
    cases h1 : ltI ((4 : Nat) : Int) ((e + 1 : Nat) : Int)
    · have bs8 : Nat.blt s 8 = true := by simpa [Nat.blt_eq] using hs8
      obtain ⟨bs, hbs⟩ : ∃ b, by_[s]? = some b := ⟨by_[s]'(by have := hj.n; omega), by simp⟩
      have gbs : (encI by_)[0 + s * 1]? = some (.int .i64 bs) := by rw [Nat.zero_add]; exact encI_get1 hbs
      have hml := hj.l
      conv => whnf
      rw [bs8]
      conv => whnf
      rw [show Nat.ble (0 + s * 1 + 1) 8 = true from Nat.ble_eq_true_of_le (by omega)]
      conv => whnf
      rw [gbs]
      conv => whnf
      cases g5 : ltI bs 0
      case true =>
        conv => whnf
        exact ⟨rfl, _, rfl⟩
      rw [ltI_eq] at g5
      have g5 := of_decide_eq_false g5
      conv => whnf
      refine loops_by (fun x : Option (Nat × Int × Nat × List Int) => match x with
          | none => ⟨101, [(0, .ptr 0 0 0 67), (1, .d (.int .i64 s)), (6, .d .nil), (7, .ptr 5 0 0 8), (13, .d .nil), (14, .d (.int .i64 s))], .unk, [.row (.ds (deL sk er rs F)) 0 0 [], .dfr, .dfr, .dfr, .dfr, .row (.ds (encI by_)) 0 0 []], [1, 2, 3, 4]⟩
          | some (k, at_, eo, out) => ⟨101, [(0, .ptr 0 0 0 67), (1, .d (.int .i64 s)), (6, .d .nil), (7, .ptr 5 0 0 8), (13, .slice 6 eo 0 (eo + 1) 1), (14, .d (.int .i64 at_))], .unk, [.row (.ds (deL sk er rs F)) 0 0 [], .dfr, .dfr, .dfr, .dfr, .row (.ds (encI by_)) 0 0 [], .row (.ds (encI out)) eo 0 []], [1, 2, 3, 4]⟩)
        (fun x => match x with | none => True | some (k, at_, eo, out) => met[k]? = some at_ ∧ out.length = eo + 1 ∧ eo + 1 + k ≤ 9) (fun x => match x with | none => 10 | some (k, _) => k) none trivial ?_
      rintro f2 (_ | ⟨k, at_, eo, out⟩) hI2 ih2
      · obtain ⟨r, iN, u, rfl, hr, hw, kk, hk1, _⟩ := hj.c s bs hbs (by omega)
        have hbv := hbs
        have hkl := (List.getElem?_eq_some_iff.1 hk1).1
        have bv : Nat.blt s 8 = true := by simp [Nat.blt_eq]; omega
        have gv : (encI by_)[0 + s * 1]? = some (.int .i64 (iN : Int)) := by rw [Nat.zero_add]; exact encI_get1 hbv
        have hsh := shows_ok sk er rs G.err hr
        rw [hw] at hsh
        unfold shD at hsh
        simp only at hsh
        conv => whnf
        rw [bv]
        conv => whnf
        rw [show Nat.ble (0 + s * 1 + 1) 8 = true from Nat.ble_eq_true_of_le (by omega)]
        conv => whnf
        rw [gv]
        conv => whnf
        rw [bv]
        conv => whnf
        rw [show Nat.ble (0 + s * 1 + 1) 8 = true from Nat.ble_eq_true_of_le (by omega)]
        conv => whnf
        rw [gv]
        conv => whnf
        refine Rets.use hsh ?_
        conv => whnf
        exact ih2 (some (kk, u, 0, [(iN : Int)])) ⟨hk1, rfl, by omega⟩ (by simp only; omega)
      · obtain ⟨hat, hol, hk9⟩ := hI2
        obtain ⟨⟨hv0, hv8⟩, hby⟩ := hj.m k at_ hat
        obtain ⟨v, rfl⟩ : ∃ v : Nat, at_ = v := ⟨at_.toNat, by omega⟩
        conv => whnf
        cases g6 : eqI (v : Int) (s : Int)
        · have hvs : v ≠ s := fun h => by rw [h, eqI_eq] at g6; simp at g6
          have hk0 : 1 ≤ k := by
            rcases Nat.eq_zero_or_pos k with rfl | h
            · rw [hj.z] at hat; simp at hat; omega
            · exact h
          obtain ⟨i, hbv, hi0⟩ := hby hk0
          rw [Int.toNat_natCast] at hbv
          obtain ⟨r, iN, u, rfl, hr, hw, kk, hk1, hlt2⟩ := hj.c v i hbv hi0
          have hkk := hlt2 hvs k hat
          have bv : Nat.blt v 8 = true := by simp [Nat.blt_eq]; omega
          have gv : (encI by_)[0 + v * 1]? = some (.int .i64 (iN : Int)) := by rw [Nat.zero_add]; exact encI_get1 hbv
          have hsh := shows_ok sk er rs G.err hr
          rw [hw] at hsh
          unfold shD at hsh
          simp only at hsh
          conv => whnf
          rw [bv]
          conv => whnf
          rw [show Nat.ble (0 + v * 1 + 1) 8 = true from Nat.ble_eq_true_of_le (by omega)]
          conv => whnf
          rw [gv]
          conv => whnf
          rw [show Nat.ble ((eo + 1 + 1) * 8) 140737488355328 = true from Nat.ble_eq_true_of_le (by omega)]
          conv => whnf
          rw [may_all]
          conv => whnf
          rw [bv]
          conv => whnf
          rw [show Nat.ble (0 + v * 1 + 1) 8 = true from Nat.ble_eq_true_of_le (by omega)]
          conv => whnf
          rw [gv]
          conv => whnf
          refine Rets.use hsh ?_
          conv => whnf
          rw [len_beq hol, List.take_of_length_le (by rw [encI_length]; omega)]
          rw [show encI out ++ [D.int .i64 (iN : Int)] = encI (out ++ [(iN : Int)]) from (encI_snoc out (iN : Int)).symm]
          exact ih2 (some (kk, u, eo + 1, out ++ [(iN : Int)])) ⟨hk1, by rw [List.length_append, hol]; rfl, by omega⟩ (by simp only; omega)
        · conv => whnf
          refine Sm.mono (reverse_ok out eo hol (by omega)) ?_
          rintro v h ⟨rfl, l, fl, hl, hfl, rfl⟩
          conv => whnf
          rw [may_fl hfl]
          conv => whnf
          rw [show Nat.ble (0 + (eo + 1) * 1) (encI l).length = true from Nat.ble_eq_true_of_le (by rw [encI_length]; omega)]
          conv => whnf
          exact ⟨rfl, _, rfl⟩
    have hlt : 4 < met.length := by rw [ltI_eq] at h1; have := of_decide_eq_true h1; omega
    conv => whnf
    refine Rets.use (shown_ok sk er rs) ?_
    conv => whnf
    refine Sm.mono (each23 sk er rs G F (n := 4) hj hme hlt hg) ?_
    rintro v h ⟨rfl, brk, by_, met, e, rfl, hj, hme, hmm, hg⟩
    cases brk
    · conv => whnf
      exact ih (by_, met, e, 5) ⟨hj, hme, hg rfl, by omega⟩ (by simp only; omega)
    · clear hg
      have bs8 : Nat.blt s 8 = true := by simpa [Nat.blt_eq] using hs8
      obtain ⟨bs, hbs⟩ : ∃ b, by_[s]? = some b := ⟨by_[s]'(by have := hj.n; omega), by simp⟩
      have gbs : (encI by_)[0 + s * 1]? = some (.int .i64 bs) := by rw [Nat.zero_add]; exact encI_get1 hbs
      have hml := hj.l
      conv => whnf
      rw [bs8]
      conv => whnf
      rw [show Nat.ble (0 + s * 1 + 1) 8 = true from Nat.ble_eq_true_of_le (by omega)]
      conv => whnf
      rw [gbs]
      conv => whnf
      cases g5 : ltI bs 0
      case true =>
        conv => whnf
        exact ⟨rfl, _, rfl⟩
      rw [ltI_eq] at g5
      have g5 := of_decide_eq_false g5
      conv => whnf
      refine loops_by (fun x : Option (Nat × Int × Nat × List Int) => match x with
          | none => ⟨101, [(0, .ptr 0 0 0 67), (1, .d (.int .i64 s)), (6, .d .nil), (7, .ptr 6 0 0 8), (13, .d .nil), (14, .d (.int .i64 s))], .unk, [.row (.ds (deL sk er rs F)) 0 0 [], .dfr, .dfr, .dfr, .dfr, .dfr, .row (.ds (encI by_)) 0 0 []], [1, 2, 3, 4, 5]⟩
          | some (k, at_, eo, out) => ⟨101, [(0, .ptr 0 0 0 67), (1, .d (.int .i64 s)), (6, .d .nil), (7, .ptr 6 0 0 8), (13, .slice 7 eo 0 (eo + 1) 1), (14, .d (.int .i64 at_))], .unk, [.row (.ds (deL sk er rs F)) 0 0 [], .dfr, .dfr, .dfr, .dfr, .dfr, .row (.ds (encI by_)) 0 0 [], .row (.ds (encI out)) eo 0 []], [1, 2, 3, 4, 5]⟩)
        (fun x => match x with | none => True | some (k, at_, eo, out) => met[k]? = some at_ ∧ out.length = eo + 1 ∧ eo + 1 + k ≤ 9) (fun x => match x with | none => 10 | some (k, _) => k) none trivial ?_
      rintro f2 (_ | ⟨k, at_, eo, out⟩) hI2 ih2
      · obtain ⟨r, iN, u, rfl, hr, hw, kk, hk1, _⟩ := hj.c s bs hbs (by omega)
        have hbv := hbs
        have hkl := (List.getElem?_eq_some_iff.1 hk1).1
        have bv : Nat.blt s 8 = true := by simp [Nat.blt_eq]; omega
        have gv : (encI by_)[0 + s * 1]? = some (.int .i64 (iN : Int)) := by rw [Nat.zero_add]; exact encI_get1 hbv
        have hsh := shows_ok sk er rs G.err hr
        rw [hw] at hsh
        unfold shD at hsh
        simp only at hsh
        conv => whnf
        rw [bv]
        conv => whnf
        rw [show Nat.ble (0 + s * 1 + 1) 8 = true from Nat.ble_eq_true_of_le (by omega)]
        conv => whnf
        rw [gv]
        conv => whnf
        rw [bv]
        conv => whnf
        rw [show Nat.ble (0 + s * 1 + 1) 8 = true from Nat.ble_eq_true_of_le (by omega)]
        conv => whnf
        rw [gv]
        conv => whnf
        refine Rets.use hsh ?_
        conv => whnf
        exact ih2 (some (kk, u, 0, [(iN : Int)])) ⟨hk1, rfl, by omega⟩ (by simp only; omega)
      · obtain ⟨hat, hol, hk9⟩ := hI2
        obtain ⟨⟨hv0, hv8⟩, hby⟩ := hj.m k at_ hat
        obtain ⟨v, rfl⟩ : ∃ v : Nat, at_ = v := ⟨at_.toNat, by omega⟩
        conv => whnf
        cases g6 : eqI (v : Int) (s : Int)
        · have hvs : v ≠ s := fun h => by rw [h, eqI_eq] at g6; simp at g6
          have hk0 : 1 ≤ k := by
            rcases Nat.eq_zero_or_pos k with rfl | h
            · rw [hj.z] at hat; simp at hat; omega
            · exact h
          obtain ⟨i, hbv, hi0⟩ := hby hk0
          rw [Int.toNat_natCast] at hbv
          obtain ⟨r, iN, u, rfl, hr, hw, kk, hk1, hlt2⟩ := hj.c v i hbv hi0
          have hkk := hlt2 hvs k hat
          have bv : Nat.blt v 8 = true := by simp [Nat.blt_eq]; omega
          have gv : (encI by_)[0 + v * 1]? = some (.int .i64 (iN : Int)) := by rw [Nat.zero_add]; exact encI_get1 hbv
          have hsh := shows_ok sk er rs G.err hr
          rw [hw] at hsh
          unfold shD at hsh
          simp only at hsh
          conv => whnf
          rw [bv]
          conv => whnf
          rw [show Nat.ble (0 + v * 1 + 1) 8 = true from Nat.ble_eq_true_of_le (by omega)]
          conv => whnf
          rw [gv]
          conv => whnf
          rw [show Nat.ble ((eo + 1 + 1) * 8) 140737488355328 = true from Nat.ble_eq_true_of_le (by omega)]
          conv => whnf
          rw [may_all]
          conv => whnf
          rw [bv]
          conv => whnf
          rw [show Nat.ble (0 + v * 1 + 1) 8 = true from Nat.ble_eq_true_of_le (by omega)]
          conv => whnf
          rw [gv]
          conv => whnf
          refine Rets.use hsh ?_
          conv => whnf
          rw [len_beq hol, List.take_of_length_le (by rw [encI_length]; omega)]
          rw [show encI out ++ [D.int .i64 (iN : Int)] = encI (out ++ [(iN : Int)]) from (encI_snoc out (iN : Int)).symm]
          exact ih2 (some (kk, u, eo + 1, out ++ [(iN : Int)])) ⟨hk1, by rw [List.length_append, hol]; rfl, by omega⟩ (by simp only; omega)
        · conv => whnf
          refine Sm.mono (reverse_ok out eo hol (by omega)) ?_
          rintro v h ⟨rfl, l, fl, hl, hfl, rfl⟩
          conv => whnf
          rw [may_fl hfl]
          conv => whnf
          rw [show Nat.ble (0 + (eo + 1) * 1) (encI l).length = true from Nat.ble_eq_true_of_le (by rw [encI_length]; omega)]
          conv => whnf
          exact ⟨rfl, _, rfl⟩
  · conv => whnf
    cases h1 : ltI ((5 : Nat) : Int) ((e + 1 : Nat) : Int)
    · have bs8 : Nat.blt s 8 = true := by simpa [Nat.blt_eq] using hs8
      obtain ⟨bs, hbs⟩ : ∃ b, by_[s]? = some b := ⟨by_[s]'(by have := hj.n; omega), by simp⟩
      have gbs : (encI by_)[0 + s * 1]? = some (.int .i64 bs) := by rw [Nat.zero_add]; exact encI_get1 hbs
      have hml := hj.l
      conv => whnf
      rw [bs8]
      conv => whnf
      rw [show Nat.ble (0 + s * 1 + 1) 8 = true from Nat.ble_eq_true_of_le (by omega)]
      conv => whnf
      rw [gbs]
      conv => whnf
      cases g5 : ltI bs 0
      case true =>
        conv => whnf
        exact ⟨rfl, _, rfl⟩
      rw [ltI_eq] at g5
      have g5 := of_decide_eq_false g5
      conv => whnf
      refine loops_by (fun x : Option (Nat × Int × Nat × List Int) => match x with
          | none => ⟨101, [(0, .ptr 0 0 0 67), (1, .d (.int .i64 s)), (6, .d .nil), (7, .ptr 6 0 0 8), (13, .d .nil), (14, .d (.int .i64 s))], .unk, [.row (.ds (deL sk er rs F)) 0 0 [], .dfr, .dfr, .dfr, .dfr, .dfr, .row (.ds (encI by_)) 0 0 []], [1, 2, 3, 4, 5]⟩
          | some (k, at_, eo, out) => ⟨101, [(0, .ptr 0 0 0 67), (1, .d (.int .i64 s)), (6, .d .nil), (7, .ptr 6 0 0 8), (13, .slice 7 eo 0 (eo + 1) 1), (14, .d (.int .i64 at_))], .unk, [.row (.ds (deL sk er rs F)) 0 0 [], .dfr, .dfr, .dfr, .dfr, .dfr, .row (.ds (encI by_)) 0 0 [], .row (.ds (encI out)) eo 0 []], [1, 2, 3, 4, 5]⟩)
        (fun x => match x with | none => True | some (k, at_, eo, out) => met[k]? = some at_ ∧ out.length = eo + 1 ∧ eo + 1 + k ≤ 9) (fun x => match x with | none => 10 | some (k, _) => k) none trivial ?_
      rintro f2 (_ | ⟨k, at_, eo, out⟩) hI2 ih2
      · obtain ⟨r, iN, u, rfl, hr, hw, kk, hk1, _⟩ := hj.c s bs hbs (by omega)
        have hbv := hbs
        have hkl := (List.getElem?_eq_some_iff.1 hk1).1
        have bv : Nat.blt s 8 = true := by simp [Nat.blt_eq]; omega
        have gv : (encI by_)[0 + s * 1]? = some (.int .i64 (iN : Int)) := by rw [Nat.zero_add]; exact encI_get1 hbv
        have hsh := shows_ok sk er rs G.err hr
        rw [hw] at hsh
        unfold shD at hsh
        simp only at hsh
        conv => whnf
        rw [bv]
        conv => whnf
        rw [show Nat.ble (0 + s * 1 + 1) 8 = true from Nat.ble_eq_true_of_le (by omega)]
        conv => whnf
        rw [gv]
        conv => whnf
        rw [bv]
        conv => whnf
        rw [show Nat.ble (0 + s * 1 + 1) 8 = true from Nat.ble_eq_true_of_le (by omega)]
        conv => whnf
        rw [gv]
        conv => whnf
        refine Rets.use hsh ?_
        conv => whnf
        exact ih2 (some (kk, u, 0, [(iN : Int)])) ⟨hk1, rfl, by omega⟩ (by simp only; omega)
      · obtain ⟨hat, hol, hk9⟩ := hI2
        obtain ⟨⟨hv0, hv8⟩, hby⟩ := hj.m k at_ hat
        obtain ⟨v, rfl⟩ : ∃ v : Nat, at_ = v := ⟨at_.toNat, by omega⟩
        conv => whnf
        cases g6 : eqI (v : Int) (s : Int)
        · have hvs : v ≠ s := fun h => by rw [h, eqI_eq] at g6; simp at g6
          have hk0 : 1 ≤ k := by
            rcases Nat.eq_zero_or_pos k with rfl | h
            · rw [hj.z] at hat; simp at hat; omega
            · exact h
          obtain ⟨i, hbv, hi0⟩ := hby hk0
          rw [Int.toNat_natCast] at hbv
          obtain ⟨r, iN, u, rfl, hr, hw, kk, hk1, hlt2⟩ := hj.c v i hbv hi0
          have hkk := hlt2 hvs k hat
          have bv : Nat.blt v 8 = true := by simp [Nat.blt_eq]; omega
          have gv : (encI by_)[0 + v * 1]? = some (.int .i64 (iN : Int)) := by rw [Nat.zero_add]; exact encI_get1 hbv
          have hsh := shows_ok sk er rs G.err hr
          rw [hw] at hsh
          unfold shD at hsh
          simp only at hsh
          conv => whnf
          rw [bv]
          conv => whnf
          rw [show Nat.ble (0 + v * 1 + 1) 8 = true from Nat.ble_eq_true_of_le (by omega)]
          conv => whnf
          rw [gv]
          conv => whnf
          rw [show Nat.ble ((eo + 1 + 1) * 8) 140737488355328 = true from Nat.ble_eq_true_of_le (by omega)]
          conv => whnf
          rw [may_all]
          conv => whnf
          rw [bv]
          conv => whnf
          rw [show Nat.ble (0 + v * 1 + 1) 8 = true from Nat.ble_eq_true_of_le (by omega)]
          conv => whnf
          rw [gv]
          conv => whnf
          refine Rets.use hsh ?_
          conv => whnf
          rw [len_beq hol, List.take_of_length_le (by rw [encI_length]; omega)]
          rw [show encI out ++ [D.int .i64 (iN : Int)] = encI (out ++ [(iN : Int)]) from (encI_snoc out (iN : Int)).symm]
          exact ih2 (some (kk, u, eo + 1, out ++ [(iN : Int)])) ⟨hk1, by rw [List.length_append, hol]; rfl, by omega⟩ (by simp only; omega)
        · conv => whnf
          refine Sm.mono (reverse_ok out eo hol (by omega)) ?_
          rintro v h ⟨rfl, l, fl, hl, hfl, rfl⟩
          conv => whnf
          rw [may_fl hfl]
          conv => whnf
          rw [show Nat.ble (0 + (eo + 1) * 1) (encI l).length = true from Nat.ble_eq_true_of_le (by rw [encI_length]; omega)]
          conv => whnf
          exact ⟨rfl, _, rfl⟩
    have hlt : 5 < met.length := by rw [ltI_eq] at h1; have := of_decide_eq_true h1; omega
    conv => whnf
    refine Rets.use (shown_ok sk er rs) ?_
    conv => whnf
    refine Sm.mono (each23 sk er rs G F (n := 5) hj hme hlt hg) ?_
    rintro v h ⟨rfl, brk, by_, met, e, rfl, hj, hme, hmm, hg⟩
    cases brk
    · conv => whnf
      exact ih (by_, met, e, 6) ⟨hj, hme, hg rfl, by omega⟩ (by simp only; omega)
    · clear hg
      have bs8 : Nat.blt s 8 = true := by simpa [Nat.blt_eq] using hs8
      obtain ⟨bs, hbs⟩ : ∃ b, by_[s]? = some b := ⟨by_[s]'(by have := hj.n; omega), by simp⟩
      have gbs : (encI by_)[0 + s * 1]? = some (.int .i64 bs) := by rw [Nat.zero_add]; exact encI_get1 hbs
      have hml := hj.l
      conv => whnf
      rw [bs8]
      conv => whnf
      rw [show Nat.ble (0 + s * 1 + 1) 8 = true from Nat.ble_eq_true_of_le (by omega)]
      conv => whnf
      rw [gbs]
      conv => whnf
      cases g5 : ltI bs 0
      case true =>
        conv => whnf
        exact ⟨rfl, _, rfl⟩
      rw [ltI_eq] at g5
      have g5 := of_decide_eq_false g5
      conv => whnf
      refine loops_by (fun x : Option (Nat × Int × Nat × List Int) => match x with
          | none => ⟨101, [(0, .ptr 0 0 0 67), (1, .d (.int .i64 s)), (6, .d .nil), (7, .ptr 7 0 0 8), (13, .d .nil), (14, .d (.int .i64 s))], .unk, [.row (.ds (deL sk er rs F)) 0 0 [], .dfr, .dfr, .dfr, .dfr, .dfr, .dfr, .row (.ds (encI by_)) 0 0 []], [1, 2, 3, 4, 5, 6]⟩
          | some (k, at_, eo, out) => ⟨101, [(0, .ptr 0 0 0 67), (1, .d (.int .i64 s)), (6, .d .nil), (7, .ptr 7 0 0 8), (13, .slice 8 eo 0 (eo + 1) 1), (14, .d (.int .i64 at_))], .unk, [.row (.ds (deL sk er rs F)) 0 0 [], .dfr, .dfr, .dfr, .dfr, .dfr, .dfr, .row (.ds (encI by_)) 0 0 [], .row (.ds (encI out)) eo 0 []], [1, 2, 3, 4, 5, 6]⟩)
        (fun x => match x with | none => True | some (k, at_, eo, out) => met[k]? = some at_ ∧ out.length = eo + 1 ∧ eo + 1 + k ≤ 9) (fun x => match x with | none => 10 | some (k, _) => k) none trivial ?_
      rintro f2 (_ | ⟨k, at_, eo, out⟩) hI2 ih2
      · obtain ⟨r, iN, u, rfl, hr, hw, kk, hk1, _⟩ := hj.c s bs hbs (by omega)
        have hbv := hbs
        have hkl := (List.getElem?_eq_some_iff.1 hk1).1
        have bv : Nat.blt s 8 = true := by simp [Nat.blt_eq]; omega
        have gv : (encI by_)[0 + s * 1]? = some (.int .i64 (iN : Int)) := by rw [Nat.zero_add]; exact encI_get1 hbv
        have hsh := shows_ok sk er rs G.err hr
        rw [hw] at hsh
        unfold shD at hsh
        simp only at hsh
        conv => whnf
        rw [bv]
        conv => whnf
        rw [show Nat.ble (0 + s * 1 + 1) 8 = true from Nat.ble_eq_true_of_le (by omega)]
        conv => whnf
        rw [gv]
        conv => whnf
        rw [bv]
        conv => whnf
        rw [show Nat.ble (0 + s * 1 + 1) 8 = true from Nat.ble_eq_true_of_le (by omega)]
        conv => whnf
        rw [gv]
        conv => whnf
        refine Rets.use hsh ?_
        conv => whnf
        exact ih2 (some (kk, u, 0, [(iN : Int)])) ⟨hk1, rfl, by omega⟩ (by simp only; omega)
      · obtain ⟨hat, hol, hk9⟩ := hI2
        obtain ⟨⟨hv0, hv8⟩, hby⟩ := hj.m k at_ hat
        obtain ⟨v, rfl⟩ : ∃ v : Nat, at_ = v := ⟨at_.toNat, by omega⟩
        conv => whnf
        cases g6 : eqI (v : Int) (s : Int)
        · have hvs : v ≠ s := fun h => by rw [h, eqI_eq] at g6; simp at g6
          have hk0 : 1 ≤ k := by
            rcases Nat.eq_zero_or_pos k with rfl | h
            · rw [hj.z] at hat; simp at hat; omega
            · exact h
          obtain ⟨i, hbv, hi0⟩ := hby hk0
          rw [Int.toNat_natCast] at hbv
          obtain ⟨r, iN, u, rfl, hr, hw, kk, hk1, hlt2⟩ := hj.c v i hbv hi0
          have hkk := hlt2 hvs k hat
          have bv : Nat.blt v 8 = true := by simp [Nat.blt_eq]; omega
          have gv : (encI by_)[0 + v * 1]? = some (.int .i64 (iN : Int)) := by rw [Nat.zero_add]; exact encI_get1 hbv
          have hsh := shows_ok sk er rs G.err hr
          rw [hw] at hsh
          unfold shD at hsh
          simp only at hsh
          conv => whnf
          rw [bv]
          conv => whnf
          rw [show Nat.ble (0 + v * 1 + 1) 8 = true from Nat.ble_eq_true_of_le (by omega)]
          conv => whnf
          rw [gv]
          conv => whnf
          rw [show Nat.ble ((eo + 1 + 1) * 8) 140737488355328 = true from Nat.ble_eq_true_of_le (by omega)]
          conv => whnf
          rw [may_all]
          conv => whnf
          rw [bv]
          conv => whnf
          rw [show Nat.ble (0 + v * 1 + 1) 8 = true from Nat.ble_eq_true_of_le (by omega)]
          conv => whnf
          rw [gv]
          conv => whnf
          refine Rets.use hsh ?_
          conv => whnf
          rw [len_beq hol, List.take_of_length_le (by rw [encI_length]; omega)]
          rw [show encI out ++ [D.int .i64 (iN : Int)] = encI (out ++ [(iN : Int)]) from (encI_snoc out (iN : Int)).symm]
          exact ih2 (some (kk, u, eo + 1, out ++ [(iN : Int)])) ⟨hk1, by rw [List.length_append, hol]; rfl, by omega⟩ (by simp only; omega)
        · conv => whnf
          refine Sm.mono (reverse_ok out eo hol (by omega)) ?_
          rintro v h ⟨rfl, l, fl, hl, hfl, rfl⟩
          conv => whnf
          rw [may_fl hfl]
          conv => whnf
          rw [show Nat.ble (0 + (eo + 1) * 1) (encI l).length = true from Nat.ble_eq_true_of_le (by rw [encI_length]; omega)]
          conv => whnf
          exact ⟨rfl, _, rfl⟩
  · conv => whnf
    cases h1 : ltI ((6 : Nat) : Int) ((e + 1 : Nat) : Int)
    · have bs8 : Nat.blt s 8 = true := by simpa [Nat.blt_eq] using hs8
      obtain ⟨bs, hbs⟩ : ∃ b, by_[s]? = some b := ⟨by_[s]'(by have := hj.n; omega), by simp⟩
      have gbs : (encI by_)[0 + s * 1]? = some (.int .i64 bs) := by rw [Nat.zero_add]; exact encI_get1 hbs
      have hml := hj.l
      conv => whnf
      rw [bs8]
      conv => whnf
      rw [show Nat.ble (0 + s * 1 + 1) 8 = true from Nat.ble_eq_true_of_le (by omega)]
      conv => whnf
      rw [gbs]
      conv => whnf
      cases g5 : ltI bs 0
      case true =>
        conv => whnf
        exact ⟨rfl, _, rfl⟩
      rw [ltI_eq] at g5
      have g5 := of_decide_eq_false g5
      conv => whnf
      refine loops_by (fun x : Option (Nat × Int × Nat × List Int) => match x with
          | none => ⟨101, [(0, .ptr 0 0 0 67), (1, .d (.int .i64 s)), (6, .d .nil), (7, .ptr 7 0 0 8), (13, .d .nil), (14, .d (.int .i64 s))], .unk, [.row (.ds (deL sk er rs F)) 0 0 [], .dfr, .dfr, .dfr, .dfr, .dfr, .dfr, .row (.ds (encI by_)) 0 0 []], [1, 2, 3, 4, 5, 6]⟩
          | some (k, at_, eo, out) => ⟨101, [(0, .ptr 0 0 0 67), (1, .d (.int .i64 s)), (6, .d .nil), (7, .ptr 7 0 0 8), (13, .slice 8 eo 0 (eo + 1) 1), (14, .d (.int .i64 at_))], .unk, [.row (.ds (deL sk er rs F)) 0 0 [], .dfr, .dfr, .dfr, .dfr, .dfr, .dfr, .row (.ds (encI by_)) 0 0 [], .row (.ds (encI out)) eo 0 []], [1, 2, 3, 4, 5, 6]⟩)
        (fun x => match x with | none => True | some (k, at_, eo, out) => met[k]? = some at_ ∧ out.length = eo + 1 ∧ eo + 1 + k ≤ 9) (fun x => match x with | none => 10 | some (k, _) => k) none trivial ?_
      rintro f2 (_ | ⟨k, at_, eo, out⟩) hI2 ih2
      · obtain ⟨r, iN, u, rfl, hr, hw, kk, hk1, _⟩ := hj.c s bs hbs (by omega)
        have hbv := hbs
        have hkl := (List.getElem?_eq_some_iff.1 hk1).1
        have bv : Nat.blt s 8 = true := by simp [Nat.blt_eq]; omega
        have gv : (encI by_)[0 + s * 1]? = some (.int .i64 (iN : Int)) := by rw [Nat.zero_add]; exact encI_get1 hbv
        have hsh := shows_ok sk er rs G.err hr
        rw [hw] at hsh
        unfold shD at hsh
        simp only at hsh
        conv => whnf
        rw [bv]
        conv => whnf
        rw [show Nat.ble (0 + s * 1 + 1) 8 = true from Nat.ble_eq_true_of_le (by omega)]
        conv => whnf
        rw [gv]
        conv => whnf
        rw [bv]
        conv => whnf
        rw [show Nat.ble (0 + s * 1 + 1) 8 = true from Nat.ble_eq_true_of_le (by omega)]
        conv => whnf
        rw [gv]
        conv => whnf
        refine Rets.use hsh ?_
        conv => whnf
        exact ih2 (some (kk, u, 0, [(iN : Int)])) ⟨hk1, rfl, by omega⟩ (by simp only; omega)
      · obtain ⟨hat, hol, hk9⟩ := hI2
        obtain ⟨⟨hv0, hv8⟩, hby⟩ := hj.m k at_ hat
        obtain ⟨v, rfl⟩ : ∃ v : Nat, at_ = v := ⟨at_.toNat, by omega⟩
        conv => whnf
        cases g6 : eqI (v : Int) (s : Int)
        · have hvs : v ≠ s := fun h => by rw [h, eqI_eq] at g6; simp at g6
          have hk0 : 1 ≤ k := by
            rcases Nat.eq_zero_or_pos k with rfl | h
            · rw [hj.z] at hat; simp at hat; omega
            · exact h
          obtain ⟨i, hbv, hi0⟩ := hby hk0
          rw [Int.toNat_natCast] at hbv
          obtain ⟨r, iN, u, rfl, hr, hw, kk, hk1, hlt2⟩ := hj.c v i hbv hi0
          have hkk := hlt2 hvs k hat
          have bv : Nat.blt v 8 = true := by simp [Nat.blt_eq]; omega
          have gv : (encI by_)[0 + v * 1]? = some (.int .i64 (iN : Int)) := by rw [Nat.zero_add]; exact encI_get1 hbv
          have hsh := shows_ok sk er rs G.err hr
          rw [hw] at hsh
          unfold shD at hsh
          simp only at hsh
          conv => whnf
          rw [bv]
          conv => whnf
          rw [show Nat.ble (0 + v * 1 + 1) 8 = true from Nat.ble_eq_true_of_le (by omega)]
          conv => whnf
          rw [gv]
          conv => whnf
          rw [show Nat.ble ((eo + 1 + 1) * 8) 140737488355328 = true from Nat.ble_eq_true_of_le (by omega)]
          conv => whnf
          rw [may_all]
          conv => whnf
          rw [bv]
          conv => whnf
          rw [show Nat.ble (0 + v * 1 + 1) 8 = true from Nat.ble_eq_true_of_le (by omega)]
          conv => whnf
          rw [gv]
          conv => whnf
          refine Rets.use hsh ?_
          conv => whnf
          rw [len_beq hol, List.take_of_length_le (by rw [encI_length]; omega)]
          rw [show encI out ++ [D.int .i64 (iN : Int)] = encI (out ++ [(iN : Int)]) from (encI_snoc out (iN : Int)).symm]
          exact ih2 (some (kk, u, eo + 1, out ++ [(iN : Int)])) ⟨hk1, by rw [List.length_append, hol]; rfl, by omega⟩ (by simp only; omega)
        · conv => whnf
          refine Sm.mono (reverse_ok out eo hol (by omega)) ?_
          rintro v h ⟨rfl, l, fl, hl, hfl, rfl⟩
          conv => whnf
          rw [may_fl hfl]
          conv => whnf
          rw [show Nat.ble (0 + (eo + 1) * 1) (encI l).length = true from Nat.ble_eq_true_of_le (by rw [encI_length]; omega)]
          conv => whnf
          exact ⟨rfl, _, rfl⟩
    have hlt : 6 < met.length := by rw [ltI_eq] at h1; have := of_decide_eq_true h1; omega
    conv => whnf
    refine Rets.use (shown_ok sk er rs) ?_
    conv => whnf
    refine Sm.mono (each23 sk er rs G F (n := 6) hj hme hlt hg) ?_
    rintro v h ⟨rfl, brk, by_, met, e, rfl, hj, hme, hmm, hg⟩
    cases brk
    · conv => whnf
      exact ih (by_, met, e, 7) ⟨hj, hme, hg rfl, by omega⟩ (by simp only; omega)
    · clear hg
      have bs8 : Nat.blt s 8 = true := by simpa [Nat.blt_eq] using hs8
      obtain ⟨bs, hbs⟩ : ∃ b, by_[s]? = some b := ⟨by_[s]'(by have := hj.n; omega), by simp⟩
      have gbs : (encI by_)[0 + s * 1]? = some (.int .i64 bs) := by rw [Nat.zero_add]; exact encI_get1 hbs
      have hml := hj.l
      conv => whnf
      rw [bs8]
      conv => whnf
      rw [show Nat.ble (0 + s * 1 + 1) 8 = true from Nat.ble_eq_true_of_le (by omega)]
      conv => whnf
      rw [gbs]
      conv => whnf
      cases g5 : ltI bs 0
      case true =>
        conv => whnf
        exact ⟨rfl, _, rfl⟩
      rw [ltI_eq] at g5
      have g5 := of_decide_eq_false g5
      conv => whnf
      refine loops_by (fun x : Option (Nat × Int × Nat × List Int) => match x with
          | none => ⟨101, [(0, .ptr 0 0 0 67), (1, .d (.int .i64 s)), (6, .d .nil), (7, .ptr 8 0 0 8), (13, .d .nil), (14, .d (.int .i64 s))], .unk, [.row (.ds (deL sk er rs F)) 0 0 [], .dfr, .dfr, .dfr, .dfr, .dfr, .dfr, .dfr, .row (.ds (encI by_)) 0 0 []], [1, 2, 3, 4, 5, 6, 7]⟩
          | some (k, at_, eo, out) => ⟨101, [(0, .ptr 0 0 0 67), (1, .d (.int .i64 s)), (6, .d .nil), (7, .ptr 8 0 0 8), (13, .slice 9 eo 0 (eo + 1) 1), (14, .d (.int .i64 at_))], .unk, [.row (.ds (deL sk er rs F)) 0 0 [], .dfr, .dfr, .dfr, .dfr, .dfr, .dfr, .dfr, .row (.ds (encI by_)) 0 0 [], .row (.ds (encI out)) eo 0 []], [1, 2, 3, 4, 5, 6, 7]⟩)
        (fun x => match x with | none => True | some (k, at_, eo, out) => met[k]? = some at_ ∧ out.length = eo + 1 ∧ eo + 1 + k ≤ 9) (fun x => match x with | none => 10 | some (k, _) => k) none trivial ?_
      rintro f2 (_ | ⟨k, at_, eo, out⟩) hI2 ih2
      · obtain ⟨r, iN, u, rfl, hr, hw, kk, hk1, _⟩ := hj.c s bs hbs (by omega)
        have hbv := hbs
        have hkl := (List.getElem?_eq_some_iff.1 hk1).1
        have bv : Nat.blt s 8 = true := by simp [Nat.blt_eq]; omega
        have gv : (encI by_)[0 + s * 1]? = some (.int .i64 (iN : Int)) := by rw [Nat.zero_add]; exact encI_get1 hbv
        have hsh := shows_ok sk er rs G.err hr
        rw [hw] at hsh
        unfold shD at hsh
        simp only at hsh
        conv => whnf
        rw [bv]
        conv => whnf
        rw [show Nat.ble (0 + s * 1 + 1) 8 = true from Nat.ble_eq_true_of_le (by omega)]
        conv => whnf
        rw [gv]
        conv => whnf
        rw [bv]
        conv => whnf
        rw [show Nat.ble (0 + s * 1 + 1) 8 = true from Nat.ble_eq_true_of_le (by omega)]
        conv => whnf
        rw [gv]
        conv => whnf
        refine Rets.use hsh ?_
        conv => whnf
        exact ih2 (some (kk, u, 0, [(iN : Int)])) ⟨hk1, rfl, by omega⟩ (by simp only; omega)
      · obtain ⟨hat, hol, hk9⟩ := hI2
        obtain ⟨⟨hv0, hv8⟩, hby⟩ := hj.m k at_ hat
        obtain ⟨v, rfl⟩ : ∃ v : Nat, at_ = v := ⟨at_.toNat, by omega⟩
        conv => whnf
        cases g6 : eqI (v : Int) (s : Int)
        · have hvs : v ≠ s := fun h => by rw [h, eqI_eq] at g6; simp at g6
          have hk0 : 1 ≤ k := by
            rcases Nat.eq_zero_or_pos k with rfl | h
            · rw [hj.z] at hat; simp at hat; omega
            · exact h
          obtain ⟨i, hbv, hi0⟩ := hby hk0
          rw [Int.toNat_natCast] at hbv
          obtain ⟨r, iN, u, rfl, hr, hw, kk, hk1, hlt2⟩ := hj.c v i hbv hi0
          have hkk := hlt2 hvs k hat
          have bv : Nat.blt v 8 = true := by simp [Nat.blt_eq]; omega
          have gv : (encI by_)[0 + v * 1]? = some (.int .i64 (iN : Int)) := by rw [Nat.zero_add]; exact encI_get1 hbv
          have hsh := shows_ok sk er rs G.err hr
          rw [hw] at hsh
          unfold shD at hsh
          simp only at hsh
          conv => whnf
          rw [bv]
          conv => whnf
          rw [show Nat.ble (0 + v * 1 + 1) 8 = true from Nat.ble_eq_true_of_le (by omega)]
          conv => whnf
          rw [gv]
          conv => whnf
          rw [show Nat.ble ((eo + 1 + 1) * 8) 140737488355328 = true from Nat.ble_eq_true_of_le (by omega)]
          conv => whnf
          rw [may_all]
          conv => whnf
          rw [bv]
          conv => whnf
          rw [show Nat.ble (0 + v * 1 + 1) 8 = true from Nat.ble_eq_true_of_le (by omega)]
          conv => whnf
          rw [gv]
          conv => whnf
          refine Rets.use hsh ?_
          conv => whnf
          rw [len_beq hol, List.take_of_length_le (by rw [encI_length]; omega)]
          rw [show encI out ++ [D.int .i64 (iN : Int)] = encI (out ++ [(iN : Int)]) from (encI_snoc out (iN : Int)).symm]
          exact ih2 (some (kk, u, eo + 1, out ++ [(iN : Int)])) ⟨hk1, by rw [List.length_append, hol]; rfl, by omega⟩ (by simp only; omega)
        · conv => whnf
          refine Sm.mono (reverse_ok out eo hol (by omega)) ?_
          rintro v h ⟨rfl, l, fl, hl, hfl, rfl⟩
          conv => whnf
          rw [may_fl hfl]
          conv => whnf
          rw [show Nat.ble (0 + (eo + 1) * 1) (encI l).length = true from Nat.ble_eq_true_of_le (by rw [encI_length]; omega)]
          conv => whnf
          exact ⟨rfl, _, rfl⟩
  · conv => whnf
    cases h1 : ltI ((7 : Nat) : Int) ((e + 1 : Nat) : Int)
    · have bs8 : Nat.blt s 8 = true := by simpa [Nat.blt_eq] using hs8
      obtain ⟨bs, hbs⟩ : ∃ b, by_[s]? = some b := ⟨by_[s]'(by have := hj.n; omega), by simp⟩
      have gbs : (encI by_)[0 + s * 1]? = some (.int .i64 bs) := by rw [Nat.zero_add]; exact encI_get1 hbs
      have hml := hj.l
      conv => whnf
      rw [bs8]
      conv => whnf
      rw [show Nat.ble (0 + s * 1 + 1) 8 = true from Nat.ble_eq_true_of_le (by omega)]
      conv => whnf
      rw [gbs]
      conv => whnf
      cases g5 : ltI bs 0
      case true =>
        conv => whnf
        exact ⟨rfl, _, rfl⟩
      rw [ltI_eq] at g5
      have g5 := of_decide_eq_false g5
      conv => whnf
      refine loops_by (fun x : Option (Nat × Int × Nat × List Int) => match x with
          | none => ⟨101, [(0, .ptr 0 0 0 67), (1, .d (.int .i64 s)), (6, .d .nil), (7, .ptr 8 0 0 8), (13, .d .nil), (14, .d (.int .i64 s))], .unk, [.row (.ds (deL sk er rs F)) 0 0 [], .dfr, .dfr, .dfr, .dfr, .dfr, .dfr, .dfr, .row (.ds (encI by_)) 0 0 []], [1, 2, 3, 4, 5, 6, 7]⟩
          | some (k, at_, eo, out) => ⟨101, [(0, .ptr 0 0 0 67), (1, .d (.int .i64 s)), (6, .d .nil), (7, .ptr 8 0 0 8), (13, .slice 9 eo 0 (eo + 1) 1), (14, .d (.int .i64 at_))], .unk, [.row (.ds (deL sk er rs F)) 0 0 [], .dfr, .dfr, .dfr, .dfr, .dfr, .dfr, .dfr, .row (.ds (encI by_)) 0 0 [], .row (.ds (encI out)) eo 0 []], [1, 2, 3, 4, 5, 6, 7]⟩)
        (fun x => match x with | none => True | some (k, at_, eo, out) => met[k]? = some at_ ∧ out.length = eo + 1 ∧ eo + 1 + k ≤ 9) (fun x => match x with | none => 10 | some (k, _) => k) none trivial ?_
      rintro f2 (_ | ⟨k, at_, eo, out⟩) hI2 ih2
      · obtain ⟨r, iN, u, rfl, hr, hw, kk, hk1, _⟩ := hj.c s bs hbs (by omega)
        have hbv := hbs
        have hkl := (List.getElem?_eq_some_iff.1 hk1).1
        have bv : Nat.blt s 8 = true := by simp [Nat.blt_eq]; omega
        have gv : (encI by_)[0 + s * 1]? = some (.int .i64 (iN : Int)) := by rw [Nat.zero_add]; exact encI_get1 hbv
        have hsh := shows_ok sk er rs G.err hr
        rw [hw] at hsh
        unfold shD at hsh
        simp only at hsh
        conv => whnf
        rw [bv]
        conv => whnf
        rw [show Nat.ble (0 + s * 1 + 1) 8 = true from Nat.ble_eq_true_of_le (by omega)]
        conv => whnf
        rw [gv]
        conv => whnf
        rw [bv]
        conv => whnf
        rw [show Nat.ble (0 + s * 1 + 1) 8 = true from Nat.ble_eq_true_of_le (by omega)]
        conv => whnf
        rw [gv]
        conv => whnf
        refine Rets.use hsh ?_
        conv => whnf
        exact ih2 (some (kk, u, 0, [(iN : Int)])) ⟨hk1, rfl, by omega⟩ (by simp only; omega)
      · obtain ⟨hat, hol, hk9⟩ := hI2
        obtain ⟨⟨hv0, hv8⟩, hby⟩ := hj.m k at_ hat
        obtain ⟨v, rfl⟩ : ∃ v : Nat, at_ = v := ⟨at_.toNat, by omega⟩
        conv => whnf
        cases g6 : eqI (v : Int) (s : Int)
        · have hvs : v ≠ s := fun h => by rw [h, eqI_eq] at g6; simp at g6
          have hk0 : 1 ≤ k := by
            rcases Nat.eq_zero_or_pos k with rfl | h
            · rw [hj.z] at hat; simp at hat; omega
            · exact h
          obtain ⟨i, hbv, hi0⟩ := hby hk0
          rw [Int.toNat_natCast] at hbv
          obtain ⟨r, iN, u, rfl, hr, hw, kk, hk1, hlt2⟩ := hj.c v i hbv hi0
          have hkk := hlt2 hvs k hat
          have bv : Nat.blt v 8 = true := by simp [Nat.blt_eq]; omega
          have gv : (encI by_)[0 + v * 1]? = some (.int .i64 (iN : Int)) := by rw [Nat.zero_add]; exact encI_get1 hbv
          have hsh := shows_ok sk er rs G.err hr
          rw [hw] at hsh
          unfold shD at hsh
          simp only at hsh
          conv => whnf
          rw [bv]
          conv => whnf
          rw [show Nat.ble (0 + v * 1 + 1) 8 = true from Nat.ble_eq_true_of_le (by omega)]
          conv => whnf
          rw [gv]
          conv => whnf
          rw [show Nat.ble ((eo + 1 + 1) * 8) 140737488355328 = true from Nat.ble_eq_true_of_le (by omega)]
          conv => whnf
          rw [may_all]
          conv => whnf
          rw [bv]
          conv => whnf
          rw [show Nat.ble (0 + v * 1 + 1) 8 = true from Nat.ble_eq_true_of_le (by omega)]
          conv => whnf
          rw [gv]
          conv => whnf
          refine Rets.use hsh ?_
          conv => whnf
          rw [len_beq hol, List.take_of_length_le (by rw [encI_length]; omega)]
          rw [show encI out ++ [D.int .i64 (iN : Int)] = encI (out ++ [(iN : Int)]) from (encI_snoc out (iN : Int)).symm]
          exact ih2 (some (kk, u, eo + 1, out ++ [(iN : Int)])) ⟨hk1, by rw [List.length_append, hol]; rfl, by omega⟩ (by simp only; omega)
        · conv => whnf
          refine Sm.mono (reverse_ok out eo hol (by omega)) ?_
          rintro v h ⟨rfl, l, fl, hl, hfl, rfl⟩
          conv => whnf
          rw [may_fl hfl]
          conv => whnf
          rw [show Nat.ble (0 + (eo + 1) * 1) (encI l).length = true from Nat.ble_eq_true_of_le (by rw [encI_length]; omega)]
          conv => whnf
          exact ⟨rfl, _, rfl⟩
    have hlt : 7 < met.length := by rw [ltI_eq] at h1; have := of_decide_eq_true h1; omega
    conv => whnf
    refine Rets.use (shown_ok sk er rs) ?_
    conv => whnf
    refine Sm.mono (each23 sk er rs G F (n := 7) hj hme hlt hg) ?_
    rintro v h ⟨rfl, brk, by_, met, e, rfl, hj, hme, hmm, hg⟩
    cases brk
    · conv => whnf
      exact ih (by_, met, e, 8) ⟨hj, hme, hg rfl, by omega⟩ (by simp only; omega)
    · clear hg
      have bs8 : Nat.blt s 8 = true := by simpa [Nat.blt_eq] using hs8
      obtain ⟨bs, hbs⟩ : ∃ b, by_[s]? = some b := ⟨by_[s]'(by have := hj.n; omega), by simp⟩
      have gbs : (encI by_)[0 + s * 1]? = some (.int .i64 bs) := by rw [Nat.zero_add]; exact encI_get1 hbs
      have hml := hj.l
      conv => whnf
      rw [bs8]
      conv => whnf
      rw [show Nat.ble (0 + s * 1 + 1) 8 = true from Nat.ble_eq_true_of_le (by omega)]
      conv => whnf
      rw [gbs]
      conv => whnf
      cases g5 : ltI bs 0
      case true =>
        conv => whnf
        exact ⟨rfl, _, rfl⟩
      rw [ltI_eq] at g5
      have g5 := of_decide_eq_false g5
      conv => whnf
      refine loops_by (fun x : Option (Nat × Int × Nat × List Int) => match x with
          | none => ⟨101, [(0, .ptr 0 0 0 67), (1, .d (.int .i64 s)), (6, .d .nil), (7, .ptr 9 0 0 8), (13, .d .nil), (14, .d (.int .i64 s))], .unk, [.row (.ds (deL sk er rs F)) 0 0 [], .dfr, .dfr, .dfr, .dfr, .dfr, .dfr, .dfr, .dfr, .row (.ds (encI by_)) 0 0 []], [1, 2, 3, 4, 5, 6, 7, 8]⟩
          | some (k, at_, eo, out) => ⟨101, [(0, .ptr 0 0 0 67), (1, .d (.int .i64 s)), (6, .d .nil), (7, .ptr 9 0 0 8), (13, .slice 10 eo 0 (eo + 1) 1), (14, .d (.int .i64 at_))], .unk, [.row (.ds (deL sk er rs F)) 0 0 [], .dfr, .dfr, .dfr, .dfr, .dfr, .dfr, .dfr, .dfr, .row (.ds (encI by_)) 0 0 [], .row (.ds (encI out)) eo 0 []], [1, 2, 3, 4, 5, 6, 7, 8]⟩)
        (fun x => match x with | none => True | some (k, at_, eo, out) => met[k]? = some at_ ∧ out.length = eo + 1 ∧ eo + 1 + k ≤ 9) (fun x => match x with | none => 10 | some (k, _) => k) none trivial ?_
      rintro f2 (_ | ⟨k, at_, eo, out⟩) hI2 ih2
      · obtain ⟨r, iN, u, rfl, hr, hw, kk, hk1, _⟩ := hj.c s bs hbs (by omega)
        have hbv := hbs
        have hkl := (List.getElem?_eq_some_iff.1 hk1).1
        have bv : Nat.blt s 8 = true := by simp [Nat.blt_eq]; omega
        have gv : (encI by_)[0 + s * 1]? = some (.int .i64 (iN : Int)) := by rw [Nat.zero_add]; exact encI_get1 hbv
        have hsh := shows_ok sk er rs G.err hr
        rw [hw] at hsh
        unfold shD at hsh
        simp only at hsh
        conv => whnf
        rw [bv]
        conv => whnf
        rw [show Nat.ble (0 + s * 1 + 1) 8 = true from Nat.ble_eq_true_of_le (by omega)]
        conv => whnf
        rw [gv]
        conv => whnf
        rw [bv]
        conv => whnf
        rw [show Nat.ble (0 + s * 1 + 1) 8 = true from Nat.ble_eq_true_of_le (by omega)]
        conv => whnf
        rw [gv]
        conv => whnf
        refine Rets.use hsh ?_
        conv => whnf
        exact ih2 (some (kk, u, 0, [(iN : Int)])) ⟨hk1, rfl, by omega⟩ (by simp only; omega)
      · obtain ⟨hat, hol, hk9⟩ := hI2
        obtain ⟨⟨hv0, hv8⟩, hby⟩ := hj.m k at_ hat
        obtain ⟨v, rfl⟩ : ∃ v : Nat, at_ = v := ⟨at_.toNat, by omega⟩
        conv => whnf
        cases g6 : eqI (v : Int) (s : Int)
        · have hvs : v ≠ s := fun h => by rw [h, eqI_eq] at g6; simp at g6
          have hk0 : 1 ≤ k := by
            rcases Nat.eq_zero_or_pos k with rfl | h
            · rw [hj.z] at hat; simp at hat; omega
            · exact h
          obtain ⟨i, hbv, hi0⟩ := hby hk0
          rw [Int.toNat_natCast] at hbv
          obtain ⟨r, iN, u, rfl, hr, hw, kk, hk1, hlt2⟩ := hj.c v i hbv hi0
          have hkk := hlt2 hvs k hat
          have bv : Nat.blt v 8 = true := by simp [Nat.blt_eq]; omega
          have gv : (encI by_)[0 + v * 1]? = some (.int .i64 (iN : Int)) := by rw [Nat.zero_add]; exact encI_get1 hbv
          have hsh := shows_ok sk er rs G.err hr
          rw [hw] at hsh
          unfold shD at hsh
          simp only at hsh
          conv => whnf
          rw [bv]
          conv => whnf
          rw [show Nat.ble (0 + v * 1 + 1) 8 = true from Nat.ble_eq_true_of_le (by omega)]
          conv => whnf
          rw [gv]
          conv => whnf
          rw [show Nat.ble ((eo + 1 + 1) * 8) 140737488355328 = true from Nat.ble_eq_true_of_le (by omega)]
          conv => whnf
          rw [may_all]
          conv => whnf
          rw [bv]
          conv => whnf
          rw [show Nat.ble (0 + v * 1 + 1) 8 = true from Nat.ble_eq_true_of_le (by omega)]
          conv => whnf
          rw [gv]
          conv => whnf
          refine Rets.use hsh ?_
          conv => whnf
          rw [len_beq hol, List.take_of_length_le (by rw [encI_length]; omega)]
          rw [show encI out ++ [D.int .i64 (iN : Int)] = encI (out ++ [(iN : Int)]) from (encI_snoc out (iN : Int)).symm]
          exact ih2 (some (kk, u, eo + 1, out ++ [(iN : Int)])) ⟨hk1, by rw [List.length_append, hol]; rfl, by omega⟩ (by simp only; omega)
        · conv => whnf
          refine Sm.mono (reverse_ok out eo hol (by omega)) ?_
          rintro v h ⟨rfl, l, fl, hl, hfl, rfl⟩
          conv => whnf
          rw [may_fl hfl]
          conv => whnf
          rw [show Nat.ble (0 + (eo + 1) * 1) (encI l).length = true from Nat.ble_eq_true_of_le (by rw [encI_length]; omega)]
          conv => whnf
          exact ⟨rfl, _, rfl⟩
  · conv => whnf
    cases h1 : ltI ((8 : Nat) : Int) ((e + 1 : Nat) : Int)
    · have bs8 : Nat.blt s 8 = true := by simpa [Nat.blt_eq] using hs8
      obtain ⟨bs, hbs⟩ : ∃ b, by_[s]? = some b := ⟨by_[s]'(by have := hj.n; omega), by simp⟩
      have gbs : (encI by_)[0 + s * 1]? = some (.int .i64 bs) := by rw [Nat.zero_add]; exact encI_get1 hbs
      have hml := hj.l
      conv => whnf
      rw [bs8]
      conv => whnf
      rw [show Nat.ble (0 + s * 1 + 1) 8 = true from Nat.ble_eq_true_of_le (by omega)]
      conv => whnf
      rw [gbs]
      conv => whnf
      cases g5 : ltI bs 0
      case true =>
        conv => whnf
        exact ⟨rfl, _, rfl⟩
      rw [ltI_eq] at g5
      have g5 := of_decide_eq_false g5
      conv => whnf
      refine loops_by (fun x : Option (Nat × Int × Nat × List Int) => match x with
          | none => ⟨101, [(0, .ptr 0 0 0 67), (1, .d (.int .i64 s)), (6, .d .nil), (7, .ptr 9 0 0 8), (13, .d .nil), (14, .d (.int .i64 s))], .unk, [.row (.ds (deL sk er rs F)) 0 0 [], .dfr, .dfr, .dfr, .dfr, .dfr, .dfr, .dfr, .dfr, .row (.ds (encI by_)) 0 0 []], [1, 2, 3, 4, 5, 6, 7, 8]⟩
          | some (k, at_, eo, out) => ⟨101, [(0, .ptr 0 0 0 67), (1, .d (.int .i64 s)), (6, .d .nil), (7, .ptr 9 0 0 8), (13, .slice 10 eo 0 (eo + 1) 1), (14, .d (.int .i64 at_))], .unk, [.row (.ds (deL sk er rs F)) 0 0 [], .dfr, .dfr, .dfr, .dfr, .dfr, .dfr, .dfr, .dfr, .row (.ds (encI by_)) 0 0 [], .row (.ds (encI out)) eo 0 []], [1, 2, 3, 4, 5, 6, 7, 8]⟩)
        (fun x => match x with | none => True | some (k, at_, eo, out) => met[k]? = some at_ ∧ out.length = eo + 1 ∧ eo + 1 + k ≤ 9) (fun x => match x with | none => 10 | some (k, _) => k) none trivial ?_
      rintro f2 (_ | ⟨k, at_, eo, out⟩) hI2 ih2
      · obtain ⟨r, iN, u, rfl, hr, hw, kk, hk1, _⟩ := hj.c s bs hbs (by omega)
        have hbv := hbs
        have hkl := (List.getElem?_eq_some_iff.1 hk1).1
        have bv : Nat.blt s 8 = true := by simp [Nat.blt_eq]; omega
        have gv : (encI by_)[0 + s * 1]? = some (.int .i64 (iN : Int)) := by rw [Nat.zero_add]; exact encI_get1 hbv
        have hsh := shows_ok sk er rs G.err hr
        rw [hw] at hsh
        unfold shD at hsh
        simp only at hsh
        conv => whnf
        rw [bv]
        conv => whnf
        rw [show Nat.ble (0 + s * 1 + 1) 8 = true from Nat.ble_eq_true_of_le (by omega)]
        conv => whnf
        rw [gv]
        conv => whnf
        rw [bv]
        conv => whnf
        rw [show Nat.ble (0 + s * 1 + 1) 8 = true from Nat.ble_eq_true_of_le (by omega)]
        conv => whnf
        rw [gv]
        conv => whnf
        refine Rets.use hsh ?_
        conv => whnf
        exact ih2 (some (kk, u, 0, [(iN : Int)])) ⟨hk1, rfl, by omega⟩ (by simp only; omega)
      · obtain ⟨hat, hol, hk9⟩ := hI2
        obtain ⟨⟨hv0, hv8⟩, hby⟩ := hj.m k at_ hat
        obtain ⟨v, rfl⟩ : ∃ v : Nat, at_ = v := ⟨at_.toNat, by omega⟩
        conv => whnf
        cases g6 : eqI (v : Int) (s : Int)
        · have hvs : v ≠ s := fun h => by rw [h, eqI_eq] at g6; simp at g6
          have hk0 : 1 ≤ k := by
            rcases Nat.eq_zero_or_pos k with rfl | h
            · rw [hj.z] at hat; simp at hat; omega
            · exact h
          obtain ⟨i, hbv, hi0⟩ := hby hk0
          rw [Int.toNat_natCast] at hbv
          obtain ⟨r, iN, u, rfl, hr, hw, kk, hk1, hlt2⟩ := hj.c v i hbv hi0
          have hkk := hlt2 hvs k hat
          have bv : Nat.blt v 8 = true := by simp [Nat.blt_eq]; omega
          have gv : (encI by_)[0 + v * 1]? = some (.int .i64 (iN : Int)) := by rw [Nat.zero_add]; exact encI_get1 hbv
          have hsh := shows_ok sk er rs G.err hr
          rw [hw] at hsh
          unfold shD at hsh
          simp only at hsh
          conv => whnf
          rw [bv]
          conv => whnf
          rw [show Nat.ble (0 + v * 1 + 1) 8 = true from Nat.ble_eq_true_of_le (by omega)]
          conv => whnf
          rw [gv]
          conv => whnf
          rw [show Nat.ble ((eo + 1 + 1) * 8) 140737488355328 = true from Nat.ble_eq_true_of_le (by omega)]
          conv => whnf
          rw [may_all]
          conv => whnf
          rw [bv]
          conv => whnf
          rw [show Nat.ble (0 + v * 1 + 1) 8 = true from Nat.ble_eq_true_of_le (by omega)]
          conv => whnf
          rw [gv]
          conv => whnf
          refine Rets.use hsh ?_
          conv => whnf
          rw [len_beq hol, List.take_of_length_le (by rw [encI_length]; omega)]
          rw [show encI out ++ [D.int .i64 (iN : Int)] = encI (out ++ [(iN : Int)]) from (encI_snoc out (iN : Int)).symm]
          exact ih2 (some (kk, u, eo + 1, out ++ [(iN : Int)])) ⟨hk1, by rw [List.length_append, hol]; rfl, by omega⟩ (by simp only; omega)
        · conv => whnf
          refine Sm.mono (reverse_ok out eo hol (by omega)) ?_
          rintro v h ⟨rfl, l, fl, hl, hfl, rfl⟩
          conv => whnf
          rw [may_fl hfl]
          conv => whnf
          rw [show Nat.ble (0 + (eo + 1) * 1) (encI l).length = true from Nat.ble_eq_true_of_le (by rw [encI_length]; omega)]
          conv => whnf
          exact ⟨rfl, _, rfl⟩
    have hlt : 8 < met.length := by rw [ltI_eq] at h1; have := of_decide_eq_true h1; omega
    conv => whnf
    refine Rets.use (shown_ok sk er rs) ?_
    conv => whnf
    refine Sm.mono (each23 sk er rs G F (n := 8) hj hme hlt hg) ?_
    rintro v h ⟨rfl, brk, by_, met, e, rfl, hj, hme, hmm, hg⟩
    cases brk
    · conv => whnf
      exact ih (by_, met, e, 9) ⟨hj, hme, hg rfl, by omega⟩ (by simp only; omega)
    · clear hg
      have bs8 : Nat.blt s 8 = true := by simpa [Nat.blt_eq] using hs8
      obtain ⟨bs, hbs⟩ : ∃ b, by_[s]? = some b := ⟨by_[s]'(by have := hj.n; omega), by simp⟩
      have gbs : (encI by_)[0 + s * 1]? = some (.int .i64 bs) := by rw [Nat.zero_add]; exact encI_get1 hbs
      have hml := hj.l
      conv => whnf
      rw [bs8]
      conv => whnf
      rw [show Nat.ble (0 + s * 1 + 1) 8 = true from Nat.ble_eq_true_of_le (by omega)]
      conv => whnf
      rw [gbs]
      conv => whnf
      cases g5 : ltI bs 0
      case true =>
        conv => whnf
        exact ⟨rfl, _, rfl⟩
      rw [ltI_eq] at g5
      have g5 := of_decide_eq_false g5
      conv => whnf
      refine loops_by (fun x : Option (Nat × Int × Nat × List Int) => match x with
          | none => ⟨101, [(0, .ptr 0 0 0 67), (1, .d (.int .i64 s)), (6, .d .nil), (7, .ptr 10 0 0 8), (13, .d .nil), (14, .d (.int .i64 s))], .unk, [.row (.ds (deL sk er rs F)) 0 0 [], .dfr, .dfr, .dfr, .dfr, .dfr, .dfr, .dfr, .dfr, .dfr, .row (.ds (encI by_)) 0 0 []], [1, 2, 3, 4, 5, 6, 7, 8, 9]⟩
          | some (k, at_, eo, out) => ⟨101, [(0, .ptr 0 0 0 67), (1, .d (.int .i64 s)), (6, .d .nil), (7, .ptr 10 0 0 8), (13, .slice 11 eo 0 (eo + 1) 1), (14, .d (.int .i64 at_))], .unk, [.row (.ds (deL sk er rs F)) 0 0 [], .dfr, .dfr, .dfr, .dfr, .dfr, .dfr, .dfr, .dfr, .dfr, .row (.ds (encI by_)) 0 0 [], .row (.ds (encI out)) eo 0 []], [1, 2, 3, 4, 5, 6, 7, 8, 9]⟩)
        (fun x => match x with | none => True | some (k, at_, eo, out) => met[k]? = some at_ ∧ out.length = eo + 1 ∧ eo + 1 + k ≤ 9) (fun x => match x with | none => 10 | some (k, _) => k) none trivial ?_
      rintro f2 (_ | ⟨k, at_, eo, out⟩) hI2 ih2
      · obtain ⟨r, iN, u, rfl, hr, hw, kk, hk1, _⟩ := hj.c s bs hbs (by omega)
        have hbv := hbs
        have hkl := (List.getElem?_eq_some_iff.1 hk1).1
        have bv : Nat.blt s 8 = true := by simp [Nat.blt_eq]; omega
        have gv : (encI by_)[0 + s * 1]? = some (.int .i64 (iN : Int)) := by rw [Nat.zero_add]; exact encI_get1 hbv
        have hsh := shows_ok sk er rs G.err hr
        rw [hw] at hsh
        unfold shD at hsh
        simp only at hsh
        conv => whnf
        rw [bv]
        conv => whnf
        rw [show Nat.ble (0 + s * 1 + 1) 8 = true from Nat.ble_eq_true_of_le (by omega)]
        conv => whnf
        rw [gv]
        conv => whnf
        rw [bv]
        conv => whnf
        rw [show Nat.ble (0 + s * 1 + 1) 8 = true from Nat.ble_eq_true_of_le (by omega)]
        conv => whnf
        rw [gv]
        conv => whnf
        refine Rets.use hsh ?_
        conv => whnf
        exact ih2 (some (kk, u, 0, [(iN : Int)])) ⟨hk1, rfl, by omega⟩ (by simp only; omega)
      · obtain ⟨hat, hol, hk9⟩ := hI2
        obtain ⟨⟨hv0, hv8⟩, hby⟩ := hj.m k at_ hat
        obtain ⟨v, rfl⟩ : ∃ v : Nat, at_ = v := ⟨at_.toNat, by omega⟩
        conv => whnf
        cases g6 : eqI (v : Int) (s : Int)
        · have hvs : v ≠ s := fun h => by rw [h, eqI_eq] at g6; simp at g6
          have hk0 : 1 ≤ k := by
            rcases Nat.eq_zero_or_pos k with rfl | h
            · rw [hj.z] at hat; simp at hat; omega
            · exact h
          obtain ⟨i, hbv, hi0⟩ := hby hk0
          rw [Int.toNat_natCast] at hbv
          obtain ⟨r, iN, u, rfl, hr, hw, kk, hk1, hlt2⟩ := hj.c v i hbv hi0
          have hkk := hlt2 hvs k hat
          have bv : Nat.blt v 8 = true := by simp [Nat.blt_eq]; omega
          have gv : (encI by_)[0 + v * 1]? = some (.int .i64 (iN : Int)) := by rw [Nat.zero_add]; exact encI_get1 hbv
          have hsh := shows_ok sk er rs G.err hr
          rw [hw] at hsh
          unfold shD at hsh
          simp only at hsh
          conv => whnf
          rw [bv]
          conv => whnf
          rw [show Nat.ble (0 + v * 1 + 1) 8 = true from Nat.ble_eq_true_of_le (by omega)]
          conv => whnf
          rw [gv]
          conv => whnf
          rw [show Nat.ble ((eo + 1 + 1) * 8) 140737488355328 = true from Nat.ble_eq_true_of_le (by omega)]
          conv => whnf
          rw [may_all]
          conv => whnf
          rw [bv]
          conv => whnf
          rw [show Nat.ble (0 + v * 1 + 1) 8 = true from Nat.ble_eq_true_of_le (by omega)]
          conv => whnf
          rw [gv]
          conv => whnf
          refine Rets.use hsh ?_
          conv => whnf
          rw [len_beq hol, List.take_of_length_le (by rw [encI_length]; omega)]
          rw [show encI out ++ [D.int .i64 (iN : Int)] = encI (out ++ [(iN : Int)]) from (encI_snoc out (iN : Int)).symm]
          exact ih2 (some (kk, u, eo + 1, out ++ [(iN : Int)])) ⟨hk1, by rw [List.length_append, hol]; rfl, by omega⟩ (by simp only; omega)
        · conv => whnf
          refine Sm.mono (reverse_ok out eo hol (by omega)) ?_
          rintro v h ⟨rfl, l, fl, hl, hfl, rfl⟩
          conv => whnf
          rw [may_fl hfl]
          conv => whnf
          rw [show Nat.ble (0 + (eo + 1) * 1) (encI l).length = true from Nat.ble_eq_true_of_le (by rw [encI_length]; omega)]
          conv => whnf
          exact ⟨rfl, _, rfl⟩
  · conv => whnf
    cases h1 : ltI ((9 : Nat) : Int) ((e + 1 : Nat) : Int)
    · have bs8 : Nat.blt s 8 = true := by simpa [Nat.blt_eq] using hs8
      obtain ⟨bs, hbs⟩ : ∃ b, by_[s]? = some b := ⟨by_[s]'(by have := hj.n; omega), by simp⟩
      have gbs : (encI by_)[0 + s * 1]? = some (.int .i64 bs) := by rw [Nat.zero_add]; exact encI_get1 hbs
      have hml := hj.l
      conv => whnf
      rw [bs8]
      conv => whnf
      rw [show Nat.ble (0 + s * 1 + 1) 8 = true from Nat.ble_eq_true_of_le (by omega)]
      conv => whnf
      rw [gbs]
      conv => whnf
      cases g5 : ltI bs 0
      case true =>
        conv => whnf
        exact ⟨rfl, _, rfl⟩
      rw [ltI_eq] at g5
      have g5 := of_decide_eq_false g5
      conv => whnf
      refine loops_by (fun x : Option (Nat × Int × Nat × List Int) => match x with
          | none => ⟨101, [(0, .ptr 0 0 0 67), (1, .d (.int .i64 s)), (6, .d .nil), (7, .ptr 10 0 0 8), (13, .d .nil), (14, .d (.int .i64 s))], .unk, [.row (.ds (deL sk er rs F)) 0 0 [], .dfr, .dfr, .dfr, .dfr, .dfr, .dfr, .dfr, .dfr, .dfr, .row (.ds (encI by_)) 0 0 []], [1, 2, 3, 4, 5, 6, 7, 8, 9]⟩
          | some (k, at_, eo, out) => ⟨101, [(0, .ptr 0 0 0 67), (1, .d (.int .i64 s)), (6, .d .nil), (7, .ptr 10 0 0 8), (13, .slice 11 eo 0 (eo + 1) 1), (14, .d (.int .i64 at_))], .unk, [.row (.ds (deL sk er rs F)) 0 0 [], .dfr, .dfr, .dfr, .dfr, .dfr, .dfr, .dfr, .dfr, .dfr, .row (.ds (encI by_)) 0 0 [], .row (.ds (encI out)) eo 0 []], [1, 2, 3, 4, 5, 6, 7, 8, 9]⟩)
        (fun x => match x with | none => True | some (k, at_, eo, out) => met[k]? = some at_ ∧ out.length = eo + 1 ∧ eo + 1 + k ≤ 9) (fun x => match x with | none => 10 | some (k, _) => k) none trivial ?_
      rintro f2 (_ | ⟨k, at_, eo, out⟩) hI2 ih2
      · obtain ⟨r, iN, u, rfl, hr, hw, kk, hk1, _⟩ := hj.c s bs hbs (by omega)
        have hbv := hbs
        have hkl := (List.getElem?_eq_some_iff.1 hk1).1
        have bv : Nat.blt s 8 = true := by simp [Nat.blt_eq]; omega
        have gv : (encI by_)[0 + s * 1]? = some (.int .i64 (iN : Int)) := by rw [Nat.zero_add]; exact encI_get1 hbv
        have hsh := shows_ok sk er rs G.err hr
        rw [hw] at hsh
        unfold shD at hsh
        simp only at hsh
        conv => whnf
        rw [bv]
        conv => whnf
        rw [show Nat.ble (0 + s * 1 + 1) 8 = true from Nat.ble_eq_true_of_le (by omega)]
        conv => whnf
        rw [gv]
        conv => whnf
        rw [bv]
        conv => whnf
        rw [show Nat.ble (0 + s * 1 + 1) 8 = true from Nat.ble_eq_true_of_le (by omega)]
        conv => whnf
        rw [gv]
        conv => whnf
        refine Rets.use hsh ?_
        conv => whnf
        exact ih2 (some (kk, u, 0, [(iN : Int)])) ⟨hk1, rfl, by omega⟩ (by simp only; omega)
      · obtain ⟨hat, hol, hk9⟩ := hI2
        obtain ⟨⟨hv0, hv8⟩, hby⟩ := hj.m k at_ hat
        obtain ⟨v, rfl⟩ : ∃ v : Nat, at_ = v := ⟨at_.toNat, by omega⟩
        conv => whnf
        cases g6 : eqI (v : Int) (s : Int)
        · have hvs : v ≠ s := fun h => by rw [h, eqI_eq] at g6; simp at g6
          have hk0 : 1 ≤ k := by
            rcases Nat.eq_zero_or_pos k with rfl | h
            · rw [hj.z] at hat; simp at hat; omega
            · exact h
          obtain ⟨i, hbv, hi0⟩ := hby hk0
          rw [Int.toNat_natCast] at hbv
          obtain ⟨r, iN, u, rfl, hr, hw, kk, hk1, hlt2⟩ := hj.c v i hbv hi0
          have hkk := hlt2 hvs k hat
          have bv : Nat.blt v 8 = true := by simp [Nat.blt_eq]; omega
          have gv : (encI by_)[0 + v * 1]? = some (.int .i64 (iN : Int)) := by rw [Nat.zero_add]; exact encI_get1 hbv
          have hsh := shows_ok sk er rs G.err hr
          rw [hw] at hsh
          unfold shD at hsh
          simp only at hsh
          conv => whnf
          rw [bv]
          conv => whnf
          rw [show Nat.ble (0 + v * 1 + 1) 8 = true from Nat.ble_eq_true_of_le (by omega)]
          conv => whnf
          rw [gv]
          conv => whnf
          rw [show Nat.ble ((eo + 1 + 1) * 8) 140737488355328 = true from Nat.ble_eq_true_of_le (by omega)]
          conv => whnf
          rw [may_all]
          conv => whnf
          rw [bv]
          conv => whnf
          rw [show Nat.ble (0 + v * 1 + 1) 8 = true from Nat.ble_eq_true_of_le (by omega)]
          conv => whnf
          rw [gv]
          conv => whnf
          refine Rets.use hsh ?_
          conv => whnf
          rw [len_beq hol, List.take_of_length_le (by rw [encI_length]; omega)]
          rw [show encI out ++ [D.int .i64 (iN : Int)] = encI (out ++ [(iN : Int)]) from (encI_snoc out (iN : Int)).symm]
          exact ih2 (some (kk, u, eo + 1, out ++ [(iN : Int)])) ⟨hk1, by rw [List.length_append, hol]; rfl, by omega⟩ (by simp only; omega)
        · conv => whnf
          refine Sm.mono (reverse_ok out eo hol (by omega)) ?_
          rintro v h ⟨rfl, l, fl, hl, hfl, rfl⟩
          conv => whnf
          rw [may_fl hfl]
          conv => whnf
          rw [show Nat.ble (0 + (eo + 1) * 1) (encI l).length = true from Nat.ble_eq_true_of_le (by rw [encI_length]; omega)]
          conv => whnf
          exact ⟨rfl, _, rfl⟩
    · rw [ltI_eq] at h1; have := of_decide_eq_true h1; omega
end Go.Proofs.Rx
