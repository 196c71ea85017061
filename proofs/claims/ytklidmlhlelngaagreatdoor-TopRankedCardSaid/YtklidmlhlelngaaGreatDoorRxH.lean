/-
  TopRanked: a chain is looked for.
-/
import Derived.Test.YtklidmlhlelngaaGreatDoorRxG
namespace Go.Proofs.Rx
open Go Go.Ab Go.Proofs.Rw
set_option maxRecDepth 100000
set_option maxHeartbeats 8000000
noncomputable def code23 : Code × Code := rfOf' Tryz.f23
noncomputable def hp23 (brk : Bool) (sk er : Int) (rs : List Run3) (F : List D) (s : Nat) (by_ met : List Int) (e n : Nat) : List O :=
  [.loop ⟨(match brk with | true => .done | false => .ready), (match brk with | true => some (.exit 2) | false => none), 23, 101,
      [(0, .ptr 2 0 0 67), (1, .d (.int .i64 s)), (5, .ptr 3 0 0 1), (6, .d .nil), (7, .ptr 4 0 0 8), (9, .ptr 5 0 0 1), (10, .ptr 7 0 0 1), (11, .d .unk), (12, .d .unk), (36, .d .undef), (37, .d .undef)], .unk, [36, 37], code23.1, code23.2, 1⟩,
    .dfr, .row (.ds (deL sk er rs F)) 0 0 [], .row (.ds [.int .i64 s]) 0 0 [], .row (.ds (encI by_)) 0 0 [], .row (.vs [.slice 6 e 0 (e + 1) 1]) 0 0 [], .row (.ds (encI met)) e 0 [], .row (.ds [.int .i64 n]) 0 0 []]
theorem each23 (sk er : Int) (rs : List Run3) (G : Good sk er rs) (F : List D) {s : Nat} {by0 met0 : List Int} {e0 n : Nat} (j0 : J er rs s by0 met0) (hm0 : met0.length = e0 + 1) (hn0 : n < met0.length) (hg0 : met0.length + negs by0 = 9) :
    Sm Tryz.prog E 46 [.yield 0, .d (.ptr (labL sk er rs) 0)] (hp23 false sk er rs F s by0 met0 e0 n) (fun v h => v = .d (.tuple []) ∧ ∃ brk by_ met e, h = hp23 brk sk er rs F s by_ met e n ∧ J er rs s by_ met ∧ met.length = e + 1 ∧ met0.length ≤ met.length ∧ (brk = false → met.length + negs by_ = 9)) := by
  have hel := encR_length rs
  have hn := G.n
  refine sm_of HE true (by kernel_rfl) ?_
  unfold labL
  conv => whnf
  refine loops_by (fun x : Nat × List Int × List Int × Nat => match x with
      | (i, by_, met, e) => ⟨27, [(0, .yield 0), (1, .d (.ptr (labL sk er rs) 0)), (8, .d (.int .i64 rs.length)), (9, .d (.int .i64 i))], .unk, hp23 false sk er rs F s by_ met e n, []⟩)
    (fun x => match x with | (i, by_, met, e) => i ≤ rs.length ∧ J er rs s by_ met ∧ met.length = e + 1 ∧ met0.length ≤ met.length ∧ met.length + negs by_ = 9) (fun x => rs.length - x.1) (0, by0, met0, e0) ⟨Nat.zero_le _, j0, hm0, Nat.le_refl _, hg0⟩ ?_
  rintro f ⟨i, by_, met, e⟩ ⟨hi, hj, hme, hmm, hg⟩ ih
  conv => whnf
  cases h1 : ltI (i : Int) (rs.length : Int)
  · conv => whnf
    exact ⟨rfl, false, by_, met, e, rfl, hj, hme, hmm, fun _ => hg⟩
  have hlt : i < rs.length := by rw [ltI_eq] at h1; have := of_decide_eq_true h1; omega
  obtain ⟨r, hr⟩ : ∃ r, rs[i]? = some r := ⟨rs[i], by simp [hlt]⟩
  have hs := shw_in G (List.mem_of_getElem? hr)
  have hsh := shows_ok sk er rs G.err hr
  obtain ⟨⟨⟨p, q⟩, ok⟩, hpq⟩ : ∃ x, shw er r = x := ⟨_, rfl⟩
  rw [hpq] at hs hsh
  simp only at hs
  unfold shD at hsh
  simp only at hsh
  have hk := G.skis
  obtain ⟨q', rfl⟩ : ∃ q' : Nat, q = q' := ⟨q.toNat, by omega⟩
  obtain ⟨mn, hmn⟩ : ∃ m, met[n]? = some m := ⟨met[n]'(by omega), by simp⟩
  obtain ⟨bq, hbq⟩ : ∃ b, by_[q']? = some b := ⟨by_[q']'(by have := hj.n; omega), by simp⟩
  have gm : (encI met)[0 + n * 1]? = some (.int .i64 mn) := by rw [Nat.zero_add]; exact encI_get1 hmn
  have gb : (encI by_)[0 + q' * 1]? = some (.int .i64 bq) := by rw [Nat.zero_add]; exact encI_get1 hbq
  have bn : Nat.blt n (e + 1) = true := by simp [Nat.blt_eq]; omega
  have bq8 : Nat.blt q' 8 = true := by simp [Nat.blt_eq]; omega
  conv => whnf
  refine Rets.use hsh ?_
  cases ok
  · conv => whnf
    rw [wrap_succ (by omega)]
    exact ih (i + 1, by_, met, e) ⟨by omega, hj, hme, hmm, hg⟩ (by simp only; omega)
  · conv => whnf
    refine sy_of HE ?_
    conv => whnf
    rw [bn]
    conv => whnf
    rw [show Nat.ble (0 + n * 1 + 1) (0 + n * 1 + 1) = true from Nat.ble_eq_true_of_le (Nat.le_refl _)]
    conv => whnf
    rw [may_fl (Nat.zero_le e)]
    conv => whnf
    rw [gm]
    conv => whnf
    cases g1 : eqI p mn
    · conv => whnf
      rw [wrap_succ (by omega)]
      exact ih (i + 1, by_, met, e) ⟨by omega, hj, hme, hmm, hg⟩ (by simp only; omega)
    have hpm : p = mn := eqI_true g1
    conv => whnf
    rw [bq8]
    conv => whnf
    rw [show Nat.ble (0 + q' * 1 + 1) 8 = true from Nat.ble_eq_true_of_le (by omega)]
    conv => whnf
    rw [gb]
    conv => whnf
    cases g2 : ltI bq 0
    · conv => whnf
      rw [wrap_succ (by omega)]
      exact ih (i + 1, by_, met, e) ⟨by omega, hj, hme, hmm, hg⟩ (by simp only; omega)
    rw [ltI_eq] at g2
    have g2 := of_decide_eq_true g2
    have hqn : q' < by_.length := by have := hj.n; omega
    have hnegs := negs_set (i := (i : Int)) hbq g2 (by omega)
    have hjs := J_set hj hr hpq (by rw [hpm]; exact hmn) hbq g2
    conv => whnf
    rw [bq8]
    conv => whnf
    rw [show Nat.ble (0 + q' * 1 + 1) 8 = true from Nat.ble_eq_true_of_le (by omega)]
    conv => whnf
    rw [show Nat.ble (0 + q' * 1 + [V.d (D.int .i64 (i : Int))].length) (Cells.ds (encI by_)).len = true from Nat.ble_eq_true_of_le (by simp only [List.length_cons, List.length_nil, Cells.len, encI_length]; omega)]
    conv => whnf
    rw [write_int (i := q') (x := (i : Int)) hqn (by omega)]
    conv => whnf
    cases g3 : eqI (q' : Int) (s : Int)
    · have hqs : q' ≠ s := fun h => by rw [h, eqI_eq] at g3; simp at g3
      conv => whnf
      rw [show Nat.ble ((e + 1 + 1) * 8) 140737488355328 = true from Nat.ble_eq_true_of_le (by omega)]
      conv => whnf
      rw [may_all]
      conv => whnf
      rw [len_beq hme, wrap_succ (by omega), List.take_of_length_le (by rw [encI_length]; omega)]
      rw [show encI met ++ [D.int .i64 (q' : Int)] = encI (met ++ [(q' : Int)]) from (encI_snoc met (q' : Int)).symm]
      exact ih (i + 1, by_.set q' i, met ++ [(q' : Int)], e + 1) ⟨by omega, J_add hj hr hpq (by rw [hpm]; exact hmn) hbq g2 hqs (by omega), by rw [List.length_append, hme]; rfl, by rw [List.length_append]; omega, by rw [List.length_append]; simp only [List.length_cons, List.length_nil]; omega⟩ (by simp only; omega)
    · conv => whnf
      exact ⟨rfl, true, by_.set q' i, met, e, rfl, hjs, hme, hmm, fun h => by cases h⟩
end Go.Proofs.Rx
