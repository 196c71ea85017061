/-
  TopRanked: who is faster; places.
-/
import Derived.Test.YtklidmlhlelngaaGreatDoorRxD
namespace Go.Proofs.Rx
open Go Go.Ab Go.Proofs.Rw
set_option maxRecDepth 100000
set_option maxHeartbeats 4000000
def rowP (o : Ord) (a m : Nat) : List (Int × Int) := (List.range m).flatMap fun b => if o a b then [((a : Int), (b : Int))] else []
def allP (o : Ord) (n m : Nat) : List (Int × Int) := (List.range m).flatMap fun a => rowP o a n
theorem rowP_succ (o : Ord) (a m : Nat) : rowP o a (m + 1) = rowP o a m ++ (if o a m then [((a : Int), (m : Int))] else []) := by
  unfold rowP; rw [List.range_succ]; simp
theorem allP_succ (o : Ord) (n m : Nat) : allP o n (m + 1) = allP o n m ++ rowP o m n := by
  unfold allP; rw [List.range_succ]; simp
theorem rowP_length (o : Ord) (a : Nat) : ∀ m, (rowP o a m).length ≤ m
  | 0 => Nat.le_refl _
  | m + 1 => by
    rw [rowP_succ]
    have := rowP_length o a m
    split <;> simp <;> omega
theorem allP_length (o : Ord) (n : Nat) : ∀ m, (allP o n m).length ≤ m * n
  | 0 => by simp [allP]
  | m + 1 => by
    rw [allP_succ]
    have h1 := allP_length o n m
    have h2 := rowP_length o m n
    rw [List.length_append, Nat.succ_mul]
    omega
theorem mem_allP {o : Ord} {n m : Nat} {p : Int × Int} : p ∈ allP o n m ↔ ∃ a b : Nat, a < m ∧ b < n ∧ o a b = true ∧ p = ((a : Int), (b : Int)) := by
  unfold allP rowP
  simp only [List.mem_flatMap, List.mem_range]
  constructor
  · rintro ⟨a, ha, b, hb, h⟩
    split at h
    · simp at h; exact ⟨a, b, ha, hb, by assumption, h⟩
    · simp at h
  · rintro ⟨a, b, ha, hb, h, rfl⟩
    exact ⟨a, ha, b, hb, by rw [if_pos h]; simp⟩
/-- A slice of pairs that grows. -/
def slP (l : List (Int × Int)) : V := match l with
  | [] => .d .nil
  | _ :: r => .slice 1 r.length 0 (r.length + 1) 2
def roP (l : List (Int × Int)) : List O := match l with
  | [] => []
  | p :: r => [.row (.ds (encP (p :: r))) r.length 0 []]
theorem wk_pairs (l : List (Int × Int)) (n : Int) : Wk (.tuple [(match l with | [] => D.nil | p :: r => .slice (r.length + 1) 2 (encP (p :: r))), .int .i64 n]) (.tuple [.slice l.length 2 (encP l), .int .i64 n]) := by
  cases l with
  | cons a r => exact fun _ _ _ h => h
  | nil =>
    rintro Z w v ⟨vs, rfl, ⟨a, as1, e1, h1, h2⟩⟩
    exact ⟨vs, rfl, ⟨a, as1, e1, Wk.nil 2 Z w a h1, h2⟩⟩
theorem Faster_bad (sk er : Int) (rs : List Run3) (hc : chk sk er rs = 0) {o : Ord} (ho : o = clo (prs er rs) o0) (hg : agE o sk = 7) :
    Rets Tryz.prog E 8 [.d (laD sk er rs)] (.d (.tuple [.nil, .int .i64 7])) := by
  obtain ⟨F, hF⟩ : ∃ F, F = encO o := ⟨_, rfl⟩
  have ha := agreed_ok sk er rs hc ho hF
  rw [hg] at ha
  unfold deO at ha
  refine sm_of HE true (by kernel_rfl) ?_
  unfold laD labL
  conv => whnf
  refine Sm.mono ha ?_
  rintro v h ⟨rfl, rfl⟩
  conv => whnf
  exact ⟨rfl, rfl⟩
theorem Faster_ok (sk er : Int) (rs : List Run3) (hc : chk sk er rs = 0) {o : Ord} (ho : o = clo (prs er rs) o0) (hg : agE o sk = 0) {L : List (Int × Int)} (hL : L = allP o sk.toNat sk.toNat) :
    Rets Tryz.prog E 8 [.d (laD sk er rs)] (.d (.tuple [.slice L.length 2 (encP L), .int .i64 0])) := by
  refine Rets.weaken ?_ (wk_pairs L 0)
  obtain ⟨F, hF⟩ : ∃ F, F = encO o := ⟨_, rfl⟩
  have ha := agreed_ok sk er rs hc ho hF
  rw [hg] at ha
  unfold deO at ha
  have G := chk_zero hc
  have hk := G.skis
  obtain ⟨n, rfl⟩ : ∃ n : Nat, sk = n := ⟨sk.toNat, by omega⟩
  rw [Int.toNat_natCast] at hL
  refine sm_of HE true (by kernel_rfl) ?_
  unfold laD labL
  conv => whnf
  refine Sm.mono ha ?_
  rintro v h ⟨rfl, rfl⟩
  conv => whnf
  refine loops_by (fun x : Nat × List (Int × Int) => match x with
      | (a, l) => ⟨50, [(2, .d .nil), (3, .d (.int .i64 0)), (4, .ptr 0 0 0 67), (6, slP l), (21, .d (.int .i64 n)), (22, .d (.int .i64 a))], .unk, deO n er rs F ++ roP l, []⟩)
    (fun x => x.1 ≤ n ∧ x.2 = allP o n x.1) (fun x => n - x.1) (0, []) ⟨Nat.zero_le _, rfl⟩ ?_
  rintro f ⟨a, l⟩ ⟨hi, hl⟩ ih
  simp only at hi hl
  have hll : l.length ≤ 64 := by
    have := allP_length o n a
    rw [← hl] at this
    exact Nat.le_trans this (Nat.le_trans (Nat.mul_le_mul (show a ≤ 8 by omega) (show n ≤ 8 by omega)) (Nat.le_refl _))
  conv => whnf
  cases h1 : ltI (a : Int) (n : Int)
  · have hn : a = n := by rw [ltI_eq] at h1; have := of_decide_eq_false h1; omega
    subst hn
    obtain rfl : l = L := by rw [hl, hL]
    cases l with
    | nil =>
      conv => whnf
      exact ⟨rfl, rfl⟩
    | cons p r =>
      conv => whnf
      rw [may_all]
      conv => whnf
      rw [show Nat.ble (0 + (r.length + 1) * 2) (encP (p :: r)).length = true from Nat.ble_eq_true_of_le (by rw [encP_length]; simp)]
      conv => whnf
      refine ⟨?_, rfl⟩
      rw [row_all (by rw [encP_length]; simp)]
  have hla : a < n := by rw [ltI_eq] at h1; have := of_decide_eq_true h1; omega
  have ha8 : Nat.blt a 8 = true := by simp [Nat.blt_eq]; omega
  rcases l with _ | ⟨p, r⟩
  · conv => whnf
    refine loops_by (fun x : Nat × List (Int × Int) => match x with
        | (b, l) => ⟨50, [(2, .d .nil), (3, .d (.int .i64 0)), (4, .ptr 0 0 0 67), (6, slP l), (7, .d (.int .i64 a)), (21, .d (.int .i64 n)), (22, .d (.int .i64 a)), (29, .d (.int .i64 n)), (30, .d (.int .i64 b))], .unk, deO n er rs F ++ roP l, []⟩)
      (fun x => x.1 ≤ n ∧ x.2 = allP o n a ++ rowP o a x.1) (fun x => n - x.1) (0, []) ⟨Nat.zero_le _, by simpa [rowP] using hl⟩ ?_
    rintro f ⟨b, l⟩ ⟨hi2, hl2⟩ ih2
    simp only at hi2 hl2
    have hll2 : l.length ≤ 128 := by
      have h3 := allP_length o n a
      have h4 := rowP_length o a b
      have h5 : a * n ≤ 8 * 8 := Nat.mul_le_mul (by omega) (by omega)
      rw [hl2, List.length_append]; omega
    conv => whnf
    cases h2 : ltI (b : Int) (n : Int)
    · have hn : b = n := by rw [ltI_eq] at h2; have := of_decide_eq_false h2; omega
      subst hn
      rcases l with _ | ⟨p, r⟩
      · conv => whnf
        rw [wrap_succ (by omega)]
        exact ih (a + 1, []) ⟨by simp only; omega, by simp only; rw [allP_succ]; exact hl2⟩ (by simp only; omega)
      · conv => whnf
        rw [wrap_succ (by omega)]
        exact ih (a + 1, p :: r) ⟨by simp only; omega, by simp only; rw [allP_succ]; exact hl2⟩ (by simp only; omega)
    have hlb : b < n := by rw [ltI_eq] at h2; have := of_decide_eq_true h2; omega
    have hb8 : Nat.blt b 8 = true := by simp [Nat.blt_eq]; omega
    have hs := rowP_succ o a b
    conv => whnf
    rw [ha8]
    conv => whnf
    rw [hb8]
    conv => whnf
    rw [show Nat.ble (0 + 3 + a * 8 + b * 1 + 1) 67 = true from Nat.ble_eq_true_of_le (by omega)]
    conv => whnf
    rw [encO_get0 o (by omega) (by omega) hF]
    cases h3 : o a b
    · rw [h3, if_neg (by simp), List.append_nil] at hs
      rcases l with _ | ⟨p, r⟩
      · conv => whnf
        rw [wrap_succ (by omega)]
        exact ih2 (b + 1, []) ⟨by simp only; omega, by simp only; rw [hs]; exact hl2⟩ (by simp only; omega)
      · conv => whnf
        rw [wrap_succ (by omega)]
        exact ih2 (b + 1, p :: r) ⟨by simp only; omega, by simp only; rw [hs]; exact hl2⟩ (by simp only; omega)
    · rw [h3, if_pos rfl] at hs
      rcases l with _ | ⟨p, r⟩
      · conv => whnf
        rw [wrap_succ (by omega)]
        exact ih2 (b + 1, [((a : Int), (b : Int))]) ⟨by simp only; omega, by simp only; rw [hs, ← List.append_assoc, ← hl2]; rfl⟩ (by simp only; omega)
      · simp only [List.length_cons] at hll2
        conv => whnf
        rw [show Nat.ble ((r.length + 1 + 1) * 16) 140737488355328 = true from Nat.ble_eq_true_of_le (by omega)]
        conv => whnf
        rw [may_all]
        conv => whnf
        rw [show Nat.beq ((r.length + 1) * 2) (Cells.ds (encP (p :: r))).len = true by simp only [Cells.len, encP_length, List.length_cons]; exact Nat.beq_refl _, wrap_succ (by omega), List.take_of_length_le (by rw [encP_length]; simp)]
        have e1 : encP (p :: r) ++ [D.int .i64 (a : Int), D.int .i64 (b : Int)] = encP (p :: (r ++ [((a : Int), (b : Int))])) := encP_snoc (p :: r) ((a : Int), (b : Int))
        rw [e1, show r.length + 1 = (r ++ [((a : Int), (b : Int))]).length by simp]
        exact ih2 (b + 1, p :: (r ++ [((a : Int), (b : Int))])) ⟨by simp only; omega, by simp only; rw [hs, ← List.append_assoc, ← hl2]; rfl⟩ (by simp only; omega)
  · conv => whnf
    refine loops_by (fun x : Nat × List (Int × Int) => match x with
        | (b, l) => ⟨50, [(2, .d .nil), (3, .d (.int .i64 0)), (4, .ptr 0 0 0 67), (6, slP l), (7, .d (.int .i64 a)), (21, .d (.int .i64 n)), (22, .d (.int .i64 a)), (29, .d (.int .i64 n)), (30, .d (.int .i64 b))], .unk, deO n er rs F ++ roP l, []⟩)
      (fun x => x.1 ≤ n ∧ x.2 = allP o n a ++ rowP o a x.1) (fun x => n - x.1) (0, p :: r) ⟨Nat.zero_le _, by simpa [rowP] using hl⟩ ?_
    rintro f ⟨b, l⟩ ⟨hi2, hl2⟩ ih2
    simp only at hi2 hl2
    have hll2 : l.length ≤ 128 := by
      have h3 := allP_length o n a
      have h4 := rowP_length o a b
      have h5 : a * n ≤ 8 * 8 := Nat.mul_le_mul (by omega) (by omega)
      rw [hl2, List.length_append]; omega
    conv => whnf
    cases h2 : ltI (b : Int) (n : Int)
    · have hn : b = n := by rw [ltI_eq] at h2; have := of_decide_eq_false h2; omega
      subst hn
      rcases l with _ | ⟨p, r⟩
      · conv => whnf
        rw [wrap_succ (by omega)]
        exact ih (a + 1, []) ⟨by simp only; omega, by simp only; rw [allP_succ]; exact hl2⟩ (by simp only; omega)
      · conv => whnf
        rw [wrap_succ (by omega)]
        exact ih (a + 1, p :: r) ⟨by simp only; omega, by simp only; rw [allP_succ]; exact hl2⟩ (by simp only; omega)
    have hlb : b < n := by rw [ltI_eq] at h2; have := of_decide_eq_true h2; omega
    have hb8 : Nat.blt b 8 = true := by simp [Nat.blt_eq]; omega
    have hs := rowP_succ o a b
    conv => whnf
    rw [ha8]
    conv => whnf
    rw [hb8]
    conv => whnf
    rw [show Nat.ble (0 + 3 + a * 8 + b * 1 + 1) 67 = true from Nat.ble_eq_true_of_le (by omega)]
    conv => whnf
    rw [encO_get0 o (by omega) (by omega) hF]
    cases h3 : o a b
    · rw [h3, if_neg (by simp), List.append_nil] at hs
      rcases l with _ | ⟨p, r⟩
      · conv => whnf
        rw [wrap_succ (by omega)]
        exact ih2 (b + 1, []) ⟨by simp only; omega, by simp only; rw [hs]; exact hl2⟩ (by simp only; omega)
      · conv => whnf
        rw [wrap_succ (by omega)]
        exact ih2 (b + 1, p :: r) ⟨by simp only; omega, by simp only; rw [hs]; exact hl2⟩ (by simp only; omega)
    · rw [h3, if_pos rfl] at hs
      rcases l with _ | ⟨p, r⟩
      · conv => whnf
        rw [wrap_succ (by omega)]
        exact ih2 (b + 1, [((a : Int), (b : Int))]) ⟨by simp only; omega, by simp only; rw [hs, ← List.append_assoc, ← hl2]; rfl⟩ (by simp only; omega)
      · simp only [List.length_cons] at hll2
        conv => whnf
        rw [show Nat.ble ((r.length + 1 + 1) * 16) 140737488355328 = true from Nat.ble_eq_true_of_le (by omega)]
        conv => whnf
        rw [may_all]
        conv => whnf
        rw [show Nat.beq ((r.length + 1) * 2) (Cells.ds (encP (p :: r))).len = true by simp only [Cells.len, encP_length, List.length_cons]; exact Nat.beq_refl _, wrap_succ (by omega), List.take_of_length_le (by rw [encP_length]; simp)]
        have e1 : encP (p :: r) ++ [D.int .i64 (a : Int), D.int .i64 (b : Int)] = encP (p :: (r ++ [((a : Int), (b : Int))])) := encP_snoc (p :: r) ((a : Int), (b : Int))
        rw [e1, show r.length + 1 = (r ++ [((a : Int), (b : Int))]).length by simp]
        exact ih2 (b + 1, p :: (r ++ [((a : Int), (b : Int))])) ⟨by simp only; omega, by simp only; rw [hs, ← List.append_assoc, ← hl2]; rfl⟩ (by simp only; omega)
end Go.Proofs.Rx
