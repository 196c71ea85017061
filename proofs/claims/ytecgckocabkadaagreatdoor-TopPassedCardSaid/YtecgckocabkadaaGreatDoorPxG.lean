/- PxG: a part of the proof of this claim. -/
import Derived.Test.YtecgckocabkadaaGreatDoorPxF
namespace Go.Proofs.Px
open Go Go.Ab
set_option maxRecDepth 100000
set_option maxHeartbeats 1000000
theorem cloneI_ok (l : List Int) (hl : l.length ≤ 100) : Rets Tryz.prog E 23 [.d (.slice l.length 1 (encI l))] (.d (.slice l.length 1 (encI l))) := by
  cases l with
  | nil =>
    refine Rets.weaken ?_ (Wk.nil 1)
    refine sm_of HE true (by kernel_rfl) ?_
    conv => whnf
    exact ⟨rfl, rfl⟩
  | cons a r =>
    simp only [List.length_cons] at hl ⊢
    refine sm_of HE true (by kernel_rfl) ?_
    conv => whnf
    rw [show Nat.ble ((r.length + 1) * 8) 140737488355328 = true from Nat.ble_eq_true_of_le (by omega)]
    conv => whnf
    rw [ofV_map]
    have hel : (encI (a :: r)).length = (r.length + 1) * 1 := by rw [encI_length]; simp
    conv => whnf
    rw [show Nat.ble (0 + (r.length + 1) * 1) (encI (a :: r)).length = true from Nat.ble_eq_true_of_le (by omega)]
    conv => whnf
    refine ⟨?_, rfl⟩
    rw [row_all hel]
theorem cloneP_ok (l : List (Int × Int)) (hl : l.length ≤ 100) : Rets Tryz.prog E 22 [.d (.slice l.length 2 (encP l))] (.d (.slice l.length 2 (encP l))) := by
  cases l with
  | nil =>
    refine Rets.weaken ?_ (Wk.nil 2)
    refine sm_of HE true (by kernel_rfl) ?_
    conv => whnf
    exact ⟨rfl, rfl⟩
  | cons a r =>
    simp only [List.length_cons] at hl ⊢
    refine sm_of HE true (by kernel_rfl) ?_
    conv => whnf
    rw [show Nat.ble ((r.length + 1) * 16) 140737488355328 = true from Nat.ble_eq_true_of_le (by omega)]
    conv => whnf
    rw [ofV_map]
    have hel : (encP (a :: r)).length = (r.length + 1) * 2 := by rw [encP_length]; simp
    conv => whnf
    rw [show Nat.ble (0 + (r.length + 1) * 2) (encP (a :: r)).length = true from Nat.ble_eq_true_of_le (by omega)]
    conv => whnf
    refine ⟨?_, rfl⟩
    rw [row_all hel]
section
variable {e l : Int} {ts : List (Int × Int)} {rs : List Int}
theorem clone_ok (h1 : ts.length ≤ 100) (h2 : rs.length ≤ 100) : Rets Tryz.prog E 10 [.d (scD e l ts rs)] (.d (scD e l ts rs)) := by
  refine sm_of HE true (by kernel_rfl) ?_
  unfold scD
  conv => whnf
  refine Rets.use (cloneP_ok ts h1) ?_
  conv => whnf
  refine Rets.use (cloneI_ok rs h2) ?_
  conv => whnf
  exact ⟨rfl, rfl⟩
theorem scale_cons (h1 : ts.length ≤ 100) (hpos : 0 < ts.length) : Rets Tryz.prog E 6 [.d (scD e l ts rs)] (.d (scD e l ts rs)) := by
  obtain ⟨p, hp0⟩ : ∃ p, ts[0]? = some p := ⟨ts[0], by simp [hpos]⟩
  refine sm_of HE true (by kernel_rfl) ?_
  unfold scD
  conv => whnf
  refine loops_by (fun x : Option (Nat × List (Int × Int)) => match x with
      | none => ⟨28, [(2, .ptr 0 0 0 4), (3, .ptr 1 0 0 4), (14, .d (.slice ts.length 2 (encP ts))), (15, .d (.int .i64 ts.length)), (16, .d (.int .i64 0))], .unk,
          [.row (.ds [.int .i64 0, .int .i64 0, .nil, .nil]) 0 0 [], .row (.ds [.int .i64 e, .int .i64 l, .nil, .slice rs.length 1 (encI rs)]) 0 0 []], []⟩
      | some (k, acc) => ⟨28, [(2, .ptr 0 0 0 4), (3, .ptr 1 0 0 4), (14, .d (.slice ts.length 2 (encP ts))), (15, .d (.int .i64 ts.length)), (16, .d (.int .i64 (k + 1 : Nat)))], .unk,
          [.row (.ds [.int .i64 0, .int .i64 0, .nil, .nil]) 0 0 [], .row (.vs [.d (.int .i64 e), .d (.int .i64 l), .slice 2 k 0 (k + 1) 2, .d (.slice rs.length 1 (encI rs))]) 0 0 [], .row (.ds (encP acc)) k 0 []], []⟩)
    (fun x => match x with | none => True | some (k, acc) => k + 1 ≤ ts.length ∧ acc = ts.take (k + 1)) (fun x => match x with | none => ts.length | some (k, _) => ts.length - (k + 1)) none trivial ?_
  rintro n (_ | ⟨k, acc⟩) hI ih
  · have hb : Nat.blt 0 ts.length = true := by simpa [Nat.blt_eq] using hpos
    conv => whnf
    cases g1 : ltI (0 : Int) (ts.length : Int)
    · rw [ltI_eq] at g1; have := of_decide_eq_false g1; omega
    · conv => whnf
      rw [hb]
      conv => whnf
      rw [show Nat.ble (0 * 2 + 2) (encP ts).length = true from Nat.ble_eq_true_of_le (by rw [encP_length]; omega)]
      conv => whnf
      rw [encP_at hp0]
      conv => whnf
      exact ih (some (0, [p])) ⟨by omega, by rw [List.take_add_one, hp0]; rfl⟩ (by simp only; omega)
  · obtain ⟨hle, hid⟩ := hI
    have hal : acc.length = k + 1 := by rw [hid]; simp; omega
    have hel : (encP acc).length = (k + 1) * 2 := by rw [encP_length, hal]
    conv => whnf
    cases g1 : ltI ((k + 1 : Nat) : Int) (ts.length : Int)
    · have hn : ts.length = k + 1 := by rw [ltI_eq] at g1; have := of_decide_eq_false g1; omega
      conv => whnf
      rw [may_all]
      conv => whnf
      rw [show Nat.ble (0 + (k + 1) * 2) (encP acc).length = true from Nat.ble_eq_true_of_le (by omega)]
      conv => whnf
      refine ⟨?_, rfl⟩
      rw [row_all hel, hid, hn, List.take_of_length_le (by omega)]
    · have hlt : k + 1 < ts.length := by rw [ltI_eq] at g1; have := of_decide_eq_true g1; omega
      have hb : Nat.blt (k + 1) ts.length = true := by simpa [Nat.blt_eq] using hlt
      obtain ⟨q, hq⟩ : ∃ q, ts[k + 1]? = some q := ⟨ts[k + 1], by simp [hlt]⟩
      conv => whnf
      rw [hb]
      conv => whnf
      rw [show Nat.ble ((k + 1) * 2 + 2) (encP ts).length = true from Nat.ble_eq_true_of_le (by rw [encP_length]; omega)]
      conv => whnf
      rw [encP_at hq]
      conv => whnf
      rw [show Nat.ble ((k + 1 + 1) * 16) 140737488355328 = true from Nat.ble_eq_true_of_le (by omega)]
      conv => whnf
      rw [may_all]
      conv => whnf
      rw [show Nat.beq ((k + 1) * 2) (Cells.ds (encP acc)).len = true by simp only [Cells.len, hel]; exact Nat.beq_refl _, wrap_succ (by omega), List.take_of_length_le (by omega)]
      have e1 : encP acc ++ [D.int .i64 q.1, D.int .i64 q.2] = encP (acc ++ [q]) := (encP_snoc acc q).symm
      rw [e1]
      exact ih (some (k + 1, acc ++ [q])) ⟨by omega, by rw [List.take_add_one, hq, hid]; rfl⟩ (by simp only; omega)
theorem scale_ok (h1 : ts.length ≤ 100) : Rets Tryz.prog E 6 [.d (scD e l ts rs)] (.d (scD e l ts rs)) := by
  cases ts with
  | nil =>
    refine Rets.weaken (x := .agg [.int .i64 e, .int .i64 l, .nil, .slice rs.length 1 (encI rs)]) ?_ ?_
    · refine sm_of HE true (by kernel_rfl) ?_
      unfold scD
      conv => whnf
      refine ⟨1, ?_⟩
      conv => whnf
      exact ⟨rfl, rfl⟩
    · rintro Z w v ⟨vs, rfl, ⟨a, as1, e1, h1, b, as2, e2, h2, c, as3, e3, h3, h4⟩, h5⟩
      exact ⟨vs, rfl, ⟨a, as1, e1, h1, b, as2, e2, h2, c, as3, e3, Wk.nil 2 Z w c h3, h4⟩, h5⟩
  | cons p r => exact scale_cons h1 (by simp)
end
/-! ### Is it among them? -/
theorem index_ok (l : List Int) (a : Int) (hl : l.length < 4611686018427387904) : Rets Tryz.prog E 32 [.d (.slice l.length 1 (encI l)), .d (.int .i64 a)] (.d (.int .i64 (idxB (fun x => eqI a x) l 0))) := by
  refine sm_of HE true (by kernel_rfl) ?_
  conv => whnf
  refine loops_by (fun i : Nat => ⟨19, [(0, .d (.slice l.length 1 (encI l))), (1, .d (.int .i64 a)), (4, .d (.int .i64 0)), (7, .d (.int .i64 l.length)), (8, .d (.int .i64 i))], .unk, [], []⟩)
    (fun i => i ≤ l.length ∧ idxB (fun x => eqI a x) l 0 = idxB (fun x => eqI a x) (l.drop i) i) (fun i => l.length - i) 0 ⟨Nat.zero_le _, rfl⟩ ?_
  intro n i ⟨hi, hid⟩ ih
  conv => whnf
  cases h1 : ltI (i : Int) (l.length : Int)
  · conv => whnf
    have hn : l.length ≤ i := by rw [ltI_eq] at h1; have := of_decide_eq_false h1; omega
    refine ⟨?_, rfl⟩
    rw [hid, List.drop_eq_nil_of_le hn]; rfl
  · have hlt : i < l.length := by rw [ltI_eq] at h1; have := of_decide_eq_true h1; omega
    have hb : Nat.blt i l.length = true := by simpa [Nat.blt_eq] using hlt
    obtain ⟨b, hb'⟩ : ∃ b, l[i]? = some b := ⟨l[i], by simp [hlt]⟩
    conv => whnf
    rw [hb]
    conv => whnf
    rw [encI_get1 hb']
    conv => whnf
    cases h2 : eqI a b
    · conv => whnf
      rw [wrap_succ (by omega)]
      exact ih (i + 1) ⟨by omega, by rw [hid, idxB_at hb', h2]⟩ (by omega)
    · conv => whnf
      refine ⟨?_, rfl⟩
      rw [hid, idxB_at hb', h2]; rfl
theorem contains_ok (l : List Int) (a : Int) (hl : l.length < 4611686018427387904) : Rets Tryz.prog E 15 [.d (.slice l.length 1 (encI l)), .d (.int .i64 a)] (.d (.bool (anyB (fun x => eqI a x) l))) := by
  refine sm_of HE true (by kernel_rfl) ?_
  conv => whnf
  refine Rets.use (index_ok l a hl) ?_
  conv => whnf
  exact ⟨by rw [← idxB_nonneg _ l 0], rfl⟩
theorem index_nil (a : Int) : Rets Tryz.prog E 32 [.d .nil, .d (.int .i64 a)] (.d (.int .i64 (-1))) := by
  refine sm_of HE true (by kernel_rfl) ?_
  conv => whnf
  refine ⟨1, ?_⟩
  conv => whnf
  exact ⟨rfl, rfl⟩
theorem contains_listD (l : List Int) (a : Int) (hl : l.length < 4611686018427387904) : Rets Tryz.prog E 15 [.d (listD l), .d (.int .i64 a)] (.d (.bool (anyB (fun x => eqI a x) l))) := by
  cases l with
  | nil =>
    refine sm_of HE true (by kernel_rfl) ?_
    conv => whnf
    refine Rets.use (index_nil a) ?_
    conv => whnf
    exact ⟨rfl, rfl⟩
  | cons b r => exact contains_ok (b :: r) a hl
end Go.Proofs.Px
