/-
  TopHeld: the reference's check; copies.
-/
import Derived.Test.YthnhhcmafcclgaaGreatDoorHxA
namespace Go.Proofs.Hx
open Go Go.Ab
set_option maxRecDepth 100000
set_option maxHeartbeats 1000000
theorem refCheck_ok (s st : Int) (ds : List Dy6) (hl : ds.length < 1000000000) : Rets Tryz.prog E 5 [.d (wD s st ds)] (.d (.int .i64 (chk s st ds))) := by
  refine sm_of HE true (by kernel_rfl) ?_
  unfold wD chk
  have hlen : notB (inB (ds.length : Int) 1 60) = orB (ltI (ds.length : Int) 1) (ltI 60 (ds.length : Int)) := (out_in _ _ _).symm
  rw [hlen]
  conv => whnf
  refine Rets.use (outside_ok st 1 1000000) ?_
  conv => whnf
  cases g1 : inB st 1 1000000
  · conv => whnf
    exact ⟨rfl, rfl⟩
  conv => whnf
  refine Rets.use (outside_ok s 0 st) ?_
  conv => whnf
  cases g2 : inB s 0 st
  · conv => whnf
    exact ⟨rfl, rfl⟩
  conv => whnf
  cases g3 : ltI (ds.length : Int) 1
  case true =>
    conv => whnf
    exact ⟨rfl, rfl⟩
  conv => whnf
  cases g4 : ltI 60 (ds.length : Int)
  case true =>
    conv => whnf
    exact ⟨rfl, rfl⟩
  conv => whnf
  refine loops_by (fun i : Nat => ⟨56, [(1, .ptr 0 0 0 3), (2, .d (.int .i64 0)), (3, .d (.int .i64 i))], .unk, [.row (.ds [.int .i64 s, .int .i64 st, .slice ds.length 6 (encW ds)]) 0 0 []], []⟩)
    (fun i => i ≤ ds.length ∧ anyB (fun x => notB (dayOk x)) ds = anyB (fun x => notB (dayOk x)) (ds.drop i)) (fun i => ds.length - i) 0 ⟨Nat.zero_le _, rfl⟩ ?_
  intro n i ⟨hi, hid⟩ ih
  conv => whnf
  cases h1 : ltI (i : Int) (ds.length : Int)
  · have hn : ds.length ≤ i := by rw [ltI_eq] at h1; have := of_decide_eq_false h1; omega
    have hall : allB dayOk ds = true := by unfold allB; rw [hid, List.drop_eq_nil_of_le hn]; rfl
    rw [hall]
    conv => whnf
    exact ⟨rfl, rfl⟩
  · have hlt : i < ds.length := by rw [ltI_eq] at h1; have := of_decide_eq_true h1; omega
    have hb : Nat.blt i ds.length = true := by simpa [Nat.blt_eq] using hlt
    obtain ⟨a, ha⟩ : ∃ a, ds[i]? = some a := ⟨ds[i], by simp [hlt]⟩
    have hstep : ∀ b, dayOk a = b → anyB (fun x => notB (dayOk x)) ds = match b with | true => anyB (fun x => notB (dayOk x)) (ds.drop (i + 1)) | false => true := by
      intro b hb
      rw [hid, anyB_at ha, hb]
      cases b <;> rfl
    have hel := encW_length ds
    conv => whnf
    rw [hb]
    conv => whnf
    rw [show Nat.ble (i * 6 + 0 + 2) (encW ds).length = true from Nat.ble_eq_true_of_le (by omega)]
    conv => whnf
    rw [encW_sub ha 0]
    conv => whnf
    refine Rets.use (wrong_ok a.nl a.nh 100000) ?_
    conv => whnf
    cases h2 : spanB a.nl a.nh 100000
    · conv => whnf
      refine ⟨?_, rfl⟩
      unfold allB
      rw [hstep false (by unfold dayOk; rw [h2]; rfl)]; rfl
    conv => whnf
    rw [hb]
    conv => whnf
    rw [show Nat.ble (i * 6 + 2 + 2) (encW ds).length = true from Nat.ble_eq_true_of_le (by omega)]
    conv => whnf
    rw [encW_sub ha 2]
    conv => whnf
    refine Rets.use (wrong_ok a.ml a.mh 100000) ?_
    conv => whnf
    cases h3 : spanB a.ml a.mh 100000
    · conv => whnf
      refine ⟨?_, rfl⟩
      unfold allB
      rw [hstep false (by unfold dayOk; rw [h2, h3]; rfl)]; rfl
    conv => whnf
    rw [hb]
    conv => whnf
    rw [show Nat.ble (i * 6 + 4 + 2) (encW ds).length = true from Nat.ble_eq_true_of_le (by omega)]
    conv => whnf
    rw [encW_sub ha 4]
    conv => whnf
    refine Rets.use (wrong_ok a.ll a.lh 100000) ?_
    conv => whnf
    cases h4 : spanB a.ll a.lh 100000
    · conv => whnf
      refine ⟨?_, rfl⟩
      unfold allB
      rw [hstep false (by unfold dayOk; rw [h2, h3, h4]; rfl)]; rfl
    conv => whnf
    rw [wrap_succ (by omega)]
    exact ih (i + 1) ⟨by omega, hstep true (by unfold dayOk; rw [h2, h3, h4]; rfl)⟩ (by omega)
theorem cloneD_ok (l : List Dy6) (hl : l.length ≤ 100) : Rets Tryz.prog E 19 [.d (.slice l.length 6 (encW l))] (.d (.slice l.length 6 (encW l))) := by
  cases l with
  | nil =>
    refine Rets.weaken ?_ (Wk.nil 6)
    refine sm_of HE true (by kernel_rfl) ?_
    conv => whnf
    exact ⟨rfl, rfl⟩
  | cons a r =>
    simp only [List.length_cons] at hl ⊢
    refine sm_of HE true (by kernel_rfl) ?_
    conv => whnf
    rw [show Nat.ble ((r.length + 1) * 48) 140737488355328 = true from Nat.ble_eq_true_of_le (by omega)]
    conv => whnf
    rw [ofV_map]
    have hel : (encW (a :: r)).length = (r.length + 1) * 6 := by rw [encW_length]; simp
    conv => whnf
    rw [show Nat.ble (0 + (r.length + 1) * 6) (encW (a :: r)).length = true from Nat.ble_eq_true_of_le (by omega)]
    conv => whnf
    refine ⟨?_, rfl⟩
    rw [row_all hel]
theorem clone_ok (s st : Int) (ds : List Dy6) (h : ds.length ≤ 100) : Rets Tryz.prog E 8 [.d (wD s st ds)] (.d (wD s st ds)) := by
  refine sm_of HE true (by kernel_rfl) ?_
  unfold wD
  conv => whnf
  refine Rets.use (cloneD_ok ds h) ?_
  conv => whnf
  exact ⟨rfl, rfl⟩
theorem winter_cons (s st : Int) (ds : List Dy6) (h1 : ds.length * 48 ≤ 140737488355328) (hpos : 0 < ds.length) : Rets Tryz.prog E 4 [.d (wD s st ds)] (.d (wD s st ds)) := by
  obtain ⟨p, hp0⟩ : ∃ p, ds[0]? = some p := ⟨ds[0], by simp [hpos]⟩
  have hel := encW_length ds
  refine sm_of HE true (by kernel_rfl) ?_
  unfold wD
  conv => whnf
  refine loops_by (fun x : Option (Nat × List Dy6) => match x with
      | none => ⟨26, [(2, .ptr 0 0 0 3), (3, .ptr 1 0 0 3), (12, .d (.slice ds.length 6 (encW ds))), (13, .d (.int .i64 ds.length)), (14, .d (.int .i64 0))], .unk,
          [.row (.ds [.int .i64 0, .int .i64 0, .nil]) 0 0 [], .row (.ds [.int .i64 s, .int .i64 st, .nil]) 0 0 []], []⟩
      | some (k, acc) => ⟨26, [(2, .ptr 0 0 0 3), (3, .ptr 1 0 0 3), (12, .d (.slice ds.length 6 (encW ds))), (13, .d (.int .i64 ds.length)), (14, .d (.int .i64 (k + 1 : Nat)))], .unk,
          [.row (.ds [.int .i64 0, .int .i64 0, .nil]) 0 0 [], .row (.vs [.d (.int .i64 s), .d (.int .i64 st), .slice 2 k 0 (k + 1) 6]) 0 0 [], .row (.ds (encW acc)) k 0 []], []⟩)
    (fun x => match x with | none => True | some (k, acc) => k + 1 ≤ ds.length ∧ acc = ds.take (k + 1)) (fun x => match x with | none => ds.length | some (k, _) => ds.length - (k + 1)) none trivial ?_
  rintro n (_ | ⟨k, acc⟩) hI ih
  · have hb : Nat.blt 0 ds.length = true := by simpa [Nat.blt_eq] using hpos
    conv => whnf
    cases g1 : ltI (0 : Int) (ds.length : Int)
    · rw [ltI_eq] at g1; have := of_decide_eq_false g1; omega
    · conv => whnf
      rw [hb]
      conv => whnf
      rw [show Nat.ble (0 * 6 + 6) (encW ds).length = true from Nat.ble_eq_true_of_le (by omega)]
      conv => whnf
      rw [encW_at hp0]
      conv => whnf
      exact ih (some (0, [p])) ⟨by omega, by rw [List.take_add_one, hp0]; rfl⟩ (by simp only; omega)
  · obtain ⟨hle, hid⟩ := hI
    have hal : acc.length = k + 1 := by rw [hid]; simp; omega
    have hac : (encW acc).length = (k + 1) * 6 := by rw [encW_length, hal]
    conv => whnf
    cases h1 : ltI ((k + 1 : Nat) : Int) (ds.length : Int)
    · have hn : ds.length = k + 1 := by rw [ltI_eq] at h1; have := of_decide_eq_false h1; omega
      conv => whnf
      rw [may_all]
      conv => whnf
      rw [show Nat.ble (0 + (k + 1) * 6) (encW acc).length = true from Nat.ble_eq_true_of_le (by omega)]
      conv => whnf
      refine ⟨?_, rfl⟩
      rw [row_all hac, hid, hn, List.take_of_length_le (by omega)]
    · have hlt : k + 1 < ds.length := by rw [ltI_eq] at h1; have := of_decide_eq_true h1; omega
      have hb : Nat.blt (k + 1) ds.length = true := by simpa [Nat.blt_eq] using hlt
      obtain ⟨q, hq⟩ : ∃ q, ds[k + 1]? = some q := ⟨ds[k + 1], by simp [hlt]⟩
      conv => whnf
      rw [hb]
      conv => whnf
      rw [show Nat.ble ((k + 1) * 6 + 6) (encW ds).length = true from Nat.ble_eq_true_of_le (by omega)]
      conv => whnf
      rw [encW_at hq]
      conv => whnf
      rw [show Nat.ble ((k + 1 + 1) * 48) 140737488355328 = true from Nat.ble_eq_true_of_le (by omega)]
      conv => whnf
      rw [may_all]
      conv => whnf
      rw [show Nat.beq ((k + 1) * 6) (Cells.ds (encW acc)).len = true by simp only [Cells.len, hac]; exact Nat.beq_refl _, wrap_succ (by omega), List.take_of_length_le (by omega)]
      have e1 : encW acc ++ encDy q = encW (acc ++ [q]) := (encW_snoc acc q).symm
      unfold encDy at e1
      rw [e1]
      exact ih (some (k + 1, acc ++ [q])) ⟨by omega, by rw [List.take_add_one, hq, hid]; rfl⟩ (by simp only; omega)
theorem winter_ok (s st : Int) (ds : List Dy6) (h1 : ds.length * 48 ≤ 140737488355328) : Rets Tryz.prog E 4 [.d (wD s st ds)] (.d (wD s st ds)) := by
  cases ds with
  | nil =>
    refine Rets.weaken (x := .agg [.int .i64 s, .int .i64 st, .nil]) ?_ ?_
    · refine sm_of HE true (by kernel_rfl) ?_
      unfold wD
      conv => whnf
      refine ⟨1, ?_⟩
      conv => whnf
      exact ⟨rfl, rfl⟩
    · rintro Z w v ⟨vs, rfl, ⟨a, as1, e1, h1, b, as2, e2, h2, c, as3, e3, h3, h4⟩, h5⟩
      exact ⟨vs, rfl, ⟨a, as1, e1, h1, b, as2, e2, h2, c, as3, e3, Wk.nil 6 Z w c h3, h4⟩, h5⟩
  | cons p r => exact winter_cons s st (p :: r) h1 (by simp)
end Go.Proofs.Hx
