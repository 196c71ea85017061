/-
  TopRanked: the reference's check; copies; what a run shows.
-/
import Derived.Test.YtklidmlhlelngaaGreatDoorRxA
namespace Go.Proofs.Rx
open Go Go.Ab
set_option maxRecDepth 100000
set_option maxHeartbeats 1000000
theorem refCheck_ok (sk er : Int) (rs : List Run3) (hl : rs.length < 1000000000) : Rets Tryz.prog E 6 [.d (laD sk er rs)] (.d (.int .i64 (chk sk er rs))) := by
  refine sm_of HE true (by kernel_rfl) ?_
  unfold laD labL chk
  conv => whnf
  refine Rets.use (outside_ok sk 1 8) ?_
  conv => whnf
  cases g1 : inB sk 1 8
  · conv => whnf
    exact ⟨rfl, rfl⟩
  have hsk := inB_true g1
  conv => whnf
  refine Rets.use (outside_ok er 0 1000) ?_
  conv => whnf
  cases g2 : inB er 0 1000
  · conv => whnf
    exact ⟨rfl, rfl⟩
  conv => whnf
  cases g3 : ltI 40 (rs.length : Int)
  case true =>
    conv => whnf
    exact ⟨rfl, rfl⟩
  conv => whnf
  have hel := encR_length rs
  refine loops_by (fun i : Nat => ⟨65, [(1, .ptr 0 0 0 3), (2, .d (.int .i64 0)), (3, .d (.int .i64 i))], .unk, [.row (.ds (labL sk er rs)) 0 0 []], []⟩)
    (fun i => i ≤ rs.length ∧ anyB (fun x => notB (okA sk x)) rs = anyB (fun x => notB (okA sk x)) (rs.drop i)) (fun i => rs.length - i) 0 ⟨Nat.zero_le _, rfl⟩ ?_
  intro n i ⟨hi, hid⟩ ih
  conv => whnf
  cases h1 : ltI (i : Int) (rs.length : Int)
  · have hn : rs.length ≤ i := by rw [ltI_eq] at h1; have := of_decide_eq_false h1; omega
    have hall : allB (okA sk) rs = true := by unfold allB; rw [hid, List.drop_eq_nil_of_le hn]; rfl
    rw [hall]
    conv => whnf
    refine loops_by (fun i : Nat => ⟨65, [(1, .ptr 0 0 0 3), (2, .d (.int .i64 0)), (5, .d (.int .i64 i))], .unk, [.row (.ds (labL sk er rs)) 0 0 []], []⟩)
      (fun i => i ≤ rs.length ∧ anyB (fun x => notB (okL x)) rs = anyB (fun x => notB (okL x)) (rs.drop i)) (fun i => rs.length - i) 0 ⟨Nat.zero_le _, rfl⟩ ?_
    clear ih hid h1 hn hi hall
    intro n i ⟨hi, hid⟩ ih
    conv => whnf
    cases h1 : ltI (i : Int) (rs.length : Int)
    · have hn : rs.length ≤ i := by rw [ltI_eq] at h1; have := of_decide_eq_false h1; omega
      have hall : allB okL rs = true := by unfold allB; rw [hid, List.drop_eq_nil_of_le hn]; rfl
      rw [hall]
      conv => whnf
      exact ⟨rfl, rfl⟩
    · have hlt : i < rs.length := by rw [ltI_eq] at h1; have := of_decide_eq_true h1; omega
      have hb : Nat.blt i rs.length = true := by simpa [Nat.blt_eq] using hlt
      obtain ⟨a, ha⟩ : ∃ a, rs[i]? = some a := ⟨rs[i], by simp [hlt]⟩
      conv => whnf
      rw [hb]
      conv => whnf
      rw [encR_get ha 2 (.int .i64 a.ld) rfl]
      conv => whnf
      refine Rets.use (outside_ok a.ld (-10000) 10000) ?_
      conv => whnf
      cases h2 : inB a.ld (-10000) 10000
      · conv => whnf
        refine ⟨?_, rfl⟩
        have e : okL a = false := h2
        unfold allB
        rw [hid, anyB_at ha, e]; rfl
      · conv => whnf
        have e : okL a = true := h2
        rw [wrap_succ (by omega)]
        exact ih (i + 1) ⟨by omega, by rw [hid, anyB_at ha, e]; rfl⟩ (by omega)
  · have hlt : i < rs.length := by rw [ltI_eq] at h1; have := of_decide_eq_true h1; omega
    have hb : Nat.blt i rs.length = true := by simpa [Nat.blt_eq] using hlt
    obtain ⟨a, ha⟩ : ∃ a, rs[i]? = some a := ⟨rs[i], by simp [hlt]⟩
    have hstep : ∀ b, okA sk a = b → anyB (fun x => notB (okA sk x)) rs = match b with | true => anyB (fun x => notB (okA sk x)) (rs.drop (i + 1)) | false => true := by
      intro b hb
      rw [hid, anyB_at ha, hb]
      cases b <;> rfl
    conv => whnf
    rw [hb]
    conv => whnf
    rw [show Nat.ble (i * 3 + 3) (encR rs).length = true from Nat.ble_eq_true_of_le (by omega)]
    conv => whnf
    rw [encR_at ha]
    conv => whnf
    rw [wrap_i64 (n := sk - 1) (by omega) (by omega)]
    refine Rets.use (outside_ok a.a 0 (sk - 1)) ?_
    conv => whnf
    cases h2 : inB a.a 0 (sk - 1)
    · conv => whnf
      refine ⟨?_, rfl⟩
      unfold allB
      rw [hstep false (by unfold okA; rw [h2]; rfl)]; rfl
    conv => whnf
    rw [wrap_i64 (n := sk - 1) (by omega) (by omega)]
    refine Rets.use (outside_ok a.b 0 (sk - 1)) ?_
    conv => whnf
    cases h3 : inB a.b 0 (sk - 1)
    · conv => whnf
      refine ⟨?_, rfl⟩
      unfold allB
      rw [hstep false (by unfold okA; rw [h2, h3]; rfl)]; rfl
    conv => whnf
    cases h4 : eqI a.a a.b
    · conv => whnf
      rw [wrap_succ (by omega)]
      exact ih (i + 1) ⟨by omega, hstep true (by unfold okA; rw [h2, h3, h4]; rfl)⟩ (by omega)
    · conv => whnf
      refine ⟨?_, rfl⟩
      unfold allB
      rw [hstep false (by unfold okA; rw [h2, h3, h4]; rfl)]; rfl
theorem cloneD_ok (l : List Run3) (hl : l.length ≤ 100) : Rets Tryz.prog E 20 [.d (.slice l.length 3 (encR l))] (.d (.slice l.length 3 (encR l))) := by
  cases l with
  | nil =>
    refine Rets.weaken ?_ (Wk.nil 3)
    refine sm_of HE true (by kernel_rfl) ?_
    conv => whnf
    exact ⟨rfl, rfl⟩
  | cons a r =>
    simp only [List.length_cons] at hl ⊢
    refine sm_of HE true (by kernel_rfl) ?_
    conv => whnf
    rw [show Nat.ble ((r.length + 1) * 24) 140737488355328 = true from Nat.ble_eq_true_of_le (by omega)]
    conv => whnf
    rw [ofV_map]
    have hel : (encR (a :: r)).length = (r.length + 1) * 3 := by rw [encR_length]; simp
    conv => whnf
    rw [show Nat.ble (0 + (r.length + 1) * 3) (encR (a :: r)).length = true from Nat.ble_eq_true_of_le (by omega)]
    conv => whnf
    refine ⟨?_, rfl⟩
    rw [row_all hel]
theorem clone_ok (sk er : Int) (rs : List Run3) (h : rs.length ≤ 100) : Rets Tryz.prog E 9 [.d (laD sk er rs)] (.d (laD sk er rs)) := by
  refine sm_of HE true (by kernel_rfl) ?_
  unfold laD labL
  conv => whnf
  refine Rets.use (cloneD_ok rs h) ?_
  conv => whnf
  exact ⟨rfl, rfl⟩
theorem lab_cons (sk er : Int) (rs : List Run3) (h1 : rs.length * 24 ≤ 140737488355328) (hpos : 0 < rs.length) : Rets Tryz.prog E 4 [.d (laD sk er rs)] (.d (laD sk er rs)) := by
  obtain ⟨p, hp0⟩ : ∃ p, rs[0]? = some p := ⟨rs[0], by simp [hpos]⟩
  have hel := encR_length rs
  refine sm_of HE true (by kernel_rfl) ?_
  unfold laD labL
  conv => whnf
  refine loops_by (fun x : Option (Nat × List Run3) => match x with
      | none => ⟨26, [(2, .ptr 0 0 0 3), (3, .ptr 1 0 0 3), (12, .d (.slice rs.length 3 (encR rs))), (13, .d (.int .i64 rs.length)), (14, .d (.int .i64 0))], .unk,
          [.row (.ds [.int .i64 0, .int .i64 0, .nil]) 0 0 [], .row (.ds [.int .i64 sk, .int .i64 er, .nil]) 0 0 []], []⟩
      | some (k, acc) => ⟨26, [(2, .ptr 0 0 0 3), (3, .ptr 1 0 0 3), (12, .d (.slice rs.length 3 (encR rs))), (13, .d (.int .i64 rs.length)), (14, .d (.int .i64 (k + 1 : Nat)))], .unk,
          [.row (.ds [.int .i64 0, .int .i64 0, .nil]) 0 0 [], .row (.vs [.d (.int .i64 sk), .d (.int .i64 er), .slice 2 k 0 (k + 1) 3]) 0 0 [], .row (.ds (encR acc)) k 0 []], []⟩)
    (fun x => match x with | none => True | some (k, acc) => k + 1 ≤ rs.length ∧ acc = rs.take (k + 1)) (fun x => match x with | none => rs.length | some (k, _) => rs.length - (k + 1)) none trivial ?_
  rintro n (_ | ⟨k, acc⟩) hI ih
  · have hb : Nat.blt 0 rs.length = true := by simpa [Nat.blt_eq] using hpos
    conv => whnf
    cases g1 : ltI (0 : Int) (rs.length : Int)
    · rw [ltI_eq] at g1; have := of_decide_eq_false g1; omega
    · conv => whnf
      rw [hb]
      conv => whnf
      rw [show Nat.ble (0 * 3 + 3) (encR rs).length = true from Nat.ble_eq_true_of_le (by omega)]
      conv => whnf
      rw [encR_at hp0]
      conv => whnf
      exact ih (some (0, [p])) ⟨by omega, by rw [List.take_add_one, hp0]; rfl⟩ (by simp only; omega)
  · obtain ⟨hle, hid⟩ := hI
    have hal : acc.length = k + 1 := by rw [hid]; simp; omega
    have hac : (encR acc).length = (k + 1) * 3 := by rw [encR_length, hal]
    conv => whnf
    cases h1 : ltI ((k + 1 : Nat) : Int) (rs.length : Int)
    · have hn : rs.length = k + 1 := by rw [ltI_eq] at h1; have := of_decide_eq_false h1; omega
      conv => whnf
      rw [may_all]
      conv => whnf
      rw [show Nat.ble (0 + (k + 1) * 3) (encR acc).length = true from Nat.ble_eq_true_of_le (by omega)]
      conv => whnf
      refine ⟨?_, rfl⟩
      rw [row_all hac, hid, hn, List.take_of_length_le (by omega)]
    · have hlt : k + 1 < rs.length := by rw [ltI_eq] at h1; have := of_decide_eq_true h1; omega
      have hb : Nat.blt (k + 1) rs.length = true := by simpa [Nat.blt_eq] using hlt
      obtain ⟨q, hq⟩ : ∃ q, rs[k + 1]? = some q := ⟨rs[k + 1], by simp [hlt]⟩
      conv => whnf
      rw [hb]
      conv => whnf
      rw [show Nat.ble ((k + 1) * 3 + 3) (encR rs).length = true from Nat.ble_eq_true_of_le (by omega)]
      conv => whnf
      rw [encR_at hq]
      conv => whnf
      rw [show Nat.ble ((k + 1 + 1) * 24) 140737488355328 = true from Nat.ble_eq_true_of_le (by omega)]
      conv => whnf
      rw [may_all]
      conv => whnf
      rw [show Nat.beq ((k + 1) * 3) (Cells.ds (encR acc)).len = true by simp only [Cells.len, hac]; exact Nat.beq_refl _, wrap_succ (by omega), List.take_of_length_le (by omega)]
      have e1 : encR acc ++ encU q = encR (acc ++ [q]) := (encR_snoc acc q).symm
      unfold encU at e1
      rw [e1]
      exact ih (some (k + 1, acc ++ [q])) ⟨by omega, by rw [List.take_add_one, hq, hid]; rfl⟩ (by simp only; omega)
theorem lab_ok (sk er : Int) (rs : List Run3) (h1 : rs.length * 24 ≤ 140737488355328) : Rets Tryz.prog E 4 [.d (laD sk er rs)] (.d (laD sk er rs)) := by
  cases rs with
  | nil =>
    refine Rets.weaken (x := .agg [.int .i64 sk, .int .i64 er, .nil]) ?_ ?_
    · refine sm_of HE true (by kernel_rfl) ?_
      unfold laD labL
      conv => whnf
      refine ⟨1, ?_⟩
      conv => whnf
      exact ⟨rfl, rfl⟩
    · rintro Z w v ⟨vs, rfl, ⟨a, as1, e1, h1, b, as2, e2, h2, c, as3, e3, h3, h4⟩, h5⟩
      exact ⟨vs, rfl, ⟨a, as1, e1, h1, b, as2, e2, h2, c, as3, e3, Wk.nil 3 Z w c h3, h4⟩, h5⟩
  | cons p r => exact lab_cons sk er (p :: r) h1 (by simp)

/-! ### What a run shows -/
def shw (er : Int) (r : Run3) : (Int × Int) × Bool := match ltI er r.ld with
  | true => ((r.a, r.b), true)
  | false => match ltI r.ld (-er) with
    | true => ((r.b, r.a), true)
    | false => ((0, 0), false)
def shD (x : (Int × Int) × Bool) : D := .tuple [.agg [.int .i64 x.1.1, .int .i64 x.1.2], .bool x.2]
theorem shows_ok (sk er : Int) (rs : List Run3) {i : Nat} {r : Run3} (her : 0 ≤ er ∧ er ≤ 1000) (hr : rs[i]? = some r) :
    Rets Tryz.prog E 37 [.d (laD sk er rs), .d (.int .i64 i)] (.d (shD (shw er r))) := by
  have hlt : i < rs.length := (List.getElem?_eq_some_iff.1 hr).1
  have hb : Nat.blt i rs.length = true := by simpa [Nat.blt_eq] using hlt
  have hel := encR_length rs
  refine sm_of HE true (by kernel_rfl) ?_
  unfold laD labL shD shw
  conv => whnf
  rw [hb]
  conv => whnf
  rw [show Nat.ble (i * 3 + 3) (encR rs).length = true from Nat.ble_eq_true_of_le (by omega)]
  conv => whnf
  rw [encR_at hr]
  conv => whnf
  cases h1 : ltI er r.ld
  · conv => whnf
    rw [wrap_i64 (n := -er) (by omega) (by omega)]
    cases h2 : ltI r.ld (-er)
    · conv => whnf
      exact ⟨rfl, rfl⟩
    · conv => whnf
      exact ⟨rfl, rfl⟩
  · conv => whnf
    exact ⟨rfl, rfl⟩
def rshw (er : Int) (r : Run3) : Int × Int := match ltI er r.ld with
  | true => (r.a, r.b)
  | false => match ltI er (-r.ld) with
    | true => (r.b, r.a)
    | false => (-1, -1)
def prD (x : Int × Int) : D := .tuple [.int .i64 x.1, .int .i64 x.2]
theorem refShows_ok (sk er : Int) (rs : List Run3) {i : Nat} {r : Run3} (hld : -10000 ≤ r.ld ∧ r.ld ≤ 10000) (hr : rs[i]? = some r) :
    Rets Tryz.prog E 25 [.d (laD sk er rs), .d (.int .i64 i)] (.d (prD (rshw er r))) := by
  have hlt : i < rs.length := (List.getElem?_eq_some_iff.1 hr).1
  have hb : Nat.blt i rs.length = true := by simpa [Nat.blt_eq] using hlt
  have hel := encR_length rs
  refine sm_of HE true (by kernel_rfl) ?_
  unfold laD labL prD rshw
  conv => whnf
  rw [hb]
  conv => whnf
  rw [show Nat.ble (i * 3 + 3) (encR rs).length = true from Nat.ble_eq_true_of_le (by omega)]
  conv => whnf
  rw [encR_at hr]
  conv => whnf
  cases h1 : ltI er r.ld
  · conv => whnf
    rw [wrap_i64 (n := -r.ld) (by omega) (by omega)]
    cases h2 : ltI er (-r.ld)
    · conv => whnf
      exact ⟨rfl, rfl⟩
    · conv => whnf
      exact ⟨rfl, rfl⟩
  · conv => whnf
    exact ⟨rfl, rfl⟩
theorem shown_ok (sk er : Int) (rs : List Run3) : Rets Tryz.prog E 35 [.d (laD sk er rs)] (.d (.func 46 [] [.ptr (labL sk er rs) 0])) := by
  refine sm_of HE true (by kernel_rfl) ?_
  unfold laD labL
  conv => whnf
  exact ⟨rfl, rfl⟩
end Go.Proofs.Rx
