/-
  TopLaid: the search for one hit more.
-/
import Derived.Test.YtldpapiaonchaaaGreatDoorDxB
import Derived.Test.YtldpapiaonchaaaGreatDoorDxE0
namespace Go.Proofs.Dx
open Go Go.Ab Go.Proofs.Dw
set_option maxRecDepth 100000
set_option maxHeartbeats 40000000
def hfB (S N : List Int) (A ps : List (Int × Int)) (t : Tb) : List O := [.row (.vs [.ptr 1 0 0 92]) 0 0 [], dkB S N A 2 3 4 t, .row (.ds (encI S)) 0 0 [], .row (.ds (encI N)) 0 0 [], mpO ps, .row (.vs [.func 47 [] [.ptr 0 0 0 1, .ptr 5 0 0 1]]) 0 0 []]
theorem can48B (S N : List Int) (A ps : List (Int × Int)) (t : Tb) (s l : Nat) :
    Sm Tryz.prog E 48 [.ptr 0 0 0 92, .d (.int .i64 s), .d (.int .i64 l)] [dkB S N A 1 2 3 t, .row (.ds (encI S)) 0 0 [], .row (.ds (encI N)) 0 0 [], mpO ps] (fun v h => v = .d (.bool (cB ps s l)) ∧ h = [dkB S N A 1 2 3 t, .row (.ds (encI S)) 0 0 [], .row (.ds (encI N)) 0 0 [], mpO ps]) := by
  refine sm_of HE true (by kernel_rfl) ?_
  unfold dkB mpO cB
  conv => whnf
  rw [look_pair]
  rotate_left
  · rfl
  · rfl
  · rfl
  conv => whnf
  exact ⟨rfl, rfl⟩
theorem lanes31B (S N : List Int) (A ps : List (Int × Int)) (t : Tb) (s : Nat) :
    Sm Tryz.prog E 31 [.ptr 0 0 0 92, .d (.int .i64 s)] [dkB S N A 1 2 3 t, .row (.ds (encI S)) 0 0 [], .row (.ds (encI N)) 0 0 [], mpO ps] (fun v h => v = .func 50 [] [.ptr 4 0 0 1, .ptr 5 0 0 1, .ptr 6 0 0 1] ∧ h = [dkB S N A 1 2 3 t, .row (.ds (encI S)) 0 0 [], .row (.ds (encI N)) 0 0 [], mpO ps] ++ [.row (.vs [.ptr 0 0 0 92]) 0 0 [], .row (.vs [.func 48 [.ptr 0 0 0 92] []]) 0 0 [], .row (.ds [.int .i64 s]) 0 0 []]) := by
  refine sm_of HE true (by kernel_rfl) ?_
  unfold dkB mpO
  conv => whnf
  exact ⟨rfl, rfl⟩
noncomputable def hp50B (S N : List Int) (A ps : List (Int × Int)) (lane i : Nat) (t : Tb) (b : Bool) : List O := [.loop ⟨(match b with | true => .done | false => .ready), (match b with | true => some .ret | false => none), 47, 130, [(1, .ptr 2 0 0 1), (2, .ptr 7 0 0 1), (3, .ptr 8 0 0 1), (4, .ptr 9 0 0 1), (5, .ptr 10 0 0 1), (6, .d .unk), (83, .d .undef)], .unk, [83], code47.1, code47.2, 1⟩, .dfr,
  .row (.vs [.ptr 3 0 0 92]) 0 0 [], dkB S N A 4 5 6 t, .row (.ds (encI S)) 0 0 [], .row (.ds (encI N)) 0 0 [], mpO ps, .row (.vs [.func 47 [] [.ptr 2 0 0 1, .ptr 7 0 0 1]]) 0 0 [], .row (.ds [.int .i64 lane]) 0 0 [], .row (.ds [.bool b]) 0 0 [], .row (.ds [.int .i64 i]) 0 0 [], .row (.vs [.ptr 3 0 0 92]) 0 0 [], .row (.vs [.func 48 [.ptr 3 0 0 92] []]) 0 0 [], .row (.ds [.int .i64 i]) 0 0 []]
def FindPB (S N : List Int) (A ps : List (Int × Int)) (lane : Nat) (a : St) (v : V) (h : List O) : Prop := ∃ c : Tb, c.Ok S ps ∧ h = hfB S N A ps c ∧ ((v = .d (.bool true) ∧ Got S.length (fn S) (cP ps) lane a c.st) ∨ (v = .d (.bool false) ∧ Nay S.length (fn S) (cP ps) lane S.length a c.st))
theorem each50B {S N : List Int} {A ps : List (Int × Int)} {lane i B : Nat} (h6 : S.length ≤ 6) (hN : N.length = S.length) (h8 : ∀ s, s < S.length → fn S s ≤ 8) (hl : lane < S.length) (hi : i < S.length) (hci : cP ps i lane) {a : St}
    (IH : ∀ (c : Tb) (q : Nat), c.Ok S ps → q < S.length → unm c S.length < B → Sm Tryz.prog E 47 [.d (.int .i64 q), .ptr 0 0 0 1, .ptr 5 0 0 1] (hfB S N A ps c) (FindPB S N A ps q c.st)) {t : Tb} (O : t.Ok S ps) (hB : unm t S.length < B) (M : Mid S.length (fn S) (cP ps) lane i 0 a t.st) :
    Sm Tryz.prog E 50 [.yield 0, .ptr 11 0 0 1, .ptr 12 0 0 1, .ptr 13 0 0 1] (hp50B S N A ps lane i t false) (fun v h => v = .d (.tuple []) ∧ ∃ c : Tb, c.Ok S ps ∧ ((h = hp50B S N A ps lane i c false ∧ Mid S.length (fn S) (cP ps) lane i S.length a c.st) ∨ (h = hp50B S N A ps lane i c true ∧ Got S.length (fn S) (cP ps) lane a c.st))) := by
  refine sm_of HE true (by kernel_rfl) ?_
  unfold hp50B dkB mpO
  conv => whnf
  refine loops_by (fun x : Nat × Tb => match x with | (q, t) => ⟨26, [(0, .yield 0), (2, .ptr 12 0 0 1), (3, .ptr 13 0 0 1), (11, .d (.int .i64 N.length)), (12, .d (.int .i64 q))], .unk, hp50B S N A ps lane i t false, []⟩)
    (fun x => x.1 ≤ S.length ∧ x.2.Ok S ps ∧ unm x.2 S.length < B ∧ Mid S.length (fn S) (cP ps) lane i x.1 a x.2.st) (fun x => S.length - x.1) (0, t) ⟨Nat.zero_le _, O, hB, M⟩ ?_
  rintro f ⟨q, t⟩ ⟨hq, O, hB, M⟩ ih
  simp only at hq O hB M
  unfold hp50B dkB mpO
  conv => whnf
  cases h1 : ltI (q : Int) (N.length : Int)
  case false =>
    have h1 := ltI_f h1
    obtain rfl : q = S.length := by omega
    conv => whnf
    exact ⟨rfl, t, O, .inl ⟨rfl, M⟩⟩
  have h1 := ltI_t h1
  have hqS : q < S.length := by omega
  have L := O.ls
  conv => whnf
  refine Sm.mono (can48B S N A ps t i q) ?_
  rintro v h ⟨rfl, rfl⟩
  cases hc : cB ps i q
  case false =>
    unfold dkB mpO
    conv => whnf
    rw [wrap_succ (by omega)]
    refine ih (q + 1, t) ⟨by simp only; omega, O, hB, M.skip fun _ h => ?_⟩ (by simp only; omega)
    obtain ⟨F, P⟩ := O.part
    rw [← M.eq i q hi hqS] at h
    exact absurd (P.can i q hi hqS h) (cB_f hc)
  unfold dkB mpO
  conv => whnf
  refine sy_of HE ?_
  conv => whnf
  cases h2 : eqI (q : Int) (lane : Int)
  case true =>
    have h2 := eqI_t h2
    obtain rfl : q = lane := by omega
    conv => whnf
    rw [wrap_succ (by omega)]
    exact ih (q + 1, t) ⟨by simp only; omega, O, hB, M.skip fun _ _ => M.own⟩ (by simp only; omega)
  have h2 := eqI_f h2
  have hne : q ≠ lane := fun h => h2 (by omega)
  have hh := at_hit L (s := i) (l := q) (by omega) (by omega)
  conv => whnf
  rw [blt_t (i := i) (n := 8) (by omega)]
  conv => whnf
  rw [blt_t (i := q) (n := 8) (by omega)]
  conv => whnf
  rw [ble_t (i := 0 + 4 + i * 8 + q * 1 + 1) (n := 92) (by show 4 + i * 8 + q * 1 + 1 ≤ 92; omega)]
  conv => whnf
  rw [blt_mx (by show 4 ≤ 4 + i * 8 + q * 1; omega)]
  conv => whnf
  rw [Tb.at_h (i := i * 8 + q) L hh (by show 4 + i * 8 + q * 1 - 4 = _; omega)]
  conv => whnf
  cases h3 : ltI 0 (t.st.h i q)
  case false =>
    have h3 := ltI_f h3
    conv => whnf
    rw [wrap_succ (by omega)]
    refine ih (q + 1, t) ⟨by simp only; omega, O, hB, M.skip fun _ h => ?_⟩ (by simp only; omega)
    rw [← M.eq i q hi hqS] at h
    omega
  have h3 := ltI_t h3
  conv => whnf
  refine Sm.mono (IH t q O hqS hB) ?_
  rintro v h ⟨d, Od, rfl, ⟨rfl, hgot⟩ | ⟨rfl, hnay⟩⟩
  rotate_left
  · unfold hfB
    unfold dkB mpO
    conv => whnf
    rw [wrap_succ (by omega)]
    exact ih (q + 1, d) ⟨by simp only; omega, Od, Nat.lt_of_le_of_lt (unm_le hnay.up0) hB, M.no hnay⟩ (by simp only; omega)
  unfold hfB
  unfold dkB mpO
  have Ld := Od.ls
  have hy := at_hit Ld (s := i) (l := q) (by omega) (by omega)
  have hyb := Od.hit h8 hi hqS
  have hzb := Od.hit h8 hi hl
  obtain ⟨F, P⟩ := O.part
  have hyp : d.st.h i q = t.st.h i q := hgot.same i hi M.here q hqS
  obtain ⟨Om, hm⟩ := Od.move (by omega) (hgot.part F P) hi hqS hl hne hci (by rw [hyp]; exact h3)
  have hz : (d.setH i q (d.st.h i q - 1)).H[i * 8 + lane]? = some (d.st.h i lane) := by
    show (d.H.set (i * 8 + q) _)[i * 8 + lane]? = _
    rw [List.getElem?_set, if_neg (by omega)]
    exact at_hit Ld (by omega) (by omega)
  have Le := Ld.setH i q (d.st.h i q - 1)
  conv => whnf
  rw [blt_t (i := i) (n := 8) (by omega)]
  conv => whnf
  rw [blt_t (i := q) (n := 8) (by omega)]
  conv => whnf
  rw [ble_t (i := 0 + 4 + i * 8 + q * 1 + 1) (n := 92) (by show 4 + i * 8 + q * 1 + 1 ≤ 92; omega)]
  conv => whnf
  rw [blt_mx (by show 4 ≤ 4 + i * 8 + q * 1; omega)]
  conv => whnf
  rw [Tb.at_h (i := i * 8 + q) Ld hy (by show 4 + i * 8 + q * 1 - 4 = _; omega)]
  conv => whnf
  rw [wrap_i64 (n := d.st.h i q - 1) (by omega) (by omega)]
  conv => whnf
  rw [blt_t (i := i) (n := 8) (by omega)]
  conv => whnf
  rw [blt_t (i := q) (n := 8) (by omega)]
  conv => whnf
  rw [ble_t (i := 0 + 4 + i * 8 + q * 1 + 1) (n := 92) (by show 4 + i * 8 + q * 1 + 1 ≤ 92; omega)]
  conv => whnf
  rw [ble_mx Ld (by show 4 + i * 8 + q * 1 + 1 ≤ 92; omega)]
  conv => whnf
  rw [sH (i := i) (l := q) (x := d.st.h i q - 1) Ld (by omega) (by omega) (by show 4 + i * 8 + q * 1 = _; omega) (by rfl)]
  conv => whnf
  rw [blt_t (i := i) (n := 8) (by omega)]
  conv => whnf
  rw [blt_t (i := lane) (n := 8) (by omega)]
  conv => whnf
  rw [ble_t (i := 0 + 4 + i * 8 + lane * 1 + 1) (n := 92) (by show 4 + i * 8 + lane * 1 + 1 ≤ 92; omega)]
  conv => whnf
  rw [blt_mx (by show 4 ≤ 4 + i * 8 + lane * 1; omega)]
  conv => whnf
  rw [Tb.at_h (i := i * 8 + lane) Le hz (by show 4 + i * 8 + lane * 1 - 4 = _; omega)]
  conv => whnf
  rw [wrap_i64 (n := d.st.h i lane + 1) (by omega) (by omega)]
  conv => whnf
  rw [blt_t (i := i) (n := 8) (by omega)]
  conv => whnf
  rw [blt_t (i := lane) (n := 8) (by omega)]
  conv => whnf
  rw [ble_t (i := 0 + 4 + i * 8 + lane * 1 + 1) (n := 92) (by show 4 + i * 8 + lane * 1 + 1 ≤ 92; omega)]
  conv => whnf
  rw [ble_mx Le (by show 4 + i * 8 + lane * 1 + 1 ≤ 92; omega)]
  conv => whnf
  rw [sH (i := i) (l := lane) (x := d.st.h i lane + 1) Le (by omega) (by omega) (by show 4 + i * 8 + lane * 1 = _; omega) (by rfl)]
  conv => whnf
  refine ⟨rfl, _, Om, .inr ⟨rfl, ?_⟩⟩
  exact M.got hgot hi hqS hl hne hci (by rw [← M.eq i q hi hqS]; exact h3) hm
theorem find47B {S N : List Int} {A ps : List (Int × Int)} (h6 : S.length ≤ 6) (hN : N.length = S.length) (h8 : ∀ s, s < S.length → fn S s ≤ 8) : ∀ (B : Nat) (t : Tb) (lane : Nat), t.Ok S ps → lane < S.length → unm t S.length < B → Sm Tryz.prog E 47 [.d (.int .i64 lane), .ptr 0 0 0 1, .ptr 5 0 0 1] (hfB S N A ps t) (FindPB S N A ps lane t.st)
  | 0, _, _, _, _, h => absurd h (by omega)
  | B + 1, t, lane, O, hl, hB => by
    have IH := find47B (S := S) (N := N) (A := A) (ps := ps) h6 hN h8 B
    have L := O.ls
    refine sm_of HE true (by kernel_rfl) ?_
    unfold hfB
    unfold dkB mpO
    conv => whnf
    rw [blt_t (i := lane) (n := 8) (by omega)]
    conv => whnf
    rw [ble_t (i := 0 + 76 + 1 * 8 + lane * 1 + 1) (n := 92) (by show 84 + lane * 1 + 1 ≤ 92; omega)]
    conv => whnf
    rw [ble_mx L (by show 84 + lane * 1 + 1 ≤ 92; omega)]
    conv => whnf
    rw [sM1 (i := lane) L (by omega) (by show 84 + lane * 1 = _; omega) (by rfl)]
    conv => whnf
    refine loops_by (fun x : Nat × Nat × Tb => match x with | (i, k, c) => ⟨130, [(1, .ptr 0 0 0 1), (2, .ptr 5 0 0 1), (3, .ptr (6 + k) 0 0 1), (4, .ptr (7 + k) 0 0 1), (18, .d (.int .i64 S.length)), (19, .d (.int .i64 i)), (83, .d .undef)], .unk, hfB S N A ps c ++ (List.replicate k .dfr ++ [.row (.ds [.int .i64 lane]) 0 0 [], .row (.ds [.bool false]) 0 0 []]), List.range' 6 k⟩)
      (fun x => x.1 ≤ S.length ∧ x.2.1 ≤ x.1 ∧ x.2.2.Ok S ps ∧ Nay S.length (fn S) (cP ps) lane x.1 t.st x.2.2.st) (fun x => S.length - x.1) (0, 0, t.mark1 lane) ⟨Nat.zero_le _, Nat.le_refl _, O.mark1 lane, by rw [st_mark1 L (by omega)]; exact Nay.start t.st lane⟩ ?_
    rintro f ⟨i, k, c⟩ ⟨hi, hk, O, N0⟩ ih
    simp only at hi hk O N0
    have L := O.ls
    by_cases hiS : i < S.length
    · obtain ⟨m0, hm0⟩ := at_some (l := c.M0) (i := i) (by rw [L.m0]; omega)
      have hu := O.us i hiS
      have hub := O.used h8 hiS
      have hs := at_fn hiS
      have hs8 := h8 i hiS
      have he0 : sumR S.length (fun l => c.st.h i l) = sumR S.length (fun l => t.st.h i l) := sumR_congr fun l hl2 => N0.eq i l hiS hl2
      have O1 := O.mark0 i
      have L1 := O1.ls
      have hst := st_mark0 L (i := i) (by omega)
      have hk6 : k = 0 ∨ k = 1 ∨ k = 2 ∨ k = 3 ∨ k = 4 ∨ k = 5 := by omega
      rcases hk6 with rfl | rfl | rfl | rfl | rfl | rfl
      · unfold hfB
        unfold dkB mpO
        conv => whnf
        rw [ltI_tt (a := (i : Int)) (b := (S.length : Int)) (by omega)]
        conv => whnf
        rw [blt_t (i := i) (n := 8) (by omega)]
        conv => whnf
        rw [ble_t (i := 0 + 76 + 0 * 8 + i * 1 + 1) (n := 92) (by show 76 + i * 1 + 1 ≤ 92; omega)]
        conv => whnf
        rw [blt_mx (by show 4 ≤ 76 + i * 1; omega)]
        conv => whnf
        rw [Tb.at_m0 (i := i) L hm0 (by show 76 + i * 1 - 4 = _; omega)]
        conv => whnf
        cases m0
        case true =>
          conv => whnf
          rw [wrap_succ (by omega)]
          exact ih (i + 1, 0, c) ⟨by simp only; omega, by simp only; omega, O, N0.skip fun _ => hm0⟩ (by simp only; omega)
        have hnm : ¬ c.st.m0 i := fun h => by rw [show c.M0[i]? = some true from h] at hm0; cases hm0
        conv => whnf
        refine Sm.mono (can48B S N A ps c i lane) ?_
        rintro v h ⟨rfl, rfl⟩
        cases hc : cB ps i lane
        case false =>
          unfold dkB mpO
          conv => whnf
          rw [wrap_succ (by omega)]
          exact ih (i + 1, 0, c) ⟨by simp only; omega, by simp only; omega, O, N0.skip fun h => absurd h (cB_f hc)⟩ (by simp only; omega)
        have hc := cB_t hc
        unfold dkB mpO
        conv => whnf
        rw [blt_t (i := i) (n := 8) (by omega)]
        conv => whnf
        rw [ble_t (i := 0 + 76 + 0 * 8 + i * 1 + 1) (n := 92) (by show 76 + i * 1 + 1 ≤ 92; omega)]
        conv => whnf
        rw [ble_mx L (by show 76 + i * 1 + 1 ≤ 92; omega)]
        conv => whnf
        rw [sM0 (i := i) L (by omega) (by show 76 + i * 1 = _; omega) (by rfl)]
        conv => whnf
        rw [blt_t (i := i) (n := 8) (by omega)]
        conv => whnf
        rw [ble_t (i := 0 + 68 + i * 1 + 1) (n := 92) (by show 68 + i * 1 + 1 ≤ 92; omega)]
        conv => whnf
        rw [blt_mx (by show 4 ≤ 68 + i * 1; omega)]
        conv => whnf
        rw [Tb.at_u (i := i) L1 hu (by show 68 + i * 1 - 4 = _; omega)]
        conv => whnf
        rw [blt_t (i := i) (n := S.length) (by omega)]
        conv => whnf
        rw [ble_t (i := 0 + i * 1 + 1) (Nat.le_refl _)]
        conv => whnf
        rw [encI_get0 hs]
        conv => whnf
        cases h2 : ltI (sumR S.length fun l => c.st.h i l) (fn S i)
        case true =>
          have h2 := ltI_t h2
          have L2 := L1.incU i (sumR S.length (fun l => c.st.h i l) + 1)
          have hx : ((c.mark0 i).incU i (sumR S.length (fun l => c.st.h i l) + 1)).H[i * 8 + lane]? = some (c.st.h i lane) := at_hit L (by omega) (by omega)
          have hxb := O.hit h8 hiS hl
          conv => whnf
          rw [blt_t (i := i) (n := 8) (by omega)]
          conv => whnf
          rw [ble_t (i := 0 + 68 + i * 1 + 1) (n := 92) (by show 68 + i * 1 + 1 ≤ 92; omega)]
          conv => whnf
          rw [blt_mx (by show 4 ≤ 68 + i * 1; omega)]
          conv => whnf
          rw [Tb.at_u (i := i) L1 hu (by show 68 + i * 1 - 4 = _; omega)]
          conv => whnf
          rw [wrap_i64 (n := (sumR S.length fun l => c.st.h i l) + 1) (by omega) (by omega)]
          conv => whnf
          rw [blt_t (i := i) (n := 8) (by omega)]
          conv => whnf
          rw [ble_t (i := 0 + 68 + i * 1 + 1) (n := 92) (by show 68 + i * 1 + 1 ≤ 92; omega)]
          conv => whnf
          rw [ble_mx L1 (by show 68 + i * 1 + 1 ≤ 92; omega)]
          conv => whnf
          rw [sU (i := i) (x := (sumR S.length fun l => c.st.h i l) + 1) L1 (by omega) (by show 68 + i * 1 = _; omega) (by rfl)]
          conv => whnf
          rw [blt_t (i := i) (n := 8) (by omega)]
          conv => whnf
          rw [blt_t (i := lane) (n := 8) (by omega)]
          conv => whnf
          rw [ble_t (i := 0 + 4 + i * 8 + lane * 1 + 1) (n := 92) (by show 4 + i * 8 + lane * 1 + 1 ≤ 92; omega)]
          conv => whnf
          rw [blt_mx (by show 4 ≤ 4 + i * 8 + lane * 1; omega)]
          conv => whnf
          rw [Tb.at_h (i := i * 8 + lane) L2 hx (by show 4 + i * 8 + lane * 1 - 4 = _; omega)]
          conv => whnf
          rw [wrap_i64 (n := c.st.h i lane + 1) (by omega) (by omega)]
          conv => whnf
          rw [blt_t (i := i) (n := 8) (by omega)]
          conv => whnf
          rw [blt_t (i := lane) (n := 8) (by omega)]
          conv => whnf
          rw [ble_t (i := 0 + 4 + i * 8 + lane * 1 + 1) (n := 92) (by show 4 + i * 8 + lane * 1 + 1 ≤ 92; omega)]
          conv => whnf
          rw [ble_mx L2 (by show 4 + i * 8 + lane * 1 + 1 ≤ 92; omega)]
          conv => whnf
          rw [sH (i := i) (l := lane) (x := c.st.h i lane + 1) L2 (by omega) (by omega) (by show 4 + i * 8 + lane * 1 = _; omega) (by rfl)]
          conv => whnf
          have Of := O1.inc (by omega) hiS hl hc h2
          refine ⟨_, Of, rfl, .inl ⟨rfl, ?_⟩⟩
          refine N0.hit hnm hiS hl hc (by rw [← he0]; exact h2) fun s l h3 h4 => ?_
          exact h_setH L2 (by omega) (by omega) _ (by omega)
        have h2 := ltI_f h2
        have M0 := N0.enter (i := i) hnm (by rw [← he0]; exact h2)
        rw [← hst] at M0
        conv => whnf
        refine Sm.mono (lanes31B S N A ps (c.mark0 i) i) ?_
        rintro v h ⟨rfl, rfl⟩
        unfold dkB mpO
        conv => whnf
        refine Sm.mono (each50B (B := B) h6 hN h8 hl hiS hc IH O1 (Nat.lt_of_lt_of_le (unm_lt (i := i) (fun s h => by rw [hst]; exact .inl (N0.up0 s h)) hiS M0.new M0.here) (by omega)) M0) ?_
        rintro v h ⟨rfl, d, Od, ⟨rfl, Md⟩ | ⟨rfl, Gd⟩⟩
        · unfold hp50B
          unfold dkB mpO
          conv => whnf
          rw [wrap_succ (by omega)]
          exact ih (i + 1, 1, d) ⟨by simp only; omega, by simp only; omega, Od, Md.done⟩ (by simp only; omega)
        · unfold hp50B
          unfold dkB mpO
          conv => whnf
          exact ⟨d, Od, rfl, .inl ⟨rfl, Gd⟩⟩
      · unfold hfB
        unfold dkB mpO
        conv => whnf
        rw [ltI_tt (a := (i : Int)) (b := (S.length : Int)) (by omega)]
        conv => whnf
        rw [blt_t (i := i) (n := 8) (by omega)]
        conv => whnf
        rw [ble_t (i := 0 + 76 + 0 * 8 + i * 1 + 1) (n := 92) (by show 76 + i * 1 + 1 ≤ 92; omega)]
        conv => whnf
        rw [blt_mx (by show 4 ≤ 76 + i * 1; omega)]
        conv => whnf
        rw [Tb.at_m0 (i := i) L hm0 (by show 76 + i * 1 - 4 = _; omega)]
        conv => whnf
        cases m0
        case true =>
          conv => whnf
          rw [wrap_succ (by omega)]
          exact ih (i + 1, 1, c) ⟨by simp only; omega, by simp only; omega, O, N0.skip fun _ => hm0⟩ (by simp only; omega)
        have hnm : ¬ c.st.m0 i := fun h => by rw [show c.M0[i]? = some true from h] at hm0; cases hm0
        conv => whnf
        refine Sm.mono (can48B S N A ps c i lane) ?_
        rintro v h ⟨rfl, rfl⟩
        cases hc : cB ps i lane
        case false =>
          unfold dkB mpO
          conv => whnf
          rw [wrap_succ (by omega)]
          exact ih (i + 1, 1, c) ⟨by simp only; omega, by simp only; omega, O, N0.skip fun h => absurd h (cB_f hc)⟩ (by simp only; omega)
        have hc := cB_t hc
        unfold dkB mpO
        conv => whnf
        rw [blt_t (i := i) (n := 8) (by omega)]
        conv => whnf
        rw [ble_t (i := 0 + 76 + 0 * 8 + i * 1 + 1) (n := 92) (by show 76 + i * 1 + 1 ≤ 92; omega)]
        conv => whnf
        rw [ble_mx L (by show 76 + i * 1 + 1 ≤ 92; omega)]
        conv => whnf
        rw [sM0 (i := i) L (by omega) (by show 76 + i * 1 = _; omega) (by rfl)]
        conv => whnf
        rw [blt_t (i := i) (n := 8) (by omega)]
        conv => whnf
        rw [ble_t (i := 0 + 68 + i * 1 + 1) (n := 92) (by show 68 + i * 1 + 1 ≤ 92; omega)]
        conv => whnf
        rw [blt_mx (by show 4 ≤ 68 + i * 1; omega)]
        conv => whnf
        rw [Tb.at_u (i := i) L1 hu (by show 68 + i * 1 - 4 = _; omega)]
        conv => whnf
        rw [blt_t (i := i) (n := S.length) (by omega)]
        conv => whnf
        rw [ble_t (i := 0 + i * 1 + 1) (Nat.le_refl _)]
        conv => whnf
        rw [encI_get0 hs]
        conv => whnf
        cases h2 : ltI (sumR S.length fun l => c.st.h i l) (fn S i)
        case true =>
          have h2 := ltI_t h2
          have L2 := L1.incU i (sumR S.length (fun l => c.st.h i l) + 1)
          have hx : ((c.mark0 i).incU i (sumR S.length (fun l => c.st.h i l) + 1)).H[i * 8 + lane]? = some (c.st.h i lane) := at_hit L (by omega) (by omega)
          have hxb := O.hit h8 hiS hl
          conv => whnf
          rw [blt_t (i := i) (n := 8) (by omega)]
          conv => whnf
          rw [ble_t (i := 0 + 68 + i * 1 + 1) (n := 92) (by show 68 + i * 1 + 1 ≤ 92; omega)]
          conv => whnf
          rw [blt_mx (by show 4 ≤ 68 + i * 1; omega)]
          conv => whnf
          rw [Tb.at_u (i := i) L1 hu (by show 68 + i * 1 - 4 = _; omega)]
          conv => whnf
          rw [wrap_i64 (n := (sumR S.length fun l => c.st.h i l) + 1) (by omega) (by omega)]
          conv => whnf
          rw [blt_t (i := i) (n := 8) (by omega)]
          conv => whnf
          rw [ble_t (i := 0 + 68 + i * 1 + 1) (n := 92) (by show 68 + i * 1 + 1 ≤ 92; omega)]
          conv => whnf
          rw [ble_mx L1 (by show 68 + i * 1 + 1 ≤ 92; omega)]
          conv => whnf
          rw [sU (i := i) (x := (sumR S.length fun l => c.st.h i l) + 1) L1 (by omega) (by show 68 + i * 1 = _; omega) (by rfl)]
          conv => whnf
          rw [blt_t (i := i) (n := 8) (by omega)]
          conv => whnf
          rw [blt_t (i := lane) (n := 8) (by omega)]
          conv => whnf
          rw [ble_t (i := 0 + 4 + i * 8 + lane * 1 + 1) (n := 92) (by show 4 + i * 8 + lane * 1 + 1 ≤ 92; omega)]
          conv => whnf
          rw [blt_mx (by show 4 ≤ 4 + i * 8 + lane * 1; omega)]
          conv => whnf
          rw [Tb.at_h (i := i * 8 + lane) L2 hx (by show 4 + i * 8 + lane * 1 - 4 = _; omega)]
          conv => whnf
          rw [wrap_i64 (n := c.st.h i lane + 1) (by omega) (by omega)]
          conv => whnf
          rw [blt_t (i := i) (n := 8) (by omega)]
          conv => whnf
          rw [blt_t (i := lane) (n := 8) (by omega)]
          conv => whnf
          rw [ble_t (i := 0 + 4 + i * 8 + lane * 1 + 1) (n := 92) (by show 4 + i * 8 + lane * 1 + 1 ≤ 92; omega)]
          conv => whnf
          rw [ble_mx L2 (by show 4 + i * 8 + lane * 1 + 1 ≤ 92; omega)]
          conv => whnf
          rw [sH (i := i) (l := lane) (x := c.st.h i lane + 1) L2 (by omega) (by omega) (by show 4 + i * 8 + lane * 1 = _; omega) (by rfl)]
          conv => whnf
          have Of := O1.inc (by omega) hiS hl hc h2
          refine ⟨_, Of, rfl, .inl ⟨rfl, ?_⟩⟩
          refine N0.hit hnm hiS hl hc (by rw [← he0]; exact h2) fun s l h3 h4 => ?_
          exact h_setH L2 (by omega) (by omega) _ (by omega)
        have h2 := ltI_f h2
        have M0 := N0.enter (i := i) hnm (by rw [← he0]; exact h2)
        rw [← hst] at M0
        conv => whnf
        refine Sm.mono (lanes31B S N A ps (c.mark0 i) i) ?_
        rintro v h ⟨rfl, rfl⟩
        unfold dkB mpO
        conv => whnf
        refine Sm.mono (each50B (B := B) h6 hN h8 hl hiS hc IH O1 (Nat.lt_of_lt_of_le (unm_lt (i := i) (fun s h => by rw [hst]; exact .inl (N0.up0 s h)) hiS M0.new M0.here) (by omega)) M0) ?_
        rintro v h ⟨rfl, d, Od, ⟨rfl, Md⟩ | ⟨rfl, Gd⟩⟩
        · unfold hp50B
          unfold dkB mpO
          conv => whnf
          rw [wrap_succ (by omega)]
          exact ih (i + 1, 2, d) ⟨by simp only; omega, by simp only; omega, Od, Md.done⟩ (by simp only; omega)
        · unfold hp50B
          unfold dkB mpO
          conv => whnf
          exact ⟨d, Od, rfl, .inl ⟨rfl, Gd⟩⟩
      · unfold hfB
        unfold dkB mpO
        conv => whnf
        rw [ltI_tt (a := (i : Int)) (b := (S.length : Int)) (by omega)]
        conv => whnf
        rw [blt_t (i := i) (n := 8) (by omega)]
        conv => whnf
        rw [ble_t (i := 0 + 76 + 0 * 8 + i * 1 + 1) (n := 92) (by show 76 + i * 1 + 1 ≤ 92; omega)]
        conv => whnf
        rw [blt_mx (by show 4 ≤ 76 + i * 1; omega)]
        conv => whnf
        rw [Tb.at_m0 (i := i) L hm0 (by show 76 + i * 1 - 4 = _; omega)]
        conv => whnf
        cases m0
        case true =>
          conv => whnf
          rw [wrap_succ (by omega)]
          exact ih (i + 1, 2, c) ⟨by simp only; omega, by simp only; omega, O, N0.skip fun _ => hm0⟩ (by simp only; omega)
        have hnm : ¬ c.st.m0 i := fun h => by rw [show c.M0[i]? = some true from h] at hm0; cases hm0
        conv => whnf
        refine Sm.mono (can48B S N A ps c i lane) ?_
        rintro v h ⟨rfl, rfl⟩
        cases hc : cB ps i lane
        case false =>
          unfold dkB mpO
          conv => whnf
          rw [wrap_succ (by omega)]
          exact ih (i + 1, 2, c) ⟨by simp only; omega, by simp only; omega, O, N0.skip fun h => absurd h (cB_f hc)⟩ (by simp only; omega)
        have hc := cB_t hc
        unfold dkB mpO
        conv => whnf
        rw [blt_t (i := i) (n := 8) (by omega)]
        conv => whnf
        rw [ble_t (i := 0 + 76 + 0 * 8 + i * 1 + 1) (n := 92) (by show 76 + i * 1 + 1 ≤ 92; omega)]
        conv => whnf
        rw [ble_mx L (by show 76 + i * 1 + 1 ≤ 92; omega)]
        conv => whnf
        rw [sM0 (i := i) L (by omega) (by show 76 + i * 1 = _; omega) (by rfl)]
        conv => whnf
        rw [blt_t (i := i) (n := 8) (by omega)]
        conv => whnf
        rw [ble_t (i := 0 + 68 + i * 1 + 1) (n := 92) (by show 68 + i * 1 + 1 ≤ 92; omega)]
        conv => whnf
        rw [blt_mx (by show 4 ≤ 68 + i * 1; omega)]
        conv => whnf
        rw [Tb.at_u (i := i) L1 hu (by show 68 + i * 1 - 4 = _; omega)]
        conv => whnf
        rw [blt_t (i := i) (n := S.length) (by omega)]
        conv => whnf
        rw [ble_t (i := 0 + i * 1 + 1) (Nat.le_refl _)]
        conv => whnf
        rw [encI_get0 hs]
        conv => whnf
        cases h2 : ltI (sumR S.length fun l => c.st.h i l) (fn S i)
        case true =>
          have h2 := ltI_t h2
          have L2 := L1.incU i (sumR S.length (fun l => c.st.h i l) + 1)
          have hx : ((c.mark0 i).incU i (sumR S.length (fun l => c.st.h i l) + 1)).H[i * 8 + lane]? = some (c.st.h i lane) := at_hit L (by omega) (by omega)
          have hxb := O.hit h8 hiS hl
          conv => whnf
          rw [blt_t (i := i) (n := 8) (by omega)]
          conv => whnf
          rw [ble_t (i := 0 + 68 + i * 1 + 1) (n := 92) (by show 68 + i * 1 + 1 ≤ 92; omega)]
          conv => whnf
          rw [blt_mx (by show 4 ≤ 68 + i * 1; omega)]
          conv => whnf
          rw [Tb.at_u (i := i) L1 hu (by show 68 + i * 1 - 4 = _; omega)]
          conv => whnf
          rw [wrap_i64 (n := (sumR S.length fun l => c.st.h i l) + 1) (by omega) (by omega)]
          conv => whnf
          rw [blt_t (i := i) (n := 8) (by omega)]
          conv => whnf
          rw [ble_t (i := 0 + 68 + i * 1 + 1) (n := 92) (by show 68 + i * 1 + 1 ≤ 92; omega)]
          conv => whnf
          rw [ble_mx L1 (by show 68 + i * 1 + 1 ≤ 92; omega)]
          conv => whnf
          rw [sU (i := i) (x := (sumR S.length fun l => c.st.h i l) + 1) L1 (by omega) (by show 68 + i * 1 = _; omega) (by rfl)]
          conv => whnf
          rw [blt_t (i := i) (n := 8) (by omega)]
          conv => whnf
          rw [blt_t (i := lane) (n := 8) (by omega)]
          conv => whnf
          rw [ble_t (i := 0 + 4 + i * 8 + lane * 1 + 1) (n := 92) (by show 4 + i * 8 + lane * 1 + 1 ≤ 92; omega)]
          conv => whnf
          rw [blt_mx (by show 4 ≤ 4 + i * 8 + lane * 1; omega)]
          conv => whnf
          rw [Tb.at_h (i := i * 8 + lane) L2 hx (by show 4 + i * 8 + lane * 1 - 4 = _; omega)]
          conv => whnf
          rw [wrap_i64 (n := c.st.h i lane + 1) (by omega) (by omega)]
          conv => whnf
          rw [blt_t (i := i) (n := 8) (by omega)]
          conv => whnf
          rw [blt_t (i := lane) (n := 8) (by omega)]
          conv => whnf
          rw [ble_t (i := 0 + 4 + i * 8 + lane * 1 + 1) (n := 92) (by show 4 + i * 8 + lane * 1 + 1 ≤ 92; omega)]
          conv => whnf
          rw [ble_mx L2 (by show 4 + i * 8 + lane * 1 + 1 ≤ 92; omega)]
          conv => whnf
          rw [sH (i := i) (l := lane) (x := c.st.h i lane + 1) L2 (by omega) (by omega) (by show 4 + i * 8 + lane * 1 = _; omega) (by rfl)]
          conv => whnf
          have Of := O1.inc (by omega) hiS hl hc h2
          refine ⟨_, Of, rfl, .inl ⟨rfl, ?_⟩⟩
          refine N0.hit hnm hiS hl hc (by rw [← he0]; exact h2) fun s l h3 h4 => ?_
          exact h_setH L2 (by omega) (by omega) _ (by omega)
        have h2 := ltI_f h2
        have M0 := N0.enter (i := i) hnm (by rw [← he0]; exact h2)
        rw [← hst] at M0
        conv => whnf
        refine Sm.mono (lanes31B S N A ps (c.mark0 i) i) ?_
        rintro v h ⟨rfl, rfl⟩
        unfold dkB mpO
        conv => whnf
        refine Sm.mono (each50B (B := B) h6 hN h8 hl hiS hc IH O1 (Nat.lt_of_lt_of_le (unm_lt (i := i) (fun s h => by rw [hst]; exact .inl (N0.up0 s h)) hiS M0.new M0.here) (by omega)) M0) ?_
        rintro v h ⟨rfl, d, Od, ⟨rfl, Md⟩ | ⟨rfl, Gd⟩⟩
        · unfold hp50B
          unfold dkB mpO
          conv => whnf
          rw [wrap_succ (by omega)]
          exact ih (i + 1, 3, d) ⟨by simp only; omega, by simp only; omega, Od, Md.done⟩ (by simp only; omega)
        · unfold hp50B
          unfold dkB mpO
          conv => whnf
          exact ⟨d, Od, rfl, .inl ⟨rfl, Gd⟩⟩
      · unfold hfB
        unfold dkB mpO
        conv => whnf
        rw [ltI_tt (a := (i : Int)) (b := (S.length : Int)) (by omega)]
        conv => whnf
        rw [blt_t (i := i) (n := 8) (by omega)]
        conv => whnf
        rw [ble_t (i := 0 + 76 + 0 * 8 + i * 1 + 1) (n := 92) (by show 76 + i * 1 + 1 ≤ 92; omega)]
        conv => whnf
        rw [blt_mx (by show 4 ≤ 76 + i * 1; omega)]
        conv => whnf
        rw [Tb.at_m0 (i := i) L hm0 (by show 76 + i * 1 - 4 = _; omega)]
        conv => whnf
        cases m0
        case true =>
          conv => whnf
          rw [wrap_succ (by omega)]
          exact ih (i + 1, 3, c) ⟨by simp only; omega, by simp only; omega, O, N0.skip fun _ => hm0⟩ (by simp only; omega)
        have hnm : ¬ c.st.m0 i := fun h => by rw [show c.M0[i]? = some true from h] at hm0; cases hm0
        conv => whnf
        refine Sm.mono (can48B S N A ps c i lane) ?_
        rintro v h ⟨rfl, rfl⟩
        cases hc : cB ps i lane
        case false =>
          unfold dkB mpO
          conv => whnf
          rw [wrap_succ (by omega)]
          exact ih (i + 1, 3, c) ⟨by simp only; omega, by simp only; omega, O, N0.skip fun h => absurd h (cB_f hc)⟩ (by simp only; omega)
        have hc := cB_t hc
        unfold dkB mpO
        conv => whnf
        rw [blt_t (i := i) (n := 8) (by omega)]
        conv => whnf
        rw [ble_t (i := 0 + 76 + 0 * 8 + i * 1 + 1) (n := 92) (by show 76 + i * 1 + 1 ≤ 92; omega)]
        conv => whnf
        rw [ble_mx L (by show 76 + i * 1 + 1 ≤ 92; omega)]
        conv => whnf
        rw [sM0 (i := i) L (by omega) (by show 76 + i * 1 = _; omega) (by rfl)]
        conv => whnf
        rw [blt_t (i := i) (n := 8) (by omega)]
        conv => whnf
        rw [ble_t (i := 0 + 68 + i * 1 + 1) (n := 92) (by show 68 + i * 1 + 1 ≤ 92; omega)]
        conv => whnf
        rw [blt_mx (by show 4 ≤ 68 + i * 1; omega)]
        conv => whnf
        rw [Tb.at_u (i := i) L1 hu (by show 68 + i * 1 - 4 = _; omega)]
        conv => whnf
        rw [blt_t (i := i) (n := S.length) (by omega)]
        conv => whnf
        rw [ble_t (i := 0 + i * 1 + 1) (Nat.le_refl _)]
        conv => whnf
        rw [encI_get0 hs]
        conv => whnf
        cases h2 : ltI (sumR S.length fun l => c.st.h i l) (fn S i)
        case true =>
          have h2 := ltI_t h2
          have L2 := L1.incU i (sumR S.length (fun l => c.st.h i l) + 1)
          have hx : ((c.mark0 i).incU i (sumR S.length (fun l => c.st.h i l) + 1)).H[i * 8 + lane]? = some (c.st.h i lane) := at_hit L (by omega) (by omega)
          have hxb := O.hit h8 hiS hl
          conv => whnf
          rw [blt_t (i := i) (n := 8) (by omega)]
          conv => whnf
          rw [ble_t (i := 0 + 68 + i * 1 + 1) (n := 92) (by show 68 + i * 1 + 1 ≤ 92; omega)]
          conv => whnf
          rw [blt_mx (by show 4 ≤ 68 + i * 1; omega)]
          conv => whnf
          rw [Tb.at_u (i := i) L1 hu (by show 68 + i * 1 - 4 = _; omega)]
          conv => whnf
          rw [wrap_i64 (n := (sumR S.length fun l => c.st.h i l) + 1) (by omega) (by omega)]
          conv => whnf
          rw [blt_t (i := i) (n := 8) (by omega)]
          conv => whnf
          rw [ble_t (i := 0 + 68 + i * 1 + 1) (n := 92) (by show 68 + i * 1 + 1 ≤ 92; omega)]
          conv => whnf
          rw [ble_mx L1 (by show 68 + i * 1 + 1 ≤ 92; omega)]
          conv => whnf
          rw [sU (i := i) (x := (sumR S.length fun l => c.st.h i l) + 1) L1 (by omega) (by show 68 + i * 1 = _; omega) (by rfl)]
          conv => whnf
          rw [blt_t (i := i) (n := 8) (by omega)]
          conv => whnf
          rw [blt_t (i := lane) (n := 8) (by omega)]
          conv => whnf
          rw [ble_t (i := 0 + 4 + i * 8 + lane * 1 + 1) (n := 92) (by show 4 + i * 8 + lane * 1 + 1 ≤ 92; omega)]
          conv => whnf
          rw [blt_mx (by show 4 ≤ 4 + i * 8 + lane * 1; omega)]
          conv => whnf
          rw [Tb.at_h (i := i * 8 + lane) L2 hx (by show 4 + i * 8 + lane * 1 - 4 = _; omega)]
          conv => whnf
          rw [wrap_i64 (n := c.st.h i lane + 1) (by omega) (by omega)]
          conv => whnf
          rw [blt_t (i := i) (n := 8) (by omega)]
          conv => whnf
          rw [blt_t (i := lane) (n := 8) (by omega)]
          conv => whnf
          rw [ble_t (i := 0 + 4 + i * 8 + lane * 1 + 1) (n := 92) (by show 4 + i * 8 + lane * 1 + 1 ≤ 92; omega)]
          conv => whnf
          rw [ble_mx L2 (by show 4 + i * 8 + lane * 1 + 1 ≤ 92; omega)]
          conv => whnf
          rw [sH (i := i) (l := lane) (x := c.st.h i lane + 1) L2 (by omega) (by omega) (by show 4 + i * 8 + lane * 1 = _; omega) (by rfl)]
          conv => whnf
          have Of := O1.inc (by omega) hiS hl hc h2
          refine ⟨_, Of, rfl, .inl ⟨rfl, ?_⟩⟩
          refine N0.hit hnm hiS hl hc (by rw [← he0]; exact h2) fun s l h3 h4 => ?_
          exact h_setH L2 (by omega) (by omega) _ (by omega)
        have h2 := ltI_f h2
        have M0 := N0.enter (i := i) hnm (by rw [← he0]; exact h2)
        rw [← hst] at M0
        conv => whnf
        refine Sm.mono (lanes31B S N A ps (c.mark0 i) i) ?_
        rintro v h ⟨rfl, rfl⟩
        unfold dkB mpO
        conv => whnf
        refine Sm.mono (each50B (B := B) h6 hN h8 hl hiS hc IH O1 (Nat.lt_of_lt_of_le (unm_lt (i := i) (fun s h => by rw [hst]; exact .inl (N0.up0 s h)) hiS M0.new M0.here) (by omega)) M0) ?_
        rintro v h ⟨rfl, d, Od, ⟨rfl, Md⟩ | ⟨rfl, Gd⟩⟩
        · unfold hp50B
          unfold dkB mpO
          conv => whnf
          rw [wrap_succ (by omega)]
          exact ih (i + 1, 4, d) ⟨by simp only; omega, by simp only; omega, Od, Md.done⟩ (by simp only; omega)
        · unfold hp50B
          unfold dkB mpO
          conv => whnf
          exact ⟨d, Od, rfl, .inl ⟨rfl, Gd⟩⟩
      · unfold hfB
        unfold dkB mpO
        conv => whnf
        rw [ltI_tt (a := (i : Int)) (b := (S.length : Int)) (by omega)]
        conv => whnf
        rw [blt_t (i := i) (n := 8) (by omega)]
        conv => whnf
        rw [ble_t (i := 0 + 76 + 0 * 8 + i * 1 + 1) (n := 92) (by show 76 + i * 1 + 1 ≤ 92; omega)]
        conv => whnf
        rw [blt_mx (by show 4 ≤ 76 + i * 1; omega)]
        conv => whnf
        rw [Tb.at_m0 (i := i) L hm0 (by show 76 + i * 1 - 4 = _; omega)]
        conv => whnf
        cases m0
        case true =>
          conv => whnf
          rw [wrap_succ (by omega)]
          exact ih (i + 1, 4, c) ⟨by simp only; omega, by simp only; omega, O, N0.skip fun _ => hm0⟩ (by simp only; omega)
        have hnm : ¬ c.st.m0 i := fun h => by rw [show c.M0[i]? = some true from h] at hm0; cases hm0
        conv => whnf
        refine Sm.mono (can48B S N A ps c i lane) ?_
        rintro v h ⟨rfl, rfl⟩
        cases hc : cB ps i lane
        case false =>
          unfold dkB mpO
          conv => whnf
          rw [wrap_succ (by omega)]
          exact ih (i + 1, 4, c) ⟨by simp only; omega, by simp only; omega, O, N0.skip fun h => absurd h (cB_f hc)⟩ (by simp only; omega)
        have hc := cB_t hc
        unfold dkB mpO
        conv => whnf
        rw [blt_t (i := i) (n := 8) (by omega)]
        conv => whnf
        rw [ble_t (i := 0 + 76 + 0 * 8 + i * 1 + 1) (n := 92) (by show 76 + i * 1 + 1 ≤ 92; omega)]
        conv => whnf
        rw [ble_mx L (by show 76 + i * 1 + 1 ≤ 92; omega)]
        conv => whnf
        rw [sM0 (i := i) L (by omega) (by show 76 + i * 1 = _; omega) (by rfl)]
        conv => whnf
        rw [blt_t (i := i) (n := 8) (by omega)]
        conv => whnf
        rw [ble_t (i := 0 + 68 + i * 1 + 1) (n := 92) (by show 68 + i * 1 + 1 ≤ 92; omega)]
        conv => whnf
        rw [blt_mx (by show 4 ≤ 68 + i * 1; omega)]
        conv => whnf
        rw [Tb.at_u (i := i) L1 hu (by show 68 + i * 1 - 4 = _; omega)]
        conv => whnf
        rw [blt_t (i := i) (n := S.length) (by omega)]
        conv => whnf
        rw [ble_t (i := 0 + i * 1 + 1) (Nat.le_refl _)]
        conv => whnf
        rw [encI_get0 hs]
        conv => whnf
        cases h2 : ltI (sumR S.length fun l => c.st.h i l) (fn S i)
        case true =>
          have h2 := ltI_t h2
          have L2 := L1.incU i (sumR S.length (fun l => c.st.h i l) + 1)
          have hx : ((c.mark0 i).incU i (sumR S.length (fun l => c.st.h i l) + 1)).H[i * 8 + lane]? = some (c.st.h i lane) := at_hit L (by omega) (by omega)
          have hxb := O.hit h8 hiS hl
          conv => whnf
          rw [blt_t (i := i) (n := 8) (by omega)]
          conv => whnf
          rw [ble_t (i := 0 + 68 + i * 1 + 1) (n := 92) (by show 68 + i * 1 + 1 ≤ 92; omega)]
          conv => whnf
          rw [blt_mx (by show 4 ≤ 68 + i * 1; omega)]
          conv => whnf
          rw [Tb.at_u (i := i) L1 hu (by show 68 + i * 1 - 4 = _; omega)]
          conv => whnf
          rw [wrap_i64 (n := (sumR S.length fun l => c.st.h i l) + 1) (by omega) (by omega)]
          conv => whnf
          rw [blt_t (i := i) (n := 8) (by omega)]
          conv => whnf
          rw [ble_t (i := 0 + 68 + i * 1 + 1) (n := 92) (by show 68 + i * 1 + 1 ≤ 92; omega)]
          conv => whnf
          rw [ble_mx L1 (by show 68 + i * 1 + 1 ≤ 92; omega)]
          conv => whnf
          rw [sU (i := i) (x := (sumR S.length fun l => c.st.h i l) + 1) L1 (by omega) (by show 68 + i * 1 = _; omega) (by rfl)]
          conv => whnf
          rw [blt_t (i := i) (n := 8) (by omega)]
          conv => whnf
          rw [blt_t (i := lane) (n := 8) (by omega)]
          conv => whnf
          rw [ble_t (i := 0 + 4 + i * 8 + lane * 1 + 1) (n := 92) (by show 4 + i * 8 + lane * 1 + 1 ≤ 92; omega)]
          conv => whnf
          rw [blt_mx (by show 4 ≤ 4 + i * 8 + lane * 1; omega)]
          conv => whnf
          rw [Tb.at_h (i := i * 8 + lane) L2 hx (by show 4 + i * 8 + lane * 1 - 4 = _; omega)]
          conv => whnf
          rw [wrap_i64 (n := c.st.h i lane + 1) (by omega) (by omega)]
          conv => whnf
          rw [blt_t (i := i) (n := 8) (by omega)]
          conv => whnf
          rw [blt_t (i := lane) (n := 8) (by omega)]
          conv => whnf
          rw [ble_t (i := 0 + 4 + i * 8 + lane * 1 + 1) (n := 92) (by show 4 + i * 8 + lane * 1 + 1 ≤ 92; omega)]
          conv => whnf
          rw [ble_mx L2 (by show 4 + i * 8 + lane * 1 + 1 ≤ 92; omega)]
          conv => whnf
          rw [sH (i := i) (l := lane) (x := c.st.h i lane + 1) L2 (by omega) (by omega) (by show 4 + i * 8 + lane * 1 = _; omega) (by rfl)]
          conv => whnf
          have Of := O1.inc (by omega) hiS hl hc h2
          refine ⟨_, Of, rfl, .inl ⟨rfl, ?_⟩⟩
          refine N0.hit hnm hiS hl hc (by rw [← he0]; exact h2) fun s l h3 h4 => ?_
          exact h_setH L2 (by omega) (by omega) _ (by omega)
        have h2 := ltI_f h2
        have M0 := N0.enter (i := i) hnm (by rw [← he0]; exact h2)
        rw [← hst] at M0
        conv => whnf
        refine Sm.mono (lanes31B S N A ps (c.mark0 i) i) ?_
        rintro v h ⟨rfl, rfl⟩
        unfold dkB mpO
        conv => whnf
        refine Sm.mono (each50B (B := B) h6 hN h8 hl hiS hc IH O1 (Nat.lt_of_lt_of_le (unm_lt (i := i) (fun s h => by rw [hst]; exact .inl (N0.up0 s h)) hiS M0.new M0.here) (by omega)) M0) ?_
        rintro v h ⟨rfl, d, Od, ⟨rfl, Md⟩ | ⟨rfl, Gd⟩⟩
        · unfold hp50B
          unfold dkB mpO
          conv => whnf
          rw [wrap_succ (by omega)]
          exact ih (i + 1, 5, d) ⟨by simp only; omega, by simp only; omega, Od, Md.done⟩ (by simp only; omega)
        · unfold hp50B
          unfold dkB mpO
          conv => whnf
          exact ⟨d, Od, rfl, .inl ⟨rfl, Gd⟩⟩
      · unfold hfB
        unfold dkB mpO
        conv => whnf
        rw [ltI_tt (a := (i : Int)) (b := (S.length : Int)) (by omega)]
        conv => whnf
        rw [blt_t (i := i) (n := 8) (by omega)]
        conv => whnf
        rw [ble_t (i := 0 + 76 + 0 * 8 + i * 1 + 1) (n := 92) (by show 76 + i * 1 + 1 ≤ 92; omega)]
        conv => whnf
        rw [blt_mx (by show 4 ≤ 76 + i * 1; omega)]
        conv => whnf
        rw [Tb.at_m0 (i := i) L hm0 (by show 76 + i * 1 - 4 = _; omega)]
        conv => whnf
        cases m0
        case true =>
          conv => whnf
          rw [wrap_succ (by omega)]
          exact ih (i + 1, 5, c) ⟨by simp only; omega, by simp only; omega, O, N0.skip fun _ => hm0⟩ (by simp only; omega)
        have hnm : ¬ c.st.m0 i := fun h => by rw [show c.M0[i]? = some true from h] at hm0; cases hm0
        conv => whnf
        refine Sm.mono (can48B S N A ps c i lane) ?_
        rintro v h ⟨rfl, rfl⟩
        cases hc : cB ps i lane
        case false =>
          unfold dkB mpO
          conv => whnf
          rw [wrap_succ (by omega)]
          exact ih (i + 1, 5, c) ⟨by simp only; omega, by simp only; omega, O, N0.skip fun h => absurd h (cB_f hc)⟩ (by simp only; omega)
        have hc := cB_t hc
        unfold dkB mpO
        conv => whnf
        rw [blt_t (i := i) (n := 8) (by omega)]
        conv => whnf
        rw [ble_t (i := 0 + 76 + 0 * 8 + i * 1 + 1) (n := 92) (by show 76 + i * 1 + 1 ≤ 92; omega)]
        conv => whnf
        rw [ble_mx L (by show 76 + i * 1 + 1 ≤ 92; omega)]
        conv => whnf
        rw [sM0 (i := i) L (by omega) (by show 76 + i * 1 = _; omega) (by rfl)]
        conv => whnf
        rw [blt_t (i := i) (n := 8) (by omega)]
        conv => whnf
        rw [ble_t (i := 0 + 68 + i * 1 + 1) (n := 92) (by show 68 + i * 1 + 1 ≤ 92; omega)]
        conv => whnf
        rw [blt_mx (by show 4 ≤ 68 + i * 1; omega)]
        conv => whnf
        rw [Tb.at_u (i := i) L1 hu (by show 68 + i * 1 - 4 = _; omega)]
        conv => whnf
        rw [blt_t (i := i) (n := S.length) (by omega)]
        conv => whnf
        rw [ble_t (i := 0 + i * 1 + 1) (Nat.le_refl _)]
        conv => whnf
        rw [encI_get0 hs]
        conv => whnf
        cases h2 : ltI (sumR S.length fun l => c.st.h i l) (fn S i)
        case true =>
          have h2 := ltI_t h2
          have L2 := L1.incU i (sumR S.length (fun l => c.st.h i l) + 1)
          have hx : ((c.mark0 i).incU i (sumR S.length (fun l => c.st.h i l) + 1)).H[i * 8 + lane]? = some (c.st.h i lane) := at_hit L (by omega) (by omega)
          have hxb := O.hit h8 hiS hl
          conv => whnf
          rw [blt_t (i := i) (n := 8) (by omega)]
          conv => whnf
          rw [ble_t (i := 0 + 68 + i * 1 + 1) (n := 92) (by show 68 + i * 1 + 1 ≤ 92; omega)]
          conv => whnf
          rw [blt_mx (by show 4 ≤ 68 + i * 1; omega)]
          conv => whnf
          rw [Tb.at_u (i := i) L1 hu (by show 68 + i * 1 - 4 = _; omega)]
          conv => whnf
          rw [wrap_i64 (n := (sumR S.length fun l => c.st.h i l) + 1) (by omega) (by omega)]
          conv => whnf
          rw [blt_t (i := i) (n := 8) (by omega)]
          conv => whnf
          rw [ble_t (i := 0 + 68 + i * 1 + 1) (n := 92) (by show 68 + i * 1 + 1 ≤ 92; omega)]
          conv => whnf
          rw [ble_mx L1 (by show 68 + i * 1 + 1 ≤ 92; omega)]
          conv => whnf
          rw [sU (i := i) (x := (sumR S.length fun l => c.st.h i l) + 1) L1 (by omega) (by show 68 + i * 1 = _; omega) (by rfl)]
          conv => whnf
          rw [blt_t (i := i) (n := 8) (by omega)]
          conv => whnf
          rw [blt_t (i := lane) (n := 8) (by omega)]
          conv => whnf
          rw [ble_t (i := 0 + 4 + i * 8 + lane * 1 + 1) (n := 92) (by show 4 + i * 8 + lane * 1 + 1 ≤ 92; omega)]
          conv => whnf
          rw [blt_mx (by show 4 ≤ 4 + i * 8 + lane * 1; omega)]
          conv => whnf
          rw [Tb.at_h (i := i * 8 + lane) L2 hx (by show 4 + i * 8 + lane * 1 - 4 = _; omega)]
          conv => whnf
          rw [wrap_i64 (n := c.st.h i lane + 1) (by omega) (by omega)]
          conv => whnf
          rw [blt_t (i := i) (n := 8) (by omega)]
          conv => whnf
          rw [blt_t (i := lane) (n := 8) (by omega)]
          conv => whnf
          rw [ble_t (i := 0 + 4 + i * 8 + lane * 1 + 1) (n := 92) (by show 4 + i * 8 + lane * 1 + 1 ≤ 92; omega)]
          conv => whnf
          rw [ble_mx L2 (by show 4 + i * 8 + lane * 1 + 1 ≤ 92; omega)]
          conv => whnf
          rw [sH (i := i) (l := lane) (x := c.st.h i lane + 1) L2 (by omega) (by omega) (by show 4 + i * 8 + lane * 1 = _; omega) (by rfl)]
          conv => whnf
          have Of := O1.inc (by omega) hiS hl hc h2
          refine ⟨_, Of, rfl, .inl ⟨rfl, ?_⟩⟩
          refine N0.hit hnm hiS hl hc (by rw [← he0]; exact h2) fun s l h3 h4 => ?_
          exact h_setH L2 (by omega) (by omega) _ (by omega)
        have h2 := ltI_f h2
        have M0 := N0.enter (i := i) hnm (by rw [← he0]; exact h2)
        rw [← hst] at M0
        conv => whnf
        refine Sm.mono (lanes31B S N A ps (c.mark0 i) i) ?_
        rintro v h ⟨rfl, rfl⟩
        unfold dkB mpO
        conv => whnf
        refine Sm.mono (each50B (B := B) h6 hN h8 hl hiS hc IH O1 (Nat.lt_of_lt_of_le (unm_lt (i := i) (fun s h => by rw [hst]; exact .inl (N0.up0 s h)) hiS M0.new M0.here) (by omega)) M0) ?_
        rintro v h ⟨rfl, d, Od, ⟨rfl, Md⟩ | ⟨rfl, Gd⟩⟩
        · unfold hp50B
          unfold dkB mpO
          conv => whnf
          rw [wrap_succ (by omega)]
          exact ih (i + 1, 6, d) ⟨by simp only; omega, by simp only; omega, Od, Md.done⟩ (by simp only; omega)
        · unfold hp50B
          unfold dkB mpO
          conv => whnf
          exact ⟨d, Od, rfl, .inl ⟨rfl, Gd⟩⟩
    · obtain rfl : i = S.length := by omega
      have hk7 : k = 0 ∨ k = 1 ∨ k = 2 ∨ k = 3 ∨ k = 4 ∨ k = 5 ∨ k = 6 := by omega
      rcases hk7 with rfl | rfl | rfl | rfl | rfl | rfl | rfl
      all_goals
        unfold hfB
        unfold dkB mpO
        conv => whnf
        rw [ltI_ff (a := (S.length : Int)) (b := (S.length : Int)) (Int.le_refl _)]
        conv => whnf
        exact ⟨c, O, rfl, .inr ⟨rfl, N0⟩⟩
end Go.Proofs.Dx
