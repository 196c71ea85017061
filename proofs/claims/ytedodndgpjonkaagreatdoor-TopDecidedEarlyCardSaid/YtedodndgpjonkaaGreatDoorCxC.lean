/-
  TopDecidedEarly: the reference's totals, places, ranks.
-/
import Derived.Test.YtedodndgpjonkaaGreatDoorCxA
section
namespace Go.Proofs.Cx
open Go Go.Ab Go.Proofs.Cw
set_option maxRecDepth 100000
set_option maxHeartbeats 20000000
theorem often_ok {nn rr bb : Int} {P : List Int} {R : List (List Int)} {n : Nat} (hR : Rc n R) {s : Nat} (hs : s < n) (p : Nat) :
    Rets Tryz.prog E 63 [.d (cupD nn rr bb P R), .d (.int .i64 s), .d (.int .i64 p)] (.d (.int .i64 (plc R s p))) := by
  have hRl := hR.len
  refine sm_of HE true (by kernel_rfl) ?_
  unfold cupD cupL
  conv => whnf
  refine loops_by (fun x : Nat × Nat => match x with
      | (i, n) => ⟨29, [(1, .d (.int .i64 s)), (2, .d (.int .i64 p)), (3, .ptr 0 0 0 5), (6, .d (.int .i64 0)), (7, .d (.int .i64 n)), (8, .d (.int .i64 i))], .unk, [.row (.ds (cupL nn rr bb P R)) 0 0 []], []⟩)
    (fun x => x.1 ≤ R.length ∧ x.2 = (R.take x.1).countP fun race => decide (pl race s = (p : Int))) (fun x => R.length - x.1) (0, 0) ⟨Nat.zero_le _, rfl⟩ ?_
  rintro f ⟨i, m⟩ ⟨hi, hn⟩ ih
  simp only at hi hn
  have hnl : m ≤ R.length := by rw [hn]; exact Nat.le_trans List.countP_le_length (by simp; omega)
  conv => whnf
  cases h1 : ltI (i : Int) (R.length : Int)
  · have := ltI_f h1
    conv => whnf
    refine ⟨?_, rfl⟩
    rw [hn, List.take_of_length_le (by omega)]; rfl
  have hlt := ltI_t h1
  have hb := blt_t (i := i) (n := R.length) (by omega)
  obtain ⟨r, hr⟩ := at_some (l := R) (i := i) (by omega)
  have hrl := (hR.at hr).1
  have hb2 := blt_t (i := s) (n := r.length) (by omega)
  obtain ⟨a, ha⟩ := at_some (l := r) (i := s) (by omega)
  have hc := countP_take (p := fun race => decide (pl race s = (p : Int))) hr
  rw [← hn, pl_of ha] at hc
  conv => whnf
  rw [hb]
  conv => whnf
  rw [encLL_get1 hr]
  conv => whnf
  rw [hb2]
  conv => whnf
  rw [encI_get1 ha]
  conv => whnf
  cases h2 : eqI a p
  · rw [decide_eq_false (eqI_f h2)] at hc
    conv => whnf
    rw [wrap_succ (by omega)]
    exact ih (i + 1, m) ⟨by simp only; omega, hc.symm⟩ (by simp only; omega)
  · rw [decide_eq_true (eqI_t h2)] at hc
    conv => whnf
    rw [wrap_succ (by omega)]
    conv => whnf
    rw [wrap_succ (by omega)]
    exact ih (i + 1, m + 1) ⟨by simp only; omega, hc.symm⟩ (by simp only; omega)
theorem counted_ok {nn rr bb : Int} {P : List Int} {R : List (List Int)} {n : Nat} (O : Pt P) (hR : Rc n R) {s : Nat} (hs : s < n) (hbb : 1 ≤ bb ∧ bb ≤ 20) :
    Rets Tryz.prog E 82 [.d (cupD nn rr bb P R), .d (.int .i64 s)] (.d (.slice (cL P bb.toNat R s).length 1 (encI (cL P bb.toNat R s)))) := by
  refine Rets.weaken ?_ (wk_one _)
  have hRl := hR.len
  obtain ⟨b, rfl⟩ : ∃ b : Nat, bb = b := ⟨bb.toNat, by omega⟩
  rw [Int.toNat_natCast]
  obtain ⟨sc, hsc⟩ : ∃ sc : Nat → Int, sc = fun j => scr P (row R j) s := ⟨_, rfl⟩
  have hcL : cL P b R s = ((List.range R.length).filter fun i => decide (rk sc R.length i < b)).map Int.ofNat := by rw [hsc]; rfl
  have hscore : ∀ (j : Nat) r, R[j]? = some r → Rets Tryz.prog E 83 [.d (cupD nn rr b P R), .d (.slice r.length 1 (encI r)), .d (.int .i64 s)] (.d (.int .i64 (sc j))) := fun j r hr => by
    have := hR.at hr
    rw [hsc]
    simp only
    rw [row_of hr]
    exact score_ok O (by have := hR.sk; omega) (by have := hR.sk; omega) this.2
  refine sm_of HE true (by kernel_rfl) ?_
  unfold cupD cupL
  conv => whnf
  refine loops_by (fun x : Nat × Nat × List Int => match x with
      | (i, k, acc) => ⟨65, [(1, .d (.int .i64 s)), (2, .ptr 0 0 0 5), (4, .d .nil), (5, slV 1 k), (6, .d (.int .i64 i))], .unk, .row (.ds (cupL nn rr b P R)) 0 0 [] :: rwO k acc, []⟩)
    (fun x => x.1 ≤ R.length ∧ x.2.2.length = x.2.1 ∧ x.2.2 = ((List.range x.1).filter fun i => decide (rk sc R.length i < b)).map Int.ofNat) (fun x => R.length - x.1) (0, 0, []) ⟨Nat.zero_le _, rfl, rfl⟩ ?_
  rintro f ⟨i, k0, acc⟩ ⟨hi, hk0, hacc⟩ ih
  simp only at hi hk0 hacc
  have hal : acc.length ≤ i := by rw [hacc, List.length_map]; exact Nat.le_trans (List.length_filter_le ..) (by simp)
  cases k0 with
  | zero =>
    obtain rfl : acc = [] := List.eq_nil_of_length_eq_zero hk0
    conv => whnf
    cases h1 : ltI (i : Int) (R.length : Int)
    · have := ltI_f h1
      have hiR : i = R.length := by omega
      subst hiR
      rw [hcL, ← hacc]
      conv => whnf
      exact ⟨rfl, rfl⟩
    have hlt := ltI_t h1
    have hbi := blt_t (i := i) (n := R.length) (by omega)
    obtain ⟨r, hr⟩ := at_some (l := R) (i := i) (by omega)
    have hf := filter_range (p := fun i => decide (rk sc R.length i < b)) (i := i)
    conv => whnf
    refine loops_by (fun x : Nat × Nat => match x with
      | (k, c) => ⟨65, [(1, .d (.int .i64 s)), (2, .ptr 0 0 0 5), (4, .d .nil), (5, .d .nil), (6, .d (.int .i64 i)), (7, .d (.int .i64 c)), (8, .d (.int .i64 k))], .unk, [.row (.ds (cupL nn rr b P R)) 0 0 []], []⟩)
      (fun x => x.1 ≤ R.length ∧ x.2 = (List.range x.1).countP fun k => befB sc k i) (fun x => R.length - x.1) (0, 0) ⟨Nat.zero_le _, rfl⟩ ?_
    rintro f2 ⟨k, c⟩ ⟨hk, hc⟩ ih2
    simp only at hk hc
    have hcl : c ≤ k := by rw [hc]; exact Nat.le_trans List.countP_le_length (by simp)
    conv => whnf
    cases h2 : ltI (k : Int) (R.length : Int)
    · have := ltI_f h2
      have hkR : k = R.length := by omega
      subst hkR
      have hrk : rk sc R.length i = c := by unfold rk; exact hc.symm
      rw [hrk] at hf
      conv => whnf
      cases h3 : ltI (c : Int) (b : Int)
      · have := ltI_f h3
        rw [decide_eq_false (by omega)] at hf
        simp only [List.append_nil] at hf
        conv => whnf
        rw [wrap_succ (by omega)]
        exact ih (i + 1, 0, []) ⟨by simp only; omega, hk0, by simp only; rw [hf]; exact hacc⟩ (by simp only; omega)
      · have := ltI_t h3
        rw [decide_eq_true (by omega)] at hf
        simp only at hf
        conv => whnf
        rw [wrap_succ (by omega)]
        exact ih (i + 1, 1, [(i : Int)]) ⟨by simp only; omega, rfl, by simp only; rw [hf, List.map_append, ← hacc]; rfl⟩ (by simp only; omega)
    · have hkl := ltI_t h2
      have hbk := blt_t (i := k) (n := R.length) (by omega)
      obtain ⟨q, hq⟩ := at_some (l := R) (i := k) (by omega)
      have hcr := countP_range (p := fun k => befB sc k i) (i := k)
      rw [← hc] at hcr
      have hbef : befB sc k i = decide (sc i < sc k ∨ (sc i = sc k ∧ k < i)) := rfl
      conv => whnf
      rw [hbi]
      conv => whnf
      rw [encLL_get1 hr]
      conv => whnf
      rw [hbk]
      conv => whnf
      rw [encLL_get1 hq]
      conv => whnf
      refine Rets.use (hscore i r hr) ?_
      conv => whnf
      refine Rets.use (hscore k q hq) ?_
      conv => whnf
      cases h3 : ltI (sc i) (sc k)
      · have g3 := ltI_f h3
        conv => whnf
        cases h4 : eqI (sc k) (sc i)
        · have g4 := eqI_f h4
          rw [hbef, decide_eq_false (by omega)] at hcr
          conv => whnf
          rw [wrap_succ (by omega)]
          exact ih2 (k + 1, c) ⟨by simp only; omega, hcr.symm⟩ (by simp only; omega)
        · have g4 := eqI_t h4
          conv => whnf
          cases h5 : ltI (k : Int) (i : Int)
          · have g5 := ltI_f h5
            rw [hbef, decide_eq_false (by omega)] at hcr
            conv => whnf
            rw [wrap_succ (by omega)]
            exact ih2 (k + 1, c) ⟨by simp only; omega, hcr.symm⟩ (by simp only; omega)
          · have g5 := ltI_t h5
            rw [hbef, decide_eq_true (by omega)] at hcr
            conv => whnf
            rw [wrap_succ (by omega)]
            conv => whnf
            rw [wrap_succ (by omega)]
            exact ih2 (k + 1, c + 1) ⟨by simp only; omega, hcr.symm⟩ (by simp only; omega)
      · have g3 := ltI_t h3
        rw [hbef, decide_eq_true (by omega)] at hcr
        conv => whnf
        rw [wrap_succ (by omega)]
        conv => whnf
        rw [wrap_succ (by omega)]
        exact ih2 (k + 1, c + 1) ⟨by simp only; omega, hcr.symm⟩ (by simp only; omega)
  | succ m =>
    conv => whnf
    cases h1 : ltI (i : Int) (R.length : Int)
    · have := ltI_f h1
      have hiR : i = R.length := by omega
      subst hiR
      rw [hcL, ← hacc]
      conv => whnf
      rw [may_all]
      conv => whnf
      have hel : (encI acc).length = (m + 1) * 1 := by rw [encI_length, hk0]; simp
      rw [ble_t (i := 0 + (m + 1) * 1) (by omega)]
      conv => whnf
      refine ⟨?_, rfl⟩
      rw [row_all hel]
      cases acc with
      | nil => cases hk0
      | cons a l =>
        simp only [List.length_cons, Nat.add_right_cancel_iff] at hk0
        subst hk0
        rfl
    have hlt := ltI_t h1
    have hbi := blt_t (i := i) (n := R.length) (by omega)
    obtain ⟨r, hr⟩ := at_some (l := R) (i := i) (by omega)
    have hf := filter_range (p := fun i => decide (rk sc R.length i < b)) (i := i)
    conv => whnf
    refine loops_by (fun x : Nat × Nat => match x with
      | (k, c) => ⟨65, [(1, .d (.int .i64 s)), (2, .ptr 0 0 0 5), (4, .d .nil), (5, .slice 1 m 0 (m + 1) 1), (6, .d (.int .i64 i)), (7, .d (.int .i64 c)), (8, .d (.int .i64 k))], .unk, [.row (.ds (cupL nn rr b P R)) 0 0 [], .row (.ds (encI acc)) m 0 []], []⟩)
      (fun x => x.1 ≤ R.length ∧ x.2 = (List.range x.1).countP fun k => befB sc k i) (fun x => R.length - x.1) (0, 0) ⟨Nat.zero_le _, rfl⟩ ?_
    rintro f2 ⟨k, c⟩ ⟨hk, hc⟩ ih2
    simp only at hk hc
    have hcl : c ≤ k := by rw [hc]; exact Nat.le_trans List.countP_le_length (by simp)
    conv => whnf
    cases h2 : ltI (k : Int) (R.length : Int)
    · have := ltI_f h2
      have hkR : k = R.length := by omega
      subst hkR
      have hrk : rk sc R.length i = c := by unfold rk; exact hc.symm
      rw [hrk] at hf
      conv => whnf
      cases h3 : ltI (c : Int) (b : Int)
      · have := ltI_f h3
        rw [decide_eq_false (by omega)] at hf
        simp only [List.append_nil] at hf
        conv => whnf
        rw [wrap_succ (by omega)]
        exact ih (i + 1, m + 1, acc) ⟨by simp only; omega, hk0, by simp only; rw [hf]; exact hacc⟩ (by simp only; omega)
      · have := ltI_t h3
        rw [decide_eq_true (by omega)] at hf
        simp only at hf
        conv => whnf
        rw [ble_t (i := (m + 1 + 1) * 8) (n := 140737488355328) (by omega)]
        conv => whnf
        rw [may_all]
        conv => whnf
        rw [len_beq hk0, wrap_succ (by omega), List.take_of_length_le (by rw [encI_length]; omega)]
        have e1 : ∀ (l : List Int) (x : Int), encI l ++ [D.int .i64 x] = encI (l ++ [x]) := fun l x => (encI_snoc l x).symm
        rw [e1]
        exact ih (i + 1, m + 2, acc ++ [(i : Int)]) ⟨by simp only; omega, by simp [hk0], by simp only; rw [hf, List.map_append, ← hacc]; rfl⟩ (by simp only; omega)
    · have hkl := ltI_t h2
      have hbk := blt_t (i := k) (n := R.length) (by omega)
      obtain ⟨q, hq⟩ := at_some (l := R) (i := k) (by omega)
      have hcr := countP_range (p := fun k => befB sc k i) (i := k)
      rw [← hc] at hcr
      have hbef : befB sc k i = decide (sc i < sc k ∨ (sc i = sc k ∧ k < i)) := rfl
      conv => whnf
      rw [hbi]
      conv => whnf
      rw [encLL_get1 hr]
      conv => whnf
      rw [hbk]
      conv => whnf
      rw [encLL_get1 hq]
      conv => whnf
      refine Rets.use (hscore i r hr) ?_
      conv => whnf
      refine Rets.use (hscore k q hq) ?_
      conv => whnf
      cases h3 : ltI (sc i) (sc k)
      · have g3 := ltI_f h3
        conv => whnf
        cases h4 : eqI (sc k) (sc i)
        · have g4 := eqI_f h4
          rw [hbef, decide_eq_false (by omega)] at hcr
          conv => whnf
          rw [wrap_succ (by omega)]
          exact ih2 (k + 1, c) ⟨by simp only; omega, hcr.symm⟩ (by simp only; omega)
        · have g4 := eqI_t h4
          conv => whnf
          cases h5 : ltI (k : Int) (i : Int)
          · have g5 := ltI_f h5
            rw [hbef, decide_eq_false (by omega)] at hcr
            conv => whnf
            rw [wrap_succ (by omega)]
            exact ih2 (k + 1, c) ⟨by simp only; omega, hcr.symm⟩ (by simp only; omega)
          · have g5 := ltI_t h5
            rw [hbef, decide_eq_true (by omega)] at hcr
            conv => whnf
            rw [wrap_succ (by omega)]
            conv => whnf
            rw [wrap_succ (by omega)]
            exact ih2 (k + 1, c + 1) ⟨by simp only; omega, hcr.symm⟩ (by simp only; omega)
      · have g3 := ltI_t h3
        rw [hbef, decide_eq_true (by omega)] at hcr
        conv => whnf
        rw [wrap_succ (by omega)]
        conv => whnf
        rw [wrap_succ (by omega)]
        exact ih2 (k + 1, c + 1) ⟨by simp only; omega, hcr.symm⟩ (by simp only; omega)
end Go.Proofs.Cx
end
section
/-
  TopDecidedEarly: the reference's totals, who is better, ranks.
-/
namespace Go.Proofs.Cx
open Go Go.Ab Go.Proofs.Cw
set_option maxRecDepth 100000
set_option maxHeartbeats 20000000
theorem total_ok {nn rr bb : Int} {P : List Int} {R : List (List Int)} {n : Nat} (O : Pt P) (hR : Rc n R) {s : Nat} (hs : s < n) (hbb : 1 ≤ bb ∧ bb ≤ 20) :
    Rets Tryz.prog E 62 [.d (cupD nn rr bb P R), .d (.int .i64 s)] (.d (.int .i64 (Tt P bb.toNat R s))) := by
  have hRl := hR.len
  have hcnt := counted_ok (nn := nn) (rr := rr) O hR hs hbb
  have hmem : ∀ x ∈ cL P bb.toNat R s, ∃ j : Nat, x = j ∧ j < R.length := fun x => cL_mem
  have hlen := cL_length (P := P) (b := bb.toNat) (R := R) (s := s)
  rw [← cL_tot]
  generalize cL P bb.toNat R s = L at *
  obtain ⟨sc, hsc⟩ : ∃ sc : Nat → Int, sc = fun j => scr P (row R j) s := ⟨_, rfl⟩
  have hsc0 : ∀ (j : Nat), j < R.length → 0 ≤ sc j ∧ sc j ≤ 100000 := fun j hj => by
    obtain ⟨r, hr⟩ := at_some hj
    have := hR.at hr
    have hq := scr_le' O (show s < r.length by omega)
    rw [hsc]
    simp only
    rw [row_of hr]
    omega
  have hscore : ∀ (j : Nat) r, R[j]? = some r → Rets Tryz.prog E 83 [.d (cupD nn rr bb P R), .d (.slice r.length 1 (encI r)), .d (.int .i64 s)] (.d (.int .i64 (sc j))) := fun j r hr => by
    have := hR.at hr
    rw [hsc]
    simp only
    rw [row_of hr]
    exact score_ok O (by have := hR.sk; omega) (by have := hR.sk; omega) this.2
  have hg : ∀ x : Int, scr P (row R x.toNat) s = sc x.toNat := fun x => by rw [hsc]
  simp only [hg]
  refine sm_of HE true (by kernel_rfl) ?_
  unfold cupD cupL
  conv => whnf
  refine Rets.use hcnt ?_
  conv => whnf
  refine loops_by (fun x : Nat × Int => match x with
      | (i, m) => ⟨31, [(1, .d (.int .i64 s)), (2, .ptr 0 0 0 5), (4, .d (.int .i64 0)), (5, .d (.slice L.length 1 (encI L))), (6, .d (.int .i64 m)), (7, .d (.int .i64 i))], .unk, [.row (.ds (cupL nn rr bb P R)) 0 0 []], []⟩)
    (fun x => x.1 ≤ L.length ∧ x.2 = ((L.take x.1).map fun x => sc x.toNat).sum) (fun x => L.length - x.1) (0, 0) ⟨Nat.zero_le _, rfl⟩ ?_
  rintro f ⟨i, m⟩ ⟨hi, hm⟩ ih
  simp only at hi hm
  conv => whnf
  cases h1 : ltI (i : Int) (L.length : Int)
  · have := ltI_f h1
    conv => whnf
    refine ⟨?_, rfl⟩
    rw [hm, List.take_of_length_le (by omega)]
  have hlt := ltI_t h1
  have hb := blt_t (i := i) (n := L.length) (by omega)
  obtain ⟨x, hx⟩ := at_some (l := L) (i := i) (by omega)
  obtain ⟨j, rfl, hj⟩ := hmem x (List.mem_of_getElem? hx)
  obtain ⟨r, hr⟩ := at_some hj
  have hbj := blt_t hj
  have hmb := sum_bound (m := 100000) ((L.take i).map fun x => sc x.toNat) fun y hy => by
    obtain ⟨z, hz, rfl⟩ := List.mem_map.1 hy
    obtain ⟨q, rfl, hq⟩ := hmem z (List.mem_of_mem_take hz)
    exact hsc0 q hq
  rw [← hm] at hmb
  have hln : ((L.take i).map fun x => sc x.toNat).length ≤ 20 := by simp; omega
  have hnx : ((L.take (i + 1)).map fun x => sc x.toNat).sum = m + sc j := by rw [List.take_add_one, hx, hm]; simp
  have hscj := hsc0 j hj
  conv => whnf
  rw [hb]
  conv => whnf
  rw [encI_get1 hx]
  conv => whnf
  rw [hbj]
  conv => whnf
  rw [encLL_get1 hr]
  conv => whnf
  refine Rets.use (hscore j r hr) ?_
  conv => whnf
  rw [wrap_i64 (n := m + sc j) (by omega) (by omega)]
  conv => whnf
  rw [wrap_succ (by omega)]
  exact ih (i + 1, m + sc j) ⟨by simp only; omega, hnx.symm⟩ (by simp only; omega)
theorem better_ok {nn rr bb : Int} {P : List Int} {R : List (List Int)} {n : Nat} (O : Pt P) (hR : Rc n R) {a b : Nat} (ha : a < n) (hb : b < n) (hbb : 1 ≤ bb ∧ bb ≤ 20) :
    Rets Tryz.prog E 45 [.d (cupD nn rr bb P R), .d (.int .i64 a), .d (.int .i64 b)] (.d (.bool (btrB P bb.toNat R a b))) := by
  have ta := total_ok (nn := nn) (rr := rr) O hR ha hbb
  have tb := total_ok (nn := nn) (rr := rr) O hR hb hbb
  unfold btrB
  generalize Tt P bb.toNat R a = x at *
  generalize Tt P bb.toNat R b = y at *
  refine sm_of HE true (by kernel_rfl) ?_
  unfold cupD cupL
  conv => whnf
  refine Rets.use ta ?_
  conv => whnf
  refine Rets.use tb ?_
  conv => whnf
  cases h0 : eqI x y
  case false =>
    rw [if_neg (eqI_f h0), ← ltI_eq]
    conv => whnf
    exact ⟨rfl, rfl⟩
  rw [if_pos (eqI_t h0)]
  conv => whnf
  refine loops_by (fun p : Nat => ⟨42, [(1, .d (.int .i64 a)), (2, .d (.int .i64 b)), (3, .ptr 0 0 0 5), (6, .d (.bool false)), (9, .d (.int .i64 (p + 1 : Nat)))], .unk, [.row (.ds (cupL nn rr bb P R)) 0 0 []], []⟩)
    (fun p => p ≤ 60 ∧ lexB (plc R a) (plc R b) 60 1 = lexB (plc R a) (plc R b) (60 - p) (p + 1)) (fun p => 60 - p) 0 ⟨Nat.zero_le _, rfl⟩ ?_
  intro f p ⟨hp, hl⟩ ih
  rw [hl]
  conv => whnf
  cases h1 : leI ((p + 1 : Nat) : Int) 60
  · have h60 : p = 60 := by rw [leI_eq] at h1; have := of_decide_eq_false h1; omega
    subst h60
    conv => whnf
    exact ⟨rfl, rfl⟩
  have h60 : p < 60 := by rw [leI_eq] at h1; have := of_decide_eq_true h1; omega
  have oa := often_ok (nn := nn) (rr := rr) (bb := bb) (P := P) hR ha (p + 1)
  have ob := often_ok (nn := nn) (rr := rr) (bb := bb) (P := P) hR hb (p + 1)
  obtain ⟨m, hm⟩ : ∃ m, 60 - p = m + 1 := ⟨59 - p, by omega⟩
  have hl2 : lexB (plc R a) (plc R b) (m + 1) (p + 1) = if plc R a (p + 1) = plc R b (p + 1) then lexB (plc R a) (plc R b) m (p + 1 + 1) else decide (plc R b (p + 1) < plc R a (p + 1)) := rfl
  rw [hm] at hl ⊢
  rw [hl2] at hl ⊢
  generalize plc R a (p + 1) = x at *
  generalize plc R b (p + 1) = y at *
  conv => whnf
  refine Rets.use oa ?_
  conv => whnf
  refine Rets.use ob ?_
  conv => whnf
  cases h2 : eqI x y
  · rw [if_neg (eqI_f h2), ← ltI_eq]
    conv => whnf
    exact ⟨rfl, rfl⟩
  · rw [if_pos (eqI_t h2)] at hl ⊢
    conv => whnf
    rw [wrap_succ (by omega)]
    rw [← hl]
    exact ih (p + 1) ⟨by omega, by rw [hl, show 60 - (p + 1) = m by omega]⟩ (by omega)
theorem rank_ok {nn rr bb : Int} {P : List Int} {R : List (List Int)} {n : Nat} (O : Pt P) (hR : Rc n R) (hn : nn = n) {s : Nat} (hs : s < n) (hbb : 1 ≤ bb ∧ bb ≤ 20) :
    Rets Tryz.prog E 32 [.d (cupD nn rr bb P R), .d (.int .i64 s)] (.d (.int .i64 ((rnk P bb.toNat R n s + 1 : Nat)))) := by
  have hn12 := hR.sk
  subst hn
  refine sm_of HE true (by kernel_rfl) ?_
  unfold cupD cupL
  conv => whnf
  refine loops_by (fun x : Nat × Nat => match x with
      | (i, m) => ⟨20, [(1, .d (.int .i64 s)), (2, .ptr 0 0 0 5), (4, .d (.int .i64 0)), (5, .d (.int .i64 (m + 1 : Nat))), (6, .d (.int .i64 i))], .unk, [.row (.ds (cupL n rr bb P R)) 0 0 []], []⟩)
    (fun x => x.1 ≤ n ∧ x.2 = (List.range x.1).countP fun o => btrB P bb.toNat R o s) (fun x => n - x.1) (0, 0) ⟨Nat.zero_le _, rfl⟩ ?_
  rintro f ⟨i, m⟩ ⟨hi, hm⟩ ih
  simp only at hi hm
  have hml : m ≤ i := by rw [hm]; exact Nat.le_trans List.countP_le_length (by simp)
  conv => whnf
  cases h1 : ltI (i : Int) (n : Int)
  · have := ltI_f h1
    have hin : i = n := by omega
    subst hin
    conv => whnf
    refine ⟨?_, rfl⟩
    rw [hm]; rfl
  have hlt := ltI_t h1
  have hc := countP_range (p := fun o => btrB P bb.toNat R o s) (i := i)
  rw [← hm] at hc
  have hbt := better_ok (nn := n) (rr := rr) O hR (show i < n by omega) hs hbb
  conv => whnf
  refine Rets.use hbt ?_
  conv => whnf
  cases h2 : btrB P bb.toNat R i s
  · rw [h2] at hc
    conv => whnf
    rw [wrap_succ (by omega)]
    exact ih (i + 1, m) ⟨by simp only; omega, hc.symm⟩ (by simp only; omega)
  · rw [h2] at hc
    conv => whnf
    rw [wrap_succ (by omega)]
    conv => whnf
    rw [wrap_succ (by omega)]
    exact ih (i + 1, m + 1) ⟨by simp only; omega, hc.symm⟩ (by simp only; omega)
end Go.Proofs.Cx
end
