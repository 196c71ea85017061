/-
  TopRanked: a lab at work.
-/
import Derived.Test.YtklidmlhlelngaaGreatDoorRxC
namespace Go.Proofs.Rx
open Go Go.Ab Go.Proofs.Rw
set_option maxRecDepth 100000
set_option maxHeartbeats 8000000
/-- The parts of the first range over a function. -/
def rfOf : Code → Option (Code × Code)
  | .rangeFunc _ _ a b => some (a, b)
  | .seq a b => match rfOf a with | some x => some x | none => rfOf b
  | .block _ b => rfOf b
  | .loop b => rfOf b
  | .scope b => rfOf b
  | .cond _ a b => match rfOf a with | some x => some x | none => rfOf b
  | _ => none
def rfOf' (f : Func) : Code × Code := match f.body with
  | some b => (match rfOf b with | some x => x | none => (.skip, .skip))
  | none => (.skip, .skip)
noncomputable def code21 : Code × Code := rfOf' Tryz.f21
/-- A lab that is in order. -/
structure Good (sk er : Int) (rs : List Run3) : Prop where
  skis : 1 ≤ sk ∧ sk ≤ 8
  err : 0 ≤ er ∧ er ≤ 1000
  n : rs.length ≤ 40
  r : ∀ r ∈ rs, ((0 ≤ r.a ∧ r.a ≤ sk - 1) ∧ (0 ≤ r.b ∧ r.b ≤ sk - 1)) ∧ (-10000 ≤ r.ld ∧ r.ld ≤ 10000)
theorem chk_zero {sk er : Int} {rs : List Run3} (h : chk sk er rs = 0) : Good sk er rs := by
  unfold chk at h
  split at h
  · cases h
  rename_i g1
  split at h
  · cases h
  rename_i g2
  split at h
  · cases h
  rename_i g3
  split at h
  · cases h
  rename_i g4
  have orf : ∀ {a b : Bool}, orB a b = false → a = false ∧ b = false := by intro a b; cases a <;> cases b <;> simp [orB]
  have ntf : ∀ {a : Bool}, notB a = false → a = true := by intro a; cases a <;> simp [notB]
  obtain ⟨a1, a2⟩ := orf g1
  rw [ltI_eq] at g2
  have c2 := of_decide_eq_false g2
  have t1 := allB_true (ntf g3)
  have t2 := allB_true (ntf g4)
  refine ⟨inB_true (ntf a1), inB_true (ntf a2), by omega, fun r hr => ?_⟩
  have h1 := t1 r hr
  unfold okA at h1
  obtain ⟨h2, _⟩ := andB_true h1
  obtain ⟨h3, h4⟩ := andB_true h2
  exact ⟨⟨inB_true h3, inB_true h4⟩, inB_true (t2 r hr)⟩
/-- What the runs show. -/
def one (er : Int) (r : Run3) : List (Nat × Nat) := match shw er r with
  | (p, true) => [(p.1.toNat, p.2.toNat)]
  | (_, false) => []
def prs (er : Int) (rs : List Run3) : List (Nat × Nat) := rs.flatMap (one er)
theorem clo_append : ∀ (l m : List (Nat × Nat)) (o : Ord), clo (l ++ m) o = clo m (clo l o)
  | [], _, _ => rfl
  | p :: l, m, o => clo_append l m (wth o p.1 p.2)
theorem prs_take {er : Int} {rs : List Run3} {i : Nat} {r : Run3} (h : rs[i]? = some r) : prs er (rs.take (i + 1)) = prs er (rs.take i) ++ one er r := by
  unfold prs
  rw [List.take_add_one, h]; simp
theorem shw_in {sk er : Int} {rs : List Run3} (G : Good sk er rs) {r : Run3} (hr : r ∈ rs) : ((0 ≤ (shw er r).1.1 ∧ (shw er r).1.1 ≤ sk - 1) ∧ (0 ≤ (shw er r).1.2 ∧ (shw er r).1.2 ≤ sk - 1)) := by
  have h := G.r r hr
  have h1 := G.skis
  unfold shw
  split
  · exact h.1
  · split
    · exact ⟨h.1.2, h.1.1⟩
    · simp only; omega
def deL (sk er : Int) (rs : List Run3) (F : List D) : List D := .int .i64 sk :: .int .i64 er :: .slice rs.length 3 (encR rs) :: F
noncomputable def hp21 (sk er : Int) (rs : List Run3) (F : List D) : List O :=
  [.loop ⟨.ready, none, 21, 33, [(5, .ptr 2 0 0 1), (7, .d .undef), (19, .d .undef)], .unk, [18, 19], code21.1, code21.2, 1⟩, .dfr, .row (.vs [.ptr 3 0 0 67]) 0 0 [], .row (.ds (deL sk er rs F)) 0 0 []]
theorem write_de {sk er : Int} {rs : List Run3} {F F2 : List D} (h1 : F.length = 64) (h2 : F2.length = 64) : (Cells.ds (deL sk er rs F)).write (0 + 3) (F2.map V.d) = some (.ds (deL sk er rs F2)) := by
  unfold Cells.write
  rw [show Nat.ble (0 + 3 + (F2.map V.d).length) (Cells.ds (deL sk er rs F)).len = true from Nat.ble_eq_true_of_le (by simp [Cells.len, deL, h1, h2]), allD_map]
  simp only
  have : wr (deL sk er rs F) (0 + 3) F2 = deL sk er rs F2 := by
    cases F2 with
    | nil => simp at h2
    | cons x l =>
      show (_ :: _ :: _ :: wr F 0 (x :: l)) = _
      rw [wr_all (by omega)]
      rfl
  rw [this]
theorem each21 (sk er : Int) (rs : List Run3) (G : Good sk er rs) {o0 : Ord} {F0 : List D} (hF0 : F0 = encO o0) :
    Sm Tryz.prog E 46 [.yield 0, .d (.ptr (labL sk er rs) 0)] (hp21 sk er rs F0) (fun v h => v = .d (.tuple []) ∧ ∃ F, h = hp21 sk er rs F ∧ F = encO (clo (prs er rs) o0)) := by
  have hel := encR_length rs
  have hn := G.n
  refine sm_of HE true (by kernel_rfl) ?_
  unfold labL
  conv => whnf
  refine loops_by (fun x : Nat × List D => match x with
      | (i, F) => ⟨27, [(0, .yield 0), (1, .d (.ptr (labL sk er rs) 0)), (8, .d (.int .i64 rs.length)), (9, .d (.int .i64 i))], .unk, hp21 sk er rs F, []⟩)
    (fun x => x.1 ≤ rs.length ∧ x.2 = encO (clo (prs er (rs.take x.1)) o0)) (fun x => rs.length - x.1) (0, F0) ⟨Nat.zero_le _, by simpa [prs, clo] using hF0⟩ ?_
  rintro n ⟨i, F⟩ ⟨hi, hF⟩ ih
  simp only at hi hF
  conv => whnf
  cases h1 : ltI (i : Int) (rs.length : Int)
  · have hn : rs.length ≤ i := by rw [ltI_eq] at h1; have := of_decide_eq_false h1; omega
    rw [List.take_of_length_le hn] at hF
    conv => whnf
    exact ⟨rfl, F, rfl, hF⟩
  have hlt : i < rs.length := by rw [ltI_eq] at h1; have := of_decide_eq_true h1; omega
  obtain ⟨r, hr⟩ : ∃ r, rs[i]? = some r := ⟨rs[i], by simp [hlt]⟩
  have hs := shw_in G (List.mem_of_getElem? hr)
  have hsh := shows_ok sk er rs G.err hr
  have ho : one er r = match shw er r with | (p, true) => [(p.1.toNat, p.2.toNat)] | (_, false) => [] := rfl
  obtain ⟨⟨⟨p, q⟩, ok⟩, hpq⟩ : ∃ x, shw er r = x := ⟨_, rfl⟩
  rw [hpq] at hs hsh ho
  simp only at hs
  unfold shD at hsh
  simp only at hsh
  conv => whnf
  refine Rets.use hsh ?_
  cases ok
  · conv => whnf
    rw [wrap_succ (by omega)]
    exact ih (i + 1, F) ⟨by simp only; omega, by simp only; rw [prs_take hr, ho, List.append_nil]; exact hF⟩ (by simp only; omega)
  · have hFl : F.length = 64 := by rw [hF, encO_length]
    have hdl : (deL sk er rs F).length = 67 := by simp [deL, hFl]
    have hdd : ((deL sk er rs F).drop (0 + 3)).take 64 = F := by show F.take 64 = F; rw [List.take_of_length_le (by omega)]
    obtain ⟨p', rfl⟩ : ∃ p' : Nat, p = p' := ⟨p.toNat, by omega⟩
    obtain ⟨q', rfl⟩ : ∃ q' : Nat, q = q' := ⟨q.toNat, by omega⟩
    simp only [Int.toNat_natCast] at ho
    have hk := G.skis
    obtain ⟨F2, hF2⟩ : ∃ F2, F2 = encO (wth (clo (prs er (rs.take i)) o0) p' q') := ⟨_, rfl⟩
    have hm : (List.map V.d F2).length = 64 := by rw [List.length_map, hF2, encO_length]
    conv => whnf
    refine sy_of HE ?_
    conv => whnf
    rw [hdl]
    conv => whnf
    rw [hdd]
    conv => whnf
    repeat (rw [fL_rec]; conv => whnf)
    refine Rets.use (with_ok _ (by omega) (by omega) hF hF2) ?_
    conv => whnf
    repeat (rw [fL_rec]; conv => whnf)
    rw [hm]
    conv => whnf
    rw [show (Cells.ds (deL sk er rs F)).len = 67 from hdl]
    conv => whnf
    rw [write_de hFl (by rw [hF2, encO_length])]
    conv => whnf
    rw [wrap_succ (by omega)]
    exact ih (i + 1, F2) ⟨by simp only; omega, by simp only; rw [prs_take hr, ho, clo_append]; exact hF2⟩ (by simp only; omega)
theorem asked_bad (sk er : Int) (rs : List Run3) (hl : rs.length < 4611686018427387904) (hc : eqI (chk sk er rs) 0 = false) :
    Rets Tryz.prog E 21 [.d (laD sk er rs)] (.d (.tuple [.nilptr, .int .i64 (chk sk er rs)])) := by
  refine sm_of HE true (by kernel_rfl) ?_
  unfold laD labL
  conv => whnf
  refine Rets.use (check_ok sk er rs hl) ?_
  conv => whnf
  rw [hc]
  conv => whnf
  exact ⟨rfl, rfl⟩
def o0 : Ord := fun _ _ => false
def deO (sk er : Int) (rs : List Run3) (F : List D) : List O := [.row (.ds (deL sk er rs F)) 0 0 []]
theorem asked_ok (sk er : Int) (rs : List Run3) (hc : chk sk er rs = 0) {F : List D} (hF : F = encO (clo (prs er rs) o0)) :
    Sm Tryz.prog E 21 [.d (laD sk er rs)] [] (fun v h => v = .tuple [.ptr 0 0 0 67, .d (.int .i64 0)] ∧ h = deO sk er rs F) := by
  have G := chk_zero hc
  have hchk := check_ok sk er rs (by have := G.n; omega)
  rw [hc] at hchk
  refine sm_of HE false (by kernel_rfl) ?_
  unfold laD labL
  conv => whnf
  refine Rets.use hchk ?_
  conv => whnf
  refine Rets.use (shown_ok sk er rs) ?_
  conv => whnf
  refine Sm.mono (each21 sk er rs G (o0 := o0) (F0 := List.replicate 64 (.bool false)) rfl) ?_
  rintro v h ⟨rfl, F', rfl, hF'⟩
  obtain rfl : F' = F := hF'.trans hF.symm
  conv => whnf
  exact ⟨rfl, rfl⟩
/-! ### A ski that is faster than itself -/
def cnf (o : Ord) : Nat → Nat → Int
  | 0, _ => -1
  | n + 1, i => if o i i then (i : Int) else cnf o n (i + 1)
theorem encO_get0 (o : Ord) {a b : Nat} (ha : a < 8) (hb : b < 8) {F : List D} (hF : F = encO o) (sk er : Int) (rs : List Run3) : (deL sk er rs F)[0 + 3 + a * 8 + b * 1]? = some (.bool (o a b)) := by
  have e : 0 + 3 + a * 8 + b * 1 = (a * 8 + b * 1) + 1 + 1 + 1 := by omega
  rw [e, hF]
  exact encO_get o ha hb
theorem conflict_ok {sk er : Int} {rs : List Run3} (G : Good sk er rs) {o : Ord} {F : List D} (hF : F = encO o) :
    Sm Tryz.prog E 22 [.ptr 0 0 0 67] (deO sk er rs F) (fun v h => v = .d (.int .i64 (cnf o sk.toNat 0)) ∧ h = deO sk er rs F) := by
  have hk := G.skis
  obtain ⟨n, rfl⟩ : ∃ n : Nat, sk = n := ⟨sk.toNat, by omega⟩
  refine sm_of HE true (by kernel_rfl) ?_
  unfold deO
  conv => whnf
  refine loops_by (fun i : Nat => ⟨22, [(0, .ptr 0 0 0 67), (2, .d (.int .i64 0)), (8, .d (.int .i64 n)), (9, .d (.int .i64 i))], .unk, deO n er rs F, []⟩)
    (fun i => i ≤ n ∧ cnf o n 0 = cnf o (n - i) i) (fun i => n - i) 0 ⟨Nat.zero_le _, rfl⟩ ?_
  rintro f i ⟨hi, hid⟩ ih
  conv => whnf
  cases h1 : ltI (i : Int) (n : Int)
  · have hn : n ≤ i := by rw [ltI_eq] at h1; have := of_decide_eq_false h1; omega
    conv => whnf
    refine ⟨?_, rfl⟩
    rw [Int.toNat_natCast, hid, show n - i = 0 by omega]; rfl
  have hlt : i < n := by rw [ltI_eq] at h1; have := of_decide_eq_true h1; omega
  have hb : Nat.blt i 8 = true := by simp [Nat.blt_eq]; omega
  have hs : cnf o (n - i) i = if o i i then (i : Int) else cnf o (n - (i + 1)) (i + 1) := by
    rw [show n - i = (n - (i + 1)) + 1 by omega, cnf]
  conv => whnf
  rw [hb]
  conv => whnf
  rw [hb]
  conv => whnf
  rw [show Nat.ble (0 + 3 + i * 8 + i * 1 + 1) 67 = true from Nat.ble_eq_true_of_le (by omega)]
  conv => whnf
  rw [encO_get0 o (by omega) (by omega) hF]
  cases h2 : o i i
  · conv => whnf
    rw [wrap_succ (by omega)]
    exact ih (i + 1) ⟨by omega, by rw [hid, hs, h2]; rfl⟩ (by omega)
  · conv => whnf
    refine ⟨?_, rfl⟩
    rw [Int.toNat_natCast, hid, hs, h2]; rfl
theorem cnf_spec (o : Ord) : ∀ (n i : Nat), (cnf o n i = -1 ∧ ∀ j : Nat, i ≤ j → j < i + n → o j j = false) ∨ (∃ j : Nat, cnf o n i = (j : Int) ∧ i ≤ j ∧ j < i + n ∧ o j j = true)
  | 0, i => .inl ⟨rfl, fun j h1 h2 => by omega⟩
  | n + 1, i => by
    unfold cnf
    by_cases h : o i i = true
    · rw [if_pos h]; exact .inr ⟨i, rfl, Nat.le_refl _, by omega, h⟩
    · rw [if_neg h]
      rcases cnf_spec o n (i + 1) with ⟨h1, h2⟩ | ⟨j, h1, h2, h3, h4⟩
      · refine .inl ⟨h1, fun j h3 h4 => ?_⟩
        by_cases hj : j = i
        · subst hj; simpa using h
        · exact h2 j (by omega) (by omega)
      · exact .inr ⟨j, h1, by omega, by omega, h4⟩
/-- The error of a lab that is agreed upon. -/
def agE (o : Ord) (sk : Int) : Int := match leI 0 (cnf o sk.toNat 0) with
  | true => 7
  | false => 0
theorem agreed_ok (sk er : Int) (rs : List Run3) (hc : chk sk er rs = 0) {o : Ord} (ho : o = clo (prs er rs) o0) {F : List D} (hF : F = encO o) :
    Sm Tryz.prog E 19 [.d (laD sk er rs)] [] (fun v h => v = .tuple [.ptr 0 0 0 67, .d (.int .i64 (agE o sk))] ∧ h = deO sk er rs F) := by
  have G := chk_zero hc
  have ha := asked_ok sk er rs hc (F := F) (by rw [hF, ho])
  have hcf := conflict_ok G hF
  unfold deO at ha hcf
  refine sm_of HE false (by kernel_rfl) ?_
  unfold laD labL agE deO
  conv => whnf
  refine Sm.mono ha ?_
  rintro v h ⟨rfl, rfl⟩
  conv => whnf
  refine Sm.mono hcf ?_
  rintro v h ⟨rfl, rfl⟩
  conv => whnf
  cases h1 : leI 0 (cnf o sk.toNat 0)
  · conv => whnf
    exact ⟨rfl, rfl⟩
  · conv => whnf
    exact ⟨rfl, rfl⟩
end Go.Proofs.Rx
