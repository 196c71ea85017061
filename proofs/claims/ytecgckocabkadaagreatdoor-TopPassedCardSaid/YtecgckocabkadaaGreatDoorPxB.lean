/- PxB: a part of the proof of this claim. -/
import Derived.Test.YtecgckocabkadaaGreatDoorPxA
namespace Go.Proofs.Px
open Go Go.Ab
set_option maxRecDepth 100000
set_option maxHeartbeats 1000000
theorem c16 (k : Nat) (p : Int → Bool) (hp : ∀ x : Int, Sm Tryz.prog E 54 [.d (.int .i64 x), .ptr 0 0 0 1] [boxF k] (fun v h => v = .d (.bool (p x)) ∧ h = [boxF k])) (l : List Int) (hl : l.length < 4611686018427387904) :
    Sm Tryz.prog E 16 [.d (.slice l.length 1 (encI l)), .func 54 [] [.ptr 0 0 0 1]] [boxF k] (fun v h => v = .d (.bool (anyB p l)) ∧ h = [boxF k]) := by
  refine sm_of HE true (by kernel_rfl) ?_
  conv => whnf
  refine Sm.mono (idx33 k p hp l hl) ?_
  rintro v h ⟨rfl, rfl⟩
  conv => whnf
  exact ⟨by rw [← idxB_nonneg p l 0], rfl⟩
theorem c16' (k : Nat) (p : Int → Bool) (hp : ∀ x : Int, Rets Tryz.prog E k [.d (.int .i64 x)] (.d (.bool (p x)))) (l : List Int) (hl : l.length < 4611686018427387904) :
    Rets Tryz.prog E 16 [.d (.slice l.length 1 (encI l)), .d (.func k [] [])] (.d (.bool (anyB p l))) := by
  refine sm_of HE true (by kernel_rfl) ?_
  conv => whnf
  refine Sm.mono (idx33' k p hp l hl) ?_
  rintro v h ⟨rfl, rfl⟩
  conv => whnf
  exact ⟨by rw [← idxB_nonneg p l 0], rfl⟩
theorem far_ok (l : List Int) (hl : l.length < 4611686018427387904) : Rets Tryz.prog E 4 [.d (.slice l.length 1 (encI l))] (.d (.bool (anyB farB l))) := by
  refine sm_of HE true (by kernel_rfl) ?_
  conv => whnf
  refine Rets.use (c16' 17 farB far1_ok l hl) ?_
  conv => whnf
  exact ⟨rfl, rfl⟩
theorem c43 (n : Int) : Rets Tryz.prog E 43 [.d (.int .i64 n)] (.d (.bool (inB n 0 20000))) := by
  refine sm_of HE true (by kernel_rfl) ?_
  conv => whnf
  refine Rets.use (within_ok n 0 20000) ?_
  conv => whnf
  exact ⟨rfl, rfl⟩
theorem c54 (k : Nat) (q : Int → Bool) (hq : ∀ x : Int, Rets Tryz.prog E k [.d (.int .i64 x)] (.d (.bool (q x)))) (x : Int) :
    Sm Tryz.prog E 54 [.d (.int .i64 x), .ptr 0 0 0 1] [boxF k] (fun v h => v = .d (.bool (notB (q x))) ∧ h = [boxF k]) := by
  refine sm_of HE true (by kernel_rfl) ?_
  conv => whnf
  refine Rets.use (hq x) ?_
  conv => whnf
  exact ⟨rfl, rfl⟩
/-- Something is true of each element. -/
def allB {α : Type} (q : α → Bool) (l : List α) : Bool := notB (anyB (fun x => notB (q x)) l)
theorem c42 (k : Nat) (q : Int → Bool) (hq : ∀ x : Int, Rets Tryz.prog E k [.d (.int .i64 x)] (.d (.bool (q x)))) (l : List Int) (hl : l.length < 4611686018427387904) :
    Rets Tryz.prog E 42 [.d (.slice l.length 1 (encI l)), .d (.func k [] [])] (.d (.bool (allB q l))) := by
  refine sm_of HE true (by kernel_rfl) ?_
  conv => whnf
  refine Sm.mono (c16 k (fun x => notB (q x)) (c54 k q hq) l hl) ?_
  rintro v h ⟨rfl, rfl⟩
  conv => whnf
  exact ⟨rfl, rfl⟩
/-! ### Pairs -/
def encP (l : List (Int × Int)) : List D := l.flatMap fun p => [.int .i64 p.1, .int .i64 p.2]
theorem encP_length : ∀ l : List (Int × Int), (encP l).length = l.length * 2
  | [] => rfl
  | p :: l => by
    have := encP_length l
    simp only [encP, List.flatMap_cons, List.length_append, List.length_cons, List.length_nil] at *
    omega
theorem encP_at : ∀ {l : List (Int × Int)} {i : Nat} {p : Int × Int}, l[i]? = some p → ((encP l).drop (i * 2)).take 2 = [.int .i64 p.1, .int .i64 p.2]
  | [], _, _, h => by simp at h
  | q :: l, 0, p, h => by simp at h; subst h; rfl
  | q :: l, i + 1, p, h => by
    have := encP_at (l := l) (i := i) (by simpa using h)
    have e : (i + 1) * 2 = i * 2 + 2 := by omega
    rw [e]
    simpa [encP] using this
theorem encP_fst {l : List (Int × Int)} {i : Nat} {p : Int × Int} (h : l[i]? = some p) : (encP l)[i * 2]? = some (.int .i64 p.1) := by
  have := congrArg (fun x => x[0]?) (encP_at h)
  simpa using this
theorem encP_snd {l : List (Int × Int)} {i : Nat} {p : Int × Int} (h : l[i]? = some p) : (encP l)[i * 2 + 1]? = some (.int .i64 p.2) := by
  have := congrArg (fun x => x[1]?) (encP_at h)
  simpa using this
theorem encP_fst0 {l : List (Int × Int)} {i : Nat} {p : Int × Int} (h : l[i]? = some p) : (encP l)[i * 2 + 0]? = some (.int .i64 p.1) := encP_fst h
theorem encI_get1 {l : List Int} {m : Nat} {a : Int} (h : l[m]? = some a) : (encI l)[m * 1]? = some (.int .i64 a) := by rw [Nat.mul_one]; exact encI_get h
theorem idx60 (k : Nat) (p : Int × Int → Bool) (hp : ∀ x : Int × Int, Sm Tryz.prog E 53 [.d (.agg [.int .i64 x.1, .int .i64 x.2]), .ptr 0 0 0 1] [boxF k] (fun v h => v = .d (.bool (p x)) ∧ h = [boxF k])) (l : List (Int × Int)) (hl : l.length < 4611686018427387904) :
    Sm Tryz.prog E 60 [.d (.slice l.length 2 (encP l)), .func 53 [] [.ptr 0 0 0 1]] [boxF k] (fun v h => v = .d (.int .i64 (idxB p l 0)) ∧ h = [boxF k]) := by
  refine sm_of HE true (by kernel_rfl) ?_
  conv => whnf
  refine loops_by (fun i : Nat => ⟨19, [(0, .d (.slice l.length 2 (encP l))), (1, .func 53 [] [.ptr 0 0 0 1]), (4, .d (.int .i64 0)), (7, .d (.int .i64 l.length)), (8, .d (.int .i64 i))], .unk, [boxF k], []⟩)
    (fun i => i ≤ l.length ∧ idxB p l 0 = idxB p (l.drop i) i) (fun i => l.length - i) 0 ⟨Nat.zero_le _, rfl⟩ ?_
  intro n i ⟨hi, hid⟩ ih
  conv => whnf
  cases h1 : ltI (i : Int) (l.length : Int)
  · conv => whnf
    have hn : l.length ≤ i := by rw [ltI_eq] at h1; have := of_decide_eq_false h1; omega
    refine ⟨?_, rfl⟩
    rw [hid, List.drop_eq_nil_of_le hn]; rfl
  · have hlt : i < l.length := by rw [ltI_eq] at h1; have := of_decide_eq_true h1; omega
    have hb : Nat.blt i l.length = true := by simpa [Nat.blt_eq] using hlt
    obtain ⟨a, ha⟩ : ∃ a, l[i]? = some a := ⟨l[i], by simp [hlt]⟩
    conv => whnf
    rw [hb]
    conv => whnf
    rw [show Nat.ble (i * 2 + 2) (encP l).length = true from Nat.ble_eq_true_of_le (by rw [encP_length]; omega)]
    conv => whnf
    rw [encP_at ha]
    conv => whnf
    refine Sm.mono (hp a) ?_
    rintro v h ⟨rfl, rfl⟩
    conv => whnf
    cases h2 : p a
    · conv => whnf
      rw [wrap_succ (by omega)]
      exact ih (i + 1) ⟨by omega, by rw [hid, idxB_at ha, h2]⟩ (by omega)
    · conv => whnf
      refine ⟨?_, rfl⟩
      rw [hid, idxB_at ha, h2]; rfl
theorem c52 (k : Nat) (p : Int × Int → Bool) (hp : ∀ x : Int × Int, Sm Tryz.prog E 53 [.d (.agg [.int .i64 x.1, .int .i64 x.2]), .ptr 0 0 0 1] [boxF k] (fun v h => v = .d (.bool (p x)) ∧ h = [boxF k])) (l : List (Int × Int)) (hl : l.length < 4611686018427387904) :
    Sm Tryz.prog E 52 [.d (.slice l.length 2 (encP l)), .func 53 [] [.ptr 0 0 0 1]] [boxF k] (fun v h => v = .d (.bool (anyB p l)) ∧ h = [boxF k]) := by
  refine sm_of HE true (by kernel_rfl) ?_
  conv => whnf
  refine Sm.mono (idx60 k p hp l hl) ?_
  rintro v h ⟨rfl, rfl⟩
  conv => whnf
  exact ⟨by rw [← idxB_nonneg p l 0], rfl⟩
theorem c53 (k : Nat) (q : Int × Int → Bool) (hq : ∀ x : Int × Int, Rets Tryz.prog E k [.d (.agg [.int .i64 x.1, .int .i64 x.2])] (.d (.bool (q x)))) (x : Int × Int) :
    Sm Tryz.prog E 53 [.d (.agg [.int .i64 x.1, .int .i64 x.2]), .ptr 0 0 0 1] [boxF k] (fun v h => v = .d (.bool (notB (q x))) ∧ h = [boxF k]) := by
  refine sm_of HE true (by kernel_rfl) ?_
  conv => whnf
  refine Rets.use (hq x) ?_
  conv => whnf
  exact ⟨rfl, rfl⟩
theorem c40 (k : Nat) (q : Int × Int → Bool) (hq : ∀ x : Int × Int, Rets Tryz.prog E k [.d (.agg [.int .i64 x.1, .int .i64 x.2])] (.d (.bool (q x)))) (l : List (Int × Int)) (hl : l.length < 4611686018427387904) :
    Rets Tryz.prog E 40 [.d (.slice l.length 2 (encP l)), .d (.func k [] [])] (.d (.bool (allB q l))) := by
  refine sm_of HE true (by kernel_rfl) ?_
  conv => whnf
  refine Sm.mono (c52 k (fun x => notB (q x)) (c53 k q hq) l hl) ?_
  rintro v h ⟨rfl, rfl⟩
  conv => whnf
  exact ⟨rfl, rfl⟩
def testOk (x : Int × Int) : Bool := andB (inB x.1 1 10000) (inB x.2 0 20000)
theorem c41 (x : Int × Int) : Rets Tryz.prog E 41 [.d (.agg [.int .i64 x.1, .int .i64 x.2])] (.d (.bool (testOk x))) := by
  refine sm_of HE true (by kernel_rfl) ?_
  conv => whnf
  refine Rets.use (within_ok x.1 1 10000) ?_
  conv => whnf
  unfold testOk
  cases h1 : inB x.1 1 10000
  · conv => whnf
    exact ⟨rfl, rfl⟩
  · conv => whnf
    refine Rets.use (within_ok x.2 0 20000) ?_
    conv => whnf
    exact ⟨rfl, rfl⟩
/-! ### A scale's check -/
def scD (e l : Int) (ts : List (Int × Int)) (rs : List Int) : D := .agg [.int .i64 e, .int .i64 l, .slice ts.length 2 (encP ts), .slice rs.length 1 (encI rs)]
def chk (e l : Int) (ts : List (Int × Int)) (rs : List Int) : Int :=
  match orB (ltI 10 ts.length) (notB (inB rs.length 1 8)) with
  | true => 2
  | false => match orB (notB (inB e 0 100)) (notB (inB l 1 10000)) with
    | true => 3
    | false => match notB (allB testOk ts) with
      | true => 3
      | false => match notB (allB (fun n => inB n 0 20000) rs) with
        | true => 3
        | false => 0
theorem check_ok (e l : Int) (ts : List (Int × Int)) (rs : List Int) (h1 : ts.length < 4611686018427387904) (h2 : rs.length < 4611686018427387904) :
    Rets Tryz.prog E 24 [.d (scD e l ts rs)] (.d (.int .i64 (chk e l ts rs))) := by
  refine sm_of HE true (by kernel_rfl) ?_
  unfold scD chk
  conv => whnf
  cases g1 : ltI 10 (ts.length : Int)
  · conv => whnf
    refine Rets.use (within_ok rs.length 1 8) ?_
    conv => whnf
    cases g2 : inB (rs.length : Int) 1 8
    · conv => whnf
      exact ⟨rfl, rfl⟩
    · conv => whnf
      refine Rets.use (within_ok e 0 100) ?_
      conv => whnf
      cases g3 : inB e 0 100
      · conv => whnf
        exact ⟨rfl, rfl⟩
      · conv => whnf
        refine Rets.use (within_ok l 1 10000) ?_
        conv => whnf
        cases g4 : inB l 1 10000
        · conv => whnf
          exact ⟨rfl, rfl⟩
        · conv => whnf
          refine Rets.use (c40 41 testOk c41 ts h1) ?_
          conv => whnf
          cases g5 : allB testOk ts
          · conv => whnf
            exact ⟨rfl, rfl⟩
          · conv => whnf
            refine Rets.use (c42 43 _ c43 rs h2) ?_
            conv => whnf
            cases g6 : allB (fun n => inB n 0 20000) rs
            · conv => whnf
              exact ⟨rfl, rfl⟩
            · conv => whnf
              exact ⟨rfl, rfl⟩
  · conv => whnf
    exact ⟨rfl, rfl⟩
/-! ### The reference's check -/
theorem refCheck_ok (e l : Int) (ts : List (Int × Int)) (rs : List Int) (h1 : ts.length < 4611686018427387904) (h2 : rs.length < 4611686018427387904) :
    Rets Tryz.prog E 5 [.d (scD e l ts rs)] (.d (.int .i64 (chk e l ts rs))) := by
  refine sm_of HE true (by kernel_rfl) ?_
  unfold scD chk
  have hlen : orB (ltI 10 (ts.length : Int)) (notB (inB (rs.length : Int) 1 8)) = orB (orB (ltI 10 (ts.length : Int)) (ltI (rs.length : Int) 1)) (ltI 8 (rs.length : Int)) := by
    rw [← out_in]
    cases ltI 10 (ts.length : Int) <;> rfl
  rw [hlen]
  conv => whnf
  cases g1 : ltI 10 (ts.length : Int)
  · conv => whnf
    cases g2 : ltI (rs.length : Int) 1
    · conv => whnf
      cases g2' : ltI 8 (rs.length : Int)
      · conv => whnf
        refine Rets.use (outside_ok e 0 100) ?_
        conv => whnf
        cases g3 : inB e 0 100
        · conv => whnf
          exact ⟨rfl, rfl⟩
        · conv => whnf
          refine Rets.use (outside_ok l 1 10000) ?_
          conv => whnf
          cases g4 : inB l 1 10000
          · conv => whnf
            exact ⟨rfl, rfl⟩
          · conv => whnf
            refine loops_by (fun i : Nat => ⟨65, [(1, .ptr 0 0 0 4), (2, .d (.int .i64 0)), (3, .d (.int .i64 i))], .unk, [.row (.ds [.int .i64 e, .int .i64 l, .slice ts.length 2 (encP ts), .slice rs.length 1 (encI rs)]) 0 0 []], []⟩)
              (fun i => i ≤ ts.length ∧ anyB (fun x => notB (testOk x)) ts = anyB (fun x => notB (testOk x)) (ts.drop i)) (fun i => ts.length - i) 0 ⟨Nat.zero_le _, rfl⟩ ?_
            intro n i ⟨hi, hid⟩ ih
            conv => whnf
            cases h1 : ltI (i : Int) (ts.length : Int)
            · conv => whnf
              have hn : ts.length ≤ i := by rw [ltI_eq] at h1; have := of_decide_eq_false h1; omega
              have hall : allB testOk ts = true := by unfold allB; rw [hid, List.drop_eq_nil_of_le hn]; rfl
              rw [hall]
              refine loops_by (fun i : Nat => ⟨65, [(1, .ptr 0 0 0 4), (2, .d (.int .i64 0)), (4, .d (.int .i64 i))], .unk, [.row (.ds [.int .i64 e, .int .i64 l, .slice ts.length 2 (encP ts), .slice rs.length 1 (encI rs)]) 0 0 []], []⟩)
                (fun i => i ≤ rs.length ∧ anyB (fun x => notB (inB x 0 20000)) rs = anyB (fun x => notB (inB x 0 20000)) (rs.drop i)) (fun i => rs.length - i) 0 ⟨Nat.zero_le _, rfl⟩ ?_
              clear ih hid hall h1 hn hi
              intro n i ⟨hi, hid⟩ ih
              conv => whnf
              cases h1 : ltI (i : Int) (rs.length : Int)
              · have hn : rs.length ≤ i := by rw [ltI_eq] at h1; have := of_decide_eq_false h1; omega
                have hall : allB (fun n => inB n 0 20000) rs = true := by unfold allB; rw [hid, List.drop_eq_nil_of_le hn]; rfl
                rw [hall]
                conv => whnf
                exact ⟨rfl, rfl⟩
              · have hlt : i < rs.length := by rw [ltI_eq] at h1; have := of_decide_eq_true h1; omega
                have hb : Nat.blt i rs.length = true := by simpa [Nat.blt_eq] using hlt
                obtain ⟨a, ha⟩ : ∃ a, rs[i]? = some a := ⟨rs[i], by simp [hlt]⟩
                conv => whnf
                rw [hb]
                conv => whnf
                rw [encI_get1 ha]
                conv => whnf
                refine Rets.use (outside_ok a 0 20000) ?_
                conv => whnf
                cases h2 : inB a 0 20000
                · conv => whnf
                  refine ⟨?_, rfl⟩
                  unfold allB
                  rw [hid, anyB_at ha, h2]; rfl
                · conv => whnf
                  rw [wrap_succ (by omega)]
                  exact ih (i + 1) ⟨by omega, by rw [hid, anyB_at ha, h2]; rfl⟩ (by omega)
            · have hlt : i < ts.length := by rw [ltI_eq] at h1; have := of_decide_eq_true h1; omega
              have hb : Nat.blt i ts.length = true := by simpa [Nat.blt_eq] using hlt
              obtain ⟨a, ha⟩ : ∃ a, ts[i]? = some a := ⟨ts[i], by simp [hlt]⟩
              conv => whnf
              rw [hb]
              conv => whnf
              rw [encP_fst0 ha]
              conv => whnf
              refine Rets.use (outside_ok a.1 1 10000) ?_
              have hstep : ∀ b, testOk a = b → anyB (fun x => notB (testOk x)) ts = match b with | true => anyB (fun x => notB (testOk x)) (ts.drop (i + 1)) | false => true := by
                intro b hb
                rw [hid, anyB_at ha, hb]
                cases b <;> rfl
              conv => whnf
              cases h2 : inB a.1 1 10000
              · conv => whnf
                refine ⟨?_, rfl⟩
                unfold allB
                rw [hstep false (by unfold testOk; rw [h2]; rfl)]; rfl
              · conv => whnf
                rw [hb]
                conv => whnf
                rw [encP_snd ha]
                conv => whnf
                refine Rets.use (outside_ok a.2 0 20000) ?_
                conv => whnf
                cases h3 : inB a.2 0 20000
                · conv => whnf
                  refine ⟨?_, rfl⟩
                  unfold allB
                  rw [hstep false (by unfold testOk; rw [h2, h3]; rfl)]; rfl
                · conv => whnf
                  rw [wrap_succ (by omega)]
                  exact ih (i + 1) ⟨by omega, hstep true (by unfold testOk; rw [h2, h3]; rfl)⟩ (by omega)
      · conv => whnf
        exact ⟨rfl, rfl⟩
    · conv => whnf
      exact ⟨rfl, rfl⟩
  · conv => whnf
    exact ⟨rfl, rfl⟩
end Go.Proofs.Px
