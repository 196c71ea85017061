/- PxC: a part of the proof of this claim. -/
import Derived.Test.YtecgckocabkadaaGreatDoorPxB
namespace Go.Proofs.Px
open Go Go.Ab
set_option maxRecDepth 100000
set_option maxHeartbeats 1000000
def spD (lo hi : Int) : D := .agg [.int .i64 lo, .int .i64 hi]
theorem greatest_ok (a b : Int) : Sm Tryz.prog E 44 [.d (.int .i64 a), .slice 0 0 0 1 1] [.row (.ds [.int .i64 b]) 0 0 []] (fun v h => v = .d (.int .i64 (maxI a b)) ∧ h = [.row (.ds [.int .i64 b]) 0 0 []]) := by
  refine sm_of HE true (by kernel_rfl) ?_
  conv => whnf
  refine ⟨2, ?_⟩
  conv => whnf
  exact ⟨rfl, rfl⟩
theorem allows_ok (e l : Int) (ts : List (Int × Int)) (rs : List Int) (p : Int × Int) (he : 0 ≤ e ∧ e ≤ 100) (h1 : 1 ≤ p.1 ∧ p.1 ≤ 10000) (h2 : 0 ≤ p.2 ∧ p.2 ≤ 20000) :
    Rets Tryz.prog E 26 [.d (scD e l ts rs), .d (.agg [.int .i64 p.1, .int .i64 p.2])] (.d (spD (maxI (-1000) (p.2 - p.1 - e)) (minI 1000 (p.2 - p.1 + e)))) := by
  refine sm_of HE true (by kernel_rfl) ?_
  unfold scD spD
  conv => whnf
  rw [wrap_i64 (n := p.2 - p.1) (by omega) (by omega), wrap_i64 (n := p.2 - p.1 - e) (by omega) (by omega), wrap_i64 (n := p.2 - p.1 + e) (by omega) (by omega)]
  exact ⟨rfl, rfl⟩
theorem common_ok (a b c d : Int) : Rets Tryz.prog E 25 [.d (spD a b), .d (spD c d)] (.d (spD (maxI a c) (minI b d))) := by
  refine sm_of HE true (by kernel_rfl) ?_
  unfold spD
  conv => whnf
  refine Sm.mono (greatest_ok a c) ?_
  rintro v h ⟨rfl, rfl⟩
  conv => whnf
  exact ⟨rfl, rfl⟩
/-! ### The offsets that all tests allow -/
def offs (e : Int) : List (Int × Int) → Int → Int → Int × Int
  | [], lo, hi => (lo, hi)
  | p :: l, lo, hi => offs e l (maxI lo (maxI (-1000) (p.2 - p.1 - e))) (minI hi (minI 1000 (p.2 - p.1 + e)))
theorem offs_at {e : Int} {l : List (Int × Int)} {i : Nat} {p : Int × Int} (h : l[i]? = some p) (lo hi : Int) : offs e (l.drop i) lo hi = offs e (l.drop (i + 1)) (maxI lo (maxI (-1000) (p.2 - p.1 - e))) (minI hi (minI 1000 (p.2 - p.1 + e))) := by
  obtain ⟨hi', rfl⟩ := List.getElem?_eq_some_iff.1 h
  rw [List.drop_eq_getElem_cons hi', offs]
/-- What a desk holds. -/
def deskL (e l : Int) (ts : List (Int × Int)) (rs : List Int) (lo hi : Int) : List D :=
  [.int .i64 e, .int .i64 l, .slice ts.length 2 (encP ts), .slice rs.length 1 (encI rs), .int .i64 lo, .int .i64 hi,
    .bool false, .bool false, .bool false, .bool false, .bool false, .bool false, .bool false, .bool false,
    .bool false, .bool false, .bool false, .bool false, .bool false, .bool false, .bool false, .bool false]
/-- A scale that is in order. -/
structure Good (e l : Int) (ts : List (Int × Int)) (rs : List Int) : Prop where
  tn : ts.length ≤ 10
  rn : 1 ≤ rs.length ∧ rs.length ≤ 8
  e : 0 ≤ e ∧ e ≤ 100
  l : 1 ≤ l ∧ l ≤ 10000
  t : ∀ p ∈ ts, (1 ≤ p.1 ∧ p.1 ≤ 10000) ∧ (0 ≤ p.2 ∧ p.2 ≤ 20000)
  r : ∀ n ∈ rs, 0 ≤ n ∧ n ≤ 20000
theorem inB_true {n lo hi : Int} (h : inB n lo hi = true) : lo ≤ n ∧ n ≤ hi := by
  unfold inB at h
  obtain ⟨h1, h2⟩ := andB_true h
  rw [leI_eq] at h1 h2
  exact ⟨of_decide_eq_true h1, of_decide_eq_true h2⟩
theorem anyB_false {α : Type} {p : α → Bool} : ∀ {l : List α}, anyB p l = false → ∀ a ∈ l, p a = false
  | [], _, a, ha => by simp at ha
  | b :: l, h, a, ha => by
    unfold anyB at h
    split at h
    · cases h
    · rename_i hb
      rcases List.mem_cons.1 ha with rfl | ha
      · exact hb
      · exact anyB_false h a ha
theorem allB_true {α : Type} {q : α → Bool} {l : List α} (h : allB q l = true) : ∀ a ∈ l, q a = true := fun a ha => by
  unfold allB at h
  have h1 : anyB (fun x => notB (q x)) l = false := by cases hh : anyB (fun x => notB (q x)) l with | true => rw [hh] at h; cases h | false => rfl
  have := anyB_false h1 a ha
  cases hq : q a with
  | true => rfl
  | false => simp only [hq] at this; cases this
theorem chk_zero {e l : Int} {ts : List (Int × Int)} {rs : List Int} (h : chk e l ts rs = 0) : Good e l ts rs := by
  unfold chk at h
  split at h
  · cases h
  rename_i g1
  split at h
  · cases h
  rename_i g2
  split at h
  · cases h
  rename_i g3
  split at h
  · cases h
  rename_i g4
  have orf : ∀ {a b : Bool}, orB a b = false → a = false ∧ b = false := by intro a b; cases a <;> cases b <;> simp [orB]
  have ntf : ∀ {a : Bool}, notB a = false → a = true := by intro a; cases a <;> simp [notB]
  obtain ⟨a1, a2⟩ := orf g1
  obtain ⟨b1, b2⟩ := orf g2
  have c1 := inB_true (ntf a2)
  rw [ltI_eq] at a1
  have c2 := of_decide_eq_false a1
  have t1 := allB_true (ntf g3)
  have t2 := allB_true (ntf g4)
  refine ⟨by omega, by omega, inB_true (ntf b1), inB_true (ntf b2), fun p hp => ?_, fun n hn => inB_true (t2 n hn)⟩
  have := t1 p hp
  unfold testOk at this
  obtain ⟨h1, h2⟩ := andB_true this
  exact ⟨inB_true h1, inB_true h2⟩
theorem asked_bad (e l : Int) (ts : List (Int × Int)) (rs : List Int) (h1 : ts.length < 4611686018427387904) (h2 : rs.length < 4611686018427387904) (hc : eqI (chk e l ts rs) 0 = false) :
    Rets Tryz.prog E 21 [.d (scD e l ts rs)] (.d (.tuple [.nilptr, .int .i64 (chk e l ts rs)])) := by
  refine sm_of HE true (by kernel_rfl) ?_
  unfold scD
  conv => whnf
  refine Rets.use (check_ok e l ts rs h1 h2) ?_
  conv => whnf
  rw [hc]
  conv => whnf
  exact ⟨rfl, rfl⟩
theorem asked_ok (e l : Int) (ts : List (Int × Int)) (rs : List Int) (hc : chk e l ts rs = 0) :
    Rets Tryz.prog E 21 [.d (scD e l ts rs)] (.d (match ltI (offs e ts (-1000) 1000).2 (offs e ts (-1000) 1000).1 with
      | true => .tuple [.nilptr, .int .i64 7]
      | false => .tuple [.ptr (deskL e l ts rs (offs e ts (-1000) 1000).1 (offs e ts (-1000) 1000).2) 0, .int .i64 0])) := by
  have G := chk_zero hc
  have hchk := check_ok e l ts rs (by have := G.tn; omega) (by have := G.rn; omega)
  rw [hc] at hchk
  refine sm_of HE true (by kernel_rfl) ?_
  unfold scD
  conv => whnf
  refine Rets.use hchk ?_
  conv => whnf
  refine loops_by (fun x : Nat × Int × Int => ⟨56, [(1, .ptr 0 0 0 4), (2, .d .nilptr), (3, .d (.int .i64 0)), (5, .ptr 1 0 0 22), (22, .d (.slice ts.length 2 (encP ts))), (23, .d (.int .i64 ts.length)), (24, .d (.int .i64 x.1))], .unk,
      [.row (.ds [.int .i64 e, .int .i64 l, .slice ts.length 2 (encP ts), .slice rs.length 1 (encI rs)]) 0 0 [], .row (.ds (deskL e l ts rs x.2.1 x.2.2)) 0 0 []], []⟩)
    (fun x => x.1 ≤ ts.length ∧ offs e (ts.drop x.1) x.2.1 x.2.2 = offs e ts (-1000) 1000) (fun x => ts.length - x.1) (0, -1000, 1000) ⟨Nat.zero_le _, rfl⟩ ?_
  rintro n ⟨i, lo, hi⟩ ⟨hle, hid⟩ ih
  simp only at hle hid
  conv => whnf
  cases h1 : ltI (i : Int) (ts.length : Int)
  · have hn : ts.length ≤ i := by rw [ltI_eq] at h1; have := of_decide_eq_false h1; omega
    rw [List.drop_eq_nil_of_le hn, offs] at hid
    rw [← hid]
    conv => whnf
    cases h2 : ltI hi lo
    · conv => whnf
      exact ⟨rfl, rfl⟩
    · conv => whnf
      exact ⟨rfl, rfl⟩
  · have hlt : i < ts.length := by rw [ltI_eq] at h1; have := of_decide_eq_true h1; omega
    have hb : Nat.blt i ts.length = true := by simpa [Nat.blt_eq] using hlt
    obtain ⟨a, ha⟩ : ∃ a, ts[i]? = some a := ⟨ts[i], by simp [hlt]⟩
    obtain ⟨b1, b2⟩ := G.t a (List.mem_of_getElem? ha)
    conv => whnf
    rw [hb]
    conv => whnf
    rw [show Nat.ble (i * 2 + 2) (encP ts).length = true from Nat.ble_eq_true_of_le (by rw [encP_length]; omega)]
    conv => whnf
    rw [encP_at ha]
    conv => whnf
    refine Rets.use (allows_ok e l ts rs a G.e b1 b2) ?_
    conv => whnf
    refine Rets.use (common_ok lo hi _ _) ?_
    conv => whnf
    rw [wrap_succ (by have := G.tn; omega)]
    rw [offs_at ha] at hid
    exact ih (i + 1, maxI lo (maxI (-1000) (a.2 - a.1 - e)), minI hi (minI 1000 (a.2 - a.1 + e))) ⟨by simp only; omega, hid⟩ (by simp only; omega)
/-! ### The offsets -/
theorem offset_bad (e l : Int) (ts : List (Int × Int)) (rs : List Int) (h1 : ts.length < 4611686018427387904) (h2 : rs.length < 4611686018427387904) (hc : eqI (chk e l ts rs) 0 = false) :
    Rets Tryz.prog E 9 [.d (scD e l ts rs)] (.d (.tuple [spD 0 0, .int .i64 (chk e l ts rs)])) := by
  refine sm_of HE true (by kernel_rfl) ?_
  unfold scD
  conv => whnf
  refine Rets.use (asked_bad e l ts rs h1 h2 hc) ?_
  conv => whnf
  rw [hc]
  conv => whnf
  exact ⟨rfl, rfl⟩
theorem offset_ok (e l : Int) (ts : List (Int × Int)) (rs : List Int) (hc : chk e l ts rs = 0) :
    Rets Tryz.prog E 9 [.d (scD e l ts rs)] (.d (match ltI (offs e ts (-1000) 1000).2 (offs e ts (-1000) 1000).1 with
      | true => .tuple [spD 0 0, .int .i64 7]
      | false => .tuple [spD (offs e ts (-1000) 1000).1 (offs e ts (-1000) 1000).2, .int .i64 0])) := by
  have h := asked_ok e l ts rs hc
  refine sm_of HE true (by kernel_rfl) ?_
  unfold scD
  conv => whnf
  refine Rets.use h ?_
  cases h2 : ltI (offs e ts (-1000) 1000).2 (offs e ts (-1000) 1000).1
  · conv => whnf
    exact ⟨rfl, rfl⟩
  · conv => whnf
    exact ⟨rfl, rfl⟩
/-! ### A clash -/
def loO (e : Int) (p : Int × Int) : Int := maxI (-1000) (p.2 - p.1 - e)
def hiO (e : Int) (p : Int × Int) : Int := minI 1000 (p.2 - p.1 + e)
def bad (e : Int) (p q : Int × Int) : Bool := ltI (minI (hiO e p) (hiO e q)) (maxI (loO e p) (loO e q))
def clashes (e : Int) : List (Int × Int) → Bool
  | [] => false
  | p :: l => match anyB (bad e p) (p :: l) with | true => true | false => clashes e l
theorem clashes_at {e : Int} {l : List (Int × Int)} {i : Nat} {p : Int × Int} (h : l[i]? = some p) : clashes e (l.drop i) = match anyB (bad e p) (l.drop i) with | true => true | false => clashes e (l.drop (i + 1)) := by
  obtain ⟨hi', rfl⟩ := List.getElem?_eq_some_iff.1 h
  rw [List.drop_eq_getElem_cons hi', clashes]
def ClashQ (c : Bool) (v : V) (h : List O) : Prop := h = [] ∧ match c with
  | true => ∃ i k, v = .d (.tuple [.int .i64 i, .int .i64 k, .int .i64 0])
  | false => v = .d (.tuple [.int .i64 0, .int .i64 0, .int .i64 6])
theorem clash_ok (e l : Int) (ts : List (Int × Int)) (rs : List Int) (hc : chk e l ts rs = 0) :
    Sm Tryz.prog E 11 [.d (scD e l ts rs)] [] (ClashQ (clashes e ts)) := by
  have G := chk_zero hc
  have hchk := check_ok e l ts rs (by have := G.tn; omega) (by have := G.rn; omega)
  rw [hc] at hchk
  refine sm_of HE true (by kernel_rfl) ?_
  unfold scD
  conv => whnf
  refine Rets.use hchk ?_
  conv => whnf
  refine loops_by (fun i : Nat => ⟨50, [(1, .ptr 0 0 0 4), (2, .d (.int .i64 0)), (3, .d (.int .i64 0)), (4, .d (.int .i64 0)), (16, .d (.slice ts.length 2 (encP ts))), (17, .d (.int .i64 ts.length)), (18, .d (.int .i64 i))], .unk,
      [.row (.ds [.int .i64 e, .int .i64 l, .slice ts.length 2 (encP ts), .slice rs.length 1 (encI rs)]) 0 0 []], []⟩)
    (fun i => i ≤ ts.length ∧ clashes e ts = clashes e (ts.drop i)) (fun i => ts.length - i) 0 ⟨Nat.zero_le _, rfl⟩ ?_
  intro n i ⟨hle, hid⟩ ih
  conv => whnf
  cases h1 : ltI (i : Int) (ts.length : Int)
  · have hn : ts.length ≤ i := by rw [ltI_eq] at h1; have := of_decide_eq_false h1; omega
    rw [hid, List.drop_eq_nil_of_le hn]
    conv => whnf
    exact ⟨rfl, rfl⟩
  · have hlt : i < ts.length := by rw [ltI_eq] at h1; have := of_decide_eq_true h1; omega
    have hb : Nat.blt i ts.length = true := by simpa [Nat.blt_eq] using hlt
    obtain ⟨a, ha⟩ : ∃ a, ts[i]? = some a := ⟨ts[i], by simp [hlt]⟩
    obtain ⟨b1, b2⟩ := G.t a (List.mem_of_getElem? ha)
    conv => whnf
    rw [hb]
    conv => whnf
    rw [show Nat.ble (i * 2 + 2) (encP ts).length = true from Nat.ble_eq_true_of_le (by rw [encP_length]; omega)]
    conv => whnf
    rw [encP_at ha]
    conv => whnf
    refine loops_by (fun k : Nat => ⟨50, [(1, .ptr 0 0 0 4), (2, .d (.int .i64 0)), (3, .d (.int .i64 0)), (4, .d (.int .i64 0)), (6, .d (.int .i64 i)), (7, .ptr 1 0 0 2), (8, .d (.int .i64 k)), (16, .d (.slice ts.length 2 (encP ts))), (17, .d (.int .i64 ts.length)), (18, .d (.int .i64 i))], .unk,
        [.row (.ds [.int .i64 e, .int .i64 l, .slice ts.length 2 (encP ts), .slice rs.length 1 (encI rs)]) 0 0 [], .row (.ds [.int .i64 a.1, .int .i64 a.2]) 0 0 []], []⟩)
      (fun k => k ≤ ts.length ∧ anyB (bad e a) (ts.drop i) = anyB (bad e a) (ts.drop k)) (fun k => ts.length - k) i ⟨hle, rfl⟩ ?_
    intro n' k ⟨hkle, hkid⟩ ih'
    conv => whnf
    cases h2 : ltI (k : Int) (ts.length : Int)
    · have hn : ts.length ≤ k := by rw [ltI_eq] at h2; have := of_decide_eq_false h2; omega
      conv => whnf
      rw [wrap_succ (by have := G.tn; omega)]
      refine ih (i + 1) ⟨by omega, ?_⟩ (by omega)
      rw [hid, clashes_at ha, hkid, List.drop_eq_nil_of_le hn]; rfl
    · have hlt' : k < ts.length := by rw [ltI_eq] at h2; have := of_decide_eq_true h2; omega
      have hb' : Nat.blt k ts.length = true := by simpa [Nat.blt_eq] using hlt'
      obtain ⟨c, hca⟩ : ∃ c, ts[k]? = some c := ⟨ts[k], by simp [hlt']⟩
      obtain ⟨d1, d2⟩ := G.t c (List.mem_of_getElem? hca)
      conv => whnf
      rw [hb']
      conv => whnf
      rw [show Nat.ble (k * 2 + 2) (encP ts).length = true from Nat.ble_eq_true_of_le (by rw [encP_length]; omega)]
      conv => whnf
      rw [encP_at hca]
      conv => whnf
      refine Rets.use (allows_ok e l ts rs a G.e b1 b2) ?_
      conv => whnf
      refine Rets.use (allows_ok e l ts rs c G.e d1 d2) ?_
      conv => whnf
      refine Rets.use (common_ok (loO e a) (hiO e a) (loO e c) (hiO e c)) ?_
      conv => whnf
      have hstep : ∀ b, bad e a c = b → anyB (bad e a) (ts.drop i) = match b with | true => true | false => anyB (bad e a) (ts.drop (k + 1)) := by
        intro b hb
        rw [hkid, anyB_at hca, hb]
        cases b <;> rfl
      cases h3 : ltI (minI (hiO e a) (hiO e c)) (maxI (loO e a) (loO e c))
      · conv => whnf
        rw [wrap_succ (by have := G.tn; omega)]
        exact ih' (k + 1) ⟨by omega, hstep false h3⟩ (by omega)
      · conv => whnf
        refine ⟨rfl, ?_⟩
        rw [hid, clashes_at ha, hstep true h3]
        exact ⟨i, k, rfl⟩
end Go.Proofs.Px
