/-
  TopHeld: the reference: a weather's error, what happens, what a proof proves.
-/
import Derived.Test.YthnhhcmafcclgaaGreatDoorHxC
import Derived.Test.YthnhhcmafcclgaaGreatDoorHwL
namespace Go.Proofs.Hx
open Go Go.Ab Go.Proofs.Hw
set_option maxRecDepth 100000
set_option maxHeartbeats 1000000
def inDay (p : Dy6) (a b c : Int) : Bool := andB (andB (inB a p.nl p.nh) (inB b p.ml p.mh)) (inB c p.ll p.lh)
/-- Some day is out of its spans. -/
def weaB : List Dy6 → List Int → List Int → List Int → Bool
  | d :: ds, a :: n, b :: m, c :: l => match inDay d a b c with | true => weaB ds n m l | false => true
  | _, _, _, _ => false
theorem weaB_at {ds : List Dy6} {n m l : List Int} {i : Nat} {d : Dy6} {a b c : Int} (h1 : ds[i]? = some d) (h2 : n[i]? = some a) (h3 : m[i]? = some b) (h4 : l[i]? = some c) :
    weaB (ds.drop i) (n.drop i) (m.drop i) (l.drop i) = match inDay d a b c with | true => weaB (ds.drop (i + 1)) (n.drop (i + 1)) (m.drop (i + 1)) (l.drop (i + 1)) | false => true := by
  obtain ⟨k1, rfl⟩ := List.getElem?_eq_some_iff.1 h1
  obtain ⟨k2, rfl⟩ := List.getElem?_eq_some_iff.1 h2
  obtain ⟨k3, rfl⟩ := List.getElem?_eq_some_iff.1 h3
  obtain ⟨k4, rfl⟩ := List.getElem?_eq_some_iff.1 h4
  rw [List.drop_eq_getElem_cons k1, List.drop_eq_getElem_cons k2, List.drop_eq_getElem_cons k3, List.drop_eq_getElem_cons k4, weaB]
def wea (ds : List Dy6) (n m l : List Int) : Int :=
  match orB (orB (notB (eqI n.length ds.length)) (notB (eqI m.length ds.length))) (notB (eqI l.length ds.length)) with
  | true => 2
  | false => match weaB ds n m l with
    | true => 3
    | false => 0
theorem eqI_nat {a b : Nat} (h : eqI (a : Int) (b : Int) = true) : a = b := by have := eqI_true h; omega
theorem Weather_ok (s st : Int) (ds : List Dy6) (n m l : List Int) (hc : chk s st ds = 0) :
    Rets Tryz.prog E 11 [.d (wD s st ds), .d (.slice n.length 1 (encI n)), .d (.slice m.length 1 (encI m)), .d (.slice l.length 1 (encI l))] (.d (.int .i64 (wea ds n m l))) := by
  have G := chk_zero hc
  have hchk := refCheck_ok s st ds (by have := G.n; omega)
  rw [hc] at hchk
  refine sm_of HE true (by kernel_rfl) ?_
  unfold wD wea
  conv => whnf
  refine Rets.use hchk ?_
  conv => whnf
  cases g1 : eqI (n.length : Int) (ds.length : Int)
  · conv => whnf
    exact ⟨rfl, rfl⟩
  conv => whnf
  cases g2 : eqI (m.length : Int) (ds.length : Int)
  · conv => whnf
    exact ⟨rfl, rfl⟩
  conv => whnf
  cases g3 : eqI (l.length : Int) (ds.length : Int)
  · conv => whnf
    exact ⟨rfl, rfl⟩
  have e1 := eqI_nat g1
  have e2 := eqI_nat g2
  have e3 := eqI_nat g3
  have hel := encW_length ds
  have hn60 := G.n
  conv => whnf
  refine loops_by (fun i : Nat => ⟨84, [(1, .d (.slice n.length 1 (encI n))), (2, .d (.slice m.length 1 (encI m))), (3, .d (.slice l.length 1 (encI l))), (4, .ptr 0 0 0 3), (8, .d (.int .i64 0)), (10, .d (.int .i64 ds.length)), (11, .d (.int .i64 i))], .unk,
      [.row (.ds [.int .i64 s, .int .i64 st, .slice ds.length 6 (encW ds)]) 0 0 []], []⟩)
    (fun i => i ≤ ds.length ∧ weaB ds n m l = weaB (ds.drop i) (n.drop i) (m.drop i) (l.drop i)) (fun i => ds.length - i) 0 ⟨Nat.zero_le _, rfl⟩ ?_
  intro k i ⟨hi, hid⟩ ih
  conv => whnf
  cases h1 : ltI (i : Int) (ds.length : Int)
  · have hn : ds.length ≤ i := by rw [ltI_eq] at h1; have := of_decide_eq_false h1; omega
    rw [List.drop_eq_nil_of_le hn] at hid
    rw [hid]
    conv => whnf
    exact ⟨rfl, rfl⟩
  · have hlt : i < ds.length := by rw [ltI_eq] at h1; have := of_decide_eq_true h1; omega
    have hb : Nat.blt i ds.length = true := by simpa [Nat.blt_eq] using hlt
    have hb1 : Nat.blt i n.length = true := by rw [e1]; exact hb
    have hb2 : Nat.blt i m.length = true := by rw [e2]; exact hb
    have hb3 : Nat.blt i l.length = true := by rw [e3]; exact hb
    obtain ⟨d, hd⟩ : ∃ a, ds[i]? = some a := ⟨ds[i], by simp [hlt]⟩
    obtain ⟨a, ha⟩ : ∃ a, n[i]? = some a := ⟨n[i]'(by omega), by simp⟩
    obtain ⟨b, hbb⟩ : ∃ a, m[i]? = some a := ⟨m[i]'(by omega), by simp⟩
    obtain ⟨c, hcc⟩ : ∃ a, l[i]? = some a := ⟨l[i]'(by omega), by simp⟩
    have hstep : ∀ r, inDay d a b c = r → weaB ds n m l = match r with | true => weaB (ds.drop (i + 1)) (n.drop (i + 1)) (m.drop (i + 1)) (l.drop (i + 1)) | false => true := by
      intro r hr
      rw [hid, weaB_at hd ha hbb hcc, hr]
    conv => whnf
    rw [hb]
    conv => whnf
    rw [show Nat.ble (i * 6 + 6) (encW ds).length = true from Nat.ble_eq_true_of_le (by omega)]
    conv => whnf
    rw [encW_at hd]
    conv => whnf
    rw [hb1]
    conv => whnf
    rw [encI_get1 ha]
    conv => whnf
    refine Rets.use (outside_ok a d.nl d.nh) ?_
    conv => whnf
    cases q1 : inB a d.nl d.nh
    · conv => whnf
      refine ⟨?_, rfl⟩
      rw [hstep false (by unfold inDay; rw [q1]; rfl)]; rfl
    conv => whnf
    rw [hb2]
    conv => whnf
    rw [encI_get1 hbb]
    conv => whnf
    refine Rets.use (outside_ok b d.ml d.mh) ?_
    conv => whnf
    cases q2 : inB b d.ml d.mh
    · conv => whnf
      refine ⟨?_, rfl⟩
      rw [hstep false (by unfold inDay; rw [q1, q2]; rfl)]; rfl
    conv => whnf
    rw [hb3]
    conv => whnf
    rw [encI_get1 hcc]
    conv => whnf
    refine Rets.use (outside_ok c d.ll d.lh) ?_
    conv => whnf
    cases q3 : inB c d.ll d.lh
    · conv => whnf
      refine ⟨?_, rfl⟩
      rw [hstep false (by unfold inDay; rw [q1, q2, q3]; rfl)]; rfl
    conv => whnf
    rw [wrap_succ (by omega)]
    exact ih (i + 1) ⟨by omega, hstep true (by unfold inDay; rw [q1, q2, q3]; rfl)⟩ (by omega)
end Go.Proofs.Hx
