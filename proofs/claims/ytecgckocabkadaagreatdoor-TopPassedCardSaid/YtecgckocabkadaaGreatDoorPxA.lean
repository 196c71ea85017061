/- PxA: a part of the proof of this claim. -/
import Derived.Test.YtecgckocabkadaaGreatDoorPxBase
namespace Go.Proofs.Px
open Go Go.Ab
set_option maxRecDepth 100000
set_option maxHeartbeats 1000000
def inB (n lo hi : Int) : Bool := andB (leI lo n) (leI n hi)
def encI (l : List Int) : List D := l.map (D.int .i64)
theorem encI_get {l : List Int} {m : Nat} {a : Int} (h : l[m]? = some a) : (encI l)[m]? = some (.int .i64 a) := by simp [encI, h]
def idxB {α : Type} (p : α → Bool) : List α → Nat → Int
  | [], _ => -1
  | a :: l, i => match p a with | true => .ofNat i | false => idxB p l (i + 1)
theorem idxB_at {α : Type} {p : α → Bool} {l : List α} {i : Nat} {a : α} (h : l[i]? = some a) : idxB p (l.drop i) i = match p a with | true => .ofNat i | false => idxB p (l.drop (i + 1)) (i + 1) := by
  obtain ⟨hi, rfl⟩ := List.getElem?_eq_some_iff.1 h
  rw [List.drop_eq_getElem_cons hi, idxB]
def anyB {α : Type} (p : α → Bool) : List α → Bool
  | [] => false
  | a :: l => match p a with | true => true | false => anyB p l
theorem anyB_at {α : Type} {p : α → Bool} {l : List α} {i : Nat} {a : α} (h : l[i]? = some a) : anyB p (l.drop i) = match p a with | true => true | false => anyB p (l.drop (i + 1)) := by
  obtain ⟨hi, rfl⟩ := List.getElem?_eq_some_iff.1 h
  rw [List.drop_eq_getElem_cons hi, anyB]
theorem ltI_nat {a b : Nat} : ltI (a : Int) (b : Int) = Nat.blt a b := rfl
theorem wrap_i64 {n : Int} (h0 : -9223372036854775808 ≤ n) (h1 : n ≤ 9223372036854775807) : IntKind.i64.wrap n = n := by
  rw [IntKind.wrap_i64]; omega
theorem wrap_succ {i : Nat} (h : i < 4611686018427387904) : IntKind.i64.wrap ((i : Int) + 1) = ((i + 1 : Nat) : Int) := by rw [wrap_i64] <;> omega
theorem idxB_nonneg {α : Type} (p : α → Bool) : ∀ (l : List α) (i : Nat), leI 0 (idxB p l i) = anyB p l
  | [], _ => rfl
  | a :: l, i => by
    unfold idxB anyB
    cases p a with
    | true => simp only; rw [leI_eq]; simp
    | false => exact idxB_nonneg p l (i + 1)
theorem within_ok (n lo hi : Int) : Rets Tryz.prog E 39 [.d (.int .i64 n), .d (.int .i64 lo), .d (.int .i64 hi)] (.d (.bool (inB n lo hi))) := by
  refine sm_of HE true (by kernel_rfl) ?_
  conv => whnf
  unfold inB
  cases h1 : leI lo n
  · conv => whnf
    exact ⟨rfl, rfl⟩
  · conv => whnf
    cases h2 : leI n hi
    · conv => whnf
      exact ⟨rfl, rfl⟩
    · conv => whnf
      exact ⟨rfl, rfl⟩
theorem out_in (n a b : Int) : orB (ltI n a) (ltI b n) = notB (inB n a b) := by
  unfold inB leI
  cases ltI n a <;> cases ltI b n <;> rfl
theorem outside_ok (n a b : Int) : Rets Tryz.prog E 18 [.d (.int .i64 n), .d (.int .i64 a), .d (.int .i64 b)] (.d (.bool (notB (inB n a b)))) := by
  rw [← out_in]
  refine sm_of HE true (by kernel_rfl) ?_
  conv => whnf
  cases h1 : ltI n a
  · conv => whnf
    exact ⟨rfl, rfl⟩
  · conv => whnf
    exact ⟨rfl, rfl⟩
theorem inside_ok (n lo hi : Int) : Rets Tryz.prog E 8 [.d (.int .i64 n), .d (.agg [.int .i64 lo, .int .i64 hi])] (.d (.bool (inB n lo hi))) := by
  refine sm_of HE true (by kernel_rfl) ?_
  conv => whnf
  unfold inB
  cases h1 : leI lo n
  · conv => whnf
    exact ⟨rfl, rfl⟩
  · conv => whnf
    exact ⟨rfl, rfl⟩
def farB (n : Int) : Bool := orB (ltI n (-1000000)) (ltI 1000000 n)
theorem far1_ok (n : Int) : Rets Tryz.prog E 17 [.d (.int .i64 n)] (.d (.bool (farB n))) := by
  refine sm_of HE true (by kernel_rfl) ?_
  conv => whnf
  unfold farB
  cases h1 : ltI n (-1000000)
  · conv => whnf
    exact ⟨rfl, rfl⟩
  · conv => whnf
    exact ⟨rfl, rfl⟩
/-- The closure of all, over the box that holds what is asked. -/
def boxF (k : Nat) : O := .row (.ds [.func k [] []]) 0 0 []
theorem idx33 (k : Nat) (p : Int → Bool) (hp : ∀ x : Int, Sm Tryz.prog E 54 [.d (.int .i64 x), .ptr 0 0 0 1] [boxF k] (fun v h => v = .d (.bool (p x)) ∧ h = [boxF k])) (l : List Int) (hl : l.length < 4611686018427387904) :
    Sm Tryz.prog E 33 [.d (.slice l.length 1 (encI l)), .func 54 [] [.ptr 0 0 0 1]] [boxF k] (fun v h => v = .d (.int .i64 (idxB p l 0)) ∧ h = [boxF k]) := by
  refine sm_of HE true (by kernel_rfl) ?_
  conv => whnf
  refine loops_by (fun i : Nat => ⟨19, [(0, .d (.slice l.length 1 (encI l))), (1, .func 54 [] [.ptr 0 0 0 1]), (4, .d (.int .i64 0)), (7, .d (.int .i64 l.length)), (8, .d (.int .i64 i))], .unk, [boxF k], []⟩)
    (fun i => i ≤ l.length ∧ idxB p l 0 = idxB p (l.drop i) i) (fun i => l.length - i) 0 ⟨Nat.zero_le _, rfl⟩ ?_
  intro n i ⟨hi, hid⟩ ih
  conv => whnf
  cases h1 : ltI (i : Int) (l.length : Int)
  · conv => whnf
    have hn : l.length ≤ i := by rw [ltI_eq] at h1; have := of_decide_eq_false h1; omega
    refine ⟨?_, rfl⟩
    rw [hid, List.drop_eq_nil_of_le hn]; rfl
  · have hlt : i < l.length := by rw [ltI_eq] at h1; have := of_decide_eq_true h1; omega
    have hb : Nat.blt i l.length = true := by simpa [Nat.blt_eq] using hlt
    obtain ⟨a, ha⟩ : ∃ a, l[i]? = some a := ⟨l[i], by simp [hlt]⟩
    conv => whnf
    rw [hb]
    conv => whnf
    rw [Nat.mul_one, encI_get ha]
    conv => whnf
    refine Sm.mono (hp a) ?_
    rintro v h ⟨rfl, rfl⟩
    conv => whnf
    cases h2 : p a
    · conv => whnf
      rw [wrap_succ (by omega)]
      exact ih (i + 1) ⟨by omega, by rw [hid, idxB_at ha, h2]⟩ (by omega)
    · conv => whnf
      refine ⟨?_, rfl⟩
      rw [hid, idxB_at ha, h2]; rfl
theorem idx33' (k : Nat) (p : Int → Bool) (hp : ∀ x : Int, Rets Tryz.prog E k [.d (.int .i64 x)] (.d (.bool (p x)))) (l : List Int) (hl : l.length < 4611686018427387904) :
    Sm Tryz.prog E 33 [.d (.slice l.length 1 (encI l)), .d (.func k [] [])] [] (fun v h => v = .d (.int .i64 (idxB p l 0)) ∧ h = []) := by
  refine sm_of HE true (by kernel_rfl) ?_
  conv => whnf
  refine loops_by (fun i : Nat => ⟨19, [(0, .d (.slice l.length 1 (encI l))), (1, .d (.func k [] [])), (4, .d (.int .i64 0)), (7, .d (.int .i64 l.length)), (8, .d (.int .i64 i))], .unk, [], []⟩)
    (fun i => i ≤ l.length ∧ idxB p l 0 = idxB p (l.drop i) i) (fun i => l.length - i) 0 ⟨Nat.zero_le _, rfl⟩ ?_
  intro n i ⟨hi, hid⟩ ih
  conv => whnf
  cases h1 : ltI (i : Int) (l.length : Int)
  · conv => whnf
    have hn : l.length ≤ i := by rw [ltI_eq] at h1; have := of_decide_eq_false h1; omega
    refine ⟨?_, rfl⟩
    rw [hid, List.drop_eq_nil_of_le hn]; rfl
  · have hlt : i < l.length := by rw [ltI_eq] at h1; have := of_decide_eq_true h1; omega
    have hb : Nat.blt i l.length = true := by simpa [Nat.blt_eq] using hlt
    obtain ⟨a, ha⟩ : ∃ a, l[i]? = some a := ⟨l[i], by simp [hlt]⟩
    conv => whnf
    rw [hb]
    conv => whnf
    rw [Nat.mul_one, encI_get ha]
    conv => whnf
    refine Rets.use (hp a) ?_
    conv => whnf
    cases h2 : p a
    · conv => whnf
      rw [wrap_succ (by omega)]
      exact ih (i + 1) ⟨by omega, by rw [hid, idxB_at ha, h2]⟩ (by omega)
    · conv => whnf
      refine ⟨?_, rfl⟩
      rw [hid, idxB_at ha, h2]; rfl
end Go.Proofs.Px
