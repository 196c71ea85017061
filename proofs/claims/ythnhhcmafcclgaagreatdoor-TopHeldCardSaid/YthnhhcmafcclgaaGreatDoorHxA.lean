/-
  TopHeld: numbers, spans, days; the check of a winter.
-/
import Derived.Test.YthnhhcmafcclgaaGreatDoorHxBase
namespace Go.Proofs.Hx
open Go Go.Ab
set_option maxRecDepth 100000
set_option maxHeartbeats 1000000
def inB (n lo hi : Int) : Bool := andB (leI lo n) (leI n hi)
def encI (l : List Int) : List D := l.map (D.int .i64)
theorem encI_get1 {l : List Int} {m : Nat} {a : Int} (h : l[m]? = some a) : (encI l)[m * 1]? = some (.int .i64 a) := by rw [Nat.mul_one]; simp [encI, h]
theorem encI_length (l : List Int) : (encI l).length = l.length := by simp [encI]
theorem encI_snoc (l : List Int) (a : Int) : encI (l ++ [a]) = encI l ++ [.int .i64 a] := by simp [encI]
def idxB {α : Type} (p : α → Bool) : List α → Nat → Int
  | [], _ => -1
  | a :: l, i => match p a with | true => .ofNat i | false => idxB p l (i + 1)
theorem idxB_at {α : Type} {p : α → Bool} {l : List α} {i : Nat} {a : α} (h : l[i]? = some a) : idxB p (l.drop i) i = match p a with | true => .ofNat i | false => idxB p (l.drop (i + 1)) (i + 1) := by
  obtain ⟨hi, rfl⟩ := List.getElem?_eq_some_iff.1 h
  rw [List.drop_eq_getElem_cons hi, idxB]
def anyB {α : Type} (p : α → Bool) : List α → Bool
  | [] => false
  | a :: l => match p a with | true => true | false => anyB p l
theorem anyB_at {α : Type} {p : α → Bool} {l : List α} {i : Nat} {a : α} (h : l[i]? = some a) : anyB p (l.drop i) = match p a with | true => true | false => anyB p (l.drop (i + 1)) := by
  obtain ⟨hi, rfl⟩ := List.getElem?_eq_some_iff.1 h
  rw [List.drop_eq_getElem_cons hi, anyB]
theorem wrap_i64 {n : Int} (h0 : -9223372036854775808 ≤ n) (h1 : n ≤ 9223372036854775807) : IntKind.i64.wrap n = n := by
  rw [IntKind.wrap_i64]; omega
theorem wrap_succ {i : Nat} (h : i < 4611686018427387904) : IntKind.i64.wrap ((i : Int) + 1) = ((i + 1 : Nat) : Int) := by rw [wrap_i64] <;> omega
theorem idxB_nonneg {α : Type} (p : α → Bool) : ∀ (l : List α) (i : Nat), leI 0 (idxB p l i) = anyB p l
  | [], _ => rfl
  | a :: l, i => by
    unfold idxB anyB
    cases p a with
    | true => simp only; rw [leI_eq]; simp
    | false => exact idxB_nonneg p l (i + 1)
/-- Something is true of each element. -/
def allB {α : Type} (q : α → Bool) (l : List α) : Bool := notB (anyB (fun x => notB (q x)) l)
theorem inB_true {n lo hi : Int} (h : inB n lo hi = true) : lo ≤ n ∧ n ≤ hi := by
  unfold inB at h
  obtain ⟨h1, h2⟩ := andB_true h
  rw [leI_eq] at h1 h2
  exact ⟨of_decide_eq_true h1, of_decide_eq_true h2⟩
theorem anyB_false {α : Type} {p : α → Bool} : ∀ {l : List α}, anyB p l = false → ∀ a ∈ l, p a = false
  | [], _, a, ha => by simp at ha
  | b :: l, h, a, ha => by
    unfold anyB at h
    split at h
    · cases h
    · rename_i hb
      rcases List.mem_cons.1 ha with rfl | ha
      · exact hb
      · exact anyB_false h a ha
theorem allB_true {α : Type} {q : α → Bool} {l : List α} (h : allB q l = true) : ∀ a ∈ l, q a = true := fun a ha => by
  unfold allB at h
  have h1 : anyB (fun x => notB (q x)) l = false := by cases hh : anyB (fun x => notB (q x)) l with | true => rw [hh] at h; cases h | false => rfl
  have := anyB_false h1 a ha
  cases hq : q a with
  | true => rfl
  | false => simp only [hq] at this; cases this
theorem maxI_eq (a b : Int) : maxI a b = max a b := by
  unfold maxI; rw [ltI_eq]
  by_cases h : a < b
  · simp [h]; omega
  · simp [h]; omega
theorem minI_eq (a b : Int) : minI a b = min a b := by
  unfold minI; rw [ltI_eq]
  by_cases h : b < a
  · simp [h]; omega
  · simp [h]; omega
theorem ne_self (a : Int) : notB (eqI a a) = false := by rw [eqI_eq]; simp [notB]
theorem may_all (c off n : Nat) : may c off n c 0 [] = true := by
  unfold may
  rw [Nat.ble_eq_true_of_le (Nat.zero_le c)]
  exact Nat.ble_eq_true_of_le (Nat.le_refl c)
theorem row_all {α : Type} {l : List α} {n : Nat} (h : l.length = n) : (l.drop 0).take n = l := by rw [List.drop_zero, List.take_of_length_le (by omega)]
theorem allD_map (l : List D) : allD (l.map .d) = some l := by
  induction l with
  | nil => rfl
  | cons a l ih => simp [allD, ih]
theorem ofV_map (l : List D) : Cells.ofV (l.map .d) = .ds l := by unfold Cells.ofV; rw [allD_map]
/-! ### Numbers and spans -/
theorem within_ok (n lo hi : Int) : Rets Tryz.prog E 28 [.d (.int .i64 n), .d (.int .i64 lo), .d (.int .i64 hi)] (.d (.bool (inB n lo hi))) := by
  refine sm_of HE true (by kernel_rfl) ?_
  conv => whnf
  unfold inB
  cases h1 : leI lo n
  · conv => whnf
    exact ⟨rfl, rfl⟩
  · conv => whnf
    cases h2 : leI n hi
    · conv => whnf
      exact ⟨rfl, rfl⟩
    · conv => whnf
      exact ⟨rfl, rfl⟩
theorem out_in (n a b : Int) : orB (ltI n a) (ltI b n) = notB (inB n a b) := by
  unfold inB leI
  cases ltI n a <;> cases ltI b n <;> rfl
theorem outside_ok (n a b : Int) : Rets Tryz.prog E 14 [.d (.int .i64 n), .d (.int .i64 a), .d (.int .i64 b)] (.d (.bool (notB (inB n a b)))) := by
  rw [← out_in]
  refine sm_of HE true (by kernel_rfl) ?_
  conv => whnf
  cases h1 : ltI n a
  · conv => whnf
    exact ⟨rfl, rfl⟩
  · conv => whnf
    exact ⟨rfl, rfl⟩
def spD (lo hi : Int) : D := .agg [.int .i64 lo, .int .i64 hi]
def spanB (lo hi g : Int) : Bool := andB (inB lo 0 hi) (leI hi g)
theorem span_ok (lo hi g : Int) : Rets Tryz.prog E 31 [.d (spD lo hi), .d (.int .i64 g)] (.d (.bool (spanB lo hi g))) := by
  refine sm_of HE true (by kernel_rfl) ?_
  unfold spD spanB
  conv => whnf
  refine Rets.use (within_ok lo 0 hi) ?_
  conv => whnf
  cases h1 : inB lo 0 hi
  · conv => whnf
    exact ⟨rfl, rfl⟩
  · conv => whnf
    exact ⟨rfl, rfl⟩
theorem wrong_ok (lo hi g : Int) : Rets Tryz.prog E 15 [.d (spD lo hi), .d (.int .i64 g)] (.d (.bool (notB (spanB lo hi g)))) := by
  have e : notB (spanB lo hi g) = orB (orB (ltI lo 0) (ltI g hi)) (ltI hi lo) := by
    unfold spanB inB leI
    cases ltI lo 0 <;> cases ltI g hi <;> cases ltI hi lo <;> rfl
  rw [e]
  refine sm_of HE true (by kernel_rfl) ?_
  unfold spD
  conv => whnf
  cases h1 : ltI lo 0
  · conv => whnf
    cases h2 : ltI g hi
    · conv => whnf
      exact ⟨rfl, rfl⟩
    · conv => whnf
      exact ⟨rfl, rfl⟩
  · conv => whnf
    exact ⟨rfl, rfl⟩
theorem greatest1_ok (lo hi : Int) : Rets Tryz.prog E 42 [.d (spD lo hi)] (.d (.int .i64 hi)) := by
  refine sm_of HE true (by kernel_rfl) ?_
  unfold spD
  conv => whnf
  exact ⟨rfl, rfl⟩
theorem least1_ok (lo hi : Int) : Rets Tryz.prog E 43 [.d (spD lo hi)] (.d (.int .i64 lo)) := by
  refine sm_of HE true (by kernel_rfl) ?_
  unfold spD
  conv => whnf
  exact ⟨rfl, rfl⟩
theorem greatest_ok : Rets Tryz.prog E 33 [] (.d (.agg [.func 42 [] []])) := by
  refine sm_of HE true (by kernel_rfl) ?_
  conv => whnf
  exact ⟨rfl, rfl⟩
theorem least_ok : Rets Tryz.prog E 34 [] (.d (.agg [.func 43 [] []])) := by
  refine sm_of HE true (by kernel_rfl) ?_
  conv => whnf
  exact ⟨rfl, rfl⟩
/-! ### Days -/
structure Dy6 where
  nl : Int
  nh : Int
  ml : Int
  mh : Int
  ll : Int
  lh : Int
def encDy (d : Dy6) : List D := [.int .i64 d.nl, .int .i64 d.nh, .int .i64 d.ml, .int .i64 d.mh, .int .i64 d.ll, .int .i64 d.lh]
def encW (l : List Dy6) : List D := l.flatMap encDy
theorem encW_length : ∀ l : List Dy6, (encW l).length = l.length * 6
  | [] => rfl
  | p :: l => by
    have := encW_length l
    simp only [encW, List.flatMap_cons, List.length_append, List.length_cons, List.length_nil, encDy] at *
    omega
theorem encW_drop : ∀ {l : List Dy6} {i : Nat} {p : Dy6}, l[i]? = some p → (encW l).drop (i * 6) = encDy p ++ encW (l.drop (i + 1))
  | [], _, _, h => by simp at h
  | q :: l, 0, p, h => by simp at h; subst h; rfl
  | q :: l, i + 1, p, h => by
    have := encW_drop (l := l) (i := i) (by simpa using h)
    have e : (i + 1) * 6 = 6 + i * 6 := by omega
    rw [e, ← List.drop_drop]
    exact this
theorem encW_at {l : List Dy6} {i : Nat} {p : Dy6} (h : l[i]? = some p) : ((encW l).drop (i * 6)).take 6 = encDy p := by
  rw [encW_drop h]; rfl
theorem encW_sub {l : List Dy6} {i : Nat} {p : Dy6} (h : l[i]? = some p) (k : Nat) : ((encW l).drop (i * 6 + k)) = (encDy p ++ encW (l.drop (i + 1))).drop k := by
  rw [← encW_drop h, List.drop_drop]
theorem encW_snoc (l : List Dy6) (p : Dy6) : encW (l ++ [p]) = encW l ++ encDy p := by simp [encW]
def dyD (p : Dy6) : D := .agg (encDy p)
def dayOk (p : Dy6) : Bool := andB (andB (spanB p.nl p.nh 100000) (spanB p.ml p.mh 100000)) (spanB p.ll p.lh 100000)
theorem c30 (p : Dy6) : Rets Tryz.prog E 30 [.d (dyD p)] (.d (.bool (dayOk p))) := by
  refine sm_of HE true (by kernel_rfl) ?_
  unfold dayOk dyD encDy
  conv => whnf
  refine Rets.use (span_ok p.nl p.nh 100000) ?_
  conv => whnf
  cases h1 : spanB p.nl p.nh 100000
  · conv => whnf
    exact ⟨rfl, rfl⟩
  · conv => whnf
    refine Rets.use (span_ok p.ml p.mh 100000) ?_
    conv => whnf
    cases h2 : spanB p.ml p.mh 100000
    · conv => whnf
      exact ⟨rfl, rfl⟩
    · conv => whnf
      refine Rets.use (span_ok p.ll p.lh 100000) ?_
      conv => whnf
      exact ⟨rfl, rfl⟩
/-- The closure of all, over the box that holds what is asked. -/
def boxF (k : Nat) : O := .row (.ds [.func k [] []]) 0 0 []
theorem c41 (x : Dy6) : Sm Tryz.prog E 41 [.d (dyD x), .ptr 0 0 0 1] [boxF 30] (fun v h => v = .d (.bool (notB (dayOk x))) ∧ h = [boxF 30]) := by
  refine sm_of HE true (by kernel_rfl) ?_
  unfold dyD encDy
  conv => whnf
  refine Rets.use (c30 x) ?_
  conv => whnf
  exact ⟨rfl, rfl⟩
theorem idx48 (l : List Dy6) (hl : l.length < 4611686018427387904) :
    Sm Tryz.prog E 48 [.d (.slice l.length 6 (encW l)), .func 41 [] [.ptr 0 0 0 1]] [boxF 30] (fun v h => v = .d (.int .i64 (idxB (fun x => notB (dayOk x)) l 0)) ∧ h = [boxF 30]) := by
  refine sm_of HE true (by kernel_rfl) ?_
  conv => whnf
  refine loops_by (fun i : Nat => ⟨19, [(0, .d (.slice l.length 6 (encW l))), (1, .func 41 [] [.ptr 0 0 0 1]), (4, .d (.int .i64 0)), (7, .d (.int .i64 l.length)), (8, .d (.int .i64 i))], .unk, [boxF 30], []⟩)
    (fun i => i ≤ l.length ∧ idxB (fun x => notB (dayOk x)) l 0 = idxB (fun x => notB (dayOk x)) (l.drop i) i) (fun i => l.length - i) 0 ⟨Nat.zero_le _, rfl⟩ ?_
  intro n i ⟨hi, hid⟩ ih
  conv => whnf
  cases h1 : ltI (i : Int) (l.length : Int)
  · conv => whnf
    have hn : l.length ≤ i := by rw [ltI_eq] at h1; have := of_decide_eq_false h1; omega
    refine ⟨?_, rfl⟩
    rw [hid, List.drop_eq_nil_of_le hn]; rfl
  · have hlt : i < l.length := by rw [ltI_eq] at h1; have := of_decide_eq_true h1; omega
    have hb : Nat.blt i l.length = true := by simpa [Nat.blt_eq] using hlt
    obtain ⟨a, ha⟩ : ∃ a, l[i]? = some a := ⟨l[i], by simp [hlt]⟩
    conv => whnf
    rw [hb]
    conv => whnf
    rw [show Nat.ble (i * 6 + 6) (encW l).length = true from Nat.ble_eq_true_of_le (by rw [encW_length]; omega)]
    conv => whnf
    rw [encW_at ha]
    conv => whnf
    refine Sm.mono (c41 a) ?_
    rintro v h ⟨rfl, rfl⟩
    conv => whnf
    cases h2 : dayOk a
    · conv => whnf
      refine ⟨?_, rfl⟩
      rw [hid, idxB_at ha, h2]; rfl
    · conv => whnf
      rw [wrap_succ (by omega)]
      exact ih (i + 1) ⟨by omega, by rw [hid, idxB_at ha, h2]; rfl⟩ (by omega)
theorem c40 (l : List Dy6) (hl : l.length < 4611686018427387904) :
    Sm Tryz.prog E 40 [.d (.slice l.length 6 (encW l)), .func 41 [] [.ptr 0 0 0 1]] [boxF 30] (fun v h => v = .d (.bool (anyB (fun x => notB (dayOk x)) l)) ∧ h = [boxF 30]) := by
  refine sm_of HE true (by kernel_rfl) ?_
  conv => whnf
  refine Sm.mono (idx48 l hl) ?_
  rintro v h ⟨rfl, rfl⟩
  conv => whnf
  exact ⟨by rw [← idxB_nonneg _ l 0], rfl⟩
theorem c29 (l : List Dy6) (hl : l.length < 4611686018427387904) :
    Rets Tryz.prog E 29 [.d (.slice l.length 6 (encW l)), .d (.func 30 [] [])] (.d (.bool (allB dayOk l))) := by
  refine sm_of HE true (by kernel_rfl) ?_
  conv => whnf
  refine Sm.mono (c40 l hl) ?_
  rintro v h ⟨rfl, rfl⟩
  conv => whnf
  exact ⟨rfl, rfl⟩
/-! ### A winter's check -/
def wD (s st : Int) (ds : List Dy6) : D := .agg [.int .i64 s, .int .i64 st, .slice ds.length 6 (encW ds)]
def chk (s st : Int) (ds : List Dy6) : Int :=
  match orB (notB (inB st 1 1000000)) (notB (inB s 0 st)) with
  | true => 3
  | false => match notB (inB ds.length 1 60) with
    | true => 2
    | false => match notB (allB dayOk ds) with
      | true => 3
      | false => 0
theorem check_ok (s st : Int) (ds : List Dy6) (hl : ds.length < 4611686018427387904) : Rets Tryz.prog E 20 [.d (wD s st ds)] (.d (.int .i64 (chk s st ds))) := by
  refine sm_of HE true (by kernel_rfl) ?_
  unfold wD chk
  conv => whnf
  refine Rets.use (within_ok st 1 1000000) ?_
  conv => whnf
  cases g1 : inB st 1 1000000
  · conv => whnf
    exact ⟨rfl, rfl⟩
  · conv => whnf
    refine Rets.use (within_ok s 0 st) ?_
    conv => whnf
    cases g2 : inB s 0 st
    · conv => whnf
      exact ⟨rfl, rfl⟩
    · conv => whnf
      refine Rets.use (within_ok ds.length 1 60) ?_
      conv => whnf
      cases g3 : inB (ds.length : Int) 1 60
      · conv => whnf
        exact ⟨rfl, rfl⟩
      · conv => whnf
        refine Rets.use (c29 ds hl) ?_
        conv => whnf
        cases g4 : allB dayOk ds
        · conv => whnf
          exact ⟨rfl, rfl⟩
        · conv => whnf
          exact ⟨rfl, rfl⟩
end Go.Proofs.Hx
