/-
  TopRanked: numbers, runs; the check of a lab.
-/
import Derived.Test.YtklidmlhlelngaaGreatDoorRxBase
namespace Go.Proofs.Rx
open Go Go.Ab
set_option maxRecDepth 100000
set_option maxHeartbeats 1000000
def inB (n lo hi : Int) : Bool := andB (leI lo n) (leI n hi)
def encI (l : List Int) : List D := l.map (D.int .i64)
theorem encI_get1 {l : List Int} {m : Nat} {a : Int} (h : l[m]? = some a) : (encI l)[m * 1]? = some (.int .i64 a) := by rw [Nat.mul_one]; simp [encI, h]
theorem encI_length (l : List Int) : (encI l).length = l.length := by simp [encI]
theorem encI_snoc (l : List Int) (a : Int) : encI (l ++ [a]) = encI l ++ [.int .i64 a] := by simp [encI]
def idxB {α : Type} (p : α → Bool) : List α → Nat → Int
  | [], _ => -1
  | a :: l, i => match p a with | true => .ofNat i | false => idxB p l (i + 1)
theorem idxB_at {α : Type} {p : α → Bool} {l : List α} {i : Nat} {a : α} (h : l[i]? = some a) : idxB p (l.drop i) i = match p a with | true => .ofNat i | false => idxB p (l.drop (i + 1)) (i + 1) := by
  obtain ⟨hi, rfl⟩ := List.getElem?_eq_some_iff.1 h
  rw [List.drop_eq_getElem_cons hi, idxB]
def anyB {α : Type} (p : α → Bool) : List α → Bool
  | [] => false
  | a :: l => match p a with | true => true | false => anyB p l
theorem anyB_at {α : Type} {p : α → Bool} {l : List α} {i : Nat} {a : α} (h : l[i]? = some a) : anyB p (l.drop i) = match p a with | true => true | false => anyB p (l.drop (i + 1)) := by
  obtain ⟨hi, rfl⟩ := List.getElem?_eq_some_iff.1 h
  rw [List.drop_eq_getElem_cons hi, anyB]
theorem wrap_i64 {n : Int} (h0 : -9223372036854775808 ≤ n) (h1 : n ≤ 9223372036854775807) : IntKind.i64.wrap n = n := by
  rw [IntKind.wrap_i64]; omega
theorem wrap_succ {i : Nat} (h : i < 4611686018427387904) : IntKind.i64.wrap ((i : Int) + 1) = ((i + 1 : Nat) : Int) := by rw [wrap_i64] <;> omega
theorem idxB_nonneg {α : Type} (p : α → Bool) : ∀ (l : List α) (i : Nat), leI 0 (idxB p l i) = anyB p l
  | [], _ => rfl
  | a :: l, i => by
    unfold idxB anyB
    cases p a with
    | true => simp only; rw [leI_eq]; simp
    | false => exact idxB_nonneg p l (i + 1)
/-- Something is true of each element. -/
def allB {α : Type} (q : α → Bool) (l : List α) : Bool := notB (anyB (fun x => notB (q x)) l)
theorem inB_true {n lo hi : Int} (h : inB n lo hi = true) : lo ≤ n ∧ n ≤ hi := by
  unfold inB at h
  obtain ⟨h1, h2⟩ := andB_true h
  rw [leI_eq] at h1 h2
  exact ⟨of_decide_eq_true h1, of_decide_eq_true h2⟩
theorem anyB_false {α : Type} {p : α → Bool} : ∀ {l : List α}, anyB p l = false → ∀ a ∈ l, p a = false
  | [], _, a, ha => by simp at ha
  | b :: l, h, a, ha => by
    unfold anyB at h
    split at h
    · cases h
    · rename_i hb
      rcases List.mem_cons.1 ha with rfl | ha
      · exact hb
      · exact anyB_false h a ha
theorem allB_true {α : Type} {q : α → Bool} {l : List α} (h : allB q l = true) : ∀ a ∈ l, q a = true := fun a ha => by
  unfold allB at h
  have h1 : anyB (fun x => notB (q x)) l = false := by cases hh : anyB (fun x => notB (q x)) l with | true => rw [hh] at h; cases h | false => rfl
  have := anyB_false h1 a ha
  cases hq : q a with
  | true => rfl
  | false => simp only [hq] at this; cases this
theorem maxI_eq (a b : Int) : maxI a b = max a b := by
  unfold maxI; rw [ltI_eq]
  by_cases h : a < b
  · simp [h]; omega
  · simp [h]; omega
theorem minI_eq (a b : Int) : minI a b = min a b := by
  unfold minI; rw [ltI_eq]
  by_cases h : b < a
  · simp [h]; omega
  · simp [h]; omega
theorem ne_self (a : Int) : notB (eqI a a) = false := by rw [eqI_eq]; simp [notB]
theorem may_all (c off n : Nat) : may c off n c 0 [] = true := by
  unfold may
  rw [Nat.ble_eq_true_of_le (Nat.zero_le c)]
  exact Nat.ble_eq_true_of_le (Nat.le_refl c)
theorem row_all {α : Type} {l : List α} {n : Nat} (h : l.length = n) : (l.drop 0).take n = l := by rw [List.drop_zero, List.take_of_length_le (by omega)]
theorem allD_map (l : List D) : allD (l.map .d) = some l := by
  induction l with
  | nil => rfl
  | cons a l ih => simp [allD, ih]
theorem ofV_map (l : List D) : Cells.ofV (l.map .d) = .ds l := by unfold Cells.ofV; rw [allD_map]
def encP (l : List (Int × Int)) : List D := l.flatMap fun p => [.int .i64 p.1, .int .i64 p.2]
theorem encP_length : ∀ l : List (Int × Int), (encP l).length = l.length * 2
  | [] => rfl
  | p :: l => by
    have := encP_length l
    simp only [encP, List.flatMap_cons, List.length_append, List.length_cons, List.length_nil] at *
    omega
theorem encP_drop : ∀ (l : List (Int × Int)) (i : Nat), (encP l).drop (i * 2) = encP (l.drop i)
  | l, 0 => by simp
  | [], i + 1 => by simp [encP]
  | p :: l, i + 1 => by
    have e : (i + 1) * 2 = 2 + i * 2 := by omega
    rw [e, ← List.drop_drop]
    exact encP_drop l i
theorem encP_get {l : List (Int × Int)} {i : Nat} {p : Int × Int} (h : l[i]? = some p) : (encP l)[i * 2 + 1]? = some (.int .i64 p.2) := by
  obtain ⟨hi, rfl⟩ := List.getElem?_eq_some_iff.1 h
  have := congrArg (fun x => x[1]?) (encP_drop l i)
  rw [List.drop_eq_getElem_cons hi, show (encP (l[i] :: l.drop (i + 1)))[1]? = some (.int .i64 l[i].2) from rfl] at this
  rw [← this]
  simp only [List.getElem?_drop]
theorem encP_snoc (l : List (Int × Int)) (p : Int × Int) : encP l ++ [.int .i64 p.1, .int .i64 p.2] = encP (l ++ [p]) := by simp [encP]
theorem encP_set : ∀ {l : List (Int × Int)} {i : Nat} {p : Int × Int} (x : Int), l[i]? = some p → wr (encP l) (i * 2 + 1) [.int .i64 x] = encP (l.set i (p.1, x))
  | [], _, _, _, h => by simp at h
  | q :: l, 0, p, x, h => by simp at h; subst h; simp [encP, wr, wr_nil]
  | q :: l, i + 1, p, x, h => by
    have := encP_set (l := l) (i := i) x (by simpa using h)
    have e : (i + 1) * 2 + 1 = (i * 2 + 1) + 1 + 1 := by omega
    rw [e]
    show wr (.int .i64 q.1 :: .int .i64 q.2 :: encP l) _ _ = _
    simp only [wr, this, List.set_cons_succ]
    rfl
theorem len_beq {acc : List Int} {k : Nat} (h : acc.length = k + 1) : Nat.beq ((k + 1) * 1) (Cells.ds (encI acc)).len = true := by
  have : (encI acc).length = (k + 1) * 1 := by rw [encI_length, h]; omega
  simp only [Cells.len, this]; exact Nat.beq_refl _
theorem take_map {α : Type} {f : α → Int} {l : List α} {i : Nat} {a : α} (h : l[i]? = some a) : (l.take (i + 1)).map f = (l.take i).map f ++ [f a] := by
  rw [List.take_add_one, h]; simp

/-! ### Numbers -/
theorem within_ok (n lo hi : Int) : Rets Tryz.prog E 42 [.d (.int .i64 n), .d (.int .i64 lo), .d (.int .i64 hi)] (.d (.bool (inB n lo hi))) := by
  refine sm_of HE true (by kernel_rfl) ?_
  conv => whnf
  unfold inB
  cases h1 : leI lo n
  · conv => whnf
    exact ⟨rfl, rfl⟩
  · conv => whnf
    cases h2 : leI n hi
    · conv => whnf
      exact ⟨rfl, rfl⟩
    · conv => whnf
      exact ⟨rfl, rfl⟩
theorem out_in (n a b : Int) : orB (ltI n a) (ltI b n) = notB (inB n a b) := by
  unfold inB leI
  cases ltI n a <;> cases ltI b n <;> rfl
theorem outside_ok (n a b : Int) : Rets Tryz.prog E 16 [.d (.int .i64 n), .d (.int .i64 a), .d (.int .i64 b)] (.d (.bool (notB (inB n a b)))) := by
  rw [← out_in]
  refine sm_of HE true (by kernel_rfl) ?_
  conv => whnf
  cases h1 : ltI n a
  · conv => whnf
    exact ⟨rfl, rfl⟩
  · conv => whnf
    exact ⟨rfl, rfl⟩
def farB (n : Int) : Bool := orB (ltI n (-1000000)) (ltI 1000000 n)
theorem far1_ok (n : Int) : Rets Tryz.prog E 15 [.d (.int .i64 n)] (.d (.bool (farB n))) := by
  refine sm_of HE true (by kernel_rfl) ?_
  conv => whnf
  unfold farB
  cases h1 : ltI n (-1000000)
  · conv => whnf
    exact ⟨rfl, rfl⟩
  · conv => whnf
    exact ⟨rfl, rfl⟩
theorem encI_get {l : List Int} {m : Nat} {a : Int} (h : l[m]? = some a) : (encI l)[m]? = some (.int .i64 a) := by simp [encI, h]
theorem idx28 (l : List Int) (hl : l.length < 4611686018427387904) :
    Rets Tryz.prog E 28 [.d (.slice l.length 1 (encI l)), .d (.func 15 [] [])] (.d (.int .i64 (idxB farB l 0))) := by
  refine sm_of HE true (by kernel_rfl) ?_
  conv => whnf
  refine loops_by (fun i : Nat => ⟨19, [(0, .d (.slice l.length 1 (encI l))), (1, .d (.func 15 [] [])), (4, .d (.int .i64 0)), (7, .d (.int .i64 l.length)), (8, .d (.int .i64 i))], .unk, [], []⟩)
    (fun i => i ≤ l.length ∧ idxB farB l 0 = idxB farB (l.drop i) i) (fun i => l.length - i) 0 ⟨Nat.zero_le _, rfl⟩ ?_
  intro n i ⟨hi, hid⟩ ih
  conv => whnf
  cases h1 : ltI (i : Int) (l.length : Int)
  · conv => whnf
    have hn : l.length ≤ i := by rw [ltI_eq] at h1; have := of_decide_eq_false h1; omega
    refine ⟨?_, rfl⟩
    rw [hid, List.drop_eq_nil_of_le hn]; rfl
  · have hlt : i < l.length := by rw [ltI_eq] at h1; have := of_decide_eq_true h1; omega
    have hb : Nat.blt i l.length = true := by simpa [Nat.blt_eq] using hlt
    obtain ⟨a, ha⟩ : ∃ a, l[i]? = some a := ⟨l[i], by simp [hlt]⟩
    conv => whnf
    rw [hb]
    conv => whnf
    rw [Nat.mul_one, encI_get ha]
    conv => whnf
    refine Rets.use (far1_ok a) ?_
    conv => whnf
    cases h2 : farB a
    · conv => whnf
      rw [wrap_succ (by omega)]
      exact ih (i + 1) ⟨by omega, by rw [hid, idxB_at ha, h2]⟩ (by omega)
    · conv => whnf
      refine ⟨?_, rfl⟩
      rw [hid, idxB_at ha, h2]; rfl
theorem c14 (l : List Int) (hl : l.length < 4611686018427387904) : Rets Tryz.prog E 14 [.d (.slice l.length 1 (encI l)), .d (.func 15 [] [])] (.d (.bool (anyB farB l))) := by
  refine sm_of HE true (by kernel_rfl) ?_
  conv => whnf
  refine Rets.use (idx28 l hl) ?_
  conv => whnf
  exact ⟨by rw [← idxB_nonneg farB l 0], rfl⟩
theorem far_ok (l : List Int) (hl : l.length < 4611686018427387904) : Rets Tryz.prog E 5 [.d (.slice l.length 1 (encI l))] (.d (.bool (anyB farB l))) := by
  refine sm_of HE true (by kernel_rfl) ?_
  conv => whnf
  refine Rets.use (c14 l hl) ?_
  conv => whnf
  exact ⟨rfl, rfl⟩
/-! ### Runs -/
structure Run3 where
  a : Int
  b : Int
  ld : Int
def encU (d : Run3) : List D := [.int .i64 d.a, .int .i64 d.b, .int .i64 d.ld]
def encR (l : List Run3) : List D := l.flatMap encU
theorem encR_length : ∀ l : List Run3, (encR l).length = l.length * 3
  | [] => rfl
  | p :: l => by
    have := encR_length l
    simp only [encR, List.flatMap_cons, List.length_append, List.length_cons, List.length_nil, encU] at *
    omega
theorem encR_drop : ∀ {l : List Run3} {i : Nat} {p : Run3}, l[i]? = some p → (encR l).drop (i * 3) = encU p ++ encR (l.drop (i + 1))
  | [], _, _, h => by simp at h
  | q :: l, 0, p, h => by simp at h; subst h; rfl
  | q :: l, i + 1, p, h => by
    have := encR_drop (l := l) (i := i) (by simpa using h)
    have e : (i + 1) * 3 = 3 + i * 3 := by omega
    rw [e, ← List.drop_drop]
    exact this
theorem encR_at {l : List Run3} {i : Nat} {p : Run3} (h : l[i]? = some p) : ((encR l).drop (i * 3)).take 3 = encU p := by
  rw [encR_drop h]; rfl
theorem encR_snoc (l : List Run3) (p : Run3) : encR (l ++ [p]) = encR l ++ encU p := by simp [encR]
theorem encR_get {l : List Run3} {i : Nat} {p : Run3} (h : l[i]? = some p) (k : Nat) (x : D) (hk : (encU p)[k]? = some x) : (encR l)[i * 3 + k]? = some x := by
  have := congrArg (fun y => y[k]?) (encR_drop h)
  simp only [List.getElem?_drop] at this
  rw [this, List.getElem?_append_left (by have := (List.getElem?_eq_some_iff.1 hk).1; exact this), hk]
def ruD (p : Run3) : D := .agg (encU p)
def labL (sk er : Int) (rs : List Run3) : List D := [.int .i64 sk, .int .i64 er, .slice rs.length 3 (encR rs)]
def laD (sk er : Int) (rs : List Run3) : D := .agg (labL sk er rs)
def okA (sk : Int) (p : Run3) : Bool := andB (andB (inB p.a 0 (sk - 1)) (inB p.b 0 (sk - 1))) (notB (eqI p.a p.b))
def okL (p : Run3) : Bool := inB p.ld (-10000) 10000
theorem c44 (sk er : Int) (rs : List Run3) (hsk : 1 ≤ sk ∧ sk ≤ 8) (x : Run3) : Sm Tryz.prog E 44 [.d (ruD x), .ptr 0 0 0 3] [.row (.ds (labL sk er rs)) 0 0 []] (fun v h => v = .d (.bool (okA sk x)) ∧ h = [.row (.ds (labL sk er rs)) 0 0 []]) := by
  refine sm_of HE true (by kernel_rfl) ?_
  unfold ruD encU labL okA
  conv => whnf
  rw [wrap_i64 (n := sk - 1) (by omega) (by omega)]
  refine Rets.use (within_ok x.a 0 (sk - 1)) ?_
  conv => whnf
  cases h1 : inB x.a 0 (sk - 1)
  · conv => whnf
    exact ⟨rfl, rfl⟩
  conv => whnf
  rw [wrap_i64 (n := sk - 1) (by omega) (by omega)]
  refine Rets.use (within_ok x.b 0 (sk - 1)) ?_
  conv => whnf
  cases h2 : inB x.b 0 (sk - 1)
  · conv => whnf
    exact ⟨rfl, rfl⟩
  · conv => whnf
    exact ⟨rfl, rfl⟩
theorem c45 (x : Run3) : Rets Tryz.prog E 45 [.d (ruD x)] (.d (.bool (okL x))) := by
  refine sm_of HE true (by kernel_rfl) ?_
  unfold ruD encU okL
  conv => whnf
  refine Rets.use (within_ok x.ld (-10000) 10000) ?_
  conv => whnf
  exact ⟨rfl, rfl⟩
def hpC (sk er : Int) (rs : List Run3) : List O := [.row (.vs [.func 44 [] [.ptr 1 0 0 3]]) 0 0 [], .row (.ds (labL sk er rs)) 0 0 []]
def hpB : List O := [.row (.ds [.func 45 [] []]) 0 0 []]

theorem c52a (sk er : Int) (rs : List Run3) (hsk : 1 ≤ sk ∧ sk ≤ 8) (x : Run3) : Sm Tryz.prog E 52 [.d (ruD x), .ptr 0 0 0 1] (hpC sk er rs) (fun v h => v = .d (.bool (notB (okA sk x))) ∧ h = (hpC sk er rs)) := by
  refine sm_of HE true (by kernel_rfl) ?_
  unfold ruD encU hpC labL
  conv => whnf
  refine Sm.mono (c44 sk er rs hsk x) ?_
  rintro v h ⟨rfl, rfl⟩
  conv => whnf
  exact ⟨rfl, rfl⟩
theorem idx75a (sk er : Int) (rs : List Run3) (hsk : 1 ≤ sk ∧ sk ≤ 8) (l : List Run3) (hl : l.length < 4611686018427387904) :
    Sm Tryz.prog E 75 [.d (.slice l.length 3 (encR l)), .func 52 [] [.ptr 0 0 0 1]] (hpC sk er rs) (fun v h => v = .d (.int .i64 (idxB (fun x => notB (okA sk x)) l 0)) ∧ h = (hpC sk er rs)) := by
  refine sm_of HE true (by kernel_rfl) ?_
  conv => whnf
  refine loops_by (fun i : Nat => ⟨19, [(0, .d (.slice l.length 3 (encR l))), (1, .func 52 [] [.ptr 0 0 0 1]), (4, .d (.int .i64 0)), (7, .d (.int .i64 l.length)), (8, .d (.int .i64 i))], .unk, (hpC sk er rs), []⟩)
    (fun i => i ≤ l.length ∧ idxB (fun x => notB (okA sk x)) l 0 = idxB (fun x => notB (okA sk x)) (l.drop i) i) (fun i => l.length - i) 0 ⟨Nat.zero_le _, rfl⟩ ?_
  intro n i ⟨hi, hid⟩ ih
  conv => whnf
  cases h1 : ltI (i : Int) (l.length : Int)
  · conv => whnf
    have hn : l.length ≤ i := by rw [ltI_eq] at h1; have := of_decide_eq_false h1; omega
    refine ⟨?_, rfl⟩
    rw [hid, List.drop_eq_nil_of_le hn]; rfl
  · have hlt : i < l.length := by rw [ltI_eq] at h1; have := of_decide_eq_true h1; omega
    have hb : Nat.blt i l.length = true := by simpa [Nat.blt_eq] using hlt
    obtain ⟨a, ha⟩ : ∃ a, l[i]? = some a := ⟨l[i], by simp [hlt]⟩
    conv => whnf
    rw [hb]
    conv => whnf
    rw [show Nat.ble (i * 3 + 3) (encR l).length = true from Nat.ble_eq_true_of_le (by rw [encR_length]; omega)]
    conv => whnf
    rw [encR_at ha]
    conv => whnf
    refine Sm.mono (c52a sk er rs hsk a) ?_
    rintro v h ⟨rfl, rfl⟩
    conv => whnf
    cases h2 : okA sk a
    · conv => whnf
      refine ⟨?_, rfl⟩
      rw [hid, idxB_at ha, h2]; rfl
    · conv => whnf
      rw [wrap_succ (by omega)]
      exact ih (i + 1) ⟨by omega, by rw [hid, idxB_at ha, h2]; rfl⟩ (by omega)
theorem c51a (sk er : Int) (rs : List Run3) (hsk : 1 ≤ sk ∧ sk ≤ 8) (l : List Run3) (hl : l.length < 4611686018427387904) :
    Sm Tryz.prog E 51 [.d (.slice l.length 3 (encR l)), .func 52 [] [.ptr 0 0 0 1]] (hpC sk er rs) (fun v h => v = .d (.bool (anyB (fun x => notB (okA sk x)) l)) ∧ h = (hpC sk er rs)) := by
  refine sm_of HE true (by kernel_rfl) ?_
  conv => whnf
  refine Sm.mono (idx75a sk er rs hsk l hl) ?_
  rintro v h ⟨rfl, rfl⟩
  conv => whnf
  exact ⟨by rw [← idxB_nonneg _ l 0], rfl⟩

theorem c52b  (x : Run3) : Sm Tryz.prog E 52 [.d (ruD x), .ptr 0 0 0 1] hpB (fun v h => v = .d (.bool (notB (okL x))) ∧ h = hpB) := by
  refine sm_of HE true (by kernel_rfl) ?_
  unfold ruD encU hpB
  conv => whnf
  refine Rets.use (c45 x) ?_
  conv => whnf
  exact ⟨rfl, rfl⟩
theorem idx75b  (l : List Run3) (hl : l.length < 4611686018427387904) :
    Sm Tryz.prog E 75 [.d (.slice l.length 3 (encR l)), .func 52 [] [.ptr 0 0 0 1]] hpB (fun v h => v = .d (.int .i64 (idxB (fun x => notB (okL x)) l 0)) ∧ h = hpB) := by
  refine sm_of HE true (by kernel_rfl) ?_
  conv => whnf
  refine loops_by (fun i : Nat => ⟨19, [(0, .d (.slice l.length 3 (encR l))), (1, .func 52 [] [.ptr 0 0 0 1]), (4, .d (.int .i64 0)), (7, .d (.int .i64 l.length)), (8, .d (.int .i64 i))], .unk, hpB, []⟩)
    (fun i => i ≤ l.length ∧ idxB (fun x => notB (okL x)) l 0 = idxB (fun x => notB (okL x)) (l.drop i) i) (fun i => l.length - i) 0 ⟨Nat.zero_le _, rfl⟩ ?_
  intro n i ⟨hi, hid⟩ ih
  conv => whnf
  cases h1 : ltI (i : Int) (l.length : Int)
  · conv => whnf
    have hn : l.length ≤ i := by rw [ltI_eq] at h1; have := of_decide_eq_false h1; omega
    refine ⟨?_, rfl⟩
    rw [hid, List.drop_eq_nil_of_le hn]; rfl
  · have hlt : i < l.length := by rw [ltI_eq] at h1; have := of_decide_eq_true h1; omega
    have hb : Nat.blt i l.length = true := by simpa [Nat.blt_eq] using hlt
    obtain ⟨a, ha⟩ : ∃ a, l[i]? = some a := ⟨l[i], by simp [hlt]⟩
    conv => whnf
    rw [hb]
    conv => whnf
    rw [show Nat.ble (i * 3 + 3) (encR l).length = true from Nat.ble_eq_true_of_le (by rw [encR_length]; omega)]
    conv => whnf
    rw [encR_at ha]
    conv => whnf
    refine Sm.mono (c52b a) ?_
    rintro v h ⟨rfl, rfl⟩
    conv => whnf
    cases h2 : okL a
    · conv => whnf
      refine ⟨?_, rfl⟩
      rw [hid, idxB_at ha, h2]; rfl
    · conv => whnf
      rw [wrap_succ (by omega)]
      exact ih (i + 1) ⟨by omega, by rw [hid, idxB_at ha, h2]; rfl⟩ (by omega)
theorem c51b  (l : List Run3) (hl : l.length < 4611686018427387904) :
    Sm Tryz.prog E 51 [.d (.slice l.length 3 (encR l)), .func 52 [] [.ptr 0 0 0 1]] hpB (fun v h => v = .d (.bool (anyB (fun x => notB (okL x)) l)) ∧ h = hpB) := by
  refine sm_of HE true (by kernel_rfl) ?_
  conv => whnf
  refine Sm.mono (idx75b l hl) ?_
  rintro v h ⟨rfl, rfl⟩
  conv => whnf
  exact ⟨by rw [← idxB_nonneg _ l 0], rfl⟩

theorem c43a (sk er : Int) (rs : List Run3) (hsk : 1 ≤ sk ∧ sk ≤ 8) (l : List Run3) (hl : l.length < 4611686018427387904) :
    Sm Tryz.prog E 43 [.d (.slice l.length 3 (encR l)), .func 44 [] [.ptr 0 0 0 3]] [.row (.ds (labL sk er rs)) 0 0 []] (fun v h => v = .d (.bool (allB (okA sk) l)) ∧ h = [.row (.ds (labL sk er rs)) 0 0 []]) := by
  refine sm_of HE true (by kernel_rfl) ?_
  unfold labL
  conv => whnf
  refine Sm.mono (c51a sk er rs hsk l hl) ?_
  rintro v h ⟨rfl, rfl⟩
  conv => whnf
  exact ⟨rfl, rfl⟩
theorem c43b (l : List Run3) (hl : l.length < 4611686018427387904) :
    Rets Tryz.prog E 43 [.d (.slice l.length 3 (encR l)), .d (.func 45 [] [])] (.d (.bool (allB okL l))) := by
  refine sm_of HE true (by kernel_rfl) ?_
  conv => whnf
  refine Sm.mono (c51b l hl) ?_
  rintro v h ⟨rfl, rfl⟩
  conv => whnf
  exact ⟨rfl, rfl⟩
def chk (sk er : Int) (rs : List Run3) : Int :=
  match orB (notB (inB sk 1 8)) (notB (inB er 0 1000)) with
  | true => 3
  | false => match ltI 40 rs.length with
    | true => 2
    | false => match notB (allB (okA sk) rs) with
      | true => 1
      | false => match notB (allB okL rs) with
        | true => 3
        | false => 0
theorem check_ok (sk er : Int) (rs : List Run3) (hl : rs.length < 4611686018427387904) : Rets Tryz.prog E 34 [.d (laD sk er rs)] (.d (.int .i64 (chk sk er rs))) := by
  refine sm_of HE true (by kernel_rfl) ?_
  unfold laD labL chk
  conv => whnf
  refine Rets.use (within_ok sk 1 8) ?_
  conv => whnf
  cases g1 : inB sk 1 8
  · conv => whnf
    exact ⟨rfl, rfl⟩
  have hsk := inB_true g1
  conv => whnf
  refine Rets.use (within_ok er 0 1000) ?_
  conv => whnf
  cases g2 : inB er 0 1000
  · conv => whnf
    exact ⟨rfl, rfl⟩
  conv => whnf
  cases g3 : ltI 40 (rs.length : Int)
  case true =>
    conv => whnf
    exact ⟨rfl, rfl⟩
  conv => whnf
  refine Sm.mono (c43a sk er rs hsk rs hl) ?_
  rintro v h ⟨rfl, rfl⟩
  unfold labL
  conv => whnf
  cases g4 : allB (okA sk) rs
  · conv => whnf
    exact ⟨rfl, rfl⟩
  conv => whnf
  refine Rets.use (c43b rs hl) ?_
  conv => whnf
  cases g5 : allB okL rs
  · conv => whnf
    exact ⟨rfl, rfl⟩
  · conv => whnf
    exact ⟨rfl, rfl⟩
end Go.Proofs.Rx
