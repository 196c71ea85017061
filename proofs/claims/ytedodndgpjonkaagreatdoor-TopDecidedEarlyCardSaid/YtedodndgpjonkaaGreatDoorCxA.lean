/-
  TopDecidedEarly: numbers, lists, a cup's cells; within, outside.
-/
import Derived.Test.YtedodndgpjonkaaGreatDoorCxBase
import Derived.Test.YtedodndgpjonkaaGreatDoorCwN
section
namespace Go.Proofs.Cx
open Go Go.Ab Go.Proofs.Cw
set_option maxRecDepth 100000
set_option maxHeartbeats 1000000
def inB (n lo hi : Int) : Bool := andB (leI lo n) (leI n hi)
def encI (l : List Int) : List D := l.map (D.int .i64)
theorem encI_get1 {l : List Int} {m : Nat} {a : Int} (h : l[m]? = some a) : (encI l)[m * 1]? = some (.int .i64 a) := by rw [Nat.mul_one]; simp [encI, h]
theorem encI_get {l : List Int} {m : Nat} {a : Int} (h : l[m]? = some a) : (encI l)[m]? = some (.int .i64 a) := by simp [encI, h]
theorem encI_get0 {l : List Int} {m : Nat} {a : Int} (h : l[m]? = some a) : (encI l)[0 + m * 1]? = some (.int .i64 a) := by rw [Nat.zero_add]; exact encI_get1 h
theorem encI_length (l : List Int) : (encI l).length = l.length := by simp [encI]
theorem encI_snoc (l : List Int) (a : Int) : encI (l ++ [a]) = encI l ++ [.int .i64 a] := by simp [encI]
theorem encI_drop (l : List Int) (n : Nat) : (encI l).drop n = encI (l.drop n) := by simp [encI, List.map_drop]
theorem encI_take (l : List Int) (n : Nat) : (encI l).take n = encI (l.take n) := by simp [encI, List.map_take]
theorem wrap_i64 {n : Int} (h0 : -9223372036854775808 ≤ n) (h1 : n ≤ 9223372036854775807) : IntKind.i64.wrap n = n := by
  rw [IntKind.wrap_i64]; omega
theorem wrap_succ {i : Nat} (h : i < 4611686018427387904) : IntKind.i64.wrap ((i : Int) + 1) = ((i + 1 : Nat) : Int) := by rw [wrap_i64] <;> omega
theorem inB_true {n lo hi : Int} (h : inB n lo hi = true) : lo ≤ n ∧ n ≤ hi := by
  unfold inB at h
  obtain ⟨h1, h2⟩ := andB_true h
  rw [leI_eq] at h1 h2
  exact ⟨of_decide_eq_true h1, of_decide_eq_true h2⟩
theorem inB_false {n lo hi : Int} (h : inB n lo hi = false) : ¬ (lo ≤ n ∧ n ≤ hi) := by
  rintro ⟨h1, h2⟩
  unfold inB at h
  rw [leI_eq, leI_eq, decide_eq_true h1, decide_eq_true h2] at h
  cases h
theorem inB_of {n lo hi : Int} (h1 : lo ≤ n) (h2 : n ≤ hi) : inB n lo hi = true := by
  cases h : inB n lo hi
  · exact absurd ⟨h1, h2⟩ (inB_false h)
  · rfl
theorem ltI_t {a b : Int} (h : ltI a b = true) : a < b := by rw [ltI_eq] at h; exact of_decide_eq_true h
theorem ltI_f {a b : Int} (h : ltI a b = false) : b ≤ a := by rw [ltI_eq] at h; have := of_decide_eq_false h; omega
theorem eqI_t {a b : Int} (h : eqI a b = true) : a = b := by rw [eqI_eq] at h; exact of_decide_eq_true h
theorem eqI_f {a b : Int} (h : eqI a b = false) : a ≠ b := by rw [eqI_eq] at h; exact of_decide_eq_false h
theorem ltI_tt {a b : Int} (h : a < b) : ltI a b = true := by rw [ltI_eq]; exact decide_eq_true h
theorem ltI_ff {a b : Int} (h : b ≤ a) : ltI a b = false := by rw [ltI_eq]; exact decide_eq_false (by omega)
theorem eqI_tt {a b : Int} (h : a = b) : eqI a b = true := by rw [eqI_eq]; exact decide_eq_true h
theorem eqI_ff {a b : Int} (h : a ≠ b) : eqI a b = false := by rw [eqI_eq]; exact decide_eq_false h
theorem blt_t {i n : Nat} (h : i < n) : Nat.blt i n = true := by simpa [Nat.blt_eq] using h
theorem ble_t {i n : Nat} (h : i ≤ n) : Nat.ble i n = true := Nat.ble_eq_true_of_le h
theorem at_some {α : Type} {l : List α} {i : Nat} (h : i < l.length) : ∃ a, l[i]? = some a := ⟨l[i], by simp [h]⟩
theorem lt_of_at {α : Type} {l : List α} {i : Nat} {a : α} (h : l[i]? = some a) : i < l.length := (List.getElem?_eq_some_iff.1 h).1
theorem may_all (c off n : Nat) : may c off n c 0 [] = true := by
  unfold may
  rw [Nat.ble_eq_true_of_le (Nat.zero_le c)]
  exact Nat.ble_eq_true_of_le (Nat.le_refl c)
theorem may_fl {e off n fl : Nat} (h : fl ≤ e) : may e off n e fl [] = true := by
  unfold may
  rw [Nat.ble_eq_true_of_le h]
  exact Nat.ble_eq_true_of_le (Nat.le_refl e)
theorem row_all {α : Type} {l : List α} {n : Nat} (h : l.length = n) : (l.drop 0).take n = l := by rw [List.drop_zero, List.take_of_length_le (by omega)]
theorem allD_map (l : List D) : allD (l.map .d) = some l := by
  induction l with
  | nil => rfl
  | cons a l ih => simp [allD, ih]
theorem ofV_map (l : List D) : Cells.ofV (l.map .d) = .ds l := by unfold Cells.ofV; rw [allD_map]
theorem fL_rec (F : List D) (K : List D → Prop) : List.rec (motive := fun _ => (List D → Prop) → Prop) (fun K => K []) (fun x _ ih K => ih fun l => K (x :: l)) F K = K F := fL_eq F K
theorem encI_set : ∀ (l : List Int) (i : Nat) (x : Int), i < l.length → wr (encI l) (i * 1) [.int .i64 x] = encI (l.set i x)
  | a :: l, 0, x, _ => by simp [encI, wr, wr_nil]
  | a :: l, i + 1, x, h => by
    have := encI_set l i x (by simpa using h)
    rw [Nat.mul_one] at this ⊢
    show (_ :: wr (encI l) i [.int .i64 x]) = _
    rw [this]; rfl
  | [], i, _, h => by simp at h
theorem write_int {l : List Int} {i off : Nat} {x : Int} (h : i < l.length) (ho : off = i * 1) : (Cells.ds (encI l)).write off [V.d (D.int .i64 x)] = some (.ds (encI (l.set i x))) := by
  subst ho
  unfold Cells.write
  rw [show Nat.ble (i * 1 + [V.d (D.int .i64 x)].length) (Cells.ds (encI l)).len = true from Nat.ble_eq_true_of_le (by simp only [List.length_cons, List.length_nil, Cells.len, encI_length]; omega)]
  simp only [allD]
  rw [encI_set l i x h]
theorem len_beq {acc : List Int} {k : Nat} (h : acc.length = k + 1) : Nat.beq ((k + 1) * 1) (Cells.ds (encI acc)).len = true := by
  have : (encI acc).length = (k + 1) * 1 := by rw [encI_length, h]; omega
  simp only [Cells.len, this]; exact Nat.beq_refl _
theorem wk_one (l : List Int) : Wk (match l with | [] => D.nil | a :: r => .slice (r.length + 1) 1 (encI (a :: r))) (.slice l.length 1 (encI l)) := by
  cases l with
  | cons a r => exact fun _ _ _ h => h
  | nil => exact Wk.nil 1
/-! ### Lists of races -/
def rowD (r : List Int) : D := .slice r.length 1 (encI r)
def encLL (R : List (List Int)) : List D := R.map rowD
theorem encLL_length (R : List (List Int)) : (encLL R).length = R.length := by simp [encLL]
theorem encLL_get1 {R : List (List Int)} {m : Nat} {r : List Int} (h : R[m]? = some r) : (encLL R)[m * 1]? = some (.slice r.length 1 (encI r)) := by rw [Nat.mul_one]; simp [encLL, h, rowD]
theorem encLL_get0 {R : List (List Int)} {m : Nat} {r : List Int} (h : R[m]? = some r) : (encLL R)[0 + m * 1]? = some (.slice r.length 1 (encI r)) := by rw [Nat.zero_add]; exact encLL_get1 h
theorem encLL_snoc (R : List (List Int)) (r : List Int) : encLL (R ++ [r]) = encLL R ++ [.slice r.length 1 (encI r)] := by simp [encLL, rowD]
theorem encLL_append (R S : List (List Int)) : encLL (R ++ S) = encLL R ++ encLL S := by simp [encLL]
theorem encLL_take (R : List (List Int)) (n : Nat) : (encLL R).take n = encLL (R.take n) := by simp [encLL, List.map_take]
theorem encLL_drop (R : List (List Int)) (n : Nat) : (encLL R).drop n = encLL (R.drop n) := by simp [encLL, List.map_drop]
theorem len_beqL {acc : List (List Int)} {k : Nat} (h : acc.length = k + 1) : Nat.beq ((k + 1) * 1) (Cells.ds (encLL acc)).len = true := by
  have : (encLL acc).length = (k + 1) * 1 := by rw [encLL_length, h]; omega
  simp only [Cells.len, this]; exact Nat.beq_refl _
theorem encLL_set : ∀ (l : List (List Int)) (i : Nat) (x : List Int), i < l.length → wr (encLL l) (i * 1) [.slice x.length 1 (encI x)] = encLL (l.set i x)
  | a :: l, 0, x, _ => by simp [encLL, wr, wr_nil, rowD]
  | a :: l, i + 1, x, h => by
    have := encLL_set l i x (by simpa using h)
    rw [Nat.mul_one] at this ⊢
    show (_ :: wr (encLL l) i [.slice x.length 1 (encI x)]) = _
    rw [this]; rfl
  | [], i, _, h => by simp at h
theorem write_row {l : List (List Int)} {i off : Nat} {x : List Int} (h : i < l.length) (ho : off = i * 1) : (Cells.ds (encLL l)).write off [V.d (D.slice x.length 1 (encI x))] = some (.ds (encLL (l.set i x))) := by
  subst ho
  unfold Cells.write
  rw [show Nat.ble (i * 1 + [V.d (D.slice x.length 1 (encI x))].length) (Cells.ds (encLL l)).len = true from Nat.ble_eq_true_of_le (by simp only [List.length_cons, List.length_nil, Cells.len, encLL_length]; omega)]
  simp only [allD]
  rw [encLL_set l i x h]
/-! ### A cup -/
def cupL (nn rr bb : Int) (P : List Int) (R : List (List Int)) : List D := [.int .i64 nn, .int .i64 rr, .int .i64 bb, .slice P.length 1 (encI P), .slice R.length 1 (encLL R)]
def cupD (nn rr bb : Int) (P : List Int) (R : List (List Int)) : D := .agg (cupL nn rr bb P R)
theorem within_ok (n lo hi : Int) : Rets Tryz.prog E 40 [.d (.int .i64 n), .d (.int .i64 lo), .d (.int .i64 hi)] (.d (.bool (inB n lo hi))) := by
  refine sm_of HE true (by kernel_rfl) ?_
  conv => whnf
  unfold inB
  cases h1 : leI lo n
  · conv => whnf
    exact ⟨rfl, rfl⟩
  · conv => whnf
    cases h2 : leI n hi
    · conv => whnf
      exact ⟨rfl, rfl⟩
    · conv => whnf
      exact ⟨rfl, rfl⟩
theorem out_in (n a b : Int) : orB (ltI n a) (ltI b n) = notB (inB n a b) := by
  unfold inB leI
  cases ltI n a <;> cases ltI b n <;> rfl
theorem outside_ok (n a b : Int) : Rets Tryz.prog E 19 [.d (.int .i64 n), .d (.int .i64 a), .d (.int .i64 b)] (.d (.bool (notB (inB n a b)))) := by
  rw [← out_in]
  refine sm_of HE true (by kernel_rfl) ?_
  conv => whnf
  cases h1 : ltI n a
  · conv => whnf
    exact ⟨rfl, rfl⟩
  · conv => whnf
    exact ⟨rfl, rfl⟩
theorem clone18 (l : List Int) (hl : l.length * 8 ≤ 140737488355328) : Rets Tryz.prog E 18 [.d (.slice l.length 1 (encI l))] (.d (.slice l.length 1 (encI l))) := by
  cases l with
  | nil =>
    refine Rets.weaken ?_ (Wk.nil 1)
    refine sm_of HE true (by kernel_rfl) ?_
    conv => whnf
    exact ⟨rfl, rfl⟩
  | cons a r =>
    simp only [List.length_cons] at hl ⊢
    refine sm_of HE true (by kernel_rfl) ?_
    conv => whnf
    rw [show Nat.ble ((r.length + 1) * 8) 140737488355328 = true from Nat.ble_eq_true_of_le (by omega)]
    conv => whnf
    rw [ofV_map]
    have hel : (encI (a :: r)).length = (r.length + 1) * 1 := by rw [encI_length]; simp
    conv => whnf
    rw [show Nat.ble (0 + (r.length + 1) * 1) (encI (a :: r)).length = true from Nat.ble_eq_true_of_le (by omega)]
    conv => whnf
    refine ⟨?_, rfl⟩
    rw [row_all hel]
end Go.Proofs.Cx
end
section
/-
  TopDecidedEarly: how many share a place, what is a skier's score: by the reference, by the program.
-/
namespace Go.Proofs.Cx
open Go Go.Ab Go.Proofs.Cw
set_option maxRecDepth 100000
set_option maxHeartbeats 1000000
theorem sharing_ok (l : List Int) (p : Int) (hl : l.length < 4611686018427387904) : Rets Tryz.prog E 20 [.d (.slice l.length 1 (encI l)), .d (.int .i64 p)] (.d (.int .i64 (shr l p : Nat))) := by
  refine sm_of HE true (by kernel_rfl) ?_
  conv => whnf
  refine loops_by (fun x : Nat × Nat => match x with
      | (i, n) => ⟨22, [(0, .d (.slice l.length 1 (encI l))), (1, .d (.int .i64 p)), (4, .d (.int .i64 0)), (5, .d (.int .i64 n)), (6, .d (.int .i64 i))], .unk, [], []⟩)
    (fun x => x.1 ≤ l.length ∧ x.2 = (l.take x.1).countP fun q => decide (q = p)) (fun x => l.length - x.1) (0, 0) ⟨Nat.zero_le _, rfl⟩ ?_
  rintro f ⟨i, n⟩ ⟨hi, hn⟩ ih
  simp only at hi hn
  have hnl : n ≤ l.length := by rw [hn]; exact Nat.le_trans List.countP_le_length (by simp; omega)
  conv => whnf
  cases h1 : ltI (i : Int) (l.length : Int)
  · have := ltI_f h1
    conv => whnf
    refine ⟨?_, rfl⟩
    rw [hn, List.take_of_length_le (by omega)]; rfl
  have hlt := ltI_t h1
  have hb := blt_t (i := i) (n := l.length) (by omega)
  obtain ⟨a, ha⟩ := at_some (l := l) (i := i) (by omega)
  have hc := countP_take (p := fun q => decide (q = p)) ha
  rw [← hn] at hc
  conv => whnf
  rw [hb]
  conv => whnf
  rw [encI_get1 ha]
  conv => whnf
  cases h2 : eqI a p
  · rw [decide_eq_false (eqI_f h2)] at hc
    conv => whnf
    rw [wrap_succ (by omega)]
    exact ih (i + 1, n) ⟨by simp only; omega, hc.symm⟩ (by simp only; omega)
  · rw [decide_eq_true (eqI_t h2)] at hc
    conv => whnf
    rw [wrap_succ (by omega)]
    conv => whnf
    rw [wrap_succ (by omega)]
    exact ih (i + 1, n + 1) ⟨by simp only; omega, hc.symm⟩ (by simp only; omega)
/-! ### A sum -/
theorem sum_ok (l : List Int) (hl : l.length ≤ 1000) (hx : ∀ x ∈ l, 0 ≤ x ∧ x ≤ 1000000) : Rets Tryz.prog E 79 [.d (.slice l.length 1 (encI l))] (.d (.int .i64 l.sum)) := by
  refine sm_of HE true (by kernel_rfl) ?_
  conv => whnf
  refine loops_by (fun x : Nat × Int => match x with
      | (i, n) => ⟨17, [(2, .d (.int .i64 0)), (3, .d (.int .i64 n)), (6, .d (.slice l.length 1 (encI l))), (7, .d (.int .i64 l.length)), (8, .d (.int .i64 i))], .unk, [], []⟩)
    (fun x => x.1 ≤ l.length ∧ x.2 = (l.take x.1).sum) (fun x => l.length - x.1) (0, 0) ⟨Nat.zero_le _, rfl⟩ ?_
  rintro f ⟨i, n⟩ ⟨hi, hn⟩ ih
  simp only at hi hn
  conv => whnf
  cases h1 : ltI (i : Int) (l.length : Int)
  · have := ltI_f h1
    conv => whnf
    refine ⟨?_, rfl⟩
    rw [hn, List.take_of_length_le (by omega)]
  have hlt := ltI_t h1
  have hb := blt_t (i := i) (n := l.length) (by omega)
  obtain ⟨a, ha⟩ := at_some (l := l) (i := i) (by omega)
  have hs := sum_bound (m := 1000000) (l.take i) fun x h => hx x (List.mem_of_mem_take h)
  rw [← hn] at hs
  have hlen : (l.take i).length ≤ 1000 := by simp; omega
  have hax := hx a (List.mem_of_getElem? ha)
  have hnx : (l.take (i + 1)).sum = n + a := by rw [List.take_add_one, ha, hn]; simp
  conv => whnf
  rw [hb]
  conv => whnf
  rw [encI_get1 ha]
  conv => whnf
  rw [wrap_i64 (n := n + a) (by omega) (by omega)]
  conv => whnf
  rw [wrap_succ (by omega)]
  exact ih (i + 1, n + a) ⟨by simp only; omega, hnx.symm⟩ (by simp only; omega)
/-! ### What is known of points and places in order -/
structure Pt (P : List Int) : Prop where
  len : 1 ≤ P.length ∧ P.length ≤ 60
  le : ∀ x ∈ P, 0 ≤ x ∧ x ≤ 1000
theorem pt_of {nn rr bb : Int} {P : List Int} {R : List (List Int)} (O : Ok nn rr bb P R) : Pt P := ⟨O.pts, O.pr⟩
/-- The points from place p on, for so many. -/
def wor (P : List Int) (p : Int) (m : Nat) : Int := ((P.drop (p.toNat - 1)).take m).sum
theorem part_bound {P : List Int} (O : Pt P) (q m : Nat) : 0 ≤ ((P.drop q).take m).sum ∧ ((P.drop q).take m).sum ≤ 60000 := by
  have h := sum_bound (m := 1000) ((P.drop q).take m) fun x hx => O.le x (List.mem_of_mem_drop (List.mem_of_mem_take hx))
  have hl : ((P.drop q).take m).length ≤ 60 := by have := O.len; simp; omega
  omega
theorem tdiv_small {s : Int} {n : Nat} (h : 0 ≤ s ∧ s ≤ 60000) (hn : 1 ≤ n) : IntKind.i64.wrap (s.tdiv n) = s.tdiv n := by
  have h1 := Int.tdiv_nonneg h.1 (show (0 : Int) ≤ n by omega)
  have h2 : s.tdiv n ≤ 60000 := by
    rw [Int.tdiv_eq_ediv_of_nonneg h.1]
    exact Int.le_trans (Int.ediv_le_self _ h.1) h.2
  exact wrap_i64 (by omega) (by omega)
theorem worth_ok {nn rr bb : Int} {P : List Int} {R : List (List Int)} (O : Pt P) {p : Int} {m : Nat} (hp : 1 ≤ p ∧ p ≤ 60) (hm : m ≤ 100) :
    Rets Tryz.prog E 110 [.d (cupD nn rr bb P R), .d (.int .i64 p), .d (.int .i64 m)] (.d (.int .i64 (wor P p m))) := by
  have hl := O.len
  obtain ⟨q, rfl⟩ : ∃ q : Nat, p = q + 1 := ⟨(p - 1).toNat, by omega⟩
  refine sm_of HE true (by kernel_rfl) ?_
  unfold cupD cupL
  conv => whnf
  rw [wrap_i64 (n := (q : Int) + 1 - 1) (by omega) (by omega)]
  rw [wrap_i64 (n := (q : Int) + 1 - 1 + m) (by omega) (by omega)]
  obtain ⟨h, hh, h1, h2, h3⟩ : ∃ h : Nat, minI (P.length : Int) ((q : Int) + 1 - 1 + m) = h ∧ h ≤ P.length ∧ h ≤ q + m ∧ (h = P.length ∨ h = q + m) := by
    unfold minI
    cases c : ltI ((q : Int) + 1 - 1 + m) (P.length : Int)
    · have := ltI_f c
      exact ⟨P.length, rfl, Nat.le_refl _, by omega, .inl rfl⟩
    · have := ltI_t c
      exact ⟨q + m, by simp only; omega, by omega, Nat.le_refl _, .inr rfl⟩
  rw [hh]
  unfold wor
  rw [show ((q : Int) + 1).toNat - 1 = q by omega]
  cases c : ltI (h : Int) ((q : Int) + 1)
  case true =>
    have := ltI_t c
    have e : ((P.drop q).take m).sum = 0 := by
      rcases h3 with h3 | h3
      · rw [List.drop_eq_nil_of_le (by omega)]; simp
      · rw [show m = 0 by omega]; simp
    rw [e]
    conv => whnf
    exact ⟨rfl, rfl⟩
  have := ltI_f c
  conv => whnf
  rw [wrap_i64 (n := (q : Int) + 1 - 1) (by omega) (by omega), show (q : Int) + 1 - 1 = (q : Nat) by omega]
  conv => whnf
  rw [ble_t (i := h) (n := P.length) h1]
  conv => whnf
  rw [ble_t (i := q) (n := h) (by omega)]
  conv => whnf
  have e1 : ((encI P).take (h * 1)).drop (q * 1) = encI ((P.take h).drop q) := by rw [Nat.mul_one, Nat.mul_one, encI_take, encI_drop]
  have e2 : h - q = ((P.take h).drop q).length := by simp; omega
  rw [e1, e2]
  have e3 : (P.drop q).take m = (P.take h).drop q := by
    rcases h3 with h3 | h3
    · rw [h3, List.take_length, List.take_of_length_le (by simp; omega)]
    · rw [h3, List.drop_take, Nat.add_sub_cancel_left]
  rw [e3]
  refine Rets.use (sum_ok _ (by simp; omega) fun x hx => by have := O.le x (List.mem_of_mem_take (List.mem_of_mem_drop hx)); omega) ?_
  conv => whnf
  exact ⟨rfl, rfl⟩
theorem points_ok {nn rr bb : Int} {P : List Int} {R : List (List Int)} (O : Pt P) {l : List Int} {s : Nat} (hs : s < l.length) (hl : l.length ≤ 100) (hp : ∀ q ∈ l, 0 ≤ q ∧ q ≤ 60) :
    Rets Tryz.prog E 80 [.d (cupD nn rr bb P R), .d (.slice l.length 1 (encI l)), .d (.int .i64 s)] (.d (.int .i64 (scr P l s))) := by
  have hL := O.len
  obtain ⟨p, hpp⟩ := at_some (l := l) (i := s) hs
  have hpl : pl l s = p := by unfold pl; rw [hpp]; rfl
  have hpb := hp p (List.mem_of_getElem? hpp)
  have hsh := shr_pos hs
  rw [hpl] at hsh
  have hb := blt_t (i := s) (n := l.length) hs
  refine sm_of HE true (by kernel_rfl) ?_
  unfold cupD cupL
  conv => whnf
  rw [hb]
  conv => whnf
  rw [encI_get1 hpp]
  conv => whnf
  unfold scr
  rw [hpl]
  cases h0 : eqI p 0
  case true =>
    rw [if_pos (eqI_t h0)]
    conv => whnf
    exact ⟨rfl, rfl⟩
  have hp0 := eqI_f h0
  rw [if_neg hp0]
  conv => whnf
  refine loops_by (fun x : Nat × Nat => match x with
      | (i, n) => ⟨35, [(3, .ptr 0 0 0 5), (6, .d (.int .i64 0)), (7, .d (.int .i64 p)), (8, .d (.int .i64 n)), (17, .d (.slice l.length 1 (encI l))), (18, .d (.int .i64 l.length)), (19, .d (.int .i64 i))], .unk, [.row (.ds (cupL nn rr bb P R)) 0 0 []], []⟩)
    (fun x => x.1 ≤ l.length ∧ x.2 = (l.take x.1).countP fun q => decide (q = p)) (fun x => l.length - x.1) (0, 0) ⟨Nat.zero_le _, rfl⟩ ?_
  rintro f ⟨i, n⟩ ⟨hi, hn⟩ ih
  simp only at hi hn
  have hnl : n ≤ l.length := by rw [hn]; exact Nat.le_trans List.countP_le_length (by simp; omega)
  conv => whnf
  cases h1 : ltI (i : Int) (l.length : Int)
  · have := ltI_f h1
    rw [List.take_of_length_le (by omega)] at hn
    have hns : n = shr l p := hn
    conv => whnf
    refine Rets.use (worth_ok (nn := nn) (rr := rr) (bb := bb) (R := R) O (m := n) (by omega) (by omega)) ?_
    rw [← hns] at hsh
    rw [← hns]
    conv => whnf
    rw [eqI_ff (a := (n : Int)) (b := 0) (by omega)]
    conv => whnf
    refine ⟨?_, rfl⟩
    unfold wor
    rw [tdiv_small (part_bound O _ _) hsh]
  have hlt := ltI_t h1
  have hb := blt_t (i := i) (n := l.length) (by omega)
  obtain ⟨a, ha⟩ := at_some (l := l) (i := i) (by omega)
  have hc := countP_take (p := fun q => decide (q = p)) ha
  rw [← hn] at hc
  conv => whnf
  rw [hb]
  conv => whnf
  rw [encI_get1 ha]
  conv => whnf
  cases h2 : eqI a p
  · rw [decide_eq_false (eqI_f h2)] at hc
    conv => whnf
    rw [wrap_succ (by omega)]
    exact ih (i + 1, n) ⟨by simp only; omega, hc.symm⟩ (by simp only; omega)
  · rw [decide_eq_true (eqI_t h2)] at hc
    conv => whnf
    rw [wrap_succ (by omega)]
    conv => whnf
    rw [wrap_succ (by omega)]
    exact ih (i + 1, n + 1) ⟨by simp only; omega, hc.symm⟩ (by simp only; omega)
theorem score_ok {nn rr bb : Int} {P : List Int} {R : List (List Int)} (O : Pt P) {l : List Int} {s : Nat} (hs : s < l.length) (hl : l.length ≤ 100) (hp : ∀ q ∈ l, 0 ≤ q ∧ q ≤ 60) :
    Rets Tryz.prog E 83 [.d (cupD nn rr bb P R), .d (.slice l.length 1 (encI l)), .d (.int .i64 s)] (.d (.int .i64 (scr P l s))) := by
  have hL := O.len
  obtain ⟨p, hpp⟩ := at_some (l := l) (i := s) hs
  have hpl : pl l s = p := by unfold pl; rw [hpp]; rfl
  have hpb := hp p (List.mem_of_getElem? hpp)
  have hsh := shr_pos hs
  rw [hpl] at hsh
  have hsl : shr l p ≤ l.length := List.countP_le_length
  have hb := blt_t (i := s) (n := l.length) hs
  refine sm_of HE true (by kernel_rfl) ?_
  unfold cupD cupL
  conv => whnf
  rw [hb]
  conv => whnf
  rw [encI_get1 hpp]
  conv => whnf
  unfold scr
  rw [hpl]
  cases h0 : eqI p 0
  case true =>
    rw [if_pos (eqI_t h0)]
    conv => whnf
    exact ⟨rfl, rfl⟩
  have hp0 := eqI_f h0
  rw [if_neg hp0]
  conv => whnf
  refine Rets.use (sharing_ok l p (by omega)) ?_
  generalize shr l p = m at *
  obtain ⟨q, rfl⟩ : ∃ q : Nat, p = q + 1 := ⟨(p - 1).toNat, by omega⟩
  conv => whnf
  refine loops_by (fun x : Nat × Int => match x with
      | (i, n) => ⟨44, [(3, .ptr 0 0 0 5), (6, .d (.int .i64 0)), (7, .d (.int .i64 ((q : Int) + 1))), (8, .d (.int .i64 n)), (9, .d (.int .i64 m)), (10, .d (.int .i64 ((q : Int) + 1 + (i : Nat))))], .unk, [.row (.ds (cupL nn rr bb P R)) 0 0 []], []⟩)
    (fun x => x.1 ≤ m ∧ x.2 = ((P.drop q).take x.1).sum) (fun x => m - x.1) (0, 0) ⟨Nat.zero_le _, rfl⟩ ?_
  rintro f ⟨i, n⟩ ⟨hi, hn⟩ ih
  simp only at hi hn
  conv => whnf
  rw [wrap_i64 (n := (q : Int) + 1 + m) (by omega) (by omega)]
  cases h1 : ltI ((q : Int) + 1 + i) ((q : Int) + 1 + m)
  · have := ltI_f h1
    obtain rfl : i = m := by omega
    conv => whnf
    rw [eqI_ff (a := (i : Int)) (b := 0) (by omega)]
    conv => whnf
    refine ⟨?_, rfl⟩
    rw [hn, show ((q : Int) + 1).toNat - 1 = q by omega, tdiv_small (part_bound O _ _) hsh]
  have := ltI_t h1
  have hnb := part_bound O q i
  rw [← hn] at hnb
  conv => whnf
  cases h2 : leI ((q : Int) + 1 + i) (P.length : Int)
  · have hle : P.length ≤ q + i := by rw [leI_eq] at h2; have := of_decide_eq_false h2; omega
    conv => whnf
    rw [wrap_i64 (n := (q : Int) + 1 + i + 1) (by omega) (by omega), show (q : Int) + 1 + i + 1 = (q : Int) + 1 + (i + 1 : Nat) by omega]
    exact ih (i + 1, n) ⟨by simp only; omega, by simp only; rw [hn, take_sum_none hle]⟩ (by simp only; omega)
  · have hlt : q + i < P.length := by rw [leI_eq] at h2; have := of_decide_eq_true h2; omega
    have hb2 := blt_t (i := q + i) (n := P.length) hlt
    obtain ⟨a, ha⟩ := at_some (l := P) (i := q + i) hlt
    have hab := O.le a (List.mem_of_getElem? ha)
    conv => whnf
    rw [wrap_i64 (n := (q : Int) + 1 + i - 1) (by omega) (by omega), show (q : Int) + 1 + i - 1 = (q + i : Nat) by omega]
    conv => whnf
    rw [hb2]
    conv => whnf
    rw [encI_get1 ha]
    conv => whnf
    rw [wrap_i64 (n := n + a) (by omega) (by omega)]
    conv => whnf
    rw [wrap_i64 (n := (q : Int) + 1 + i + 1) (by omega) (by omega), show (q : Int) + 1 + i + 1 = (q : Int) + 1 + (i + 1 : Nat) by omega]
    exact ih (i + 1, n + a) ⟨by simp only; omega, by simp only; rw [hn, take_sum ha]⟩ (by simp only; omega)
/-- Races of so many skiers. -/
structure Rc (n : Nat) (R : List (List Int)) : Prop where
  sk : n ≤ 12
  len : R.length ≤ 20
  vr : Cw.VR n R
theorem Rc.at {n : Nat} {R : List (List Int)} (h : Rc n R) {j : Nat} {r : List Int} (hr : R[j]? = some r) : r.length = n ∧ ∀ q ∈ r, 0 ≤ q ∧ q ≤ 60 := h.vr r (List.mem_of_getElem? hr)
theorem row_of {R : List (List Int)} {j : Nat} {r : List Int} (hr : R[j]? = some r) : row R j = r := by unfold row; rw [hr]; rfl
theorem pl_of {r : List Int} {s : Nat} {p : Int} (h : r[s]? = some p) : pl r s = p := by unfold pl; rw [h]; rfl
/-- The races that count, as numbers. -/
def cL (P : List Int) (b : Nat) (R : List (List Int)) (s : Nat) : List Int := (ctd (fun j => scr P (row R j) s) R.length b).map Int.ofNat
theorem cL_mem {P : List Int} {b : Nat} {R : List (List Int)} {s : Nat} {x : Int} (h : x ∈ cL P b R s) : ∃ j : Nat, x = j ∧ j < R.length := by
  unfold cL at h
  obtain ⟨j, hj, rfl⟩ := List.mem_map.1 h
  unfold ctd at hj
  exact ⟨j, rfl, List.mem_range.1 (List.mem_filter.1 hj).1⟩
theorem cL_length {P : List Int} {b : Nat} {R : List (List Int)} {s : Nat} : (cL P b R s).length ≤ R.length := by
  unfold cL ctd
  rw [List.length_map]
  exact Nat.le_trans (List.length_filter_le ..) (by simp)
theorem cL_tot {P : List Int} {b : Nat} {R : List (List Int)} {s : Nat} : ((cL P b R s).map fun x => scr P (row R x.toNat) s).sum = Tt P b R s := by
  unfold cL Tt tot
  rw [List.map_map]
  rfl
theorem scr_le' {P race : List Int} (O : Pt P) {s : Nat} (h : s < race.length) : 0 ≤ scr P race s ∧ scr P race s ≤ 60000 := by
  have hp := shr_pos h
  unfold scr
  split
  · omega
  have hb := part_bound O ((pl race s).toNat - 1) (shr race (pl race s))
  have h1 := Int.tdiv_nonneg hb.1 (show (0 : Int) ≤ shr race (pl race s) by omega)
  refine ⟨h1, ?_⟩
  rw [Int.tdiv_eq_ediv_of_nonneg hb.1]
  exact Int.le_trans (Int.ediv_le_self _ hb.1) hb.2
/-- A list that grows: nothing, or a block. -/
def slV (b : Nat) (k : Nat) : V := match k with | 0 => .d .nil | k + 1 => .slice b k 0 (k + 1) 1
def rwO (k : Nat) (acc : List Int) : List O := match k with | 0 => [] | k + 1 => [.row (.ds (encI acc)) k 0 []]
theorem rc_of {nn rr bb : Int} {P : List Int} {R : List (List Int)} (O : Ok nn rr bb P R) : Rc nn.toNat R := ⟨by have := O.sk; omega, by have := O.done; have := O.rc; omega, O.vr⟩
end Go.Proofs.Cx
end
