/-
  TopLegs: numbers, lists; within, outside; copies.
-/
import Derived.Test.YtbgaomkepfienaaGreatDoorLxBase
import Derived.Test.YtbgaomkepfienaaGreatDoorLwP
section
namespace Go.Proofs.Lx
open Go Go.Ab Go.Proofs.Lw
set_option maxRecDepth 100000
set_option maxHeartbeats 1000000
def inB (n lo hi : Int) : Bool := andB (leI lo n) (leI n hi)
def encI (l : List Int) : List D := l.map (D.int .i64)
theorem encI_get1 {l : List Int} {m : Nat} {a : Int} (h : l[m]? = some a) : (encI l)[m * 1]? = some (.int .i64 a) := by rw [Nat.mul_one]; simp [encI, h]
theorem encI_get {l : List Int} {m : Nat} {a : Int} (h : l[m]? = some a) : (encI l)[m]? = some (.int .i64 a) := by simp [encI, h]
theorem encI_get0 {l : List Int} {m : Nat} {a : Int} (h : l[m]? = some a) : (encI l)[0 + m * 1]? = some (.int .i64 a) := by rw [Nat.zero_add]; exact encI_get1 h
theorem encI_length (l : List Int) : (encI l).length = l.length := by simp [encI]
theorem encI_snoc (l : List Int) (a : Int) : encI (l ++ [a]) = encI l ++ [.int .i64 a] := by simp [encI]
theorem encI_drop (l : List Int) (n : Nat) : (encI l).drop n = encI (l.drop n) := by simp [encI, List.map_drop]
theorem encI_take (l : List Int) (n : Nat) : (encI l).take n = encI (l.take n) := by simp [encI, List.map_take]
theorem wrap_i64 {n : Int} (h0 : -9223372036854775808 ≤ n) (h1 : n ≤ 9223372036854775807) : IntKind.i64.wrap n = n := by
  rw [IntKind.wrap_i64]; omega
theorem wrap_succ {i : Nat} (h : i < 4611686018427387904) : IntKind.i64.wrap ((i : Int) + 1) = ((i + 1 : Nat) : Int) := by rw [wrap_i64] <;> omega
theorem inB_true {n lo hi : Int} (h : inB n lo hi = true) : lo ≤ n ∧ n ≤ hi := by
  unfold inB at h
  obtain ⟨h1, h2⟩ := andB_true h
  rw [leI_eq] at h1 h2
  exact ⟨of_decide_eq_true h1, of_decide_eq_true h2⟩
theorem inB_false {n lo hi : Int} (h : inB n lo hi = false) : ¬ (lo ≤ n ∧ n ≤ hi) := by
  rintro ⟨h1, h2⟩
  unfold inB at h
  rw [leI_eq, leI_eq, decide_eq_true h1, decide_eq_true h2] at h
  cases h
theorem inB_of {n lo hi : Int} (h1 : lo ≤ n) (h2 : n ≤ hi) : inB n lo hi = true := by
  cases h : inB n lo hi
  · exact absurd ⟨h1, h2⟩ (inB_false h)
  · rfl
theorem ltI_t {a b : Int} (h : ltI a b = true) : a < b := by rw [ltI_eq] at h; exact of_decide_eq_true h
theorem ltI_f {a b : Int} (h : ltI a b = false) : b ≤ a := by rw [ltI_eq] at h; have := of_decide_eq_false h; omega
theorem eqI_t {a b : Int} (h : eqI a b = true) : a = b := by rw [eqI_eq] at h; exact of_decide_eq_true h
theorem eqI_f {a b : Int} (h : eqI a b = false) : a ≠ b := by rw [eqI_eq] at h; exact of_decide_eq_false h
theorem ltI_tt {a b : Int} (h : a < b) : ltI a b = true := by rw [ltI_eq]; exact decide_eq_true h
theorem ltI_ff {a b : Int} (h : b ≤ a) : ltI a b = false := by rw [ltI_eq]; exact decide_eq_false (by omega)
theorem eqI_tt {a b : Int} (h : a = b) : eqI a b = true := by rw [eqI_eq]; exact decide_eq_true h
theorem eqI_ff {a b : Int} (h : a ≠ b) : eqI a b = false := by rw [eqI_eq]; exact decide_eq_false h
theorem blt_t {i n : Nat} (h : i < n) : Nat.blt i n = true := by simpa [Nat.blt_eq] using h
theorem ble_t {i n : Nat} (h : i ≤ n) : Nat.ble i n = true := Nat.ble_eq_true_of_le h
theorem at_some {α : Type} {l : List α} {i : Nat} (h : i < l.length) : ∃ a, l[i]? = some a := ⟨l[i], by simp [h]⟩
theorem lt_of_at {α : Type} {l : List α} {i : Nat} {a : α} (h : l[i]? = some a) : i < l.length := (List.getElem?_eq_some_iff.1 h).1
theorem may_all (c off n : Nat) : may c off n c 0 [] = true := by
  unfold may
  rw [Nat.ble_eq_true_of_le (Nat.zero_le c)]
  exact Nat.ble_eq_true_of_le (Nat.le_refl c)
theorem may_fl {e off n fl : Nat} (h : fl ≤ e) : may e off n e fl [] = true := by
  unfold may
  rw [Nat.ble_eq_true_of_le h]
  exact Nat.ble_eq_true_of_le (Nat.le_refl e)
theorem row_all {α : Type} {l : List α} {n : Nat} (h : l.length = n) : (l.drop 0).take n = l := by rw [List.drop_zero, List.take_of_length_le (by omega)]
theorem allD_map (l : List D) : allD (l.map .d) = some l := by
  induction l with
  | nil => rfl
  | cons a l ih => simp [allD, ih]
theorem ofV_map (l : List D) : Cells.ofV (l.map .d) = .ds l := by unfold Cells.ofV; rw [allD_map]
theorem fL_rec (F : List D) (K : List D → Prop) : List.rec (motive := fun _ => (List D → Prop) → Prop) (fun K => K []) (fun x _ ih K => ih fun l => K (x :: l)) F K = K F := fL_eq F K
theorem encI_set : ∀ (l : List Int) (i : Nat) (x : Int), i < l.length → wr (encI l) (i * 1) [.int .i64 x] = encI (l.set i x)
  | a :: l, 0, x, _ => by simp [encI, wr, wr_nil]
  | a :: l, i + 1, x, h => by
    have := encI_set l i x (by simpa using h)
    rw [Nat.mul_one] at this ⊢
    show (_ :: wr (encI l) i [.int .i64 x]) = _
    rw [this]; rfl
  | [], i, _, h => by simp at h
theorem write_int {l : List Int} {i off : Nat} {x : Int} (h : i < l.length) (ho : off = i * 1) : (Cells.ds (encI l)).write off [V.d (D.int .i64 x)] = some (.ds (encI (l.set i x))) := by
  subst ho
  unfold Cells.write
  rw [show Nat.ble (i * 1 + [V.d (D.int .i64 x)].length) (Cells.ds (encI l)).len = true from Nat.ble_eq_true_of_le (by simp only [List.length_cons, List.length_nil, Cells.len, encI_length]; omega)]
  simp only [allD]
  rw [encI_set l i x h]
theorem len_beq {acc : List Int} {k : Nat} (h : acc.length = k + 1) : Nat.beq ((k + 1) * 1) (Cells.ds (encI acc)).len = true := by
  have : (encI acc).length = (k + 1) * 1 := by rw [encI_length, h]; omega
  simp only [Cells.len, this]; exact Nat.beq_refl _
theorem wk_one (l : List Int) : Wk (match l with | [] => D.nil | a :: r => .slice (r.length + 1) 1 (encI (a :: r))) (.slice l.length 1 (encI l)) := by
  cases l with
  | cons a r => exact fun _ _ _ h => h
  | nil => exact Wk.nil 1
/-! ### Lists of races -/
def rowD (r : List Int) : D := .slice r.length 1 (encI r)
def encLL (R : List (List Int)) : List D := R.map rowD
theorem encLL_length (R : List (List Int)) : (encLL R).length = R.length := by simp [encLL]
theorem encLL_get1 {R : List (List Int)} {m : Nat} {r : List Int} (h : R[m]? = some r) : (encLL R)[m * 1]? = some (.slice r.length 1 (encI r)) := by rw [Nat.mul_one]; simp [encLL, h, rowD]
theorem encLL_get0 {R : List (List Int)} {m : Nat} {r : List Int} (h : R[m]? = some r) : (encLL R)[0 + m * 1]? = some (.slice r.length 1 (encI r)) := by rw [Nat.zero_add]; exact encLL_get1 h
theorem encLL_snoc (R : List (List Int)) (r : List Int) : encLL (R ++ [r]) = encLL R ++ [.slice r.length 1 (encI r)] := by simp [encLL, rowD]
theorem encLL_append (R S : List (List Int)) : encLL (R ++ S) = encLL R ++ encLL S := by simp [encLL]
theorem encLL_take (R : List (List Int)) (n : Nat) : (encLL R).take n = encLL (R.take n) := by simp [encLL, List.map_take]
theorem encLL_drop (R : List (List Int)) (n : Nat) : (encLL R).drop n = encLL (R.drop n) := by simp [encLL, List.map_drop]
theorem len_beqL {acc : List (List Int)} {k : Nat} (h : acc.length = k + 1) : Nat.beq ((k + 1) * 1) (Cells.ds (encLL acc)).len = true := by
  have : (encLL acc).length = (k + 1) * 1 := by rw [encLL_length, h]; omega
  simp only [Cells.len, this]; exact Nat.beq_refl _
theorem encLL_set : ∀ (l : List (List Int)) (i : Nat) (x : List Int), i < l.length → wr (encLL l) (i * 1) [.slice x.length 1 (encI x)] = encLL (l.set i x)
  | a :: l, 0, x, _ => by simp [encLL, wr, wr_nil, rowD]
  | a :: l, i + 1, x, h => by
    have := encLL_set l i x (by simpa using h)
    rw [Nat.mul_one] at this ⊢
    show (_ :: wr (encLL l) i [.slice x.length 1 (encI x)]) = _
    rw [this]; rfl
  | [], i, _, h => by simp at h
theorem write_row {l : List (List Int)} {i off : Nat} {x : List Int} (h : i < l.length) (ho : off = i * 1) : (Cells.ds (encLL l)).write off [V.d (D.slice x.length 1 (encI x))] = some (.ds (encLL (l.set i x))) := by
  subst ho
  unfold Cells.write
  rw [show Nat.ble (i * 1 + [V.d (D.slice x.length 1 (encI x))].length) (Cells.ds (encLL l)).len = true from Nat.ble_eq_true_of_le (by simp only [List.length_cons, List.length_nil, Cells.len, encLL_length]; omega)]
  simp only [allD]
  rw [encLL_set l i x h]
theorem within_ok (n lo hi : Int) : Rets Tryz.prog E 32 [.d (.int .i64 n), .d (.int .i64 lo), .d (.int .i64 hi)] (.d (.bool (inB n lo hi))) := by
  refine sm_of HE true (by kernel_rfl) ?_
  conv => whnf
  unfold inB
  cases h1 : leI lo n
  · conv => whnf
    exact ⟨rfl, rfl⟩
  · conv => whnf
    cases h2 : leI n hi
    · conv => whnf
      exact ⟨rfl, rfl⟩
    · conv => whnf
      exact ⟨rfl, rfl⟩
theorem out_in (n a b : Int) : orB (ltI n a) (ltI b n) = notB (inB n a b) := by
  unfold inB leI
  cases ltI n a <;> cases ltI b n <;> rfl
theorem outside_ok (n a b : Int) : Rets Tryz.prog E 18 [.d (.int .i64 n), .d (.int .i64 a), .d (.int .i64 b)] (.d (.bool (notB (inB n a b)))) := by
  rw [← out_in]
  refine sm_of HE true (by kernel_rfl) ?_
  conv => whnf
  cases h1 : ltI n a
  · conv => whnf
    exact ⟨rfl, rfl⟩
  · conv => whnf
    exact ⟨rfl, rfl⟩
theorem clone18 (l : List Int) (hl : l.length * 8 ≤ 140737488355328) : Rets Tryz.prog E 16 [.d (.slice l.length 1 (encI l))] (.d (.slice l.length 1 (encI l))) := by
  cases l with
  | nil =>
    refine Rets.weaken ?_ (Wk.nil 1)
    refine sm_of HE true (by kernel_rfl) ?_
    conv => whnf
    exact ⟨rfl, rfl⟩
  | cons a r =>
    simp only [List.length_cons] at hl ⊢
    refine sm_of HE true (by kernel_rfl) ?_
    conv => whnf
    rw [show Nat.ble ((r.length + 1) * 8) 140737488355328 = true from Nat.ble_eq_true_of_le (by omega)]
    conv => whnf
    rw [ofV_map]
    have hel : (encI (a :: r)).length = (r.length + 1) * 1 := by rw [encI_length]; simp
    conv => whnf
    rw [show Nat.ble (0 + (r.length + 1) * 1) (encI (a :: r)).length = true from Nat.ble_eq_true_of_le (by omega)]
    conv => whnf
    refine ⟨?_, rfl⟩
    rw [row_all hel]
theorem append_ds {l m : List D} {k : Nat} (h : l.length = k) : (Cells.ds l).append k (m.map V.d) = .ds (l ++ m) := by
  unfold Cells.append
  rw [allD_map]
  simp only
  rw [List.take_of_length_le (by omega)]
theorem zeros_flat (n : Nat) : (List.replicate n [V.d (D.int .i64 0)]).flatten = (encI (List.replicate n 0)).map V.d := by
  induction n with
  | zero => rfl
  | succ m ih => rw [List.replicate_succ, List.flatten_cons, ih, List.replicate_succ]; rfl
theorem nils_flat (n : Nat) : (List.replicate n [V.d D.nil]).flatten = (List.replicate n D.nil).map V.d := by
  induction n with
  | zero => rfl
  | succ m ih => rw [List.replicate_succ, List.flatten_cons, ih, List.replicate_succ]; rfl
def slL (b : Nat) (k : Nat) : V := match k with | 0 => .d .nil | k + 1 => .slice b k 0 (k + 1) 1
def rwL (k : Nat) (acc : List (List Int)) : List O := match k with | 0 => [] | k + 1 => [.row (.ds (encLL acc)) k 0 []]
theorem wk_rows (l : List (List Int)) : Wk (match l with | [] => D.nil | a :: r => .slice (r.length + 1) 1 (encLL (a :: r))) (.slice l.length 1 (encLL l)) := by
  cases l with
  | cons a r => exact fun _ _ _ h => h
  | nil => exact Wk.nil 1
def slV (b : Nat) (k : Nat) : V := match k with | 0 => .d .nil | k + 1 => .slice b k 0 (k + 1) 1
def rwO (k : Nat) (acc : List Int) : List O := match k with | 0 => [] | k + 1 => [.row (.ds (encI acc)) k 0 []]
theorem drop_at {α : Type} {L : List α} {i : Nat} {x : α} (h : L[i]? = some x) : L.drop i = x :: L.drop (i + 1) := by
  obtain ⟨hi, rfl⟩ := List.getElem?_eq_some_iff.1 h
  exact List.drop_eq_getElem_cons hi
theorem take_snoc {α : Type} {L : List α} {i : Nat} {x : α} (h : L[i]? = some x) : L.take (i + 1) = L.take i ++ [x] := by
  rw [List.take_add_one, h]; rfl
theorem cloneAll (R : List (List Int)) (hR : R.length ≤ 1000) (hr : ∀ r ∈ R, r.length * 8 ≤ 140737488355328) : Rets Tryz.prog E 17 [.d (.slice R.length 1 (encLL R))] (.d (.slice R.length 1 (encLL R))) := by
  refine Rets.weaken ?_ (wk_rows _)
  refine sm_of HE true (by kernel_rfl) ?_
  conv => whnf
  refine loops_by (fun x : Nat => ⟨19, [(2, .d .nil), (3, slL 0 x), (6, .d (.slice R.length 1 (encLL R))), (7, .d (.int .i64 R.length)), (8, .d (.int .i64 x))], .unk, rwL x (R.take x), []⟩)
    (fun x => x ≤ R.length) (fun x => R.length - x) 0 (Nat.zero_le _) ?_
  intro f i hi ih
  cases i with
  | zero =>
    conv => whnf
    cases h1 : ltI ((0 : Nat) : Int) (R.length : Int)
    · have := ltI_f h1
      obtain rfl : R = [] := List.eq_nil_of_length_eq_zero (by omega)
      conv => whnf
      exact ⟨rfl, rfl⟩
    have hlt := ltI_t h1
    have hb := blt_t (i := 0) (n := R.length) (by omega)
    obtain ⟨r, hr'⟩ := at_some (l := R) (i := 0) (by omega)
    have ht : R.take 1 = [r] := by rw [take_snoc hr']; rfl
    conv => whnf
    rw [hb]
    conv => whnf
    rw [encLL_get1 hr']
    conv => whnf
    refine Rets.use (clone18 r (hr r (List.mem_of_getElem? hr'))) ?_
    conv => whnf
    rw [wrap_succ (by omega)]
    have k := ih 1 (by omega) (by omega)
    rw [ht] at k
    exact k
  | succ k =>
    have hlk : (R.take (k + 1)).length = k + 1 := by simp; omega
    conv => whnf
    cases h1 : ltI ((k + 1 : Nat) : Int) (R.length : Int)
    · have := ltI_f h1
      have hk : R.length = k + 1 := by omega
      rw [List.take_of_length_le (by omega)]
      conv => whnf
      rw [may_all]
      conv => whnf
      have hel : (encLL R).length = (k + 1) * 1 := by rw [encLL_length, hk]; omega
      rw [ble_t (i := 0 + (k + 1) * 1) (by omega)]
      conv => whnf
      refine ⟨?_, rfl⟩
      rw [row_all hel]
      cases R with
      | nil => simp at hk
      | cons a l =>
        simp only [List.length_cons, Nat.add_right_cancel_iff] at hk
        subst hk
        rfl
    have hlt := ltI_t h1
    have hb := blt_t (i := k + 1) (n := R.length) (by omega)
    obtain ⟨r, hr'⟩ := at_some (l := R) (i := k + 1) (by omega)
    conv => whnf
    rw [hb]
    conv => whnf
    rw [encLL_get1 hr']
    conv => whnf
    refine Rets.use (clone18 r (hr r (List.mem_of_getElem? hr'))) ?_
    conv => whnf
    rw [ble_t (i := (k + 1 + 1) * 24) (n := 140737488355328) (by omega)]
    conv => whnf
    rw [may_all]
    conv => whnf
    rw [len_beqL hlk, wrap_succ (by omega), List.take_of_length_le (by rw [encLL_length, hlk]; omega)]
    have e1 : ∀ (l : List (List Int)) (x : List Int), encLL l ++ [D.slice x.length 1 (encI x)] = encLL (l ++ [x]) := fun l x => (encLL_snoc l x).symm
    rw [e1, ← take_snoc hr']
    exact ih (k + 1 + 1) (by omega) (by omega)
theorem wr_all : ∀ {l m : List D}, l.length = m.length → wr l 0 m = m
  | [], [], _ => rfl
  | _ :: l, x :: m, h => by
    show x :: wr l 0 m = _
    rw [wr_all (by simpa using h)]
  | [], _ :: _, h => by simp at h
  | _ :: _, [], h => by simp at h
theorem write_all {Z F : List D} (hz : Z.length = F.length) : (Cells.ds Z).write 0 (F.map V.d) = some (.ds F) := by
  unfold Cells.write
  simp only [Cells.len, List.length_map]
  rw [show Nat.ble (0 + F.length) Z.length = true from Nat.ble_eq_true_of_le (by omega), allD_map]
  simp only
  rw [wr_all hz]
end Go.Proofs.Lx
end
section
/-
  TopLegs: the reference: checks, what an order takes.
-/
namespace Go.Proofs.Lx
open Go Go.Ab Go.Proofs.Lw
set_option maxRecDepth 100000
set_option maxHeartbeats 40000000
/-- Rules, a squad. -/
structure Ru where
  pc : List Int
  e : Int
  laps : Int
  spare : Int
  loop : Int
  un : Int
structure Sq where
  sc : List Int
  T : List (List Int)
def ruL (r : Ru) : List D := [.slice r.pc.length 1 (encI r.pc), .int .i64 r.e, .int .i64 r.laps, .int .i64 r.spare, .int .i64 r.loop, .int .i64 r.un]
def ruD (r : Ru) : D := .agg (ruL r)
def sqL (s : Sq) : List D := [.slice s.sc.length 1 (encI s.sc), .slice s.T.length 1 (encLL s.T)]
def sqD (s : Sq) : D := .agg (sqL s)
def Cls (l : List Int) : Prop := ∀ x ∈ l, 0 ≤ x ∧ x ≤ 3
structure OkR (r : Ru) : Prop where
  pcl : 1 ≤ r.pc.length ∧ r.pc.length ≤ 4
  pcv : Cls r.pc
  e : 1 ≤ r.e ∧ r.e ≤ 4
  laps : 1 ≤ r.laps ∧ r.laps ≤ 5
  spare : 0 ≤ r.spare ∧ r.spare ≤ 600
  loop : 0 ≤ r.loop ∧ r.loop ≤ 600
  un : 0 ≤ r.un ∧ r.un ≤ 6000
structure OkS (r : Ru) (s : Sq) : Prop where
  ru : OkR r
  scl : 1 ≤ s.sc.length ∧ s.sc.length ≤ 8
  tl : s.T.length = s.sc.length
  rows : ∀ l ∈ s.T, l.length = r.pc.length
  scv : Cls s.sc
  tv : ∀ l ∈ s.T, ∀ x ∈ l, 0 ≤ x ∧ x ≤ 100000
theorem badE {e : Int} {Q : Prop} (h1 : e ≠ 0) (h2 : ¬ Q) : e = 0 ↔ Q := ⟨fun h => absurd h h1, fun h => absurd h h2⟩
theorem bad_ok (l : List Int) (hl : l.length < 4611686018427387904) : Sm Tryz.prog E 19 [.d (.slice l.length 1 (encI l))] [] (fun v h => (∃ b : Bool, v = .d (.bool b) ∧ (b = false ↔ Cls l)) ∧ h = []) := by
  refine sm_of HE true (by kernel_rfl) ?_
  conv => whnf
  refine loops_by (fun i : Nat => ⟨15, [(0, .d (.slice l.length 1 (encI l))), (2, .d (.bool false)), (3, .d (.int .i64 i))], .unk, [], []⟩)
    (fun i => i ≤ l.length ∧ ∀ (j : Nat) x, j < i → l[j]? = some x → 0 ≤ x ∧ x ≤ 3) (fun i => l.length - i) 0 ⟨Nat.zero_le _, fun j x h => absurd h (by omega)⟩ ?_
  intro f i ⟨hi, hA⟩ ih
  conv => whnf
  cases h1 : ltI (i : Int) (l.length : Int)
  · have := ltI_f h1
    conv => whnf
    refine ⟨⟨false, rfl, ⟨fun _ x hx => ?_, fun _ => rfl⟩⟩, rfl⟩
    obtain ⟨j, hj⟩ := List.getElem?_of_mem hx
    exact hA j x (by have := lt_of_at hj; omega) hj
  have hlt := ltI_t h1
  have hb := blt_t (i := i) (n := l.length) (by omega)
  obtain ⟨x, hx⟩ := at_some (l := l) (i := i) (by omega)
  conv => whnf
  rw [hb]
  conv => whnf
  rw [encI_get1 hx]
  conv => whnf
  refine Rets.use (outside_ok x 0 3) ?_
  cases h2 : inB x 0 3
  · conv => whnf
    refine ⟨⟨true, rfl, ⟨fun h => (Bool.noConfusion h : _), fun h => absurd (h x (List.mem_of_getElem? hx)) (inB_false h2)⟩⟩, rfl⟩
  · have h2 := inB_true h2
    conv => whnf
    rw [wrap_succ (by omega)]
    exact ih (i + 1) ⟨by omega, fun j y hj hy => by
      by_cases hji : j = i
      · subst hji; rw [hx] at hy; cases hy; exact h2
      · exact hA j y (by omega) hy⟩ (by omega)
theorem refRules (r : Ru) : Sm Tryz.prog E 7 [.d (ruD r)] [] (fun v h => (∃ e, v = .d (.int .i64 e) ∧ (e = 0 ↔ OkR r)) ∧ h = []) := by
  refine sm_of HE true (by kernel_rfl) ?_
  unfold ruD ruL
  conv => whnf
  refine Rets.use (outside_ok r.pc.length 1 4) ?_
  cases g1 : inB (r.pc.length : Int) 1 4
  · conv => whnf
    exact ⟨⟨2, rfl, badE (by decide) fun O => inB_false g1 (by have := O.pcl; omega)⟩, rfl⟩
  have k1 := inB_true g1
  conv => whnf
  refine Sm.mono (bad_ok r.pc (by omega)) ?_
  rintro v h ⟨⟨b, rfl, hb⟩, rfl⟩
  cases b
  case true =>
    conv => whnf
    exact ⟨⟨3, rfl, badE (by decide) fun O => Bool.noConfusion (hb.2 O.pcv)⟩, rfl⟩
  have k2 := hb.1 rfl
  conv => whnf
  refine Rets.use (outside_ok r.e 1 4) ?_
  cases g3 : inB r.e 1 4
  · conv => whnf
    exact ⟨⟨3, rfl, badE (by decide) fun O => inB_false g3 O.e⟩, rfl⟩
  conv => whnf
  refine Rets.use (outside_ok r.laps 1 5) ?_
  cases g4 : inB r.laps 1 5
  · conv => whnf
    exact ⟨⟨3, rfl, badE (by decide) fun O => inB_false g4 O.laps⟩, rfl⟩
  conv => whnf
  refine Rets.use (outside_ok r.spare 0 600) ?_
  cases g5 : inB r.spare 0 600
  · conv => whnf
    exact ⟨⟨3, rfl, badE (by decide) fun O => inB_false g5 O.spare⟩, rfl⟩
  conv => whnf
  refine Rets.use (outside_ok r.loop 0 600) ?_
  cases g6 : inB r.loop 0 600
  · conv => whnf
    exact ⟨⟨3, rfl, badE (by decide) fun O => inB_false g6 O.loop⟩, rfl⟩
  conv => whnf
  refine Rets.use (outside_ok r.un 0 6000) ?_
  cases g7 : inB r.un 0 6000
  · conv => whnf
    exact ⟨⟨3, rfl, badE (by decide) fun O => inB_false g7 O.un⟩, rfl⟩
  conv => whnf
  exact ⟨⟨0, rfl, ⟨fun _ => ⟨by omega, k2, inB_true g3, inB_true g4, inB_true g5, inB_true g6, inB_true g7⟩, fun _ => rfl⟩⟩, rfl⟩
theorem refSquad (r : Ru) (s : Sq) (hs : s.T.length < 1000000000) (hr : ∀ l ∈ s.T, l.length < 1000000000) : Sm Tryz.prog E 8 [.d (ruD r), .d (sqD s)] [] (fun v h => (∃ e, v = .d (.int .i64 e) ∧ (e = 0 ↔ OkS r s)) ∧ h = []) := by
  obtain ⟨sc, T⟩ := s
  simp only at hs hr
  refine sm_of HE true (by kernel_rfl) ?_
  unfold ruD ruL sqD sqL
  conv => whnf
  refine Sm.mono (refRules r) ?_
  rintro v h ⟨⟨e, rfl, he⟩, rfl⟩
  conv => whnf
  cases g0 : eqI e 0
  · have g0 := eqI_f g0
    conv => whnf
    exact ⟨⟨e, rfl, badE g0 fun O => g0 (he.2 O.ru)⟩, rfl⟩
  have k0 := he.1 (eqI_t g0)
  conv => whnf
  refine Rets.use (outside_ok sc.length 1 8) ?_
  cases g1 : inB (sc.length : Int) 1 8
  · conv => whnf
    exact ⟨⟨2, rfl, badE (by decide) fun O => inB_false g1 (by have := O.scl; simp only at this; omega)⟩, rfl⟩
  have k1 := inB_true g1
  conv => whnf
  cases g2 : eqI (T.length : Int) (sc.length : Int)
  · have g2 := eqI_f g2
    conv => whnf
    exact ⟨⟨2, rfl, badE (by decide) fun O => g2 (by have := O.tl; simp only at this; omega)⟩, rfl⟩
  have k2 := eqI_t g2
  conv => whnf
  refine loops_by (fun i : Nat => ⟨73, [(2, .ptr 0 0 0 6), (3, .ptr 1 0 0 2), (4, .d (.int .i64 0)), (6, .d (.int .i64 i))], .unk, [.row (.ds (ruL r)) 0 0 [], .row (.ds (sqL ⟨sc, T⟩)) 0 0 []], []⟩)
    (fun i => i ≤ T.length ∧ ∀ (j : Nat) l, j < i → T[j]? = some l → l.length = r.pc.length) (fun i => T.length - i) 0 ⟨Nat.zero_le _, fun j l h => absurd h (by omega)⟩ ?_
  intro f i ⟨hi, hA⟩ ih
  conv => whnf
  cases h1 : ltI (i : Int) (T.length : Int)
  case true =>
    have hlt := ltI_t h1
    have hb := blt_t (i := i) (n := T.length) (by omega)
    obtain ⟨l, hl⟩ := at_some (l := T) (i := i) (by omega)
    conv => whnf
    rw [hb]
    conv => whnf
    rw [encLL_get1 hl]
    conv => whnf
    cases h2 : eqI (l.length : Int) (r.pc.length : Int)
    · have h2 := eqI_f h2
      conv => whnf
      exact ⟨⟨2, rfl, badE (by decide) fun O => h2 (by have := O.rows l (List.mem_of_getElem? hl); omega)⟩, rfl⟩
    · have h2 := eqI_t h2
      conv => whnf
      rw [wrap_succ (by omega)]
      exact ih (i + 1) ⟨by omega, fun j q hj hq => by
        by_cases hji : j = i
        · subst hji; rw [hl] at hq; cases hq; omega
        · exact hA j q (by omega) hq⟩ (by omega)
  have h1 := ltI_f h1
  have hA : ∀ (j : Nat) l, T[j]? = some l → l.length = r.pc.length := fun j l hj => hA j l (by have := lt_of_at hj; omega) hj
  conv => whnf
  refine Sm.mono (bad_ok sc (by omega)) ?_
  rintro v h ⟨⟨b, rfl, hb⟩, rfl⟩
  cases b
  case true =>
    conv => whnf
    exact ⟨⟨3, rfl, badE (by decide) fun O => Bool.noConfusion (hb.2 O.scv)⟩, rfl⟩
  have k3 := hb.1 rfl
  conv => whnf
  refine loops_by (fun i : Nat => ⟨73, [(3, .ptr 0 0 0 2), (4, .d (.int .i64 0)), (7, .d (.int .i64 i))], .unk, [.row (.ds (sqL ⟨sc, T⟩)) 0 0 []], []⟩)
    (fun i => i ≤ T.length ∧ ∀ (j : Nat) l, j < i → T[j]? = some l → ∀ (k : Nat) x, l[k]? = some x → 0 ≤ x ∧ x ≤ 100000) (fun i => T.length - i) 0 ⟨Nat.zero_le _, fun j l h => absurd h (by omega)⟩ ?_
  intro f2 i2 ⟨hi2, hB⟩ ih2
  conv => whnf
  cases h3 : ltI (i2 : Int) (T.length : Int)
  · have h3 := ltI_f h3
    conv => whnf
    refine ⟨⟨0, rfl, ⟨fun _ => ⟨k0, by simp only; omega, by simp only; omega, fun l hl => ?_, k3, fun l hl x hx => ?_⟩, fun _ => rfl⟩⟩, rfl⟩
    · obtain ⟨j, hj⟩ := List.getElem?_of_mem hl
      exact hA j l hj
    · obtain ⟨j, hj⟩ := List.getElem?_of_mem hl
      obtain ⟨k, hk⟩ := List.getElem?_of_mem hx
      exact hB j l (by have : j < T.length := lt_of_at hj; omega) hj k x hk
  have hlt := ltI_t h3
  have hb2 := blt_t (i := i2) (n := T.length) (by omega)
  obtain ⟨l, hl⟩ := at_some (l := T) (i := i2) (by omega)
  have hll := hr l (List.mem_of_getElem? hl)
  conv => whnf
  refine loops_by (fun k : Nat => ⟨73, [(3, .ptr 0 0 0 2), (4, .d (.int .i64 0)), (7, .d (.int .i64 i2)), (8, .d (.int .i64 k))], .unk, [.row (.ds (sqL ⟨sc, T⟩)) 0 0 []], []⟩)
    (fun k => k ≤ l.length ∧ ∀ (q : Nat) x, q < k → l[q]? = some x → 0 ≤ x ∧ x ≤ 100000) (fun k => l.length - k) 0 ⟨Nat.zero_le _, fun j l h => absurd h (by omega)⟩ ?_
  intro f3 k ⟨hk, hC⟩ ih3
  conv => whnf
  rw [hb2]
  conv => whnf
  rw [encLL_get1 hl]
  conv => whnf
  cases h4 : ltI (k : Int) (l.length : Int)
  · have h4 := ltI_f h4
    conv => whnf
    rw [wrap_succ (by omega)]
    exact ih2 (i2 + 1) ⟨by omega, fun j q hj hq => by
      by_cases hji : j = i2
      · subst hji; rw [hl] at hq; cases hq
        exact fun k x hx => hC k x (by have := lt_of_at hx; omega) hx
      · exact hB j q (by omega) hq⟩ (by omega)
  have hkl := ltI_t h4
  have hbk := blt_t (i := k) (n := l.length) (by omega)
  obtain ⟨x, hx⟩ := at_some (l := l) (i := k) (by omega)
  conv => whnf
  rw [hb2]
  conv => whnf
  rw [encLL_get1 hl]
  conv => whnf
  rw [hbk]
  conv => whnf
  rw [encI_get1 hx]
  conv => whnf
  refine Rets.use (outside_ok x 0 100000) ?_
  cases h5 : inB x 0 100000
  · conv => whnf
    exact ⟨⟨3, rfl, badE (by decide) fun O => inB_false h5 (O.tv l (List.mem_of_getElem? hl) x (List.mem_of_getElem? hx))⟩, rfl⟩
  · have h5 := inB_true h5
    conv => whnf
    rw [wrap_succ (by omega)]
    exact ih3 (k + 1) ⟨by omega, fun q y hq hy => by
      by_cases hqk : q = k
      · subst hqk; rw [hx] at hy; cases hy; exact h5
      · exact hC q y (by omega) hy⟩ (by omega)
end Go.Proofs.Lx
end
