/-
  TopLaid: a map of pairs on the abstract machine: what is found, put, taken out.
-/
import Derived.Test.YtldpapiaonchaaaGreatDoorZzNatOk
import Derived.Test.YtldpapiaonchaaaGreatDoorDxBase
import Derived.Test.YtldpapiaonchaaaGreatDoorDwL
section
namespace Go.Proofs.Dx
open Go Go.Ab
set_option maxRecDepth 100000
def pD (p : Int × Int) : D := .agg [.int .i64 p.1, .int .i64 p.2]
def K (ps : List (Int × Int)) : List D := ps.map pD
def Tr (ps : List (Int × Int)) : List D := List.replicate ps.length (.bool true)
theorem eqK_pair (a b : Int × Int) : eqK (pD a) (pD b) = some (andB (eqI a.1 b.1) (andB (eqI a.2 b.2) true)) := rfl
theorem eqK_same (a : Int × Int) : eqK (pD a) (pD a) = some true := by
  rw [eqK_pair, eqI_eq, eqI_eq]; simp [andB]
theorem eqK_ne {a b : Int × Int} (h : a ≠ b) : eqK (pD a) (pD b) = some false := by
  rw [eqK_pair, eqI_eq, eqI_eq]
  by_cases h1 : a.1 = b.1
  · have h2 : a.2 ≠ b.2 := fun h2 => h (Prod.ext h1 h2)
    simp [h1, h2, andB]
  · simp [h1, andB]
theorem findD_out {p : Int × Int} : ∀ {ps : List (Int × Int)} (j : Nat), p ∉ ps → findD (pD p) (K ps) j = some none
  | [], _, _ => rfl
  | q :: ps, j, h => by
    show (match eqK (pD p) (pD q) with | some true => some (some j) | some false => findD (pD p) (K ps) (j + 1) | none => none) = _
    have hne : p ≠ q := fun h1 => h (by rw [h1]; exact List.mem_cons_self ..)
    rw [eqK_ne hne]
    exact findD_out (j + 1) fun h1 => h (List.mem_cons_of_mem _ h1)
theorem findD_in {p : Int × Int} : ∀ {ps : List (Int × Int)} (j : Nat), p ∈ ps → ∃ i, findD (pD p) (K ps) j = some (some (j + i)) ∧ ps[i]? = some p
  | [], _, h => by cases h
  | q :: ps, j, h => by
    by_cases hq : p = q
    · subst hq
      refine ⟨0, ?_, rfl⟩
      show (match eqK (pD p) (pD p) with | some true => some (some j) | some false => findD (pD p) (K ps) (j + 1) | none => none) = _
      rw [eqK_same]; rfl
    · obtain ⟨i, h1, h2⟩ := findD_in (ps := ps) (j + 1) ((List.mem_cons.1 h).resolve_left hq)
      refine ⟨i + 1, ?_, h2⟩
      show (match eqK (pD p) (pD q) with | some true => some (some j) | some false => findD (pD p) (K ps) (j + 1) | none => none) = _
      rw [eqK_ne hq, show j + (i + 1) = j + 1 + i by omega]
      exact h1
theorem Tr_at {ps : List (Int × Int)} {i : Nat} {p : Int × Int} (h : ps[i]? = some p) : (Tr ps)[i]? = some (.bool true) := by
  unfold Tr
  rw [List.getElem?_replicate, if_pos (List.getElem?_eq_some_iff.1 h).1]
theorem setNth_same {α : Type} (v : α) : ∀ (n i : Nat), setNth (List.replicate n v) i v = List.replicate n v
  | 0, _ => rfl
  | n + 1, 0 => rfl
  | n + 1, i + 1 => by
    show v :: setNth (List.replicate n v) i v = _
    rw [setNth_same v n i]; rfl
theorem Tr_set (ps : List (Int × Int)) (i : Nat) : setNth (Tr ps) i (.bool true) = Tr ps := setNth_same _ _ _
theorem K_snoc (ps : List (Int × Int)) (p : Int × Int) : K ps ++ [pD p] = K (ps ++ [p]) := by simp [K]
theorem Tr_snoc (ps : List (Int × Int)) (p : Int × Int) : Tr ps ++ [.bool true] = Tr (ps ++ [p]) := by
  unfold Tr
  rw [List.length_append, List.length_singleton, List.replicate_succ']
theorem eraseNth_eq {α : Type} : ∀ (l : List α) (i : Nat), eraseNth l i = l.eraseIdx i
  | [], _ => by simp [eraseNth]
  | _ :: _, 0 => rfl
  | a :: l, i + 1 => by
    show a :: eraseNth l i = a :: l.eraseIdx i
    rw [eraseNth_eq l i]
theorem K_erase (ps : List (Int × Int)) (i : Nat) : eraseNth (K ps) i = K (ps.eraseIdx i) := by
  induction ps generalizing i with
  | nil => simp [K, eraseNth]
  | cons a l ih =>
    cases i with
    | zero => rfl
    | succ i =>
      show pD a :: eraseNth (K l) i = _
      rw [ih]; rfl
theorem Tr_erase {ps : List (Int × Int)} {i : Nat} (h : i < ps.length) : eraseNth (Tr ps) i = Tr (ps.eraseIdx i) := by
  rw [eraseNth_eq]; unfold Tr
  rw [List.eraseIdx_replicate, if_pos h, List.length_eraseIdx, if_pos h]
theorem mem_erase {ps : List (Int × Int)} {i : Nat} {p q : Int × Int} (hn : ps.Nodup) (h : ps[i]? = some p) : q ∈ ps.eraseIdx i ↔ q ∈ ps ∧ q ≠ p := by
  obtain ⟨hi, rfl⟩ := List.getElem?_eq_some_iff.1 h
  have h1 : ps.eraseIdx i = ps.erase ps[i] := (List.erase_eq_eraseIdx_of_idxOf (hn.idxOf_getElem i hi)).symm
  rw [h1, hn.mem_erase_iff, and_comm]
theorem nodup_erase {ps : List (Int × Int)} (hn : ps.Nodup) (i : Nat) : (ps.eraseIdx i).Nodup := hn.sublist (List.eraseIdx_sublist ..)
end Go.Proofs.Dx
end
section
/-
  TopLaid: numbers, lists, pairs; within, outside; copies.
-/
namespace Go.Proofs.Dx
open Go Go.Ab Go.Proofs.Dw
set_option maxRecDepth 100000
set_option maxHeartbeats 1000000
def inB (n lo hi : Int) : Bool := andB (leI lo n) (leI n hi)
def encI (l : List Int) : List D := l.map (D.int .i64)
theorem encI_get1 {l : List Int} {m : Nat} {a : Int} (h : l[m]? = some a) : (encI l)[m * 1]? = some (.int .i64 a) := by rw [Nat.mul_one]; simp [encI, h]
theorem encI_get {l : List Int} {m : Nat} {a : Int} (h : l[m]? = some a) : (encI l)[m]? = some (.int .i64 a) := by simp [encI, h]
theorem encI_get0 {l : List Int} {m : Nat} {a : Int} (h : l[m]? = some a) : (encI l)[0 + m * 1]? = some (.int .i64 a) := by rw [Nat.zero_add]; exact encI_get1 h
theorem encI_length (l : List Int) : (encI l).length = l.length := by simp [encI]
theorem encI_snoc (l : List Int) (a : Int) : encI (l ++ [a]) = encI l ++ [.int .i64 a] := by simp [encI]
theorem encI_drop (l : List Int) (n : Nat) : (encI l).drop n = encI (l.drop n) := by simp [encI, List.map_drop]
theorem encI_take (l : List Int) (n : Nat) : (encI l).take n = encI (l.take n) := by simp [encI, List.map_take]
theorem wrap_i64 {n : Int} (h0 : -9223372036854775808 ≤ n) (h1 : n ≤ 9223372036854775807) : IntKind.i64.wrap n = n := by
  rw [IntKind.wrap_i64]; omega
theorem wrap_succ {i : Nat} (h : i < 4611686018427387904) : IntKind.i64.wrap ((i : Int) + 1) = ((i + 1 : Nat) : Int) := by rw [wrap_i64] <;> omega
theorem inB_true {n lo hi : Int} (h : inB n lo hi = true) : lo ≤ n ∧ n ≤ hi := by
  unfold inB at h
  obtain ⟨h1, h2⟩ := andB_true h
  rw [leI_eq] at h1 h2
  exact ⟨of_decide_eq_true h1, of_decide_eq_true h2⟩
theorem inB_false {n lo hi : Int} (h : inB n lo hi = false) : ¬ (lo ≤ n ∧ n ≤ hi) := by
  rintro ⟨h1, h2⟩
  unfold inB at h
  rw [leI_eq, leI_eq, decide_eq_true h1, decide_eq_true h2] at h
  cases h
theorem inB_of {n lo hi : Int} (h1 : lo ≤ n) (h2 : n ≤ hi) : inB n lo hi = true := by
  cases h : inB n lo hi
  · exact absurd ⟨h1, h2⟩ (inB_false h)
  · rfl
theorem ltI_t {a b : Int} (h : ltI a b = true) : a < b := by rw [ltI_eq] at h; exact of_decide_eq_true h
theorem ltI_f {a b : Int} (h : ltI a b = false) : b ≤ a := by rw [ltI_eq] at h; have := of_decide_eq_false h; omega
theorem eqI_t {a b : Int} (h : eqI a b = true) : a = b := by rw [eqI_eq] at h; exact of_decide_eq_true h
theorem eqI_f {a b : Int} (h : eqI a b = false) : a ≠ b := by rw [eqI_eq] at h; exact of_decide_eq_false h
theorem ltI_tt {a b : Int} (h : a < b) : ltI a b = true := by rw [ltI_eq]; exact decide_eq_true h
theorem ltI_ff {a b : Int} (h : b ≤ a) : ltI a b = false := by rw [ltI_eq]; exact decide_eq_false (by omega)
theorem eqI_tt {a b : Int} (h : a = b) : eqI a b = true := by rw [eqI_eq]; exact decide_eq_true h
theorem eqI_ff {a b : Int} (h : a ≠ b) : eqI a b = false := by rw [eqI_eq]; exact decide_eq_false h
theorem blt_t {i n : Nat} (h : i < n) : Nat.blt i n = true := by simpa [Nat.blt_eq] using h
theorem ble_t {i n : Nat} (h : i ≤ n) : Nat.ble i n = true := Nat.ble_eq_true_of_le h
theorem at_some {α : Type} {l : List α} {i : Nat} (h : i < l.length) : ∃ a, l[i]? = some a := ⟨l[i], by simp [h]⟩
theorem lt_of_at {α : Type} {l : List α} {i : Nat} {a : α} (h : l[i]? = some a) : i < l.length := (List.getElem?_eq_some_iff.1 h).1
theorem may_all (c off n : Nat) : may c off n c 0 [] = true := by
  unfold may
  rw [Nat.ble_eq_true_of_le (Nat.zero_le c)]
  exact Nat.ble_eq_true_of_le (Nat.le_refl c)
theorem may_fl {e off n fl : Nat} (h : fl ≤ e) : may e off n e fl [] = true := by
  unfold may
  rw [Nat.ble_eq_true_of_le h]
  exact Nat.ble_eq_true_of_le (Nat.le_refl e)
theorem row_all {α : Type} {l : List α} {n : Nat} (h : l.length = n) : (l.drop 0).take n = l := by rw [List.drop_zero, List.take_of_length_le (by omega)]
theorem allD_map (l : List D) : allD (l.map .d) = some l := by
  induction l with
  | nil => rfl
  | cons a l ih => simp [allD, ih]
theorem ofV_map (l : List D) : Cells.ofV (l.map .d) = .ds l := by unfold Cells.ofV; rw [allD_map]
theorem fL_rec (F : List D) (K : List D → Prop) : List.rec (motive := fun _ => (List D → Prop) → Prop) (fun K => K []) (fun x _ ih K => ih fun l => K (x :: l)) F K = K F := fL_eq F K
theorem encI_set : ∀ (l : List Int) (i : Nat) (x : Int), i < l.length → wr (encI l) (i * 1) [.int .i64 x] = encI (l.set i x)
  | a :: l, 0, x, _ => by simp [encI, wr, wr_nil]
  | a :: l, i + 1, x, h => by
    have := encI_set l i x (by simpa using h)
    rw [Nat.mul_one] at this ⊢
    show (_ :: wr (encI l) i [.int .i64 x]) = _
    rw [this]; rfl
  | [], i, _, h => by simp at h
theorem write_int {l : List Int} {i off : Nat} {x : Int} (h : i < l.length) (ho : off = i * 1) : (Cells.ds (encI l)).write off [V.d (D.int .i64 x)] = some (.ds (encI (l.set i x))) := by
  subst ho
  unfold Cells.write
  rw [show Nat.ble (i * 1 + [V.d (D.int .i64 x)].length) (Cells.ds (encI l)).len = true from Nat.ble_eq_true_of_le (by simp only [List.length_cons, List.length_nil, Cells.len, encI_length]; omega)]
  simp only [allD]
  rw [encI_set l i x h]
theorem len_beq {acc : List Int} {k : Nat} (h : acc.length = k + 1) : Nat.beq ((k + 1) * 1) (Cells.ds (encI acc)).len = true := by
  have : (encI acc).length = (k + 1) * 1 := by rw [encI_length, h]; omega
  simp only [Cells.len, this]; exact Nat.beq_refl _
theorem wk_one (l : List Int) : Wk (match l with | [] => D.nil | a :: r => .slice (r.length + 1) 1 (encI (a :: r))) (.slice l.length 1 (encI l)) := by
  cases l with
  | cons a r => exact fun _ _ _ h => h
  | nil => exact Wk.nil 1
/-! ### Lists of races -/
def rowD (r : List Int) : D := .slice r.length 1 (encI r)
def encLL (R : List (List Int)) : List D := R.map rowD
theorem encLL_length (R : List (List Int)) : (encLL R).length = R.length := by simp [encLL]
theorem encLL_get1 {R : List (List Int)} {m : Nat} {r : List Int} (h : R[m]? = some r) : (encLL R)[m * 1]? = some (.slice r.length 1 (encI r)) := by rw [Nat.mul_one]; simp [encLL, h, rowD]
theorem encLL_get0 {R : List (List Int)} {m : Nat} {r : List Int} (h : R[m]? = some r) : (encLL R)[0 + m * 1]? = some (.slice r.length 1 (encI r)) := by rw [Nat.zero_add]; exact encLL_get1 h
theorem encLL_snoc (R : List (List Int)) (r : List Int) : encLL (R ++ [r]) = encLL R ++ [.slice r.length 1 (encI r)] := by simp [encLL, rowD]
theorem encLL_append (R S : List (List Int)) : encLL (R ++ S) = encLL R ++ encLL S := by simp [encLL]
theorem encLL_take (R : List (List Int)) (n : Nat) : (encLL R).take n = encLL (R.take n) := by simp [encLL, List.map_take]
theorem encLL_drop (R : List (List Int)) (n : Nat) : (encLL R).drop n = encLL (R.drop n) := by simp [encLL, List.map_drop]
theorem len_beqL {acc : List (List Int)} {k : Nat} (h : acc.length = k + 1) : Nat.beq ((k + 1) * 1) (Cells.ds (encLL acc)).len = true := by
  have : (encLL acc).length = (k + 1) * 1 := by rw [encLL_length, h]; omega
  simp only [Cells.len, this]; exact Nat.beq_refl _
theorem encLL_set : ∀ (l : List (List Int)) (i : Nat) (x : List Int), i < l.length → wr (encLL l) (i * 1) [.slice x.length 1 (encI x)] = encLL (l.set i x)
  | a :: l, 0, x, _ => by simp [encLL, wr, wr_nil, rowD]
  | a :: l, i + 1, x, h => by
    have := encLL_set l i x (by simpa using h)
    rw [Nat.mul_one] at this ⊢
    show (_ :: wr (encLL l) i [.slice x.length 1 (encI x)]) = _
    rw [this]; rfl
  | [], i, _, h => by simp at h
theorem write_row {l : List (List Int)} {i off : Nat} {x : List Int} (h : i < l.length) (ho : off = i * 1) : (Cells.ds (encLL l)).write off [V.d (D.slice x.length 1 (encI x))] = some (.ds (encLL (l.set i x))) := by
  subst ho
  unfold Cells.write
  rw [show Nat.ble (i * 1 + [V.d (D.slice x.length 1 (encI x))].length) (Cells.ds (encLL l)).len = true from Nat.ble_eq_true_of_le (by simp only [List.length_cons, List.length_nil, Cells.len, encLL_length]; omega)]
  simp only [allD]
  rw [encLL_set l i x h]
theorem within_ok (n lo hi : Int) : Rets Tryz.prog E 51 [.d (.int .i64 n), .d (.int .i64 lo), .d (.int .i64 hi)] (.d (.bool (inB n lo hi))) := by
  refine sm_of HE true (by kernel_rfl) ?_
  conv => whnf
  unfold inB
  cases h1 : leI lo n
  · conv => whnf
    exact ⟨rfl, rfl⟩
  · conv => whnf
    cases h2 : leI n hi
    · conv => whnf
      exact ⟨rfl, rfl⟩
    · conv => whnf
      exact ⟨rfl, rfl⟩
theorem out_in (n a b : Int) : orB (ltI n a) (ltI b n) = notB (inB n a b) := by
  unfold inB leI
  cases ltI n a <;> cases ltI b n <;> rfl
theorem outside_ok (n a b : Int) : Rets Tryz.prog E 19 [.d (.int .i64 n), .d (.int .i64 a), .d (.int .i64 b)] (.d (.bool (notB (inB n a b)))) := by
  rw [← out_in]
  refine sm_of HE true (by kernel_rfl) ?_
  conv => whnf
  cases h1 : ltI n a
  · conv => whnf
    exact ⟨rfl, rfl⟩
  · conv => whnf
    exact ⟨rfl, rfl⟩
theorem clone24 (l : List Int) (hl : l.length * 8 ≤ 140737488355328) : Rets Tryz.prog E 24 [.d (.slice l.length 1 (encI l))] (.d (.slice l.length 1 (encI l))) := by
  cases l with
  | nil =>
    refine Rets.weaken ?_ (Wk.nil 1)
    refine sm_of HE true (by kernel_rfl) ?_
    conv => whnf
    exact ⟨rfl, rfl⟩
  | cons a r =>
    simp only [List.length_cons] at hl ⊢
    refine sm_of HE true (by kernel_rfl) ?_
    conv => whnf
    rw [show Nat.ble ((r.length + 1) * 8) 140737488355328 = true from Nat.ble_eq_true_of_le (by omega)]
    conv => whnf
    rw [ofV_map]
    have hel : (encI (a :: r)).length = (r.length + 1) * 1 := by rw [encI_length]; simp
    conv => whnf
    rw [show Nat.ble (0 + (r.length + 1) * 1) (encI (a :: r)).length = true from Nat.ble_eq_true_of_le (by omega)]
    conv => whnf
    refine ⟨?_, rfl⟩
    rw [row_all hel]
theorem append_ds {l m : List D} {k : Nat} (h : l.length = k) : (Cells.ds l).append k (m.map V.d) = .ds (l ++ m) := by
  unfold Cells.append
  rw [allD_map]
  simp only
  rw [List.take_of_length_le (by omega)]
theorem zeros_flat (n : Nat) : (List.replicate n [V.d (D.int .i64 0)]).flatten = (encI (List.replicate n 0)).map V.d := by
  induction n with
  | zero => rfl
  | succ m ih => rw [List.replicate_succ, List.flatten_cons, ih, List.replicate_succ]; rfl
theorem nils_flat (n : Nat) : (List.replicate n [V.d D.nil]).flatten = (List.replicate n D.nil).map V.d := by
  induction n with
  | zero => rfl
  | succ m ih => rw [List.replicate_succ, List.flatten_cons, ih, List.replicate_succ]; rfl
def slL (b : Nat) (k : Nat) : V := match k with | 0 => .d .nil | k + 1 => .slice b k 0 (k + 1) 1
def rwL (k : Nat) (acc : List (List Int)) : List O := match k with | 0 => [] | k + 1 => [.row (.ds (encLL acc)) k 0 []]
theorem wk_rows (l : List (List Int)) : Wk (match l with | [] => D.nil | a :: r => .slice (r.length + 1) 1 (encLL (a :: r))) (.slice l.length 1 (encLL l)) := by
  cases l with
  | cons a r => exact fun _ _ _ h => h
  | nil => exact Wk.nil 1
def slV (b : Nat) (k : Nat) : V := match k with | 0 => .d .nil | k + 1 => .slice b k 0 (k + 1) 1
def rwO (k : Nat) (acc : List Int) : List O := match k with | 0 => [] | k + 1 => [.row (.ds (encI acc)) k 0 []]
theorem drop_at {α : Type} {L : List α} {i : Nat} {x : α} (h : L[i]? = some x) : L.drop i = x :: L.drop (i + 1) := by
  obtain ⟨hi, rfl⟩ := List.getElem?_eq_some_iff.1 h
  exact List.drop_eq_getElem_cons hi
theorem take_snoc {α : Type} {L : List α} {i : Nat} {x : α} (h : L[i]? = some x) : L.take (i + 1) = L.take i ++ [x] := by
  rw [List.take_add_one, h]; rfl
theorem wr_all : ∀ {l m : List D}, l.length = m.length → wr l 0 m = m
  | [], [], _ => rfl
  | _ :: l, x :: m, h => by
    show x :: wr l 0 m = _
    rw [wr_all (by simpa using h)]
  | [], _ :: _, h => by simp at h
  | _ :: _, [], h => by simp at h
theorem write_all {Z F : List D} (hz : Z.length = F.length) : (Cells.ds Z).write 0 (F.map V.d) = some (.ds F) := by
  unfold Cells.write
  simp only [Cells.len, List.length_map]
  rw [show Nat.ble (0 + F.length) Z.length = true from Nat.ble_eq_true_of_le (by omega), allD_map]
  simp only
  rw [wr_all hz]
def encP (l : List (Int × Int)) : List D := l.flatMap fun p => [.int .i64 p.1, .int .i64 p.2]
theorem encP_length : ∀ l : List (Int × Int), (encP l).length = l.length * 2
  | [] => rfl
  | p :: l => by
    have := encP_length l
    simp only [encP, List.flatMap_cons, List.length_append, List.length_cons, List.length_nil] at *
    omega
theorem encP_at : ∀ {l : List (Int × Int)} {i : Nat} {p : Int × Int}, l[i]? = some p → ((encP l).drop (i * 2)).take 2 = [.int .i64 p.1, .int .i64 p.2]
  | [], _, _, h => by simp at h
  | q :: l, 0, p, h => by simp at h; subst h; rfl
  | q :: l, i + 1, p, h => by
    have := encP_at (l := l) (i := i) (by simpa using h)
    have e : (i + 1) * 2 = i * 2 + 2 := by omega
    rw [e]
    simpa [encP] using this
theorem encP_fst {l : List (Int × Int)} {i : Nat} {p : Int × Int} (h : l[i]? = some p) : (encP l)[i * 2]? = some (.int .i64 p.1) := by
  have := congrArg (fun x => x[0]?) (encP_at h)
  simpa using this
theorem encP_snd {l : List (Int × Int)} {i : Nat} {p : Int × Int} (h : l[i]? = some p) : (encP l)[i * 2 + 1]? = some (.int .i64 p.2) := by
  have := congrArg (fun x => x[1]?) (encP_at h)
  simpa using this
theorem encP_cons (p : Int × Int) (l : List (Int × Int)) : encP (p :: l) = .int .i64 p.1 :: .int .i64 p.2 :: encP l := rfl
theorem encP_append (l m : List (Int × Int)) : encP (l ++ m) = encP l ++ encP m := by simp [encP]
theorem clone25 (l : List (Int × Int)) (hl : l.length * 16 ≤ 140737488355328) : Rets Tryz.prog E 25 [.d (.slice l.length 2 (encP l))] (.d (.slice l.length 2 (encP l))) := by
  cases l with
  | nil =>
    refine Rets.weaken ?_ (Wk.nil 2)
    refine sm_of HE true (by kernel_rfl) ?_
    conv => whnf
    exact ⟨rfl, rfl⟩
  | cons a r =>
    simp only [List.length_cons] at hl ⊢
    refine sm_of HE true (by kernel_rfl) ?_
    conv => whnf
    rw [show Nat.ble ((r.length + 1) * 16) 140737488355328 = true from Nat.ble_eq_true_of_le (by omega)]
    conv => whnf
    rw [ofV_map]
    have hel : (encP (a :: r)).length = (r.length + 1) * 2 := by rw [encP_length]; simp
    conv => whnf
    rw [show Nat.ble (0 + (r.length + 1) * 2) (encP (a :: r)).length = true from Nat.ble_eq_true_of_le (by omega)]
    conv => whnf
    refine ⟨?_, rfl⟩
    rw [row_all hel]
end Go.Proofs.Dx
end
