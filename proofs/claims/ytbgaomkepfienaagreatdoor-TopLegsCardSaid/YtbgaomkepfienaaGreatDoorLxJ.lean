/-
  TopLegs: the program's prices.
-/
import Derived.Test.YtbgaomkepfienaaGreatDoorLxH
namespace Go.Proofs.Lx
open Go Go.Ab Go.Proofs.Lw
set_option maxRecDepth 100000
set_option maxHeartbeats 40000000
def nb (k : Nat) : Nat := match k with | 0 => 0 | _ + 1 => 1
theorem loops_cut {m : Nat} {sl : Option (List Nat)} {body : S → (Ex → S → Prop) → Prop} {K : Ex → S → Prop} {st : S} (P : Ex → S → Prop)
    (hmain : ∀ K' : Ex → S → Prop, (∀ e st, P e st → K' e st) → Loops fun n => hd m sl body n st K') (hP : ∀ e st, P e st → K e st) : Loops fun n => hd m sl body n st K := hmain K hP
/-- What the program says of prices. -/
def PricesP (r : Ru) (s : Sq) (v : V) : Prop :=
  (bst s.sc r.pc s.T r.e.toNat = none ∧ v = .d (.tuple [.nil, .nil, .int .i64 6])) ∨
  (∃ b n, ∃ lg sk : List Int, ∃ f : Int, bst s.sc r.pc s.T r.e.toNat = some (b, n) ∧ lg.length = r.pc.length ∧ sk.length = s.sc.length ∧ (∀ v, -400000 ≤ pv lg sk f v ∧ pv lg sk f v ≤ 0) ∧
    Still r.pc.length s.sc.length r.e.toNat (mayP s.sc r.pc) (tm s.T) (ofn b) (pv lg sk f) ∧
    v = .d (.tuple [sl (lg.map fun x => f - x), sl (sk.map fun x => maxI 0 (f - x)), .int .i64 0]))
theorem Prices10 {r : Ru} {s : Sq} (O : OkS r s) : Sm Tryz.prog E 10 [.d (ruD r), .d (sqD s)] [] (fun v h => PricesP r s v ∧ h = []) := by
  have hL := O.ru.pcl
  have hS := O.scl
  have hE := O.ru.e
  refine sm_of HE true (by kernel_rfl) ?_
  have hbest := Best9 O
  unfold ruD ruL sqD sqL at hbest ⊢
  conv => whnf
  refine Sm.mono hbest ?_
  rintro v h ⟨hb, rfl⟩
  rcases hb with ⟨hb, rfl⟩ | ⟨b, n, hb, rfl⟩
  · conv => whnf
    exact ⟨.inl ⟨hb, rfl⟩, rfl⟩
  have hB := bst_some hb
  have hbl := hB.1.1
  have hbs : ∀ x ∈ b, x < s.sc.length := fun x hx => by
    obtain ⟨q, hq⟩ := List.getElem?_of_mem hx
    have := hB.1.2.sk q (by have := lt_of_at hq; omega)
    rw [ofn_at hq] at this
    exact this
  unfold sl
  rw [nL_length]
  conv => whnf
  refine loops_by (fun x : Nat × List Int => match x with | (i, A) => ⟨169, [(2, .ptr 0 0 0 6), (3, .ptr 1 0 0 2), (4, .d .nil), (5, .d .nil), (6, .d (.int .i64 0)), (7, .d (.slice b.length 1 (encI (nL b)))), (9, .ptr 2 0 0 8), (10, .ptr 3 0 0 8), (37, .d (.slice b.length 1 (encI (nL b)))), (38, .d (.int .i64 b.length)), (39, .d (.int .i64 i))], .unk,
      [.row (.ds (ruL r)) 0 0 [], .row (.ds (sqL s)) 0 0 [], .row (.ds (chL r s)) 0 0 [], .row (.ds (encI A)) 0 0 []], []⟩)
    (fun x => x.1 ≤ b.length ∧ x.2.length = 8 ∧ ∀ j, j < 8 → x.2[j]? = some ((cn (b.take x.1) j : Nat) : Int)) (fun x => b.length - x.1) (0, List.replicate 8 0) ⟨Nat.zero_le _, rfl, fun j hj => by rw [List.getElem?_replicate, if_pos hj]; rfl⟩ ?_
  rintro f1 ⟨i, A⟩ ⟨hi, hA, hAc⟩ ih
  simp only at hi hA hAc
  conv => whnf
  cases h1 : ltI (i : Int) (b.length : Int)
  case true =>
    have h1 := ltI_t h1
    have hb' := blt_t (i := i) (n := b.length) (by omega)
    obtain ⟨j, hj⟩ := at_some (l := b) (i := i) (by omega)
    have hjS := hbs j (List.mem_of_getElem? hj)
    have hb8 := blt_t (i := j) (n := 8) (by omega)
    have hcl : cn (b.take i) j ≤ 4 := Nat.le_trans (cn_le b i j) (Nat.le_trans (cn_le_len b j) (by omega))
    have hsn := fun q => cn_snoc hj q
    conv => whnf
    rw [hb']
    conv => whnf
    rw [encI_get1 (nL_at hj)]
    conv => whnf
    rw [hb8]
    conv => whnf
    rw [ble_t (i := 0 + j * 1 + 1) (n := 8) (by omega)]
    conv => whnf
    rw [encI_get0 (hAc j (by omega))]
    conv => whnf
    rw [hb8]
    conv => whnf
    rw [ble_t (i := 0 + j * 1 + 1) (n := 8) (by omega)]
    conv => whnf
    rw [wrap_succ (by omega)]
    generalize hy : (((cn (b.take i) j + 1 : Nat)) : Int) = y
    rw [ble_t (i := 0 + j * 1 + [V.d (D.int .i64 y)].length) (by simp only [List.length_cons, List.length_nil, Cells.len, encI_length]; omega)]
    conv => whnf
    rw [write_int (i := j) (x := y) (by omega) (by omega)]
    conv => whnf
    rw [wrap_succ (by omega)]
    refine ih (i + 1, A.set j y) ⟨?_, ?_, ?_⟩ ?_
    · simp only; omega
    · simp only; rw [List.length_set]; exact hA
    · simp only
      intro q hq
      rw [hsn q, List.getElem?_set]
      by_cases hjq : j = q
      · subst hjq; rw [if_pos rfl, if_pos (by omega), if_pos rfl, ← hy]
      · simp only [if_neg hjq, hAc q hq, Nat.add_zero]
    · simp only; omega
  have h1 := ltI_f h1
  have hib : i = b.length := by omega
  subst hib
  rw [List.take_length] at hAc
  have zf : ∀ n : Nat, Cells.ofV (List.replicate n (List.map V.d (List.map absS (Value.int IntKind.i64 0).cells.toList))).flatten = Cells.ds (encI (List.replicate n 0)) := fun n => by
    show Cells.ofV ((List.replicate n [V.d (D.int .i64 0)]).flatten) = _
    rw [zeros_flat, ofV_map]
  conv => whnf
  rw [ble_t (Nat.le_refl r.pc.length)]
  conv => whnf
  rw [ble_t (i := r.pc.length * 8) (n := 140737488355328) (by omega)]
  conv => whnf
  rw [zf]
  conv => whnf
  rw [ble_t (Nat.le_refl s.sc.length)]
  conv => whnf
  rw [ble_t (i := s.sc.length * 8) (n := 140737488355328) (by omega)]
  conv => whnf
  rw [zf]
  conv => whnf
  have hV := hB.1.2
  have ht : ∀ i k, i < s.sc.length → k < r.pc.length → 0 ≤ tm s.T i k ∧ tm s.T i k ≤ 100000 := fun i k hi hk => by
    obtain ⟨l, hl, _⟩ := O.row hi
    obtain ⟨x, _, hxt, hx0, hx1⟩ := O.time hl hk
    rw [hxt]; exact ⟨hx0, hx1⟩
  have hopt : ∀ o', Valid r.pc.length s.sc.length r.e.toNat (mayP s.sc r.pc) o' → cost r.pc.length (tm s.T) (ofn b) ≤ cost r.pc.length (tm s.T) o' := fun o' h' => by
    have := hB.2.2.1 o' h'
    rw [hB.2.1] at this
    exact this
  have hlow : ∀ {lg sk : List Int} {f : Int}, PI r.pc.length s.sc.length r.e.toNat (mayP s.sc r.pc) (tm s.T) (ofn b) lg sk f → (∀ v, -400000 ≤ pv lg sk f v) ∧ -10000000 ≤ mu lg sk f := fun {lg sk f} h => by
    obtain ⟨h1, h2⟩ := h.low hV hopt (M := 100000) (by decide) ht
    have h3 : ((r.pc.length + s.sc.length + 1 : Nat) : Int) * ((r.pc.length : Int) * 100000) ≤ 13 * 400000 := Int.mul_le_mul (by omega) (by omega) (by omega) (by decide)
    refine ⟨fun v => ?_, by omega⟩
    have := h1 v
    omega
  have hcnt : ∀ i, cnt r.pc.length (ofn b) i = (cn b i : Nat) := fun i => cnt_cn hbl i
  clear ih
  refine loops_cut (fun e st => e = .exit 2 ∧ ∃ lg sk f, PI r.pc.length s.sc.length r.e.toNat (mayP s.sc r.pc) (tm s.T) (ofn b) lg sk f ∧ (∀ v, pv lg sk f v ≤ 0) ∧ Still r.pc.length s.sc.length r.e.toNat (mayP s.sc r.pc) (tm s.T) (ofn b) (pv lg sk f) ∧ st = ⟨169, [(2, .ptr 0 0 0 6), (3, .ptr 1 0 0 2), (4, .d .nil), (5, .d .nil), (6, .d (.int .i64 0)), (7, .d (.slice b.length 1 (encI (nL b)))), (9, .ptr 2 0 0 8), (10, .ptr 3 0 0 8), (13, .slice 4 0 0 r.pc.length 1), (14, .slice 5 0 0 s.sc.length 1), (15, .ptr 6 0 0 1)], .unk, [.row (.ds (ruL r)) 0 0 [], .row (.ds (sqL s)) 0 0 [], .row (.ds (chL r s)) 0 0 [], .row (.ds (encI A)) 0 0 [], .row (.ds (encI lg)) 0 0 [(0, r.pc.length * 1)], .row (.ds (encI sk)) 0 0 [(0, s.sc.length * 1)], .row (.ds [.int .i64 f]) 0 0 []], []⟩) ?_ ?_
  rotate_left
  · rintro _ _ ⟨rfl, lg, sk, f, hPI, hUp, hSt, rfl⟩
    have hll := hPI.ll
    have hsl := hPI.sl
    have hlo := (hlow hPI).1
    have hf1 := hlo .fr
    have hf2 := hUp .fr
    simp only [pv] at hf1 hf2
    have e1 : ∀ (l : List Int) (x : Int), encI l ++ [D.int .i64 x] = encI (l ++ [x]) := fun l x => (encI_snoc l x).symm
    conv => whnf
    refine loops_cut (fun e st => e = .exit 8 ∧ ∃ x, x = r.pc.length ∧ st = ⟨169, [(4, slV 0 x), (5, .d .nil), (6, .d (.int .i64 0)), (14, .slice (nb x) 0 0 s.sc.length 1), (15, .ptr (nb x + 1) 0 0 1), (140, .slice (nb x + 2) 0 0 r.pc.length 1), (141, .d (.int .i64 r.pc.length)), (142, .d (.int .i64 x))], .unk, rwO x ((lg.map fun y => f - y).take x) ++ [.row (.ds (encI sk)) 0 0 [(0, s.sc.length * 1)], .row (.ds [.int .i64 f]) 0 0 [], .row (.ds (encI lg)) 0 0 [(0, r.pc.length * 1)]], []⟩) ?_ ?_
    rotate_left
    · rintro _ _ ⟨rfl, x, hx, rfl⟩
      obtain ⟨m, rfl⟩ : ∃ m, x = m + 1 := ⟨x - 1, by omega⟩
      have hml : ((lg.map fun y => f - y).take (m + 1)).length = m + 1 := by rw [List.length_take, List.length_map]; omega
      have hmt : (lg.map fun y => f - y).take (m + 1) = lg.map fun y => f - y := List.take_of_length_le (by rw [List.length_map]; omega)
      rw [hmt] at hml ⊢
      conv => whnf
      refine loops_cut (fun e st => e = .exit 10 ∧ ∃ x, x = s.sc.length ∧ st = ⟨169, [(4, .slice 0 m 0 (m + 1) 1), (5, slV 1 x), (6, .d (.int .i64 0)), (15, .ptr (nb x + 1) 0 0 1), (153, .slice (nb x + 2) 0 0 s.sc.length 1), (154, .d (.int .i64 s.sc.length)), (155, .d (.int .i64 x))], .unk, [.row (.ds (encI (lg.map fun y => f - y))) m 0 []] ++ rwO x ((sk.map fun y => maxI 0 (f - y)).take x) ++ [.row (.ds [.int .i64 f]) 0 0 [], .row (.ds (encI sk)) 0 0 [(0, s.sc.length * 1)]], []⟩) ?_ ?_
      rotate_left
      · rintro _ _ ⟨rfl, x, hx2, rfl⟩
        obtain ⟨q, rfl⟩ : ∃ q, x = q + 1 := ⟨x - 1, by omega⟩
        have hql : (sk.map fun y => maxI 0 (f - y)).length = q + 1 := by rw [List.length_map]; omega
        have hel1 : (encI (lg.map fun y => f - y)).length = (m + 1) * 1 := by rw [encI_length]; omega
        have hel2 : (encI (sk.map fun y => maxI 0 (f - y))).length = (q + 1) * 1 := by rw [encI_length]; omega
        rw [List.take_of_length_le (by omega)]
        conv => whnf
        rw [may_all]
        conv => whnf
        rw [ble_t (i := 0 + (m + 1) * 1) (by omega)]
        conv => whnf
        rw [may_all]
        conv => whnf
        rw [ble_t (i := 0 + (q + 1) * 1) (by omega)]
        conv => whnf
        refine ⟨.inr ⟨b, n, lg, sk, f, hb, by omega, by omega, fun v => ⟨hlo v, hUp v⟩, hSt, ?_⟩, rfl⟩
        rw [row_all hel1, row_all hel2]
        unfold sl
        rw [hml, hql]
      intro K hK
      refine loops_by (fun x : Nat => ⟨169, [(4, .slice 0 m 0 (m + 1) 1), (5, slV 1 x), (6, .d (.int .i64 0)), (15, .ptr (nb x + 1) 0 0 1), (153, .slice (nb x + 2) 0 0 s.sc.length 1), (154, .d (.int .i64 s.sc.length)), (155, .d (.int .i64 x))], .unk, [.row (.ds (encI (lg.map fun y => f - y))) m 0 []] ++ rwO x ((sk.map fun y => maxI 0 (f - y)).take x) ++ [.row (.ds [.int .i64 f]) 0 0 [], .row (.ds (encI sk)) 0 0 [(0, s.sc.length * 1)]], []⟩) (fun x => x ≤ s.sc.length) (fun x => s.sc.length - x) 0 (Nat.zero_le _) ?_
      rintro f2 k hk ih
      cases k with
      | zero =>
        have h1 := ltI_tt (a := ((0 : Nat) : Int)) (b := s.sc.length) (by omega)
        obtain ⟨y, hy⟩ := at_some (l := sk) (i := 0) (by omega)
        have hbk := blt_t (i := 0) (n := s.sc.length) (by omega)
        have hy1 := hlo (.sk 0)
        have hy2 := hUp (.sk 0)
        rw [pv_sk hy] at hy1 hy2
        have hmy : (sk.map fun y => maxI 0 (f - y))[0]? = some (maxI 0 (f - y)) := by rw [List.getElem?_map, hy]; rfl
        have hts := take_snoc hmy
        conv => whnf
        rw [h1]
        conv => whnf
        rw [hbk]
        conv => whnf
        rw [may_made (by omega)]
        conv => whnf
        rw [encI_get0 hy]
        conv => whnf
        rw [wrap_i64 (n := f - y) (by omega) (by omega)]
        have k := ih 1 (by omega) (by omega)
        rw [hts] at k
        conv => whnf
        rw [wrap_succ (by omega)]
        exact k
      | succ k =>
        have hlk : ((sk.map fun y => maxI 0 (f - y)).take (k + 1)).length = k + 1 := by rw [List.length_take, List.length_map]; omega
        cases h1 : ltI ((k + 1 : Nat) : Int) (s.sc.length : Int)
        · have h0 := ltI_f h1
          conv => whnf
          rw [h1]
          conv => whnf
          exact hK _ _ ⟨rfl, k + 1, by omega, rfl⟩
        have h0 := ltI_t h1
        obtain ⟨y, hy⟩ := at_some (l := sk) (i := (k + 1)) (by omega)
        have hbk := blt_t (i := (k + 1)) (n := s.sc.length) (by omega)
        have hy1 := hlo (.sk (k + 1))
        have hy2 := hUp (.sk (k + 1))
        rw [pv_sk hy] at hy1 hy2
        have hmy : (sk.map fun y => maxI 0 (f - y))[(k + 1)]? = some (maxI 0 (f - y)) := by rw [List.getElem?_map, hy]; rfl
        have hts := take_snoc hmy
        conv => whnf
        rw [h1]
        conv => whnf
        rw [hbk]
        conv => whnf
        rw [ble_t (i := 0 + (k + 1) * 1 + 1) (Nat.le_refl _)]
        conv => whnf
        rw [may_made (by omega)]
        conv => whnf
        rw [encI_get0 hy]
        conv => whnf
        rw [wrap_i64 (n := f - y) (by omega) (by omega)]
        have k' := ih (k + 1 + 1) (by omega) (by omega)
        rw [hts] at k'
        conv => whnf
        rw [ble_t (i := (k + 1 + 1) * 8) (n := 140737488355328) (by omega)]
        conv => whnf
        rw [may_all]
        conv => whnf
        rw [len_beq hlk, wrap_succ (by omega), List.take_of_length_le (by rw [encI_length, hlk]; omega)]
        rw [e1]
        exact k'
    intro K hK
    refine loops_by (fun x : Nat => ⟨169, [(4, slV 0 x), (5, .d .nil), (6, .d (.int .i64 0)), (14, .slice (nb x) 0 0 s.sc.length 1), (15, .ptr (nb x + 1) 0 0 1), (140, .slice (nb x + 2) 0 0 r.pc.length 1), (141, .d (.int .i64 r.pc.length)), (142, .d (.int .i64 x))], .unk, rwO x ((lg.map fun y => f - y).take x) ++ [.row (.ds (encI sk)) 0 0 [(0, s.sc.length * 1)], .row (.ds [.int .i64 f]) 0 0 [], .row (.ds (encI lg)) 0 0 [(0, r.pc.length * 1)]], []⟩) (fun x => x ≤ r.pc.length) (fun x => r.pc.length - x) 0 (Nat.zero_le _) ?_
    rintro f2 k hk ih
    cases k with
    | zero =>
      have h1 := ltI_tt (a := ((0 : Nat) : Int)) (b := r.pc.length) (by omega)
      obtain ⟨y, hy⟩ := at_some (l := lg) (i := 0) (by omega)
      have hbk := blt_t (i := 0) (n := r.pc.length) (by omega)
      have hy1 := hlo (.leg 0)
      have hy2 := hUp (.leg 0)
      rw [pv_leg hy] at hy1 hy2
      have hmy : (lg.map fun y => f - y)[0]? = some (f - y) := by rw [List.getElem?_map, hy]; rfl
      have hts := take_snoc hmy
      conv => whnf
      rw [h1]
      conv => whnf
      rw [hbk]
      conv => whnf
      rw [may_made (by omega)]
      conv => whnf
      rw [encI_get0 hy]
      conv => whnf
      rw [wrap_i64 (n := f - y) (by omega) (by omega)]
      have k := ih 1 (by omega) (by omega)
      rw [hts] at k
      conv => whnf
      rw [wrap_succ (by omega)]
      exact k
    | succ k =>
      have hlk : ((lg.map fun y => f - y).take (k + 1)).length = k + 1 := by rw [List.length_take, List.length_map]; omega
      cases h1 : ltI ((k + 1 : Nat) : Int) (r.pc.length : Int)
      · have h0 := ltI_f h1
        conv => whnf
        rw [h1]
        conv => whnf
        exact hK _ _ ⟨rfl, k + 1, by omega, rfl⟩
      have h0 := ltI_t h1
      obtain ⟨y, hy⟩ := at_some (l := lg) (i := (k + 1)) (by omega)
      have hbk := blt_t (i := (k + 1)) (n := r.pc.length) (by omega)
      have hy1 := hlo (.leg (k + 1))
      have hy2 := hUp (.leg (k + 1))
      rw [pv_leg hy] at hy1 hy2
      have hmy : (lg.map fun y => f - y)[(k + 1)]? = some (f - y) := by rw [List.getElem?_map, hy]; rfl
      have hts := take_snoc hmy
      conv => whnf
      rw [h1]
      conv => whnf
      rw [hbk]
      conv => whnf
      rw [ble_t (i := 0 + (k + 1) * 1 + 1) (Nat.le_refl _)]
      conv => whnf
      rw [may_made (by omega)]
      conv => whnf
      rw [encI_get0 hy]
      conv => whnf
      rw [wrap_i64 (n := f - y) (by omega) (by omega)]
      have k' := ih (k + 1 + 1) (by omega) (by omega)
      rw [hts] at k'
      conv => whnf
      rw [ble_t (i := (k + 1 + 1) * 8) (n := 140737488355328) (by omega)]
      conv => whnf
      rw [may_all]
      conv => whnf
      rw [len_beq hlk, wrap_succ (by omega), List.take_of_length_le (by rw [encI_length, hlk]; omega), e1]
      exact k'
  intro K hK
  refine loops_by (fun x : List Int × List Int × Int => match x with | (lg, sk, f) => ⟨169, [(2, .ptr 0 0 0 6), (3, .ptr 1 0 0 2), (4, .d .nil), (5, .d .nil), (6, .d (.int .i64 0)), (7, .d (.slice b.length 1 (encI (nL b)))), (9, .ptr 2 0 0 8), (10, .ptr 3 0 0 8), (13, .slice 4 0 0 r.pc.length 1), (14, .slice 5 0 0 s.sc.length 1), (15, .ptr 6 0 0 1)], .unk, [.row (.ds (ruL r)) 0 0 [], .row (.ds (sqL s)) 0 0 [], .row (.ds (chL r s)) 0 0 [], .row (.ds (encI A)) 0 0 [], .row (.ds (encI lg)) 0 0 [(0, r.pc.length * 1)], .row (.ds (encI sk)) 0 0 [(0, s.sc.length * 1)], .row (.ds [.int .i64 f]) 0 0 []], []⟩)
    (fun x => PI r.pc.length s.sc.length r.e.toNat (mayP s.sc r.pc) (tm s.T) (ofn b) x.1 x.2.1 x.2.2 ∧ ∀ v, pv x.1 x.2.1 x.2.2 v ≤ 0) (fun x => (mu x.1 x.2.1 x.2.2 + 10000000).toNat) (List.replicate r.pc.length 0, List.replicate s.sc.length 0, 0) ⟨PI.zero, fun v => by
      cases v with
      | leg k => simp only [pv, List.getElem?_replicate]; split <;> exact Int.le_refl _
      | sk k => simp only [pv, List.getElem?_replicate]; split <;> exact Int.le_refl _
      | fr => exact Int.le_refl _⟩ ?_
  rintro f2 ⟨lg0, sk0, f0⟩ ⟨hPI, hUp⟩ ihR
  simp only at hPI hUp
  have hlow0 := (hlow hPI).2
  conv => whnf
  refine loops_cut (fun e st => e = .exit 4 ∧ ∃ lg sk f ch, Rs r.pc.length s.sc.length r.e.toNat (mayP s.sc r.pc) (tm s.T) (ofn b) (mu lg0 sk0 f0) s.sc.length 0 lg sk f ch ∧ ∃ i, st = ⟨169, [(2, .ptr 0 0 0 6), (3, .ptr 1 0 0 2), (4, .d .nil), (5, .d .nil), (6, .d (.int .i64 0)), (7, .d (.slice b.length 1 (encI (nL b)))), (9, .ptr 2 0 0 8), (10, .ptr 3 0 0 8), (13, .slice 4 0 0 r.pc.length 1), (14, .slice 5 0 0 s.sc.length 1), (15, .ptr 6 0 0 1), (16, .ptr 7 0 0 1), (17, .func 22 [] [.ptr 7 0 0 1]), (59, .d (.int .i64 s.sc.length)), (60, .d (.int .i64 i))], .unk, [.row (.ds (ruL r)) 0 0 [], .row (.ds (sqL s)) 0 0 [], .row (.ds (chL r s)) 0 0 [], .row (.ds (encI A)) 0 0 [], .row (.ds (encI lg)) 0 0 [(0, r.pc.length * 1)], .row (.ds (encI sk)) 0 0 [(0, s.sc.length * 1)], .row (.ds [.int .i64 f]) 0 0 [], .row (.ds [.bool ch]) 0 0 []], []⟩) ?_ ?_
  rotate_left
  · rintro _ _ ⟨rfl, lg, sk, f, ch, hR, i, rfl⟩
    conv => whnf
    cases ch
    · conv => whnf
      exact hK _ _ ⟨rfl, lg, sk, f, hR.pi, hR.up, (hR.dn rfl).still, rfl⟩
    · have h4 := hR.lt rfl
      have h5 := (hlow hR.pi).2
      conv => whnf
      exact ihR (lg, sk, f) ⟨hR.pi, hR.up⟩ (by simp only; omega)
  clear ihR hK
  intro K hK
  refine loops_by (fun x : Nat × List Int × List Int × Int × Bool => match x with | (i, lg, sk, f, ch) => ⟨169, [(2, .ptr 0 0 0 6), (3, .ptr 1 0 0 2), (4, .d .nil), (5, .d .nil), (6, .d (.int .i64 0)), (7, .d (.slice b.length 1 (encI (nL b)))), (9, .ptr 2 0 0 8), (10, .ptr 3 0 0 8), (13, .slice 4 0 0 r.pc.length 1), (14, .slice 5 0 0 s.sc.length 1), (15, .ptr 6 0 0 1), (16, .ptr 7 0 0 1), (17, .func 22 [] [.ptr 7 0 0 1]), (59, .d (.int .i64 s.sc.length)), (60, .d (.int .i64 i))], .unk, [.row (.ds (ruL r)) 0 0 [], .row (.ds (sqL s)) 0 0 [], .row (.ds (chL r s)) 0 0 [], .row (.ds (encI A)) 0 0 [], .row (.ds (encI lg)) 0 0 [(0, r.pc.length * 1)], .row (.ds (encI sk)) 0 0 [(0, s.sc.length * 1)], .row (.ds [.int .i64 f]) 0 0 [], .row (.ds [.bool ch]) 0 0 []], []⟩)
    (fun x => x.1 ≤ s.sc.length ∧ Rs r.pc.length s.sc.length r.e.toNat (mayP s.sc r.pc) (tm s.T) (ofn b) (mu lg0 sk0 f0) x.1 0 x.2.1 x.2.2.1 x.2.2.2.1 x.2.2.2.2) (fun x => s.sc.length - x.1) (0, lg0, sk0, f0, false) ⟨Nat.zero_le _, Rs.start hPI hUp⟩ ?_
  rintro f3 ⟨i, lg, sk, f, ch⟩ ⟨hi, hR0⟩ ihI
  simp only at hi hR0
  conv => whnf
  cases h2 : ltI (i : Int) (s.sc.length : Int)
  · have h2 := ltI_f h2
    have hiS : i = s.sc.length := by omega
    subst hiS
    conv => whnf
    exact hK _ _ ⟨rfl, lg, sk, f, ch, hR0, s.sc.length, rfl⟩
  have h2 := ltI_t h2
  have hbi := blt_t (i := i) (n := s.sc.length) (by omega)
  have hbT := blt_t (i := i) (n := s.T.length) (by have := O.tl; omega)
  obtain ⟨row, hrow, hrl⟩ := O.row (i := i) (by omega)
  conv => whnf
  refine loops_cut (fun e st => e = .exit 6 ∧ ∃ lg sk f ch, Rs r.pc.length s.sc.length r.e.toNat (mayP s.sc r.pc) (tm s.T) (ofn b) (mu lg0 sk0 f0) i r.pc.length lg sk f ch ∧ ∃ k, st = ⟨169, [(2, .ptr 0 0 0 6), (3, .ptr 1 0 0 2), (4, .d .nil), (5, .d .nil), (6, .d (.int .i64 0)), (7, .d (.slice b.length 1 (encI (nL b)))), (9, .ptr 2 0 0 8), (10, .ptr 3 0 0 8), (13, .slice 4 0 0 r.pc.length 1), (14, .slice 5 0 0 s.sc.length 1), (15, .ptr 6 0 0 1), (16, .ptr 7 0 0 1), (17, .func 22 [] [.ptr 7 0 0 1]), (18, .d (.int .i64 i)), (59, .d (.int .i64 s.sc.length)), (60, .d (.int .i64 i)), (64, .d (.int .i64 r.pc.length)), (65, .d (.int .i64 k))], .unk, [.row (.ds (ruL r)) 0 0 [], .row (.ds (sqL s)) 0 0 [], .row (.ds (chL r s)) 0 0 [], .row (.ds (encI A)) 0 0 [], .row (.ds (encI lg)) 0 0 [(0, r.pc.length * 1)], .row (.ds (encI sk)) 0 0 [(0, s.sc.length * 1)], .row (.ds [.int .i64 f]) 0 0 [], .row (.ds [.bool ch]) 0 0 []], []⟩) ?_ ?_
  rotate_left
  · clear hR0
    rintro _ _ ⟨rfl, lg, sk, f, ch, hR, k, rfl⟩
    have hsl := hR.pi.sl
    have hb8 := blt_t (i := i) (n := 8) (by omega)
    obtain ⟨a, ha⟩ := at_some (l := sk) (i := i) (by omega)
    conv => whnf
    rw [hb8]
    conv => whnf
    rw [ble_t (i := 0 + i * 1 + 1) (n := 8) (by omega)]
    conv => whnf
    rw [encI_get0 (hAc i (by omega))]
    conv => whnf
    cases h4 : ltI ((cn b i : Nat) : Int) r.e
    · have hR1 := hR.roomNo (by rw [hcnt]; have := ltI_f h4; omega)
      conv => whnf
      rw [hb8]
      conv => whnf
      rw [ble_t (i := 0 + i * 1 + 1) (n := 8) (by omega)]
      conv => whnf
      rw [encI_get0 (hAc i (by omega))]
      conv => whnf
      cases h5 : ltI 0 ((cn b i : Nat) : Int)
      · have hR2 := Rs.usedNo hR1 (by rw [hcnt]; have := ltI_f h5; omega)
        conv => whnf
        rw [wrap_succ (by omega)]
        exact ihI (i + 1, lg, sk, f, ch) ⟨by simp only; omega, hR2⟩ (by simp only; omega)
      · have h5 := ltI_t h5
        conv => whnf
        rw [hbi]
        conv => whnf
        refine Sm.mono (lowS sk i s.sc.length a f ch ha hsl) ?_
        rintro v h ⟨rfl, sk', ch2, rfl, hLow2⟩
        have hR2 := Rs.used hR1 (by omega) (by rw [hcnt]; omega) ha hLow2
        conv => whnf
        rw [wrap_succ (by omega)]
        exact ihI (i + 1, lg, sk', f, ch2) ⟨by simp only; omega, hR2⟩ (by simp only; omega)
    · have h4 := ltI_t h4
      conv => whnf
      rw [hbi]
      conv => whnf
      rw [ble_t (i := 0 + i * 1 + 1) (Nat.le_refl _)]
      conv => whnf
      rw [may_made (by omega)]
      conv => whnf
      rw [encI_get0 ha]
      conv => whnf
      refine Sm.mono (lowF f a ch) ?_
      rintro v h ⟨rfl, f', ch', rfl, hLow⟩
      have hR1 := hR.room (by omega) (by rw [hcnt]; omega) ha hLow
      conv => whnf
      rw [hb8]
      conv => whnf
      rw [ble_t (i := 0 + i * 1 + 1) (n := 8) (by omega)]
      conv => whnf
      rw [encI_get0 (hAc i (by omega))]
      conv => whnf
      cases h5 : ltI 0 ((cn b i : Nat) : Int)
      · have hR2 := Rs.usedNo hR1 (by rw [hcnt]; have := ltI_f h5; omega)
        conv => whnf
        rw [wrap_succ (by omega)]
        exact ihI (i + 1, lg, sk, f', ch') ⟨by simp only; omega, hR2⟩ (by simp only; omega)
      · have h5 := ltI_t h5
        conv => whnf
        rw [hbi]
        conv => whnf
        refine Sm.mono (lowS sk i s.sc.length a f' ch' ha hsl) ?_
        rintro v h ⟨rfl, sk', ch2, rfl, hLow2⟩
        have hR2 := Rs.used hR1 (by omega) (by rw [hcnt]; omega) ha hLow2
        conv => whnf
        rw [wrap_succ (by omega)]
        exact ihI (i + 1, lg, sk', f', ch2) ⟨by simp only; omega, hR2⟩ (by simp only; omega)
  clear hK ihI
  intro K hK
  refine loops_by (fun x : Nat × List Int × List Int × Int × Bool => match x with | (k, lg, sk, f, ch) => ⟨169, [(2, .ptr 0 0 0 6), (3, .ptr 1 0 0 2), (4, .d .nil), (5, .d .nil), (6, .d (.int .i64 0)), (7, .d (.slice b.length 1 (encI (nL b)))), (9, .ptr 2 0 0 8), (10, .ptr 3 0 0 8), (13, .slice 4 0 0 r.pc.length 1), (14, .slice 5 0 0 s.sc.length 1), (15, .ptr 6 0 0 1), (16, .ptr 7 0 0 1), (17, .func 22 [] [.ptr 7 0 0 1]), (18, .d (.int .i64 i)), (59, .d (.int .i64 s.sc.length)), (60, .d (.int .i64 i)), (64, .d (.int .i64 r.pc.length)), (65, .d (.int .i64 k))], .unk, [.row (.ds (ruL r)) 0 0 [], .row (.ds (sqL s)) 0 0 [], .row (.ds (chL r s)) 0 0 [], .row (.ds (encI A)) 0 0 [], .row (.ds (encI lg)) 0 0 [(0, r.pc.length * 1)], .row (.ds (encI sk)) 0 0 [(0, s.sc.length * 1)], .row (.ds [.int .i64 f]) 0 0 [], .row (.ds [.bool ch]) 0 0 []], []⟩)
    (fun x => x.1 ≤ r.pc.length ∧ Rs r.pc.length s.sc.length r.e.toNat (mayP s.sc r.pc) (tm s.T) (ofn b) (mu lg0 sk0 f0) i x.1 x.2.1 x.2.2.1 x.2.2.2.1 x.2.2.2.2) (fun x => r.pc.length - x.1) (0, lg, sk, f, ch) ⟨Nat.zero_le _, hR0⟩ ?_
  clear hR0
  rintro f4 ⟨k, lg, sk, f, ch⟩ ⟨hk, hR⟩ ihK
  simp only at hk hR
  have hll := hR.pi.ll
  have hsl := hR.pi.sl
  have hlo := (hlow hR.pi).1
  have hup := hR.up
  obtain ⟨a, ha⟩ := at_some (l := sk) (i := i) (by omega)
  have ha1 := hlo (.sk i)
  have ha2 := hup (.sk i)
  rw [pv_sk ha] at ha1 ha2
  conv => whnf
  cases h3 : ltI (k : Int) (r.pc.length : Int)
  · have h3 := ltI_f h3
    have hkL : k = r.pc.length := by omega
    subst hkL
    conv => whnf
    exact hK _ _ ⟨rfl, lg, sk, f, ch, hR, r.pc.length, rfl⟩
  have h3 := ltI_t h3
  have hbk := blt_t (i := k) (n := r.pc.length) (by omega)
  have hbr := blt_t (i := k) (n := row.length) (by omega)
  have hbb := blt_t (i := k) (n := b.length) (by omega)
  obtain ⟨l, hl⟩ := at_some (l := lg) (i := k) (by omega)
  have hl1 := hlo (.leg k)
  have hl2 := hup (.leg k)
  rw [pv_leg hl] at hl1 hl2
  obtain ⟨x, hx, hxt, hx0, hx1⟩ := O.time hrow (k := k) (by omega)
  obtain ⟨o, ho⟩ := at_some (l := b) (i := k) (by omega)
  have hof := ofn_at ho
  conv => whnf
  refine Rets.use (may23 O (i := i) (k := k) (by omega) (by omega)) ?_
  cases hm : mayB s.sc r.pc i k
  · have hR1 := hR.takeNo (of_decide_eq_false hm)
    conv => whnf
    rw [hbb]
    conv => whnf
    rw [encI_get1 (nL_at ho)]
    conv => whnf
    cases hoi : eqI (o : Int) (i : Int)
    · have hoi := eqI_f hoi
      have hR2 := Rs.giveNo hR1 (by rw [hof]; omega)
      conv => whnf
      rw [wrap_succ (by omega)]
      exact ihK (k + 1, lg, sk, f, ch) ⟨by simp only; omega, hR2⟩ (by simp only; omega)
    · have hoi := eqI_t hoi
      obtain ⟨a2, ha2⟩ := at_some (l := sk) (i := i) (by have := hR1.1.pi.sl; omega)
      have ha3 := (hlow hR1.1.pi).1 (.sk i)
      have ha4 := hR1.1.up (.sk i)
      rw [pv_sk ha2] at ha3 ha4
      conv => whnf
      rw [hbk]
      conv => whnf
      rw [hbi]
      conv => whnf
      rw [ble_t (i := 0 + i * 1 + 1) (Nat.le_refl _)]
      conv => whnf
      rw [may_made (by omega)]
      conv => whnf
      rw [encI_get0 ha2]
      conv => whnf
      rw [hbT]
      conv => whnf
      rw [encLL_get1 hrow]
      conv => whnf
      rw [hbr]
      conv => whnf
      rw [encI_get1 hx]
      conv => whnf
      rw [wrap_i64 (n := a2 - x) (by omega) (by omega)]
      refine Sm.mono (lowS lg k r.pc.length l (a2 - x) ch hl hll) ?_
      rintro v h ⟨rfl, lg', ch2, rfl, hLow2⟩
      rw [← hxt] at hLow2
      have hR2 := Rs.give hV hR1 (by omega) (by rw [hof]; omega) hl ha2 hLow2
      conv => whnf
      rw [wrap_succ (by omega)]
      exact ihK (k + 1, lg', sk, f, ch2) ⟨by simp only; omega, hR2⟩ (by simp only; omega)
  · have hm := of_decide_eq_true hm
    conv => whnf
    rw [hbi]
    conv => whnf
    rw [hbk]
    conv => whnf
    rw [ble_t (i := 0 + k * 1 + 1) (Nat.le_refl _)]
    conv => whnf
    rw [may_made (by omega)]
    conv => whnf
    rw [encI_get0 hl]
    conv => whnf
    rw [hbT]
    conv => whnf
    rw [encLL_get1 hrow]
    conv => whnf
    rw [hbr]
    conv => whnf
    rw [encI_get1 hx]
    conv => whnf
    rw [wrap_i64 (n := l + x) (by omega) (by omega)]
    refine Sm.mono (lowS sk i s.sc.length a (l + x) ch ha hsl) ?_
    rintro v h ⟨rfl, sk', ch', rfl, hLow⟩
    rw [← hxt] at hLow
    have hR1 := hR.take (by omega) (by omega) hm ha hl hLow
    conv => whnf
    rw [hbb]
    conv => whnf
    rw [encI_get1 (nL_at ho)]
    conv => whnf
    cases hoi : eqI (o : Int) (i : Int)
    · have hoi := eqI_f hoi
      have hR2 := Rs.giveNo hR1 (by rw [hof]; omega)
      conv => whnf
      rw [wrap_succ (by omega)]
      exact ihK (k + 1, lg, sk', f, ch') ⟨by simp only; omega, hR2⟩ (by simp only; omega)
    · have hoi := eqI_t hoi
      obtain ⟨a2, ha2⟩ := at_some (l := sk') (i := i) (by have := hR1.1.pi.sl; omega)
      have ha3 := (hlow hR1.1.pi).1 (.sk i)
      have ha4 := hR1.1.up (.sk i)
      rw [pv_sk ha2] at ha3 ha4
      conv => whnf
      rw [hbk]
      conv => whnf
      rw [hbi]
      conv => whnf
      rw [ble_t (i := 0 + i * 1 + 1) (Nat.le_refl _)]
      conv => whnf
      rw [may_made (by omega)]
      conv => whnf
      rw [encI_get0 ha2]
      conv => whnf
      rw [hbT]
      conv => whnf
      rw [encLL_get1 hrow]
      conv => whnf
      rw [hbr]
      conv => whnf
      rw [encI_get1 hx]
      conv => whnf
      rw [wrap_i64 (n := a2 - x) (by omega) (by omega)]
      refine Sm.mono (lowS lg k r.pc.length l (a2 - x) ch' hl hll) ?_
      rintro v h ⟨rfl, lg', ch2, rfl, hLow2⟩
      rw [← hxt] at hLow2
      have hR2 := Rs.give hV hR1 (by omega) (by rw [hof]; omega) hl ha2 hLow2
      conv => whnf
      rw [wrap_succ (by omega)]
      exact ihK (k + 1, lg', sk', f, ch2) ⟨by simp only; omega, hR2⟩ (by simp only; omega)
end Go.Proofs.Lx
