/-
  TopDecidedEarly: races are sorted by their points.
-/
import Derived.Test.YtedodndgpjonkaaGreatDoorCxI
section
namespace Go.Proofs.Cx
open Go Go.Ab Go.Proofs.Cw
set_option maxRecDepth 100000
set_option maxHeartbeats 40000000
theorem cmp_lt (a b : Int) : ltI (cmpI a b) 0 = ltI a b := by
  unfold cmpI
  cases ltI a b
  · simp only
    cases ltI b a <;> rfl
  · rfl
/-- It counts before. -/
def bI (sc : Nat → Int) (x y : Int) : Prop := sc y.toNat < sc x.toNat ∨ (sc y.toNat = sc x.toNat ∧ x < y)
theorem bI_at {sc : Nat → Int} {S : List Int} (h : S.Pairwise (bI sc)) {t u : Nat} {y z : Int} (htu : t < u) (ht : S[t]? = some y) (hu : S[u]? = some z) : bI sc y z := by
  obtain ⟨h1, rfl⟩ := List.getElem?_eq_some_iff.1 ht
  obtain ⟨h2, rfl⟩ := List.getElem?_eq_some_iff.1 hu
  exact List.pairwise_iff_getElem.1 h t u h1 h2 htu
/-- How two races are compared. -/
structure Cmp (nn rr bb : Int) (P : List Int) (R : List (List Int)) (n s : Nat) (sc : Nat → Int) : Prop where
  cmp : ∀ a b : Nat, a < n → b < n → Sm Tryz.prog E 109 [.d (.int .i64 a), .d (.int .i64 b), .ptr 0 0 0 5, .ptr 1 0 0 1] [.row (.ds (cupL nn rr bb P R)) 0 0 [], .row (.ds [.int .i64 s]) 0 0 []]
    (fun v h => v = .d (.int .i64 (cmpI (sc b) (sc a))) ∧ h = [.row (.ds (cupL nn rr bb P R)) 0 0 [], .row (.ds [.int .i64 s]) 0 0 []])
theorem cmp109 {nn rr bb : Int} {P : List Int} {R : List (List Int)} {n : Nat} (O : Pt P) (hR : Rc n R) {s : Nat} (hs : s < n) : Cmp nn rr bb P R R.length s (fun j => scr P (row R j) s) := by
  refine ⟨fun a b ha hb => ?_⟩
  obtain ⟨ra, hra⟩ := at_some ha
  obtain ⟨rb, hrb⟩ := at_some hb
  have h12 := hR.sk
  have pa := points_ok (nn := nn) (rr := rr) (bb := bb) (R := R) O (l := ra) (s := s) (by have := (hR.at hra).1; omega) (by have := (hR.at hra).1; omega) (hR.at hra).2
  have pb := points_ok (nn := nn) (rr := rr) (bb := bb) (R := R) O (l := rb) (s := s) (by have := (hR.at hrb).1; omega) (by have := (hR.at hrb).1; omega) (hR.at hrb).2
  rw [row_of hra, row_of hrb]
  have ba := blt_t ha
  have bb' := blt_t hb
  refine sm_of HE true (by kernel_rfl) ?_
  unfold cupD at pa pb
  unfold cupL at pa pb ⊢
  conv => whnf
  rw [bb']
  conv => whnf
  rw [encLL_get1 hrb]
  conv => whnf
  rw [ba]
  conv => whnf
  rw [encLL_get1 hra]
  conv => whnf
  refine Rets.use pb ?_
  conv => whnf
  refine Rets.use pa ?_
  conv => whnf
  refine Rets.use (compare_ok _ _) ?_
  conv => whnf
  exact ⟨rfl, rfl⟩
theorem ssort_ok {nn rr bb : Int} {P : List Int} {R : List (List Int)} {n s : Nat} {sc : Nat → Int} (X : Cmp nn rr bb P R n s sc) (L : List Int) (hLn : L = (List.range n).map Int.ofNat) (e fl q : Nat) (hq : q + 1 ≤ L.length) (hL : L.length ≤ 1000) (hfl : fl ≤ e) :
    Sm Tryz.prog E 212 [.slice 0 e 0 (q + 1) 1, .d (.int .i64 0), .d (.int .i64 (q + 1 : Nat)), .func 109 [] [.ptr 1 0 0 5, .ptr 2 0 0 1]] [.row (.ds (encI L)) e fl [], .row (.ds (cupL nn rr bb P R)) 0 0 [], .row (.ds [.int .i64 s]) 0 0 []]
      (fun v h => v = .d (.tuple []) ∧ ∃ L' fl', fl' ≤ e ∧ h = [.row (.ds (encI L')) e fl' [], .row (.ds (cupL nn rr bb P R)) 0 0 [], .row (.ds [.int .i64 s]) 0 0 []] ∧ L'.length = L.length ∧ (L'.take (q + 1)).Perm (L.take (q + 1)) ∧ (L'.take (q + 1)).Pairwise (bI sc)) := by
  obtain ⟨a0, l0, rfl⟩ : ∃ a l, L = a :: l := by
    cases L with
    | nil => simp at hq
    | cons a l => exact ⟨a, l, rfl⟩
  refine sm_of HE true (by kernel_rfl) ?_
  conv => whnf
  refine loops_by (fun x : Nat × List Int × Nat => match x with
      | (i, S, fl) => ⟨53, [(0, .slice 0 e 0 (q + 1) 1), (1, .d (.int .i64 0)), (2, .d (.int .i64 (q + 1 : Nat))), (3, .func 109 [] [.ptr 1 0 0 5, .ptr 2 0 0 1]), (8, .d (.int .i64 (i + 1 : Nat)))], .unk, [.row (.ds (encI (S ++ (a0 :: l0).drop (i + 1)))) e fl [], .row (.ds (cupL nn rr bb P R)) 0 0 [], .row (.ds [.int .i64 s]) 0 0 []], []⟩)
    (fun x => x.1 ≤ q ∧ x.2.1.length = x.1 + 1 ∧ x.2.1.Perm ((a0 :: l0).take (x.1 + 1)) ∧ x.2.1.Pairwise (bI sc) ∧ x.2.2 ≤ e) (fun x => q - x.1) (0, [a0], fl) ⟨Nat.zero_le _, rfl, .refl _, List.pairwise_singleton _ _, hfl⟩ ?_
  generalize a0 :: l0 = L at *
  have hLat : ∀ {t : Nat} {x : Int}, L[t]? = some x → x = (t : Nat) := fun {t x} h => by
    rw [hLn, List.getElem?_map] at h
    obtain ⟨u, hu, rfl⟩ := Option.map_eq_some_iff.1 h
    rw [List.getElem?_range (by have := (List.getElem?_eq_some_iff.1 hu).1; simpa using this)] at hu
    cases hu; rfl
  have hLl : L.length = n := by rw [hLn]; simp
  clear hfl fl
  rintro f ⟨i, S, fl⟩ ⟨hi, hS, hp, hs, hfl⟩ ih
  simp only at hi hS hp hs hfl
  conv => whnf
  cases h1 : ltI ((i + 1 : Nat) : Int) ((q + 1 : Nat) : Int)
  · have := ltI_f h1
    have hiq : i = q := by omega
    subst hiq
    conv => whnf
    refine ⟨rfl, S ++ L.drop (i + 1), fl, hfl, rfl, ?_, ?_, ?_⟩
    · simp; omega
    · rw [List.take_append_of_le_length (by omega), List.take_of_length_le (by omega)]; exact hp
    · rw [List.take_append_of_le_length (by omega), List.take_of_length_le (by omega)]; exact hs
  have hlt := ltI_t h1
  obtain ⟨x, hx⟩ := at_some (l := L) (i := i + 1) (by omega)
  obtain ⟨xN, hxN, rfl⟩ : ∃ xN : Nat, xN = i + 1 ∧ x = xN := ⟨i + 1, rfl, hLat hx⟩
  have hmemS : ∀ z ∈ S, ∃ zN : Nat, z = zN ∧ zN ≤ i := fun z hz => by
    obtain ⟨t, ht⟩ := List.getElem?_of_mem (hp.mem_iff.1 hz)
    rw [List.getElem?_take] at ht
    split at ht
    · exact ⟨t, hLat ht, by omega⟩
    · cases ht
  rw [drop_at hx]
  have hm0 : S ++ (xN : Int) :: L.drop (i + 1 + 1) = mid S xN (i + 1) (L.drop (i + 1 + 1)) := by rw [← hS, mid_start]
  rw [hm0]
  conv => whnf
  refine loops_by (fun y : Nat × Nat => match y with
      | (j, fl) => ⟨53, [(0, .slice 0 e 0 (q + 1) 1), (1, .d (.int .i64 0)), (2, .d (.int .i64 (q + 1 : Nat))), (3, .func 109 [] [.ptr 1 0 0 5, .ptr 2 0 0 1]), (8, .d (.int .i64 (i + 1 : Nat))), (9, .d (.int .i64 j))], .unk, [.row (.ds (encI (mid S xN j (L.drop (i + 1 + 1))))) e fl [], .row (.ds (cupL nn rr bb P R)) 0 0 [], .row (.ds [.int .i64 s]) 0 0 []], []⟩)
    (fun y => y.1 ≤ i + 1 ∧ y.2 ≤ e ∧ ∀ (t : Nat) z, y.1 ≤ t → S[t]? = some z → bI sc xN z) (fun y => y.1) (i + 1, fl) ⟨Nat.le_refl _, hfl, fun t z ht hz => by have := lt_of_at hz; omega⟩ ?_
  rintro f2 ⟨j, fl2⟩ ⟨hj, hfl2, hge⟩ ih2
  simp only at hj hfl2 hge
  have hml : (mid S xN j (L.drop (i + 1 + 1))).length = L.length := by rw [mid_length (by omega)]; simp; omega
  have hpe := mid_perm S (xN : Int) j
  have fin : (∀ (t : Nat) y, t < j → S[t]? = some y → bI sc y xN) → (i + 1 ≤ q ∧ (mid S xN j []).length = i + 1 + 1 ∧ (mid S xN j []).Perm (L.take (i + 1 + 1)) ∧ (mid S xN j []).Pairwise (bI sc) ∧ fl2 ≤ e) := fun h =>
    ⟨by omega, by rw [mid_length (by omega)]; simp; omega, hpe.trans (by rw [take_snoc hx]; exact hp.append_right _), mid_sorted hs h hge, hfl2⟩
  conv => whnf
  cases h2 : ltI 0 (j : Int)
  · have h2 := ltI_f h2
    rw [mid_end]
    conv => whnf
    rw [wrap_succ (by omega)]
    exact ih (i + 1, mid S xN j [], fl2) (fin fun t y ht => by omega) (by simp only; omega)
  have h2 := ltI_t h2
  obtain ⟨k, rfl⟩ : ∃ k, j = k + 1 := ⟨j - 1, by omega⟩
  obtain ⟨y, hy⟩ := at_some (l := S) (i := k) (by omega)
  obtain ⟨yN, rfl, hyN⟩ := hmemS y (List.mem_of_getElem? hy)
  have gx : (mid S xN (k + 1) (L.drop (i + 1 + 1)))[k + 1]? = some (xN : Int) := mid_at (by omega)
  have gy : (mid S xN (k + 1) (L.drop (i + 1 + 1)))[k]? = some (yN : Int) := mid_before hy
  have hset : ((mid S xN (k + 1) (L.drop (i + 1 + 1))).set (k + 1) (yN : Int)).set k (xN : Int) = mid S xN k (L.drop (i + 1 + 1)) := mid_set hy
  have hye := mid_end S (L.drop (i + 1 + 1)) xN (k + 1)
  have bk := blt_t (i := k) (n := q + 1) (by omega)
  have bk1 := blt_t (i := k + 1) (n := q + 1) (by omega)
  have fin2 : sc yN < sc xN → ∀ (t : Nat) z, k ≤ t → S[t]? = some z → bI sc xN z := fun hxy t z ht hz => by
    by_cases htk : t = k
    · subst htk; rw [hy] at hz; cases hz; exact .inl (by rw [Int.toNat_natCast, Int.toNat_natCast]; exact hxy)
    · exact hge t z (by omega) hz
  have fin3 : sc xN ≤ sc yN → ∀ (t : Nat) z, t < k + 1 → S[t]? = some z → bI sc z xN := fun hyx t z ht hz => by
    obtain ⟨zN, rfl, hzN⟩ := hmemS z (List.mem_of_getElem? hz)
    have h0 : sc yN ≤ sc zN := by
      by_cases htk : t = k
      · subst htk; rw [hy] at hz; cases hz; exact Int.le_refl _
      · have := bI_at hs (show t < k by omega) hz hy
        unfold bI at this
        rw [Int.toNat_natCast, Int.toNat_natCast] at this
        omega
    unfold bI
    rw [Int.toNat_natCast, Int.toNat_natCast]
    omega
  generalize mid S xN (k + 1) (L.drop (i + 1 + 1)) = M at *
  conv => whnf
  rw [bk1]
  conv => whnf
  rw [ble_t (i := 0 + (k + 1) * 1 + 1) (Nat.le_refl _)]
  conv => whnf
  rw [may_fl hfl2]
  conv => whnf
  rw [encI_get0 gx]
  conv => whnf
  rw [wrap_i64 (n := ((k + 1 : Nat) : Int) - 1) (by omega) (by omega), show ((k + 1 : Nat) : Int) - 1 = (k : Int) by omega]
  conv => whnf
  rw [bk]
  conv => whnf
  rw [ble_t (i := 0 + k * 1 + 1) (Nat.le_refl _)]
  conv => whnf
  rw [may_fl hfl2]
  conv => whnf
  rw [encI_get0 gy]
  conv => whnf
  refine Sm.mono (X.cmp xN yN (by omega) (by omega)) ?_
  rintro v h ⟨rfl, rfl⟩
  conv => whnf
  rw [cmp_lt]
  cases h3 : ltI (sc yN) (sc xN)
  · have h3 := ltI_f h3
    rw [hye]
    conv => whnf
    rw [wrap_succ (by omega)]
    exact ih (i + 1, mid S xN (k + 1) [], fl2) (fin (fin3 h3)) (by simp only; omega)
  have h3 := ltI_t h3
  conv => whnf
  rw [wrap_i64 (n := ((k + 1 : Nat) : Int) - 1) (by omega) (by omega), show ((k + 1 : Nat) : Int) - 1 = (k : Int) by omega]
  conv => whnf
  rw [bk]
  conv => whnf
  rw [ble_t (i := 0 + k * 1 + 1) (Nat.le_refl _)]
  conv => whnf
  rw [may_fl hfl2]
  conv => whnf
  rw [encI_get0 gy]
  conv => whnf
  rw [bk1]
  conv => whnf
  rw [ble_t (i := 0 + (k + 1) * 1 + 1) (Nat.le_refl _)]
  conv => whnf
  rw [may_fl hfl2]
  conv => whnf
  rw [encI_get0 gx]
  conv => whnf
  rw [bk1]
  conv => whnf
  rw [ble_t (i := 0 + (k + 1) * 1 + 1) (Nat.le_refl _)]
  conv => whnf
  rw [show Nat.beq e e = true from Nat.beq_refl e]
  conv => whnf
  rw [may_fl hfl2]
  conv => whnf
  rw [ble_t (i := 0 + (k + 1) * 1 + [V.d (D.int .i64 yN)].length) (by simp only [List.length_cons, List.length_nil, Cells.len, encI_length]; omega)]
  conv => whnf
  rw [write_int (i := k + 1) (x := (yN : Int)) (by omega) (by omega)]
  conv => whnf
  rw [bk]
  conv => whnf
  rw [ble_t (i := 0 + k * 1 + 1) (Nat.le_refl _)]
  conv => whnf
  rw [show Nat.beq e e = true from Nat.beq_refl e]
  conv => whnf
  rw [may_fl (Nat.le_refl e)]
  conv => whnf
  rw [ble_t (i := 0 + k * 1 + [V.d (D.int .i64 xN)].length) (by simp only [List.length_cons, List.length_nil, Cells.len, encI_length, List.length_set]; omega)]
  conv => whnf
  rw [write_int (i := k) (x := (xN : Int)) (by rw [List.length_set]; omega) (by omega), hset]
  conv => whnf
  rw [wrap_i64 (n := ((k + 1 : Nat) : Int) - 1) (by omega) (by omega), show ((k + 1 : Nat) : Int) - 1 = (k : Int) by omega]
  exact ih2 (k, e) ⟨by simp only; omega, Nat.le_refl _, fin2 h3⟩ (by simp only; omega)
theorem stable_ok {nn rr bb : Int} {P : List Int} {R : List (List Int)} {n s : Nat} {sc : Nat → Int} (X : Cmp nn rr bb P R n s sc) (L : List Int) (hLn : L = (List.range n).map Int.ofNat) (e fl q : Nat) (hq : q + 1 = L.length) (hq2 : q + 1 < 20) (hfl : fl ≤ e) :
    Sm Tryz.prog E 164 [.slice 0 e 0 (q + 1) 1, .d (.int .i64 (q + 1 : Nat)), .func 109 [] [.ptr 1 0 0 5, .ptr 2 0 0 1]] [.row (.ds (encI L)) e fl [], .row (.ds (cupL nn rr bb P R)) 0 0 [], .row (.ds [.int .i64 s]) 0 0 []]
      (fun v h => v = .d (.tuple []) ∧ ∃ L' fl', fl' ≤ e ∧ h = [.row (.ds (encI L')) e fl' [], .row (.ds (cupL nn rr bb P R)) 0 0 [], .row (.ds [.int .i64 s]) 0 0 []] ∧ L'.length = L.length ∧ (L'.take (q + 1)).Perm (L.take (q + 1)) ∧ (L'.take (q + 1)).Pairwise (bI sc)) := by
  refine sm_of HE true (by kernel_rfl) ?_
  conv => whnf
  refine ⟨1, ?_⟩
  conv => whnf
  rw [show leI 20 ((q + 1 : Nat) : Int) = false by rw [leI_eq]; exact decide_eq_false (by omega)]
  conv => whnf
  refine Sm.mono (ssort_ok X L hLn e fl q (by omega) (by omega) hfl) ?_
  rintro v h ⟨rfl, L', fl', h1, rfl, h2, h3, h4⟩
  conv => whnf
  refine ⟨1, ?_⟩
  conv => whnf
  rw [show ltI 20 ((q + 1 : Nat) : Int) = false from ltI_ff (by omega)]
  conv => whnf
  exact ⟨rfl, L', fl', h1, rfl, h2, h3, h4⟩
theorem stable108 {nn rr bb : Int} {P : List Int} {R : List (List Int)} {n s : Nat} {sc : Nat → Int} (X : Cmp nn rr bb P R n s sc) (L : List Int) (hLn : L = (List.range n).map Int.ofNat) (e fl q : Nat) (hq : q + 1 = L.length) (hq2 : q + 1 < 20) (hfl : fl ≤ e) :
    Sm Tryz.prog E 108 [.slice 0 e 0 (q + 1) 1, .func 109 [] [.ptr 1 0 0 5, .ptr 2 0 0 1]] [.row (.ds (encI L)) e fl [], .row (.ds (cupL nn rr bb P R)) 0 0 [], .row (.ds [.int .i64 s]) 0 0 []]
      (fun v h => v = .d (.tuple []) ∧ ∃ L' fl', fl' ≤ e ∧ h = [.row (.ds (encI L')) e fl' [], .row (.ds (cupL nn rr bb P R)) 0 0 [], .row (.ds [.int .i64 s]) 0 0 []] ∧ L'.length = L.length ∧ (L'.take (q + 1)).Perm (L.take (q + 1)) ∧ (L'.take (q + 1)).Pairwise (bI sc)) := by
  refine sm_of HE true (by kernel_rfl) ?_
  conv => whnf
  refine Sm.mono (stable_ok X L hLn e fl q hq hq2 hfl) ?_
  rintro v h ⟨rfl, L', fl', h1, rfl, h2, h3, h4⟩
  conv => whnf
  exact ⟨rfl, L', fl', h1, rfl, h2, h3, h4⟩
end Go.Proofs.Cx
end
section
/-
  TopDecidedEarly: the races that count, by the program.
-/
namespace Go.Proofs.Cx
open Go Go.Ab Go.Proofs.Cw
set_option maxRecDepth 100000
set_option maxHeartbeats 40000000
theorem counted_eq {sc : Nat → Int} {n b m : Nat} {S A : List Int} (hS : S.Perm ((List.range n).map Int.ofNat)) (hSs : S.Pairwise (bI sc)) (hm : m = min n b) (hA : A.Perm (S.take m)) (hAs : A.Pairwise (· ≤ ·)) : A = (ctd sc n b).map Int.ofNat := by
  obtain ⟨SN, hSN⟩ : ∃ SN : List Nat, S = SN.map Int.ofNat := by
    refine ⟨S.map Int.toNat, ?_⟩
    rw [List.map_map]
    conv => lhs; rw [← List.map_id S]
    refine List.map_congr_left fun x hx => ?_
    obtain ⟨k, _, rfl⟩ := List.mem_map.1 (hS.mem_iff.1 hx)
    rfl
  subst hSN
  have hperm : SN.Perm (List.range n) := by
    have h2 := hS.map Int.toNat
    rw [List.map_map, List.map_map] at h2
    have e : (Int.toNat ∘ Int.ofNat) = (id : Nat → Nat) := rfl
    rw [e, List.map_id, List.map_id] at h2
    exact h2
  have hpw : SN.Pairwise fun a b => befB sc a b = true := by
    rw [List.pairwise_map] at hSs
    refine hSs.imp fun {a b} h => ?_
    rw [bef_iff]
    unfold bI at h
    simp only [Int.ofNat_eq_natCast, Int.toNat_natCast] at h
    omega
  have T := ctd_take (b := b) (⟨hperm, hpw⟩ : Srt sc n SN)
  have hlen : SN.length = n := by rw [hperm.length_eq]; simp
  have htk : SN.take b = SN.take m := by
    rw [hm]
    by_cases h : n ≤ b
    · rw [Nat.min_eq_left h, List.take_of_length_le (by omega), List.take_of_length_le (by omega)]
    · rw [Nat.min_eq_right (by omega)]
  rw [htk] at T
  have hA2 : A.Perm ((ctd sc n b).map Int.ofNat) := by
    rw [← List.map_take] at hA
    exact hA.trans (T.symm.map _)
  have hctd : ((ctd sc n b).map Int.ofNat).Pairwise (· < ·) := by
    unfold ctd
    rw [List.pairwise_map]
    refine ((List.pairwise_lt_range).filter _).imp fun {a b} h => ?_
    simp only [Int.ofNat_eq_natCast]
    omega
  have hnd : A.Nodup := by
    refine hA2.nodup_iff.2 ?_
    refine hctd.imp fun {a b} h => ?_
    intro he; omega
  have hlt : A.Pairwise (· < ·) := by
    have := List.pairwise_and_iff.2 ⟨hAs, hnd⟩
    refine this.imp fun {a b} h => ?_
    have := h.1
    have := h.2
    omega
  exact asc_eq hA2 hlt hctd
theorem progCounted {nn rr bb : Int} {P : List Int} {R : List (List Int)} {n : Nat} (O : Pt P) (hR : Rc n R) {s : Nat} (hs : s < n) (hbb : 1 ≤ bb ∧ bb ≤ 20) (hR1 : 1 ≤ R.length) (hR12 : R.length ≤ 12) :
    Rets Tryz.prog E 78 [.d (cupD nn rr bb P R), .d (.int .i64 s)] (.d (.slice (cL P bb.toNat R s).length 1 (encI (cL P bb.toNat R s)))) := by
  have X := cmp109 (nn := nn) (rr := rr) (bb := bb) O hR hs
  obtain ⟨b, rfl⟩ : ∃ b : Nat, bb = b := ⟨bb.toNat, by omega⟩
  rw [Int.toNat_natCast]
  have hcL : cL P b R s = (ctd (fun j => scr P (row R j) s) R.length b).map Int.ofNat := rfl
  generalize (fun j => scr P (row R j) s) = sc at *
  rw [hcL]
  obtain ⟨m, hm⟩ : ∃ m, R.length = m + 1 := ⟨R.length - 1, by omega⟩
  refine sm_of HE true (by kernel_rfl) ?_
  unfold cupD cupL
  conv => whnf
  refine loops_by (fun x : Nat => ⟨33, [(2, .ptr 0 0 0 5), (3, .ptr 1 0 0 1), (4, .d .nil), (5, slV 2 x), (10, .d (.int .i64 R.length)), (11, .d (.int .i64 x))], .unk, .row (.ds (cupL nn rr b P R)) 0 0 [] :: .row (.ds [.int .i64 s]) 0 0 [] :: rwO x ((List.range x).map Int.ofNat), []⟩)
    (fun x => x ≤ R.length) (fun x => R.length - x) 0 (Nat.zero_le _) ?_
  intro f i hi ih
  cases i with
  | zero =>
    conv => whnf
    rw [show ltI ((0 : Nat) : Int) (R.length : Int) = true from ltI_tt (by omega)]
    conv => whnf
    exact ih 1 (by omega) (by omega)
  | succ k =>
    have hlk : ((List.range (k + 1)).map Int.ofNat).length = k + 1 := by simp
    have hsn : (List.range (k + 1 + 1)).map Int.ofNat = (List.range (k + 1)).map Int.ofNat ++ [((k + 1 : Nat) : Int)] := by rw [List.range_succ, List.map_append]; rfl
    conv => whnf
    cases h1 : ltI ((k + 1 : Nat) : Int) (R.length : Int)
    · have := ltI_f h1
      have hkm : k = m := by omega
      subst hkm
      conv => whnf
      have st := stable108 X ((List.range (k + 1)).map Int.ofNat) (by rw [← hm]) k 0 k (by simp) (by omega) (Nat.zero_le _)
      refine Sm.mono st ?_
      rintro v h ⟨rfl, L1, fl1, hfl1, rfl, hl1, hp1, hs1⟩
      rw [hlk] at hl1
      rw [List.take_of_length_le (by omega), List.take_of_length_le (by omega)] at hp1
      rw [List.take_of_length_le (by omega)] at hs1
      obtain ⟨q, hq⟩ : ∃ q, min (k + 1) b = q + 1 := ⟨min (k + 1) b - 1, by omega⟩
      have hqm : minI ((k + 1 : Nat) : Int) (b : Int) = ((q + 1 : Nat) : Int) := by
        unfold minI
        cases c : ltI (b : Int) ((k + 1 : Nat) : Int)
        · have := ltI_f c
          simp only; omega
        · have := ltI_t c
          simp only; omega
      conv => whnf
      rw [hqm]
      conv => whnf
      rw [ble_t (i := q + 1) (n := k + 1) (by omega)]
      conv => whnf
      refine Sm.mono (sort_ok L1 k fl1 q (by omega) (by omega) (by omega) hfl1) ?_
      rintro v h ⟨rfl, L2, fl2, hfl2, rfl, hd2, hp2, hs2⟩
      have hL2 : L2.length = L1.length := by
        have h1 := congrArg List.length hd2
        have h2 := hp2.length_eq
        simp only [List.length_drop, List.length_take] at h1 h2
        omega
      have hA := counted_eq (n := R.length) (b := b) (m := q + 1) (by rw [hm]; exact hp1) hs1 (by rw [hm]; exact hq.symm) hp2 hs2
      have hAl : (L2.take (q + 1)).length = q + 1 := by simp; omega
      rw [← hA]
      conv => whnf
      rw [may_fl hfl2]
      conv => whnf
      rw [ble_t (i := 0 + 0 * 1 + (q + 1 - 0) * 1) (by rw [encI_length]; omega)]
      conv => whnf
      refine ⟨?_, rfl⟩
      have e1 : ((encI L2).drop (0 + 0 * 1)).take ((q + 1 - 0) * 1) = encI (L2.take (q + 1)) := by
        rw [show 0 + 0 * 1 = 0 from rfl, List.drop_zero, show (q + 1 - 0) * 1 = q + 1 by omega, encI_take]
      rw [e1, hAl]
      rfl
    · have h1 := ltI_t h1
      conv => whnf
      rw [ble_t (i := (k + 1 + 1) * 8) (n := 140737488355328) (by omega)]
      conv => whnf
      rw [may_all]
      conv => whnf
      rw [len_beq hlk, wrap_succ (by omega), List.take_of_length_le (by rw [encI_length]; omega)]
      have e1 : ∀ (l : List Int) (x : Int), encI l ++ [D.int .i64 x] = encI (l ++ [x]) := fun l x => (encI_snoc l x).symm
      rw [e1, ← hsn]
      exact ih (k + 1 + 1) (by omega) (by omega)
end Go.Proofs.Cx
end
