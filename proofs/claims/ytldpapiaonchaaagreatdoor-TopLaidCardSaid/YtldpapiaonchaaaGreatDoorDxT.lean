/-
  TopLaid: an assignment is returned.
-/
import Derived.Test.YtldpapiaonchaaaGreatDoorDxQ
section
namespace Go.Proofs.Dx
open Go Go.Ab Go.Proofs.Dw
set_option maxRecDepth 100000
set_option maxHeartbeats 40000000
def rowT (t : Tb) (s n : Nat) : List Int := (t.H.drop (s * 8)).take n
theorem rowT_length {t : Tb} (L : t.Ls) {s n : Nat} (hs : s < 8) (hn : n ≤ 8) : (rowT t s n).length = n := by
  unfold rowT
  rw [List.length_take, List.length_drop, L.h]; omega
theorem rowT_at {t : Tb} {s n l : Nat} (hl : l < n) : fn (rowT t s n) l = t.st.h s l := by
  unfold fn rowT
  rw [List.getElem?_take, if_pos hl, List.getElem?_drop]
  rfl
theorem rowT_rd {t : Tb} (L : t.Ls) {s n off : Nat} (hs : s < 8) (hn : n ≤ 8) (ho : off = s * 8) : rd t.e off n = some (encI (rowT t s n)) := by
  subst ho
  unfold rd
  rw [ble_t (by rw [Tb.e_length L]; omega)]
  unfold Tb.e rowT
  simp only
  rw [List.drop_append_of_le_length (by rw [encI_length, L.h]; omega), List.take_append_of_le_length (by rw [List.length_drop, encI_length, L.h]; omega), encI_drop, encI_take]
theorem clone23h (S N : List Int) (A ps : List (Int × Int)) {t : Tb} (L : t.Ls) {s k off : Nat} (hs : s < 8) (hk : k + 1 ≤ 8) (ho : off = 4 + s * 8) : Sm Tryz.prog E 23 [.slice 0 0 off (k + 1) 1] [dkA S N A 1 t, mpO ps] (fun v h => v = .d (.slice (rowT t s (k + 1)).length 1 (encI (rowT t s (k + 1)))) ∧ h = [dkA S N A 1 t, mpO ps]) := by
  have hel := Tb.e_length L
  have hrl := rowT_length L hs hk
  have hrd : ((t.e).drop (off - 4)).take ((k + 1) * 1) = encI (rowT t s (k + 1)) := by
    have := rowT_rd L (s := s) (n := k + 1) (off := off - 4) hs hk (by omega)
    unfold rd at this
    rw [ble_t (by omega)] at this
    rw [Nat.mul_one]
    injection this
  refine sm_of HE true (by kernel_rfl) ?_
  unfold dkA mpO
  conv => whnf
  rw [ble_t (i := [V.d (sl S), V.d (sl N), V.d (pl A), V.map 1].length) (n := off) (by show 4 ≤ off; omega)]
  conv => whnf
  rw [ble_t (i := off - [V.d (sl S), V.d (sl N), V.d (pl A), V.map 1].length + (k + 1) * 1) (by show off - 4 + (k + 1) * 1 ≤ t.e.length; omega)]
  conv => whnf
  rw [ble_t (i := (k + 1) * 8) (n := 140737488355328) (by omega)]
  conv => whnf
  rw [show off - [V.d (sl S), V.d (sl N), V.d (pl A), V.map 1].length = off - 4 from rfl, hrd, ofV_map]
  have hel2 : (encI (rowT t s (k + 1))).length = (k + 1) * 1 := by rw [encI_length, hrl]; omega
  conv => whnf
  rw [ble_t (i := 0 + (k + 1) * 1) (n := (encI (rowT t s (k + 1))).length) (by omega)]
  conv => whnf
  refine ⟨?_, rfl⟩
  rw [row_all hel2, hrl]
theorem clone23n (S N : List Int) (A ps : List (Int × Int)) {t : Tb} (L : t.Ls) {s n off : Nat} (hs : s < 8) (hn : 0 < n ∧ n ≤ 8) (ho : off = 4 + s * 8) : Sm Tryz.prog E 23 [.slice 0 0 off n 1] [dkA S N A 1 t, mpO ps] (fun v h => v = .d (.slice (rowT t s n).length 1 (encI (rowT t s n))) ∧ h = [dkA S N A 1 t, mpO ps]) := by
  obtain ⟨k, rfl⟩ : ∃ k, n = k + 1 := ⟨n - 1, by omega⟩
  exact clone23h S N A ps L hs hn.2 ho
theorem Assign7 {S N : List Int} {A : List (Int × Int)} (O : OkT S N A) : Sm Tryz.prog E 7 [.d (boD S N A)] [] (fun v h => h = [] ∧ ((v = .d (.tuple [.nil, .int .i64 7]) ∧ ¬ Ex1 S N A) ∨
    (∃ R : List (List Int), v = .d (.tuple [.slice R.length 1 (encLL R), .int .i64 0]) ∧ R.length = S.length ∧ (∀ r ∈ R, r.length = S.length) ∧ ∃ t : Tb, (∀ q, q < S.length → R[q]? = some (rowT t q S.length)) ∧ Asg S.length (fn S) (fn N) (cP (mayL S.length A)) t.st.h))) := by
  have hso := solved22 O
  have h6 := O.h6
  have hN := O.ok.hN
  have h1 := O.ok.h1
  refine sm_of HE true (by kernel_rfl) ?_
  unfold boD boL at hso ⊢
  conv => whnf
  refine Sm.mono hso ?_
  rintro v h ⟨t, rfl, L, ⟨rfl, As⟩ | ⟨rfl, hne⟩⟩
  rotate_left
  · unfold hdA dkA mpO
    conv => whnf
    exact ⟨rfl, .inl ⟨rfl, hne⟩⟩
  obtain ⟨m, hm⟩ : ∃ m, S.length = m + 1 := ⟨S.length - 1, by omega⟩
  unfold hdA dkA mpO
  conv => whnf
  refine loops_by (fun x : Nat × List (List Int) => match x with | (i, R) => ⟨43, [(2, .d .nil), (3, .d (.int .i64 0)), (4, .ptr 0 0 0 92), (6, slL 2 i), (21, .d (.int .i64 S.length)), (22, .d (.int .i64 i))], .unk, [dkA S N A 1 t, mpO (mayL S.length A)] ++ rwL i R, []⟩)
    (fun x => x.1 ≤ S.length ∧ x.2.length = x.1 ∧ ∀ q, q < x.1 → x.2[q]? = some (rowT t q S.length)) (fun x => S.length - x.1) (0, []) ⟨Nat.zero_le _, rfl, fun q h => absurd h (by simp)⟩ ?_
  rintro f ⟨i, R⟩ ⟨hi, hR, hq⟩ ih
  simp only at hi hR hq
  by_cases hiS : i < S.length
  rotate_left
  · obtain rfl : i = S.length := by omega
    have hrows : ∀ r ∈ R, r.length = S.length := fun r hr => by
      obtain ⟨q, hq2⟩ := List.getElem?_of_mem hr
      have hqS : q < S.length := by have := lt_of_at hq2; omega
      rw [hq q hqS] at hq2
      cases hq2
      exact rowT_length L (by omega) (by omega)
    have hel : (encLL R).length = (m + 1) * 1 := by rw [encLL_length]; omega
    have h1 := ltI_ff (a := (S.length : Int)) (b := (S.length : Int)) (Int.le_refl _)
    unfold dkA mpO
    rw [hm] at h1 ⊢
    conv => whnf
    rw [h1]
    conv => whnf
    rw [may_all]
    conv => whnf
    rw [ble_t (i := 0 + (m + 1) * 1) (n := (encLL R).length) (by omega)]
    conv => whnf
    refine ⟨rfl, .inr ⟨R, ?_, by omega, by rw [← hm]; exact hrows, t, by rw [← hm]; exact hq, by rw [← hm]; exact As⟩⟩
    rw [row_all hel, show R.length = m + 1 by omega]
  have hcl := clone23n S N A (mayL S.length A) L (s := i) (n := N.length) (off := 0 + 4 + i * 8 + 0 * 1) (by omega) (by omega) (by omega)
  have hnx : ∀ q, q < i + 1 → (R ++ [rowT t i N.length])[q]? = some (rowT t q S.length) := fun q hq2 => by
    by_cases hqi : q = i
    · subst hqi
      rw [List.getElem?_append_right (by omega), hR, Nat.sub_self, hN]; rfl
    · rw [List.getElem?_append_left (by omega)]
      exact hq q (by omega)
  obtain ⟨r, hr⟩ : ∃ r, r = rowT t i N.length := ⟨_, rfl⟩
  rw [← hr] at hcl hnx
  unfold dkA mpO at hcl
  have hl1 := ltI_tt (a := (i : Int)) (b := S.length) (by omega)
  cases i with
  | zero =>
    obtain rfl : R = [] := List.eq_nil_of_length_eq_zero hR
    unfold dkA mpO
    conv => whnf
    rw [hl1]
    conv => whnf
    rw [ble_t (i := N.length) (n := 8) (by omega)]
    conv => whnf
    refine Sm.mono hcl ?_
    rintro v h ⟨rfl, rfl⟩
    conv => whnf
    rw [wrap_succ (by omega)]
    exact ih (1, [r]) ⟨by simp only; omega, rfl, fun q h => hnx q h⟩ (by simp only; omega)
  | succ k =>
    unfold dkA mpO
    conv => whnf
    rw [hl1]
    conv => whnf
    rw [blt_t (i := k + 1) (n := 8) (by omega)]
    conv => whnf
    rw [ble_t (i := 0 + 4 + (k + 1) * 8 + 8 * 1) (n := 92) (by omega)]
    conv => whnf
    rw [ble_t (i := N.length) (n := 8) (by omega)]
    conv => whnf
    refine Sm.mono hcl ?_
    rintro v h ⟨rfl, rfl⟩
    conv => whnf
    rw [ble_t (i := (k + 1 + 1) * 24) (n := 140737488355328) (by omega)]
    conv => whnf
    rw [may_all]
    conv => whnf
    rw [len_beqL hR, wrap_succ (by omega), List.take_of_length_le (by rw [encLL_length, hR]; omega)]
    have e1 : ∀ (l : List (List Int)) (x : List Int), encLL l ++ [D.slice x.length 1 (encI x)] = encLL (l ++ [x]) := fun l x => (encLL_snoc l x).symm
    rw [e1]
    exact ih (k + 1 + 1, R ++ [r]) ⟨by simp only; omega, by simp only; rw [List.length_append, hR]; rfl, fun q h => hnx q h⟩ (by simp only; omega)
end Go.Proofs.Dx
end
section
/-
  TopLaid: pairs that must be crossed.
-/
namespace Go.Proofs.Dx
open Go Go.Ab Go.Proofs.Dw
set_option maxRecDepth 100000
set_option maxHeartbeats 40000000
def slP (b : Nat) (k : Nat) : V := match k with | 0 => .d .nil | k + 1 => .slice b k 0 (k + 1) 2
def rwP (k : Nat) (acc : List (Int × Int)) : List O := match k with | 0 => [] | k + 1 => [.row (.ds (encP acc)) k 0 []]
def psV (C : List (Int × Int)) : D := match C with | [] => .nil | a :: r => .slice (r.length + 1) 2 (encP (a :: r))
def Crs (S N : List Int) (A : List (Int × Int)) (p : Int × Int) : Prop := p ∈ A ∧ ∃ (a b : Nat) (lo hi : Int), p = ((a : Int), (b : Int)) ∧ a < S.length ∧ b < S.length ∧ SpanP S N (mayL S.length A) a b lo hi ∧ 0 < lo
theorem Crossed13 {S N : List Int} {A : List (Int × Int)} (O : OkT S N A) (he : Ex1 S N A) : Sm Tryz.prog E 13 [.d (boD S N A)] [] (fun v h => h = [] ∧ ∃ C, v = .d (.tuple [psV C, .int .i64 0]) ∧ C.length ≤ A.length ∧ ∀ p ∈ C, Crs S N A p) := by
  have hso := solved22 O
  have h6 := O.h6
  have hN := O.ok.hN
  have h1 := O.ok.h1
  have hA := O.hA
  refine sm_of HE true (by kernel_rfl) ?_
  unfold boD boL at hso ⊢
  conv => whnf
  refine Sm.mono hso ?_
  rintro v h ⟨t, rfl, L, ⟨rfl, As⟩ | ⟨rfl, hne⟩⟩
  rotate_left
  · exact absurd he hne
  unfold hdA dkA mpO
  conv => whnf
  refine loops_by (fun x : Nat × Nat × List (Int × Int) => match x with | (i, k, C) => ⟨41, [(2, .d .nil), (3, .d (.int .i64 0)), (4, .ptr 0 0 0 92), (6, slP 2 k), (21, .d (pl A)), (22, .d (.int .i64 A.length)), (23, .d (.int .i64 i))], .unk, [dkA S N A 1 t, mpO (mayL S.length A)] ++ rwP k C, []⟩)
    (fun x => x.1 ≤ A.length ∧ x.2.2.length = x.2.1 ∧ x.2.1 ≤ x.1 ∧ ∀ p ∈ x.2.2, Crs S N A p) (fun x => A.length - x.1) (0, 0, []) ⟨Nat.zero_le _, rfl, Nat.le_refl _, fun p h => by simp at h⟩ ?_
  rintro f ⟨i, k, C⟩ ⟨hi, hC, hk, hP⟩ ih
  simp only at hi hC hk hP
  by_cases hiA : i < A.length
  rotate_left
  · obtain rfl : i = A.length := by omega
    have h1 := ltI_ff (a := (A.length : Int)) (b := (A.length : Int)) (Int.le_refl _)
    cases k with
    | zero =>
      obtain rfl : C = [] := List.eq_nil_of_length_eq_zero hC
      unfold dkA mpO pl
      conv => whnf
      rw [h1]
      conv => whnf
      exact ⟨rfl, [], rfl, Nat.zero_le _, hP⟩
    | succ k =>
      have hel : (encP C).length = (k + 1) * 2 := by rw [encP_length, hC]
      unfold dkA mpO pl
      conv => whnf
      rw [h1]
      conv => whnf
      rw [may_all]
      conv => whnf
      rw [ble_t (i := 0 + (k + 1) * 2) (n := (encP C).length) (by omega)]
      conv => whnf
      refine ⟨rfl, C, ?_, by omega, hP⟩
      rw [row_all hel]
      cases C with
      | nil => simp at hC
      | cons a r =>
        simp only [List.length_cons, Nat.add_right_cancel_iff] at hC
        subst hC
        rfl
  obtain ⟨p, hp⟩ := at_some (l := A) (i := i) hiA
  have hpm := List.mem_of_getElem? hp
  have hpa := O.ok.a p hpm
  obtain ⟨a, ha⟩ : ∃ a : Nat, p.1 = a := ⟨p.1.toNat, by omega⟩
  obtain ⟨b, hb⟩ : ∃ b : Nat, p.2 = b := ⟨p.2.toNat, by omega⟩
  have hpe : p = ((a : Int), (b : Int)) := Prod.ext ha hb
  have hsp := span34 O.bo t (s := a) (l := b) (by omega) (by omega) he
  rw [← ha, ← hb] at hsp
  unfold hdA dkA mpO at hsp
  have hl1 := ltI_tt (a := (i : Int)) (b := A.length) (by omega)
  cases k with
  | zero =>
    unfold dkA mpO pl
    conv => whnf
    rw [hl1]
    conv => whnf
    rw [blt_t (i := i) (n := A.length) hiA]
    conv => whnf
    rw [ble_t (i := i * 2 + 2) (n := (encP A).length) (by rw [encP_length]; omega)]
    conv => whnf
    rw [encP_at hp]
    conv => whnf
    refine Sm.mono hsp ?_
    rintro v h ⟨⟨lo, hi, rfl, P⟩, rfl⟩
    conv => whnf
    cases g : ltI 0 lo
    case false =>
      conv => whnf
      rw [wrap_succ (by omega)]
      exact ih (i + 1, 0, C) ⟨by simp only; omega, hC, by simp only; omega, hP⟩ (by simp only; omega)
    have g := ltI_t g
    have hcr : Crs S N A p := ⟨hpm, a, b, lo, hi, hpe, by omega, by omega, P, g⟩
    conv => whnf
    obtain rfl : C = [] := List.eq_nil_of_length_eq_zero hC
    rw [wrap_succ (by omega)]
    exact ih (i + 1, 1, [p]) ⟨by simp only; omega, rfl, by simp only; omega, fun r hr => by simp at hr; subst hr; exact hcr⟩ (by simp only; omega)
  | succ k =>
    unfold dkA mpO pl
    conv => whnf
    rw [hl1]
    conv => whnf
    rw [blt_t (i := i) (n := A.length) hiA]
    conv => whnf
    rw [ble_t (i := i * 2 + 2) (n := (encP A).length) (by rw [encP_length]; omega)]
    conv => whnf
    rw [encP_at hp]
    conv => whnf
    refine Sm.mono hsp ?_
    rintro v h ⟨⟨lo, hi, rfl, P⟩, rfl⟩
    conv => whnf
    cases g : ltI 0 lo
    case false =>
      conv => whnf
      rw [wrap_succ (by omega)]
      exact ih (i + 1, k + 1, C) ⟨by simp only; omega, hC, by simp only; omega, hP⟩ (by simp only; omega)
    have g := ltI_t g
    have hcr : Crs S N A p := ⟨hpm, a, b, lo, hi, hpe, by omega, by omega, P, g⟩
    conv => whnf
    rw [ble_t (i := (k + 1 + 1) * 16) (n := 140737488355328) (by omega)]
    conv => whnf
    rw [may_all]
    conv => whnf
    rw [show Nat.beq ((k + 1) * 2) (Cells.ds (encP C)).len = true from by simp only [Cells.len, encP_length, hC]; exact Nat.beq_refl _]
    rw [wrap_succ (by omega), List.take_of_length_le (by rw [encP_length, hC]; omega)]
    have e1 : encP C ++ [D.int .i64 p.1, D.int .i64 p.2] = encP (C ++ [p]) := by rw [encP_append]; rfl
    rw [e1]
    exact ih (i + 1, k + 1 + 1, C ++ [p]) ⟨by simp only; omega, by simp only; rw [List.length_append, hC]; rfl, by simp only; omega, fun r hr => by
      rw [List.mem_append, List.mem_singleton] at hr
      rcases hr with hr | rfl
      · exact hP r hr
      · exact hcr⟩ (by simp only; omega)
end Go.Proofs.Dx
end
