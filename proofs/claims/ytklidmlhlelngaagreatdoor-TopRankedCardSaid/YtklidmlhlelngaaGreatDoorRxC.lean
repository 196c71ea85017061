/-
  TopRanked: orders grow.
-/
import Derived.Test.YtklidmlhlelngaaGreatDoorRxB
import Derived.Test.YtklidmlhlelngaaGreatDoorRwL
namespace Go.Proofs.Rx
open Go Go.Ab Go.Proofs.Rw
set_option maxRecDepth 100000
set_option maxHeartbeats 8000000
def encO (o : Ord) : List D := (List.range 64).map fun i => .bool (o (i / 8) (i % 8))
theorem encO_length (o : Ord) : (encO o).length = 64 := by simp [encO]
theorem encO_get (o : Ord) {a b : Nat} (ha : a < 8) (hb : b < 8) : (encO o)[a * 8 + b * 1]? = some (.bool (o a b)) := by
  unfold encO
  rw [List.getElem?_map, List.getElem?_range (by omega)]
  simp only [Option.map_some, Option.some.injEq, D.bool.injEq]
  rw [show (a * 8 + b * 1) / 8 = a by omega, show (a * 8 + b * 1) % 8 = b by omega]
def outL (o : Ord) (f s n : Nat) : List D := (List.range 64).map fun i => .bool (if i < n then wth o f s (i / 8) (i % 8) else o (i / 8) (i % 8))
theorem outL_length (o : Ord) (f s n : Nat) : (outL o f s n).length = 64 := by simp [outL]
theorem outL_zero (o : Ord) (f s : Nat) : outL o f s 0 = encO o := by unfold outL encO; simp
theorem outL_all (o : Ord) (f s : Nat) : outL o f s 64 = encO (wth o f s) := by
  unfold outL encO
  apply List.map_congr_left
  intro i hi
  rw [if_pos (by simpa using hi)]
theorem outL_get (o : Ord) (f s n i : Nat) : (outL o f s n)[i]? = if i < 64 then some (.bool (if i < n then wth o f s (i / 8) (i % 8) else o (i / 8) (i % 8))) else none := by
  unfold outL
  rw [List.getElem?_map]
  split
  · rw [List.getElem?_range ‹_›]; rfl
  · rw [List.getElem?_eq_none (by simp; omega)]; rfl
theorem outL_keep (o : Ord) {f s a b : Nat} (_ : a < 8) (hb : b < 8) (h : wth o f s a b = o a b) : outL o f s (a * 8 + b) = outL o f s (a * 8 + b + 1) := by
  apply List.ext_getElem?
  intro i
  rw [outL_get, outL_get]
  split
  · by_cases hi : i = a * 8 + b
    · subst hi
      rw [if_neg (by omega), if_pos (by omega), show (a * 8 + b) / 8 = a by omega, show (a * 8 + b) % 8 = b by omega, h]
    · by_cases h2 : i < a * 8 + b
      · rw [if_pos h2, if_pos (by omega)]
      · rw [if_neg h2, if_neg (by omega)]
  · rfl
theorem outL_set (o : Ord) {f s a b : Nat} (ha : a < 8) (hb : b < 8) (h : wth o f s a b = true) : wr (outL o f s (a * 8 + b)) (a * 8 + b * 1) [.bool true] = outL o f s (a * 8 + b + 1) := by
  apply List.ext_getElem?
  intro i
  rw [wr_getElem? _ _ _ _ (by rw [outL_length]; simp; omega), outL_get, outL_get]
  simp only [List.length_cons, List.length_nil]
  by_cases hi : i = a * 8 + b
  · subst hi
    rw [if_pos (by omega), if_pos (by omega), if_pos (by omega), show (a * 8 + b) / 8 = a by omega, show (a * 8 + b) % 8 = b by omega, h]
    rw [show a * 8 + b - (a * 8 + b * 1) = 0 by omega]; rfl
  · rw [if_neg (by omega)]
    split
    · by_cases h2 : i < a * 8 + b
      · rw [if_pos h2, if_pos (by omega)]
      · rw [if_neg h2, if_neg (by omega)]
    · rfl
theorem eqI_beq (a b : Nat) : eqI (a : Int) (b : Int) = (a == b) := by
  rw [eqI_eq]
  by_cases h : a = b
  · subst h; simp
  · have : ¬ ((a : Int) = b) := by omega
    simp [h, this]
theorem fL_rec (F : List D) (K : List D → Prop) : List.rec (motive := fun _ => (List D → Prop) → Prop) (fun K => K []) (fun x _ ih K => ih fun l => K (x :: l)) F K = K F := fL_eq F K
theorem wr_all : ∀ {l m : List D}, l.length = m.length → wr l 0 m = m
  | [], [], _ => rfl
  | _ :: l, x :: m, h => by
    show x :: wr l 0 m = _
    rw [wr_all (by simpa using h)]
  | [], _ :: _, h => by simp at h
  | _ :: _, [], h => by simp at h
theorem write_all {Z F : List D} (hz : Z.length = F.length) : (Cells.ds Z).write 0 (F.map V.d) = some (.ds F) := by
  unfold Cells.write
  simp only [Cells.len, List.length_map]
  rw [show Nat.ble (0 + F.length) Z.length = true from Nat.ble_eq_true_of_le (by omega), allD_map]
  simp only
  rw [wr_all hz]
theorem with_ok (o : Ord) {f s : Nat} (hf : f < 8) (hs : s < 8) {F G : List D} (hF : F = encO o) (hG : G = encO (wth o f s)) : Rets Tryz.prog E 36 [.d (.agg F), .d (.int .i64 f), .d (.int .i64 s)] (.d (.agg G)) := by
  have hl : F.length = 64 := by rw [hF, encO_length]
  refine sm_of HE true (by kernel_rfl) ?_
  conv => whnf
  rw [show (List.map V.d F).length = 64 by rw [List.length_map, hl], ofV_map]
  conv => whnf
  rw [hl]
  conv => whnf
  rw [row_all hl]
  conv => whnf
  rw [fL_rec]
  have hm : (List.map V.d F).length = 64 := by rw [List.length_map, hl]
  conv => whnf
  rw [hm]
  conv => whnf
  rw [write_all]
  rotate_left
  · rw [hl]; rfl
  conv => whnf
  refine loops_by (fun x : Nat × List D => match x with
      | (a, L) => ⟨46, [(1, .d (.int .i64 f)), (2, .d (.int .i64 s)), (3, .ptr 0 0 0 64), (6, .ptr 1 0 0 64), (7, .ptr 2 0 0 64), (11, .d (.int .i64 a))], .unk,
        [.row (.ds F) 0 0 [], .row (.ds (List.replicate 64 (.bool false))) 0 0 [], .row (.ds L) 0 0 []], []⟩)
    (fun x => x.1 ≤ 8 ∧ x.2 = outL o f s (x.1 * 8)) (fun x => 8 - x.1) (0, F) ⟨Nat.zero_le _, hF.trans (outL_zero o f s).symm⟩ ?_
  rintro n ⟨a, L⟩ ⟨ha, hL⟩ ih
  simp only at ha hL
  have hLl : L.length = 64 := by rw [hL, outL_length]
  conv => whnf
  cases h1 : ltI (a : Int) 8
  · have h8 : a = 8 := by rw [ltI_eq] at h1; have := of_decide_eq_false h1; omega
    subst h8
    have hLG : L = G := by rw [hL, hG]; exact outL_all o f s
    conv => whnf
    rw [hLl]
    conv => whnf
    rw [row_all hLl]
    conv => whnf
    rw [fL_rec]
    conv => whnf
    rw [show (List.map V.d L).length = 64 by rw [List.length_map, hLl]]
    conv => whnf
    rw [write_all]
    rotate_left
    · rw [hLl]; rfl
    conv => whnf
    rw [hLl]
    conv => whnf
    rw [row_all hLl]
    conv => whnf
    rw [fL_rec]
    conv => whnf
    exact ⟨by rw [hLG], rfl⟩
  have h8 : a < 8 := by rw [ltI_eq] at h1; have := of_decide_eq_true h1; omega
  conv => whnf
  refine loops_by (fun x : Nat × List D => match x with
      | (b, L) => ⟨46, [(1, .d (.int .i64 f)), (2, .d (.int .i64 s)), (3, .ptr 0 0 0 64), (6, .ptr 1 0 0 64), (7, .ptr 2 0 0 64), (8, .d (.int .i64 a)), (11, .d (.int .i64 a)), (14, .d (.int .i64 b))], .unk,
        [.row (.ds F) 0 0 [], .row (.ds (List.replicate 64 (.bool false))) 0 0 [], .row (.ds L) 0 0 []], []⟩)
    (fun x => x.1 ≤ 8 ∧ x.2 = outL o f s (a * 8 + x.1)) (fun x => 8 - x.1) (0, L) ⟨Nat.zero_le _, hL⟩ ?_
  clear hL hLl
  rintro n ⟨b, L'⟩ ⟨hb, hL⟩ ih2
  simp only at hb hL
  have hLl : L'.length = 64 := by rw [hL, outL_length]
  conv => whnf
  cases h2 : ltI (b : Int) 8
  · have hb8 : b = 8 := by rw [ltI_eq] at h2; have := of_decide_eq_false h2; omega
    subst hb8
    conv => whnf
    rw [wrap_succ (by omega)]
    exact ih (a + 1, L') ⟨by simp only; omega, by simp only; rw [hL, show a * 8 + 8 = (a + 1) * 8 by omega]⟩ (by simp only; omega)
  have hb8 : b < 8 := by rw [ltI_eq] at h2; have := of_decide_eq_true h2; omega
  have ba : Nat.blt a 8 = true := by simpa [Nat.blt_eq] using h8
  have bb : Nat.blt b 8 = true := by simpa [Nat.blt_eq] using hb8
  have bf : Nat.blt f 8 = true := by simpa [Nat.blt_eq] using hf
  have bs : Nat.blt s 8 = true := by simpa [Nat.blt_eq] using hs
  have gaf : F[0 + a * 8 + f * 1]? = some (.bool (o a f)) := by rw [hF, Nat.zero_add]; exact encO_get o h8 hf
  have gsb : F[0 + s * 8 + b * 1]? = some (.bool (o s b)) := by rw [hF, Nat.zero_add]; exact encO_get o hs hb8
  have hw : wth o f s a b = (o a b || ((a == f || o a f) && (b == s || o s b))) := rfl
  rw [← eqI_beq, ← eqI_beq] at hw
  conv => whnf
  cases q1 : eqI (a : Int) (f : Int)
  · conv => whnf
    rw [ba]
    conv => whnf
    rw [bf]
    conv => whnf
    rw [show Nat.ble (0 + a * 8 + f * 1 + 1) 64 = true from Nat.ble_eq_true_of_le (by omega)]
    conv => whnf
    rw [gaf]
    cases q4 : o a f
    · conv => whnf
      rw [wrap_succ (by omega)]
      exact ih2 (b + 1, L') ⟨by simp only; omega, by simp only; rw [hL, outL_keep o h8 hb8 (by rw [hw, q1, q4]; cases o a b <;> rfl)]; rfl⟩ (by simp only; omega)
    · conv => whnf
      cases q2 : eqI (b : Int) (s : Int)
      · conv => whnf
        rw [bs]
        conv => whnf
        rw [bb]
        conv => whnf
        rw [show Nat.ble (0 + s * 8 + b * 1 + 1) 64 = true from Nat.ble_eq_true_of_le (by omega)]
        conv => whnf
        rw [gsb]
        cases q3 : o s b
        · conv => whnf
          rw [wrap_succ (by omega)]
          exact ih2 (b + 1, L') ⟨by simp only; omega, by simp only; rw [hL, outL_keep o h8 hb8 (by rw [hw, q1, q4, q2, q3]; cases o a b <;> rfl)]; rfl⟩ (by simp only; omega)
        · obtain ⟨L2, hL2⟩ : ∃ L2, L2 = outL o f s (a * 8 + b + 1) := ⟨_, rfl⟩
          have hwr : (Cells.ds L').write (0 + a * 8 + b * 1) [V.d (absC (Value.bool true))] = some (.ds L2) := by
            unfold Cells.write
            rw [show Nat.ble (0 + a * 8 + b * 1 + [V.d (absC (Value.bool true))].length) (Cells.ds L').len = true from Nat.ble_eq_true_of_le (by simp only [List.length_cons, List.length_nil, Cells.len]; omega)]
            simp only [allD, absC, absS]
            rw [Nat.zero_add, hL, outL_set o h8 hb8 (by rw [hw, q1, q4, q2, q3]; cases o a b <;> rfl), hL2]
          conv => whnf
          rw [ba]
          conv => whnf
          rw [bb]
          conv => whnf
          rw [show Nat.ble (0 + a * 8 + b * 1 + 1) 64 = true from Nat.ble_eq_true_of_le (by omega)]
          conv => whnf
          rw [show Nat.ble (0 + a * 8 + b * 1 + [V.d (absC (Value.bool true))].length) (Cells.ds L').len = true from Nat.ble_eq_true_of_le (by simp only [List.length_cons, List.length_nil, Cells.len]; omega)]
          conv => whnf
          rw [hwr]
          conv => whnf
          rw [wrap_succ (by omega)]
          exact ih2 (b + 1, L2) ⟨by simp only; omega, hL2⟩ (by simp only; omega)
      · obtain ⟨L2, hL2⟩ : ∃ L2, L2 = outL o f s (a * 8 + b + 1) := ⟨_, rfl⟩
        have hwr : (Cells.ds L').write (0 + a * 8 + b * 1) [V.d (absC (Value.bool true))] = some (.ds L2) := by
          unfold Cells.write
          rw [show Nat.ble (0 + a * 8 + b * 1 + [V.d (absC (Value.bool true))].length) (Cells.ds L').len = true from Nat.ble_eq_true_of_le (by simp only [List.length_cons, List.length_nil, Cells.len]; omega)]
          simp only [allD, absC, absS]
          rw [Nat.zero_add, hL, outL_set o h8 hb8 (by rw [hw, q1, q4, q2]; cases o a b <;> rfl), hL2]
        conv => whnf
        rw [ba]
        conv => whnf
        rw [bb]
        conv => whnf
        rw [show Nat.ble (0 + a * 8 + b * 1 + 1) 64 = true from Nat.ble_eq_true_of_le (by omega)]
        conv => whnf
        rw [show Nat.ble (0 + a * 8 + b * 1 + [V.d (absC (Value.bool true))].length) (Cells.ds L').len = true from Nat.ble_eq_true_of_le (by simp only [List.length_cons, List.length_nil, Cells.len]; omega)]
        conv => whnf
        rw [hwr]
        conv => whnf
        rw [wrap_succ (by omega)]
        exact ih2 (b + 1, L2) ⟨by simp only; omega, hL2⟩ (by simp only; omega)
  · conv => whnf
    cases q2 : eqI (b : Int) (s : Int)
    · conv => whnf
      rw [bs]
      conv => whnf
      rw [bb]
      conv => whnf
      rw [show Nat.ble (0 + s * 8 + b * 1 + 1) 64 = true from Nat.ble_eq_true_of_le (by omega)]
      conv => whnf
      rw [gsb]
      cases q3 : o s b
      · conv => whnf
        rw [wrap_succ (by omega)]
        exact ih2 (b + 1, L') ⟨by simp only; omega, by simp only; rw [hL, outL_keep o h8 hb8 (by rw [hw, q1, q2, q3]; cases o a b <;> rfl)]; rfl⟩ (by simp only; omega)
      · obtain ⟨L2, hL2⟩ : ∃ L2, L2 = outL o f s (a * 8 + b + 1) := ⟨_, rfl⟩
        have hwr : (Cells.ds L').write (0 + a * 8 + b * 1) [V.d (absC (Value.bool true))] = some (.ds L2) := by
          unfold Cells.write
          rw [show Nat.ble (0 + a * 8 + b * 1 + [V.d (absC (Value.bool true))].length) (Cells.ds L').len = true from Nat.ble_eq_true_of_le (by simp only [List.length_cons, List.length_nil, Cells.len]; omega)]
          simp only [allD, absC, absS]
          rw [Nat.zero_add, hL, outL_set o h8 hb8 (by rw [hw, q1, q2, q3]; cases o a b <;> rfl), hL2]
        conv => whnf
        rw [ba]
        conv => whnf
        rw [bb]
        conv => whnf
        rw [show Nat.ble (0 + a * 8 + b * 1 + 1) 64 = true from Nat.ble_eq_true_of_le (by omega)]
        conv => whnf
        rw [show Nat.ble (0 + a * 8 + b * 1 + [V.d (absC (Value.bool true))].length) (Cells.ds L').len = true from Nat.ble_eq_true_of_le (by simp only [List.length_cons, List.length_nil, Cells.len]; omega)]
        conv => whnf
        rw [hwr]
        conv => whnf
        rw [wrap_succ (by omega)]
        exact ih2 (b + 1, L2) ⟨by simp only; omega, hL2⟩ (by simp only; omega)
    · obtain ⟨L2, hL2⟩ : ∃ L2, L2 = outL o f s (a * 8 + b + 1) := ⟨_, rfl⟩
      have hwr : (Cells.ds L').write (0 + a * 8 + b * 1) [V.d (absC (Value.bool true))] = some (.ds L2) := by
        unfold Cells.write
        rw [show Nat.ble (0 + a * 8 + b * 1 + [V.d (absC (Value.bool true))].length) (Cells.ds L').len = true from Nat.ble_eq_true_of_le (by simp only [List.length_cons, List.length_nil, Cells.len]; omega)]
        simp only [allD, absC, absS]
        rw [Nat.zero_add, hL, outL_set o h8 hb8 (by rw [hw, q1, q2]; cases o a b <;> rfl), hL2]
      conv => whnf
      rw [ba]
      conv => whnf
      rw [bb]
      conv => whnf
      rw [show Nat.ble (0 + a * 8 + b * 1 + 1) 64 = true from Nat.ble_eq_true_of_le (by omega)]
      conv => whnf
      rw [show Nat.ble (0 + a * 8 + b * 1 + [V.d (absC (Value.bool true))].length) (Cells.ds L').len = true from Nat.ble_eq_true_of_le (by simp only [List.length_cons, List.length_nil, Cells.len]; omega)]
      conv => whnf
      rw [hwr]
      conv => whnf
      rw [wrap_succ (by omega)]
      exact ih2 (b + 1, L2) ⟨by simp only; omega, hL2⟩ (by simp only; omega)
end Go.Proofs.Rx
