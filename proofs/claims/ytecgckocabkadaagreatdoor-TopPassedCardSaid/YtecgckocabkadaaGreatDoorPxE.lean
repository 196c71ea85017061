/- PxE: a part of the proof of this claim. -/
import Derived.Test.YtecgckocabkadaaGreatDoorPxD
namespace Go.Proofs.Px
open Go Go.Ab
set_option maxRecDepth 100000
set_option maxHeartbeats 1000000
/-- The places of which something is true. -/
def idxs (q : Int → Bool) : List Int → Nat → List Int
  | [], _ => []
  | n :: l, i => match q n with | true => (i : Int) :: idxs q l (i + 1) | false => idxs q l (i + 1)
theorem idxs_append (q : Int → Bool) : ∀ (l m : List Int) (i : Nat), idxs q (l ++ m) i = idxs q l i ++ idxs q m (i + l.length)
  | [], m, i => by simp [idxs]
  | n :: l, m, i => by
    simp only [List.cons_append, idxs, idxs_append q l m (i + 1), List.length_cons]
    rw [show i + 1 + l.length = i + (l.length + 1) by omega]
    cases q n <;> rfl
theorem idxs_take {q : Int → Bool} {l : List Int} {i : Nat} {n : Int} (h : l[i]? = some n) : idxs q (l.take (i + 1)) 0 = idxs q (l.take i) 0 ++ (match q n with | true => [(i : Int)] | false => []) := by
  have hi := (List.getElem?_eq_some_iff.1 h).1
  rw [List.take_add_one, h, idxs_append]
  have : (l.take i).length = i := by simp; omega
  rw [this]
  simp only [Option.toList, idxs, Nat.zero_add]
theorem idxs_length (q : Int → Bool) : ∀ (l : List Int) (i : Nat), (idxs q l i).length ≤ l.length
  | [], _ => Nat.le_refl _
  | n :: l, i => by
    have := idxs_length q l (i + 1)
    unfold idxs
    cases q n <;> simp <;> omega
/-- A slice that has been appended to. -/
def listD (l : List Int) : D := match l with
  | [] => .nil
  | a :: r => .slice (r.length + 1) 1 (encI (a :: r))
theorem listD_some {l : List Int} {k : Nat} (h : l.length = k + 1) : listD l = .slice (k + 1) 1 (encI l) := by
  cases l with
  | nil => simp at h
  | cons a r => simp at h; subst h; rfl
theorem encI_length (l : List Int) : (encI l).length = l.length := by simp [encI]
theorem encI_snoc (l : List Int) (a : Int) : encI (l ++ [a]) = encI l ++ [.int .i64 a] := by simp [encI]
section
variable {e l : Int} {ts : List (Int × Int)} {rs : List Int} {lo hi : Int}
def passes (e l hi : Int) (n : Int) : Bool := leI l (n - hi - e)
theorem passed_ok (hc : chk e l ts rs = 0) (hlo : (offs e ts (-1000) 1000).1 = lo) (hhi : (offs e ts (-1000) 1000).2 = hi) (hb : -1000 ≤ lo ∧ lo ≤ hi ∧ hi ≤ 1000) :
    Rets Tryz.prog E 13 [.d (scD e l ts rs)] (.d (.tuple [listD (idxs (passes e l hi) rs 0), .int .i64 0])) := by
  have G := chk_zero hc
  have h := asked_ok e l ts rs hc
  rw [hlo, hhi, show ltI hi lo = false by rw [ltI_eq]; simp; omega] at h
  simp only at h
  refine sm_of HE true (by kernel_rfl) ?_
  unfold scD
  conv => whnf
  refine Rets.use h ?_
  conv => whnf
  refine loops_by (fun x : Nat × Option (Nat × List Int) => match x.2 with
      | none => ⟨39, [(2, .d .nil), (3, .d (.int .i64 0)), (4, .d (.ptr (deskL e l ts rs lo hi) 0)), (6, .d .nil), (21, .d (.int .i64 rs.length)), (22, .d (.int .i64 x.1))], .unk, [], []⟩
      | some (k, acc) => ⟨39, [(2, .d .nil), (3, .d (.int .i64 0)), (4, .d (.ptr (deskL e l ts rs lo hi) 0)), (6, .slice 0 k 0 (k + 1) 1), (21, .d (.int .i64 rs.length)), (22, .d (.int .i64 x.1))], .unk, [.row (.ds (encI acc)) k 0 []], []⟩)
    (fun x => x.1 ≤ rs.length ∧ match x.2 with | none => idxs (passes e l hi) (rs.take x.1) 0 = [] | some (k, acc) => acc.length = k + 1 ∧ idxs (passes e l hi) (rs.take x.1) 0 = acc) (fun x => rs.length - x.1) (0, none) ⟨Nat.zero_le _, rfl⟩ ?_
  have hrn := G.rn
  rintro n ⟨i, (_ | ⟨k, acc⟩)⟩ ⟨hle, hI⟩ ih
  · simp only at hle hI
    conv => whnf
    cases h1 : ltI (i : Int) (rs.length : Int)
    · have hn : rs.length ≤ i := by rw [ltI_eq] at h1; have := of_decide_eq_false h1; omega
      rw [List.take_of_length_le hn] at hI
      rw [hI]
      conv => whnf
      exact ⟨rfl, rfl⟩
    · have hlt : i < rs.length := by rw [ltI_eq] at h1; have := of_decide_eq_true h1; omega
      obtain ⟨n0, hn0⟩ : ∃ n0, rs[i]? = some n0 := ⟨rs[i], by simp [hlt]⟩
      have hs := idxs_take (q := passes e l hi) hn0
      rw [hI] at hs
      conv => whnf
      refine Rets.use light_ok ?_
      conv => whnf
      refine Rets.use (canL_ok G hb hn0) ?_
      conv => whnf
      unfold passes at hs
      cases h2 : leI l (n0 - hi - e)
      · conv => whnf
        rw [h2] at hs
        rw [wrap_succ (by omega)]
        exact ih (i + 1, none) ⟨by simp only; omega, hs⟩ (by simp only; omega)
      · conv => whnf
        rw [h2] at hs
        rw [wrap_succ (by omega)]
        exact ih (i + 1, some (0, [(i : Int)])) ⟨by simp only; omega, rfl, hs⟩ (by simp only; omega)
  · simp only at hle hI
    obtain ⟨hal, hid⟩ := hI
    have hel : (encI acc).length = (k + 1) * 1 := by rw [encI_length, hal]; omega
    have hkl : k + 1 ≤ rs.length := by
      have := idxs_length (passes e l hi) (rs.take i) 0
      rw [hid, hal] at this
      have h2 : (rs.take i).length ≤ rs.length := List.length_take_le' ..
      simp at this; omega
    conv => whnf
    cases h1 : ltI (i : Int) (rs.length : Int)
    · have hn : rs.length ≤ i := by rw [ltI_eq] at h1; have := of_decide_eq_false h1; omega
      rw [List.take_of_length_le hn] at hid
      rw [hid, listD_some hal]
      conv => whnf
      rw [may_all]
      conv => whnf
      rw [show Nat.ble (0 + (k + 1) * 1) (encI acc).length = true from Nat.ble_eq_true_of_le (by omega)]
      conv => whnf
      refine ⟨?_, rfl⟩
      rw [row_all hel]
    · have hlt : i < rs.length := by rw [ltI_eq] at h1; have := of_decide_eq_true h1; omega
      obtain ⟨n0, hn0⟩ : ∃ n0, rs[i]? = some n0 := ⟨rs[i], by simp [hlt]⟩
      have hs := idxs_take (q := passes e l hi) hn0
      rw [hid] at hs
      conv => whnf
      refine Rets.use light_ok ?_
      conv => whnf
      refine Rets.use (canL_ok G hb hn0) ?_
      conv => whnf
      unfold passes at hs
      cases h2 : leI l (n0 - hi - e)
      · conv => whnf
        rw [h2] at hs
        rw [wrap_succ (by omega)]
        exact ih (i + 1, some (k, acc)) ⟨by simp only; omega, hal, hs.trans (List.append_nil _)⟩ (by simp only; omega)
      · conv => whnf
        rw [h2] at hs
        rw [show Nat.ble ((k + 1 + 1) * 8) 140737488355328 = true from Nat.ble_eq_true_of_le (by omega)]
        conv => whnf
        rw [may_all]
        conv => whnf
        rw [show Nat.beq ((k + 1) * 1) (Cells.ds (encI acc)).len = true by simp only [Cells.len, hel]; exact Nat.beq_refl _, wrap_succ (by omega), List.take_of_length_le (by omega)]
        have e1 : encI acc ++ [D.int .i64 (i : Int)] = encI (acc ++ [(i : Int)]) := (encI_snoc acc i).symm
        rw [e1]
        exact ih (i + 1, some (k + 1, acc ++ [(i : Int)])) ⟨by simp only; omega, by simp [hal], hs⟩ (by simp only; omega)
end
end Go.Proofs.Px
