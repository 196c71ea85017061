/-
  TopHeld: piles: snow is added, and removed.
-/
import Derived.Test.YthnhhcmafcclgaaGreatDoorHxF
namespace Go.Proofs.Hx
open Go Go.Ab Go.Proofs.Hw
set_option maxRecDepth 100000
set_option maxHeartbeats 1000000
def encP (l : List (Int × Int)) : List D := l.flatMap fun p => [.int .i64 p.1, .int .i64 p.2]
theorem encP_length : ∀ l : List (Int × Int), (encP l).length = l.length * 2
  | [] => rfl
  | p :: l => by
    have := encP_length l
    simp only [encP, List.flatMap_cons, List.length_append, List.length_cons, List.length_nil] at *
    omega
theorem encP_drop : ∀ (l : List (Int × Int)) (i : Nat), (encP l).drop (i * 2) = encP (l.drop i)
  | l, 0 => by simp
  | [], i + 1 => by simp [encP]
  | p :: l, i + 1 => by
    have e : (i + 1) * 2 = 2 + i * 2 := by omega
    rw [e, ← List.drop_drop]
    exact encP_drop l i
theorem encP_get {l : List (Int × Int)} {i : Nat} {p : Int × Int} (h : l[i]? = some p) : (encP l)[i * 2 + 1]? = some (.int .i64 p.2) := by
  obtain ⟨hi, rfl⟩ := List.getElem?_eq_some_iff.1 h
  have := congrArg (fun x => x[1]?) (encP_drop l i)
  rw [List.drop_eq_getElem_cons hi, show (encP (l[i] :: l.drop (i + 1)))[1]? = some (.int .i64 l[i].2) from rfl] at this
  rw [← this]
  simp only [List.getElem?_drop]
theorem encP_snoc (l : List (Int × Int)) (p : Int × Int) : encP l ++ [.int .i64 p.1, .int .i64 p.2] = encP (l ++ [p]) := by simp [encP]
theorem encP_set : ∀ {l : List (Int × Int)} {i : Nat} {p : Int × Int} (x : Int), l[i]? = some p → wr (encP l) (i * 2 + 1) [.int .i64 x] = encP (l.set i (p.1, x))
  | [], _, _, _, h => by simp at h
  | q :: l, 0, p, x, h => by simp at h; subst h; simp [encP, wr, wr_nil]
  | q :: l, i + 1, p, x, h => by
    have := encP_set (l := l) (i := i) x (by simpa using h)
    have e : (i + 1) * 2 + 1 = (i * 2 + 1) + 1 + 1 := by omega
    rw [e]
    show wr (.int .i64 q.1 :: .int .i64 q.2 :: encP l) _ _ = _
    simp only [wr, this, List.set_cons_succ]
    rfl
/-- What a run holds. -/
def runV (s st : Int) (ds : List Dy6) (fails : Int) (sk mk : V) (full : Int) (pl : V) : List V :=
  [.d (.int .i64 s), .d (.int .i64 st), .d (.slice ds.length 6 (encW ds)), .d (.int .i64 fails), sk, mk, .d (.int .i64 full), pl]
/-- Ahead of the piles: nothing, or the stocks, and what was made. -/
def pre (x : Option (Nat × List Int × List Int)) (s st : Int) (ds : List Dy6) (fails full : Int) (pl : V) : List O := match x with
  | none => [.row (.vs (runV s st ds fails (.d .nil) (.d .nil) full pl)) 0 0 []]
  | some (k, a, b) => [.row (.vs (runV s st ds fails (.slice 1 k 0 (k + 1) 1) (.slice 2 k 0 (k + 1) 1) full pl)) 0 0 [], .row (.ds (encI a)) k 0 [], .row (.ds (encI b)) k 0 []]
theorem add0 (s st : Int) (ds : List Dy6) (day much : Int) (hm : 0 < much) :
    Sm Tryz.prog E 38 [.ptr 0 0 0 8, .d (.int .i64 day), .d (.int .i64 much)] [.row (.ds [.int .i64 s, .int .i64 st, .slice ds.length 6 (encW ds), .int .i64 (-1), .nil, .nil, .int .i64 (-1), .nil]) 0 0 []]
      (fun v h => v = .d (.tuple []) ∧ h = pre none s st ds (-1) (-1) (.slice 1 0 0 1 2) ++ [.row (.ds (encP [(day, much)])) 0 0 []]) := by
  refine sm_of HE true (by kernel_rfl) ?_
  conv => whnf
  rw [show ltI 0 much = true by rw [ltI_eq]; simpa using hm]
  conv => whnf
  exact ⟨rfl, rfl⟩
theorem add0n (s st : Int) (ds : List Dy6) (day much : Int) (hm : ¬ 0 < much) :
    Sm Tryz.prog E 38 [.ptr 0 0 0 8, .d (.int .i64 day), .d (.int .i64 much)] [.row (.ds [.int .i64 s, .int .i64 st, .slice ds.length 6 (encW ds), .int .i64 (-1), .nil, .nil, .int .i64 (-1), .nil]) 0 0 []]
      (fun v h => v = .d (.tuple []) ∧ h = [.row (.ds [.int .i64 s, .int .i64 st, .slice ds.length 6 (encW ds), .int .i64 (-1), .nil, .nil, .int .i64 (-1), .nil]) 0 0 []]) := by
  refine sm_of HE true (by kernel_rfl) ?_
  conv => whnf
  rw [show ltI 0 much = false by rw [ltI_eq]; simpa using hm]
  conv => whnf
  exact ⟨rfl, rfl⟩
theorem may_end {off n k : Nat} (h : off + n ≤ k) : may 0 off n 0 0 [(0, k)] = true := by
  unfold may
  rw [show Nat.ble 0 0 = true from rfl]
  simp only [Nat.ble_eq_true_of_le h]
  rfl
def PN (x : Option (Nat × List Int × List Int)) : Nat := match x with | none => 1 | some _ => 3
/-- Nothing is added. -/
theorem addN (x : Option (Nat × List Int × List Int)) (s st : Int) (ds : List Dy6) (full : Int) (day much : Int) (j n : Nat) (l : List (Int × Int)) (hm : ¬ 0 < much) :
    Sm Tryz.prog E 38 [.ptr 0 0 0 8, .d (.int .i64 day), .d (.int .i64 much)] (pre x s st ds (-1) full (.slice (PN x) 0 (j * 2) n 2) ++ [.row (.ds (encP l)) 0 0 [(0, l.length * 2)]])
      (fun v h => v = .d (.tuple []) ∧ h = pre x s st ds (-1) full (.slice (PN x) 0 (j * 2) n 2) ++ [.row (.ds (encP l)) 0 0 [(0, l.length * 2)]]) := by
  rcases x with _ | ⟨k, a, b⟩ <;>
  · refine sm_of HE true (by kernel_rfl) ?_
    conv => whnf
    rw [show ltI 0 much = false by rw [ltI_eq]; simpa using hm]
    conv => whnf
    exact ⟨rfl, rfl⟩
/-- The piles begin where their block does. -/
theorem addA (x : Option (Nat × List Int × List Int)) (s st : Int) (ds : List Dy6) (full : Int) (day much : Int) (l : List (Int × Int)) (hm : 0 < much) (hl : l.length ≤ 1000) :
    Sm Tryz.prog E 38 [.ptr 0 0 0 8, .d (.int .i64 day), .d (.int .i64 much)] (pre x s st ds (-1) full (.slice (PN x) 0 (0 * 2) l.length 2) ++ [.row (.ds (encP l)) 0 0 [(0, l.length * 2)]])
      (fun v h => v = .d (.tuple []) ∧ h = pre x s st ds (-1) full (.slice (PN x) 1 0 (l.length + 1) 2) ++ [.row (.ds (encP (l ++ [(day, much)]))) 1 0 [(0, l.length * 2)]]) := by
  rcases x with _ | ⟨k, a, b⟩ <;>
  · refine sm_of HE true (by kernel_rfl) ?_
    conv => whnf
    rw [show ltI 0 much = true by rw [ltI_eq]; simpa using hm]
    conv => whnf
    rw [show Nat.ble ((l.length + 1) * 16) 140737488355328 = true from Nat.ble_eq_true_of_le (by omega)]
    conv => whnf
    rw [may_end (by omega)]
    conv => whnf
    rw [show Nat.beq (l.length * 2) (Cells.ds (encP l)).len = true by simp only [Cells.len, encP_length]; exact Nat.beq_refl _]
    rw [show encP (l ++ [(day, much)]) = (encP l).take (l.length * 2) ++ [.int .i64 day, .int .i64 much] by rw [List.take_of_length_le (by rw [encP_length]; omega), ← encP_snoc]]
    exact ⟨rfl, rfl⟩
theorem appendEnd_piles {h : List O} {b j n : Nat} {l : List (Int × Int)} {day much : Int} (hn : n + j = l.length) :
    appendEnd h 2 (Cells.ds (encP l)) 0 0 [(0, l.length * 2)] b 0 (j * 2) n 1 (List.take (1 * 2) (List.drop 0 (Cells.ds [D.int .i64 day, D.int .i64 much]).toV)) =
      some (.slice h.length 0 0 (n + 1) 2, h ++ [.row (.ds (encP (l.drop j ++ [(day, much)]))) 0 0 []]) := by
  have hl := encP_length l
  have e1 : rd (Cells.ds (encP l)).toV (j * 2) (n * 2) = some ((encP (l.drop j)).map .d) := by
    unfold rd
    simp only [Cells.toV, List.length_map]
    rw [show Nat.ble (j * 2 + n * 2) (encP l).length = true from Nat.ble_eq_true_of_le (by omega)]
    simp only [← List.map_drop, ← List.map_take, encP_drop]
    rw [List.take_of_length_le (by rw [encP_length, List.length_drop]; omega)]
  unfold appendEnd exactK
  simp only
  rw [may_end (by omega), e1]
  simp only
  rw [show Nat.beq (j * 2 + n * 2) (l.length * 2) = true by rw [show j * 2 + n * 2 = l.length * 2 by omega]; exact Nat.beq_refl _]
  simp only
  rw [← encP_snoc]
  have e2 : (encP (l.drop j)).map V.d ++ List.take (1 * 2) (List.drop 0 (Cells.ds [D.int .i64 day, D.int .i64 much]).toV) = (encP (l.drop j) ++ [D.int .i64 day, D.int .i64 much]).map V.d := by
    simp [Cells.toV]
  rw [e2, ofV_map]
/-- The piles begin behind it. -/
theorem addB (x : Option (Nat × List Int × List Int)) (s st : Int) (ds : List Dy6) (full : Int) (day much : Int) (j : Nat) (l : List (Int × Int)) (hm : 0 < much) (hl : l.length ≤ 1000) (hj : j + 1 ≤ l.length) :
    Sm Tryz.prog E 38 [.ptr 0 0 0 8, .d (.int .i64 day), .d (.int .i64 much)] (pre x s st ds (-1) full (.slice (PN x) 0 ((j + 1) * 2) (l.length - (j + 1)) 2) ++ [.row (.ds (encP l)) 0 0 [(0, l.length * 2)]])
      (fun v h => v = .d (.tuple []) ∧ h = pre x s st ds (-1) full (.slice (PN x + 1) 0 0 (l.length - (j + 1) + 1) 2) ++ [.row (.ds (encP l)) 0 0 [(0, l.length * 2)], .row (.ds (encP (l.drop (j + 1) ++ [(day, much)]))) 0 0 []]) := by
  obtain ⟨n, hn⟩ : ∃ n, n = l.length - (j + 1) := ⟨_, rfl⟩
  rw [← hn]
  rcases x with _ | ⟨k, a, b⟩ <;>
  · refine sm_of HE true (by kernel_rfl) ?_
    conv => whnf
    rw [show ltI 0 much = true by rw [ltI_eq]; simpa using hm]
    conv => whnf
    rw [show Nat.ble ((n + 1) * 16) 140737488355328 = true from Nat.ble_eq_true_of_le (by omega)]
    conv => whnf
    rw [appendEnd_piles (by omega)]
    conv => whnf
    exact ⟨rfl, rfl⟩
end Go.Proofs.Hx
