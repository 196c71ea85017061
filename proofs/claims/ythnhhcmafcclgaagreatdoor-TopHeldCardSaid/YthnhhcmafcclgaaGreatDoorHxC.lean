/-
  TopHeld: the worst weather.
-/
import Derived.Test.YthnhhcmafcclgaaGreatDoorHxB
namespace Go.Proofs.Hx
open Go Go.Ab
set_option maxRecDepth 100000
set_option maxHeartbeats 1000000
def weD (n m l : List Int) : D := .agg [.slice n.length 1 (encI n), .slice m.length 1 (encI m), .slice l.length 1 (encI l)]
theorem len_beq {acc : List Int} {k : Nat} (h : acc.length = k + 1) : Nat.beq ((k + 1) * 1) (Cells.ds (encI acc)).len = true := by
  have : (encI acc).length = (k + 1) * 1 := by rw [encI_length, h]; omega
  simp only [Cells.len, this]; exact Nat.beq_refl _
theorem take_map {α : Type} {f : α → Int} {l : List α} {i : Nat} {a : α} (h : l[i]? = some a) : (l.take (i + 1)).map f = (l.take i).map f ++ [f a] := by
  rw [List.take_add_one, h]; simp
def hpW (x : Option (Nat × List Int × List Int × List Int)) : List O := match x with
  | none => [.row (.ds [.func 42 [] []]) 0 0 [], .row (.ds [.func 43 [] []]) 0 0 [], .row (.ds [.nil, .nil, .nil]) 0 0 [], .row (.ds [.nil, .nil, .nil]) 0 0 []]
  | some (k, a, b, c) => [.row (.ds [.func 42 [] []]) 0 0 [], .row (.ds [.func 43 [] []]) 0 0 [], .row (.ds [.nil, .nil, .nil]) 0 0 [], .row (.vs [.slice 4 k 0 (k + 1) 1, .slice 5 k 0 (k + 1) 1, .slice 6 k 0 (k + 1) 1]) 0 0 [],
      .row (.ds (encI a)) k 0 [], .row (.ds (encI b)) k 0 [], .row (.ds (encI c)) k 0 []]
theorem weather_ok (s st : Int) (ds : List Dy6) (h1 : ds.length ≤ 100) (hpos : 0 < ds.length) :
    Rets Tryz.prog E 32 [.d (wD s st ds), .d (.agg [.func 42 [] []]), .d (.agg [.func 43 [] []])] (.d (weD (ds.map (·.nh)) (ds.map (·.ml)) (ds.map (·.lh)))) := by
  obtain ⟨p, hp0⟩ : ∃ p, ds[0]? = some p := ⟨ds[0], by simp [hpos]⟩
  have hel := encW_length ds
  refine sm_of HE true (by kernel_rfl) ?_
  unfold wD weD
  conv => whnf
  refine loops_by (fun x : Option (Nat × List Int × List Int × List Int) => match x with
      | none => ⟨49, [(4, .ptr 0 0 0 1), (5, .ptr 1 0 0 1), (6, .ptr 2 0 0 3), (7, .ptr 3 0 0 3), (11, .d (.slice ds.length 6 (encW ds))), (12, .d (.int .i64 ds.length)), (13, .d (.int .i64 0))], .unk, hpW none, []⟩
      | some (k, a, b, c) => ⟨49, [(4, .ptr 0 0 0 1), (5, .ptr 1 0 0 1), (6, .ptr 2 0 0 3), (7, .ptr 3 0 0 3), (11, .d (.slice ds.length 6 (encW ds))), (12, .d (.int .i64 ds.length)), (13, .d (.int .i64 (k + 1 : Nat)))], .unk, hpW (some (k, a, b, c)), []⟩)
    (fun x => match x with | none => True | some (k, a, b, c) => k + 1 ≤ ds.length ∧ a = (ds.take (k + 1)).map (·.nh) ∧ b = (ds.take (k + 1)).map (·.ml) ∧ c = (ds.take (k + 1)).map (·.lh))
    (fun x => match x with | none => ds.length | some (k, _) => ds.length - (k + 1)) none trivial ?_
  rintro n (_ | ⟨k, a, b, c⟩) hI ih
  · have hb : Nat.blt 0 ds.length = true := by simpa [Nat.blt_eq] using hpos
    conv => whnf
    cases g1 : ltI (0 : Int) (ds.length : Int)
    · rw [ltI_eq] at g1; have := of_decide_eq_false g1; omega
    · conv => whnf
      rw [hb]
      conv => whnf
      rw [show Nat.ble (0 * 6 + 6) (encW ds).length = true from Nat.ble_eq_true_of_le (by omega)]
      conv => whnf
      rw [encW_at hp0]
      conv => whnf
      refine Rets.use (greatest1_ok p.nl p.nh) ?_
      conv => whnf
      refine Rets.use (least1_ok p.ml p.mh) ?_
      conv => whnf
      refine Rets.use (greatest1_ok p.ll p.lh) ?_
      conv => whnf
      exact ih (some (0, [p.nh], [p.ml], [p.lh])) ⟨by omega, by rw [take_map hp0]; rfl, by rw [take_map hp0]; rfl, by rw [take_map hp0]; rfl⟩ (by simp only; omega)
  · obtain ⟨hle, ha, hb', hc⟩ := hI
    have la : a.length = k + 1 := by rw [ha]; simp; omega
    have lb : b.length = k + 1 := by rw [hb']; simp; omega
    have lc : c.length = k + 1 := by rw [hc]; simp; omega
    conv => whnf
    cases h1 : ltI ((k + 1 : Nat) : Int) (ds.length : Int)
    · have hn : ds.length = k + 1 := by rw [ltI_eq] at h1; have := of_decide_eq_false h1; omega
      have ta : ds.take (k + 1) = ds := List.take_of_length_le (by omega)
      rw [ta] at ha hb' hc
      rw [← ha, ← hb', ← hc, la, lb, lc]
      conv => whnf
      rw [may_all]
      conv => whnf
      rw [show Nat.ble (0 + (k + 1) * 1) (encI a).length = true from Nat.ble_eq_true_of_le (by rw [encI_length]; omega)]
      conv => whnf
      rw [may_all]
      conv => whnf
      rw [show Nat.ble (0 + (k + 1) * 1) (encI b).length = true from Nat.ble_eq_true_of_le (by rw [encI_length]; omega)]
      conv => whnf
      rw [may_all]
      conv => whnf
      rw [show Nat.ble (0 + (k + 1) * 1) (encI c).length = true from Nat.ble_eq_true_of_le (by rw [encI_length]; omega)]
      conv => whnf
      refine ⟨?_, rfl⟩
      rw [row_all (by rw [encI_length]; omega), row_all (by rw [encI_length]; omega), row_all (by rw [encI_length]; omega)]
    · have hlt : k + 1 < ds.length := by rw [ltI_eq] at h1; have := of_decide_eq_true h1; omega
      have hb : Nat.blt (k + 1) ds.length = true := by simpa [Nat.blt_eq] using hlt
      obtain ⟨q, hq⟩ : ∃ q, ds[k + 1]? = some q := ⟨ds[k + 1], by simp [hlt]⟩
      conv => whnf
      rw [hb]
      conv => whnf
      rw [show Nat.ble ((k + 1) * 6 + 6) (encW ds).length = true from Nat.ble_eq_true_of_le (by omega)]
      conv => whnf
      rw [encW_at hq]
      conv => whnf
      refine Rets.use (greatest1_ok q.nl q.nh) ?_
      conv => whnf
      rw [show Nat.ble ((k + 1 + 1) * 8) 140737488355328 = true from Nat.ble_eq_true_of_le (by omega)]
      conv => whnf
      rw [may_all]
      conv => whnf
      refine Rets.use (least1_ok q.ml q.mh) ?_
      conv => whnf
      rw [show Nat.ble ((k + 1 + 1) * 8) 140737488355328 = true from Nat.ble_eq_true_of_le (by omega)]
      conv => whnf
      rw [may_all]
      conv => whnf
      refine Rets.use (greatest1_ok q.ll q.lh) ?_
      conv => whnf
      rw [show Nat.ble ((k + 1 + 1) * 8) 140737488355328 = true from Nat.ble_eq_true_of_le (by omega)]
      conv => whnf
      rw [may_all]
      conv => whnf
      rw [len_beq la, len_beq lb, len_beq lc, wrap_succ (by omega), List.take_of_length_le (by rw [encI_length]; omega), List.take_of_length_le (by rw [encI_length]; omega), List.take_of_length_le (by rw [encI_length]; omega)]
      have e1 : ∀ (l : List Int) (x : Int), encI l ++ [D.int .i64 x] = encI (l ++ [x]) := fun l x => (encI_snoc l x).symm
      rw [e1, e1, e1]
      exact ih (some (k + 1, a ++ [q.nh], b ++ [q.ml], c ++ [q.lh])) ⟨by omega, by rw [take_map hq, ha], by rw [take_map hq, hb'], by rw [take_map hq, hc]⟩ (by simp only; omega)
theorem worst_ok (s st : Int) (ds : List Dy6) (h1 : ds.length ≤ 100) (hpos : 0 < ds.length) :
    Rets Tryz.prog E 21 [.d (wD s st ds)] (.d (weD (ds.map (·.nh)) (ds.map (·.ml)) (ds.map (·.lh)))) := by
  refine sm_of HE true (by kernel_rfl) ?_
  unfold wD
  conv => whnf
  refine Rets.use greatest_ok ?_
  conv => whnf
  refine Rets.use least_ok ?_
  conv => whnf
  refine Rets.use (weather_ok s st ds h1 hpos) ?_
  unfold weD
  conv => whnf
  exact ⟨rfl, rfl⟩
/-- A winter that is in order. -/
structure Good (s st : Int) (ds : List Dy6) : Prop where
  n : 1 ≤ ds.length ∧ ds.length ≤ 60
  store : 1 ≤ st ∧ st ≤ 1000000
  stock : 0 ≤ s ∧ s ≤ st
  d : ∀ p ∈ ds, (0 ≤ p.nl ∧ p.nl ≤ p.nh ∧ p.nh ≤ 100000) ∧ (0 ≤ p.ml ∧ p.ml ≤ p.mh ∧ p.mh ≤ 100000) ∧ (0 ≤ p.ll ∧ p.ll ≤ p.lh ∧ p.lh ≤ 100000)
theorem spanB_true {lo hi g : Int} (h : spanB lo hi g = true) : 0 ≤ lo ∧ lo ≤ hi ∧ hi ≤ g := by
  unfold spanB at h
  obtain ⟨h1, h2⟩ := andB_true h
  have := inB_true h1
  rw [leI_eq] at h2
  have := of_decide_eq_true h2
  omega
theorem chk_zero {s st : Int} {ds : List Dy6} (h : chk s st ds = 0) : Good s st ds := by
  unfold chk at h
  split at h
  · cases h
  rename_i g1
  split at h
  · cases h
  rename_i g2
  split at h
  · cases h
  rename_i g3
  have orf : ∀ {a b : Bool}, orB a b = false → a = false ∧ b = false := by intro a b; cases a <;> cases b <;> simp [orB]
  have ntf : ∀ {a : Bool}, notB a = false → a = true := by intro a; cases a <;> simp [notB]
  obtain ⟨a1, a2⟩ := orf g1
  have c1 := inB_true (ntf a1)
  have c2 := inB_true (ntf a2)
  have c3 := inB_true (ntf g2)
  have t1 := allB_true (ntf g3)
  refine ⟨by omega, by omega, by omega, fun p hp => ?_⟩
  have := t1 p hp
  unfold dayOk at this
  obtain ⟨h1, h2⟩ := andB_true this
  obtain ⟨h3, h4⟩ := andB_true h1
  exact ⟨spanB_true h3, spanB_true h4, spanB_true h2⟩
theorem Worst_ok (s st : Int) (ds : List Dy6) (hc : chk s st ds = 0) :
    Rets Tryz.prog E 10 [.d (wD s st ds)] (.d (.tuple [weD (ds.map (·.nh)) (ds.map (·.ml)) (ds.map (·.lh)), .int .i64 0])) := by
  have G := chk_zero hc
  have hchk := check_ok s st ds (by have := G.n; omega)
  rw [hc] at hchk
  refine sm_of HE true (by kernel_rfl) ?_
  unfold wD
  conv => whnf
  refine Rets.use hchk ?_
  conv => whnf
  refine Rets.use (worst_ok s st ds (by have := G.n; omega) (by have := G.n; omega)) ?_
  unfold weD
  conv => whnf
  exact ⟨rfl, rfl⟩
end Go.Proofs.Hx
