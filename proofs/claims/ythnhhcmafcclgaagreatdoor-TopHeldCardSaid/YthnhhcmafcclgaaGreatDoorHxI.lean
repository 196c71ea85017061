/-
  TopHeld: what happens in a weather.
-/
import Derived.Test.YthnhhcmafcclgaaGreatDoorHxH
namespace Go.Proofs.Hx
open Go Go.Ab Go.Proofs.Hw
set_option maxRecDepth 100000
set_option maxHeartbeats 8000000
theorem frz_slice {h : List O} {b e off n sz cur fl : Nat} {cons : List (Nat × Nat)} {l r : List D} (hg : getO h b = .row (.ds l) cur fl cons) (hm : may e off (n * sz) cur fl cons = true) (hr : rd l off (n * sz) = some r) (k : Nat) :
    frzV h 0 (k + 1) (.slice b e off n sz) = some (.slice n sz r) := by
  simp only [frzV, hg]
  rw [show Nat.ble 0 b = true from Nat.ble_eq_true_of_le (Nat.zero_le _)]
  simp only [hm, hr]
theorem frz_run {h : List O} {a1 a2 a3 a4 a5 : D} {sk mk pl : V} {x y z : D} (hg : getO h 1 = .row (.vs [.d a1, .d a2, .d a3, .d a4, sk, mk, .d a5, pl]) 0 0 [])
    (hx : ∀ k, frzV h 0 (k + 1) sk = some x) (hy : ∀ k, frzV h 0 (k + 1) mk = some y) (hz : ∀ k, frzV h 0 (k + 1) pl = some z) :
    frzV h 0 (59 + 1) (outV [V.ptr (0 + 1) 0 0 8]) = some (.ptr [a1, a2, a3, a4, x, y, a5, z] 0) := by
  show frzV h 0 (59 + 1) (V.ptr 1 0 0 8) = _
  have hd : ∀ k (d : D), frzV h 0 (k + 1) (.d d) = some d := fun k d => by simp only [frzV]
  rw [frzV, hg]
  simp only
  rw [show may 0 0 8 0 0 [] = true from rfl]
  simp only
  rw [show rd (Cells.vs [V.d a1, V.d a2, V.d a3, V.d a4, sk, mk, V.d a5, pl]).toV 0 8 = some [V.d a1, V.d a2, V.d a3, V.d a4, sk, mk, V.d a5, pl] from rfl]
  simp only
  rw [frzVs, hd, frzVs, hd, frzVs, hd, frzVs, hd, frzVs, hx, frzVs, hy, frzVs, hd, frzVs, hz, frzVs]
theorem rd_encI {x : List Int} {k : Nat} (h : x.length = k + 1) : rd (encI x) 0 ((k + 1) * 1) = some (encI x) := by
  unfold rd
  rw [show Nat.ble (0 + (k + 1) * 1) (encI x).length = true from Nat.ble_eq_true_of_le (by rw [encI_length]; omega)]
  simp only
  rw [row_all (by rw [encI_length]; omega)]
theorem rd_encP (l : List (Int × Int)) (j : Nat) (hj : j ≤ l.length) : rd (encP l) (j * 2) ((l.length - j) * 2) = some (encP (l.drop j)) := by
  have hl := encP_length l
  unfold rd
  rw [show Nat.ble (j * 2 + (l.length - j) * 2) (encP l).length = true from Nat.ble_eq_true_of_le (by omega)]
  simp only [encP_drop]
  rw [List.take_of_length_le (by rw [encP_length, List.length_drop]; omega)]
theorem remove0' (s st : Int) (ds : List Dy6) (much : Int) :
    Sm Tryz.prog E 39 [.ptr 0 0 0 8, .d (.int .i64 much)] [.row (.ds [.int .i64 s, .int .i64 st, .slice ds.length 6 (encW ds), .int .i64 (-1), .nil, .nil, .int .i64 (-1), .nil]) 0 0 []]
      (fun v h => v = .d (.tuple []) ∧ ∃ (j : Nat) (l : List (Int × Int)), l.length = 0 ∧ j ≤ l.length ∧ h = pre none s st ds (-1) (-1) (.slice 1 0 (j * 2) (l.length - j) 2) ++ [.row (.ds (encP l)) 0 0 [(0, l.length * 2)]]) := by
  refine Sm.mono (remove0 s st ds much) ?_
  rintro v h ⟨rfl, rfl⟩
  exact ⟨rfl, 0, [], rfl, Nat.le_refl _, rfl⟩
theorem remove_ok' (x : Option (Nat × List Int × List Int)) (s st : Int) (ds : List Dy6) (full much : Int) (ep off n cur : Nat) (cons : List (Nat × Nat)) (cs : List D) (l : List (Int × Int))
    (hmay : may ep off (n * 2) cur 0 cons = true) (hrd : rd (Cells.ds cs).toV off (n * 2) = some ((encP l).map V.d)) (hn : l.length = n) (hl : n ≤ 1000) :
    Sm Tryz.prog E 39 [.ptr 0 0 0 8, .d (.int .i64 much)] (pre x s st ds (-1) full (.slice (PN x) ep off n 2) ++ [.row (.ds cs) cur 0 cons])
      (fun v h => v = .d (.tuple []) ∧ ∃ (j : Nat) (l : List (Int × Int)), l.length = n ∧ j ≤ l.length ∧ h = pre x s st ds (-1) full (.slice (PN x + 1) 0 (j * 2) (l.length - j) 2) ++ [.row (.ds cs) cur 0 cons, .row (.ds (encP l)) 0 0 [(0, l.length * 2)]]) := by
  refine Sm.mono (remove_ok x s st ds full much ep off n cur cons cs l hmay hrd hn hl) ?_
  rintro v h ⟨rfl, j, l', hl', hj, rfl⟩
  subst hl'
  exact ⟨rfl, j, l', rfl, hj, rfl⟩
theorem rd_drop (l : List (Int × Int)) (j : Nat) (hj : j ≤ l.length) : rd (Cells.ds (encP l)).toV (j * 2) ((l.length - j) * 2) = some ((encP (l.drop j)).map V.d) := by
  have hl := encP_length l
  unfold rd
  simp only [Cells.toV, List.length_map]
  rw [show Nat.ble (j * 2 + (l.length - j) * 2) (encP l).length = true from Nat.ble_eq_true_of_le (by omega)]
  simp only [← List.map_drop, ← List.map_take, encP_drop]
  rw [List.take_of_length_le (by rw [encP_length, List.length_drop]; omega)]
theorem rd_all (l : List (Int × Int)) (n : Nat) (hn : l.length = n) : rd (Cells.ds (encP l)).toV 0 (n * 2) = some ((encP l).map V.d) := by
  have := rd_drop l 0 (Nat.zero_le _)
  rw [Nat.sub_zero, hn] at this
  simpa using this
theorem fork_loops {G : Prop} {α : Type} {m : Nat} {sl : Option (List Nat)} {body : S → (Ex → S → Prop) → Prop} {Q : Ex → S → Prop} (st : α → S) (I : α → Prop) (μ : α → Nat)
    (step : ∀ (n : Nat) (x : α), I x → (∀ y, I y → μ y < μ x → Ab.hd m sl body n (st y) Q) → Ab.hd m sl body (n + 1) (st x) Q)
    (leaf : (∀ x, I x → Loops fun n => Ab.hd m sl body n (st x) Q) → G) : G := leaf fun x hx => loops_by st I μ x hx step
theorem fu_at {st : Int} {zs : List Hw.Dy} {i : Nat} {d : Hw.Dy} (h : zs[i]? = some d) (s f : Int) : fu st (zs.drop i) s i f =
    if stp st d s < d.1 then ((i : Int), if stp st d s = st then (i : Int) else f) else fu st (zs.drop (i + 1)) (stp st d s - d.1) (i + 1) (if stp st d s = st then (i : Int) else f) := by
  obtain ⟨hi, rfl⟩ := List.getElem?_eq_some_iff.1 h
  rw [List.drop_eq_getElem_cons hi, fu]
/-- What is found out: the day that fails, and the last one on which the store is full. -/
def HpsQ (s st : Int) (ds : List Dy6) (x : Int × Int) (v : V) (h : List O) : Prop := h = [] ∧ ∃ a b c, v = .d (.ptr [.int .i64 s, .int .i64 st, .slice ds.length 6 (encW ds), .int .i64 x.1, a, b, .int .i64 x.2, c] 0)
def weO (n m l : List Int) : O := .row (.ds [.slice n.length 1 (encI n), .slice m.length 1 (encI m), .slice l.length 1 (encI l)]) 0 0 []
def hp0 (n m l : List Int) (s st : Int) (ds : List Dy6) : List O := [weO n m l, .row (.ds [.int .i64 s, .int .i64 st, .slice ds.length 6 (encW ds), .int .i64 (-1), .nil, .nil, .int .i64 (-1), .nil]) 0 0 []]
def hp1 (n m l : List Int) (s st : Int) (ds : List Dy6) : List O := [weO n m l, .row (.vs (runV s st ds (-1) (.d .nil) (.d .nil) (-1) (.slice 2 0 0 1 2))) 0 0 [], .row (.ds (encP [(-1, s)])) 0 0 []]
def hp2 (n m l : List Int) (s st : Int) (ds : List Dy6) (k : Nat) (f : Int) (a b : List Int) (j : Nat) (lp : List (Int × Int)) : List O :=
  [weO n m l, .row (.vs (runV s st ds (-1) (.slice 2 k 0 (k + 1) 1) (.slice 3 k 0 (k + 1) 1) f (.slice 4 0 (j * 2) (lp.length - j) 2))) 0 0 [], .row (.ds (encI a)) k 0 [], .row (.ds (encI b)) k 0 [], .row (.ds (encP lp)) 0 0 [(0, lp.length * 2)]]
abbrev Al := Option (Option (Nat × Int × Int × List Int × List Int × Nat × List (Int × Int)))
theorem happens_ok (s st : Int) (ds : List Dy6) (n m l : List Int) (G : Good s st ds) (e1 : n.length = ds.length) (e2 : m.length = ds.length) (e3 : l.length = ds.length)
    (hB : ∀ (i : Nat) a b c, n[i]? = some a → m[i]? = some b → l[i]? = some c → (0 ≤ a ∧ a ≤ 100000) ∧ (0 ≤ b ∧ b ≤ 100000) ∧ (0 ≤ c ∧ c ≤ 100000)) :
    Sm Tryz.prog E 27 [.d (wD s st ds), .d (weD n m l)] [] (HpsQ s st ds (fu st (zip3 n m l) s 0 (-1))) := by
  have hn60 := G.n
  have hst := G.store
  have hs0 := G.stock
  have hel := encW_length ds
  have hzl : (zip3 n m l).length = ds.length := by rw [zip3_length (by omega) (by omega), e1]
  refine sm_of HE true (by kernel_rfl) ?_
  unfold wD weD
  conv => whnf
  apply fork_loops (fun x : Al => match x with
      | none => ⟨134, [(3, .ptr 0 0 0 3), (4, .d .nilptr), (5, .ptr 1 0 0 8), (6, .d (.int .i64 s)), (31, .d (.int .i64 ds.length)), (32, .d (.int .i64 0))], .unk, hp0 n m l s st ds, []⟩
      | some none => ⟨134, [(3, .ptr 0 0 0 3), (4, .d .nilptr), (5, .ptr 1 0 0 8), (6, .d (.int .i64 s)), (31, .d (.int .i64 ds.length)), (32, .d (.int .i64 0))], .unk, hp1 n m l s st ds, []⟩
      | some (some (k, s', f, a, b, j, lp)) => ⟨134, [(3, .ptr 0 0 0 3), (4, .d .nilptr), (5, .ptr 1 0 0 8), (6, .d (.int .i64 s')), (31, .d (.int .i64 ds.length)), (32, .d (.int .i64 (k + 1 : Nat)))], .unk, hp2 n m l s st ds k f a b j lp, []⟩)
    (fun x => match x with
      | none => True
      | some none => True
      | some (some (k, s', f, a, b, j, lp)) => (0 ≤ s' ∧ s' ≤ st) ∧ k + 1 ≤ ds.length ∧ a.length = k + 1 ∧ b.length = k + 1 ∧ j ≤ lp.length ∧ lp.length ≤ k + 2 ∧ fu st (zip3 n m l) s 0 (-1) = fu st ((zip3 n m l).drop (k + 1)) s' (k + 1) f)
    (fun x => match x with | none => ds.length | some none => ds.length | some (some (k, _)) => ds.length - (k + 1))
  case leaf =>
    intro key
    by_cases hs : 0 < s
    · refine Sm.mono (add0 s st ds (-1) s hs) ?_
      rintro v h ⟨rfl, rfl⟩
      conv => whnf
      exact key (some none) trivial
    · refine Sm.mono (add0n s st ds (-1) s hs) ?_
      rintro v h ⟨rfl, rfl⟩
      conv => whnf
      exact key none trivial
  case step =>
    rintro fu' (_ | (_ | ⟨k, s', f, x, y, j, lp⟩)) hI ih
    · have hlt : 0 < ds.length := by omega
      have hb1 : Nat.blt 0 n.length = true := by simp [Nat.blt_eq]; omega
      have hb2 : Nat.blt 0 m.length = true := by simp [Nat.blt_eq]; omega
      have hb3 : Nat.blt 0 l.length = true := by simp [Nat.blt_eq]; omega
      obtain ⟨a, ha⟩ : ∃ a, n[0]? = some a := ⟨n[0]'(by omega), by simp⟩
      obtain ⟨b, hbb⟩ : ∃ a, m[0]? = some a := ⟨m[0]'(by omega), by simp⟩
      obtain ⟨c, hcc⟩ : ∃ a, l[0]? = some a := ⟨l[0]'(by omega), by simp⟩
      obtain ⟨B1, B2, B3⟩ := hB 0 a b c ha hbb hcc
      have hfu := fu_at (st := st) (zip3_at ha hbb hcc) s (-1)
      simp only [List.drop_zero] at hfu
      conv => whnf
      cases h1 : ltI (0 : Int) (ds.length : Int)
      · rw [ltI_eq] at h1; have := of_decide_eq_false h1; omega
      conv => whnf
      rw [hb3]
      conv => whnf
      rw [encI_get1 hcc]
      conv => whnf
      refine Sm.mono (remove0' s st ds (minI s c)) ?_
      rintro v h ⟨rfl, j', l', hl', hj', rfl⟩
      conv => whnf
      rw [hb2]
      conv => whnf
      rw [encI_get1 hbb]
      conv => whnf
      rw [minI_eq s c, wrap_i64 (n := s - min s c) (by omega) (by omega)]
      obtain ⟨X1, hX1⟩ : ∃ X1, X1 = s - min s c := ⟨_, rfl⟩
      rw [← hX1, wrap_i64 (n := st - X1) (by omega) (by omega), minI_eq b (st - X1)]
      obtain ⟨M, hM⟩ : ∃ M, M = min b (st - X1) := ⟨_, rfl⟩
      rw [← hM, wrap_i64 (n := X1 + M) (by omega) (by omega)]
      obtain ⟨X2, hX2⟩ : ∃ X2, X2 = X1 + M := ⟨_, rfl⟩
      rw [← hX2]
      have hX : stp st (a, b, c) s = X2 := by unfold stp; simp only; omega

      cases q1 : eqI X2 st
      · rw [eqI_eq] at q1
        have q1 := of_decide_eq_false q1
        conv => whnf
        rw [hb1]
        conv => whnf
        rw [encI_get1 ha]
        conv => whnf
        cases q2 : ltI X2 a
        · rw [ltI_eq] at q2
          have q2 := of_decide_eq_false q2
          conv => whnf
          by_cases hM0 : 0 < M
          · rcases j' with _ | j'
            · refine Sm.mono (addA none s st ds (-1) 0 M l' hM0 (by omega)) ?_
              rintro v h ⟨rfl, rfl⟩
              conv => whnf
              rw [hb1]
              conv => whnf
              rw [encI_get1 ha]
              conv => whnf
              refine Sm.mono (remove_ok' none s st ds (-1) a 1 0 (l'.length + 1) 1 [(0, l'.length * 2)] (encP (l' ++ [(0, M)])) (l' ++ [(0, M)]) rfl (rd_all _ _ (by simp)) (by simp) (by omega)) ?_
              rintro v h ⟨rfl, j2, l2, hl2, hj2, rfl⟩
              conv => whnf
              rw [hb1]
              conv => whnf
              rw [encI_get1 ha]
              conv => whnf
              rw [wrap_i64 (n := X2 - a) (by omega) (by omega)]
              refine ih (some (some (0, X2 - a, (-1), [X2 - a], [M], j2, l2))) ⟨⟨by omega, by omega⟩, by omega, rfl, rfl, hj2, by omega, ?_⟩ (by simp only; omega)
              rw [hfu, if_neg (by rw [hX]; exact q2), hX, if_neg q1]
              all_goals rfl
            · refine Sm.mono (addB none s st ds (-1) 0 M j' l' hM0 (by omega) hj') ?_
              rintro v h ⟨rfl, rfl⟩
              conv => whnf
              rw [hb1]
              conv => whnf
              rw [encI_get1 ha]
              conv => whnf
              refine Sm.mono (remove_ok' none s st ds (-1) a 0 0 (l'.length - (j' + 1) + 1) 0 [] (encP (l'.drop (j' + 1) ++ [(0, M)])) (l'.drop (j' + 1) ++ [(0, M)]) rfl (rd_all _ _ (by simp)) (by simp) (by omega)) ?_
              rintro v h ⟨rfl, j2, l2, hl2, hj2, rfl⟩
              conv => whnf
              rw [hb1]
              conv => whnf
              rw [encI_get1 ha]
              conv => whnf
              rw [wrap_i64 (n := X2 - a) (by omega) (by omega)]
              refine ih (some (some (0, X2 - a, (-1), [X2 - a], [M], j2, l2))) ⟨⟨by omega, by omega⟩, by omega, rfl, rfl, hj2, by omega, ?_⟩ (by simp only; omega)
              rw [hfu, if_neg (by rw [hX]; exact q2), hX, if_neg q1]
              all_goals rfl
          · refine Sm.mono (addN none s st ds (-1) 0 M j' (l'.length - j') l' hM0) ?_
            rintro v h ⟨rfl, rfl⟩
            conv => whnf
            rw [hb1]
            conv => whnf
            rw [encI_get1 ha]
            conv => whnf
            refine Sm.mono (remove_ok' none s st ds (-1) a 0 (j' * 2) (l'.length - j') 0 [(0, l'.length * 2)] (encP l') (l'.drop j') (may_end (by omega)) (rd_drop _ _ hj') (by simp) (by omega)) ?_
            rintro v h ⟨rfl, j2, l2, hl2, hj2, rfl⟩
            conv => whnf
            rw [hb1]
            conv => whnf
            rw [encI_get1 ha]
            conv => whnf
            rw [wrap_i64 (n := X2 - a) (by omega) (by omega)]
            refine ih (some (some (0, X2 - a, (-1), [X2 - a], [M], j2, l2))) ⟨⟨by omega, by omega⟩, by omega, rfl, rfl, hj2, by omega, ?_⟩ (by simp only; omega)
            rw [hfu, if_neg (by rw [hX]; exact q2), hX, if_neg q1]
            all_goals rfl
        · rw [ltI_eq] at q2
          have q2 := of_decide_eq_true q2
          rw [hfu, if_pos (by rw [hX]; exact q2), hX, if_neg q1]
          conv => whnf
          exact ⟨rfl, _, _, _, rfl⟩
      · rw [eqI_eq] at q1
        have q1 := of_decide_eq_true q1
        conv => whnf
        rw [hb1]
        conv => whnf
        rw [encI_get1 ha]
        conv => whnf
        cases q2 : ltI X2 a
        · rw [ltI_eq] at q2
          have q2 := of_decide_eq_false q2
          conv => whnf
          by_cases hM0 : 0 < M
          · rcases j' with _ | j'
            · refine Sm.mono (addA none s st ds 0 0 M l' hM0 (by omega)) ?_
              rintro v h ⟨rfl, rfl⟩
              conv => whnf
              rw [hb1]
              conv => whnf
              rw [encI_get1 ha]
              conv => whnf
              refine Sm.mono (remove_ok' none s st ds 0 a 1 0 (l'.length + 1) 1 [(0, l'.length * 2)] (encP (l' ++ [(0, M)])) (l' ++ [(0, M)]) rfl (rd_all _ _ (by simp)) (by simp) (by omega)) ?_
              rintro v h ⟨rfl, j2, l2, hl2, hj2, rfl⟩
              conv => whnf
              rw [hb1]
              conv => whnf
              rw [encI_get1 ha]
              conv => whnf
              rw [wrap_i64 (n := X2 - a) (by omega) (by omega)]
              refine ih (some (some (0, X2 - a, 0, [X2 - a], [M], j2, l2))) ⟨⟨by omega, by omega⟩, by omega, rfl, rfl, hj2, by omega, ?_⟩ (by simp only; omega)
              rw [hfu, if_neg (by rw [hX]; exact q2), hX, if_pos q1]
              all_goals rfl
            · refine Sm.mono (addB none s st ds 0 0 M j' l' hM0 (by omega) hj') ?_
              rintro v h ⟨rfl, rfl⟩
              conv => whnf
              rw [hb1]
              conv => whnf
              rw [encI_get1 ha]
              conv => whnf
              refine Sm.mono (remove_ok' none s st ds 0 a 0 0 (l'.length - (j' + 1) + 1) 0 [] (encP (l'.drop (j' + 1) ++ [(0, M)])) (l'.drop (j' + 1) ++ [(0, M)]) rfl (rd_all _ _ (by simp)) (by simp) (by omega)) ?_
              rintro v h ⟨rfl, j2, l2, hl2, hj2, rfl⟩
              conv => whnf
              rw [hb1]
              conv => whnf
              rw [encI_get1 ha]
              conv => whnf
              rw [wrap_i64 (n := X2 - a) (by omega) (by omega)]
              refine ih (some (some (0, X2 - a, 0, [X2 - a], [M], j2, l2))) ⟨⟨by omega, by omega⟩, by omega, rfl, rfl, hj2, by omega, ?_⟩ (by simp only; omega)
              rw [hfu, if_neg (by rw [hX]; exact q2), hX, if_pos q1]
              all_goals rfl
          · refine Sm.mono (addN none s st ds 0 0 M j' (l'.length - j') l' hM0) ?_
            rintro v h ⟨rfl, rfl⟩
            conv => whnf
            rw [hb1]
            conv => whnf
            rw [encI_get1 ha]
            conv => whnf
            refine Sm.mono (remove_ok' none s st ds 0 a 0 (j' * 2) (l'.length - j') 0 [(0, l'.length * 2)] (encP l') (l'.drop j') (may_end (by omega)) (rd_drop _ _ hj') (by simp) (by omega)) ?_
            rintro v h ⟨rfl, j2, l2, hl2, hj2, rfl⟩
            conv => whnf
            rw [hb1]
            conv => whnf
            rw [encI_get1 ha]
            conv => whnf
            rw [wrap_i64 (n := X2 - a) (by omega) (by omega)]
            refine ih (some (some (0, X2 - a, 0, [X2 - a], [M], j2, l2))) ⟨⟨by omega, by omega⟩, by omega, rfl, rfl, hj2, by omega, ?_⟩ (by simp only; omega)
            rw [hfu, if_neg (by rw [hX]; exact q2), hX, if_pos q1]
            all_goals rfl
        · rw [ltI_eq] at q2
          have q2 := of_decide_eq_true q2
          rw [hfu, if_pos (by rw [hX]; exact q2), hX, if_pos q1]
          conv => whnf
          exact ⟨rfl, _, _, _, rfl⟩
    · have hlt : 0 < ds.length := by omega
      have hb1 : Nat.blt 0 n.length = true := by simp [Nat.blt_eq]; omega
      have hb2 : Nat.blt 0 m.length = true := by simp [Nat.blt_eq]; omega
      have hb3 : Nat.blt 0 l.length = true := by simp [Nat.blt_eq]; omega
      obtain ⟨a, ha⟩ : ∃ a, n[0]? = some a := ⟨n[0]'(by omega), by simp⟩
      obtain ⟨b, hbb⟩ : ∃ a, m[0]? = some a := ⟨m[0]'(by omega), by simp⟩
      obtain ⟨c, hcc⟩ : ∃ a, l[0]? = some a := ⟨l[0]'(by omega), by simp⟩
      obtain ⟨B1, B2, B3⟩ := hB 0 a b c ha hbb hcc
      have hfu := fu_at (st := st) (zip3_at ha hbb hcc) s (-1)
      simp only [List.drop_zero] at hfu
      conv => whnf
      cases h1 : ltI (0 : Int) (ds.length : Int)
      · rw [ltI_eq] at h1; have := of_decide_eq_false h1; omega
      conv => whnf
      rw [hb3]
      conv => whnf
      rw [encI_get1 hcc]
      conv => whnf
      refine Sm.mono (remove_ok' none s st ds (-1) (minI s c) 0 0 1 0 [] (encP [(-1, s)]) [(-1, s)] rfl rfl rfl (by omega)) ?_
      rintro v h ⟨rfl, j', l', hl', hj', rfl⟩
      conv => whnf
      rw [hb2]
      conv => whnf
      rw [encI_get1 hbb]
      conv => whnf
      rw [minI_eq s c, wrap_i64 (n := s - min s c) (by omega) (by omega)]
      obtain ⟨X1, hX1⟩ : ∃ X1, X1 = s - min s c := ⟨_, rfl⟩
      rw [← hX1, wrap_i64 (n := st - X1) (by omega) (by omega), minI_eq b (st - X1)]
      obtain ⟨M, hM⟩ : ∃ M, M = min b (st - X1) := ⟨_, rfl⟩
      rw [← hM, wrap_i64 (n := X1 + M) (by omega) (by omega)]
      obtain ⟨X2, hX2⟩ : ∃ X2, X2 = X1 + M := ⟨_, rfl⟩
      rw [← hX2]
      have hX : stp st (a, b, c) s = X2 := by unfold stp; simp only; omega

      cases q1 : eqI X2 st
      · rw [eqI_eq] at q1
        have q1 := of_decide_eq_false q1
        conv => whnf
        rw [hb1]
        conv => whnf
        rw [encI_get1 ha]
        conv => whnf
        cases q2 : ltI X2 a
        · rw [ltI_eq] at q2
          have q2 := of_decide_eq_false q2
          conv => whnf
          by_cases hM0 : 0 < M
          · rcases j' with _ | j'
            · refine Sm.mono (addA none s st ds (-1) 0 M l' hM0 (by omega)) ?_
              rintro v h ⟨rfl, rfl⟩
              conv => whnf
              rw [hb1]
              conv => whnf
              rw [encI_get1 ha]
              conv => whnf
              refine Sm.mono (remove_ok' none s st ds (-1) a 1 0 (l'.length + 1) 1 [(0, l'.length * 2)] (encP (l' ++ [(0, M)])) (l' ++ [(0, M)]) rfl (rd_all _ _ (by simp)) (by simp) (by omega)) ?_
              rintro v h ⟨rfl, j2, l2, hl2, hj2, rfl⟩
              conv => whnf
              rw [hb1]
              conv => whnf
              rw [encI_get1 ha]
              conv => whnf
              rw [wrap_i64 (n := X2 - a) (by omega) (by omega)]
              refine ih (some (some (0, X2 - a, (-1), [X2 - a], [M], j2, l2))) ⟨⟨by omega, by omega⟩, by omega, rfl, rfl, hj2, by omega, ?_⟩ (by simp only; omega)
              rw [hfu, if_neg (by rw [hX]; exact q2), hX, if_neg q1]
              all_goals rfl
            · refine Sm.mono (addB none s st ds (-1) 0 M j' l' hM0 (by omega) hj') ?_
              rintro v h ⟨rfl, rfl⟩
              conv => whnf
              rw [hb1]
              conv => whnf
              rw [encI_get1 ha]
              conv => whnf
              refine Sm.mono (remove_ok' none s st ds (-1) a 0 0 (l'.length - (j' + 1) + 1) 0 [] (encP (l'.drop (j' + 1) ++ [(0, M)])) (l'.drop (j' + 1) ++ [(0, M)]) rfl (rd_all _ _ (by simp)) (by simp) (by omega)) ?_
              rintro v h ⟨rfl, j2, l2, hl2, hj2, rfl⟩
              conv => whnf
              rw [hb1]
              conv => whnf
              rw [encI_get1 ha]
              conv => whnf
              rw [wrap_i64 (n := X2 - a) (by omega) (by omega)]
              refine ih (some (some (0, X2 - a, (-1), [X2 - a], [M], j2, l2))) ⟨⟨by omega, by omega⟩, by omega, rfl, rfl, hj2, by omega, ?_⟩ (by simp only; omega)
              rw [hfu, if_neg (by rw [hX]; exact q2), hX, if_neg q1]
              all_goals rfl
          · refine Sm.mono (addN none s st ds (-1) 0 M j' (l'.length - j') l' hM0) ?_
            rintro v h ⟨rfl, rfl⟩
            conv => whnf
            rw [hb1]
            conv => whnf
            rw [encI_get1 ha]
            conv => whnf
            refine Sm.mono (remove_ok' none s st ds (-1) a 0 (j' * 2) (l'.length - j') 0 [(0, l'.length * 2)] (encP l') (l'.drop j') (may_end (by omega)) (rd_drop _ _ hj') (by simp) (by omega)) ?_
            rintro v h ⟨rfl, j2, l2, hl2, hj2, rfl⟩
            conv => whnf
            rw [hb1]
            conv => whnf
            rw [encI_get1 ha]
            conv => whnf
            rw [wrap_i64 (n := X2 - a) (by omega) (by omega)]
            refine ih (some (some (0, X2 - a, (-1), [X2 - a], [M], j2, l2))) ⟨⟨by omega, by omega⟩, by omega, rfl, rfl, hj2, by omega, ?_⟩ (by simp only; omega)
            rw [hfu, if_neg (by rw [hX]; exact q2), hX, if_neg q1]
            all_goals rfl
        · rw [ltI_eq] at q2
          have q2 := of_decide_eq_true q2
          rw [hfu, if_pos (by rw [hX]; exact q2), hX, if_neg q1]
          conv => whnf
          exact ⟨rfl, _, _, _, rfl⟩
      · rw [eqI_eq] at q1
        have q1 := of_decide_eq_true q1
        conv => whnf
        rw [hb1]
        conv => whnf
        rw [encI_get1 ha]
        conv => whnf
        cases q2 : ltI X2 a
        · rw [ltI_eq] at q2
          have q2 := of_decide_eq_false q2
          conv => whnf
          by_cases hM0 : 0 < M
          · rcases j' with _ | j'
            · refine Sm.mono (addA none s st ds 0 0 M l' hM0 (by omega)) ?_
              rintro v h ⟨rfl, rfl⟩
              conv => whnf
              rw [hb1]
              conv => whnf
              rw [encI_get1 ha]
              conv => whnf
              refine Sm.mono (remove_ok' none s st ds 0 a 1 0 (l'.length + 1) 1 [(0, l'.length * 2)] (encP (l' ++ [(0, M)])) (l' ++ [(0, M)]) rfl (rd_all _ _ (by simp)) (by simp) (by omega)) ?_
              rintro v h ⟨rfl, j2, l2, hl2, hj2, rfl⟩
              conv => whnf
              rw [hb1]
              conv => whnf
              rw [encI_get1 ha]
              conv => whnf
              rw [wrap_i64 (n := X2 - a) (by omega) (by omega)]
              refine ih (some (some (0, X2 - a, 0, [X2 - a], [M], j2, l2))) ⟨⟨by omega, by omega⟩, by omega, rfl, rfl, hj2, by omega, ?_⟩ (by simp only; omega)
              rw [hfu, if_neg (by rw [hX]; exact q2), hX, if_pos q1]
              all_goals rfl
            · refine Sm.mono (addB none s st ds 0 0 M j' l' hM0 (by omega) hj') ?_
              rintro v h ⟨rfl, rfl⟩
              conv => whnf
              rw [hb1]
              conv => whnf
              rw [encI_get1 ha]
              conv => whnf
              refine Sm.mono (remove_ok' none s st ds 0 a 0 0 (l'.length - (j' + 1) + 1) 0 [] (encP (l'.drop (j' + 1) ++ [(0, M)])) (l'.drop (j' + 1) ++ [(0, M)]) rfl (rd_all _ _ (by simp)) (by simp) (by omega)) ?_
              rintro v h ⟨rfl, j2, l2, hl2, hj2, rfl⟩
              conv => whnf
              rw [hb1]
              conv => whnf
              rw [encI_get1 ha]
              conv => whnf
              rw [wrap_i64 (n := X2 - a) (by omega) (by omega)]
              refine ih (some (some (0, X2 - a, 0, [X2 - a], [M], j2, l2))) ⟨⟨by omega, by omega⟩, by omega, rfl, rfl, hj2, by omega, ?_⟩ (by simp only; omega)
              rw [hfu, if_neg (by rw [hX]; exact q2), hX, if_pos q1]
              all_goals rfl
          · refine Sm.mono (addN none s st ds 0 0 M j' (l'.length - j') l' hM0) ?_
            rintro v h ⟨rfl, rfl⟩
            conv => whnf
            rw [hb1]
            conv => whnf
            rw [encI_get1 ha]
            conv => whnf
            refine Sm.mono (remove_ok' none s st ds 0 a 0 (j' * 2) (l'.length - j') 0 [(0, l'.length * 2)] (encP l') (l'.drop j') (may_end (by omega)) (rd_drop _ _ hj') (by simp) (by omega)) ?_
            rintro v h ⟨rfl, j2, l2, hl2, hj2, rfl⟩
            conv => whnf
            rw [hb1]
            conv => whnf
            rw [encI_get1 ha]
            conv => whnf
            rw [wrap_i64 (n := X2 - a) (by omega) (by omega)]
            refine ih (some (some (0, X2 - a, 0, [X2 - a], [M], j2, l2))) ⟨⟨by omega, by omega⟩, by omega, rfl, rfl, hj2, by omega, ?_⟩ (by simp only; omega)
            rw [hfu, if_neg (by rw [hX]; exact q2), hX, if_pos q1]
            all_goals rfl
        · rw [ltI_eq] at q2
          have q2 := of_decide_eq_true q2
          rw [hfu, if_pos (by rw [hX]; exact q2), hX, if_pos q1]
          conv => whnf
          exact ⟨rfl, _, _, _, rfl⟩
    · obtain ⟨⟨hs1, hs2⟩, hkl, hx, hy, hj, hlp, hI⟩ := hI
      have eS : ∀ (l : List Int) (x : Int), encI l ++ [D.int .i64 x] = encI (l ++ [x]) := fun l x => (encI_snoc l x).symm
      conv => whnf
      cases h1 : ltI ((k + 1 : Nat) : Int) (ds.length : Int)
      · have hn : ds.length ≤ k + 1 := by rw [ltI_eq] at h1; have := of_decide_eq_false h1; omega
        rw [hI, List.drop_eq_nil_of_le (by omega), fu]
        conv => whnf
        rw [frz_run]
        case hg => rfl
        case hx => exact frz_slice rfl (may_all ..) (rd_encI hx)
        case hy => exact frz_slice rfl (may_all ..) (rd_encI hy)
        case hz => exact frz_slice rfl (may_end (by omega)) (rd_encP lp j hj)
        conv => whnf
        exact ⟨rfl, _, _, _, rfl⟩
      have hlt : k + 1 < ds.length := by rw [ltI_eq] at h1; have := of_decide_eq_true h1; omega
      have hb1 : Nat.blt (k + 1) n.length = true := by simp [Nat.blt_eq]; omega
      have hb2 : Nat.blt (k + 1) m.length = true := by simp [Nat.blt_eq]; omega
      have hb3 : Nat.blt (k + 1) l.length = true := by simp [Nat.blt_eq]; omega
      obtain ⟨a, ha⟩ : ∃ a, n[k + 1]? = some a := ⟨n[k + 1]'(by omega), by simp⟩
      obtain ⟨b, hbb⟩ : ∃ a, m[k + 1]? = some a := ⟨m[k + 1]'(by omega), by simp⟩
      obtain ⟨c, hcc⟩ : ∃ a, l[k + 1]? = some a := ⟨l[k + 1]'(by omega), by simp⟩
      obtain ⟨B1, B2, B3⟩ := hB (k + 1) a b c ha hbb hcc
      have hfu := fu_at (st := st) (zip3_at ha hbb hcc) s' f
      conv => whnf
      rw [hb3]
      conv => whnf
      rw [encI_get1 hcc]
      conv => whnf
      refine Sm.mono (remove_ok' (some (k, x, y)) s st ds f (minI s' c) 0 (j * 2) (lp.length - j) 0 [(0, lp.length * 2)] (encP lp) (lp.drop j) (may_end (by omega)) (rd_drop _ _ hj) (by simp) (by omega)) ?_
      rintro v h ⟨rfl, j', l', hl', hj', rfl⟩
      conv => whnf
      rw [hb2]
      conv => whnf
      rw [encI_get1 hbb]
      conv => whnf
      rw [minI_eq s' c, wrap_i64 (n := s' - min s' c) (by omega) (by omega)]
      obtain ⟨X1, hX1⟩ : ∃ X1, X1 = s' - min s' c := ⟨_, rfl⟩
      rw [← hX1, wrap_i64 (n := st - X1) (by omega) (by omega), minI_eq b (st - X1)]
      obtain ⟨M, hM⟩ : ∃ M, M = min b (st - X1) := ⟨_, rfl⟩
      rw [← hM, wrap_i64 (n := X1 + M) (by omega) (by omega)]
      obtain ⟨X2, hX2⟩ : ∃ X2, X2 = X1 + M := ⟨_, rfl⟩
      rw [← hX2]
      have hX : stp st (a, b, c) s' = X2 := by unfold stp; simp only; omega

      cases q1 : eqI X2 st
      · rw [eqI_eq] at q1
        have q1 := of_decide_eq_false q1
        conv => whnf
        rw [hb1]
        conv => whnf
        rw [encI_get1 ha]
        conv => whnf
        cases q2 : ltI X2 a
        · rw [ltI_eq] at q2
          have q2 := of_decide_eq_false q2
          conv => whnf
          by_cases hM0 : 0 < M
          · rcases j' with _ | j'
            · refine Sm.mono (addA (some (k, x, y)) s st ds f ((k + 1 : Nat) : Int) M l' hM0 (by omega)) ?_
              rintro v h ⟨rfl, rfl⟩
              conv => whnf
              rw [hb1]
              conv => whnf
              rw [encI_get1 ha]
              conv => whnf
              refine Sm.mono (remove_ok' (some (k, x, y)) s st ds f a 1 0 (l'.length + 1) 1 [(0, l'.length * 2)] (encP (l' ++ [(((k + 1 : Nat) : Int), M)])) (l' ++ [(((k + 1 : Nat) : Int), M)]) rfl (rd_all _ _ (by simp)) (by simp) (by omega)) ?_
              rintro v h ⟨rfl, j2, l2, hl2, hj2, rfl⟩
              conv => whnf
              rw [hb1]
              conv => whnf
              rw [encI_get1 ha]
              conv => whnf
              rw [wrap_i64 (n := X2 - a) (by omega) (by omega)]
              rw [show Nat.ble ((k + 1 + 1) * 8) 140737488355328 = true from Nat.ble_eq_true_of_le (by omega)]
              conv => whnf
              rw [may_all]
              conv => whnf
              rw [show Nat.ble ((k + 1 + 1) * 8) 140737488355328 = true from Nat.ble_eq_true_of_le (by omega)]
              conv => whnf
              rw [may_all]
              conv => whnf
              rw [len_beq hx, len_beq hy, wrap_succ (by omega), List.take_of_length_le (by rw [encI_length]; omega), List.take_of_length_le (by rw [encI_length]; omega), eS, eS]
              refine ih (some (some (k + 1, X2 - a, f, x ++ [X2 - a], y ++ [M], j2, l2))) ⟨⟨by omega, by omega⟩, by omega, by simp [hx], by simp [hy], hj2, by omega, ?_⟩ (by simp only; omega)
              rw [hI, hfu, if_neg (by rw [hX]; exact q2), hX, if_neg q1]
            · refine Sm.mono (addB (some (k, x, y)) s st ds f ((k + 1 : Nat) : Int) M j' l' hM0 (by omega) hj') ?_
              rintro v h ⟨rfl, rfl⟩
              conv => whnf
              rw [hb1]
              conv => whnf
              rw [encI_get1 ha]
              conv => whnf
              refine Sm.mono (remove_ok' (some (k, x, y)) s st ds f a 0 0 (l'.length - (j' + 1) + 1) 0 [] (encP (l'.drop (j' + 1) ++ [(((k + 1 : Nat) : Int), M)])) (l'.drop (j' + 1) ++ [(((k + 1 : Nat) : Int), M)]) rfl (rd_all _ _ (by simp)) (by simp) (by omega)) ?_
              rintro v h ⟨rfl, j2, l2, hl2, hj2, rfl⟩
              conv => whnf
              rw [hb1]
              conv => whnf
              rw [encI_get1 ha]
              conv => whnf
              rw [wrap_i64 (n := X2 - a) (by omega) (by omega)]
              rw [show Nat.ble ((k + 1 + 1) * 8) 140737488355328 = true from Nat.ble_eq_true_of_le (by omega)]
              conv => whnf
              rw [may_all]
              conv => whnf
              rw [show Nat.ble ((k + 1 + 1) * 8) 140737488355328 = true from Nat.ble_eq_true_of_le (by omega)]
              conv => whnf
              rw [may_all]
              conv => whnf
              rw [len_beq hx, len_beq hy, wrap_succ (by omega), List.take_of_length_le (by rw [encI_length]; omega), List.take_of_length_le (by rw [encI_length]; omega), eS, eS]
              refine ih (some (some (k + 1, X2 - a, f, x ++ [X2 - a], y ++ [M], j2, l2))) ⟨⟨by omega, by omega⟩, by omega, by simp [hx], by simp [hy], hj2, by omega, ?_⟩ (by simp only; omega)
              rw [hI, hfu, if_neg (by rw [hX]; exact q2), hX, if_neg q1]
          · refine Sm.mono (addN (some (k, x, y)) s st ds f ((k + 1 : Nat) : Int) M j' (l'.length - j') l' hM0) ?_
            rintro v h ⟨rfl, rfl⟩
            conv => whnf
            rw [hb1]
            conv => whnf
            rw [encI_get1 ha]
            conv => whnf
            refine Sm.mono (remove_ok' (some (k, x, y)) s st ds f a 0 (j' * 2) (l'.length - j') 0 [(0, l'.length * 2)] (encP l') (l'.drop j') (may_end (by omega)) (rd_drop _ _ hj') (by simp) (by omega)) ?_
            rintro v h ⟨rfl, j2, l2, hl2, hj2, rfl⟩
            conv => whnf
            rw [hb1]
            conv => whnf
            rw [encI_get1 ha]
            conv => whnf
            rw [wrap_i64 (n := X2 - a) (by omega) (by omega)]
            rw [show Nat.ble ((k + 1 + 1) * 8) 140737488355328 = true from Nat.ble_eq_true_of_le (by omega)]
            conv => whnf
            rw [may_all]
            conv => whnf
            rw [show Nat.ble ((k + 1 + 1) * 8) 140737488355328 = true from Nat.ble_eq_true_of_le (by omega)]
            conv => whnf
            rw [may_all]
            conv => whnf
            rw [len_beq hx, len_beq hy, wrap_succ (by omega), List.take_of_length_le (by rw [encI_length]; omega), List.take_of_length_le (by rw [encI_length]; omega), eS, eS]
            refine ih (some (some (k + 1, X2 - a, f, x ++ [X2 - a], y ++ [M], j2, l2))) ⟨⟨by omega, by omega⟩, by omega, by simp [hx], by simp [hy], hj2, by omega, ?_⟩ (by simp only; omega)
            rw [hI, hfu, if_neg (by rw [hX]; exact q2), hX, if_neg q1]
        · rw [ltI_eq] at q2
          have q2 := of_decide_eq_true q2
          rw [hI, hfu, if_pos (by rw [hX]; exact q2), hX, if_neg q1]
          conv => whnf
          rw [frz_run]
          case hg => rfl
          case hx => exact frz_slice rfl (may_all ..) (rd_encI hx)
          case hy => exact frz_slice rfl (may_all ..) (rd_encI hy)
          case hz => exact frz_slice rfl (may_end (by omega)) (rd_encP lp j hj)
          conv => whnf
          exact ⟨rfl, _, _, _, rfl⟩
      · rw [eqI_eq] at q1
        have q1 := of_decide_eq_true q1
        conv => whnf
        rw [hb1]
        conv => whnf
        rw [encI_get1 ha]
        conv => whnf
        cases q2 : ltI X2 a
        · rw [ltI_eq] at q2
          have q2 := of_decide_eq_false q2
          conv => whnf
          by_cases hM0 : 0 < M
          · rcases j' with _ | j'
            · refine Sm.mono (addA (some (k, x, y)) s st ds ((k + 1 : Nat) : Int) ((k + 1 : Nat) : Int) M l' hM0 (by omega)) ?_
              rintro v h ⟨rfl, rfl⟩
              conv => whnf
              rw [hb1]
              conv => whnf
              rw [encI_get1 ha]
              conv => whnf
              refine Sm.mono (remove_ok' (some (k, x, y)) s st ds ((k + 1 : Nat) : Int) a 1 0 (l'.length + 1) 1 [(0, l'.length * 2)] (encP (l' ++ [(((k + 1 : Nat) : Int), M)])) (l' ++ [(((k + 1 : Nat) : Int), M)]) rfl (rd_all _ _ (by simp)) (by simp) (by omega)) ?_
              rintro v h ⟨rfl, j2, l2, hl2, hj2, rfl⟩
              conv => whnf
              rw [hb1]
              conv => whnf
              rw [encI_get1 ha]
              conv => whnf
              rw [wrap_i64 (n := X2 - a) (by omega) (by omega)]
              rw [show Nat.ble ((k + 1 + 1) * 8) 140737488355328 = true from Nat.ble_eq_true_of_le (by omega)]
              conv => whnf
              rw [may_all]
              conv => whnf
              rw [show Nat.ble ((k + 1 + 1) * 8) 140737488355328 = true from Nat.ble_eq_true_of_le (by omega)]
              conv => whnf
              rw [may_all]
              conv => whnf
              rw [len_beq hx, len_beq hy, wrap_succ (by omega), List.take_of_length_le (by rw [encI_length]; omega), List.take_of_length_le (by rw [encI_length]; omega), eS, eS]
              refine ih (some (some (k + 1, X2 - a, ((k + 1 : Nat) : Int), x ++ [X2 - a], y ++ [M], j2, l2))) ⟨⟨by omega, by omega⟩, by omega, by simp [hx], by simp [hy], hj2, by omega, ?_⟩ (by simp only; omega)
              rw [hI, hfu, if_neg (by rw [hX]; exact q2), hX, if_pos q1]
            · refine Sm.mono (addB (some (k, x, y)) s st ds ((k + 1 : Nat) : Int) ((k + 1 : Nat) : Int) M j' l' hM0 (by omega) hj') ?_
              rintro v h ⟨rfl, rfl⟩
              conv => whnf
              rw [hb1]
              conv => whnf
              rw [encI_get1 ha]
              conv => whnf
              refine Sm.mono (remove_ok' (some (k, x, y)) s st ds ((k + 1 : Nat) : Int) a 0 0 (l'.length - (j' + 1) + 1) 0 [] (encP (l'.drop (j' + 1) ++ [(((k + 1 : Nat) : Int), M)])) (l'.drop (j' + 1) ++ [(((k + 1 : Nat) : Int), M)]) rfl (rd_all _ _ (by simp)) (by simp) (by omega)) ?_
              rintro v h ⟨rfl, j2, l2, hl2, hj2, rfl⟩
              conv => whnf
              rw [hb1]
              conv => whnf
              rw [encI_get1 ha]
              conv => whnf
              rw [wrap_i64 (n := X2 - a) (by omega) (by omega)]
              rw [show Nat.ble ((k + 1 + 1) * 8) 140737488355328 = true from Nat.ble_eq_true_of_le (by omega)]
              conv => whnf
              rw [may_all]
              conv => whnf
              rw [show Nat.ble ((k + 1 + 1) * 8) 140737488355328 = true from Nat.ble_eq_true_of_le (by omega)]
              conv => whnf
              rw [may_all]
              conv => whnf
              rw [len_beq hx, len_beq hy, wrap_succ (by omega), List.take_of_length_le (by rw [encI_length]; omega), List.take_of_length_le (by rw [encI_length]; omega), eS, eS]
              refine ih (some (some (k + 1, X2 - a, ((k + 1 : Nat) : Int), x ++ [X2 - a], y ++ [M], j2, l2))) ⟨⟨by omega, by omega⟩, by omega, by simp [hx], by simp [hy], hj2, by omega, ?_⟩ (by simp only; omega)
              rw [hI, hfu, if_neg (by rw [hX]; exact q2), hX, if_pos q1]
          · refine Sm.mono (addN (some (k, x, y)) s st ds ((k + 1 : Nat) : Int) ((k + 1 : Nat) : Int) M j' (l'.length - j') l' hM0) ?_
            rintro v h ⟨rfl, rfl⟩
            conv => whnf
            rw [hb1]
            conv => whnf
            rw [encI_get1 ha]
            conv => whnf
            refine Sm.mono (remove_ok' (some (k, x, y)) s st ds ((k + 1 : Nat) : Int) a 0 (j' * 2) (l'.length - j') 0 [(0, l'.length * 2)] (encP l') (l'.drop j') (may_end (by omega)) (rd_drop _ _ hj') (by simp) (by omega)) ?_
            rintro v h ⟨rfl, j2, l2, hl2, hj2, rfl⟩
            conv => whnf
            rw [hb1]
            conv => whnf
            rw [encI_get1 ha]
            conv => whnf
            rw [wrap_i64 (n := X2 - a) (by omega) (by omega)]
            rw [show Nat.ble ((k + 1 + 1) * 8) 140737488355328 = true from Nat.ble_eq_true_of_le (by omega)]
            conv => whnf
            rw [may_all]
            conv => whnf
            rw [show Nat.ble ((k + 1 + 1) * 8) 140737488355328 = true from Nat.ble_eq_true_of_le (by omega)]
            conv => whnf
            rw [may_all]
            conv => whnf
            rw [len_beq hx, len_beq hy, wrap_succ (by omega), List.take_of_length_le (by rw [encI_length]; omega), List.take_of_length_le (by rw [encI_length]; omega), eS, eS]
            refine ih (some (some (k + 1, X2 - a, ((k + 1 : Nat) : Int), x ++ [X2 - a], y ++ [M], j2, l2))) ⟨⟨by omega, by omega⟩, by omega, by simp [hx], by simp [hy], hj2, by omega, ?_⟩ (by simp only; omega)
            rw [hI, hfu, if_neg (by rw [hX]; exact q2), hX, if_pos q1]
        · rw [ltI_eq] at q2
          have q2 := of_decide_eq_true q2
          rw [hI, hfu, if_pos (by rw [hX]; exact q2), hX, if_pos q1]
          conv => whnf
          rw [frz_run]
          case hg => rfl
          case hx => exact frz_slice rfl (may_all ..) (rd_encI hx)
          case hy => exact frz_slice rfl (may_all ..) (rd_encI hy)
          case hz => exact frz_slice rfl (may_end (by omega)) (rd_encP lp j hj)
          conv => whnf
          exact ⟨rfl, _, _, _, rfl⟩
end Go.Proofs.Hx
