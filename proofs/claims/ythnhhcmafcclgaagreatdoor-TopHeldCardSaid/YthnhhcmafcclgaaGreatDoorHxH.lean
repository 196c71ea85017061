/-
  TopHeld: snow is removed.
-/
import Derived.Test.YthnhhcmafcclgaaGreatDoorHxG
namespace Go.Proofs.Hx
open Go Go.Ab Go.Proofs.Hw
set_option maxRecDepth 100000
set_option maxHeartbeats 1000000
theorem remove0 (s st : Int) (ds : List Dy6) (much : Int) :
    Sm Tryz.prog E 39 [.ptr 0 0 0 8, .d (.int .i64 much)] [.row (.ds [.int .i64 s, .int .i64 st, .slice ds.length 6 (encW ds), .int .i64 (-1), .nil, .nil, .int .i64 (-1), .nil]) 0 0 []]
      (fun v h => v = .d (.tuple []) ∧ h = pre none s st ds (-1) (-1) (.slice 1 0 (0 * 2) (0 - 0) 2) ++ [.row (.ds (encP [])) 0 0 [(0, 0 * 2)]]) := by
  refine sm_of HE true (by kernel_rfl) ?_
  conv => whnf
  refine ⟨1, ?_⟩
  conv => whnf
  exact ⟨rfl, rfl⟩
def RemQ (x : Option (Nat × List Int × List Int)) (s st : Int) (ds : List Dy6) (full : Int) (old : O) (n : Nat) (v : V) (h : List O) : Prop :=
  v = .d (.tuple []) ∧ ∃ (j : Nat) (l : List (Int × Int)), l.length = n ∧ j ≤ n ∧ h = pre x s st ds (-1) full (.slice (PN x + 1) 0 (j * 2) (n - j) 2) ++ [old, .row (.ds (encP l)) 0 0 [(0, n * 2)]]
theorem zeros_row (n : Nat) : Cells.ofV ((List.replicate n (List.map V.d (List.map absS (Value.agg #[Value.int .i64 0, Value.int .i64 0]).cells.toList))).flatten) = .ds (encP (List.replicate n (0, 0))) := by
  have : (List.replicate n (List.map V.d (List.map absS (Value.agg #[Value.int .i64 0, Value.int .i64 0]).cells.toList))).flatten = (encP (List.replicate n (0, 0))).map V.d := by
    induction n with
    | zero => rfl
    | succ n ih =>
      rw [List.replicate_succ, List.flatten_cons, ih, List.replicate_succ]
      rfl
  rw [this, ofV_map]
theorem el65 : (match elemOfT E 65 with | some i => Nat.beq i.size 2 | none => false) = true := by kernel_rfl
theorem setO_same : ∀ {h : List O} {b : Nat} {o : O}, getO h b = o → b < h.length → setO h b o = h
  | [], _, _, _, hb => by simp at hb
  | x :: h, 0, o, hg, _ => by subst hg; rfl
  | x :: h, b + 1, o, hg, hb => by
    show x :: setO h b o = x :: h
    rw [setO_same (h := h) hg (by simpa using hb)]
theorem wr_all : ∀ {l m : List D}, l.length = m.length → wr l 0 m = m
  | [], [], _ => rfl
  | _ :: l, x :: m, h => by
    show x :: wr l 0 m = _
    rw [wr_all (by simpa using h)]
  | [], _ :: _, h => by simp at h
  | _ :: _, [], h => by simp at h
theorem copyO_piles {h : List O} {b n : Nat} {x : V} {l : List (Int × Int)} (hg : getO h b = .row (.ds (encP (List.replicate n (0, 0)))) 0 0 [(0, n * 2)]) (hb : b < h.length)
    (hx : rowOf 2 h x = some (n, (encP l).map V.d)) (hn : l.length = n) : copyO E h 65 (.slice b 0 0 n 2) x = some (.d (.int .i64 n), setO h b (.row (.ds (encP l)) 0 0 [(0, n * 2)])) := by
  have h65 := el65
  unfold copyO
  cases he : elemOfT E 65 with
  | none => rw [he] at h65; cases h65
  | some i =>
    rw [he] at h65
    have hs : i.size = 2 := Nat.eq_of_beq_eq_true h65
    simp only [hs, hx, hg]
    rw [show Nat.beq 2 2 = true from rfl, show Nat.beq 0 0 = true from rfl, may_end (by omega)]
    simp only
    rw [show Nat.min n n = n from Nat.min_self n]
    cases n with
    | zero =>
      simp only
      obtain rfl : l = [] := List.eq_nil_of_length_eq_zero hn
      rw [setO_same (o := .row (.ds (encP [])) 0 0 [(0, 0 * 2)]) hg hb]; rfl
    | succ k =>
      have hl := encP_length l
      have hr : (encP (List.replicate (k + 1) ((0 : Int), (0 : Int)))).length = (k + 1) * 2 := by rw [encP_length, List.length_replicate]
      simp only
      rw [List.take_of_length_le (by simp; omega)]
      unfold Cells.write
      simp only [Cells.len, List.length_map]
      rw [show Nat.ble (0 + (encP l).length) (encP (List.replicate (k + 1) ((0 : Int), (0 : Int)))).length = true from Nat.ble_eq_true_of_le (by omega), allD_map]
      simp only
      rw [wr_all (by omega)]
theorem eff_copy {ρ : Operand → V} {h : List O} {a c b n : Nat} {x : V} {l : List (Int × Int)} (h1 : ρ (.tmp a) = .slice b 0 0 n 2) (h2 : ρ (.tmp c) = x)
    (h3 : getO h b = .row (.ds (encP (List.replicate n (0, 0)))) 0 0 [(0, n * 2)]) (h4 : b < h.length) (h5 : rowOf 2 h x = some (n, (encP l).map V.d)) (h6 : l.length = n) :
    effectO E ρ h (Op.call { callee := Callee.builtin Builtin.copy, args := #[Operand.tmp a, Operand.tmp c], argTypes := #[65, 65] }) = some (.d (.int .i64 n), setO h b (.row (.ds (encP l)) 0 0 [(0, n * 2)]), [b]) := by
  have e : effectO E ρ h (Op.call { callee := Callee.builtin Builtin.copy, args := #[Operand.tmp a, Operand.tmp c], argTypes := #[65, 65] }) =
    match copyO E h 65 (ρ (.tmp a)) (ρ (.tmp c)) with | some (v, h') => some (v, h', namesV (ρ (.tmp a))) | none => none := rfl
  rw [e, h1, h2, copyO_piles h3 h4 h5 h6]; rfl
theorem write_pile {l : List (Int × Int)} {p : Int × Int} {j : Nat} {w : Int} (h : l[j]? = some p) : (Cells.ds (encP l)).write (j * 2 + 0 * 2 + 1) [V.d (D.int .i64 w)] = some (.ds (encP (l.set j (p.1, w)))) := by
  have hj := (List.getElem?_eq_some_iff.1 h).1
  have hel := encP_length l
  unfold Cells.write
  rw [show Nat.ble (j * 2 + 0 * 2 + 1 + [V.d (D.int .i64 w)].length) (Cells.ds (encP l)).len = true from Nat.ble_eq_true_of_le (by simp only [List.length_cons, List.length_nil, Cells.len]; omega)]
  simp only [allD]
  rw [show wr (encP l) (j * 2 + 0 * 2 + 1) [D.int .i64 w] = encP (l.set j (p.1, w)) from encP_set _ h]
theorem remove_ok (x : Option (Nat × List Int × List Int)) (s st : Int) (ds : List Dy6) (full much : Int) (ep off n cur : Nat) (cons : List (Nat × Nat)) (cs : List D) (l : List (Int × Int))
    (hmay : may ep off (n * 2) cur 0 cons = true) (hrd : rd (Cells.ds cs).toV off (n * 2) = some ((encP l).map V.d)) (hn : l.length = n) (hl : n ≤ 1000) :
    Sm Tryz.prog E 39 [.ptr 0 0 0 8, .d (.int .i64 much)] (pre x s st ds (-1) full (.slice (PN x) ep off n 2) ++ [.row (.ds cs) cur 0 cons]) (RemQ x s st ds full (.row (.ds cs) cur 0 cons) n) := by
  rcases x with _ | ⟨k, a, b⟩
  · refine sm_of HE true (by kernel_rfl) ?_
    conv => whnf
    rw [show Nat.ble n n = true from Nat.ble_eq_true_of_le (Nat.le_refl _)]
    conv => whnf
    rw [show Nat.ble (n * 16) 140737488355328 = true from Nat.ble_eq_true_of_le (by omega)]
    conv => whnf
    rw [zeros_row]
    conv => whnf
    rw [eff_copy (b := 2) (x := .slice 1 ep off n 2) (n := n) (l := l)]
    case h1 => rfl
    case h2 => rfl
    case h3 => rfl
    case h4 => exact Nat.lt_succ_self _
    case h5 => unfold rowOf; simp only [getO]; rw [hmay]; simp only; rw [hrd]
    case h6 => exact hn
    conv => whnf
    refine loops_by (fun y : Int × Nat × Nat × List (Int × Int) => match y with
        | (mu, j, r, l') => ⟨53, [(0, .ptr 0 0 0 8), (1, .d (.int .i64 mu)), (4, .slice 2 0 (j * 2) r 2)], .unk,
          pre none s st ds (-1) full (.slice 1 ep off n 2) ++ [.row (.ds cs) cur 0 cons, .row (.ds (encP l')) 0 0 [(0, n * 2)]], []⟩)
      (fun y => y.2.2.2.length = n ∧ y.2.1 + y.2.2.1 = n) (fun y => 2 * y.2.2.1 + (if 0 < y.1 then 1 else 0)) (much, 0, n, l) ⟨hn, Nat.zero_add _⟩ ?_
    clear hrd hn
    rintro f ⟨mu, j, r, l'⟩ ⟨hl', hjr⟩ ih
    simp only at hl' hjr
    conv => whnf
    cases g1 : ltI 0 (r : Int)
    · rw [ltI_eq] at g1
      have g1 := of_decide_eq_false g1
      conv => whnf
      refine ⟨rfl, j, l', hl', by omega, ?_⟩
      rw [show r = n - j by omega]
      rfl
    rw [ltI_eq] at g1
    have g1 := of_decide_eq_true g1
    conv => whnf
    cases g2 : ltI 0 mu
    · conv => whnf
      refine ⟨rfl, j, l', hl', by omega, ?_⟩
      rw [show r = n - j by omega]
      rfl
    rw [ltI_eq] at g2
    have g2 := of_decide_eq_true g2
    obtain ⟨r', rfl⟩ : ∃ r', r = r' + 1 := ⟨r - 1, by omega⟩
    obtain ⟨p, hp⟩ : ∃ p, l'[j]? = some p := ⟨l'[j]'(by omega), by simp⟩
    conv => whnf
    rw [show Nat.ble (j * 2 + 0 * 2 + 1 + 1) (j * 2 + 0 * 2 + 2) = true from Nat.ble_eq_true_of_le (by omega)]
    conv => whnf
    rw [show may 0 (j * 2 + 0 * 2 + 1) 1 0 0 [(0, n * 2)] = true from may_end (by omega)]
    conv => whnf
    rw [show (encP l')[j * 2 + 0 * 2 + 1]? = some (.int .i64 p.2) from encP_get hp]
    conv => whnf
    rw [show Nat.ble (j * 2 + 0 * 2 + 1 + 1) (j * 2 + 0 * 2 + 2) = true from Nat.ble_eq_true_of_le (by omega)]
    conv => whnf
    rw [show may 0 (j * 2 + 0 * 2 + 1) 1 0 0 [(0, n * 2)] = true from may_end (by omega)]
    conv => whnf
    rw [show (encP l')[j * 2 + 0 * 2 + 1]? = some (.int .i64 p.2) from encP_get hp]
    conv => whnf
    rw [show Nat.ble (j * 2 + 0 * 2 + 1 + 1) (j * 2 + 0 * 2 + 2) = true from Nat.ble_eq_true_of_le (by omega)]
    conv => whnf
    rw [show may 0 (j * 2 + 0 * 2 + 1) 1 0 0 [(0, n * 2)] = true from may_end (by omega)]
    conv => whnf
    have hel := encP_length l'
    rw [show Nat.ble (j * 2 + 0 * 2 + 1 + [V.d (D.int .i64 (IntKind.i64.wrap (p.2 - minI mu p.2)))].length) (Cells.ds (encP l')).len = true from Nat.ble_eq_true_of_le (by simp only [List.length_cons, List.length_nil, Cells.len]; omega)]
    conv => whnf
    rw [write_pile (w := IntKind.i64.wrap (p.2 - minI mu p.2)) hp]
    conv => whnf
    have hset : ∀ w : Int, (l'.set j (p.1, w))[j]? = some (p.1, w) := fun w => by rw [List.getElem?_set_self (by omega)]
    rw [show Nat.ble (j * 2 + 0 * 2 + 1 + 1) (j * 2 + 0 * 2 + 2) = true from Nat.ble_eq_true_of_le (by omega)]
    conv => whnf
    rw [show may 0 (j * 2 + 0 * 2 + 1) 1 0 0 [(0, n * 2)] = true from may_end (by omega)]
    conv => whnf
    rw [show (encP (l'.set j (p.1, IntKind.i64.wrap (p.2 - minI mu p.2))))[j * 2 + 0 * 2 + 1]? = some (.int .i64 (IntKind.i64.wrap (p.2 - minI mu p.2))) from encP_get (hset _)]
    have w0 : IntKind.i64.wrap 0 = 0 := rfl
    cases g3 : ltI p.2 mu
    · have hmin : minI mu p.2 = mu := by unfold minI; rw [g3]
      rw [hmin, show mu - mu = 0 by omega, w0]
      conv => whnf
      cases g4 : eqI (IntKind.i64.wrap (p.2 - mu)) 0
      · conv => whnf
        exact ih (0, j, r' + 1, l'.set j (p.1, IntKind.i64.wrap (p.2 - mu))) ⟨by simpa using hl', hjr⟩ (by simp only; rw [if_pos g2, if_neg (by omega)]; omega)
      · conv => whnf
        rw [show j * 2 + 1 * 2 = (j + 1) * 2 by omega]
        exact ih (0, j + 1, r', l'.set j (p.1, IntKind.i64.wrap (p.2 - mu))) ⟨by simpa using hl', by simp only; omega⟩ (by simp only; rw [if_pos g2, if_neg (by omega)]; omega)
    · have hmin : minI mu p.2 = p.2 := by unfold minI; rw [g3]
      rw [hmin, show p.2 - p.2 = 0 by omega, w0]
      conv => whnf
      rw [show j * 2 + 1 * 2 = (j + 1) * 2 by omega]
      exact ih (IntKind.i64.wrap (mu - p.2), j + 1, r', l'.set j (p.1, 0)) ⟨by simpa using hl', by simp only; omega⟩ (by simp only; rw [if_pos g2]; split <;> omega)
  · refine sm_of HE true (by kernel_rfl) ?_
    conv => whnf
    rw [show Nat.ble n n = true from Nat.ble_eq_true_of_le (Nat.le_refl _)]
    conv => whnf
    rw [show Nat.ble (n * 16) 140737488355328 = true from Nat.ble_eq_true_of_le (by omega)]
    conv => whnf
    rw [zeros_row]
    conv => whnf
    rw [eff_copy (b := 4) (x := .slice 3 ep off n 2) (n := n) (l := l)]
    case h1 => rfl
    case h2 => rfl
    case h3 => rfl
    case h4 => exact Nat.lt_succ_self _
    case h5 => unfold rowOf; simp only [getO]; rw [hmay]; simp only; rw [hrd]
    case h6 => exact hn
    conv => whnf
    refine loops_by (fun y : Int × Nat × Nat × List (Int × Int) => match y with
        | (mu, j, r, l') => ⟨53, [(0, .ptr 0 0 0 8), (1, .d (.int .i64 mu)), (4, .slice 4 0 (j * 2) r 2)], .unk,
          pre (some (k, a, b)) s st ds (-1) full (.slice 3 ep off n 2) ++ [.row (.ds cs) cur 0 cons, .row (.ds (encP l')) 0 0 [(0, n * 2)]], []⟩)
      (fun y => y.2.2.2.length = n ∧ y.2.1 + y.2.2.1 = n) (fun y => 2 * y.2.2.1 + (if 0 < y.1 then 1 else 0)) (much, 0, n, l) ⟨hn, Nat.zero_add _⟩ ?_
    clear hrd hn
    rintro f ⟨mu, j, r, l'⟩ ⟨hl', hjr⟩ ih
    simp only at hl' hjr
    conv => whnf
    cases g1 : ltI 0 (r : Int)
    · rw [ltI_eq] at g1
      have g1 := of_decide_eq_false g1
      conv => whnf
      refine ⟨rfl, j, l', hl', by omega, ?_⟩
      rw [show r = n - j by omega]
      rfl
    rw [ltI_eq] at g1
    have g1 := of_decide_eq_true g1
    conv => whnf
    cases g2 : ltI 0 mu
    · conv => whnf
      refine ⟨rfl, j, l', hl', by omega, ?_⟩
      rw [show r = n - j by omega]
      rfl
    rw [ltI_eq] at g2
    have g2 := of_decide_eq_true g2
    obtain ⟨r', rfl⟩ : ∃ r', r = r' + 1 := ⟨r - 1, by omega⟩
    obtain ⟨p, hp⟩ : ∃ p, l'[j]? = some p := ⟨l'[j]'(by omega), by simp⟩
    conv => whnf
    rw [show Nat.ble (j * 2 + 0 * 2 + 1 + 1) (j * 2 + 0 * 2 + 2) = true from Nat.ble_eq_true_of_le (by omega)]
    conv => whnf
    rw [show may 0 (j * 2 + 0 * 2 + 1) 1 0 0 [(0, n * 2)] = true from may_end (by omega)]
    conv => whnf
    rw [show (encP l')[j * 2 + 0 * 2 + 1]? = some (.int .i64 p.2) from encP_get hp]
    conv => whnf
    rw [show Nat.ble (j * 2 + 0 * 2 + 1 + 1) (j * 2 + 0 * 2 + 2) = true from Nat.ble_eq_true_of_le (by omega)]
    conv => whnf
    rw [show may 0 (j * 2 + 0 * 2 + 1) 1 0 0 [(0, n * 2)] = true from may_end (by omega)]
    conv => whnf
    rw [show (encP l')[j * 2 + 0 * 2 + 1]? = some (.int .i64 p.2) from encP_get hp]
    conv => whnf
    rw [show Nat.ble (j * 2 + 0 * 2 + 1 + 1) (j * 2 + 0 * 2 + 2) = true from Nat.ble_eq_true_of_le (by omega)]
    conv => whnf
    rw [show may 0 (j * 2 + 0 * 2 + 1) 1 0 0 [(0, n * 2)] = true from may_end (by omega)]
    conv => whnf
    have hel := encP_length l'
    rw [show Nat.ble (j * 2 + 0 * 2 + 1 + [V.d (D.int .i64 (IntKind.i64.wrap (p.2 - minI mu p.2)))].length) (Cells.ds (encP l')).len = true from Nat.ble_eq_true_of_le (by simp only [List.length_cons, List.length_nil, Cells.len]; omega)]
    conv => whnf
    rw [write_pile (w := IntKind.i64.wrap (p.2 - minI mu p.2)) hp]
    conv => whnf
    have hset : ∀ w : Int, (l'.set j (p.1, w))[j]? = some (p.1, w) := fun w => by rw [List.getElem?_set_self (by omega)]
    rw [show Nat.ble (j * 2 + 0 * 2 + 1 + 1) (j * 2 + 0 * 2 + 2) = true from Nat.ble_eq_true_of_le (by omega)]
    conv => whnf
    rw [show may 0 (j * 2 + 0 * 2 + 1) 1 0 0 [(0, n * 2)] = true from may_end (by omega)]
    conv => whnf
    rw [show (encP (l'.set j (p.1, IntKind.i64.wrap (p.2 - minI mu p.2))))[j * 2 + 0 * 2 + 1]? = some (.int .i64 (IntKind.i64.wrap (p.2 - minI mu p.2))) from encP_get (hset _)]
    have w0 : IntKind.i64.wrap 0 = 0 := rfl
    cases g3 : ltI p.2 mu
    · have hmin : minI mu p.2 = mu := by unfold minI; rw [g3]
      rw [hmin, show mu - mu = 0 by omega, w0]
      conv => whnf
      cases g4 : eqI (IntKind.i64.wrap (p.2 - mu)) 0
      · conv => whnf
        exact ih (0, j, r' + 1, l'.set j (p.1, IntKind.i64.wrap (p.2 - mu))) ⟨by simpa using hl', hjr⟩ (by simp only; rw [if_pos g2, if_neg (by omega)]; omega)
      · conv => whnf
        rw [show j * 2 + 1 * 2 = (j + 1) * 2 by omega]
        exact ih (0, j + 1, r', l'.set j (p.1, IntKind.i64.wrap (p.2 - mu))) ⟨by simpa using hl', by simp only; omega⟩ (by simp only; rw [if_pos g2, if_neg (by omega)]; omega)
    · have hmin : minI mu p.2 = p.2 := by unfold minI; rw [g3]
      rw [hmin, show p.2 - p.2 = 0 by omega, w0]
      conv => whnf
      rw [show j * 2 + 1 * 2 = (j + 1) * 2 by omega]
      exact ih (IntKind.i64.wrap (mu - p.2), j + 1, r', l'.set j (p.1, 0)) ⟨by simpa using hl', by simp only; omega⟩ (by simp only; rw [if_pos g2]; split <;> omega)
end Go.Proofs.Hx
