/-
  TopDecidedEarly: from the arguments to the call.
-/
import Derived.Test.YtedodndgpjonkaaGreatDoorCxV
import Derived.Test.YtedodndgpjonkaaGreatDoorZzRow2
import Derived.Test.YtedodndgpjonkaaGreatDoorCards
import Derived.Test.YtedodndgpjonkaaGreatDoorTie
import Derived.Lay
import Derived.Deep.DeepWitnessRowRef
import Derived.Stop.Joined
import Derived.SizedLaws
namespace Go.Proofs.Cx
open Go Go.Ab Go.RowKit Go.WideShapes Go.ChangeShapes Go.ChangeAt Go.Proofs.YtedodndgpjonkaaGreatDoor
set_option maxRecDepth 100000
set_option maxHeartbeats 1000000
theorem u3 : Tryz.prog.underlying 3 = some (.int .i64) := by kernel_rfl
theorem u4 : Tryz.prog.underlying 4 = some .bool := by kernel_rfl
theorem u22 : Tryz.prog.underlying 22 = some (.slice 3) := by kernel_rfl
theorem u23 : Tryz.prog.underlying 23 = some (.slice 22) := by kernel_rfl
theorem c3 : Tryz.prog.cellsOf 3 = 1 := by kernel_rfl
theorem c22 : Tryz.prog.cellsOf 22 = 1 := by kernel_rfl
theorem c23 : Tryz.prog.cellsOf 23 = 1 := by kernel_rfl
theorem c25 : Tryz.prog.cellsOf 25 = 5 := by kernel_rfl
theorem s25 : shapeOf Tryz.prog 25 = [(3, 0), (3, 1), (3, 2), (22, 3), (23, 4)] := by kernel_rfl
theorem b3 : Tryz.prog.bytesOf 3 = 8 := by kernel_rfl
theorem row_fits {k : Nat} {g : List D} (h : Fits Tryz.prog k 22 g) : ∃ r : List Int, g = [rowD r] ∧ True := by
  obtain ⟨l, h1, _, _⟩ := fits_ints u22 c3 u3 h
  exact ⟨l, h1, trivial⟩
theorem flat_rows (R : List (List Int)) : (R.flatMap fun r => [rowD r]) = encLL R := by
  induction R with
  | nil => rfl
  | cons a l ih => rw [List.flatMap_cons, ih]; rfl
theorem rows_fits {k : Nat} {xs : List D} (h : Fits Tryz.prog k 23 xs) : ∃ R : List (List Int), xs = [.slice R.length 1 (encLL R)] := by
  obtain ⟨R, h1, _, _⟩ := fits_slice (enc := fun r => [rowD r]) (p := fun _ => True) u23 c22 (fun g _ hf => row_fits hf) h
  rw [flat_rows] at h1
  exact ⟨R, h1⟩
theorem cup_arg {k : Nat} {x : D} (h : ArgFits Tryz.prog k 25 x) : ∃ nn rr bb P R, x = cupD nn rr bb P R := by
  obtain ⟨xs, rfl, hf⟩ := argFits_struct h (by rw [s25]; simp)
  obtain ⟨h1, h2⟩ := fits_struct s25 (by simp) hf
  rw [c25] at h1
  match xs, h1 with
  | [a, b, c, d, e], _ =>
    obtain ⟨nn, ha, _⟩ := fits_int u3 (h2 (3, 0) (by simp))
    obtain ⟨rr, hb, _⟩ := fits_int u3 (h2 (3, 1) (by simp))
    obtain ⟨bb, hc, _⟩ := fits_int u3 (h2 (3, 2) (by simp))
    obtain ⟨P, hd, _, _⟩ := fits_ints u22 c3 u3 (h2 (22, 3) (by simp))
    obtain ⟨R, he⟩ := rows_fits (h2 (23, 4) (by simp))
    simp [c3, c22, c23] at ha hb hc hd he
    subst ha; subst hb; subst hc; subst hd; subst he
    exact ⟨nn, rr, bb, P, R, rfl⟩
theorem further_arg {k : Nat} {x : D} (h : ArgFits Tryz.prog k 23 x) : ∃ F : List (List Int), x = .slice F.length 1 (encLL F) := by
  have h1 := argFits_plain h (fun fs => by rw [u23]; simp) (fun n e => by rw [u23]; simp)
  obtain ⟨F, h2⟩ := rows_fits h1
  exact ⟨F, (List.cons.inj h2).1⟩
theorem weightsAll_mem {H : Type} {P : Program} {e : TypeId} {n : Nat} {d : DataW H} : ∀ {l : List (DataW H)}, d ∈ l → n ∈ d.weights P e → n ∈ DataW.weightsAll P e l
  | x :: l, h, hn => by
    unfold DataW.weightsAll
    rcases List.mem_cons.1 h with rfl | h
    · exact List.mem_append_left _ hn
    · exact List.mem_append_right _ (weightsAll_mem h hn)
/-- What lies within reach is no longer than what can be copied. -/
theorem rows_bound {H : Type} {enc : TypeId × Value → H} {W : World} {v : Value} {d : DataW H} {p : List MemPlace} {nn rr bb : Int} {Q : List Int} {R : List (List Int)} (h : DataW.Trod enc Tryz.prog W 0 (fun _ => true) true 25 v d p)
    (hx : VRd (ZAll W) W (cupD nn rr bb Q R) v) (hw : ∀ n ∈ d.weights Tryz.prog 25, n ≤ reachBytes) : ∀ r ∈ R, r.length * 8 ≤ 140737488355328 := by
  intro r hr
  obtain ⟨i, hi⟩ := List.getElem?_of_mem hr
  have hil := lt_of_at hi
  obtain ⟨fuel, hf⟩ := h
  obtain ⟨vs, rfl, ⟨v0, l0, e0, _, v1, l1, e1, _, v2, l2, e2, _, v3, l3, e3, _, v4, l4, e4, hv4, e5⟩, _⟩ := hx
  obtain ⟨a, cap, rfl, _, _, hz⟩ := hv4
  rcases hz with hz | ⟨c, o, rfl, _, hat⟩
  · omega
  obtain ⟨vr, hcell, _, hvr⟩ := hat.at_ i (rowD r) (by have := encLL_get1 hi; rw [Nat.mul_one] at this; exact this)
  obtain ⟨ar, capr, rfl, _⟩ := hvr
  have hcs : (Value.agg vs).cells.toList = [v0, v1, v2, v3, .slice (some ⟨c, o, none⟩) R.length cap] := by
    show vs.toList = _
    rw [e0, e1, e2, e3, e4, e5]
  rw [hcs] at hf
  have hs := s25
  unfold shapeOf at hs
  split at hs
  · rename_i fs hfs
    obtain ⟨xs, n, rfl, hxd, _, hxl, hfi⟩ := DataW.trod_struct hfs hf
    have hsz : fs.size = 5 := by have := congrArg List.length hs; simpa using this
    obtain ⟨f4, hf4⟩ : ∃ f4, fs[4]? = some f4 := ⟨fs[4]'(by omega), by simp⟩
    have hf4' : f4.type = 23 ∧ f4.offset = 4 := by
      have h2 := congrArg (fun l => l[4]?) hs
      simp only [List.getElem?_map, Array.getElem?_toList, hf4, Option.map_some, List.getElem?_cons_succ, List.getElem?_cons_zero, Option.some.injEq, Prod.mk.injEq] at h2
      exact h2
    have h2 := hfi 4 f4 hf4
    rw [hf4'.1, hf4'.2, c23] at h2
    obtain ⟨x4, hx4⟩ : ∃ x4, xs[4]? = some x4 := ⟨xs[4]'(by omega), by simp⟩
    rw [hx4] at h2
    rcases DataW.trod_slice u23 h2 with ⟨h3, _⟩ | ⟨a', len, cap', elems, rest, n', rfl, h3, h4, _, _, _, hel, hall, _⟩
    · simp at h3
    · simp at h3
      obtain ⟨h3a, h3b, _⟩ := h3
      subst h3a h3b
      obtain ⟨y, hy⟩ : ∃ y, elems[i]? = some y := ⟨elems[i]'(by omega), by simp⟩
      have h5 := hall i hil
      rw [hy, c22, Option.bind_eq_some_iff] at h5
      obtain ⟨cs, hcs1, hcs2⟩ := h5
      obtain ⟨q1, q2⟩ := cells_spec hcs1
      obtain ⟨w, hw0, hw1⟩ := q2 0 (by omega)
      have hadd : ((⟨c, o, none⟩ : Addr).add (i * 1)).add 0 = ⟨c, o + i, none⟩ := by
        unfold Addr.add
        cases i <;> simp
      rw [hadd, hcell] at hw1
      cases hw1
      have hcs3 : cs = [.slice ar r.length capr] := by
        match cs, q1 with
        | [u], _ => simp at hw0; rw [hw0]
      rw [hcs3] at hcs2
      rcases DataW.trod_slice u22 hcs2 with ⟨h6, _⟩ | ⟨a2, len2, cap2, elems2, rest2, n2, rfl, h6, h7, _, _, _, hel2, _⟩
      · simp at h6
        omega
      · simp at h6
        obtain ⟨_, h6b, _⟩ := h6
        have hd : d = .agg (xs.map (·.1)) := congrArg Prod.fst hxd
        have hmem : (elems2.length + rest2.length) * Tryz.prog.bytesOf 3 ∈ d.weights Tryz.prog 25 := by
          rw [hd]
          simp only [DataW.weights, hfs]
          refine DataW.weights_mem_each (j := 4) (t := 23) (d := x4.1) ?_ ?_ _ ?_
          · simp [hf4, hf4'.1]
          · simp [hx4]
          · rw [h4]
            simp only [DataW.weights, u23]
            refine List.mem_cons_of_mem _ (List.mem_append_left _ (weightsAll_mem (d := y.1) (List.mem_map.2 ⟨y, List.mem_of_getElem? hy, rfl⟩) ?_))
            rw [h7]
            simp [DataW.weights, u22]
        have := hw _ hmem
        rw [b3] at this
        unfold reachBytes at this
        have h8 : elems2.length * 8 ≤ (elems2.length + rest2.length) * 8 := Nat.mul_le_mul_right _ (Nat.le_add_right ..)
        omega
  · cases hs
theorem gP : Tryz.prog.globalNamed "internal/strconv.uint64pow10" = some 0 := by kernel_rfl
theorem plainLaid : (Rows.topDecidedEarlyRow.laid.all fun x => x.2.handleName?.isNone) = true := by kernel_rfl
theorem table {W : World} (h : laidMetH Tryz.prog Rows.topDecidedEarlyRow.laid W) : Lib.TabIs Tryz.prog W "internal/strconv.uint64pow10" .u64 Lib.pow10Tab := by
  rw [MakeChecks.laidMetH_plain _ _ _ plainLaid] at h
  exact Lib.tabIs_of_head (n := 20) (t := 206) (e := 138) gP (by kernel_rfl) (by kernel_rfl) (by kernel_rfl) (by kernel_rfl) (by kernel_rfl) (laidMet.tail (laidMet.tail h))
theorem glob_hold {W : World} (hL : laidMetH Tryz.prog Rows.topDecidedEarlyRow.laid W) : ∀ g cs, E.glob g = some cs → ZAll W g ∧ VRdAt (ZAll W) W g 0 cs ∧ SizedAt W g cs.length := fun g cs hg => by
  have hg' : (match Nat.beq g 0 with | true => some pow10D | false => none) = some cs := hg
  split at hg'
  · rename_i h0
    cases hg'
    rw [Nat.eq_of_beq_eq_true h0]
    exact tab_at gP (table hL)
  · cases hg'
theorem okArgs : ∀ t ∈ [25, 23], okTy Tryz.prog 6 t = true := by
  have h : ([25, 23].all fun t => okTy Tryz.prog 6 t) = true := by kernel_rfl
  exact fun t ht => List.all_eq_true.1 h t ht
end Go.Proofs.Cx
