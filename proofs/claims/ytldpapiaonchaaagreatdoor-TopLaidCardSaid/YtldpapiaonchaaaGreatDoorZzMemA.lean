/-
  The abstract machine's operations that read memory do what the model's do.
-/
import Derived.Test.YtldpapiaonchaaaGreatDoorZzOps
import Derived.Laws.Cells
import Derived.IntWalk
section
namespace Go.Ab
open Go
section
variable {E : Env} {P : Program} {Z : Nat → Prop} {μ : Mu} {w : World} {h : List O}

/-- These cells lie there. -/
def CellsAt (Z : Nat → Prop) (μ : Mu) (w : World) (c o : Nat) (l : List V) : Prop := ∀ (i : Nat) x, l[i]? = some x → ∃ v, w.cell? ⟨c, o + i, none⟩ = some v ∧ v.oneCell' = true ∧ VR Z μ w x v
theorem CellsAt.list {c : Nat} : ∀ {l : List V} {o : Nat}, CellsAt Z μ w c o l → ∃ vs : List Value, VRL Z μ w l vs ∧ ∀ (j : Nat) v, vs[j]? = some v → w.cell? ⟨c, o + j, none⟩ = some v ∧ v.oneCell' = true
  | [], o, _ => ⟨[], rfl, by simp⟩
  | x :: l, o, H => by
    obtain ⟨v, e, h1, h2⟩ := H 0 x rfl
    obtain ⟨vs, g1, g2⟩ := CellsAt.list (l := l) (o := o + 1) (c := c) fun i y hy => by
      obtain ⟨u, e, hu⟩ := H (i + 1) y (by simpa using hy)
      exact ⟨u, by rw [← e]; congr 2; omega, hu⟩
    refine ⟨v :: vs, ⟨v, vs, rfl, h2, g1⟩, fun j u hj => ?_⟩
    cases j with
    | zero => simp at hj; subst hj; exact ⟨e, h1⟩
    | succ j =>
      simp at hj
      obtain ⟨k1, k2⟩ := g2 j u hj
      exact ⟨by rw [← k1]; congr 2; omega, k2⟩
theorem VRdAt.cellsAt {c o : Nat} {cs : List D} (H : VRdAt Z w c o cs) : CellsAt Z μ w c o (cs.map .d) := fun i x hx => by
  rw [List.getElem?_map] at hx
  cases hc : cs[i]? with
  | none => rw [hc] at hx; simp at hx
  | some d =>
    rw [hc] at hx; simp at hx; subst hx
    exact H.at_ i d hc
theorem CellsAt.sub {c o : Nat} {l : List V} (H : CellsAt Z μ w c o l) (k n : Nat) : CellsAt Z μ w c (o + k) ((l.drop k).take n) := fun i x hx => by
  have hx' : l[k + i]? = some x := by
    rw [List.getElem?_take] at hx
    split at hx
    · rwa [List.getElem?_drop] at hx
    · cases hx
  obtain ⟨v, e, h1⟩ := H _ x hx'
  exact ⟨v, by rw [← e]; congr 2; omega, h1⟩
theorem run_loadList (c o : Nat) (vs : List Value) (hv : ∀ (j : Nat) v, vs[j]? = some v → w.cell? ⟨c, o + j, none⟩ = some v) : (loadCells ⟨c, o, none⟩ vs.length).run P w = .ok vs.toArray w :=
  run_loadCells_list w ⟨c, o, none⟩ vs fun j v hj => by rw [add_off]; exact hv j v hj
/-- Reading a variable out of cells that lie there. -/
theorem load_cells {t : Nat} {i : TI} (T : TIOk P t i) {cs : Cells} {blk o off : Nat} (H : CellsAt Z μ w blk (o + off) ((cs.toV.drop off).take i.size)) {v : V} (hv : Cells.readV i.agg cs off i.size = some v) :
    ∃ cv, (loadVar t ⟨blk, o + off, none⟩).run P w = .ok cv w ∧ VR Z μ w v cv := by
  obtain ⟨vs, g1, g2⟩ := H.list
  unfold loadVar
  simp only [Sem.run_bind, T.isAgg, Result.andThen_ok]
  cases ha : i.agg with
  | true =>
    rw [ha] at hv
    have hl := g1.length
    have hone : ∀ u ∈ vs.toArray.toList, u.oneCell' = true := fun u hu => by
      obtain ⟨j, hj⟩ := List.getElem?_of_mem hu
      exact (g2 j u (by simpa using hj)).2
    have hlen : vs.length = i.size ∧ VR Z μ w v (.agg vs.toArray) := by
      obtain ⟨e1, e2⟩ := readV_agg hv
      rw [List.length_take, List.length_drop] at hl
      refine ⟨by omega, ?_⟩
      rcases e2 with ⟨r, rfl, e3⟩ | rfl
      · rw [e3] at g1
        exact ⟨_, rfl, by simpa using g1.toD, hone⟩
      · exact VR.mkAgg (by simpa using g1) hone
    have := run_loadList (P := P) (w := w) blk (o + off) vs fun j v hj => (g2 j v hj).1
    rw [hlen.1] at this
    exact ⟨_, by simp [T.sizeOf, this], hlen.2⟩
  | false =>
    rw [ha] at hv
    have hpos := T.pos.2
    have hx : ((cs.toV.drop off).take i.size)[0]? = some v := by
      rw [List.getElem?_take, if_pos hpos, List.getElem?_drop]
      exact readV_cell hv
    obtain ⟨cv, e, _, h2⟩ := H 0 v hx
    refine ⟨cv, ?_, h2⟩
    simp only [Nat.add_zero] at e
    simp [e]
theorem row_cells (S : SR E Z μ h w) {b e off n : Nat} {x : Ep} {c : Cells} {cur fl : Nat} {cons : List (Nat × Nat)} (hb : getO h b = .row c cur fl cons) (hx : μ b e = some x) (hm : may e off n cur fl cons = true) (hl : off + n ≤ x.len) (hn : 0 < n) :
    ∃ blk, x.blk = some blk ∧ CellsAt Z μ w blk off ((c.toV.drop off).take n) ∧ off + n ≤ c.toV.length := by
  have ho := S.obj b (S.dom b e x hx)
  rw [hb] at ho
  obtain ⟨_, _, h3⟩ := ho e x hx
  obtain ⟨v0, cv0, blk, g1, g2, g3, g4, g5⟩ := h3 off (may_acc hm (by omega)) (by omega)
  refine ⟨blk, g2, fun i y hy => ?_, ?_⟩
  · rw [List.getElem?_take] at hy
    split at hy
    · rename_i hi
      rw [List.getElem?_drop] at hy
      obtain ⟨v, cv, blk', k1, k2, k3, k4, k5⟩ := h3 (off + i) (may_acc hm (by omega)) (by omega)
      rw [k1] at hy; cases hy
      rw [g2] at k2; cases k2
      exact ⟨cv, k3, k4, k5⟩
    · cases hy
  · obtain ⟨v, cv, blk', k1, _⟩ := h3 (off + n - 1) (may_acc hm (by omega)) (by omega)
    have := (List.getElem?_eq_some_iff.1 k1).1
    omega
theorem loadV_ok (HE : EnvOk E P) (S : SR E Z μ h w) {t : Nat} {x : V} {a : Value} {v : V} (hx : VR Z μ w x a) (hv : loadV E h t x = some v) : ∃ cv, (Instr.loadAt t a).run P w = .ok cv w ∧ VR Z μ w v cv := by
  unfold loadV at hv
  split at hv
  · cases hv
  rename_i i hi
  have T := HE.ty t i hi
  split at hv
  · rename_i cs off
    obtain ⟨c, o, rfl, hc, hat⟩ := hx
    obtain ⟨cv, e1, e2⟩ := load_cells T (cs := .ds cs) (blk := c) (o := o) (off := off) (hat.cellsAt.sub off i.size) hv
    exact ⟨cv, by simp [Instr.loadAt, Instr.sureAddr, e1], e2⟩
  · rename_i b e off lim
    obtain ⟨x, c, k1, k2, k3, rfl, k4⟩ := hx
    split at hv
    · rename_i cs cur fl cons hb
      split at hv
      · rename_i b1 b2
        have b1 := Nat.le_of_ble_eq_true b1
        obtain ⟨blk, g1, g2, _⟩ := row_cells S hb k1 b2 (by omega) T.pos.2
        rw [k2] at g1; cases g1
        obtain ⟨cv, e1, e2⟩ := load_cells T (cs := cs) (blk := c) (o := 0) (off := off) (by simpa using g2) hv
        exact ⟨cv, by simp only [Nat.zero_add] at e1; simp [Instr.loadAt, Instr.sureAddr, e1], e2⟩
      · cases hv
    · cases hv
  · cases hv
end
end Go.Ab
end
section
/-
  The abstract machine's look-ups in maps do what the model's do.
-/
namespace Go.Ab
open Go
section
variable {E : Env} {P : Program} {Z : Nat → Prop} {μ : Mu} {w : World} {h : List O}

theorem findD_cons (k x : D) (l : List D) (i : Nat) : findD k (x :: l) i = match eqK k x with | some true => some (some i) | some false => findD k l (i + 1) | none => none := rfl
theorem keyCheck (HE : EnvOk E P) {t : Nat} {k : D} {kv : Value} (hk : keyOk E t k = true) (hv : VRd Z w k kv) (b : Bool) (w' : World) : (Instr.checkKey b 10000 t kv).run P w' = .ok () w' := by
  unfold keyOk at hk
  split at hk
  · cases hk
  rename_i i hi
  have T := HE.ty t i hi
  have hu := T.under
  split at hk
  · split at hk
    · rename_i hag hlen _
      obtain ⟨vs, rfl, h1, h2⟩ := hv
      have e1 := Nat.eq_of_beq_eq_true hlen
      have e2 := h1.length
      exact T.key hk w' b vs (by simp at e2; omega) h2
    · cases hk
  · rename_i hu'
    rw [hu'] at hu
    simp only [VRd] at hv; subst hv
    exact (fun d => by simp [Instr.checkKey, run_underlying hu] : ∀ d, (Instr.checkKey b (d + 1) t _).run P w' = .ok () w') 9999
  · rename_i hu'
    rw [hu'] at hu
    simp only [VRd] at hv; subst hv
    exact (fun d => by simp [Instr.checkKey, run_underlying hu] : ∀ d, (Instr.checkKey b (d + 1) t _).run P w' = .ok () w') 9999
  · rename_i hu'
    rw [hu'] at hu
    simp only [VRd] at hv; subst hv
    exact (fun d => by simp [Instr.checkKey, run_underlying hu] : ∀ d, (Instr.checkKey b (d + 1) t _).run P w' = .ok () w') 9999
  · cases hk

theorem run_getObj_map {c : Nat} {es : Array MapEntry} {clock : Nat} (hh : w.heap[c]? = some (.map es clock)) : (getObj c).run P w = .ok (.map es clock) w := by
  simp only [getObj, Sem.run, hh]
/-- A key of one cell. -/
theorem findNow_ok {u : TypeDesc} {k : D} {kv : Value} (hv : VRd Z w k kv) (hu : (∃ n m, k = .int n m ∧ ∃ q, u = .int q) ∨ (∃ s, k = .str s ∧ u = .string) ∨ (∃ b, k = .bool b ∧ u = .bool)) :
    ∀ {ks : List D} {es : List MapEntry} {n : Nat} {r : Option Nat}, VRdL Z w ks (es.map (·.key)) → findD k ks n = some r →
      Instr.findNow u kv es n = some (r.map fun i => (i, ((es[i - n]?).map (·.val)).getD undef)) ∧ ∀ i, r = some i → n ≤ i ∧ i < n + es.length
  | [], es, n, r, hr, h => by
    have he : es = [] := by cases es with | nil => rfl | cons e es => simp [VRdL] at hr
    subst he
    simp only [findD, Option.some.injEq] at h; subst h
    exact ⟨rfl, by simp⟩
  | x :: ks, es, n, r, hr, h => by
    obtain ⟨v, vs, e, hx, hrest⟩ := hr
    cases es with
    | nil => simp at e
    | cons en es =>
      simp only [List.map_cons, List.cons.injEq] at e
      obtain ⟨e1, e2⟩ := e
      subst e1
      rw [findD_cons] at h
      have hnow : ∀ b, eqK k x = some b → Instr.sameNow u kv en.key = some b := by
        intro b hb
        rcases hu with ⟨q, m, rfl, q', rfl⟩ | ⟨s, rfl, rfl⟩ | ⟨b', rfl, rfl⟩
        · simp only [VRd] at hv; subst hv
          cases x <;> simp only [eqK, eqCell] at hb <;> try (cases hb; done)
          split at hb
          · rename_i hk
            cases hb
            obtain rfl := kindEq_eq hk
            simp only [VRd] at hx
            rw [hx]
            simp [Instr.sameNow, eqI_eq]
            rfl
          · cases hb
        · simp only [VRd] at hv; subst hv
          cases x <;> simp only [eqK, eqCell] at hb <;> try (cases hb; done)
          cases hb
          simp only [VRd] at hx
          rw [hx]
          simp only [Instr.sameNow, eqS_eq, Option.some.injEq]
          rw [beq_toListBytes, ByteArray.toList_eq, ByteArray.toList_eq]
        · simp only [VRd] at hv; subst hv
          cases x <;> simp only [eqK, eqCell] at hb <;> try (cases hb; done)
          cases hb
          simp only [VRd] at hx
          rw [hx]
          simp [Instr.sameNow, eqB_eq]
      split at h
      · rename_i hb
        cases h
        simp only [Instr.findNow, hnow _ hb]
        exact ⟨by simp, by simp⟩
      · rename_i hb
        obtain ⟨g1, g2⟩ := findNow_ok hv hu (ks := ks) (es := es) (by rw [← e2] at hrest; exact hrest) h
        simp only [Instr.findNow, hnow _ hb, g1]
        refine ⟨?_, fun i hi => ?_⟩
        · cases r with
          | none => rfl
          | some i =>
            have := (g2 i rfl).1
            have : i - n = (i - (n + 1)) + 1 := by omega
            simp [this]
        · have := g2 i hi; simp; omega
      · cases h
/-- A key of many cells. -/
theorem findAsking_ok (HE : EnvOk E P) {t : Nat} {i : TI} (hi : E.ty t = some i) (hf : i.flat = true) {k : List D} (hlen : fitL i.kinds k = true) {kv : Array Value} (hv : VRdL Z w k kv.toList) :
    ∀ {ks : List D} {es : List MapEntry} {n : Nat} {r : Option Nat}, VRdL Z w ks (es.map (·.key)) → findD (.agg k) ks n = some r →
      (Instr.findAsking t (.agg kv) es n).run P w = .ok (r.map fun i => (i, ((es[i - n]?).map (·.val)).getD undef)) w ∧ ∀ i, r = some i → n ≤ i ∧ i < n + es.length
  | [], es, n, r, hr, h => by
    have he : es = [] := by cases es with | nil => rfl | cons e es => simp [VRdL] at hr
    subst he
    simp only [findD, Option.some.injEq] at h; subst h
    exact ⟨rfl, by simp⟩
  | x :: ks, es, n, r, hr, h => by
    obtain ⟨v, vs, e, hx, hrest⟩ := hr
    cases es with
    | nil => simp at e
    | cons en es =>
      simp only [List.map_cons, List.cons.injEq] at e
      obtain ⟨e1, e2⟩ := e
      subst e1
      rw [findD_cons] at h
      have hnow : ∀ b, eqK (.agg k) x = some b → (Op.equal t (.agg kv) en.key).run P w = .ok b w := by
        intro b hb
        cases x <;> simp only [eqK, eqCell] at hb <;> try (cases hb; done)
        obtain ⟨ys, e3, h3, _⟩ := hx
        rw [e3]
        exact ((HE.ty t i hi).flat hf Z w w _ _ kv ys b hlen hv h3 hb).1
      split at h
      · rename_i hb
        cases h
        simp only [Instr.findAsking, Sem.run_bind, hnow _ hb, Result.andThen_ok, if_true]
        exact ⟨by simp, by simp⟩
      · rename_i hb
        obtain ⟨g1, g2⟩ := findAsking_ok HE hi hf hlen hv (ks := ks) (es := es) (by rw [← e2] at hrest; exact hrest) h
        simp only [Instr.findAsking, Sem.run_bind, hnow _ hb, Result.andThen_ok, Bool.false_eq_true, if_false, g1]
        refine ⟨?_, fun i hi => ?_⟩
        · cases r with
          | none => rfl
          | some i =>
            have := (g2 i rfl).1
            have : i - n = (i - (n + 1)) + 1 := by omega
            simp [this]
        · have := g2 i hi; simp; omega
      · cases h
theorem findKey_ok (HE : EnvOk E P) {t : Nat} {k : D} {kv : Value} (hk : keyOk E t k = true) (hv : VRd Z w k kv) {ks : List D} {es : List MapEntry} {r : Option Nat} (hr : VRdL Z w ks (es.map (·.key))) (h : findD k ks 0 = some r) :
    (Instr.findKey t kv es).run P w = .ok (r.map fun i => (i, ((es[i]?).map (·.val)).getD undef)) w ∧ ∀ i, r = some i → i < es.length := by
  unfold keyOk at hk
  split at hk
  · cases hk
  rename_i i hi
  have T := HE.ty t i hi
  have hu := T.under
  have now : ((∃ n m, k = .int n m ∧ ∃ q, i.under = .int q) ∨ (∃ s, k = .str s ∧ i.under = .string) ∨ (∃ b, k = .bool b ∧ i.under = .bool)) → (Instr.findKey t kv es).run P w = .ok (r.map fun i => (i, ((es[i]?).map (·.val)).getD undef)) w ∧ ∀ i, r = some i → i < es.length := by
    intro hh
    obtain ⟨g1, g2⟩ := findNow_ok hv hh hr h
    refine ⟨?_, fun i hi => by have := g2 i hi; omega⟩
    simp only [Instr.findKey, Sem.run_bind, run_underlying hu, Result.andThen_ok, g1]
    simp
  split at hk
  · split at hk
    · rename_i hfit
      obtain ⟨vs, rfl, h1, h2⟩ := hv
      obtain ⟨g1, g2⟩ := findAsking_ok HE hi hk hfit h1 hr h
      refine ⟨?_, fun i hi => by have := g2 i hi; omega⟩
      simp only [Instr.findKey, Sem.run_bind, run_underlying hu, Result.andThen_ok]
      split
      · rename_i r' hr'
        cases es with
        | nil =>
          simp only [Instr.findNow, Option.some.injEq] at hr'
          subst hr'
          simp only [Instr.findAsking, Sem.run_pure] at g1
          simpa using g1
        | cons e es =>
          simp only [Instr.findNow] at hr'
          have : Instr.sameNow i.under (.agg vs) e.key = none := by unfold Instr.sameNow; split <;> simp_all
          rw [this] at hr'
          cases hr'
      · simpa using g1
    · cases hk
  · rename_i hu'; exact now (.inl ⟨_, _, rfl, _, hu'⟩)
  · rename_i hu'; exact now (.inr (.inl ⟨_, rfl, hu'⟩))
  · rename_i hu'; exact now (.inr (.inr ⟨_, rfl, hu'⟩))
  · cases hk
theorem zeroV_ok {t : Nat} {i : TI} (T : TIOk P t i) {z : V} (hz : i.zeroV = some z) : ∃ zv, (∀ w, (zeroValue t).run P w = .ok zv w) ∧ ∀ Z μ w, VR Z μ w z zv := by
  unfold TI.zeroV at hz
  split at hz
  · rename_i zs hzs
    obtain ⟨zv, g1, g2, g3, g4, _⟩ := T.zeroValue hzs
    refine ⟨zv, g1, fun Z μ w => ?_⟩
    split at hz
    · rename_i ha
      rw [ha] at g4
      simp only at g4
      cases hz
      rw [g4]
      exact VR.mkAgg (g2 Z μ w) g3
    · rename_i ha
      rw [ha] at g4
      simp only at g4
      split at hz
      · cases hz
        have := g2 Z μ w
        rw [g4] at this
        obtain ⟨v, vs, e, h1, _⟩ := this
        simp at e
        rw [e.1]; exact h1
      · cases hz
  · cases hz
theorem okV_ok {ok b : Bool} {v : V} {cv : Value} (h : VR Z μ w v cv) : VR Z μ w (okV ok v b) (if ok then .tuple #[cv, .bool b] else cv) := by
  cases ok with
  | false => exact h
  | true => exact VR.mkTuple ⟨cv, _, rfl, h, .bool b, _, rfl, rfl, rfl⟩
theorem lookup_ok (HE : EnvOk E P) (S : SR E Z μ h w) {t : Nat} {m k : V} {mv kv : Value} {ok : Bool} {v : V} (hm : VR Z μ w m mv) (hk : VR Z μ w k kv) (hv : lookupV E h t m k ok = some v) : ∃ cv, (Instr.lookup t mv kv ok).run P w = .ok cv w ∧ VR Z μ w v cv := by
  unfold lookupV at hv
  split at hv
  · rename_i kt et hf
    have hu := HE.under hf
    split at hv
    · rename_i k
      split at hv
      · rename_i i hko hi
        have T := HE.ty et i hi
        split at hv
        · cases hv
        rename_i z hz
        obtain ⟨zv, g1, g2⟩ := zeroV_ok T hz
        split at hv
        · cases hv
          simp only [VR, VRd] at hm; subst hm
          refine ⟨_, ?_, okV_ok (ok := ok) (b := false) (g2 Z μ w)⟩
          have hfk := findKey_ok HE hko hk (ks := []) (es := []) (r := none) rfl rfl
          simp [Instr.lookup, run_underlying hu, keyCheck HE hko hk, hfk.1, g1]
        · rename_i b
          obtain ⟨x, c, k1, k2, rfl⟩ := hm
          split at hv
          · rename_i ks vs hb
            have ho := S.obj b (S.dom b 0 x k1)
            rw [hb] at ho
            obtain ⟨_, c', es, clock, e1, e2, e3, e4⟩ := ho 0 x k1
            rw [k2] at e1; cases e1
            split at hv
            · rename_i j hj
              split at hv
              · rename_i v0 hv0
                cases hv
                obtain ⟨f1, f2⟩ := findKey_ok HE hko hk e3 hj
                obtain ⟨cv, c1, c2⟩ := e4.getElem? j v0 (readV_cell hv0)
                refine ⟨_, ?_, okV_ok (ok := ok) (b := true) c2⟩
                rw [List.getElem?_map] at c1
                have : ((es.toList[j]?).map (·.val)).getD undef = cv := by rw [c1]; rfl
                simp only [Option.map_some, this] at f1
                simp [Instr.lookup, run_underlying hu, run_getObj_map e2, keyCheck HE hko hk, f1]
              · cases hv
            · rename_i hj
              cases hv
              obtain ⟨f1, f2⟩ := findKey_ok HE hko hk e3 hj
              refine ⟨_, ?_, okV_ok (ok := ok) (b := false) (g2 Z μ w)⟩
              simp [Instr.lookup, run_underlying hu, run_getObj_map e2, keyCheck HE hko hk, f1, g1]
            · cases hv
          · cases hv
        · cases hv
      · cases hv
    · cases hv
  · cases hv
theorem read_ok (HE : EnvOk E P) (S : SR E Z μ h w) {ρ : Operand → V} {ρ' : Operand → Value} (hρ : ∀ x, VR Z μ w (ρ x) (ρ' x)) (o : Oper) (hc : cls E o.op = .read) {v : V} (hv : readV E ρ h o.op = some v) :
    ∃ cv, (execOp ρ' o).run P w = .ok (.value cv) w ∧ VR Z μ w v cv := by
  have val : ∀ {s : Sem Value}, (∃ cv, s.run P w = .ok cv w ∧ VR Z μ w v cv) → ∃ cv, ((do pure (Next.value (← s))) : Sem Next).run P w = .ok (.value cv) w ∧ VR Z μ w v cv := by
    rintro s ⟨cv, e1, e2⟩
    exact ⟨cv, by simp [e1], e2⟩
  unfold readV at hv
  unfold execOp
  split at hv <;> rename_i hop
  all_goals first | rw [hop] | (cases hv; done)
  · exact val (loadV_ok HE S (hρ _) hv)
  · exact val (lookup_ok HE S (hρ _) (hρ _) hv)
  · rename_i c
    have hargs := VRL.map hρ c.args.toList
    have ea : c.args.map ρ' = (c.args.toList.map ρ').toArray := by apply Array.ext'; simp
    rw [hop] at hc
    simp only [cls] at hc
    split at hv
    · rename_i b l hcal hl
      rw [hl] at hargs
      obtain ⟨a, as', e1, ⟨x, c', k1, k2, rfl⟩, _⟩ := hargs
      simp only [hcal] at hc
      split at hc
      · rename_i kt et ht
        cases hat : c.argTypes[0]? with
        | none => rw [hat] at ht; simp at ht
        | some t =>
          rw [hat] at ht
          simp only [Option.bind_some] at ht
          have hu := HE.under ht
          split at hv
          · rename_i ks vs hb
            cases hv
            have ho := S.obj b (S.dom b 0 x k1)
            rw [hb] at ho
            obtain ⟨_, c'', es, clock, f1, f2, f3, f4⟩ := ho 0 x k1
            rw [k2] at f1; cases f1
            have := f3.length
            refine ⟨.int .i64 es.size, ?_, by simp [VR, VRd]; simp at this; omega⟩
            simp only [resolve, hcal, Sem.run_bind, Sem.run_pure, Result.andThen_ok, invoke, builtin]
            rw [ea, e1]
            simp [Builtin.len_, hat, run_underlying hu, run_getObj_map f2, goInt]
          · cases hv
      · cases hc
    · rename_i l hcal hl
      rw [hl] at hargs
      obtain ⟨a, as', e1, e2, _⟩ := hargs
      simp only [VR, VRd] at e2; subst e2
      cases hv
      simp only [hcal] at hc
      split at hc
      · rename_i kt et ht
        cases hat : c.argTypes[0]? with
        | none => rw [hat] at ht; simp at ht
        | some t =>
          rw [hat] at ht
          simp only [Option.bind_some] at ht
          have hu := HE.under ht
          refine ⟨.int .i64 0, ?_, by simp [VR, VRd]⟩
          simp only [resolve, hcal, Sem.run_bind, Sem.run_pure, Result.andThen_ok, invoke, builtin]
          rw [ea, e1]
          simp [Builtin.len_, hat, run_underlying hu, goInt]
      · cases hc
    · cases hv
end
end Go.Ab
end
section
/-
  The abstract machine's operations that make a new block do what the model's do.
-/
namespace Go.Ab
open Go
section
variable {E : Env} {P : Program} {Z : Nat → Prop} {μ : Mu} {w : World} {h : List O}

theorem getO_length : ∀ {h : List O} {b : Nat}, h.length ≤ b → getO h b = .gone
  | [], b, _ => by cases b <;> rfl
  | _ :: h, 0, hb => by simp at hb
  | _ :: h, b + 1, hb => getO_length (h := h) (by simpa using hb)
theorem getO_append : ∀ (h k : List O) (b : Nat), getO (h ++ k) b = if b < h.length then getO h b else getO k (b - h.length)
  | [], k, b => by simp
  | x :: h, k, 0 => by simp [getO]
  | x :: h, k, b + 1 => by
    simp only [List.cons_append, getO, getO_append h k b, List.length_cons, Nat.add_lt_add_iff_right, Nat.add_sub_add_right]
theorem getO_setO : ∀ (h : List O) (b b' : Nat) (o : O), getO (setO h b o) b' = if b' = b ∧ b < h.length then o else getO h b'
  | [], b, b', o => by simp [setO]
  | x :: h, 0, 0, o => by simp [setO, getO]
  | x :: h, 0, b' + 1, o => by simp [setO, getO]
  | x :: h, b + 1, 0, o => by simp [setO, getO]
  | x :: h, b + 1, b' + 1, o => by simp [setO, getO, getO_setO h b b' o]
theorem setO_length : ∀ (h : List O) (b : Nat) (o : O), (setO h b o).length = h.length
  | [], _, _ => rfl
  | _ :: _, 0, _ => rfl
  | _ :: h, b + 1, o => by simp [setO, setO_length h b o]

/-- One name more. -/
def Mu.link (μ : Mu) (b : Nat) (x : Ep) : Mu := fun b' e => if b' = b ∧ e = 0 then some x else μ b' e
theorem Mu.link_new (μ : Mu) (b : Nat) (x : Ep) : μ.link b x b 0 = some x := by simp [Mu.link]
theorem Mu.link_old {μ : Mu} {b b' e : Nat} {x y : Ep} (hn : ∀ e, μ b e = none) (hy : μ b' e = some y) : μ.link b x b' e = some y := by
  unfold Mu.link
  split
  · rename_i hh; rw [hh.1, hn] at hy; cases hy
  · exact hy

/-- What a new block holds, and what lies in it. -/
def Fresh (Z : Nat → Prop) (μ : Mu) (w : World) (n : Nat) : O → Obj → Prop
  | .row c cur fl cons, .cells C _ fr => cur = 0 ∧ fl = 0 ∧ (cons = [] ∨ cons = [(0, C.size)]) ∧ (∃ L r, C.toList = L ++ r ∧ VRL Z μ w c.toV L ∧ (∀ u ∈ L, u.oneCell' = true) ∧ n ≤ L.length) ∧ Free fr C.size
  | .map ks vs, .map es _ => ks = [] ∧ vs = .ds [] ∧ es = #[]
  | .iter s p, .stringIter t q => t = ⟨s.toArray⟩ ∧ q = p
  | .dfr, .deferred (some []) => True
  | .loop r, .loop R => R.state = r.state ∧ R.pending = r.pending ∧ R.params.toList = r.params ∧
      R.assign = r.assign ∧ R.body = r.body ∧ R.tmps.size = r.nt ∧ TR Z μ w r.df r.ts R.tmps ∧ ∃ y k, μ r.dfr 0 = some y ∧ y.blk = some k ∧ R.defers = k
  | _, _ => False

theorem SR.push (S : SR E Z μ h w) (o : O) : SR E Z μ (h ++ [o]) w where
  zlt := S.zlt
  obj := fun b hb => by
    rw [getO_append]
    split
    · rename_i hlt; exact S.obj b hlt
    · rename_i hge
      have hn : ∀ e x, μ b e ≠ some x := fun e x hx => hge (S.dom b e x hx)
      generalize getO [o] (b - h.length) = o'
      cases o' <;> first | trivial | (intro e x hx; exact absurd hx (hn e x))
  dom := fun b e x hx => by have := S.dom b e x hx; simp; omega
  own := S.own
  inj := S.inj
  glob := S.glob
theorem heap_push (w : World) (o : Obj) (c : Nat) : (w.alloc o).heap[c]? = if c = w.heap.size then some o else w.heap[c]? := by
  show (w.heap.push o)[c]? = _
  rw [Array.getElem?_push]
theorem ext_alloc (S : SR E Z μ h w) (o : Obj) {μ' : Mu} (hm : ∀ b e x, μ b e = some x → μ' b e = some x) : Ext Z μ w Z μ' (w.alloc o) where
  z := fun _ hc => hc
  zw := fun c hc => by rw [heap_push, if_neg (by have := S.zlt c hc; omega)]
  m := hm
  sz := fun c C el fr hc => ⟨C, by
    rw [heap_push, if_neg]
    · exact hc
    · have := (Array.getElem?_eq_some_iff.1 hc).1; omega, rfl⟩
theorem TR.mono {Z' : Nat → Prop} {μ' : Mu} {w' : World} (H : Ext Z μ w Z' μ' w') {df : D} {ts : List (Nat × V)} {tmps : Array Value} (T : TR Z μ w df ts tmps) : TR Z' μ' w' df ts tmps := fun t => VR.mono H _ _ (T t)
/-- An object's block has not been touched, or only such things have come to pass that don't concern it. -/
theorem OR.mono {Z' : Nat → Prop} {μ' : Mu} {w' : World} (H : Ext Z μ w Z' μ' w') {b : Nat} {o : O} (h0 : OR Z μ w b o) (hm : ∀ e x, μ' b e = some x → μ b e = some x) (hh : ∀ e x c, μ b e = some x → x.blk = some c → w'.heap[c]? = w.heap[c]?) : OR Z' μ' w' b o := by
  cases o with
  | row c cur fl cons =>
    intro e x hx
    obtain ⟨g1, g2, g3⟩ := h0 e x (hm e x hx)
    refine ⟨g1, fun blk hb => ?_, fun i hi hl => ?_⟩
    · rw [hh e x blk (hm e x hx) hb]; exact g2 blk hb
    · obtain ⟨v, cv, blk, k1, k2, k3, k4, k5⟩ := g3 i hi hl
      exact ⟨v, cv, blk, k1, k2, by rw [cell_of_heap (hh e x blk (hm e x hx) k2)]; exact k3, k4, VR.mono H _ _ k5⟩
  | map ks vs =>
    intro e x hx
    obtain ⟨g0, c, es, clock, g1, g2, g3, g4⟩ := h0 e x (hm e x hx)
    exact ⟨g0, c, es, clock, g1, by rw [hh e x c (hm e x hx) g1]; exact g2, VRdL.mono H.z H.zw _ _ g3, VRL.mono H _ _ g4⟩
  | iter s pos =>
    intro e x hx
    obtain ⟨g0, c, g1, g2⟩ := h0 e x (hm e x hx)
    exact ⟨g0, c, g1, by rw [hh e x c (hm e x hx) g1]; exact g2⟩
  | loop r =>
    intro e x hx
    obtain ⟨g0, c, R, y, k, g1, g2, g3, g4, g6, g7, g8, g9, g10, g11, g12, g13⟩ := h0 e x (hm e x hx)
    exact ⟨g0, c, R, y, k, g1, by rw [hh e x c (hm e x hx) g1]; exact g2, g3, g4, g6, g7, g8, g9, g10.mono H, H.m _ _ _ g11, g12, g13⟩
  | dfr =>
    intro e x hx
    obtain ⟨g0, c, g1, g2⟩ := h0 e x (hm e x hx)
    exact ⟨g0, c, g1, by rw [hh e x c (hm e x hx) g1]; exact g2⟩
  | gone => trivial
theorem glob_mono {Z' : Nat → Prop} {w' : World} (hz : ∀ c, Z c → Z' c) (hw : ∀ c, Z c → w'.heap[c]? = w.heap[c]?) (hg : ∀ g cs, E.glob g = some cs → Z g ∧ VRdAt Z w g 0 cs ∧ SizedAt w g cs.length) : ∀ g cs, E.glob g = some cs → Z' g ∧ VRdAt Z' w' g 0 cs ∧ SizedAt w' g cs.length :=
  fun g cs hc => ⟨hz g (hg g cs hc).1, VRdAt.mono hz hw g 0 cs (hg g cs hc).1 (hg g cs hc).2.1, by have h := (hg g cs hc).2.2; unfold SizedAt at *; rw [hw g (hg g cs hc).1]; exact h⟩

/-- A block is made for a name that had none. -/
theorem SR.link (S : SR E Z μ h w) {b n : Nat} {ob : O} {o : Obj} (hb : b < h.length) (hn : ∀ e, μ b e = none) (ho : getO h b = ob) (hf : Fresh Z μ w n ob o) (m : Nat) (hm : m ≤ b) :
    SR E Z (μ.link b ⟨some w.heap.size, n⟩) h (w.alloc o) ∧ Frame m Z μ w Z (μ.link b ⟨some w.heap.size, n⟩) (w.alloc o) := by
  have H : Ext Z μ w Z (μ.link b ⟨some w.heap.size, n⟩) (w.alloc o) := ext_alloc S o fun b' e x hx => Mu.link_old hn hx
  have hold : ∀ b' e x, b' ≠ b → (μ.link b ⟨some w.heap.size, n⟩) b' e = some x → μ b' e = some x := by
    intro b' e x hne hx
    unfold Mu.link at hx
    rw [if_neg (by simp [hne])] at hx
    exact hx
  have hnew : ∀ e x, (μ.link b ⟨some w.heap.size, n⟩) b e = some x → e = 0 ∧ x = ⟨some w.heap.size, n⟩ := by
    intro e x hx
    unfold Mu.link at hx
    split at hx
    · rename_i hh; cases hx; exact ⟨hh.2, rfl⟩
    · rw [hn] at hx; cases hx
  have hkeep : ∀ c, c < w.heap.size → (w.alloc o).heap[c]? = w.heap[c]? := fun c hc => by rw [heap_push, if_neg (by omega)]
  refine ⟨⟨?_, ?_, ?_, ?_, ?_, ?_⟩, ?_⟩
  · intro c hc; have := S.zlt c hc; simp; omega
  · intro b' hb'
    by_cases hne : b' = b
    · subst hne
      rw [ho]
      have hnewblk : (w.alloc o).heap[w.heap.size]? = some o := by rw [heap_push, if_pos rfl]
      cases ob with
      | row c cur fl cons =>
        cases o with
        | cells C el fr =>
          obtain ⟨rfl, rfl, hcons, ⟨L, r, f0, f1, f2, f3⟩, f4⟩ := hf
          have hLC : C.size = L.length + r.length := by rw [← Array.length_toList, f0]; simp
          intro e x hx
          obtain ⟨rfl, rfl⟩ := hnew e x hx
          refine ⟨Nat.le_refl _, fun blk hblk => ?_, fun i hi hl => ?_⟩
          · cases hblk; exact ⟨C, el, fr, hnewblk, by simp only; omega, f4, fun k _ hk => by
              rcases hcons with h | h
              · rw [h] at hk; cases hk
              · rw [h] at hk; cases hk; exact Nat.le_refl _⟩
          · have hlen := f1.length
            have hi' : i < c.toV.length := by simp at hlen hl; omega
            obtain ⟨cv, k1, k2⟩ := f1.getElem? i _ (List.getElem?_eq_getElem hi')
            refine ⟨_, cv, w.heap.size, List.getElem?_eq_getElem hi', rfl, ?_, f2 cv (List.mem_of_getElem? k1), VR.mono H _ _ k2⟩
            unfold World.cell?
            simp only [hnewblk]
            rw [← Array.getElem?_toList, f0, List.getElem?_append_left (by omega)]
            exact k1
        | _ => exact hf.elim
      | map ks vs =>
        cases o with
        | map es clock =>
          obtain ⟨rfl, rfl, rfl⟩ := hf
          intro e x hx
          obtain ⟨rfl, rfl⟩ := hnew e x hx
          exact ⟨rfl, _, _, _, rfl, hnewblk, rfl, rfl⟩
        | _ => exact hf.elim
      | iter s p =>
        cases o with
        | stringIter t q =>
          obtain ⟨rfl, rfl⟩ := hf
          intro e x hx
          obtain ⟨rfl, rfl⟩ := hnew e x hx
          exact ⟨rfl, _, rfl, hnewblk⟩
        | _ => exact hf.elim
      | loop r =>
        cases o with
        | loop R =>
          obtain ⟨g3, g4, g6, g7, g8, g9, g10, y, k, g11, g12, g13⟩ := hf
          intro e x hx
          obtain ⟨rfl, rfl⟩ := hnew e x hx
          exact ⟨rfl, _, R, y, k, rfl, hnewblk, g3, g4, g6, g7, g8, g9, g10.mono H, H.m _ _ _ g11, g12, g13⟩
        | _ => exact hf.elim
      | dfr =>
        cases o with
        | deferred l =>
          cases l with
          | none => exact hf.elim
          | some l =>
            cases l with
            | nil =>
              intro e x hx
              obtain ⟨rfl, rfl⟩ := hnew e x hx
              exact ⟨rfl, _, rfl, hnewblk⟩
            | cons _ _ => exact hf.elim
        | _ => exact hf.elim
      | gone => trivial
    · exact OR.mono H (S.obj b' hb') (fun e x hx => hold b' e x hne hx) (fun e x c hx hc => hkeep c (S.own b' e x c hx hc).1)
  · intro b' e x hx
    by_cases hne : b' = b
    · subst hne; exact hb
    · exact S.dom b' e x (hold b' e x hne hx)
  · intro b' e x c hx hc
    by_cases hne : b' = b
    · subst hne
      obtain ⟨rfl, rfl⟩ := hnew e x hx
      cases hc
      refine ⟨by simp, fun hz => ?_⟩
      have := S.zlt _ hz; omega
    · obtain ⟨k1, k2⟩ := S.own b' e x c (hold b' e x hne hx) hc
      exact ⟨by simp; omega, k2⟩
  · intro b1 b2 e1 e2 x1 x2 c h1 h2 c1 c2
    by_cases n1 : b1 = b <;> by_cases n2 : b2 = b
    · rw [n1, n2]
    · subst n1
      obtain ⟨rfl, rfl⟩ := hnew e1 x1 h1
      cases c1
      have := (S.own b2 e2 x2 _ (hold b2 e2 x2 n2 h2) c2).1
      omega
    · subst n2
      obtain ⟨rfl, rfl⟩ := hnew e2 x2 h2
      cases c2
      have := (S.own b1 e1 x1 _ (hold b1 e1 x1 n1 h1) c1).1
      omega
    · exact S.inj b1 b2 e1 e2 x1 x2 c (hold b1 e1 x1 n1 h1) (hold b2 e2 x2 n2 h2) c1 c2
  · exact glob_mono H.z H.zw S.glob
  · refine ⟨rfl, rfl, rfl, by simp, fun c hc _ => hkeep c hc, H.z, fun c hc => .inl hc, ?_, fun b' _ e x hx => Mu.link_old hn hx, H.sz, fun b' hb' hn' e => by
      unfold Mu.link; rw [if_neg (by omega)]; exact hn' e⟩
    intro b' e x c hx hc
    by_cases hne : b' = b
    · subst hne
      obtain ⟨rfl, rfl⟩ := hnew e x hx
      cases hc
      exact .inr (Nat.le_refl _)
    · exact .inl ⟨b', e, x, hold b' e x hne hx, hc⟩
theorem VRL.replicate {z : List V} {zs : List Value} (hz : VRL Z μ w z zs) : ∀ n : Nat, VRL Z μ w ((List.replicate n z).flatten) ((List.replicate n zs).flatten)
  | 0 => rfl
  | n + 1 => by
    simp only [List.replicate_succ, List.flatten_cons]
    exact hz.append (VRL.replicate hz n)
theorem range_zeros (zs : Array Value) (n : Nat) (_ : 0 < zs.size) : ((Array.range (n * zs.size)).map (zs[· % zs.size]!)).toList = (List.replicate n zs.toList).flatten := by
  induction n with
  | zero => simp
  | succ n ih =>
    have e1 : (n + 1) * zs.size = n * zs.size + zs.size := Nat.succ_mul ..
    have e2 : (Array.range ((n + 1) * zs.size)).map (zs[· % zs.size]!) = (Array.range (n * zs.size)).map (zs[· % zs.size]!) ++ zs := by
      apply Array.ext'
      rw [e1]
      simp only [Array.toList_append, Array.toList_map, Array.toList_range, List.range_add, List.map_append]
      congr 1
      apply List.ext_getElem
      · simp
      · intro i h1 h2
        simp at h1
        simp [Nat.mod_eq_of_lt h1, h1]
    rw [e2, Array.toList_append, ih]
    rw [List.replicate_succ']
    simp
theorem tailD_spec : ∀ l : List V, (tailD l).1 ++ (tailD l).2.map V.d = l
  | [] => rfl
  | v :: l => by
    have ih := tailD_spec l
    unfold tailD
    generalize tailD l = q at ih
    obtain ⟨p, t⟩ := q
    cases p with
    | nil =>
      simp only [List.nil_append] at ih
      cases v <;> simp [ih]
    | cons a p =>
      simp only at ih ⊢
      rw [← ih]; rfl
theorem ofV_toV (l : List V) : (Cells.ofV l).toV = l := by
  unfold Cells.ofV
  split
  · rename_i xs hx; rw [allD_spec hx]; rfl
  · have := tailD_spec l
    generalize tailD l = q at this
    obtain ⟨p, t⟩ := q
    simp only
    split
    · exact this
    · rfl
theorem Free.none (n : Nat) : Free (0, 0) n := fun i _ hh => by simp at hh
/-- What making a block gives: the block, and a value that names it. -/
def Made (Z : Nat → Prop) (μ : Mu) (w : World) (ob : O) (mk : Nat → V) (o : Obj) (cv : Value) : Prop :=
  ∃ n, Fresh Z μ w n ob o ∧ ∀ b, (∀ e, μ b e = none) → VR Z (μ.link b ⟨some w.heap.size, n⟩) (w.alloc o) (mk b) cv
theorem made_row {cs : List V} {C : Array Value} {el : TypeId} (h1 : VRL Z μ w cs C.toList) (h2 : ∀ u ∈ C.toList, u.oneCell' = true) : Made Z μ w (.row (.ofV cs) 0 0 []) (fun b => .ptr b 0 0 cs.length) (.cells C el) (.pointer (some ⟨w.heap.size, 0, none⟩)) := by
  have hl := h1.length
  simp at hl
  refine ⟨C.size, ⟨rfl, rfl, .inl rfl, ⟨C.toList, [], by simp, by rw [ofV_toV]; exact h1, h2, by simp⟩, Free.none _⟩, fun b _ => ⟨_, w.heap.size, Mu.link_new .., rfl, by simp only; omega, rfl, C, el, (0, 0), by rw [heap_push, if_pos rfl], by omega⟩⟩
theorem made_slice {cs : List V} {C : Array Value} {el : TypeId} {n m sz : Nat} (h1 : VRL Z μ w cs C.toList) (h2 : ∀ u ∈ C.toList, u.oneCell' = true) (hn : n ≤ m) (hm : m * sz = C.size) : Made Z μ w (.row (.ofV cs) 0 0 []) (fun b => .slice b 0 0 n sz) (.cells C el) (.slice (some ⟨w.heap.size, 0, none⟩) n m) := by
  have hl := h1.length
  simp at hl
  have : n * sz ≤ m * sz := Nat.mul_le_mul_right _ hn
  refine ⟨C.size, ⟨rfl, rfl, .inl rfl, ⟨C.toList, [], by simp, by rw [ofV_toV]; exact h1, h2, by simp⟩, Free.none _⟩, fun b _ => ⟨_, _, m, Mu.link_new .., rfl, hn, by simp only; omega, .inr ⟨_, C, el, (0, 0), rfl, rfl, by rw [heap_push, if_pos rfl], by omega⟩⟩⟩
theorem made_slice' {cs : List V} {C : Array Value} {el : TypeId} {n m sz : Nat} (h1 : VRL Z μ w cs C.toList) (h2 : ∀ u ∈ C.toList, u.oneCell' = true) (hn : n ≤ m) (hm : m * sz = C.size) : Made Z μ w (.row (.ofV cs) 0 0 [(0, m * sz)]) (fun b => .slice b 0 0 n sz) (.cells C el) (.slice (some ⟨w.heap.size, 0, none⟩) n m) := by
  have hl := h1.length
  simp at hl
  have : n * sz ≤ m * sz := Nat.mul_le_mul_right _ hn
  refine ⟨C.size, ⟨rfl, rfl, .inr (by rw [hm]), ⟨C.toList, [], by simp, by rw [ofV_toV]; exact h1, h2, by simp⟩, Free.none _⟩, fun b _ => ⟨_, _, m, Mu.link_new .., rfl, hn, by simp only; omega, .inr ⟨_, C, el, (0, 0), rfl, rfl, by rw [heap_push, if_pos rfl], by omega⟩⟩⟩
theorem alloc_ok (HE : EnvOk E P) {ρ : Operand → V} {ρ' : Operand → Value} (hρ : ∀ x, VR Z μ w (ρ x) (ρ' x)) (o : Oper) {ob : O} {mk : Nat → V} (hv : allocV E ρ o.op = some (ob, mk)) :
    ∃ obj cv, (execOp ρ' o).run P w = .ok (.value cv) (w.alloc obj) ∧ Made Z μ w ob mk obj cv := by
  have val : ∀ {s : Sem Value}, (∃ obj cv, s.run P w = .ok cv (w.alloc obj) ∧ Made Z μ w ob mk obj cv) → ∃ obj cv, ((do pure (Next.value (← s))) : Sem Next).run P w = .ok (.value cv) (w.alloc obj) ∧ Made Z μ w ob mk obj cv := by
    rintro s ⟨obj, cv, e1, e2⟩
    exact ⟨obj, cv, by simp [e1], e2⟩
  unfold allocV at hv
  unfold execOp
  split at hv <;> rename_i hop
  all_goals first | rw [hop] | (cases hv; done)
  · -- alloc
    rename_i t
    split at hv
    · rename_i i hi
      split at hv
      · rename_i z hz
        cases hv
        obtain ⟨zv, g1, g2, g3, _⟩ := (HE.ty t i hi).zeroValue hz
        exact val ⟨.cells zv.cells t, .pointer (some ⟨w.heap.size, 0, none⟩), by simp [Instr.alloc, g1, newVar, newRow], made_row (g2 Z μ w) g3⟩
      · cases hv
    · cases hv
  · -- box
    rename_i t x
    split at hv
    · rename_i cs hcs
      cases hv
      obtain ⟨g1, g2⟩ := (hρ x).cellsO hcs
      exact val ⟨.cells (ρ' x).cells t, .pointer (some ⟨w.heap.size, 0, none⟩), by simp [Instr.box, newVar, newRow], made_row g1 g2⟩
    · cases hv
  · -- buildSlice
    rename_i t n ps
    split at hv
    · rename_i e hf
      have hu := HE.under hf
      split at hv
      · rename_i i hi
        have T := HE.ty e i hi
        split at hv
        · rename_i z hz
          split at hv
          · rename_i hle
            have hle := Nat.le_of_ble_eq_true hle
            split at hv
            · rename_i cs hcs
              obtain ⟨zv, g1, g2, g3, _, _, g6⟩ := T.zeroValue hz
              have hpos := T.pos.2
              have hz1 : VRL Z μ w ((List.replicate n z).flatten) ((Array.range (n * i.size)).map (zv.cells[· % zv.cells.size]!)).toList := by
                rw [← g6, range_zeros _ _ (by omega)]; exact VRL.replicate (g2 Z μ w) n
              have hz2 : ∀ u ∈ ((Array.range (n * i.size)).map (zv.cells[· % zv.cells.size]!)).toList, u.oneCell' = true := by
                rw [← g6, range_zeros _ _ (by omega)]
                intro u hu
                simp only [List.mem_flatten, List.mem_replicate] at hu
                obtain ⟨l, ⟨_, rfl⟩, hu⟩ := hu
                exact g3 u hu
              obtain ⟨out, o1, o2, o3⟩ := fill_ok (fun k => (arrPlaces i.size n 0)[k]?) _ (fun _ => rfl) (PR.map hρ ps.toList) hz1 hz2 hcs
              have o1' := fill_places _ (fun k => some (k * i.size, i.size)) (fun k p hip => by
                simp only [arrPlaces_get] at hip
                split at hip
                · simpa using hip
                · cases hip) o1
              have hsz : ∀ {parts : List (Nat × Value)} {cells out : Array Value}, Instr.fill (fun k => some (k * i.size, i.size)) cells parts = some out → out.size = cells.size := by
                intro parts
                induction parts with
                | nil => intro cells out h; simp only [Instr.fill, Option.some.injEq] at h; rw [h]
                | cons p r ih =>
                  intro cells out h
                  obtain ⟨k, v⟩ := p
                  simp only [Instr.fill] at h
                  split at h
                  · cases h
                  · rw [ih h]
                    rw [← Array.length_toList, foldl_wr', wr_length, Array.length_toList]
              have hos : out.size = n * i.size := by rw [hsz o1']; simp
              have hrun : (Instr.buildSlice t n (ps.map fun p => (p.1, ρ' p.2))).run P w = .ok (.slice (some ⟨w.heap.size, 0, none⟩) n n) (w.alloc (.cells out e)) := by
                unfold Instr.buildSlice
                simp only [Sem.run_bind, run_underlying hu, Result.andThen_ok, T.sizeOf]
                have h24 : ¬ n * i.size > 2 ^ 24 := by omega
                rw [if_neg h24]
                have hps : (ps.map fun p => (p.1, ρ' p.2)).toList = ps.toList.map fun p => (p.1, ρ' p.2) := by simp
                by_cases h0 : n * i.size = 0
                · have hr0 : ∀ f : Nat → Value, (Array.range (n * i.size)).map f = (Array.range (n * i.size)).map (zv.cells[· % zv.cells.size]!) := by intro f; rw [h0]; simp
                  rw [if_pos h0]
                  simp only [Sem.run_bind, Sem.run_pure, Result.andThen_ok]
                  rw [hr0, hps, o1']
                  simp [newRow]
                · rw [if_neg h0]
                  simp only [Sem.run_bind, Sem.run_pure, Result.andThen_ok, g1]
                  rw [hps, o1']
                  simp [newRow]
              split at hv
              · cases hv
                refine val ⟨_, _, hrun, ?_⟩
                have hos0 : out.size = 0 := by simpa using hos
                have hos1 : out.toList = [] := by simpa using hos0
                exact ⟨0, ⟨rfl, rfl, .inl rfl, ⟨[], out.toList, rfl, rfl, by simp, by simp⟩, Free.none _⟩, fun b _ => ⟨_, rfl⟩⟩
              · cases hv
                exact val ⟨_, _, hrun, made_slice o2 o3 (Nat.le_refl _) hos.symm⟩
            · cases hv
          · cases hv
        · cases hv
      · cases hv
    · cases hv
  · -- makeSlice
    rename_i t l c
    split at hv
    · rename_i e hf
      have hu := HE.under hf
      split at hv
      · rename_i i hi
        have T := HE.ty e i hi
        split at hv
        · rename_i li ci z hl hc hz
          split at hv
          · rename_i n m hn hm
            split at hv
            · rename_i b1 b2
              cases hv
              have b1 := Nat.le_of_ble_eq_true b1
              have b2 := Nat.le_of_ble_eq_true b2
              obtain ⟨zv, g1, g2, g3, _, _, g6⟩ := T.zeroValue hz
              have hpos := T.pos
              obtain ⟨inf, i1, i2, i3⟩ := T.typeInfo
              obtain ⟨kl, el⟩ := idxV_ok (hρ l) hl
              obtain ⟨kc, ec⟩ := idxV_ok (hρ c) hc
              have hm1 : m ≤ 140737488355328 := Nat.le_trans (Nat.le_mul_of_pos_right _ hpos.1) b2
              have wl : IntKind.i64.wrap (n : Int) = n := IntWalk.i64_in _ (by omega)
              have wc : IntKind.i64.wrap (m : Int) = m := IntWalk.i64_in _ (by omega)
              have hz1 : VRL Z μ w ((List.replicate m z).flatten) ((Array.range (m * i.size)).map (zv.cells[· % zv.cells.size]!)).toList := by
                rw [← g6, range_zeros _ _ (by omega)]; exact VRL.replicate (g2 Z μ w) m
              have hz2 : ∀ u ∈ ((Array.range (m * i.size)).map (zv.cells[· % zv.cells.size]!)).toList, u.oneCell' = true := by
                rw [← g6, range_zeros _ _ (by omega)]
                intro u hu
                simp only [List.mem_flatten, List.mem_replicate] at hu
                obtain ⟨l, ⟨_, rfl⟩, hu⟩ := hu
                exact g3 u hu
              refine val ⟨.cells ((Array.range (m * i.size)).map (zv.cells[· % zv.cells.size]!)) e, _, ?_, made_slice' hz1 hz2 b1 (by simp)⟩
              rw [el, ec, natI_spec hn, natI_spec hm]
              unfold Instr.makeSlice
              simp only [Sem.run_bind, run_underlying hu, Result.andThen_ok, asInt, asIntOf, Sem.run_pure, i1, wl, wc, i3]
              have hb : (i.bytes : Int) * (m : Int) = ((m * i.bytes : Nat) : Int) := by push_cast; exact Int.mul_comm ..
              have c1 : ¬ ((decide ((m : Int) < 0) || decide ((i.bytes : Int) * (m : Int) > 2 ^ 48) || decide ((n : Int) < 0) || decide ((n : Int) > (m : Int))) = true) := by
                simp only [Bool.or_eq_true, decide_eq_true_eq, not_or]
                rw [hb]
                refine ⟨⟨⟨by omega, ?_⟩, by omega⟩, by omega⟩
                generalize m * i.bytes = q at b2 ⊢
                omega
              rw [if_neg c1]
              simp only [Sem.run_bind, run_askRoom, Result.andThen_ok, T.sizeOf, Int.toNat_natCast]
              by_cases h0 : m * i.size = 0
              · have hr0 : ∀ f : Nat → Value, (Array.range (m * i.size)).map f = (Array.range (m * i.size)).map (zv.cells[· % zv.cells.size]!) := by intro f; rw [h0]; simp
                rw [if_pos h0]
                simp only [Sem.run_bind, Sem.run_pure, Result.andThen_ok]
                rw [hr0]
                simp [newRow]
              · rw [if_neg h0]
                simp only [Sem.run_bind, Sem.run_pure, Result.andThen_ok, g1]
                simp [newRow]
            · cases hv
          · cases hv
        · cases hv
      · cases hv
    · cases hv
  · -- makeMap
    cases hv
    exact val ⟨.map #[] 0, .map (some w.heap.size), by simp [Instr.makeMap], 0, ⟨rfl, rfl, rfl⟩, fun b _ => ⟨_, _, Mu.link_new .., rfl, rfl⟩⟩
  · -- range
    rename_i t x
    split at hv
    · rename_i s hf hx
      have hu := HE.under hf
      cases hv
      have h1 := hρ x
      rw [hx] at h1
      simp only [VR, VRd] at h1
      refine val ⟨.stringIter ⟨s.toArray⟩ 0, .pointer (some ⟨w.heap.size, 0, none⟩), ?_, 0, ⟨rfl, rfl⟩, fun b _ => ⟨_, _, Mu.link_new .., rfl, rfl⟩⟩
      simp [Instr.range, run_underlying hu, h1]
    · cases hv
end
end Go.Ab
end
