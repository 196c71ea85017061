/-
  Copy, maps, ranges over texts, and conversions between texts and bytes.
-/
import Derived.Test.YtldpapiaonchaaaGreatDoorZzMemD
import Derived.Laws.IdiomStrings
section
namespace Go.Ab
open Go
section
variable {E : Env} {P : Program} {Z : Nat → Prop} {μ : Mu} {w : World} {h : List O}

/-- A block that is no row of cells gets another content. -/
theorem run_setObj {c : Nat} {o o' : Obj} (hc : w.heap[c]? = some o) (ho : ∀ C el fr, o ≠ .cells C el fr) :
    (setObj c o').run P w = .ok () { w with heap := w.heap.setIfInBounds c o' } := by
  unfold setObj
  rw [Sem.run.eq_def]
  simp only [hc]
  cases o <;> first | rfl | exact absurd rfl (ho _ _ _)
theorem But.setObj (c : Nat) (o' : Obj) : But c w { w with heap := w.heap.setIfInBounds c o' } := by
  refine ⟨rfl, rfl, rfl, by simp, fun c' hc => ?_⟩
  show (w.heap.setIfInBounds c o')[c']? = _
  rw [Array.getElem?_setIfInBounds, if_neg (Ne.symm hc)]
theorem obj_turn (S : SR E Z μ h w) {b c : Nat} {x : Ep} {o o' : Obj} {ob : O} (m : Nat) (hx : μ b 0 = some x) (hu : ∀ e x, μ b e = some x → e = 0) (hblk : x.blk = some c) (hc : w.heap[c]? = some o) (ho : ∀ C el fr, o ≠ .cells C el fr)
    (hO : ∀ w', Ext Z μ w Z μ w' → w'.heap[c]? = some o' → OR Z μ w' b ob) :
    ∃ w', (setObj c o').run P w = .ok () w' ∧ SR E Z μ (setO h b ob) w' ∧ Frame m Z μ w Z μ w' ∧ Ext Z μ w Z μ w' := by
  have hB := But.setObj (w := w) c o'
  have hlt := (Array.getElem?_eq_some_iff.1 hc).1
  refine ⟨_, run_setObj hc ho, S.change (S.dom b 0 x hx) m ⟨0, x, hx⟩ hB.os hB.tape hB.output (by rw [hB.size]; exact Nat.le_refl _) (fun d _ hn => hB.keep d fun hd => hn 0 x hx (by rw [hblk, hd])) (fun d C el fr hd => ?_) (fun _ _ _ => rfl) (fun _ _ hh => hh) (fun e0 x0 d hh hd => .inl ⟨e0, x0, hh, hd⟩) fun H => ?_⟩
  · by_cases hne : d = c
    · subst hne; rw [hc] at hd; cases hd; exact absurd rfl (ho _ _ _)
    · exact ⟨C, by rw [hB.keep d hne]; exact hd, rfl⟩
  · refine hO _ H ?_
    show (w.heap.setIfInBounds c o')[c]? = _
    rw [Array.getElem?_setIfInBounds, if_pos rfl, if_pos hlt]

/-! ### Keys -/
theorem eqI_true {a b : Int} (h : eqI a b = true) : a = b := by rw [eqI_eq] at h; exact of_decide_eq_true h
theorem eqCell_true {k x : D} (h : eqCell k x = some true) : k = x := by
  unfold eqCell at h
  split at h
  · rename_i a b; cases a <;> cases b <;> simp_all [eqB]
  · rename_i k a k' b
    split at h
    · rename_i hk
      have h1 := eqI_true (Option.some.inj h)
      subst h1
      cases k <;> cases k' <;> simp_all [kindEq]
    · cases h
  · have h1 := Option.some.inj h
    rw [eqS_eq] at h1
    rw [eq_of_beq h1]
  · cases h
theorem eqCells_true : ∀ {l m : List D}, eqCells l m = some true → l = m
  | [], [], _ => rfl
  | [], _ :: _, h => by simp [eqCells] at h
  | _ :: _, [], h => by simp [eqCells] at h
  | a :: l, b :: m, h => by
    simp only [eqCells] at h
    split at h
    · rename_i x y h1 h2
      cases x <;> simp [andB] at h
      subst h
      rw [eqCell_true h1, eqCells_true h2]
    · cases h
theorem eqK_true {k x : D} (h : eqK k x = some true) : k = x := by
  unfold eqK at h
  split at h
  · rw [eqCells_true h]
  · exact eqCell_true h
theorem eqCell_one {k : D} {b : Bool} {x : D} (h : eqCell k x = some b) {v v' : Value} (hv : VRd Z w k v) (hv' : VRd Z w k v') : v = v' ∧ ∀ n, Instr.sameBits n v v = true := by
  unfold eqCell at h
  split at h
  · simp only [VRd] at hv hv'; subst hv; subst hv'; exact ⟨rfl, fun n => by cases n <;> simp [Instr.sameBits]⟩
  · simp only [VRd] at hv hv'; subst hv; subst hv'; exact ⟨rfl, fun n => by cases n <;> simp [Instr.sameBits]⟩
  · simp only [VRd] at hv hv'; subst hv; subst hv'; exact ⟨rfl, fun n => by cases n <;> simp [Instr.sameBits, beq_toListBytes]⟩
  · cases h
theorem eqCells_one : ∀ {l m : List D} {b : Bool}, eqCells l m = some b → ∀ {v v' : List Value}, VRdL Z w l v → VRdL Z w l v' → v = v' ∧ ∀ n, ∀ u ∈ v, Instr.sameBits n u u = true
  | [], _, _, _, v, v', hv, hv' => by cases hv; cases hv'; exact ⟨rfl, by simp⟩
  | _ :: _, [], _, h, _, _, _, _ => by simp [eqCells] at h
  | a :: l, c :: m, b, h, v, v', hv, hv' => by
    simp only [eqCells] at h
    split at h
    · rename_i x y h1 h2
      obtain ⟨u, us, rfl, p1, p2⟩ := hv
      obtain ⟨u', us', rfl, q1, q2⟩ := hv'
      obtain ⟨e1, e2⟩ := eqCell_one h1 p1 q1
      obtain ⟨e3, e4⟩ := eqCells_one h2 p2 q2
      exact ⟨by rw [e1, e3], fun n u hu => by rcases List.mem_cons.1 hu with rfl | hu; exact e2 n; exact e4 n u hu⟩
    · cases h
theorem eqK_one {k : D} {b : Bool} {x : D} (h : eqK k x = some b) {v v' : Value} (hv : VRd Z w k v) (hv' : VRd Z w k v') : v = v' ∧ Instr.sameBits 10000 v v = true := by
  unfold eqK at h
  split at h
  · obtain ⟨vs, rfl, h1, _⟩ := hv
    obtain ⟨vs', rfl, h1', _⟩ := hv'
    obtain ⟨e1, e2⟩ := eqCells_one h h1 h1'
    refine ⟨by rw [Array.toList_inj.1 e1], ?_⟩
    show Instr.sameBits (9999 + 1) (.agg vs) (.agg vs) = true
    simp only [Instr.sameBits, beq_self_eq_true, Bool.true_and, List.all_eq_true]
    rintro ⟨a, c⟩ hm
    have hz : ∀ (l : List Value) (p : Value × Value), p ∈ l.zip l → p.1 = p.2 ∧ p.1 ∈ l := by
      intro l
      induction l with
      | nil => intro p hp; simp at hp
      | cons y l ih => intro p hp; simp at hp; rcases hp with rfl | hp; exact ⟨rfl, by simp⟩; exact ⟨(ih p hp).1, by simp [(ih p hp).2]⟩
    obtain ⟨e3, e4⟩ := hz _ _ hm
    simp only at e3 e4 ⊢
    rw [← e3]; exact e2 _ _ e4
  · obtain ⟨e1, e2⟩ := eqCell_one h hv hv'
    exact ⟨e1, e2 _⟩
/-- The place that was found holds the key. -/
theorem findD_at {k : D} : ∀ {ks : List D} {n : Nat} {i : Nat}, findD k ks n = some (some i) → n ≤ i ∧ ks[i - n]? = some k ∧ eqK k k = some true
  | [], _, _, h => by simp [findD] at h
  | x :: ks, n, i, h => by
    rw [findD_cons] at h
    split at h
    · rename_i hk
      cases h
      have := eqK_true hk
      subst this
      exact ⟨Nat.le_refl _, by simp, hk⟩
    · obtain ⟨a, b, c⟩ := findD_at h
      refine ⟨by omega, ?_, c⟩
      have e : i - n = (i - (n + 1)) + 1 := by omega
      rw [e]; simpa using b
    · cases h
theorem setNth_self {α : Type} : ∀ (l : List α) (n : Nat) (v : α), setNth l n v = l.set n v
  | [], _, _ => rfl
  | _ :: _, 0, _ => rfl
  | _ :: l, n + 1, v => by simp [setNth, setNth_self l n v]
theorem Cells.setNth_toV (c : Cells) (i : Nat) (v : V) : (c.setNth i v).toV = Ab.setNth c.toV i v := by
  unfold Cells.setNth
  split
  · rename_i l x
    simp only [Cells.toV, setNth_self, List.map_set]
  · rfl
theorem Cells.snoc_toV (c : Cells) (v : V) : (c.snoc v).toV = c.toV ++ [v] := by
  unfold Cells.snoc
  split
  · simp [Cells.toV]
  · rfl
theorem eraseNth_self {α : Type} : ∀ (l : List α) (n : Nat), eraseNth l n = l.eraseIdx n
  | [], _ => rfl
  | _ :: _, 0 => rfl
  | _ :: l, n + 1 => by simp [eraseNth, eraseNth_self l n]
theorem map_erase {α β : Type} (f : α → β) : ∀ (l : List α) (i : Nat), (l.eraseIdx i).map f = (l.map f).eraseIdx i
  | [], _ => rfl
  | _ :: _, 0 => rfl
  | _ :: l, i + 1 => by simp [map_erase f l i]
theorem Cells.erase_toV (c : Cells) (i : Nat) : (c.erase i).toV = c.toV.eraseIdx i := by
  unfold Cells.erase
  split
  · simp only [Cells.toV, eraseNth_self, map_erase]
  · simp only [Cells.toV, eraseNth_self]
theorem VRL.set : ∀ {d : List V} {v : List Value} (n : Nat) {x : V} {u : Value}, VRL Z μ w d v → VR Z μ w x u → VRL Z μ w (d.set n x) (v.set n u)
  | [], _, _, _, _, h, _ => by cases h; rfl
  | _ :: _, _, 0, _, _, h, hx => by obtain ⟨v, vs, rfl, h1, h2⟩ := h; exact ⟨_, _, rfl, hx, h2⟩
  | _ :: _, _, n + 1, _, _, h, hx => by obtain ⟨v, vs, rfl, h1, h2⟩ := h; exact ⟨_, _, rfl, h1, h2.set n hx⟩
theorem VRL.eraseIdx : ∀ {d : List V} {v : List Value} (n : Nat), VRL Z μ w d v → VRL Z μ w (d.eraseIdx n) (v.eraseIdx n)
  | [], _, _, h => by cases h; rfl
  | _ :: _, _, 0, h => by obtain ⟨v, vs, rfl, h1, h2⟩ := h; exact h2
  | _ :: _, _, n + 1, h => by obtain ⟨v, vs, rfl, h1, h2⟩ := h; exact ⟨_, _, rfl, h1, h2.eraseIdx n⟩
theorem VRdL.eraseIdx : ∀ {d : List D} {v : List Value} (n : Nat), VRdL Z w d v → VRdL Z w (d.eraseIdx n) (v.eraseIdx n)
  | [], _, _, h => by cases h; rfl
  | _ :: _, _, 0, h => by obtain ⟨v, vs, rfl, h1, h2⟩ := h; exact h2
  | _ :: _, _, n + 1, h => by obtain ⟨v, vs, rfl, h1, h2⟩ := h; exact ⟨_, _, rfl, h1, h2.eraseIdx n⟩
theorem VRdL.append : ∀ {d d' : List D} {v v' : List Value}, VRdL Z w d v → VRdL Z w d' v' → VRdL Z w (d ++ d') (v ++ v')
  | [], _, _, _, h, h' => by cases h; exact h'
  | _ :: _, _, _, _, h, h' => by obtain ⟨v, vs, rfl, h1, h2⟩ := h; exact ⟨v, _, rfl, h1, h2.append h'⟩
end
end Go.Ab
end
section
/-
  Maps written, ranges over texts, copies, conversions.
-/
namespace Go.Ab
open Go
section
variable {E : Env} {P : Program} {Z : Nat → Prop} {μ : Mu} {w : World} {h : List O}

def Done (P : Program) (E : Env) (Z : Nat → Prop) (μ : Mu) (w : World) (m : Nat) (s : Sem Unit) (h' : List O) : Prop :=
  ∃ w', s.run P w = .ok () w' ∧ SR E Z μ h' w' ∧ Frame m Z μ w Z μ w' ∧ Ext Z μ w Z μ w'
theorem Ext.refl (Z : Nat → Prop) (μ : Mu) (w : World) : Ext Z μ w Z μ w := ⟨fun _ hc => hc, fun _ _ => rfl, fun _ _ _ hx => hx, fun _ C _ _ h => ⟨C, h, rfl⟩⟩
theorem mapSet_ok (HE : EnvOk E P) (S : SR E Z μ h w) {t : Nat} {mv kv vv : Value} {m k v : V} {h' : List O} (m0 : Nat) (hm : VR Z μ w m mv) (hk : VR Z μ w k kv) (hv : VR Z μ w v vv) (hs : mapSet E h t m k v = some h') :
    Done P E Z μ w m0 (Instr.mapUpdate t mv kv vv) h' := by
  unfold mapSet at hs
  split at hs
  · rename_i kt et hf
    have hu := HE.under hf
    split at hs
    · rename_i b k
      obtain ⟨x, c, k1, k2, rfl⟩ := hm
      split at hs
      · rename_i ks vs hb hko
        have ho := S.obj b (S.dom b 0 x k1)
        rw [hb] at ho
        obtain ⟨_, c', es, clock, e1, e2, e3, e4⟩ := ho 0 x k1
        rw [k2] at e1; cases e1
        have h0 : ∀ e x, μ b e = some x → e = 0 := fun e x hx => (ho e x hx).1
        have hnc : ∀ C el fr, (Obj.map es clock) ≠ .cells C el fr := by intro _ _ _ hh; cases hh
        split at hs
        · rename_i i hi
          cases hs
          obtain ⟨f1, f2⟩ := findKey_ok HE hko hk e3 hi
          have f2 := f2 i rfl
          obtain ⟨_, d1, d2⟩ := findD_at hi
          simp only [Nat.sub_zero] at d1
          obtain ⟨old, o1, o2⟩ := e3.getElem? i k d1
          rw [List.getElem?_map] at o1
          obtain ⟨p1, p2⟩ := eqK_one d2 o2 hk
          subst p1
          simp only [Option.map_some] at f1
          have f2' : i < es.size := by simpa using f2
          have hold : (es[i]).key = old := by
            rw [← Array.getElem?_toList] at *
            have : es.toList[i]? = some es[i] := by simp [f2']
            rw [this] at o1; simpa using o1
          obtain ⟨w', r1, r2⟩ := obj_turn (P := P) (o' := .map (es.modify i fun e => { e with key := old, val := vv }) clock) (ob := .map ks (vs.setNth i v)) S m0 k1 h0 k2 e2 hnc (by
            intro w' H hw e y hy
            obtain rfl := h0 e y hy
            rw [k1] at hy; cases hy
            refine ⟨rfl, c, _, _, k2, hw, ?_, ?_⟩
            · have : (es.modify i fun e => { e with key := old, val := vv }).toList.map (·.key) = es.toList.map (·.key) := by
                rw [Array.toList_modify]
                apply List.ext_getElem?
                intro j
                simp only [List.getElem?_map, List.getElem?_modify]
                by_cases hj : i = j
                · subst hj
                  simp [f2', hold]
                · simp [hj]
              rw [this]; exact VRdL.mono H.z H.zw _ _ e3
            · have : (es.modify i fun e => { e with key := old, val := vv }).toList.map (·.val) = (es.toList.map (·.val)).set i vv := by
                rw [Array.toList_modify]
                apply List.ext_getElem?
                intro j
                simp only [List.getElem?_map, List.getElem?_modify, List.getElem?_set]
                by_cases hj : i = j
                · subst hj
                  simp [f2']
                · simp [hj]
              rw [this, Cells.setNth_toV, setNth_self]
              exact (VRL.mono H _ _ e4).set i (VR.mono H _ _ hv))
          refine ⟨w', ?_, r2⟩
          simp [Instr.mapUpdate, run_underlying hu, run_getObj_map e2, keyCheck HE hko hk, f1, Instr.keyThatStays, f2', hold, p2, r1]
        · rename_i hi
          cases hs
          obtain ⟨f1, _⟩ := findKey_ok HE hko hk e3 hi
          obtain ⟨w', r1, r2⟩ := obj_turn (P := P) (o' := .map (es.push { key := kv, val := vv, born := clock }) (clock + 1)) (ob := .map (ks ++ [k]) (vs.snoc v)) S m0 k1 h0 k2 e2 hnc (by
            intro w' H hw e y hy
            obtain rfl := h0 e y hy
            rw [k1] at hy; cases hy
            refine ⟨rfl, c, _, _, k2, hw, ?_, ?_⟩
            · simp only [Array.toList_push, List.map_append, List.map_cons, List.map_nil]
              exact (VRdL.mono H.z H.zw _ _ e3).append ⟨kv, [], rfl, VRd.mono H.z H.zw _ _ hk, rfl⟩
            · simp only [Array.toList_push, List.map_append, List.map_cons, List.map_nil]
              rw [Cells.snoc_toV]
              exact (VRL.mono H _ _ e4).append ⟨vv, [], rfl, VR.mono H _ _ hv, rfl⟩)
          refine ⟨w', ?_, r2⟩
          simp only [Option.map_none] at f1
          simp [Instr.mapUpdate, run_underlying hu, run_getObj_map e2, keyCheck HE hko hk, f1, r1]
        · cases hs
      · cases hs
    · cases hs
  · cases hs
theorem delete_ok (HE : EnvOk E P) (S : SR E Z μ h w) {t ty : Nat} {ts : List Nat} {mv kv : Value} {m k : V} {h' : List O} (m0 : Nat) (hm : VR Z μ w m mv) (hk : VR Z μ w k kv) (hs : deleteO E h t m k = some h') :
    ∃ w', (Builtin.delete_ (t :: ts).toArray ty #[mv, kv]).run P w = .ok (.tuple #[]) w' ∧ SR E Z μ h' w' ∧ Frame m0 Z μ w Z μ w' ∧ Ext Z μ w Z μ w' := by
  unfold deleteO at hs
  split at hs
  · rename_i kt et hf
    have hu := HE.under hf
    split at hs
    · rename_i b k
      obtain ⟨x, c, k1, k2, rfl⟩ := hm
      split at hs
      · rename_i ks vs hb hko
        have ho := S.obj b (S.dom b 0 x k1)
        rw [hb] at ho
        obtain ⟨_, c', es, clock, e1, e2, e3, e4⟩ := ho 0 x k1
        rw [k2] at e1; cases e1
        have h0 : ∀ e x, μ b e = some x → e = 0 := fun e x hx => (ho e x hx).1
        have hnc : ∀ C el fr, (Obj.map es clock) ≠ .cells C el fr := by intro _ _ _ hh; cases hh
        split at hs
        · rename_i i hi
          cases hs
          obtain ⟨f1, f2⟩ := findKey_ok HE hko hk e3 hi
          have f2 := f2 i rfl
          simp only [Option.map_some] at f1
          obtain ⟨w', r1, r2⟩ := obj_turn (P := P) (o' := .map (es.eraseIdxIfInBounds i) clock) (ob := .map (eraseNth ks i) (vs.erase i)) S m0 k1 h0 k2 e2 hnc (by
            intro w' H hw e y hy
            obtain rfl := h0 e y hy
            rw [k1] at hy; cases hy
            have hl : (es.eraseIdxIfInBounds i).toList = es.toList.eraseIdx i := by
              simp
            refine ⟨rfl, c, _, _, k2, hw, ?_, ?_⟩
            · rw [hl, eraseNth_self, map_erase]
              exact (VRdL.mono H.z H.zw _ _ e3).eraseIdx i
            · rw [hl, Cells.erase_toV, map_erase]
              exact (VRL.mono H _ _ e4).eraseIdx i)
          refine ⟨w', ?_, r2⟩
          simp [Builtin.delete_, run_underlying hu, run_getObj_map e2, keyCheck HE hko hk, f1, r1]
        · rename_i hi
          cases hs
          obtain ⟨f1, f2⟩ := findKey_ok HE hko hk e3 hi
          simp only [Option.map_none] at f1
          obtain ⟨w', r1, r2⟩ := obj_turn (P := P) (o' := .map es clock) (ob := .map ks vs) S m0 k1 h0 k2 e2 hnc (by
            intro w' H hw e y hy
            obtain rfl := h0 e y hy
            rw [k1] at hy; cases hy
            exact ⟨rfl, c, _, _, k2, hw, VRdL.mono H.z H.zw _ _ e3, VRL.mono H _ _ e4⟩)
          have hself : setO h b (.map ks vs) = h := by rw [← hb]; exact setO_self h b
          rw [hself] at r2
          refine ⟨w', ?_, r2⟩
          simp [Builtin.delete_, run_underlying hu, run_getObj_map e2, keyCheck HE hko hk, f1, r1]
        · cases hs
      · cases hs
    · rename_i k
      simp only [VR, VRd] at hm; subst hm
      split at hs
      · rename_i hko
        cases hs
        refine ⟨w, ?_, S, Frame.refl .., Ext.refl ..⟩
        simp [Builtin.delete_, run_underlying hu, keyCheck HE hko hk]
      · cases hs
    · cases hs
  · cases hs
  where
  setO_self : ∀ (h : List O) (b : Nat), setO h b (getO h b) = h
  | [], _ => rfl
  | _ :: _, 0 => rfl
  | _ :: h, b + 1 => by simp [setO, getO, setO_self h b]
theorem clear_ok (HE : EnvOk E P) (S : SR E Z μ h w) {t ty : Nat} {ts : List Nat} {xv : Value} {x : V} {h' : List O} (m0 : Nat) (hx : VR Z μ w x xv) (hs : clearO E h t x = some h') :
    ∃ w', (Builtin.clear_ (t :: ts).toArray ty #[xv]).run P w = .ok (.tuple #[]) w' ∧ SR E Z μ h' w' ∧ Frame m0 Z μ w Z μ w' ∧ Ext Z μ w Z μ w' := by
  unfold clearO at hs
  split at hs
  · rename_i kt et hf
    cases hs
    have hu := HE.under hf
    simp only [VR, VRd] at hx; subst hx
    exact ⟨w, by simp [Builtin.clear_, run_underlying hu], S, Frame.refl .., Ext.refl ..⟩
  · rename_i kt et b hf
    have hu := HE.under hf
    obtain ⟨y, c, k1, k2, rfl⟩ := hx
    split at hs
    · rename_i ks vs hb
      cases hs
      have ho := S.obj b (S.dom b 0 y k1)
      rw [hb] at ho
      obtain ⟨_, c', es, clock, e1, e2, e3, e4⟩ := ho 0 y k1
      rw [k2] at e1; cases e1
      have h0 : ∀ e x, μ b e = some x → e = 0 := fun e x hx => (ho e x hx).1
      obtain ⟨w', r1, r2⟩ := obj_turn (P := P) (o' := .map #[] clock) (ob := .map [] (.ds [])) S m0 k1 h0 k2 e2 (by intro _ _ _ hh; cases hh) (by
        intro w' H hw e y' hy
        obtain rfl := h0 e y' hy
        rw [k1] at hy; cases hy
        exact ⟨rfl, c, _, _, k2, hw, rfl, rfl⟩)
      refine ⟨w', ?_, r2⟩
      simp [Builtin.clear_, run_underlying hu, run_getObj_map e2, r1]
    · cases hs
  · rename_i e hf
    cases hs
    have hu := HE.under hf
    obtain ⟨a, rfl⟩ : ∃ a, xv = .slice a 0 0 := ⟨none, hx⟩
    exact ⟨w, by cases a <;> simp [Builtin.clear_, run_underlying hu], S, Frame.refl .., Ext.refl ..⟩
  · rename_i e b ep off n sz hf
    have hu := HE.under hf
    obtain ⟨y, a, cap, k1, rfl, k2, k3, k4⟩ := hx
    split at hs
    · rename_i c cur fl cons i hb hi
      have T := HE.ty e i hi
      split at hs
      · rename_i z hz
        split at hs
        · rename_i b1 b2 b3
          obtain rfl := Nat.eq_of_beq_eq_true b1
          obtain rfl := Nat.eq_of_beq_eq_true b2
          obtain ⟨_, b5, _⟩ := may_spec b3
          split at hs
          · cases hs
            refine ⟨w, ?_, S, Frame.refl .., Ext.refl ..⟩
            cases a <;> simp [Builtin.clear_, run_underlying hu]
          · rename_i hn0
            have hn : 0 < n := Nat.pos_of_ne_zero fun hh => hn0 hh
            split at hs
            · rename_i c' hw
              cases hs
              obtain ⟨zv, g1, g2, g3, _, g5, g6⟩ := T.zeroValue hz
              rcases k4 with rfl | ⟨blk, C, el, fr, e1, rfl, e2, e3⟩
              · omega
              have hzc : (Builtin.zeroCells zv.cells n).toList = (List.replicate n zv.cells.toList).flatten := by
                rw [Builtin.zeroCells]; exact range_zeros zv.cells n (by rw [g6]; exact T.pos.2)
              have hv : VRL Z μ w ((List.replicate n z).flatten) (Builtin.zeroCells zv.cells n).toList := by rw [hzc]; exact (g2 Z μ w).replicate n
              have hlen : ((List.replicate n z).flatten).length = n * i.size := by rw [hv.length]; simp [zeroCells_size, g6]
              obtain ⟨w', r1, r2⟩ := row_write (P := P) S m0 hb k1 e1 (by omega) b5 hw hv (zeroCells_one _ g3 n)
              refine ⟨w', ?_, r2⟩
              unfold Builtin.clear_
              cases n with
              | zero => omega
              | succ n => simp [run_underlying hu, g1, r1]
            · cases hs
        · cases hs
      · cases hs
    · cases hs
  · cases hs
theorem next_ok (S : SR E Z μ h w) {ty : Nat} {xv : Value} {x v : V} {h' : List O} (m0 : Nat) (hx : VR Z μ w x xv) (hs : nextO h x = some (v, h')) :
    ∃ w' cv, (Instr.next xv true ty).run P w = .ok cv w' ∧ SR E Z μ h' w' ∧ Frame m0 Z μ w Z μ w' ∧ Ext Z μ w Z μ w' ∧ VR Z μ w' v cv := by
  unfold nextO at hs
  split at hs
  · rename_i b
    obtain ⟨y, c, k1, k2, rfl⟩ := hx
    split at hs
    · rename_i s pos hb
      have ho := S.obj b (S.dom b 0 y k1)
      rw [hb] at ho
      obtain ⟨_, c', e1, e2⟩ := ho 0 y k1
      rw [k2] at e1; cases e1
      have h0 : ∀ e x, μ b e = some x → e = 0 := fun e x hx => (ho e x hx).1
      have hget : (getObj c).run P w = .ok (.stringIter ⟨s.toArray⟩ pos) w := by simp only [getObj, Sem.run, e2]
      split at hs
      · rename_i hlt
        rw [Nat.blt_eq] at hlt
        cases hs
        have hlt' : pos < (⟨s.toArray⟩ : ByteArray).size := by simpa [ByteArray.size] using hlt
        obtain ⟨w', r1, r2, r3, r4⟩ := obj_turn (P := P) (o' := .stringIter ⟨s.toArray⟩ (pos + (Utf8.decode ⟨s.toArray⟩ pos).2)) (ob := .iter s (pos + (Utf8.decode ⟨s.toArray⟩ pos).2)) S m0 k1 h0 k2 e2 (by intro _ _ _ hh; cases hh) (by
          intro w' H hw e y' hy
          obtain rfl := h0 e y' hy
          rw [k1] at hy; cases hy
          exact ⟨rfl, c, k2, hw⟩)
        refine ⟨w', .tuple #[.bool true, goInt pos, .int .i32 (Utf8.decode ⟨s.toArray⟩ pos).1], ?_, r2, r3, r4, ⟨#[.bool true, goInt pos, .int .i32 (Utf8.decode ⟨s.toArray⟩ pos).1], rfl, .bool true, _, rfl, rfl, goInt pos, _, rfl, rfl, _, _, rfl, rfl, rfl⟩⟩
        simp [Instr.next, hget, hlt', r1]
      · rename_i hlt
        cases hs
        have hlt' : ¬ (pos < (⟨s.toArray⟩ : ByteArray).size) := by
          intro hh
          rw [← Nat.blt_eq] at hh
          simp [ByteArray.size] at hh
          rw [Bool.eq_false_iff] at hlt
          exact hlt (by rw [Nat.blt_eq]; exact hh)
        refine ⟨w, .tuple #[.bool false], ?_, S, Frame.refl .., Ext.refl .., ⟨#[.bool false], rfl, .bool false, _, rfl, rfl, rfl⟩⟩
        simp [Instr.next, hget, hlt']
    · cases hs
  · cases hs
theorem copy_ok (HE : EnvOk E P) (S : SR E Z μ h w) {t ty : Nat} {ts : List Nat} {s x : V} {sv xv : Value} {v : V} {h' : List O} (m0 : Nat) (hs : VR Z μ w s sv) (hx : VR Z μ w x xv) (ha : copyO E h t s x = some (v, h')) :
    Eff P E Z μ w m0 (Builtin.copy_ (t :: ts).toArray ty #[sv, xv]) v h' := by
  unfold copyO at ha
  split at ha
  · cases ha
  rename_i i hel
  obtain ⟨e, he, hi⟩ := elem_of hel
  have hu := HE.under he
  have T := HE.ty e i hi
  split at ha
  · cases ha
  rename_i m new hr
  obtain ⟨l1, l2, l3⟩ := rowOf_ok (P := P) S T.pos.2 hx hr
  split at ha
  · rename_i b ep off n sz
    split at ha
    · rename_i c cur fl cons hb
      split at ha
      · rename_i b1 b2 b3
        obtain rfl := Nat.eq_of_beq_eq_true b1
        obtain rfl := Nat.eq_of_beq_eq_true b2
        obtain ⟨_, b5, _⟩ := may_spec b3
        obtain ⟨y, a, cap, k1, rfl, k2, k3, k4⟩ := hs
        split at ha
        · rename_i hmin
          cases ha
          obtain ⟨vs, f1, f2, f3⟩ := l3 0 (Nat.zero_le _)
          obtain rfl : vs = [] := List.eq_nil_of_length_eq_zero (by have := f2.length; simp at this; omega)
          refine ⟨μ, w, .int .i64 0, ?_, S, Frame.refl .., Ext.refl .., rfl⟩
          cases a <;> simp [Builtin.copy_, run_underlying hu, l1, T.sizeOf, hmin, f1 w rfl, goInt, storeCells]
        · rename_i hmin
          generalize hk : Nat.min m n = k at ha hmin
          have hkm : k ≤ m := by rw [← hk]; exact Nat.min_le_left ..
          have hkn : k ≤ n := by rw [← hk]; exact Nat.min_le_right ..
          have hk0 : 0 < k := Nat.pos_of_ne_zero fun hh => hmin hh
          split at ha
          · rename_i c' hw
            cases ha
            obtain ⟨vs, f1, f2, f3⟩ := l3 k hkm
            rcases k4 with rfl | ⟨blk, C, el, fr, e1, rfl, e2, e3⟩
            · omega
            have hle : k * i.size ≤ n * i.size := Nat.mul_le_mul_right _ hkn
            obtain ⟨w', r1, r2, r3, r4⟩ := row_write (P := P) S m0 hb k1 e1 (by simp; omega) b5 hw f2 f3
            refine ⟨μ, w', .int .i64 k, ?_, r2, r3, r4, rfl⟩
            simp [Builtin.copy_, run_underlying hu, l1, T.sizeOf, hk, f1 w rfl, goInt, r1]
          · cases ha
      · cases ha
    · cases ha
  · cases ha
    obtain ⟨a, rfl⟩ : ∃ a, sv = .slice a 0 0 := ⟨none, hs⟩
    obtain ⟨vs, f1, f2, f3⟩ := l3 0 (Nat.zero_le _)
    obtain rfl : vs = [] := List.eq_nil_of_length_eq_zero (by have := f2.length; simp at this; omega)
    refine ⟨μ, w, .int .i64 0, ?_, S, Frame.refl .., Ext.refl .., rfl⟩
    cases a <;> simp [Builtin.copy_, run_underlying hu, l1, T.sizeOf, f1 w rfl, goInt, storeCells]
  · cases ha
    obtain ⟨a, rfl⟩ := hs
    obtain ⟨vs, f1, f2, f3⟩ := l3 0 (Nat.zero_le _)
    obtain rfl : vs = [] := List.eq_nil_of_length_eq_zero (by have := f2.length; simp at this; omega)
    refine ⟨μ, w, .int .i64 0, ?_, S, Frame.refl .., Ext.refl .., rfl⟩
    cases a <;> simp [Builtin.copy_, run_underlying hu, l1, T.sizeOf, f1 w rfl, goInt, storeCells]
  · cases ha
end
end Go.Ab
end
section
/-
  Conversions, and all operations that change memory.
-/
namespace Go.Ab
open Go
section
variable {E : Env} {P : Program} {Z : Nat → Prop} {μ : Mu} {w : World} {h : List O}

theorem bytesL_spec : ∀ {cs : List V} {l : List UInt8} {vs : List Value}, bytesL cs = some l → VRL Z μ w cs vs → ∃ ns : List Int, vs = ns.map (Value.int .u8) ∧ ∀ s : ByteArray, ns.foldl (fun r n => r.push (UInt8.ofNat n.toNat)) s = ⟨s.data ++ l.toArray⟩
  | [], l, vs, hl, hv => by
    simp only [bytesL, Option.some.injEq] at hl; subst hl
    cases hv
    exact ⟨[], rfl, fun s => by simp⟩
  | c :: cs, l, vs, hl, hv => by
    unfold bytesL at hl
    split at hl
    · rename_i heq; cases heq
    · rename_i n r heq
      cases heq
      split at hl
      · rename_i m q hm hq
        cases hl
        obtain ⟨v, vs', rfl, h1, h2⟩ := hv
        simp only [VR, VRd] at h1; subst h1
        obtain ⟨ns, rfl, g⟩ := bytesL_spec hq h2
        refine ⟨n :: ns, rfl, fun s => ?_⟩
        simp only [List.foldl_cons, g]
        rw [natI_spec hm]
        simp [ByteArray.push]
      · cases hl
    · cases hl
theorem convO_ok (HE : EnvOk E P) (S : SR E Z μ h w) {src dst : Nat} {xv : Value} {x v : V} {h' : List O} (m0 : Nat) (hm0 : m0 ≤ h.length) (hx : VR Z μ w x xv) (hs : convO E h src dst x = some (v, h')) :
    Eff P E Z μ w m0 (convert src dst xv) v h' := by
  unfold convO at hs
  split at hs
  · rename_i e s h1 h2
    have u1 := HE.under h1
    have u2 := HE.under h2
    simp only [VR, VRd] at hx; subst hx
    split at hs
    · rename_i h3 hle
      have u3 := HE.under h3
      split at hs
      · cases hs
      · rename_i hne
        cases hs
        have R := run_bytes_of_string (P := P) w src dst e ⟨s.toArray⟩ u1 u2 u3
        have hg := grownCap_ge w (⟨s.toArray⟩ : ByteArray).size 0 e
        have hsz : (⟨s.toArray⟩ : ByteArray).size = s.length := by simp [ByteArray.size]
        rw [hsz] at R hg
        generalize grownCap w s.length 0 e = g at R hg
        have hrow : (bytesRow ⟨s.toArray⟩ g).size = g := by simp [bytesRow, hsz]; omega
        have S1 := (S.same (w' := w.drew) rfl).push (.row (.ds (s.map fun c => .int .u8 c.toNat)) 0 0 [])
        have hn : ∀ e, μ h.length e = none := by
          intro e
          cases hh : μ h.length e with
          | none => rfl
          | some y => have := S.dom _ _ _ hh; omega
        have hbytes : ∀ (Z : Nat → Prop) (μ : Mu) (w : World) (l : List UInt8), VRL Z μ w ((l.map fun c => D.int .u8 c.toNat).map .d) (l.map fun c => Value.int .u8 c.toNat) := by
          intro Z μ w l
          induction l with
          | nil => rfl
          | cons c l ih => exact ⟨_, _, rfl, rfl, ih⟩
        obtain ⟨S2, F2⟩ := S1.link (b := h.length) (n := s.length) (o := .cells (bytesRow ⟨s.toArray⟩ g) e ((bytesRow ⟨s.toArray⟩ g).size, (bytesRow ⟨s.toArray⟩ g).size + 1)) (by simp) hn (ob := .row (.ds (s.map fun c => .int .u8 c.toNat)) 0 0 []) (by rw [getO_append]; simp [getO])
          ⟨rfl, rfl, .inl rfl, ⟨s.map fun c => .int .u8 c.toNat, (Array.replicate (g - s.length) (Value.int .u8 0)).toList, by simp [bytesRow, hsz], hbytes Z μ _ s, by intro u hu; obtain ⟨_, _, rfl⟩ := List.mem_map.1 hu; rfl, by simp⟩, by intro i hi hh; simp only at hh; omega⟩ m0 hm0
        refine ⟨_, _, _, R, S2, (Frame.drew m0 Z μ w).trans F2, (Ext.drew Z μ w).trans (ext_alloc (S.same (w' := w.drew) rfl) _ fun b' e x hx => Mu.link_old hn hx), ?_⟩
        refine ⟨_, _, g, Mu.link_new .., rfl, hg, by simp only; omega, .inr ⟨w.heap.size, _, e, _, rfl, rfl, by rw [heap_push]; exact if_pos rfl, ?_⟩⟩
        rw [hrow]; omega
    · cases hs
  · cases hs
  · rename_i e h1 h2 hnos
    have u1 := HE.under h1
    have u2 := HE.under h2
    split at hs
    · rename_i n cs h3 hr
      have u3 := HE.under h3
      split at hs
      · rename_i l hl
        cases hs
        obtain ⟨l1, l2, l3⟩ := rowOf_ok (P := P) S (by omega) hx hr
        obtain ⟨vs, f1, f2, f3⟩ := l3 n (Nat.le_refl _)
        rw [List.take_of_length_le (by omega)] at f2
        obtain ⟨ns, rfl, g⟩ := bytesL_spec hl f2
        have hval : ∃ a cap, xv = .slice a n cap := by
          unfold rowOf at hr
          split at hr
          · cases hr; exact ⟨none, 0, hx⟩
          · cases hr; obtain ⟨a, rfl⟩ := hx; exact ⟨a, 0, rfl⟩
          · split at hr
            · cases hr; obtain ⟨a, cap, rfl, _⟩ := hx; exact ⟨a, cap, rfl⟩
            · cases hr
          · exact absurd rfl (hnos _)
          · split at hr
            · split at hr
              · split at hr
                · cases hr; obtain ⟨x, a, cap, _, rfl, _⟩ := hx; exact ⟨a, cap, rfl⟩
                · cases hr
              · cases hr
            · cases hr
          · cases hr
        obtain ⟨a, cap, rfl⟩ := hval
        refine ⟨μ, w, .string ⟨l.toArray⟩, ?_, S, Frame.refl .., Ext.refl .., rfl⟩
        rw [run_convert_bytes_string w src dst e a n cap u1 u3 u2]
        cases a with
        | none =>
          have := f1 w rfl
          simp only [Builtin.firstCells, Sem.run_pure] at this
          have hnil : ns = [] := by
            injection this with h1 _
            have := congrArg Array.size h1
            simp at this
            exact List.length_eq_zero_iff.1 this.symm
          subst hnil
          have := g ByteArray.empty
          simp only [List.foldl_nil] at this
          simp [Conv.bytesToString]
          rw [this]
          simp [ByteArray.empty, ByteArray.emptyWithCapacity]
          rfl
        | some a =>
          have := f1 w rfl
          simp only [Builtin.firstCells, Nat.mul_one] at this
          rw [run_bytesToString w a n cap ns this, g]
          simp [ByteArray.empty, ByteArray.emptyWithCapacity]
          rfl
      · cases hs
    · cases hs
  · cases hs

/-- What an effect gives: a value, or nothing. -/
def Gives (nx : Next) (cv : Value) : Prop := nx = .value cv ∨ (nx = .skip ∧ cv = undef)
theorem effect_ok (HE : EnvOk E P) (S : SR E Z μ h w) {ρ : Operand → V} {ρ' : Operand → Value} (hρ : ∀ x, VR Z μ w (ρ x) (ρ' x)) (o : Oper) (m0 : Nat) (hm0 : m0 ≤ h.length) {v : V} {h' : List O} {bs : List Nat} (hv : effectO E ρ h o.op = some (v, h', bs)) :
    ∃ μ' w' nx cv, (execOp ρ' o).run P w = .ok nx w' ∧ Gives nx cv ∧ SR E Z μ' h' w' ∧ Frame m0 Z μ w Z μ' w' ∧ Ext Z μ w Z μ' w' ∧ VR Z μ' w' v cv := by
  have val : ∀ {s : Sem Value}, Eff P E Z μ w m0 s v h' → ∃ μ' w' nx cv, ((do pure (Next.value (← s))) : Sem Next).run P w = .ok nx w' ∧ Gives nx cv ∧ SR E Z μ' h' w' ∧ Frame m0 Z μ w Z μ' w' ∧ Ext Z μ w Z μ' w' ∧ VR Z μ' w' v cv := by
    rintro s ⟨μ', w', cv, e1, e2, e3, e4, e5⟩
    exact ⟨μ', w', _, cv, by simp [e1], .inl rfl, e2, e3, e4, e5⟩
  have unit : ∀ {s : Sem Unit} {h0 : List O}, Done P E Z μ w m0 s h0 → ∃ μ' w' nx cv, ((do s; pure Next.skip) : Sem Next).run P w = .ok nx w' ∧ Gives nx cv ∧ SR E Z μ' h0 w' ∧ Frame m0 Z μ w Z μ' w' ∧ Ext Z μ w Z μ' w' ∧ VR Z μ' w' (.d .undef) cv := by
    rintro s h0 ⟨w', e1, e2, e3, e4⟩
    exact ⟨μ, w', .skip, undef, by simp [e1], .inr ⟨rfl, rfl⟩, e2, e3, e4, rfl⟩
  unfold effectO at hv
  unfold execOp
  split at hv <;> rename_i hop
  all_goals first | rw [hop] | (cases hv; done)
  · split at hv
    · rename_i h'' hs
      cases hv
      obtain ⟨w', r⟩ := store_ok (P := P) HE S m0 (hρ _) (hρ _) hs
      exact unit ⟨w', r⟩
    · cases hv
  · split at hv
    · rename_i h'' hs
      cases hv
      exact unit (mapSet_ok HE S m0 (hρ _) (hρ _) (hρ _) hs)
    · cases hv
  · split at hv
    · rename_i h'' hs
      cases hv
      exact unit (mapSet_ok HE S m0 (hρ _) (hρ _) (hρ _) hs)
    · cases hv
  · split at hv
    · rename_i v' h'' hs
      cases hv
      exact val (convO_ok HE S m0 hm0 (hρ _) hs)
    · cases hv
  · split at hv
    · rename_i v' h'' hs
      cases hv
      obtain ⟨w', cv, r1, r2, r3, r4, r5⟩ := next_ok (P := P) (ty := o.type) S m0 (hρ _) hs
      exact val ⟨μ, w', cv, r1, r2, r3, r4, r5⟩
    · cases hv
  · rename_i c
    have hargs := VRL.map hρ c.args.toList
    have ea : c.args.map ρ' = (c.args.toList.map ρ').toArray := by apply Array.ext'; simp
    have et : c.argTypes = c.argTypes.toList.toArray := by simp
    split at hv
    · rename_i s x t t' hcal hl ht
      rw [hl] at hargs
      obtain ⟨sv, _, e1, g1, xv, _, rfl, g2, rfl⟩ := hargs
      split at hv
      · rename_i v' h'' hni hs
        cases hv
        obtain ⟨μ', w', cv, r1, r2, r3, r4, r5⟩ := append_ok (P := P) (ty := o.type) HE S m0 hm0 g1 g2 hni hs
        refine ⟨μ', w', .value cv, cv, ?_, .inl rfl, r2, r3, r4, r5⟩
        simp only [resolve, hcal, Sem.run_bind, Sem.run_pure, Result.andThen_ok, invoke, builtin]
        rw [ea, e1, et, ht]
        rw [r1]; rfl
      · cases hv
    · rename_i s x t ts hcal hl ht
      rw [hl] at hargs
      obtain ⟨sv, _, e1, g1, xv, _, rfl, g2, rfl⟩ := hargs
      split at hv
      · rename_i v' h'' hs
        cases hv
        obtain ⟨μ', w', cv, r1, r2, r3, r4, r5⟩ := copy_ok (P := P) (ty := o.type) (ts := ts) HE S m0 g1 g2 hs
        refine ⟨μ', w', .value cv, cv, ?_, .inl rfl, r2, r3, r4, r5⟩
        simp only [resolve, hcal, Sem.run_bind, Sem.run_pure, Result.andThen_ok, invoke, builtin]
        rw [ea, e1, et, ht]
        rw [r1]; rfl
      · cases hv
    · rename_i s x t ts hcal hl ht
      rw [hl] at hargs
      obtain ⟨sv, _, e1, g1, xv, _, rfl, g2, rfl⟩ := hargs
      split at hv
      · rename_i h'' hs
        cases hv
        obtain ⟨w', r1, r2, r3, r4⟩ := delete_ok (P := P) (ty := o.type) (ts := ts) HE S m0 g1 g2 hs
        refine ⟨μ, w', .value (.tuple #[]), .tuple #[], ?_, .inl rfl, r2, r3, r4, ⟨#[], rfl, rfl⟩⟩
        simp only [resolve, hcal, Sem.run_bind, Sem.run_pure, Result.andThen_ok, invoke, builtin]
        rw [ea, e1, et, ht]
        rw [r1]; rfl
      · cases hv
    · rename_i x t ts hcal hl ht
      rw [hl] at hargs
      obtain ⟨xv, _, e1, g1, rfl⟩ := hargs
      split at hv
      · rename_i h'' hs
        cases hv
        obtain ⟨w', r1, r2, r3, r4⟩ := clear_ok (P := P) (ty := o.type) (ts := ts) HE S m0 g1 hs
        refine ⟨μ, w', .value (.tuple #[]), .tuple #[], ?_, .inl rfl, r2, r3, r4, ⟨#[], rfl, rfl⟩⟩
        simp only [resolve, hcal, Sem.run_bind, Sem.run_pure, Result.andThen_ok, invoke, builtin]
        rw [ea, e1, et, ht]
        rw [r1]; rfl
      · cases hv
    · cases hv
end
end Go.Ab
end
