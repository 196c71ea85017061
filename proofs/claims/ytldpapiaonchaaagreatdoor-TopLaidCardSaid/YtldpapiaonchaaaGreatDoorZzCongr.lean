/-
  What an operation comes to hangs on the operands that it looks at, and on the blocks that they name.
-/
import Derived.Test.YtldpapiaonchaaaGreatDoorZzSt
section
namespace Go.Ab
open Go
section
variable {E : Env} {P : Program} {ρ ρ' : Operand → V} {h h' : List O}

theorem map_congr' {l : List Operand} (hh : ∀ x ∈ l, ρ x = ρ' x) : l.map ρ = l.map ρ' := List.map_congr_left hh
theorem call_args {c : Call} {x : Operand} (hx : x ∈ c.args.toList) : x ∈ opsOf (.call c) := by
  simp only [opsOf]
  split
  · exact List.mem_cons_of_mem _ hx
  · exact hx
theorem quietV_congr {o : Op} (hc : ∀ x ∈ opsOf o, ρ x = ρ' x) : quietV E ρ o = quietV E ρ' o := by
  cases o
  case call c =>
    have ha : ∀ x ∈ c.args.toList, ρ x = ρ' x := fun x hx => hc x (call_args hx)
    have hm := map_congr' ha
    simp only [quietV, hm]
  case makeFunc fn a c =>
    have h1 : a.toList.map ρ = a.toList.map ρ' := map_congr' fun x hx => hc x (by simp [opsOf, hx])
    have h2 : c.toList.map ρ = c.toList.map ρ' := map_congr' fun x hx => hc x (by simp [opsOf, hx])
    cases fn <;> simp only [quietV, h1, h2]
  case build t ps =>
    have h1 : (ps.toList.map fun p => (p.1, ρ p.2)) = ps.toList.map fun p => (p.1, ρ' p.2) := List.map_congr_left fun p hp => by
      rw [hc p.2 (by simp only [opsOf, List.mem_map]; exact ⟨p, hp, rfl⟩)]
    simp only [quietV, h1]
  case slice t x lo hi mx =>
    have h0 : ρ x = ρ' x := hc x (by simp [opsOf])
    have h1 : lo.map ρ = lo.map ρ' := by cases lo with | none => rfl | some y => simp [hc y (by simp [opsOf])]
    have h2 : hi.map ρ = hi.map ρ' := by cases hi with | none => rfl | some y => simp [hc y (by simp [opsOf])]
    cases mx <;> simp only [quietV, h0, h1, h2]
  case pick c a b => simp only [quietV, hc c (by simp [opsOf]), hc a (by simp [opsOf]), hc b (by simp [opsOf])]
  case binOp op t x y t' => simp only [quietV, hc x (by simp [opsOf]), hc y (by simp [opsOf])]
  case indexAddr t x y => simp only [quietV, hc x (by simp [opsOf]), hc y (by simp [opsOf])]
  case index t x y => simp only [quietV, hc x (by simp [opsOf]), hc y (by simp [opsOf])]
  case move x => simp only [quietV, hc x (by simp [opsOf])]
  case assign x => simp only [quietV, hc x (by simp [opsOf])]
  case nilCheck x => simp only [quietV, hc x (by simp [opsOf])]
  case unOp op t x => simp only [quietV, hc x (by simp [opsOf])]
  case convert s d x => simp only [quietV, hc x (by simp [opsOf])]
  case makeInterface t x => simp only [quietV, hc x (by simp [opsOf])]
  case fieldAddr t x i => simp only [quietV, hc x (by simp [opsOf])]
  case field t x i => simp only [quietV, hc x (by simp [opsOf])]
  case extract x i => simp only [quietV, hc x (by simp [opsOf])]
  all_goals rfl
theorem readV_congr {o : Op} (hc : ∀ x ∈ opsOf o, ρ x = ρ' x) : readV E ρ h o = readV E ρ' h o := by
  cases o
  case call c =>
    have ha : ∀ x ∈ c.args.toList, ρ x = ρ' x := fun x hx => hc x (call_args hx)
    have hm := map_congr' ha
    simp only [readV, hm]
  case load t x => simp only [readV, hc x (by simp [opsOf])]
  case lookup t x y ok => simp only [readV, hc x (by simp [opsOf]), hc y (by simp [opsOf])]
  all_goals rfl
theorem allocV_congr {o : Op} (hc : ∀ x ∈ opsOf o, ρ x = ρ' x) : allocV E ρ o = allocV E ρ' o := by
  cases o
  case box t x => simp only [allocV, hc x (by simp [opsOf])]
  case buildSlice t n ps =>
    have h1 : (ps.toList.map fun p => (p.1, ρ p.2)) = ps.toList.map fun p => (p.1, ρ' p.2) := List.map_congr_left fun p hp => by
      rw [hc p.2 (by simp only [opsOf, List.mem_map]; exact ⟨p, hp, rfl⟩)]
    simp only [allocV, h1]
  case makeSlice t x y => simp only [allocV, hc x (by simp [opsOf]), hc y (by simp [opsOf])]
  case range t x => simp only [allocV, hc x (by simp [opsOf])]
  case makeMap t r => cases r <;> rfl
  all_goals rfl
theorem effectO_congr {o : Op} (hc : ∀ x ∈ opsOf o, ρ x = ρ' x) : effectO E ρ h o = effectO E ρ' h o := by
  cases o
  case call c =>
    have ha : ∀ x ∈ c.args.toList, ρ x = ρ' x := fun x hx => hc x (call_args hx)
    have hm := map_congr' ha
    simp only [effectO, hm]
  case store t x y => simp only [effectO, hc x (by simp [opsOf]), hc y (by simp [opsOf])]
  case mapUpdate t m k x => simp only [effectO, hc m (by simp [opsOf]), hc k (by simp [opsOf]), hc x (by simp [opsOf])]
  case insert t m k x => simp only [effectO, hc m (by simp [opsOf]), hc k (by simp [opsOf]), hc x (by simp [opsOf])]
  case convert s d x => simp only [effectO, hc x (by simp [opsOf])]
  case next x b => cases b <;> simp only [effectO, hc x (by simp [opsOf])]
  all_goals rfl
theorem loudP_congr {C : CallP Prop} {Y : YieldP Prop} {K : V → List O → List Nat → Prop} {o : Op} (hc : ∀ x ∈ opsOf o, ρ x = ρ' x) (hk : loudP E C Y o ρ h K) : loudP E C Y o ρ' h K := by
  unfold loudP at *
  rw [effectO_congr hc] at hk
  split at hk
  · exact hk
  · split at hk
    · rename_i c _
      split at hk
      · rename_i g hg
        have e1 : ρ g = ρ' g := hc g (by simp [opsOf, hg])
        have e2 : c.args.toList.map ρ = c.args.toList.map ρ' := map_congr' fun x hx => hc x (by simp [opsOf, hg]; exact .inr (by simpa using hx))
        rw [e1, e2] at hk
        exact hk
      · exact hk.elim
    · exact hk.elim
  · exact hk.elim
/-- A reading hangs on the blocks that it names. -/
theorem readV_local {o : Op} (hc : ∀ b ∈ addrOf ρ o, getO h' b = getO h b) : readV E ρ h' o = readV E ρ h o := by
  cases o
  case load t x =>
    simp only [readV, loadV]
    simp only [addrOf] at hc
    cases hx : ρ x
    case ptr b e off lim =>
      rw [hx] at hc
      simp only [hc b (by simp [namesV])]
    case d x => cases x <;> rfl
    all_goals rfl
  case lookup t x y ok =>
    simp only [readV, lookupV]
    simp only [addrOf] at hc
    cases hx : ρ x
    case map b =>
      rw [hx] at hc
      simp only [hc b (by simp [namesV])]
    case d x => cases x <;> rfl
    all_goals rfl
  case call c =>
    simp only [readV]
    simp only [addrOf] at hc
    split
    · rename_i b l _ hl
      rw [hl] at hc
      rw [hc b (by simp [namesVs, namesV])]
    · rfl
    · rfl
  all_goals rfl
end
end Go.Ab
end
section
/-
  The items of a region that draws its order.
-/
namespace Go.Ab
open Go

/-- j stands right before i. -/
def Pre (ops : Array Oper) (j i : Nat) : Prop := ∃ o, ops[i]? = some o ∧ (maskOf o.after.toList).testBit j = true
inductive Before (ops : Array Oper) : Nat → Nat → Prop where
  | one {j i : Nat} : Pre ops j i → Before ops j i
  | more {j k i : Nat} : Pre ops k i → Before ops j k → Before ops j i
theorem testBit_lor (a b j : Nat) : (Nat.lor a b).testBit j = (a.testBit j || b.testBit j) := Nat.testBit_or a b j
theorem testBit_land (a b j : Nat) : (Nat.land a b).testBit j = (a.testBit j && b.testBit j) := Nat.testBit_and a b j
theorem testBit_pow (i j : Nat) : (2 ^ i).testBit j = decide (i = j) := Nat.testBit_two_pow
def binding (e : Edge) : Bool := match e.ground with | .textOnly _ | .gcOnly _ => false | _ => true
theorem binding_binds (e : Edge) : Region.binds .any e = binding e := by
  unfold Region.binds binding
  cases hg : e.ground <;> rfl
theorem maskOf_iff {j : Nat} : ∀ {l : List Edge}, (maskOf l).testBit j = true ↔ ∃ e ∈ l, binding e = true ∧ e.on = j
  | [] => by simp [maskOf]
  | e :: l => by
    have ih := maskOf_iff (j := j) (l := l)
    unfold maskOf
    cases hg : e.ground <;> simp only [testBit_lor, testBit_pow, Bool.or_eq_true, decide_eq_true_eq, ih, List.mem_cons, exists_eq_or_imp, binding, hg] <;> simp
theorem closeMask_spec {j : Nat} {acc : List (Nat × Nat)} : ∀ {l : List Edge}, (closeMask l acc).testBit j = true → (maskOf l).testBit j = true ∨ ∃ k, (maskOf l).testBit k = true ∧ (closeMask.findMask k acc).testBit j = true
  | [], h => by simp [closeMask] at h
  | e :: l, h => by
    unfold closeMask at h
    have ih := closeMask_spec (j := j) (acc := acc) (l := l)
    have up : ∀ k, (maskOf l).testBit k = true → (maskOf (e :: l)).testBit k = true := fun k hk => by
      obtain ⟨e', h1, h2⟩ := maskOf_iff.1 hk
      exact maskOf_iff.2 ⟨e', List.mem_cons_of_mem _ h1, h2⟩
    have lift : ((maskOf l).testBit j = true ∨ ∃ k, (maskOf l).testBit k = true ∧ (closeMask.findMask k acc).testBit j = true) → (maskOf (e :: l)).testBit j = true ∨ ∃ k, (maskOf (e :: l)).testBit k = true ∧ (closeMask.findMask k acc).testBit j = true := by
      rintro (h | ⟨k, h1, h2⟩)
      · exact .inl (up j h)
      · exact .inr ⟨k, up k h1, h2⟩
    have here : binding e = true → (maskOf (e :: l)).testBit e.on = true := fun hb => maskOf_iff.2 ⟨e, by simp, hb, rfl⟩
    split at h
    · exact lift (ih h)
    · exact lift (ih h)
    · rename_i n1 n2
      have hb : binding e = true := by
        unfold binding
        split
        · rename_i r hr; exact absurd hr (n1 r)
        · rename_i r hr; exact absurd hr (n2 r)
        · rfl
      simp only [testBit_lor, testBit_pow, Bool.or_eq_true, decide_eq_true_eq] at h
      rcases h with (h | h) | h
      · exact .inl (h ▸ here hb)
      · exact .inr ⟨_, here hb, h⟩
      · exact lift (ih h)
theorem findMask_spec {k j : Nat} : ∀ {acc : List (Nat × Nat)}, (closeMask.findMask k acc).testBit j = true → ∃ a, (k, a) ∈ acc ∧ a.testBit j = true
  | [], h => by simp [closeMask.findMask] at h
  | (i, x) :: l, h => by
    unfold closeMask.findMask at h
    split at h
    · rename_i hh; exact ⟨x, by simp [Nat.eq_of_beq_eq_true hh], h⟩
    · obtain ⟨a, h1, h2⟩ := findMask_spec h
      exact ⟨a, List.mem_cons_of_mem _ h1, h2⟩
/-- What an item is. -/
structure ItemOk (ops : Array Oper) (x : Item') : Prop where
  o : ops[x.i]? = some x.o
  pre : x.pre = maskOf x.o.after.toList
  all : ∀ j, x.all.testBit j = true → Before ops j x.i
theorem itemsOf_ok {ops : Array Oper} : ∀ {l : List Oper} {i : Nat} {acc : List (Nat × Nat)}, (∀ k o, l[k]? = some o → ops[i + k]? = some o) → (∀ p ∈ acc, ∀ j, p.2.testBit j = true → Before ops j p.1) →
    (∀ x ∈ itemsOf l i acc, ItemOk ops x) ∧ (∀ k, k < l.length → ∃ x ∈ itemsOf l i acc, x.i = i + k)
  | [], _, _, _, _ => ⟨by simp [itemsOf], by simp⟩
  | o :: l, i, acc, hl, ha => by
    have ho : ops[i]? = some o := by simpa using hl 0 o rfl
    have hall : ∀ j, (closeMask o.after.toList acc).testBit j = true → Before ops j i := fun j hj => by
      rcases closeMask_spec hj with h | ⟨k, h1, h2⟩
      · exact .one ⟨o, ho, h⟩
      · obtain ⟨a, h3, h4⟩ := findMask_spec h2
        exact .more ⟨o, ho, h1⟩ (ha _ h3 j h4)
    obtain ⟨r1, r2⟩ := itemsOf_ok (ops := ops) (l := l) (i := i + 1) (acc := (i, closeMask o.after.toList acc) :: acc) (fun k o' hk => by
      have := hl (k + 1) o' (by simpa using hk)
      rw [← this]; congr 1; omega) (fun p hp j hj => by
        rcases List.mem_cons.1 hp with rfl | hp
        · exact hall j hj
        · exact ha p hp j hj)
    refine ⟨fun x hx => ?_, fun k hk => ?_⟩
    · simp only [itemsOf] at hx
      rcases List.mem_cons.1 hx with rfl | hx
      · exact ⟨ho, rfl, hall⟩
      · exact r1 x hx
    · simp only [itemsOf]
      cases k with
      | zero => exact ⟨_, List.mem_cons_self .., rfl⟩
      | succ k =>
        obtain ⟨x, h1, h2⟩ := r2 k (by simpa using hk)
        exact ⟨x, List.mem_cons_of_mem _ h1, by rw [h2]; omega⟩
theorem items_ok (ops : Array Oper) : (∀ x ∈ itemsOf ops.toList 0 [], ItemOk ops x) ∧ (∀ i, i < ops.size → ∃ x ∈ itemsOf ops.toList 0 [], x.i = i) := by
  obtain ⟨h1, h2⟩ := itemsOf_ok (ops := ops) (l := ops.toList) (i := 0) (acc := []) (fun k o hk => by simpa using hk) (by simp)
  exact ⟨h1, fun i hi => by simpa using h2 i (by simpa using hi)⟩
theorem isDone_iff {i d : Nat} : isDone i d = true ↔ d.testBit i = true := by
  unfold isDone
  constructor
  · intro h
    have h := Nat.eq_of_beq_eq_true h
    have := congrArg (fun x => x.testBit i) h
    simpa [testBit_land, testBit_pow] using this
  · intro h
    have : Nat.land (2 ^ i) d = 2 ^ i := by
      apply Nat.eq_of_testBit_eq
      intro j
      rw [testBit_land, testBit_pow]
      by_cases hj : i = j
      · subst hj; simp [h]
      · simp [hj]
    rw [this, Nat.beq_refl]
theorem hasAll_iff {p d : Nat} : hasAll p d = true ↔ ∀ j, p.testBit j = true → d.testBit j = true := by
  unfold hasAll
  constructor
  · intro h j hj
    have h := Nat.eq_of_beq_eq_true h
    have := congrArg (fun x => x.testBit j) h
    simp only [testBit_land, hj, Bool.true_and] at this
    exact this
  · intro h
    have : Nat.land p d = p := by
      apply Nat.eq_of_testBit_eq
      intro j
      rw [testBit_land]
      cases hp : p.testBit j with
      | false => rfl
      | true => simp [h j hp]
    rw [this, Nat.beq_refl]

/-! ### The check of the slots -/
structure RegOk (ops : Array Oper) : Prop where
  once : ∀ i j t, dstOf ops i = some t → dstOf ops j = some t → i = j
  reads : ∀ i o t j, ops[i]? = some o → t ∈ readsOf ops o → dstOf ops j = some t → j = i ∨ Before ops j i ∨ Before ops i j
  low : ∀ i j, Pre ops j i → j < i
theorem writerOf_some {t : Nat} : ∀ {l : List Item'} {y : Item'}, writerOf t l = some y → y ∈ l ∧ y.o.dst = some t
  | [], _, h => by simp [writerOf] at h
  | x :: l, y, h => by
    unfold writerOf at h
    split at h
    · rename_i d hd
      split at h
      · rename_i hh; cases h; exact ⟨by simp, by rw [hd, Nat.eq_of_beq_eq_true hh]⟩
      · obtain ⟨h1, h2⟩ := writerOf_some h; exact ⟨List.mem_cons_of_mem _ h1, h2⟩
    · obtain ⟨h1, h2⟩ := writerOf_some h; exact ⟨List.mem_cons_of_mem _ h1, h2⟩
theorem writerOf_none {t : Nat} : ∀ {l : List Item'}, writerOf t l = none → ∀ y ∈ l, y.o.dst ≠ some t
  | [], _, _, hy => by simp at hy
  | x :: l, h, y, hy => by
    unfold writerOf at h
    split at h
    · rename_i d hd
      split at h
      · cases h
      · rename_i hh
        rcases List.mem_cons.1 hy with rfl | hy
        · rw [hd]; intro h0; cases h0; rw [Nat.beq_refl] at hh; cases hh
        · exact writerOf_none h y hy
    · rename_i hd
      rcases List.mem_cons.1 hy with rfl | hy
      · rw [hd]; simp
      · exact writerOf_none h y hy
theorem onceB_spec : ∀ {l : List Item'}, onceB l = true → (l.map (·.i)).Nodup → ∀ x ∈ l, ∀ y ∈ l, ∀ t, x.o.dst = some t → y.o.dst = some t → x.i = y.i
  | [], _, _, _, hx, _, _, _, _, _ => by simp at hx
  | z :: l, h, hn, x, hx, y, hy, t, h1, h2 => by
    have hn' : (l.map (·.i)).Nodup := by simpa using (List.nodup_cons.1 (by simpa using hn)).2
    unfold onceB at h
    have rest : onceB l = true ∧ ∀ t, z.o.dst = some t → ∀ y ∈ l, y.o.dst ≠ some t := by
      split at h
      · rename_i d hd
        split at h
        · cases h
        · rename_i hw
          exact ⟨h, fun t ht y hy => by rw [hd] at ht; cases ht; exact writerOf_none hw y hy⟩
      · rename_i hd
        exact ⟨h, fun t ht => by rw [hd] at ht; cases ht⟩
    rcases List.mem_cons.1 hx with rfl | hx <;> rcases List.mem_cons.1 hy with rfl | hy
    · rfl
    · exact absurd h2 (rest.2 t h1 y hy)
    · exact absurd h1 (rest.2 t h2 _ (by assumption))
    · exact onceB_spec rest.1 hn' x hx y hy t h1 h2
theorem itemsOf_i : ∀ (l : List Oper) (i : Nat) (acc : List (Nat × Nat)), (itemsOf l i acc).map (·.i) = List.range' i l.length
  | [], _, _ => rfl
  | o :: l, i, acc => by simp [itemsOf, itemsOf_i l (i + 1), List.range'_succ]
theorem readsB_spec {items : List Item'} {x : Item'} : ∀ {l : List Nat}, readsB items x l = true → ∀ t ∈ l, ∀ y, writerOf t items = some y → y.i = x.i ∨ isDone y.i x.all = true ∨ isDone x.i y.all = true
  | [], _, _, ht, _, _ => by simp at ht
  | s :: l, h, t, ht, y, hy => by
    unfold readsB at h
    split at h
    · rename_i hw
      rcases List.mem_cons.1 ht with rfl | ht
      · rw [hw] at hy; cases hy
      · exact readsB_spec h t ht y hy
    · rename_i z hz
      split at h
      · rename_i hor
        rcases List.mem_cons.1 ht with rfl | ht
        · rw [hz] at hy; cases hy
          cases h1 : Nat.beq y.i x.i
          · cases h2 : isDone y.i x.all
            · rw [h1, h2] at hor; exact .inr (.inr hor)
            · exact .inr (.inl rfl)
          · exact .inl (Nat.eq_of_beq_eq_true h1)
        · exact readsB_spec h t ht y hy
      · cases h
theorem itemsB_spec {ops : Array Oper} {items : List Item'} : ∀ {l : List Item'}, itemsB ops items l = true → ∀ x ∈ l, x.pre < 2 ^ x.i ∧ readsB items x (readsOf ops x.o) = true
  | [], _, _, hx => by simp at hx
  | z :: l, h, x, hx => by
    unfold itemsB at h
    split at h
    · rename_i h1 h2
      rcases List.mem_cons.1 hx with rfl | hx
      · exact ⟨by rw [Nat.blt_eq] at h1; exact h1, h2⟩
      · exact itemsB_spec h x hx
    · cases h
theorem regOk_spec {ops : Array Oper} (h : regOk ops = true) : RegOk ops := by
  unfold regOk at h
  simp only at h
  obtain ⟨i1, i2⟩ := items_ok ops
  have hn : ((itemsOf ops.toList 0 []).map (·.i)).Nodup := by rw [itemsOf_i]; exact List.nodup_range'
  generalize itemsOf ops.toList 0 [] = items at *
  cases h1 : onceB items
  · rw [h1] at h; cases h
  rw [h1] at h
  have h2 : itemsB ops items items = true := h
  have item : ∀ i o, ops[i]? = some o → ∃ x ∈ items, x.i = i ∧ x.o = o := fun i o ho => by
    obtain ⟨x, hx, hi⟩ := i2 i (Array.getElem?_eq_some_iff.1 ho).1
    have := (i1 x hx).o
    rw [hi, ho] at this
    exact ⟨x, hx, hi, (Option.some.inj this).symm⟩
  have dst : ∀ i t, dstOf ops i = some t → ∃ x ∈ items, x.i = i ∧ x.o.dst = some t := fun i t ht => by
    unfold dstOf at ht
    split at ht
    · rename_i o ho
      obtain ⟨x, hx, hi, rfl⟩ := item i o ho
      exact ⟨x, hx, hi, ht⟩
    · cases ht
  refine ⟨fun i j t hi hj => ?_, fun i o t j ho ht hj => ?_, fun i j hp => ?_⟩
  · obtain ⟨x, hx, rfl, hxt⟩ := dst i t hi
    obtain ⟨y, hy, rfl, hyt⟩ := dst j t hj
    exact onceB_spec h1 hn x hx y hy t hxt hyt
  · obtain ⟨x, hx, rfl, rfl⟩ := item i o ho
    obtain ⟨y, hy, rfl, hyt⟩ := dst j t hj
    obtain ⟨_, h4⟩ := itemsB_spec h2 x hx
    cases hw : writerOf t items with
    | none => exact absurd hyt (writerOf_none hw y hy)
    | some z =>
      obtain ⟨hz, hzt⟩ := writerOf_some hw
      have hzy := onceB_spec h1 hn z hz y hy t hzt hyt
      rcases readsB_spec h4 t ht z hw with h5 | h5 | h5
      · exact .inl (by rw [← hzy]; exact h5)
      · exact .inr (.inl (by rw [← hzy]; exact (i1 x hx).all _ (isDone_iff.1 h5)))
      · exact .inr (.inr (by rw [← hzy]; exact (i1 z hz).all _ (isDone_iff.1 h5)))
  · obtain ⟨o, ho, hb⟩ := hp
    obtain ⟨x, hx, rfl, rfl⟩ := item i o ho
    obtain ⟨h3, _⟩ := itemsB_spec h2 x hx
    rw [(i1 x hx).pre] at h3
    rcases Nat.lt_or_ge j x.i with h4 | h4
    · exact h4
    · have := Nat.testBit_lt_two_pow (Nat.lt_of_lt_of_le h3 (Nat.pow_le_pow_right (by omega) h4))
      rw [this] at hb; cases hb
end Go.Ab
end
