/-
  Operations, and regions in the order of their text.
-/
import Derived.Test.YtldpapiaonchaaaGreatDoorZzCall
import Derived.OrdersIn
import Derived.RangeFuncIn
section
namespace Go.Ab
open Go
section
variable {E : Env} {P : Program}

/-- A fence that bars nothing, in a round or in none. -/
def WF (r : Option Nat) : Fence := { Fence.wide with round := r }
theorem callsIn_WF (r : Option Nat) (f : FuncId) (args : Array Value) (w : World) (R : Ending → World → Prop) : CallsIn (WF r) 0 P f args w R = CallsIn Fence.wide 0 P f args w R := rfl
theorem roundIn_WF (r : Option Nat) (l : Nat) (f : FuncId) (tmps : Array Value) (xs bd : Code) (w : World) (R : Ending → World → Prop) : RoundIn (WF r) 0 P l f tmps xs bd w R = RoundIn Fence.wide 0 P l f tmps xs bd w R := rfl

/-- The marks for the rounds' deferred calls. -/
def MkOk (μ : Mu) : List Nat → List Deferred → Prop
  | [], ds => ds = []
  | b :: l, ds => ∃ x c ds', μ b 0 = some x ∧ x.blk = some c ∧ ds = { target := .collected c, args := #[] } :: ds' ∧ MkOk μ l ds'
theorem MkOk.mono {μ μ' : Mu} (hm : ∀ b e x, μ b e = some x → μ' b e = some x) : ∀ {l : List Nat} {ds : List Deferred}, MkOk μ l ds → MkOk μ' l ds
  | [], _, h => h
  | b :: l, _, ⟨x, c, ds', h1, h2, h3, h4⟩ => ⟨x, c, ds', hm _ _ _ h1, h2, h3, h4.mono hm⟩
/-- A state of the abstract machine and one of the model's, but for the temporaries. -/
structure Base (E : Env) (m : Nat) (Z0 : Nat → Prop) (μ0 : Mu) (w0 : World) (Z : Nat → Prop) (μ : Mu) (st : S) (a : Act) (w : World) : Prop where
  fr : Frame m Z0 μ0 w0 Z μ w
  hm : m ≤ st.h.length
  sr : SR E Z μ st.h w
  nt : a.tmps.size = st.nt
  mks : MkOk μ st.mks a.defers
structure StOk (E : Env) (m : Nat) (Z0 : Nat → Prop) (μ0 : Mu) (w0 : World) (Z : Nat → Prop) (μ : Mu) (st : S) (a : Act) (w : World) : Prop extends Base E m Z0 μ0 w0 Z μ st a w where
  tr : TR Z μ w st.df st.ts a.tmps
/-- Some relation holds. -/
def At (E : Env) (m : Nat) (Z0 : Nat → Prop) (μ0 : Mu) (w0 : World) (st : S) (a : Act) (w : World) : Prop := ∃ Z μ, StOk E m Z0 μ0 w0 Z μ st a w

variable {m : Nat} {Z0 Z : Nat → Prop} {μ0 μ : Mu} {w0 w : World} {st : S} {a : Act} {r : Option Nat}

theorem put_h (st : S) (dst : Option Nat) (v : V) : (st.put dst v).h = st.h := by cases dst <;> rfl
theorem put_mks (st : S) (dst : Option Nat) (v : V) : (st.put dst v).mks = st.mks := by cases dst <;> rfl
theorem put_nt (st : S) (dst : Option Nat) (v : V) : (st.put dst v).nt = st.nt := by cases dst <;> rfl
theorem put_df (st : S) (dst : Option Nat) (v : V) : (st.put dst v).df = st.df := by cases dst <;> rfl
theorem aput_size (a : Act) (dst : Option Nat) (v : Value) : (a.put dst v).tmps.size = a.tmps.size := by cases dst <;> simp [Act.put]
theorem aput_defers (a : Act) (dst : Option Nat) (v : Value) : (a.put dst v).defers = a.defers := by cases dst <;> rfl
theorem TR.put {st : S} {a : Act} {dst : Option Nat} {v : V} {cv : Value} (T : TR Z μ w st.df st.ts a.tmps) (hf : st.fits dst = true) (hn : a.tmps.size = st.nt) (hv : VR Z μ w v cv) : TR Z μ w (st.put dst v).df (st.put dst v).ts (a.put dst cv).tmps := by
  cases dst with
  | none => exact T
  | some t =>
    intro s
    simp only [S.put, getT, Act.put]
    have ht : t < a.tmps.size := by rw [hn]; simpa [S.fits, Nat.blt_eq] using hf
    split
    · rename_i hh
      obtain rfl := Nat.eq_of_beq_eq_true hh
      simpa [Array.getD_eq_getD_getElem?, ht] using hv
    · rename_i hh
      have hne : t ≠ s := fun h0 => by rw [h0, Nat.beq_refl] at hh; cases hh
      have := T s
      simpa [Array.getD_eq_getD_getElem?, Array.getElem?_setIfInBounds, hne] using this
theorem Base.put (B : Base E m Z0 μ0 w0 Z μ st a w) (dst : Option Nat) (v : V) (cv : Value) : Base E m Z0 μ0 w0 Z μ (st.put dst v) (a.put dst cv) w :=
  ⟨B.fr, by rw [put_h]; exact B.hm, by rw [put_h]; exact B.sr, by rw [put_nt, aput_size]; exact B.nt, by rw [put_mks, aput_defers]; exact B.mks⟩
theorem StOk.put (B : StOk E m Z0 μ0 w0 Z μ st a w) {dst : Option Nat} {v : V} {cv : Value} (hf : st.fits dst = true) (hv : VR Z μ w v cv) : StOk E m Z0 μ0 w0 Z μ (st.put dst v) (a.put dst cv) w :=
  { B.toBase.put dst v cv with tr := B.tr.put hf B.nt hv }
theorem StOk.ρ (B : StOk E m Z0 μ0 w0 Z μ st a w) (x : Operand) : VR Z μ w (opd E st.df st.ts x) (a.eval x) := opd_ok B.sr.glob B.tr x
/-- The world has moved on. -/
theorem Base.step {Z' : Nat → Prop} {μ' : Mu} {w' : World} {h' : List O} (B : Base E m Z0 μ0 w0 Z μ st a w) (S' : SR E Z' μ' h' w') (F : Frame m Z μ w Z' μ' w') (hm : ∀ b e x, μ b e = some x → μ' b e = some x) (hl : m ≤ h'.length) : Base E m Z0 μ0 w0 Z' μ' { st with h := h' } a w' :=
  ⟨B.fr.trans F, hl, S', B.nt, B.mks.mono hm⟩
theorem StOk.step {Z' : Nat → Prop} {μ' : Mu} {w' : World} {h' : List O} (B : StOk E m Z0 μ0 w0 Z μ st a w) (S' : SR E Z' μ' h' w') (F : Frame m Z μ w Z' μ' w') (H : Ext Z μ w Z' μ' w') (hl : m ≤ h'.length) : StOk E m Z0 μ0 w0 Z' μ' { st with h := h' } a w' :=
  { B.toBase.step S' F H.m hl with tr := B.tr.mono H }

theorem wp_value {o : Oper} {cv : Value} {w' : World} {next : Act → World → Prop} {Q : Exit → Act → World → Prop} (hd : ∀ c, o.op ≠ .defer c) (hr : (execOp a.eval o).run P w = .ok (.value cv) w') (h : next (a.put o.dst cv) w') : o.wpIn (WF r) 0 P a w next Q := by
  refine ⟨fun _ _ => trivial, ?_⟩
  rw [Oper.semAt_eq _ _ _ hd, hr]
  exact h
theorem wp_gives {o : Oper} {nx : Next} {cv : Value} {w' : World} {next : Act → World → Prop} {Q : Exit → Act → World → Prop} (hd : ∀ c, o.op ≠ .defer c) (hr : (execOp a.eval o).run P w = .ok nx w') (hg : Gives nx cv) (h : next (a.put o.dst cv) w') : o.wpIn (WF r) 0 P a w next Q := by
  refine ⟨fun _ _ => trivial, ?_⟩
  rw [Oper.semAt_eq _ _ _ hd, hr]
  rcases hg with rfl | ⟨rfl, rfl⟩
  · exact h
  · exact h
theorem cls_defer {o : Op} (h : ∀ c, o = .defer c → False) : ∀ c, o ≠ .defer c := fun c hc => h c hc
theorem fresh_none (S : SR E Z μ st.h w) (e : Nat) : μ st.h.length e = none := by
  cases hh : μ st.h.length e with
  | none => rfl
  | some y => have := S.dom _ _ _ hh; omega
theorem calm_ok (HE : EnvOk E P) {o : Oper} {K : S → V → Prop} (hk : calm MP E o st K) (B : StOk E m Z0 μ0 w0 Z μ st a w) {next : Act → World → Prop} {Q : Exit → Act → World → Prop}
    (hn : ∀ st' v a' w', K st' v → At E m Z0 μ0 w0 st' a' w' → next a' w') : o.wpIn (WF r) 0 P a w next Q := by
  unfold calm at hk
  obtain ⟨hf, hk⟩ := bB_MP hk
  split at hk
  · rename_i hc
    obtain ⟨v, hv, hk⟩ := oB_MP hk
    obtain ⟨cv, h1, h2⟩ := quiet_ok HE B.ρ (fun _ => rfl) o hv
    exact wp_value (fun c hh => by rw [hh] at hc; simp [cls] at hc) h1 (hn _ _ _ _ hk ⟨Z, μ, B.put hf h2⟩)
  · rename_i hc
    obtain ⟨v, hv, hk⟩ := oB_MP hk
    obtain ⟨cv, h1, h2⟩ := read_ok HE B.sr B.ρ o hc hv
    exact wp_value (fun c hh => by rw [hh] at hc; simp [cls] at hc) h1 (hn _ _ _ _ hk ⟨Z, μ, B.put hf h2⟩)
  · rename_i hc
    obtain ⟨⟨ob, mk⟩, hv, hk⟩ := oB_MP hk
    obtain ⟨obj, cv, h1, n, h2, h3⟩ := alloc_ok HE B.ρ o hv
    have hno := fresh_none B.sr
    obtain ⟨S2, F2⟩ := (B.sr.push ob).link (b := st.h.length) (by simp) hno (by rw [getO_append]; simp [getO]) h2 m B.hm
    have H := ext_alloc B.sr obj (μ' := μ.link st.h.length ⟨some w.heap.size, n⟩) fun b' e x hx => Mu.link_old hno hx
    have B2 := B.step S2 F2 H (by have := B.hm; simp; omega)
    exact wp_value (fun c hh => by rw [hh] at hc; simp [cls] at hc) h1 (hn _ _ _ _ hk ⟨_, _, B2.put hf (h3 _ hno)⟩)
  · exact hk.elim

/-! ### Calls -/
theorem run_callFunc {f : Nat} (h : Enters P f) (args : Array Value) : (callFunc f args).run P w = .ok (.enter f args) w := by
  obtain ⟨fn, h1, h2, h3⟩ := h
  have h4 : fn.body ≠ none := by intro hb; rw [hb] at h3; cases h3
  have h5 : fn.name ≠ "runtime.NumGoroutine" := by simpa using h2
  simp [callFunc, program, Sem.run, h1, h4, h5]
/-- What a call of a value comes to. -/
def Calls' (P : Program) (E : Env) (Z : Nat → Prop) (μ : Mu) (w : World) (h : List O) (s : Sem Next) (K : V → List O → List Nat → Prop) : Prop :=
  (∃ f xs, s.run P w = .ok (.enter f xs) w ∧ CallsIn Fence.wide 0 P f xs w (Post E h.length Z μ w (Told h K))) ∨
  (∃ c fn tm xs bd, s.run P w = .ok (.round c fn tm xs bd) w ∧ RoundIn Fence.wide 0 P c fn tm xs bd w (Post E h.length Z μ w (Told h K)))
theorem callV_ok {C : CallP Prop} {Y : YieldP Prop} (HC : CallOk P E C) (HY : YieldOk P E Y) {g : V} {gv : Value} {args : List V} {cargs : Array Value} {h : List O} {K : V → List O → List Nat → Prop} (hk : callV MP C Y g args h K)
    (S : SR E Z μ h w) (hg : VR Z μ w g gv) (ha : VRL Z μ w args cargs.toList) : Calls' P E Z μ w h (do let d ← Deferred.ofValue gv cargs; invoke d.target d.args) K := by
  unfold callV at hk
  split at hk
  · rename_i f fa fc
    obtain ⟨a', c', rfl, h1, h2⟩ := hg
    obtain ⟨k1, k2⟩ := callF_ok HC hk
    refine .inl ⟨f, (a' ++ cargs) ++ c', ?_, k2 Z μ w _ S ?_⟩
    · simp [Deferred.ofValue, invoke, run_callFunc k1]
    · simp only [Array.toList_append]
      exact (h1.toV.append ha).append h2.toV
  · rename_i f fa fc
    obtain ⟨a', c', rfl, h1, h2⟩ := hg
    obtain ⟨k1, k2⟩ := callF_ok HC hk
    refine .inl ⟨f, (a' ++ cargs) ++ c', ?_, k2 Z μ w _ S ?_⟩
    · simp [Deferred.ofValue, invoke, run_callFunc k1]
    · simp only [Array.toList_append]
      exact (h1.append ha).append h2
  · rename_i b
    obtain ⟨x, c, k1, k2, rfl⟩ := hg
    obtain ⟨R, l1, l2, l3⟩ := HY _ _ _ _ hk Z μ w cargs x c S ha k1 k2
    refine .inr ⟨c, R.fn, _, R.assign, R.body, ?_, RoundIn.mono l3 ?_⟩
    · simp [Deferred.ofValue, invoke, Instr.yield, Instr.getLoop, getObj, Sem.run, l1, l2]
    · intro e w' he
      cases e with
      | returned cv =>
        obtain ⟨v, h', Z', μ', q, rest⟩ := he
        obtain ⟨q1, q2⟩ := bB_MP q
        exact ⟨v, h', Z', μ', ⟨_, q2, Nat.le_of_ble_eq_true q1, fun b hb hb' => absurd (List.mem_range.2 hb) hb'⟩, rest⟩
      | panicked _ => exact he.elim
      | outgrown => exact he.elim
  · exact hk.elim
theorem calls_wp {o : Oper} {h : List O} {s : Sem Next} {K : V → List O → List Nat → Prop} {next : Act → World → Prop} {Q : Exit → Act → World → Prop} (hd : ∀ c, o.op ≠ .defer c) (hs : execOp a.eval o = s) (hc : Calls' P E Z μ w h s K)
    (hn : ∀ cv w', Post E h.length Z μ w (Told h K) (.returned cv) w' → next (a.put o.dst cv) w') : o.wpIn (WF r) 0 P a w next Q := by
  refine ⟨fun _ _ => trivial, ?_⟩
  rw [Oper.semAt_eq _ _ _ hd, hs]
  rcases hc with ⟨f, xs, h1, h2⟩ | ⟨c, fn, tm, xs, bd, h1, h2⟩
  · rw [h1]
    refine ⟨fun hh => by simp [WF, Fence.wide] at hh, ?_⟩
    show CallsIn Fence.wide 0 P f xs w _
    refine CallsIn.mono h2 fun e w' he => ?_
    cases e with
    | returned cv => exact hn cv w' he
    | panicked _ => exact he.elim
    | outgrown => exact he.elim
  · rw [h1]
    refine ⟨fun hh => by simp [WF, Fence.wide] at hh, ?_⟩
    show RoundIn Fence.wide 0 P c fn tm xs bd w _
    refine RoundIn.mono h2 fun e w' he => ?_
    cases e with
    | returned cv => exact hn cv w' he
    | panicked _ => exact he.elim
    | outgrown => exact he.elim
/-- What the continuation of an effect or a call is told. -/
structure LoudAt (E : Env) (Z : Nat → Prop) (μ : Mu) (w : World) (st : S) (o : Oper) (K : S → List Nat → Prop) (cv : Value) (w' : World) : Prop where
  ex : ∃ v h' σ Z' μ', K ({ st with h := h' }.put o.dst v) σ ∧ SR E Z' μ' h' w' ∧ Frame st.h.length Z μ w Z' μ' w' ∧ VR Z' μ' w' v cv ∧ st.h.length ≤ h'.length ∧ (∀ b, b < st.h.length → b ∉ σ → getO h' b = getO st.h b)
theorem namesV_agg {cs : List V} : namesV (.agg cs) = namesVs cs := rfl
theorem rowset (h : List O) (b b' : Nat) (o : O) (hne : b' ≠ b) : getO (setO h b o) b' = getO h b' := by
  rw [getO_setO, if_neg (by simp [hne])]
theorem storeO_but {h h' : List O} {t : Nat} {a v : V} (hs : storeO E h t a v = some h') : h.length ≤ h'.length ∧ ∀ b, b ∉ namesV a → getO h' b = getO h b := by
  unfold storeO at hs
  repeat' split at hs
  all_goals first | (cases hs; done) | skip
  cases hs
  exact ⟨by rw [setO_length]; exact Nat.le_refl _, fun b hb => rowset _ _ _ _ (by simpa [namesV] using hb)⟩
theorem mapSet_but {h h' : List O} {t : Nat} {m k v : V} (hs : mapSet E h t m k v = some h') : h.length ≤ h'.length ∧ ∀ b, b ∉ namesV m → getO h' b = getO h b := by
  unfold mapSet at hs
  repeat' split at hs
  all_goals first | (cases hs; done) | skip
  all_goals cases hs
  all_goals exact ⟨by rw [setO_length]; exact Nat.le_refl _, fun b hb => rowset _ _ _ _ (by simpa [namesV] using hb)⟩
theorem nextO_but {h h' : List O} {x v : V} (hs : nextO h x = some (v, h')) : h.length ≤ h'.length ∧ ∀ b, b < h.length → b ∉ namesV x → getO h' b = getO h b := by
  unfold nextO at hs
  repeat' split at hs
  all_goals first | (cases hs; done) | skip
  all_goals cases hs
  · exact ⟨by rw [setO_length]; exact Nat.le_refl _, fun b _ hb => rowset _ _ _ _ (by simpa [namesV] using hb)⟩
  · exact ⟨Nat.le_refl _, fun _ _ _ => rfl⟩
theorem effect_but {ρ : Operand → V} {h h' : List O} {o : Op} {v : V} {bs : List Nat} (hv : effectO E ρ h o = some (v, h', bs)) : h.length ≤ h'.length ∧ ∀ b, b < h.length → b ∉ bs → getO h' b = getO h b := by
  unfold effectO at hv
  have app : ∀ (x : O) (b : Nat), b < h.length → getO (h ++ [x]) b = getO h b := fun x b hb => by rw [getO_append, if_pos hb]
  have le : ∀ (b : Nat) (x : O), h.length ≤ (setO h b x).length := fun b x => by rw [setO_length]; exact Nat.le_refl _
  split at hv
  · split at hv
    · rename_i hs; cases hv; exact ⟨(storeO_but hs).1, fun b _ hb => (storeO_but hs).2 b hb⟩
    · cases hv
  · split at hv
    · rename_i hs; cases hv; exact ⟨(mapSet_but hs).1, fun b _ hb => (mapSet_but hs).2 b hb⟩
    · cases hv
  · split at hv
    · rename_i hs; cases hv; exact ⟨(mapSet_but hs).1, fun b _ hb => (mapSet_but hs).2 b hb⟩
    · cases hv
  · split at hv
    · rename_i v' h'' hs
      cases hv
      unfold convO at hs
      repeat' split at hs
      all_goals first | (cases hs; done) | skip
      all_goals cases hs
      · exact ⟨by simp, fun b hb _ => app _ b hb⟩
      · exact ⟨Nat.le_refl _, fun _ _ _ => rfl⟩
    · cases hv
  · split at hv
    · rename_i v' h'' hs
      cases hv
      exact nextO_but hs
    · cases hv
  · split at hv
    · split at hv
      · rename_i v' h'' _ hs
        cases hv
        unfold appendO appendEnd at hs
        repeat' split at hs
        all_goals first | (cases hs; done) | skip
        all_goals cases hs
        all_goals first | exact ⟨Nat.le_refl _, fun _ _ _ => rfl⟩ | exact ⟨by simp, fun b hb _ => app _ b hb⟩ | exact ⟨le _ _, fun b _ hb => rowset _ _ _ _ (by simpa [namesV] using hb)⟩
      · cases hv
    · split at hv
      · rename_i v' h'' hs
        cases hv
        unfold copyO at hs
        repeat' split at hs
        all_goals first | (cases hs; done) | skip
        all_goals cases hs
        all_goals first | exact ⟨Nat.le_refl _, fun _ _ _ => rfl⟩ | exact ⟨le _ _, fun b _ hb => rowset _ _ _ _ (by simpa [namesV] using hb)⟩
      · cases hv
    · split at hv
      · rename_i h'' hs
        cases hv
        unfold deleteO at hs
        repeat' split at hs
        all_goals first | (cases hs; done) | skip
        all_goals cases hs
        all_goals first | exact ⟨Nat.le_refl _, fun _ _ _ => rfl⟩ | exact ⟨le _ _, fun b _ hb => rowset _ _ _ _ (by simpa [namesV] using hb)⟩
      · cases hv
    · split at hv
      · rename_i h'' hs
        cases hv
        unfold clearO at hs
        repeat' split at hs
        all_goals first | (cases hs; done) | skip
        all_goals cases hs
        all_goals first | exact ⟨Nat.le_refl _, fun _ _ _ => rfl⟩ | exact ⟨le _ _, fun b _ hb => rowset _ _ _ _ (by simpa [namesV] using hb)⟩
      · cases hv
    · cases hv
  · cases hv
end
end Go.Ab
end
section
/-
  Effects and calls; guards; regions in the order of their text.
-/
namespace Go.Ab
open Go
section
variable {E : Env} {P : Program}
variable {m : Nat} {Z0 Z : Nat → Prop} {μ0 μ : Mu} {w0 w : World} {st : S} {a : Act} {r : Option Nat} {h : List O}

/-- An effect or a call, the operands given. -/
def loudP (E : Env) (C : CallP Prop) (Y : YieldP Prop) (o : Op) (ρ : Operand → V) (h : List O) (K : V → List O → List Nat → Prop) : Prop :=
  match cls E o with
  | .effect => oB MP (effectO E ρ h o) "effect" fun p => K p.1 p.2.1 p.2.2
  | .call => match o with
    | .call c => match c.callee with
      | .value g => callV MP C Y (ρ g) (c.args.toList.map ρ) h K
      | _ => False
    | _ => False
  | _ => False
theorem loud_iff {C : CallP Prop} {Y : YieldP Prop} {o : Oper} {K : S → List Nat → Prop} (hk : loud MP E C Y o st K) :
    st.fits o.dst = true ∧ loudP E C Y o.op (opd E st.df st.ts) st.h fun v h' σ => K ({ st with h := h' }.put o.dst v) σ := by
  unfold loud at hk
  obtain ⟨h1, h2⟩ := bB_MP hk
  refine ⟨h1, ?_⟩
  unfold loudP
  split at h2
  · rename_i hc; rw [hc]; exact h2
  · rename_i hc
    rw [hc]
    simp only
    split at h2
    · rename_i c hop
      split at h2
      · rename_i g hg; rw [hop]; simp only [hg]; exact h2
      · exact h2.elim
    · exact h2.elim
  · exact h2.elim
theorem loudP_ok (HE : EnvOk E P) {C : CallP Prop} {Y : YieldP Prop} (HC : CallOk P E C) (HY : YieldOk P E Y) {o : Oper} {ρ : Operand → V} {K : V → List O → List Nat → Prop} (hk : loudP E C Y o.op ρ h K) (S : SR E Z μ h w) (hρ : ∀ x, VR Z μ w (ρ x) (a.eval x))
    {next : Act → World → Prop} {Q : Exit → Act → World → Prop}
    (hn : ∀ cv w' v h' σ Z' μ', K v h' σ → SR E Z' μ' h' w' → Frame h.length Z μ w Z' μ' w' → VR Z' μ' w' v cv → h.length ≤ h'.length → (∀ b, b < h.length → b ∉ σ → getO h' b = getO h b) → next (a.put o.dst cv) w') : o.wpIn (WF r) 0 P a w next Q := by
  unfold loudP at hk
  split at hk
  · rename_i hc
    obtain ⟨⟨v, h', bs⟩, hv, hk⟩ := oB_MP hk
    obtain ⟨μ', w', nx, cv, e1, e2, e3, e4, e5, e6⟩ := effect_ok (P := P) HE S hρ o h.length (Nat.le_refl _) hv
    obtain ⟨f1, f2⟩ := effect_but hv
    exact wp_gives (fun c hh => by rw [hh] at hc; simp [cls] at hc) e1 e2 (hn cv w' v h' bs Z μ' hk e3 e4 e6 f1 f2)
  · split at hk
    · rename_i c hop
      split at hk
      · rename_i g hg
        have hargs := VRL.map hρ c.args.toList
        have ea : (c.args.map a.eval).toList = c.args.toList.map a.eval := by simp
        have hc := callV_ok (cargs := c.args.map a.eval) HC HY hk S (hρ g) (by rw [ea]; exact hargs)
        refine calls_wp (fun c hh => by rw [hh] at hop; cases hop) (by simp only [execOp, hop, resolve, hg]) hc fun cv w' hp => ?_
        obtain ⟨v, h', Z', μ', ⟨σ, q1, q2, q3⟩, q4, q5, q6⟩ := hp
        exact hn cv w' v h' σ Z' μ' q1 q4 q6 q5 q2 q3
      · exact hk.elim
    · exact hk.elim
  · exact hk.elim

/-! ### Guards -/
theorem guard_known {ops : Array Oper} {o : Oper} {a : Act} {v : V} {want : Bool} {j t : Nat} (hg : o.guard = some (j, want)) (ht : dstOf ops j = some t) (hv : VR Z μ w v (a.tmps.getD t undef)) :
    (∀ b, v = .d (.bool b) → Region.wanted o (yielded ops a.tmps) = eqB b want) ∧ (v = .d .undef → Region.wanted o (yielded ops a.tmps) = false) := by
  have hd : (ops[j]?).bind (·.dst) = some t := by
    unfold dstOf at ht
    split at ht
    · rename_i o' ho; rw [ho]; exact ht
    · cases ht
  constructor
  · rintro b rfl
    simp only [VR, VRd] at hv
    have h1 : a.tmps[t]? = some (.bool b) := by
      rw [Array.getD_eq_getD_getElem?] at hv
      cases hh : a.tmps[t]? with
      | none => rw [hh] at hv; simp [undef] at hv
      | some u => rw [hh] at hv; simpa using hv
    simp only [Region.wanted, hg, yielded, hd, Option.bind_some, h1]
    cases b <;> cases want <;> rfl
  · rintro rfl
    simp only [VR, VRd] at hv
    have h1 : ∀ b, a.tmps[t]? ≠ some (.bool b) := by
      intro b hh
      rw [Array.getD_eq_getD_getElem?, hh] at hv
      simp at hv
    simp only [Region.wanted, hg, yielded, hd, Option.bind_some]
    cases hh : a.tmps[t]? with
    | none => rfl
    | some u => cases u with
      | bool b => exact absurd hh (h1 b)
      | _ => rfl
theorem guarded_ok {ops : Array Oper} {o : Oper} {K : Bool → Prop} (hk : guarded MP ops o st K) (T : TR Z μ w st.df st.ts a.tmps) : K (Region.wanted o (yielded ops a.tmps)) := by
  unfold guarded at hk
  split at hk
  · rename_i hg
    have : Region.wanted o (yielded ops a.tmps) = true := by simp [Region.wanted, hg]
    rw [this]; exact hk
  · rename_i j want hg
    split at hk
    · rename_i t ht
      obtain ⟨h1, h2⟩ := guard_known hg ht (T t)
      split at hk
      · rename_i b hb; rw [h1 b hb]; exact hk
      · rename_i hb; rw [h2 hb]; exact hk
      · exact hk.elim
    · exact hk.elim
theorem skipped_ok {o : Oper} {K : S → Prop} (hk : skipped MP o st K) (B : StOk E m Z0 μ0 w0 Z μ st a w) : ∃ st', K st' ∧ StOk E m Z0 μ0 w0 Z μ st' (a.put o.dst undef) w := by
  unfold skipped at hk
  obtain ⟨h1, h2⟩ := bB_MP hk
  exact ⟨_, h2, B.put h1 rfl⟩

/-- A region in the order of its text. -/
theorem opsIn_ok (HE : EnvOk E P) {C : CallP Prop} {Y : YieldP Prop} (HC : CallOk P E C) (HY : YieldOk P E Y) {ops : Array Oper} {Q : Exit → Act → World → Prop} :
    ∀ (l : List Oper) (il : List Nat) (st : S) (K : S → Prop) (Z : Nat → Prop) (μ : Mu) (a : Act) (w : World), il.map (fun i => ops[i]?) = l.map some → opsIn MP E C Y ops l st K → StOk E m Z0 μ0 w0 Z μ st a w →
      (∀ st' a' w', K st' → At E m Z0 μ0 w0 st' a' w' → Q .normal a' w') → wpOpsIn (WF r) 0 P ops Q il a w
  | [], il, st, K, Z, μ, a, w, hil, hk, B, hQ => by
    have : il = [] := by simpa using hil
    subst this
    exact hQ st a w hk ⟨Z, μ, B⟩
  | o :: l, [], st, K, Z, μ, a, w, hil, hk, B, hQ => by simp at hil
  | o :: l, i :: il, st, K, Z, μ, a, w, hil, hk, B, hQ => by
    simp only [List.map_cons, List.cons.injEq] at hil
    obtain ⟨hi, hil⟩ := hil
    unfold opsIn at hk
    have hk := guarded_ok hk B.tr
    simp only [wpOpsIn, hi]
    have go : ∀ st' a' w', opsIn MP E C Y ops l st' K → At E m Z0 μ0 w0 st' a' w' → wpOpsIn (WF r) 0 P ops Q il a' w' := fun st' a' w' hk' ⟨Z', μ', B'⟩ =>
      opsIn_ok HE HC HY l il st' K Z' μ' a' w' hil hk' B' hQ
    cases hw : Region.wanted o (yielded ops a.tmps) with
    | true =>
      rw [hw] at hk
      simp only [if_true]
      simp only at hk
      split at hk
      · obtain ⟨h1, h2⟩ := loud_iff hk
        refine loudP_ok HE HC HY h2 B.sr B.ρ fun cv w' v h' σ Z' μ' q1 q2 q3 q4 q5 q6 => ?_
        refine go _ _ _ q1 ⟨Z', μ', ?_⟩
        have B' := B.step (h' := h') q2 (q3.fewer B.hm) (q3.toExt B.sr (Nat.le_refl _)) (Nat.le_trans B.hm q5)
        exact B'.put h1 q4
      · exact calm_ok HE hk B fun st' v a' w' hk' hat => go _ _ _ hk' hat
    | false =>
      rw [hw] at hk
      simp only [Bool.false_eq_true, if_false]
      obtain ⟨st', h1, h2⟩ := skipped_ok hk B
      exact ⟨fun _ _ => trivial, go _ _ _ h1 ⟨Z, μ, h2⟩⟩
end
end Go.Ab
end
