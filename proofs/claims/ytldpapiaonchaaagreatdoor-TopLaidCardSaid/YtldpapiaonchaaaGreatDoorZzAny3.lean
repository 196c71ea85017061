/-
  Regions that draw their order: the model's steps.
-/
import Derived.Test.YtldpapiaonchaaaGreatDoorZzAny
section
namespace Go.Ab
open Go
section
variable {E : Env} {P : Program}
variable {ops : Array Oper} {m : Nat} {Z0 Z : Nat → Prop} {μ0 μ : Mu} {w0 w : World} {df0 : D} {ts0 : List (Nat × V)} {rv : Nat → V} {bl : Nat → Option Nat} {done : Nat} {recs : List Rec} {st : S} {listed : Array Bool} {a : Act} {r : Option Nat}

theorem Dn.set {i j : Nat} (hi : i < listed.size) : Dn (listed.setIfInBounds i true) j ↔ j = i ∨ Dn listed j := by
  unfold Dn
  rw [Array.getElem?_setIfInBounds]
  by_cases hij : i = j
  · subst hij; simp [hi]
  · rw [if_neg hij]
    exact ⟨.inr, fun h => h.resolve_left fun h0 => hij h0.symm⟩
/-- One operation more has been carried out in the model: what the temporaries hold. -/
theorem conc_set {Z' : Nat → Prop} {μ' : Mu} {w' : World} (R : RegOk ops) (hs : listed.size = ops.size) {i : Nat} {o : Oper} (ho : ops[i]? = some o) (hn : ¬ Dn listed i)
    (conc : ∀ t, (∀ j, dstOf ops j = some t → Dn listed j → VR Z μ w (rv j) (a.tmps.getD t undef)) ∧ ((∀ j, dstOf ops j = some t → ¬ Dn listed j) → VR Z μ w (getT df0 ts0 t) (a.tmps.getD t undef)))
    (H : Ext Z μ w Z' μ' w') {rv' : Nat → V} {cv : Value} (hrv : ∀ j, j ≠ i → rv' j = rv j) (hv : VR Z' μ' w' (rv' i) cv) (hf : ∀ t, o.dst = some t → t < a.tmps.size) (t : Nat) :
    (∀ j, dstOf ops j = some t → Dn (listed.setIfInBounds i true) j → VR Z' μ' w' (rv' j) ((a.put o.dst cv).tmps.getD t undef)) ∧ ((∀ j, dstOf ops j = some t → ¬ Dn (listed.setIfInBounds i true) j) → VR Z' μ' w' (getT df0 ts0 t) ((a.put o.dst cv).tmps.getD t undef)) := by
  have hin : i < listed.size := by rw [hs]; exact (Array.getElem?_eq_some_iff.1 ho).1
  have hother : o.dst ≠ some t → (a.put o.dst cv).tmps.getD t undef = a.tmps.getD t undef := by
    intro hne
    cases hd : o.dst with
    | none => rfl
    | some d =>
      have : d ≠ t := fun h => hne (by rw [hd, h])
      simp [Act.put, Array.getD_eq_getD_getElem?, Array.getElem?_setIfInBounds, this]
  have hself : o.dst = some t → (a.put o.dst cv).tmps.getD t undef = cv := by
    intro hd
    have := hf t hd
    rw [hd]
    simp [Act.put, Array.getD_eq_getD_getElem?, this]
  constructor
  · intro j hj hd
    rcases (Dn.set hin).1 hd with rfl | hd
    · rw [hself ((dst_eq ho t).1 hj)]; exact hv
    · have hji : j ≠ i := fun hh => hn (hh ▸ hd)
      rw [hother fun hh => hji (R.once _ _ _ hj ((dst_eq ho t).2 hh)), hrv j hji]
      exact VR.mono H _ _ ((conc t).1 j hj hd)
  · intro hno
    rw [hother fun hh => hno i ((dst_eq ho t).2 hh) ((Dn.set hin).2 (.inl rfl))]
    exact VR.mono H _ _ ((conc t).2 fun j hj hd => hno j hj ((Dn.set hin).2 (.inr hd)))
theorem Base.aput (B : Base E m Z0 μ0 w0 Z μ st a w) (dst : Option Nat) (cv : Value) : Base E m Z0 μ0 w0 Z μ st (a.put dst cv) w :=
  ⟨B.fr, B.hm, B.sr, by rw [aput_size]; exact B.nt, by rw [aput_defers]; exact B.mks⟩
/-- What was carried out ahead is carried out in the model. -/
theorem Inv.conc_move (I : Inv E ops m Z0 μ0 w0 df0 ts0 rv bl done recs st Z μ listed a w) (R : RegOk ops) {i : Nat} {o : Oper} (ho : ops[i]? = some o) (hd : done.testBit i = true) (hn : ¬ Dn listed i) (hp : ∀ j, Pre ops j i → Dn listed j) (hf : ∀ t, o.dst = some t → t < st.nt)
    {μ' : Mu} {w' : World} {cv : Value} (hS : SR E Z μ' st.h w') (F : Frame m Z μ w Z μ' w') (H : Ext Z μ w Z μ' w') (hv : VR Z μ' w' (rv i) cv) (hun : ∀ k c, k ≠ i → bl k = some c → (∀ e, μ c e = none) → ∀ e, μ' c e = none) :
    Inv E ops m Z0 μ0 w0 df0 ts0 rv bl done recs st Z μ' (listed.setIfInBounds i true) (a.put o.dst cv) w' := by
  have hin : i < listed.size := by rw [I.size]; exact (Array.getElem?_eq_some_iff.1 ho).1
  refine ⟨?_, by simpa using I.size, fun j hj => ?_, I.lt, I.clo, fun j k hj hpr => ?_, I.slot, conc_set R I.size ho hn I.conc H (fun _ _ => rfl) hv (fun t ht => by rw [I.base.nt]; exact hf t ht), fun k o' hk hkn ho' => ?_, I.inj, I.blt⟩
  · exact (I.base.step hS F H.m I.base.hm).aput o.dst cv
  · rcases (Dn.set hin).1 hj with rfl | hj
    · exact hd
    · exact I.sub j hj
  · refine (Dn.set hin).2 (.inr ?_)
    rcases (Dn.set hin).1 hj with rfl | hj
    · exact hp k hpr
    · exact I.cloc j k hj hpr
  · have hki : k ≠ i := fun h0 => hkn ((Dn.set hin).2 (.inl h0))
    have hkn' : ¬ Dn listed k := fun h0 => hkn ((Dn.set hin).2 (.inr h0))
    obtain ⟨df, ts, wb, h1, h2, h3, h4, h5⟩ := I.del k o' hk hkn' ho'
    exact ⟨df, ts, wb, h1, h2, h3, h4, fun hw => (h5 hw).keep (fun _ hx => hx) (fun _ h _ => h) fun c hc _ _ hno => ⟨rfl, hun k c hki hc hno⟩⟩
theorem Inv.conc_step (HE : EnvOk E P) (I : Inv E ops m Z0 μ0 w0 df0 ts0 rv bl done recs st Z μ listed a w) (R : RegOk ops) {i : Nat} {o : Oper} (ho : ops[i]? = some o) (hd : done.testBit i = true) (hn : ¬ Dn listed i) (hp : ∀ j, Pre ops j i → Dn listed j)
    {K : Act → World → Prop} {Q : Exit → Act → World → Prop} (hK : ∀ μ' a' w', Inv E ops m Z0 μ0 w0 df0 ts0 rv bl done recs st Z μ' (listed.setIfInBounds i true) a' w' → K a' w') : wpOpIn (WF r) 0 P ops Q i K a w := by
  obtain ⟨df, ts, wb, h1, h2, h3, h4, h5⟩ := I.del i o hd hn ho
  have hr : ∀ t ∈ readsOf ops o, VR Z μ w (getT df ts t) (a.tmps.getD t undef) := fun t ht => reads_rel R I.cloc I.conc ho hn hp ht (h1 t ht)
  have hw := guard_reads h2 hr
  unfold wpOpIn
  simp only [ho, hw]
  have hun : ∀ k c, k ≠ i → bl k = some c → (∀ e, μ c e = none) → ∀ e, μ c e = none := fun _ _ _ _ h => h
  have hself : Ext Z μ w Z μ w := Ext.refl ..
  cases wb with
  | false =>
    simp only [Bool.false_eq_true, if_false]
    refine ⟨fun _ _ => trivial, hK μ _ w (I.conc_move R ho hd hn hp h3 I.base.sr (Frame.refl ..) hself ?_ hun)⟩
    rw [h4 rfl]; exact rfl
  | true =>
    simp only [if_true]
    have hm := mask_rel (E := E) (a := a) I.base.sr.glob hr
    rcases h5 rfl with ⟨hc, hv⟩ | ⟨hc, hv, _⟩ | ⟨hc, ob, mk, b, hv, hb, hrv, hmb, hget, hno, _⟩
    · rw [quietV_congr mask_eq] at hv
      obtain ⟨cv, e1, e2⟩ := quiet_ok HE hm (fun _ => rfl) o hv
      exact wp_value (fun c hh => by rw [hh] at hc; simp [cls] at hc) e1 (hK μ _ w (I.conc_move R ho hd hn hp h3 I.base.sr (Frame.refl ..) hself e2 hun))
    · rw [readV_congr mask_eq] at hv
      obtain ⟨cv, e1, e2⟩ := read_ok HE I.base.sr hm o hc hv
      exact wp_value (fun c hh => by rw [hh] at hc; simp [cls] at hc) e1 (hK μ _ w (I.conc_move R ho hd hn hp h3 I.base.sr (Frame.refl ..) hself e2 hun))
    · rw [allocV_congr mask_eq] at hv
      obtain ⟨obj, cv, e1, n, e2, e3⟩ := alloc_ok HE hm o hv
      obtain ⟨S2, F2⟩ := I.base.sr.link (I.blt i b hb) hno hget e2 m hmb
      have H2 := ext_alloc I.base.sr obj (μ' := μ.link b ⟨some w.heap.size, n⟩) fun b' e x hx => Mu.link_old hno hx
      refine wp_value (fun c hh => by rw [hh] at hc; simp [cls] at hc) e1 (hK _ _ _ (I.conc_move R ho hd hn hp h3 S2 F2 H2 (by rw [hrv]; exact e3 b hno) fun k c hk hbk hcn e => ?_))
      have hcb : c ≠ b := fun h0 => hk (I.inj k i c hbk (h0 ▸ hb))
      unfold Mu.link
      rw [if_neg (by simp [hcb])]; exact hcn e
/-- An effect, a call or what is left out is carried out in both. -/
theorem Inv.both (I : Inv E ops m Z0 μ0 w0 df0 ts0 rv bl done recs st Z μ listed a w) (R : RegOk ops) {i : Nat} {o : Oper} (ho : ops[i]? = some o) (hd : ¬ done.testBit i = true) (hp : ∀ j, Pre ops j i → Dn listed j) (hf : st.fits o.dst = true)
    {Z' : Nat → Prop} {μ' : Mu} {w' : World} {h' : List O} {v : V} {cv : Value} (hS : SR E Z' μ' h' w') (F : Frame m Z μ w Z' μ' w') (H : Ext Z μ w Z' μ' w') (hv : VR Z' μ' w' v cv) (hl : st.h.length ≤ h'.length)
    (hread : ∀ k o', ¬ Dn listed k → ops[k]? = some o' → ∀ ρ : Operand → V, cls E o'.op = .read → readV E ρ st.h o'.op = some (rv k) → ⟨k, addrOf ρ o'.op, fun h => readV E ρ h o'.op, rv k⟩ ∈ recs → readV E ρ h' o'.op = some (rv k))
    (hal : ∀ k c, ¬ Dn listed k → bl k = some c → ⟨k, [c], fun _ => none, rv k⟩ ∈ recs → (∀ e, μ c e = none) → getO h' c = getO st.h c ∧ ∀ e, μ' c e = none) :
    Inv E ops m Z0 μ0 w0 df0 ts0 (upd rv i v) bl (Nat.lor (2 ^ i) done) recs ({ st with h := h' }.put o.dst v) Z' μ' (listed.setIfInBounds i true) (a.put o.dst cv) w' := by
  have hin : i < ops.size := (Array.getElem?_eq_some_iff.1 ho).1
  have hin' : i < listed.size := by rw [I.size]; exact hin
  have hn : ¬ Dn listed i := fun h => hd (I.sub i h)
  have hcl : ∀ k, done.testBit k = true → ¬ Before ops i k := fun k hk hb => hd (closed_before (p := fun j => done.testBit j = true) (fun i j h h2 => I.clo i j h h2) hb hk)
  refine ⟨?_, by simpa using I.size, fun j hj => ?_, fun j hj => ?_, fun j k hj hpr => ?_, fun j k hj hpr => ?_, fun t => SlotIs.add (st := { st with h := h' }) R ho hd (I.slot t), ?_, fun k o' hk hkn ho' => ?_, I.inj, fun j c hj => ?_⟩
  · exact (I.base.step hS F H.m (Nat.le_trans I.base.hm hl)).put o.dst v cv
  · refine (testBit_add _ _ _).2 ?_
    rcases (Dn.set hin').1 hj with rfl | hj
    · exact .inl rfl
    · exact .inr (I.sub j hj)
  · rcases (testBit_add _ _ _).1 hj with rfl | hj
    · exact hin
    · exact I.lt j hj
  · refine (testBit_add _ _ _).2 (.inr ?_)
    rcases (testBit_add _ _ _).1 hj with rfl | hj
    · exact I.sub k (hp k hpr)
    · exact I.clo j k hj hpr
  · refine (Dn.set hin').2 (.inr ?_)
    rcases (Dn.set hin').1 hj with rfl | hj
    · exact hp k hpr
    · exact I.cloc j k hj hpr
  · refine conc_set R I.size ho hn I.conc H (fun j hj => upd_ne _ _ hj) (by rw [upd_self]; exact hv) fun t ht => ?_
    rw [I.base.nt]; rw [ht] at hf; simpa [S.fits, Nat.blt_eq] using hf
  · rw [put_h, put_nt]
    have hki : k ≠ i := fun h0 => hkn ((Dn.set hin').2 (.inl h0))
    have hkn' : ¬ Dn listed k := fun h0 => hkn ((Dn.set hin').2 (.inr h0))
    have hk := ((testBit_add _ _ _).1 hk).resolve_left hki
    exact (I.del k o' hk hkn' ho').keep hki (hcl k hk) (fun j hj => upd_ne _ _ hj) (fun _ _ => rfl) (fun _ hx => hx) (hread k o' hkn' ho') fun c hc _ h3 h4 => hal k c hkn' hc h3 h4
  · rw [put_h]
    exact Nat.lt_of_lt_of_le (I.blt j c hj) hl
end
end Go.Ab
end
section
/-
  Regions that draw their order: whole.
-/
namespace Go.Ab
open Go
section
variable {E : Env} {P : Program}
variable {ops : Array Oper} {m : Nat} {Z0 Z : Nat → Prop} {μ0 μ : Mu} {w0 w : World} {df0 : D} {ts0 : List (Nat × V)} {rv : Nat → V} {bl : Nat → Option Nat} {done : Nat} {recs : List Rec} {st : S} {listed : Array Bool} {a : Act} {r : Option Nat}

/-- Some invariant holds. -/
def Some' (E : Env) (ops : Array Oper) (m : Nat) (Z0 : Nat → Prop) (μ0 : Mu) (w0 : World) (df0 : D) (ts0 : List (Nat × V)) (Z : Nat → Prop) (μ : Mu) (listed : Array Bool) (a : Act) (w : World) (done : Nat) (recs : List Rec) (st : S) : Prop :=
  ∃ rv bl, Inv E ops m Z0 μ0 w0 df0 ts0 rv bl done recs st Z μ listed a w
theorem not_done {i d : Nat} (h : isDone i d = false) : ¬ d.testBit i = true := fun hh => by rw [isDone_iff.2 hh] at h; cases h
theorem pre_of {x : Item'} (hx : ItemOk ops x) (h : hasAll x.pre done = true) (j : Nat) (hj : Pre ops j x.i) : done.testBit j = true := by
  obtain ⟨o, ho, hb⟩ := hj
  rw [hx.o] at ho; cases ho
  rw [hx.pre] at h
  exact hasAll_iff.1 h j hb
theorem calm_inv (I : Inv E ops m Z0 μ0 w0 df0 ts0 rv bl done recs st Z μ listed a w) (R : RegOk ops) {x : Item'} (hx : ItemOk ops x) (hn : ¬ done.testBit x.i = true) (hp : ∀ j, Pre ops j x.i → done.testBit j = true)
    (hg : GuardIs ops x.o (getT st.df st.ts) true) {K : S → V → Prop} (hk : calm MP E x.o st K) :
    ∃ st' v, K st' v ∧ Some' E ops m Z0 μ0 w0 df0 ts0 Z μ listed a w (Nat.lor (2 ^ x.i) done) (recOf E x.o x.i st v recs) st' := by
  unfold calm at hk
  obtain ⟨hf, hk⟩ := bB_MP hk
  split at hk
  · rename_i hc
    obtain ⟨v, hv, hk⟩ := oB_MP hk
    refine ⟨_, v, hk, upd rv x.i v, upd bl x.i none, ?_⟩
    have e : recOf E x.o x.i st v recs = recs := by unfold recOf; rw [hc]
    rw [e]
    exact I.abs R hx.o hn hp hf hg (h' := st.h) (fun h => by cases h) (fun _ => .inl ⟨hc, hv⟩) (.inl rfl) (fun _ h => h) (fun c hc => by cases hc)
  · rename_i hc
    obtain ⟨v, hv, hk⟩ := oB_MP hk
    refine ⟨_, v, hk, upd rv x.i v, upd bl x.i none, ?_⟩
    have e : recOf E x.o x.i st v recs = ⟨x.i, addrOf (opd E st.df st.ts) x.o.op, fun h => readV E (opd E st.df st.ts) h x.o.op, v⟩ :: recs := by unfold recOf; rw [hc]
    rw [e]
    exact I.abs R hx.o hn hp hf hg (h' := st.h) (fun h => by cases h) (fun _ => .inr (.inl ⟨hc, hv, List.mem_cons_self ..⟩)) (.inl rfl) (fun _ h => List.mem_cons_of_mem _ h) (fun c hc => by cases hc)
  · rename_i hc
    obtain ⟨⟨ob, mk⟩, hv, hk⟩ := oB_MP hk
    refine ⟨_, _, hk, upd rv x.i (mk st.h.length), upd bl x.i (some st.h.length), ?_⟩
    have e : recOf E x.o x.i st (mk st.h.length) recs = ⟨x.i, [st.h.length], fun _ => none, mk st.h.length⟩ :: recs := by unfold recOf; rw [hc]
    rw [e]
    exact I.abs R hx.o hn hp hf hg (h' := st.h ++ [ob]) (fun h => by cases h) (fun _ => .inr (.inr ⟨hc, ob, mk, _, hv, rfl, rfl, I.base.hm, by rw [getO_append]; simp [getO], fresh_none I.base.sr, List.mem_cons_self ..⟩)) (.inr ⟨ob, rfl⟩) (fun _ h => List.mem_cons_of_mem _ h) (fun c hc => by cases hc; simp)
  · exact hk.elim
theorem sat_ok (R : RegOk ops) : ∀ (l : List Item') (done : Nat) (recs : List Rec) (st : S) (K : Nat → List Rec → S → Prop), (∀ x ∈ l, ItemOk ops x) → sat MP E ops l done recs st K → Some' E ops m Z0 μ0 w0 df0 ts0 Z μ listed a w done recs st →
    ∃ done' recs' st', K done' recs' st' ∧ Some' E ops m Z0 μ0 w0 df0 ts0 Z μ listed a w done' recs' st'
  | [], done, recs, st, K, _, hk, I => ⟨done, recs, st, hk, I⟩
  | x :: l, done, recs, st, K, hl, hk, I => by
    have hx := hl x (List.mem_cons_self ..)
    have hl' : ∀ y ∈ l, ItemOk ops y := fun y hy => hl y (List.mem_cons_of_mem _ hy)
    unfold sat at hk
    split at hk
    · rename_i h1 h2
      split at hk
      · exact sat_ok R l done recs st K hl' hk I
      · obtain ⟨wb, hg, hk⟩ := guard_is hk
        obtain ⟨rv, bl, I⟩ := I
        have hp := pre_of hx h2
        cases wb with
        | true =>
          obtain ⟨st', v, hk, I'⟩ := calm_inv I R hx (not_done h1) hp hg hk
          exact sat_ok R l _ _ st' K hl' hk I'
        | false =>
          unfold skipped at hk
          obtain ⟨hf, hk⟩ := bB_MP hk
          exact sat_ok R l _ _ _ K hl' hk ⟨_, _, I.abs R hx.o (not_done h1) hp hf hg (h' := st.h) (recs' := recs) (b := none) (fun _ => rfl) (fun h => by cases h) (.inl rfl) (fun _ h => h) (fun c hc => by cases hc)⟩
    · exact sat_ok R l done recs st K hl' hk I
theorem readyL_iff {done : Nat} {x : Item'} : ∀ {l : List Item'}, x ∈ readyL l done ↔ x ∈ l ∧ isDone x.i done = false ∧ hasAll x.pre done = true
  | [] => by simp [readyL]
  | y :: l => by
    unfold readyL
    split
    · rename_i h1 h2
      simp only [List.mem_cons, readyL_iff (l := l)]
      constructor
      · rintro (rfl | ⟨h3, h4⟩)
        · exact ⟨.inl rfl, h1, h2⟩
        · exact ⟨.inr h3, h4⟩
      · rintro ⟨rfl | h3, h4⟩
        · exact .inl rfl
        · exact .inr ⟨h3, h4⟩
    · rename_i hno
      rw [readyL_iff (l := l)]
      constructor
      · rintro ⟨h3, h4⟩; exact ⟨List.mem_cons_of_mem _ h3, h4⟩
      · rintro ⟨h3, h4, h5⟩
        rcases List.mem_cons.1 h3 with rfl | h3
        · exact (hno h4 h5).elim
        · exact ⟨h3, h4, h5⟩
theorem ready_iff (hs : listed.size = ops.size) {i : Nat} : i ∈ Region.ready .any ops listed ↔ i < ops.size ∧ ¬ Dn listed i ∧ ∀ j, Pre ops j i → Dn listed j := by
  unfold Region.ready
  rw [List.mem_filter, List.mem_range]
  constructor
  · rintro ⟨h1, h2⟩
    rw [Bool.and_eq_true] at h2
    obtain ⟨h2, h3⟩ := h2
    have ho : ops[i]? = some ops[i] := by simp [h1]
    refine ⟨h1, fun hd => ?_, fun j hj => ?_⟩
    · unfold Dn at hd
      simp [Array.getD_eq_getD_getElem?, hd] at h2
    · obtain ⟨o, ho', hb⟩ := hj
      rw [ho] at ho'; cases ho'
      obtain ⟨e, he, hbi, rfl⟩ := maskOf_iff.1 hb
      simp only [ho, Option.map_some, Option.getD_some] at h3
      rw [Array.all_eq_true'] at h3
      have := h3 e (by simpa using he)
      rw [binding_binds, hbi] at this
      simp [Array.getD_eq_getD_getElem?] at this
      unfold Dn
      cases hh : listed[e.on]? with
      | none => rw [hh] at this; simp at this
      | some b => rw [hh] at this; simp at this; rw [this]
  · rintro ⟨h1, h2, h3⟩
    have ho : ops[i]? = some ops[i] := by simp [h1]
    refine ⟨h1, ?_⟩
    rw [Bool.and_eq_true]
    constructor
    · have hl : i < listed.size := by omega
      unfold Dn at h2
      simp [Array.getD_eq_getD_getElem?, hl] at h2 ⊢
      exact h2
    · simp only [ho, Option.map_some, Option.getD_some]
      rw [Array.all_eq_true']
      intro e he
      rw [binding_binds]
      cases hb : binding e with
      | false => rfl
      | true =>
        have := h3 e.on ⟨_, ho, maskOf_iff.2 ⟨e, by simpa using he, hb, rfl⟩⟩
        unfold Dn at this
        simp [Array.getD_eq_getD_getElem?, this]
/-- Nothing comes up any more: everything has been carried out. -/
theorem all_done (R : RegOk ops) (hs : listed.size = ops.size) (h : Region.ready .any ops listed = []) : ∀ i, i < ops.size → Dn listed i := by
  intro i
  induction i using Nat.strongRecOn with
  | _ i ih =>
    intro hi
    refine Classical.byContradiction fun hn => ?_
    have : i ∈ Region.ready .any ops listed := (ready_iff hs).2 ⟨hi, hn, fun j hj => ih j (R.low i j hj) (Nat.lt_trans (R.low i j hj) hi)⟩
    rw [h] at this; cases this
theorem promised_ok {h' : List O} {before : Nat} {touched : List Nat} {K : Prop} : ∀ {recs : List Rec}, promised MP h' before touched recs K → K ∧ ∀ r ∈ recs, before.testBit r.i = true ∨ (∀ b ∈ r.bs, b ∉ touched) ∨ r.again h' = some r.was
  | [], h => ⟨h, by simp⟩
  | r :: l, h => by
    unfold promised at h
    have lift : ∀ {q : Prop}, (before.testBit r.i = true ∨ (∀ b ∈ r.bs, b ∉ touched) ∨ r.again h' = some r.was) → promised MP h' before touched l K → K ∧ ∀ r' ∈ r :: l, before.testBit r'.i = true ∨ (∀ b ∈ r'.bs, b ∉ touched) ∨ r'.again h' = some r'.was := by
      intro _ h0 hk
      obtain ⟨h1, h2⟩ := promised_ok hk
      exact ⟨h1, fun r' hr => by rcases List.mem_cons.1 hr with rfl | hr; exact h0; exact h2 r' hr⟩
    split at h
    · rename_i hd; exact lift (q := True) (.inl (isDone_iff.1 hd)) h
    · rename_i ha; exact lift (q := True) (.inr (.inl (apart_spec ha))) h
    · have h := chkP_out h
      exact lift (q := True) (.inr (.inr h.1)) h.2
  where
  apart_spec : ∀ {l m : List Nat}, apartN l m = true → ∀ b ∈ l, b ∉ m
  | [], _, _ => by simp
  | c :: l, m, h => by
    unfold apartN at h
    split at h
    · cases h
    · rename_i hc
      intro b hb
      rcases List.mem_cons.1 hb with rfl | hb
      · intro hm; rw [memN_iff.2 hm] at hc; cases hc
      · exact apart_spec h b hb
end
end Go.Ab
end
section
/-
  Regions that draw their order: the law.
-/
namespace Go.Ab
open Go
section
variable {E : Env} {P : Program}
variable {ops : Array Oper} {m : Nat} {Z0 Z : Nat → Prop} {μ0 μ : Mu} {w0 w : World} {df0 : D} {ts0 : List (Nat × V)} {rv : Nat → V} {bl : Nat → Option Nat} {done : Nat} {recs : List Rec} {st : S} {listed : Array Bool} {a : Act} {r : Option Nat}

/-- What is asked when all that may be done ahead has been done. -/
def Phase (E : Env) (C : CallP Prop) (Y : YieldP Prop) (ops : Array Oper) (items : List Item') (full n done : Nat) (recs : List Rec) (st : S) (K : S → Prop) : Prop :=
  match readyL items done with
    | [] => bB MP (Nat.beq done full) "region's end" (K st)
    | [x] => guarded MP ops x.o st fun want => match want with
      | true => loud MP E C Y x.o st fun st' touched => promised MP st'.h x.all touched recs (anyIn MP E C Y ops items full n (Nat.lor (2 ^ x.i) done) recs st' K)
      | false => skipped MP x.o st fun st' => anyIn MP E C Y ops items full n (Nat.lor (2 ^ x.i) done) recs st' K
    | _ :: _ :: _ => MP.fail "two effects without an order"
def unl (listed : Array Bool) : Nat := (listed.toList.filter (!·)).length
theorem filter_set : ∀ (l : List Bool) (i : Nat), l[i]? = some false → ((l.set i true).filter (!·)).length + 1 = (l.filter (!·)).length
  | [], _, h => by simp at h
  | b :: l, 0, h => by simp at h; subst h; simp
  | b :: l, i + 1, h => by
    have := filter_set l i (by simpa using h)
    cases b <;> simp_all
theorem unl_set {i : Nat} (hi : i < listed.size) (hn : ¬ Dn listed i) : unl (listed.setIfInBounds i true) + 1 = unl listed := by
  unfold unl
  rw [Array.toList_setIfInBounds]
  apply filter_set
  unfold Dn at hn
  rw [Array.getElem?_toList]
  cases hh : listed[i]? with
  | none => rw [Array.getElem?_eq_none_iff] at hh; omega
  | some b => cases b with
    | true => exact absurd hh hn
    | false => rfl
theorem unl_zero (h : unl listed = 0) {i : Nat} (hi : i < listed.size) : Dn listed i := by
  unfold unl at h
  unfold Dn
  rw [List.length_eq_zero_iff, List.filter_eq_nil_iff] at h
  have hm : listed[i] ∈ listed.toList := by simp
  have := h _ hm
  rw [Array.getElem?_eq_getElem hi]
  simpa using this
theorem Inv.end (I : Inv E ops m Z0 μ0 w0 df0 ts0 rv bl done recs st Z μ listed a w) (hall : ∀ i, i < ops.size → Dn listed i) : At E m Z0 μ0 w0 st a w := by
  refine ⟨Z, μ, { I.base with tr := fun t => ?_ }⟩
  obtain ⟨s1, s2⟩ := I.slot t
  obtain ⟨c1, c2⟩ := I.conc t
  by_cases hex : ∃ j, dstOf ops j = some t ∧ done.testBit j = true
  · obtain ⟨j, h1, h2⟩ := hex
    rw [s1 j h1 h2]
    exact c1 j h1 (hall j (I.lt j h2))
  · rw [s2 fun j h1 h2 => hex ⟨j, h1, h2⟩]
    exact c2 fun j h1 h2 => hex ⟨j, h1, I.sub j h2⟩
theorem Inv.env (I : Inv E ops m Z0 μ0 w0 df0 ts0 rv bl done recs st Z μ listed a w) (R : RegOk ops) {i : Nat} {o : Oper} (ho : ops[i]? = some o) (hn : ¬ done.testBit i = true) (hp : ∀ j, Pre ops j i → Dn listed j) {t : Nat} (ht : t ∈ readsOf ops o) :
    VR Z μ w (getT st.df st.ts t) (a.tmps.getD t undef) := by
  have hcl : ∀ k, done.testBit k = true → ¬ Before ops i k := fun k hk hb => hn (closed_before (p := fun j => done.testBit j = true) (fun i j h h2 => I.clo i j h h2) hb hk)
  refine reads_rel R I.cloc I.conc ho (fun h => hn (I.sub i h)) hp ht ?_
  obtain ⟨s1, s2⟩ := I.slot t
  refine ⟨fun j hj hpj => s1 j hj (I.sub j (pre_before (p := fun j => Dn listed j) (fun i j h h2 => I.cloc i j h h2) hp hpj.2)), fun hno => s2 fun j hj hd => ?_⟩
  have hji : j ≠ i := fun h0 => hn (h0 ▸ hd)
  rcases R.reads i o t j ho ht hj with h0 | h0 | h0
  · exact hji h0
  · exact hno j hj ⟨hji, h0⟩
  · exact hcl j hd h0
theorem phase_ok (HE : EnvOk E P) {C : CallP Prop} {Y : YieldP Prop} (HC : CallOk P E C) (HY : YieldOk P E Y) (R : RegOk ops) {items : List Item'} (hi1 : ∀ x ∈ items, ItemOk ops x) (hi2 : ∀ i, i < ops.size → ∃ x ∈ items, x.i = i) {full : Nat} {K : S → Prop} {Q : Exit → Act → World → Prop}
    (hQ : ∀ st' a' w', K st' → At E m Z0 μ0 w0 st' a' w' → Q .normal a' w') :
    ∀ (fuel n done : Nat) (recs : List Rec) (st : S) (rv : Nat → V) (bl : Nat → Option Nat) (Z : Nat → Prop) (μ : Mu) (listed : Array Bool) (a : Act) (w : World),
      Phase E C Y ops items full n done recs st K → Inv E ops m Z0 μ0 w0 df0 ts0 rv bl done recs st Z μ listed a w → unl listed ≤ fuel → wpAnyIn (WF r) 0 P .any ops Q fuel listed a w := by
  have fin : ∀ (n done : Nat) (recs : List Rec) (st : S) (rv : Nat → V) (bl : Nat → Option Nat) (Z : Nat → Prop) (μ : Mu) (listed : Array Bool) (a : Act) (w : World),
      Phase E C Y ops items full n done recs st K → Inv E ops m Z0 μ0 w0 df0 ts0 rv bl done recs st Z μ listed a w → (∀ i, i < ops.size → Dn listed i) → Q .normal a w := by
    intro n done recs st rv bl Z μ listed a w hk I hall
    have hr : readyL items done = [] := by
      cases hh : readyL items done with
      | nil => rfl
      | cons x l =>
        have hx : x ∈ readyL items done := by rw [hh]; exact List.mem_cons_self ..
        obtain ⟨h1, h2, _⟩ := readyL_iff.1 hx
        have hlt : x.i < ops.size := (Array.getElem?_eq_some_iff.1 (hi1 x h1).o).1
        exact absurd (I.sub _ (hall _ hlt)) (not_done h2)
    unfold Phase at hk
    rw [hr] at hk
    exact hQ _ _ _ (bB_MP hk).2 (I.end hall)
  intro fuel
  induction fuel with
  | zero =>
    intro n done recs st rv bl Z μ listed a w hk I hf
    have hall : ∀ i, i < ops.size → Dn listed i := fun i hi => unl_zero (by omega) (by rw [I.size]; exact hi)
    refine ⟨?_, fin n done recs st rv bl Z μ listed a w hk I hall⟩
    cases hh : Region.ready .any ops listed with
    | nil => rfl
    | cons i l =>
      have : i ∈ Region.ready .any ops listed := by rw [hh]; exact List.mem_cons_self ..
      obtain ⟨h1, h2, _⟩ := (ready_iff I.size).1 this
      exact absurd (hall i h1) h2
  | succ fuel ih =>
    intro n done recs st rv bl Z μ listed a w hk I hf
    refine ⟨fun hr => fin n done recs st rv bl Z μ listed a w hk I (all_done R I.size hr), fun i hi => ?_⟩
    obtain ⟨hlt, hn, hp⟩ := (ready_iff I.size).1 hi
    have ho : ops[i]? = some ops[i] := by simp [hlt]
    have hu := unl_set (by rw [I.size]; exact hlt) hn
    by_cases hd : done.testBit i = true
    · exact I.conc_step HE R ho hd hn hp fun μ' a' w' I' => ih n done recs st rv bl Z μ' _ a' w' hk I' (by omega)
    · obtain ⟨x, hx, hxi⟩ := hi2 i hlt
      have hxo := hi1 x hx
      have hxr : x ∈ readyL items done := by
        refine readyL_iff.2 ⟨hx, ?_, hasAll_iff.2 fun j hj => ?_⟩
        · rw [Bool.eq_false_iff]; intro h; rw [isDone_iff, hxi] at h; exact hd h
        · rw [hxo.pre] at hj
          exact I.sub j (hp j ⟨_, by rw [← hxi]; exact hxo.o, hj⟩)
      unfold Phase at hk
      split at hk
      · rename_i hnil; rw [hnil] at hxr; cases hxr
      · rename_i y hy
        rw [hy] at hxr
        obtain rfl : x = y := by simpa using hxr
        subst hxi
        have hxo' := hxo.o
        obtain ⟨wb, hg, hk⟩ := guard_is hk
        have henv := fun t ht => I.env (t := t) R hxo' hd hp ht
        have hw := guard_reads hg henv
        unfold wpOpIn
        simp only [hxo', hw]
        have next : ∀ (st' : S) (rv' : Nat → V) (Z' : Nat → Prop) (μ' : Mu) (a' : Act) (w' : World), anyIn MP E C Y ops items full n (Nat.lor (2 ^ x.i) done) recs st' K →
            Inv E ops m Z0 μ0 w0 df0 ts0 rv' bl (Nat.lor (2 ^ x.i) done) recs st' Z' μ' (listed.setIfInBounds x.i true) a' w' → wpAnyIn (WF r) 0 P .any ops Q fuel (listed.setIfInBounds x.i true) a' w' := by
          intro st' rv' Z' μ' a' w' hk' I'
          cases n with
          | zero => exact hk'.elim
          | succ n =>
            unfold anyIn at hk'
            obtain ⟨done'', recs'', st'', hk'', rv'', bl'', I''⟩ := sat_ok R items _ _ _ _ hi1 hk' ⟨rv', bl, I'⟩
            exact ih n done'' recs'' st'' rv'' bl'' Z' μ' _ a' w' hk'' I'' (by omega)
        cases wb with
        | false =>
          simp only [Bool.false_eq_true, if_false]
          unfold skipped at hk
          obtain ⟨hfit, hk⟩ := bB_MP hk
          refine ⟨fun _ _ => trivial, next _ (upd rv x.i (.d .undef)) Z μ _ w hk ?_⟩
          exact I.both R hxo' hd hp hfit (h' := st.h) (cv := undef) I.base.sr (Frame.refl ..) (Ext.refl ..) rfl (Nat.le_refl _) (fun _ _ _ _ _ _ h _ => h) (fun _ _ _ _ _ h => ⟨rfl, h⟩)
        | true =>
          simp only [if_true]
          obtain ⟨hfit, hk⟩ := loud_iff hk
          have hk := loudP_congr mask_eq hk
          refine loudP_ok HE HC HY hk I.base.sr (mask_rel I.base.sr.glob henv) fun cv w' v h' σ Z' μ' q1 q2 q3 q4 q5 q6 => ?_
          rw [put_h] at q1
          obtain ⟨q1, q7⟩ := promised_ok q1
          refine next _ (upd rv x.i v) Z' μ' _ w' q1 (I.both R hxo' hd hp hfit q2 (q3.fewer I.base.hm) (q3.toExt I.base.sr (Nat.le_refl _)) q4 q5 ?_ ?_)
          · intro k o' hkn ho' ρ hc hv hrec
            rcases q7 _ hrec with h0 | h0 | h0
            · exact absurd (pre_before (p := fun j => Dn listed j) (fun i j h h2 => I.cloc i j h h2) hp (hxo.all _ h0)) hkn
            · refine readV_keep (fun b hb => ?_) hv
              by_cases hlt' : b < st.h.length
              · exact .inr (q6 b hlt' (h0 b hb))
              · exact .inl (getO_length (by omega))
            · exact h0
          · intro k c hkn hbl hrec hno
            rcases q7 _ hrec with h0 | h0 | h0
            · exact absurd (pre_before (p := fun j => Dn listed j) (fun i j h h2 => I.cloc i j h h2) hp (hxo.all _ h0)) hkn
            · exact ⟨q6 c (I.blt k c hbl) (h0 c (by simp)), q3.un c (I.blt k c hbl) hno⟩
            · cases h0
      · exact hk.elim
/-- **A region that draws its order.** -/
theorem anyIn_ok (HE : EnvOk E P) {C : CallP Prop} {Y : YieldP Prop} (HC : CallOk P E C) (HY : YieldOk P E Y) {id : Nat} {full n : Nat} {K : S → Prop} {Q : Exit → Act → World → Prop} (hk : bB MP (regOk ops) "slots" (anyIn MP E C Y ops (itemsOf ops.toList 0 []) full n 0 [] st K))
    (B : StOk E m Z0 μ0 w0 Z μ st a w) (hQ : ∀ st' a' w', K st' → At E m Z0 μ0 w0 st' a' w' → Q .normal a' w') : (Code.region id ops true).wpIn (WF r) 0 P Q a w := by
  obtain ⟨hR, hk⟩ := bB_MP hk
  have R := regOk_spec hR
  obtain ⟨i1, i2⟩ := items_ok ops
  refine wpIn_region_any HE.mixed ?_
  have B' : StOk E m Z0 μ0 w0 Z μ st a w.drew := B.step (B.sr.same rfl) (Frame.drew ..) (Ext.drew ..) B.hm
  cases n with
  | zero => exact hk.elim
  | succ n =>
    unfold anyIn at hk
    have hnd : ∀ i, ¬ Dn (Array.replicate ops.size false) i := fun i h => by
      unfold Dn at h
      rw [Array.getElem?_replicate] at h
      split at h <;> simp at h
    have hz : ∀ i, ¬ (0 : Nat).testBit i = true := by simp
    obtain ⟨done', recs', st', hk', rv', bl', I'⟩ := sat_ok (df0 := st.df) (ts0 := st.ts) (Z := Z) (μ := μ) (listed := Array.replicate ops.size false) (a := a) (w := w.drew) (m := m) (Z0 := Z0) (μ0 := μ0) (w0 := w0) R _ 0 [] st _ i1 hk
      ⟨fun _ => .d .unk, fun _ => none, B'.toBase, by simp, fun i h => absurd h (hnd i), fun i h => absurd h (hz i), fun i _ h => absurd h (hz i), fun i _ h => absurd h (hnd i), fun t => ⟨fun j _ h => absurd h (hz j), fun _ => rfl⟩, fun t => ⟨fun j _ h => absurd h (hnd j), fun _ => B'.tr t⟩, fun i _ h => absurd h (hz i), fun _ _ _ h => (by cases h), fun _ _ h => (by cases h)⟩
    exact phase_ok HE HC HY R i1 i2 hQ ops.size n done' recs' st' rv' bl' Z μ _ a _ hk' I' (by unfold unl; exact Nat.le_trans (List.length_filter_le _ _) (by simp))
end
end Go.Ab
end
