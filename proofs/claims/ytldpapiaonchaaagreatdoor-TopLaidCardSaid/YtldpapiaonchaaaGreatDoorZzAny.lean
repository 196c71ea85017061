/-
  Regions that draw their order: what holds on the way.
-/
import Derived.Test.YtldpapiaonchaaaGreatDoorZzCongr
section
namespace Go.Ab
open Go
section
variable {E : Env} {P : Program}

def upd {α : Type} (f : Nat → α) (i : Nat) (v : α) : Nat → α := fun j => if j = i then v else f j
theorem upd_self {α : Type} (f : Nat → α) (i : Nat) (v : α) : upd f i v i = v := by simp [upd]
theorem upd_ne {α : Type} (f : Nat → α) {i j : Nat} (v : α) (h : j ≠ i) : upd f i v j = f j := by simp [upd, h]

/-- What a slot holds where these operations have been carried out. -/
def SlotIs (ops : Array Oper) (df0 : D) (ts0 : List (Nat × V)) (rv : Nat → V) (p : Nat → Prop) (t : Nat) (v : V) : Prop :=
  (∀ j, dstOf ops j = some t → p j → v = rv j) ∧ ((∀ j, dstOf ops j = some t → ¬ p j) → v = getT df0 ts0 t)
def GuardIs (ops : Array Oper) (o : Oper) (g : Nat → V) (wb : Bool) : Prop :=
  (o.guard = none ∧ wb = true) ∨ ∃ j want t, o.guard = some (j, want) ∧ dstOf ops j = some t ∧ ((∃ b, g t = .d (.bool b) ∧ wb = eqB b want) ∨ (g t = .d .undef ∧ wb = false))
/-- What an operation that was carried out ahead of its time came to, and still would come to. -/
def Calm (E : Env) (m : Nat) (μ : Mu) (h : List O) (recs : List Rec) (i : Nat) (o : Oper) (ρ : Operand → V) (v : V) (bl : Option Nat) : Prop :=
  (cls E o.op = .quiet ∧ quietV E ρ o.op = some v) ∨
  (cls E o.op = .read ∧ readV E ρ h o.op = some v ∧ ⟨i, addrOf ρ o.op, fun h => readV E ρ h o.op, v⟩ ∈ recs) ∨
  (cls E o.op = .alloc ∧ ∃ ob mk b, allocV E ρ o.op = some (ob, mk) ∧ bl = some b ∧ v = mk b ∧ m ≤ b ∧ getO h b = ob ∧ (∀ e, μ b e = none) ∧ ⟨i, [b], fun _ => none, v⟩ ∈ recs)
def Del (E : Env) (ops : Array Oper) (m : Nat) (df0 : D) (ts0 : List (Nat × V)) (rv : Nat → V) (bl : Nat → Option Nat) (μ : Mu) (h : List O) (recs : List Rec) (nt i : Nat) (o : Oper) : Prop :=
  ∃ df ts wb, (∀ t ∈ readsOf ops o, SlotIs ops df0 ts0 rv (fun j => j ≠ i ∧ Before ops j i) t (getT df ts t)) ∧ GuardIs ops o (getT df ts) wb ∧ (∀ t, o.dst = some t → t < nt) ∧
    (wb = false → rv i = .d .undef) ∧ (wb = true → Calm E m μ h recs i o (opd E df ts) (rv i) (bl i))
def Dn (listed : Array Bool) (i : Nat) : Prop := listed[i]? = some true
structure Inv (E : Env) (ops : Array Oper) (m : Nat) (Z0 : Nat → Prop) (μ0 : Mu) (w0 : World) (df0 : D) (ts0 : List (Nat × V)) (rv : Nat → V) (bl : Nat → Option Nat) (done : Nat) (recs : List Rec) (st : S) (Z : Nat → Prop) (μ : Mu) (listed : Array Bool) (a : Act) (w : World) : Prop where
  base : Base E m Z0 μ0 w0 Z μ st a w
  size : listed.size = ops.size
  sub : ∀ i, Dn listed i → done.testBit i = true
  lt : ∀ i, done.testBit i = true → i < ops.size
  clo : ∀ i j, done.testBit i = true → Pre ops j i → done.testBit j = true
  cloc : ∀ i j, Dn listed i → Pre ops j i → Dn listed j
  slot : ∀ t, SlotIs ops df0 ts0 rv (fun j => done.testBit j = true) t (getT st.df st.ts t)
  conc : ∀ t, (∀ j, dstOf ops j = some t → Dn listed j → VR Z μ w (rv j) (a.tmps.getD t undef)) ∧ ((∀ j, dstOf ops j = some t → ¬ Dn listed j) → VR Z μ w (getT df0 ts0 t) (a.tmps.getD t undef))
  del : ∀ i o, done.testBit i = true → ¬ Dn listed i → ops[i]? = some o → Del E ops m df0 ts0 rv bl μ st.h recs st.nt i o
  inj : ∀ i j b, bl i = some b → bl j = some b → i = j
  blt : ∀ i b, bl i = some b → b < st.h.length

variable {ops : Array Oper} {m : Nat} {Z0 Z : Nat → Prop} {μ0 μ : Mu} {w0 w : World} {df0 : D} {ts0 : List (Nat × V)} {rv : Nat → V} {bl : Nat → Option Nat} {done : Nat} {recs : List Rec} {st : S} {listed : Array Bool} {a : Act} {r : Option Nat}

theorem closed_before {p : Nat → Prop} (hc : ∀ i j, p i → Pre ops j i → p j) {i j : Nat} (hb : Before ops j i) : p i → p j := by
  induction hb with
  | one h => exact fun hi => hc _ _ hi h
  | more h _ ih => exact fun hi => ih (hc _ _ hi h)
theorem pre_before {p : Nat → Prop} (hc : ∀ i j, p i → Pre ops j i → p j) {i j : Nat} (hi : ∀ j, Pre ops j i → p j) (hb : Before ops j i) : p j := by
  cases hb with
  | one h => exact hi _ h
  | more h h2 => exact closed_before hc h2 (hi _ h)
theorem guard_is {o : Oper} {K : Bool → Prop} (hk : guarded MP ops o st K) : ∃ wb, GuardIs ops o (getT st.df st.ts) wb ∧ K wb := by
  unfold guarded at hk
  split at hk
  · rename_i hg; exact ⟨true, .inl ⟨hg, rfl⟩, hk⟩
  · rename_i j want hg
    split at hk
    · rename_i t ht
      split at hk
      · rename_i b hb; exact ⟨_, .inr ⟨j, want, t, hg, ht, .inl ⟨b, hb, rfl⟩⟩, hk⟩
      · rename_i hb; exact ⟨_, .inr ⟨j, want, t, hg, ht, .inr ⟨hb, rfl⟩⟩, hk⟩
      · exact hk.elim
    · exact hk.elim
theorem guard_reads {o : Oper} {g : Nat → V} {wb : Bool} (hg : GuardIs ops o g wb) (hr : ∀ t ∈ readsOf ops o, VR Z μ w (g t) (a.tmps.getD t undef)) : Region.wanted o (yielded ops a.tmps) = wb := by
  rcases hg with ⟨h1, rfl⟩ | ⟨j, want, t, h1, h2, h3⟩
  · simp [Region.wanted, h1]
  · have ht := hr t (by simp [readsOf, h1, h2])
    obtain ⟨k1, k2⟩ := guard_known h1 h2 ht
    rcases h3 with ⟨b, hb, rfl⟩ | ⟨hb, rfl⟩
    · exact k1 b hb
    · exact k2 hb
/-- An operation that has come up sees what it saw ahead of its time. -/
theorem reads_rel (R : RegOk ops) (hcl : ∀ i j, Dn listed i → Pre ops j i → Dn listed j)
    (conc : ∀ t, (∀ j, dstOf ops j = some t → Dn listed j → VR Z μ w (rv j) (a.tmps.getD t undef)) ∧ ((∀ j, dstOf ops j = some t → ¬ Dn listed j) → VR Z μ w (getT df0 ts0 t) (a.tmps.getD t undef)))
    {i : Nat} {o : Oper} (ho : ops[i]? = some o) (hn : ¬ Dn listed i) (hp : ∀ j, Pre ops j i → Dn listed j) {t : Nat} {v : V} (ht : t ∈ readsOf ops o)
    (hv : SlotIs ops df0 ts0 rv (fun j => j ≠ i ∧ Before ops j i) t v) : VR Z μ w v (a.tmps.getD t undef) := by
  by_cases hex : ∃ j, dstOf ops j = some t ∧ j ≠ i ∧ Before ops j i
  · obtain ⟨j, h1, h2⟩ := hex
    rw [hv.1 j h1 h2]
    exact (conc t).1 j h1 (pre_before hcl hp h2.2)
  · rw [hv.2 fun j h1 h2 => hex ⟨j, h1, h2⟩]
    refine (conc t).2 fun j h1 h2 => ?_
    rcases R.reads i o t j ho ht h1 with rfl | hb | hb
    · exact hn h2
    · by_cases hji : j = i
      · subst hji; exact hn h2
      · exact hex ⟨j, h1, hji, hb⟩
    · exact hn (closed_before hcl hb h2)
theorem slotsL_mem {t : Nat} : ∀ {l : List Operand}, Operand.tmp t ∈ l → t ∈ slotsL l
  | [], h => by simp at h
  | x :: l, h => by
    rcases List.mem_cons.1 h with rfl | h
    · simp [slotsL]
    · have ih := slotsL_mem h
      cases x <;> simp [slotsL, ih]
theorem ops_reads {o : Oper} {t : Nat} (h : Operand.tmp t ∈ opsOf o.op) : t ∈ readsOf ops o := by
  have := slotsL_mem h
  unfold readsOf
  split
  · split
    · exact List.mem_cons_of_mem _ this
    · exact this
  · exact this
/-- The operands that are looked at; nothing of the others. -/
noncomputable def mask (o : Op) (ρ : Operand → V) : Operand → V := fun x => by
  classical exact if x ∈ opsOf o then ρ x else .d .unk
theorem mask_eq {o : Op} {ρ : Operand → V} : ∀ x ∈ opsOf o, ρ x = mask o ρ x := fun x hx => by simp [mask, hx]
theorem mask_rel (hg : ∀ g cs, E.glob g = some cs → Z g ∧ VRdAt Z w g 0 cs ∧ SizedAt w g cs.length) {o : Oper} {df : D} {ts : List (Nat × V)} (hr : ∀ t ∈ readsOf ops o, VR Z μ w (getT df ts t) (a.tmps.getD t undef)) (x : Operand) : VR Z μ w (mask o.op (opd E df ts) x) (a.eval x) := by
  unfold mask
  split
  · rename_i hx
    have h0 : VR Z μ w (opd E .unk [] x) (a.eval x) := opd_ok (df := .unk) (ts := []) (a := a) hg (fun t => trivial) x
    cases x with
    | tmp t => exact hr t (ops_reads hx)
    | const v => exact h0
    | global g => exact h0
    | func f => exact h0
  · trivial
theorem readV_keep {ρ : Operand → V} {h h' : List O} {o : Op} {v : V} (hge : ∀ b ∈ addrOf ρ o, getO h b = .gone ∨ getO h' b = getO h b) (hv : readV E ρ h o = some v) : readV E ρ h' o = some v := by
  cases o
  case load t x =>
    simp only [readV, loadV] at hv ⊢
    cases hx : ρ x
    case ptr b e off lim =>
      rw [hx] at hv
      rcases hge b (by simp [addrOf, hx, namesV]) with hb | hb
      · simp only [hb] at hv; split at hv <;> cases hv
      · simp only [hb]; exact hv
    case d x => rw [hx] at hv; cases x <;> exact hv
    all_goals rw [hx] at hv; exact hv
  case lookup t x y ok =>
    simp only [readV, lookupV] at hv ⊢
    cases hx : ρ x
    case map b =>
      rw [hx] at hv
      rcases hge b (by simp [addrOf, hx, namesV]) with hb | hb
      · simp only [hb] at hv; repeat' split at hv
        all_goals cases hv
      · simp only [hb]; exact hv
    case d x => rw [hx] at hv; cases x <;> exact hv
    all_goals rw [hx] at hv; exact hv
  case call c =>
    simp only [readV] at hv ⊢
    split at hv
    · rename_i b l hcal hl
      rcases hge b (by simp only [addrOf, hl]; simp [namesVs, namesV]) with hb | hb
      · rw [hb] at hv; cases hv
      · simp only [hb]; exact hv
    · exact hv
    · cases hv
  all_goals cases hv
theorem readV_grow {ρ : Operand → V} {h k : List O} {o : Op} {v : V} (hv : readV E ρ h o = some v) : readV E ρ (h ++ k) o = some v :=
  readV_keep (fun b _ => by
    rw [getO_append]
    split
    · exact .inr rfl
    · rename_i hlt; exact .inl (getO_length (by omega))) hv
end
end Go.Ab
end
section
/-
  Regions that draw their order: steps.
-/
namespace Go.Ab
open Go
section
variable {E : Env} {P : Program}
variable {ops : Array Oper} {m : Nat} {Z0 Z : Nat → Prop} {μ0 μ : Mu} {w0 w : World} {df0 : D} {ts0 : List (Nat × V)} {rv : Nat → V} {bl : Nat → Option Nat} {done : Nat} {recs : List Rec} {st : S} {listed : Array Bool} {a : Act} {r : Option Nat}

theorem testBit_add (i j done : Nat) : (Nat.lor (2 ^ i) done).testBit j = true ↔ j = i ∨ done.testBit j = true := by
  rw [testBit_lor, testBit_pow]
  simp only [Bool.or_eq_true, decide_eq_true_eq]
  exact ⟨fun h => h.imp Eq.symm id, fun h => h.imp Eq.symm id⟩
theorem dst_eq {i : Nat} {o : Oper} (ho : ops[i]? = some o) (t : Nat) : dstOf ops i = some t ↔ o.dst = some t := by
  unfold dstOf; rw [ho]
theorem getT_put (st : S) (dst : Option Nat) (v : V) (t : Nat) : getT (st.put dst v).df (st.put dst v).ts t = if dst = some t then v else getT st.df st.ts t := by
  cases dst with
  | none => simp [S.put]
  | some d =>
    simp only [S.put, getT, Option.some.injEq]
    split
    · rename_i hh; rw [if_pos (Nat.eq_of_beq_eq_true hh)]
    · rename_i hh; rw [if_neg fun h0 => by rw [h0, Nat.beq_refl] at hh; cases hh]
/-- Slots, where one operation more has been carried out. -/
theorem SlotIs.add (R : RegOk ops) {i : Nat} {o : Oper} (ho : ops[i]? = some o) (hn : ¬ done.testBit i = true) {v : V} {t : Nat}
    (h : SlotIs ops df0 ts0 rv (fun j => done.testBit j = true) t (getT st.df st.ts t)) :
    SlotIs ops df0 ts0 (upd rv i v) (fun j => (Nat.lor (2 ^ i) done).testBit j = true) t (getT (st.put o.dst v).df (st.put o.dst v).ts t) := by
  rw [getT_put]
  constructor
  · intro j hj hd
    rcases (testBit_add _ _ _).1 hd with rfl | hd
    · rw [if_pos ((dst_eq ho t).1 hj), upd_self]
    · have hji : j ≠ i := fun hh => hn (hh ▸ hd)
      rw [if_neg fun hh => hji (R.once _ _ _ hj ((dst_eq ho t).2 hh)), upd_ne _ _ hji]
      exact h.1 j hj hd
  · intro hno
    rw [if_neg fun hh => hno i ((dst_eq ho t).2 hh) ((testBit_add _ _ _).2 (.inl rfl))]
    exact h.2 fun j hj hd => hno j hj ((testBit_add _ _ _).2 (.inr hd))
theorem Calm.keep {μ' : Mu} {h h' : List O} {recs' : List Rec} {i : Nat} {o : Oper} {ρ : Operand → V} {v : V} {b : Option Nat} (hc : Calm E m μ h recs i o ρ v b) (hr : ∀ x ∈ recs, x ∈ recs')
    (hread : cls E o.op = .read → readV E ρ h o.op = some v → ⟨i, addrOf ρ o.op, fun h => readV E ρ h o.op, v⟩ ∈ recs → readV E ρ h' o.op = some v)
    (hal : ∀ c, b = some c → cls E o.op = .alloc → ⟨i, [c], fun _ => none, v⟩ ∈ recs → (∀ e, μ c e = none) → getO h' c = getO h c ∧ ∀ e, μ' c e = none) : Calm E m μ' h' recs' i o ρ v b := by
  rcases hc with hc | ⟨h1, h2, h3⟩ | ⟨h1, ob, mk, c, h2, h3, h4, h5, h6, h7, h8⟩
  · exact .inl hc
  · exact .inr (.inl ⟨h1, hread h1 h2 h3, hr _ h3⟩)
  · obtain ⟨k1, k2⟩ := hal c h3 h1 h8 h7
    exact .inr (.inr ⟨h1, ob, mk, c, h2, h3, h4, h5, by rw [k1]; exact h6, k2, hr _ h8⟩)
/-- What was carried out ahead stays so, where i (which had not been carried out) is carried out. -/
theorem Del.keep {μ' : Mu} {h h' : List O} {recs' : List Rec} {nt i k : Nat} {o : Oper} {bl' : Nat → Option Nat} {rv' : Nat → V} (hd : Del E ops m df0 ts0 rv bl μ h recs nt k o) (hki : k ≠ i) (hb : ¬ Before ops i k) (hrv : ∀ j, j ≠ i → rv' j = rv j) (hbl : ∀ j, j ≠ i → bl' j = bl j) (hr : ∀ x ∈ recs, x ∈ recs')
    (hread : ∀ ρ : Operand → V, cls E o.op = .read → readV E ρ h o.op = some (rv k) → ⟨k, addrOf ρ o.op, fun h => readV E ρ h o.op, rv k⟩ ∈ recs → readV E ρ h' o.op = some (rv k))
    (hal : ∀ c, bl k = some c → cls E o.op = .alloc → ⟨k, [c], fun _ => none, rv k⟩ ∈ recs → (∀ e, μ c e = none) → getO h' c = getO h c ∧ ∀ e, μ' c e = none) : Del E ops m df0 ts0 rv' bl' μ' h' recs' nt k o := by
  obtain ⟨df, ts, wb, h1, h2, h3, h4, h5⟩ := hd
  refine ⟨df, ts, wb, fun t ht => ?_, h2, h3, fun hw => by rw [hrv k hki]; exact h4 hw, fun hw => ?_⟩
  · obtain ⟨s1, s2⟩ := h1 t ht
    refine ⟨fun j hj hp => ?_, s2⟩
    have hji : j ≠ i := fun hh => hb (hh ▸ hp.2)
    rw [hrv j hji]
    exact s1 j hj hp
  · rw [hrv k hki, hbl k hki]
    exact (h5 hw).keep hr (hread _) hal
/-- An operation that has come up is carried out ahead of its time. -/
theorem Inv.abs (I : Inv E ops m Z0 μ0 w0 df0 ts0 rv bl done recs st Z μ listed a w) (R : RegOk ops) {i : Nat} {o : Oper} (ho : ops[i]? = some o) (hn : ¬ done.testBit i = true) (hp : ∀ j, Pre ops j i → done.testBit j = true) (hf : st.fits o.dst = true)
    {wb : Bool} (hg : GuardIs ops o (getT st.df st.ts) wb) {v : V} {h' : List O} {recs' : List Rec} {b : Option Nat} (hw : wb = false → v = .d .undef) (hc : wb = true → Calm E m μ h' recs' i o (opd E st.df st.ts) v b)
    (hh : h' = st.h ∨ ∃ ob, h' = st.h ++ [ob]) (hr : ∀ x ∈ recs, x ∈ recs') (hb : ∀ c, b = some c → c = st.h.length ∧ st.h.length < h'.length) :
    Inv E ops m Z0 μ0 w0 df0 ts0 (upd rv i v) (upd bl i b) (Nat.lor (2 ^ i) done) recs' ({ st with h := h' }.put o.dst v) Z μ listed a w := by
  have hin : i < ops.size := (Array.getElem?_eq_some_iff.1 ho).1
  have hDn : ∀ j, Dn listed j → j ≠ i := fun j hj hji => hn (hji ▸ I.sub j hj)
  have hlen : st.h.length ≤ h'.length := by rcases hh with rfl | ⟨ob, rfl⟩ <;> simp
  have hget : ∀ c, c < st.h.length → getO h' c = getO st.h c := by
    rcases hh with rfl | ⟨ob, rfl⟩
    · exact fun _ _ => rfl
    · exact fun c hc => by rw [getO_append, if_pos hc]
  have hS : SR E Z μ h' w := by
    rcases hh with rfl | ⟨ob, rfl⟩
    · exact I.base.sr
    · exact I.base.sr.push ob
  have hcl : ∀ k, done.testBit k = true → ¬ Before ops i k := fun k hk hb => hn (closed_before (p := fun j => done.testBit j = true) (fun i j h h2 => I.clo i j h h2) hb hk)
  refine ⟨?_, I.size, fun j hj => (testBit_add _ _ _).2 (.inr (I.sub j hj)), fun j hj => ?_, fun j k hj hpr => ?_, I.cloc, fun t => ?_, fun t => ?_, fun k o' hk hkn ho' => ?_, fun j k c hj hk => ?_, fun j c hj => ?_⟩
  · have B : Base E m Z0 μ0 w0 Z μ { st with h := h' } a w := ⟨I.base.fr, Nat.le_trans I.base.hm hlen, hS, I.base.nt, I.base.mks⟩
    exact ⟨B.fr, by rw [put_h]; exact B.hm, by rw [put_h]; exact B.sr, by rw [put_nt]; exact B.nt, by rw [put_mks]; exact B.mks⟩
  · rcases (testBit_add _ _ _).1 hj with rfl | hj
    · exact hin
    · exact I.lt j hj
  · refine (testBit_add _ _ _).2 (.inr ?_)
    rcases (testBit_add _ _ _).1 hj with rfl | hj
    · exact hp k hpr
    · exact I.clo j k hj hpr
  · exact SlotIs.add (st := { st with h := h' }) R ho hn (I.slot t)
  · refine ⟨fun j hj hd => ?_, (I.conc t).2⟩
    rw [upd_ne _ _ (hDn j hd)]; exact (I.conc t).1 j hj hd
  · rw [put_h, put_nt]
    rcases (testBit_add _ _ _).1 hk with rfl | hk
    · rw [ho] at ho'; cases ho'
      refine ⟨st.df, st.ts, wb, fun t ht => ?_, hg, fun t ht => by rw [ht] at hf; simpa [S.fits, Nat.blt_eq] using hf, fun h0 => by rw [upd_self]; exact hw h0, fun h0 => by rw [upd_self, upd_self]; exact hc h0⟩
      obtain ⟨s1, s2⟩ := I.slot t
      refine ⟨fun j hj hpj => ?_, fun hno => s2 fun j hj hd => ?_⟩
      · rw [upd_ne _ _ hpj.1]
        exact s1 j hj (pre_before (p := fun j => done.testBit j = true) (fun i j h h2 => I.clo i j h h2) hp hpj.2)
      · have hji : j ≠ k := fun h0 => hn (h0 ▸ hd)
        rcases R.reads k o t j ho ht hj with h0 | h0 | h0
        · exact hji h0
        · exact hno j hj ⟨hji, h0⟩
        · exact hcl j hd h0
    · have hki : k ≠ i := fun h0 => hn (h0 ▸ hk)
      refine (I.del k o' hk hkn ho').keep hki (hcl k hk) (fun j hj => upd_ne _ _ hj) (fun j hj => upd_ne _ _ hj) hr (fun ρ _ h2 _ => ?_) fun c hc0 _ _ h3 => ⟨hget c (I.blt k c hc0), h3⟩
      rcases hh with rfl | ⟨ob, rfl⟩
      · exact h2
      · exact readV_grow h2
  · have key : ∀ j c, upd bl i b j = some c → j = i ∧ c = st.h.length ∨ j ≠ i ∧ bl j = some c ∧ c < st.h.length := fun j c hj => by
      by_cases hji : j = i
      · subst hji; rw [upd_self] at hj; exact .inl ⟨rfl, (hb c hj).1⟩
      · rw [upd_ne _ _ hji] at hj; exact .inr ⟨hji, hj, I.blt j c hj⟩
    rcases key j c hj with ⟨h1, h2⟩ | ⟨h1, h2, h3⟩ <;> rcases key k c hk with ⟨g1, g2⟩ | ⟨g1, g2, g3⟩
    · rw [h1, g1]
    · omega
    · omega
    · exact I.inj j k c h2 g2
  · rw [put_h]
    show c < h'.length
    by_cases hji : j = i
    · subst hji; rw [upd_self] at hj
      obtain ⟨h1, h2⟩ := hb c hj
      omega
    · rw [upd_ne _ _ hji] at hj
      have := I.blt j c hj; omega
end
end Go.Ab
end
