/-
  Regions that draw their order: steps.
-/
import Derived.Test.YtbgaomkepfienaaGreatDoorZzAny
namespace Go.Ab
open Go
section
variable {E : Env} {P : Program}
variable {ops : Array Oper} {m : Nat} {Z0 Z : Nat → Prop} {μ0 μ : Mu} {w0 w : World} {df0 : D} {ts0 : List (Nat × V)} {rv : Nat → V} {bl : Nat → Option Nat} {done : Nat} {recs : List Rec} {st : S} {listed : Array Bool} {a : Act} {r : Option Nat}

theorem testBit_add (i j done : Nat) : (Nat.lor (2 ^ i) done).testBit j = true ↔ j = i ∨ done.testBit j = true := by
  rw [testBit_lor, testBit_pow]
  simp only [Bool.or_eq_true, decide_eq_true_eq]
  exact ⟨fun h => h.imp Eq.symm id, fun h => h.imp Eq.symm id⟩
theorem dst_eq {i : Nat} {o : Oper} (ho : ops[i]? = some o) (t : Nat) : dstOf ops i = some t ↔ o.dst = some t := by
  unfold dstOf; rw [ho]
theorem getT_put (st : S) (dst : Option Nat) (v : V) (t : Nat) : getT (st.put dst v).df (st.put dst v).ts t = if dst = some t then v else getT st.df st.ts t := by
  cases dst with
  | none => simp [S.put]
  | some d =>
    simp only [S.put, getT, Option.some.injEq]
    split
    · rename_i hh; rw [if_pos (Nat.eq_of_beq_eq_true hh)]
    · rename_i hh; rw [if_neg fun h0 => by rw [h0, Nat.beq_refl] at hh; cases hh]
/-- Slots, where one operation more has been carried out. -/
theorem SlotIs.add (R : RegOk ops) {i : Nat} {o : Oper} (ho : ops[i]? = some o) (hn : ¬ done.testBit i = true) {v : V} {t : Nat}
    (h : SlotIs ops df0 ts0 rv (fun j => done.testBit j = true) t (getT st.df st.ts t)) :
    SlotIs ops df0 ts0 (upd rv i v) (fun j => (Nat.lor (2 ^ i) done).testBit j = true) t (getT (st.put o.dst v).df (st.put o.dst v).ts t) := by
  rw [getT_put]
  constructor
  · intro j hj hd
    rcases (testBit_add _ _ _).1 hd with rfl | hd
    · rw [if_pos ((dst_eq ho t).1 hj), upd_self]
    · have hji : j ≠ i := fun hh => hn (hh ▸ hd)
      rw [if_neg fun hh => hji (R.once _ _ _ hj ((dst_eq ho t).2 hh)), upd_ne _ _ hji]
      exact h.1 j hj hd
  · intro hno
    rw [if_neg fun hh => hno i ((dst_eq ho t).2 hh) ((testBit_add _ _ _).2 (.inl rfl))]
    exact h.2 fun j hj hd => hno j hj ((testBit_add _ _ _).2 (.inr hd))
theorem Calm.keep {μ' : Mu} {h h' : List O} {recs' : List Rec} {i : Nat} {o : Oper} {ρ : Operand → V} {v : V} {b : Option Nat} (hc : Calm E m μ h recs i o ρ v b) (hr : ∀ x ∈ recs, x ∈ recs')
    (hread : cls E o.op = .read → readV E ρ h o.op = some v → ⟨i, addrOf ρ o.op, fun h => readV E ρ h o.op, v⟩ ∈ recs → readV E ρ h' o.op = some v)
    (hal : ∀ c, b = some c → cls E o.op = .alloc → ⟨i, [c], fun _ => none, v⟩ ∈ recs → (∀ e, μ c e = none) → getO h' c = getO h c ∧ ∀ e, μ' c e = none) : Calm E m μ' h' recs' i o ρ v b := by
  rcases hc with hc | ⟨h1, h2, h3⟩ | ⟨h1, ob, mk, c, h2, h3, h4, h5, h6, h7, h8⟩
  · exact .inl hc
  · exact .inr (.inl ⟨h1, hread h1 h2 h3, hr _ h3⟩)
  · obtain ⟨k1, k2⟩ := hal c h3 h1 h8 h7
    exact .inr (.inr ⟨h1, ob, mk, c, h2, h3, h4, h5, by rw [k1]; exact h6, k2, hr _ h8⟩)
/-- What was carried out ahead stays so, where i (which had not been carried out) is carried out. -/
theorem Del.keep {μ' : Mu} {h h' : List O} {recs' : List Rec} {nt i k : Nat} {o : Oper} {bl' : Nat → Option Nat} {rv' : Nat → V} (hd : Del E ops m df0 ts0 rv bl μ h recs nt k o) (hki : k ≠ i) (hb : ¬ Before ops i k) (hrv : ∀ j, j ≠ i → rv' j = rv j) (hbl : ∀ j, j ≠ i → bl' j = bl j) (hr : ∀ x ∈ recs, x ∈ recs')
    (hread : ∀ ρ : Operand → V, cls E o.op = .read → readV E ρ h o.op = some (rv k) → ⟨k, addrOf ρ o.op, fun h => readV E ρ h o.op, rv k⟩ ∈ recs → readV E ρ h' o.op = some (rv k))
    (hal : ∀ c, bl k = some c → cls E o.op = .alloc → ⟨k, [c], fun _ => none, rv k⟩ ∈ recs → (∀ e, μ c e = none) → getO h' c = getO h c ∧ ∀ e, μ' c e = none) : Del E ops m df0 ts0 rv' bl' μ' h' recs' nt k o := by
  obtain ⟨df, ts, wb, h1, h2, h3, h4, h5⟩ := hd
  refine ⟨df, ts, wb, fun t ht => ?_, h2, h3, fun hw => by rw [hrv k hki]; exact h4 hw, fun hw => ?_⟩
  · obtain ⟨s1, s2⟩ := h1 t ht
    refine ⟨fun j hj hp => ?_, s2⟩
    have hji : j ≠ i := fun hh => hb (hh ▸ hp.2)
    rw [hrv j hji]
    exact s1 j hj hp
  · rw [hrv k hki, hbl k hki]
    exact (h5 hw).keep hr (hread _) hal
/-- An operation that has come up is carried out ahead of its time. -/
theorem Inv.abs (I : Inv E ops m Z0 μ0 w0 df0 ts0 rv bl done recs st Z μ listed a w) (R : RegOk ops) {i : Nat} {o : Oper} (ho : ops[i]? = some o) (hn : ¬ done.testBit i = true) (hp : ∀ j, Pre ops j i → done.testBit j = true) (hf : st.fits o.dst = true)
    {wb : Bool} (hg : GuardIs ops o (getT st.df st.ts) wb) {v : V} {h' : List O} {recs' : List Rec} {b : Option Nat} (hw : wb = false → v = .d .undef) (hc : wb = true → Calm E m μ h' recs' i o (opd E st.df st.ts) v b)
    (hh : h' = st.h ∨ ∃ ob, h' = st.h ++ [ob]) (hr : ∀ x ∈ recs, x ∈ recs') (hb : ∀ c, b = some c → c = st.h.length ∧ st.h.length < h'.length) :
    Inv E ops m Z0 μ0 w0 df0 ts0 (upd rv i v) (upd bl i b) (Nat.lor (2 ^ i) done) recs' ({ st with h := h' }.put o.dst v) Z μ listed a w := by
  have hin : i < ops.size := (Array.getElem?_eq_some_iff.1 ho).1
  have hDn : ∀ j, Dn listed j → j ≠ i := fun j hj hji => hn (hji ▸ I.sub j hj)
  have hlen : st.h.length ≤ h'.length := by rcases hh with rfl | ⟨ob, rfl⟩ <;> simp
  have hget : ∀ c, c < st.h.length → getO h' c = getO st.h c := by
    rcases hh with rfl | ⟨ob, rfl⟩
    · exact fun _ _ => rfl
    · exact fun c hc => by rw [getO_append, if_pos hc]
  have hS : SR E Z μ h' w := by
    rcases hh with rfl | ⟨ob, rfl⟩
    · exact I.base.sr
    · exact I.base.sr.push ob
  have hcl : ∀ k, done.testBit k = true → ¬ Before ops i k := fun k hk hb => hn (closed_before (p := fun j => done.testBit j = true) (fun i j h h2 => I.clo i j h h2) hb hk)
  refine ⟨?_, I.size, fun j hj => (testBit_add _ _ _).2 (.inr (I.sub j hj)), fun j hj => ?_, fun j k hj hpr => ?_, I.cloc, fun t => ?_, fun t => ?_, fun k o' hk hkn ho' => ?_, fun j k c hj hk => ?_, fun j c hj => ?_⟩
  · have B : Base E m Z0 μ0 w0 Z μ { st with h := h' } a w := ⟨I.base.fr, Nat.le_trans I.base.hm hlen, hS, I.base.nt, I.base.mks⟩
    exact ⟨B.fr, by rw [put_h]; exact B.hm, by rw [put_h]; exact B.sr, by rw [put_nt]; exact B.nt, by rw [put_mks]; exact B.mks⟩
  · rcases (testBit_add _ _ _).1 hj with rfl | hj
    · exact hin
    · exact I.lt j hj
  · refine (testBit_add _ _ _).2 (.inr ?_)
    rcases (testBit_add _ _ _).1 hj with rfl | hj
    · exact hp k hpr
    · exact I.clo j k hj hpr
  · exact SlotIs.add (st := { st with h := h' }) R ho hn (I.slot t)
  · refine ⟨fun j hj hd => ?_, (I.conc t).2⟩
    rw [upd_ne _ _ (hDn j hd)]; exact (I.conc t).1 j hj hd
  · rw [put_h, put_nt]
    rcases (testBit_add _ _ _).1 hk with rfl | hk
    · rw [ho] at ho'; cases ho'
      refine ⟨st.df, st.ts, wb, fun t ht => ?_, hg, fun t ht => by rw [ht] at hf; simpa [S.fits, Nat.blt_eq] using hf, fun h0 => by rw [upd_self]; exact hw h0, fun h0 => by rw [upd_self, upd_self]; exact hc h0⟩
      obtain ⟨s1, s2⟩ := I.slot t
      refine ⟨fun j hj hpj => ?_, fun hno => s2 fun j hj hd => ?_⟩
      · rw [upd_ne _ _ hpj.1]
        exact s1 j hj (pre_before (p := fun j => done.testBit j = true) (fun i j h h2 => I.clo i j h h2) hp hpj.2)
      · have hji : j ≠ k := fun h0 => hn (h0 ▸ hd)
        rcases R.reads k o t j ho ht hj with h0 | h0 | h0
        · exact hji h0
        · exact hno j hj ⟨hji, h0⟩
        · exact hcl j hd h0
    · have hki : k ≠ i := fun h0 => hn (h0 ▸ hk)
      refine (I.del k o' hk hkn ho').keep hki (hcl k hk) (fun j hj => upd_ne _ _ hj) (fun j hj => upd_ne _ _ hj) hr (fun ρ _ h2 _ => ?_) fun c hc0 _ _ h3 => ⟨hget c (I.blt k c hc0), h3⟩
      rcases hh with rfl | ⟨ob, rfl⟩
      · exact h2
      · exact readV_grow h2
  · have key : ∀ j c, upd bl i b j = some c → j = i ∧ c = st.h.length ∨ j ≠ i ∧ bl j = some c ∧ c < st.h.length := fun j c hj => by
      by_cases hji : j = i
      · subst hji; rw [upd_self] at hj; exact .inl ⟨rfl, (hb c hj).1⟩
      · rw [upd_ne _ _ hji] at hj; exact .inr ⟨hji, hj, I.blt j c hj⟩
    rcases key j c hj with ⟨h1, h2⟩ | ⟨h1, h2, h3⟩ <;> rcases key k c hk with ⟨g1, g2⟩ | ⟨g1, g2, g3⟩
    · rw [h1, g1]
    · omega
    · omega
    · exact I.inj j k c h2 g2
  · rw [put_h]
    show c < h'.length
    by_cases hji : j = i
    · subst hji; rw [upd_self] at hj
      obtain ⟨h1, h2⟩ := hb c hj
      omega
    · rw [upd_ne _ _ hji] at hj
      have := I.blt j c hj; omega
end
end Go.Ab
