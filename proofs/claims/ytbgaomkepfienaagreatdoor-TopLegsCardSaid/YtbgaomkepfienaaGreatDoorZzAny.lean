/-
  Regions that draw their order: what holds on the way.
-/
import Derived.Test.YtbgaomkepfienaaGreatDoorZzItems
namespace Go.Ab
open Go
section
variable {E : Env} {P : Program}

def upd {α : Type} (f : Nat → α) (i : Nat) (v : α) : Nat → α := fun j => if j = i then v else f j
theorem upd_self {α : Type} (f : Nat → α) (i : Nat) (v : α) : upd f i v i = v := by simp [upd]
theorem upd_ne {α : Type} (f : Nat → α) {i j : Nat} (v : α) (h : j ≠ i) : upd f i v j = f j := by simp [upd, h]

/-- What a slot holds where these operations have been carried out. -/
def SlotIs (ops : Array Oper) (df0 : D) (ts0 : List (Nat × V)) (rv : Nat → V) (p : Nat → Prop) (t : Nat) (v : V) : Prop :=
  (∀ j, dstOf ops j = some t → p j → v = rv j) ∧ ((∀ j, dstOf ops j = some t → ¬ p j) → v = getT df0 ts0 t)
def GuardIs (ops : Array Oper) (o : Oper) (g : Nat → V) (wb : Bool) : Prop :=
  (o.guard = none ∧ wb = true) ∨ ∃ j want t, o.guard = some (j, want) ∧ dstOf ops j = some t ∧ ((∃ b, g t = .d (.bool b) ∧ wb = eqB b want) ∨ (g t = .d .undef ∧ wb = false))
/-- What an operation that was carried out ahead of its time came to, and still would come to. -/
def Calm (E : Env) (m : Nat) (μ : Mu) (h : List O) (recs : List Rec) (i : Nat) (o : Oper) (ρ : Operand → V) (v : V) (bl : Option Nat) : Prop :=
  (cls E o.op = .quiet ∧ quietV E ρ o.op = some v) ∨
  (cls E o.op = .read ∧ readV E ρ h o.op = some v ∧ ⟨i, addrOf ρ o.op, fun h => readV E ρ h o.op, v⟩ ∈ recs) ∨
  (cls E o.op = .alloc ∧ ∃ ob mk b, allocV E ρ o.op = some (ob, mk) ∧ bl = some b ∧ v = mk b ∧ m ≤ b ∧ getO h b = ob ∧ (∀ e, μ b e = none) ∧ ⟨i, [b], fun _ => none, v⟩ ∈ recs)
def Del (E : Env) (ops : Array Oper) (m : Nat) (df0 : D) (ts0 : List (Nat × V)) (rv : Nat → V) (bl : Nat → Option Nat) (μ : Mu) (h : List O) (recs : List Rec) (nt i : Nat) (o : Oper) : Prop :=
  ∃ df ts wb, (∀ t ∈ readsOf ops o, SlotIs ops df0 ts0 rv (fun j => j ≠ i ∧ Before ops j i) t (getT df ts t)) ∧ GuardIs ops o (getT df ts) wb ∧ (∀ t, o.dst = some t → t < nt) ∧
    (wb = false → rv i = .d .undef) ∧ (wb = true → Calm E m μ h recs i o (opd E df ts) (rv i) (bl i))
def Dn (listed : Array Bool) (i : Nat) : Prop := listed[i]? = some true
structure Inv (E : Env) (ops : Array Oper) (m : Nat) (Z0 : Nat → Prop) (μ0 : Mu) (w0 : World) (df0 : D) (ts0 : List (Nat × V)) (rv : Nat → V) (bl : Nat → Option Nat) (done : Nat) (recs : List Rec) (st : S) (Z : Nat → Prop) (μ : Mu) (listed : Array Bool) (a : Act) (w : World) : Prop where
  base : Base E m Z0 μ0 w0 Z μ st a w
  size : listed.size = ops.size
  sub : ∀ i, Dn listed i → done.testBit i = true
  lt : ∀ i, done.testBit i = true → i < ops.size
  clo : ∀ i j, done.testBit i = true → Pre ops j i → done.testBit j = true
  cloc : ∀ i j, Dn listed i → Pre ops j i → Dn listed j
  slot : ∀ t, SlotIs ops df0 ts0 rv (fun j => done.testBit j = true) t (getT st.df st.ts t)
  conc : ∀ t, (∀ j, dstOf ops j = some t → Dn listed j → VR Z μ w (rv j) (a.tmps.getD t undef)) ∧ ((∀ j, dstOf ops j = some t → ¬ Dn listed j) → VR Z μ w (getT df0 ts0 t) (a.tmps.getD t undef))
  del : ∀ i o, done.testBit i = true → ¬ Dn listed i → ops[i]? = some o → Del E ops m df0 ts0 rv bl μ st.h recs st.nt i o
  inj : ∀ i j b, bl i = some b → bl j = some b → i = j
  blt : ∀ i b, bl i = some b → b < st.h.length

variable {ops : Array Oper} {m : Nat} {Z0 Z : Nat → Prop} {μ0 μ : Mu} {w0 w : World} {df0 : D} {ts0 : List (Nat × V)} {rv : Nat → V} {bl : Nat → Option Nat} {done : Nat} {recs : List Rec} {st : S} {listed : Array Bool} {a : Act} {r : Option Nat}

theorem closed_before {p : Nat → Prop} (hc : ∀ i j, p i → Pre ops j i → p j) {i j : Nat} (hb : Before ops j i) : p i → p j := by
  induction hb with
  | one h => exact fun hi => hc _ _ hi h
  | more h _ ih => exact fun hi => ih (hc _ _ hi h)
theorem pre_before {p : Nat → Prop} (hc : ∀ i j, p i → Pre ops j i → p j) {i j : Nat} (hi : ∀ j, Pre ops j i → p j) (hb : Before ops j i) : p j := by
  cases hb with
  | one h => exact hi _ h
  | more h h2 => exact closed_before hc h2 (hi _ h)
theorem guard_is {o : Oper} {K : Bool → Prop} (hk : guarded MP ops o st K) : ∃ wb, GuardIs ops o (getT st.df st.ts) wb ∧ K wb := by
  unfold guarded at hk
  split at hk
  · rename_i hg; exact ⟨true, .inl ⟨hg, rfl⟩, hk⟩
  · rename_i j want hg
    split at hk
    · rename_i t ht
      split at hk
      · rename_i b hb; exact ⟨_, .inr ⟨j, want, t, hg, ht, .inl ⟨b, hb, rfl⟩⟩, hk⟩
      · rename_i hb; exact ⟨_, .inr ⟨j, want, t, hg, ht, .inr ⟨hb, rfl⟩⟩, hk⟩
      · exact hk.elim
    · exact hk.elim
theorem guard_reads {o : Oper} {g : Nat → V} {wb : Bool} (hg : GuardIs ops o g wb) (hr : ∀ t ∈ readsOf ops o, VR Z μ w (g t) (a.tmps.getD t undef)) : Region.wanted o (yielded ops a.tmps) = wb := by
  rcases hg with ⟨h1, rfl⟩ | ⟨j, want, t, h1, h2, h3⟩
  · simp [Region.wanted, h1]
  · have ht := hr t (by simp [readsOf, h1, h2])
    obtain ⟨k1, k2⟩ := guard_known h1 h2 ht
    rcases h3 with ⟨b, hb, rfl⟩ | ⟨hb, rfl⟩
    · exact k1 b hb
    · exact k2 hb
/-- An operation that has come up sees what it saw ahead of its time. -/
theorem reads_rel (R : RegOk ops) (hcl : ∀ i j, Dn listed i → Pre ops j i → Dn listed j)
    (conc : ∀ t, (∀ j, dstOf ops j = some t → Dn listed j → VR Z μ w (rv j) (a.tmps.getD t undef)) ∧ ((∀ j, dstOf ops j = some t → ¬ Dn listed j) → VR Z μ w (getT df0 ts0 t) (a.tmps.getD t undef)))
    {i : Nat} {o : Oper} (ho : ops[i]? = some o) (hn : ¬ Dn listed i) (hp : ∀ j, Pre ops j i → Dn listed j) {t : Nat} {v : V} (ht : t ∈ readsOf ops o)
    (hv : SlotIs ops df0 ts0 rv (fun j => j ≠ i ∧ Before ops j i) t v) : VR Z μ w v (a.tmps.getD t undef) := by
  by_cases hex : ∃ j, dstOf ops j = some t ∧ j ≠ i ∧ Before ops j i
  · obtain ⟨j, h1, h2⟩ := hex
    rw [hv.1 j h1 h2]
    exact (conc t).1 j h1 (pre_before hcl hp h2.2)
  · rw [hv.2 fun j h1 h2 => hex ⟨j, h1, h2⟩]
    refine (conc t).2 fun j h1 h2 => ?_
    rcases R.reads i o t j ho ht h1 with rfl | hb | hb
    · exact hn h2
    · by_cases hji : j = i
      · subst hji; exact hn h2
      · exact hex ⟨j, h1, hji, hb⟩
    · exact hn (closed_before hcl hb h2)
theorem slotsL_mem {t : Nat} : ∀ {l : List Operand}, Operand.tmp t ∈ l → t ∈ slotsL l
  | [], h => by simp at h
  | x :: l, h => by
    rcases List.mem_cons.1 h with rfl | h
    · simp [slotsL]
    · have ih := slotsL_mem h
      cases x <;> simp [slotsL, ih]
theorem ops_reads {o : Oper} {t : Nat} (h : Operand.tmp t ∈ opsOf o.op) : t ∈ readsOf ops o := by
  have := slotsL_mem h
  unfold readsOf
  split
  · split
    · exact List.mem_cons_of_mem _ this
    · exact this
  · exact this
/-- The operands that are looked at; nothing of the others. -/
noncomputable def mask (o : Op) (ρ : Operand → V) : Operand → V := fun x => by
  classical exact if x ∈ opsOf o then ρ x else .d .unk
theorem mask_eq {o : Op} {ρ : Operand → V} : ∀ x ∈ opsOf o, ρ x = mask o ρ x := fun x hx => by simp [mask, hx]
theorem mask_rel (hg : ∀ g cs, E.glob g = some cs → Z g ∧ VRdAt Z w g 0 cs ∧ SizedAt w g cs.length) {o : Oper} {df : D} {ts : List (Nat × V)} (hr : ∀ t ∈ readsOf ops o, VR Z μ w (getT df ts t) (a.tmps.getD t undef)) (x : Operand) : VR Z μ w (mask o.op (opd E df ts) x) (a.eval x) := by
  unfold mask
  split
  · rename_i hx
    have h0 : VR Z μ w (opd E .unk [] x) (a.eval x) := opd_ok (df := .unk) (ts := []) (a := a) hg (fun t => trivial) x
    cases x with
    | tmp t => exact hr t (ops_reads hx)
    | const v => exact h0
    | global g => exact h0
    | func f => exact h0
  · trivial
theorem readV_keep {ρ : Operand → V} {h h' : List O} {o : Op} {v : V} (hge : ∀ b ∈ addrOf ρ o, getO h b = .gone ∨ getO h' b = getO h b) (hv : readV E ρ h o = some v) : readV E ρ h' o = some v := by
  cases o
  case load t x =>
    simp only [readV, loadV] at hv ⊢
    cases hx : ρ x
    case ptr b e off lim =>
      rw [hx] at hv
      rcases hge b (by simp [addrOf, hx, namesV]) with hb | hb
      · simp only [hb] at hv; split at hv <;> cases hv
      · simp only [hb]; exact hv
    case d x => rw [hx] at hv; cases x <;> exact hv
    all_goals rw [hx] at hv; exact hv
  case lookup t x y ok =>
    simp only [readV, lookupV] at hv ⊢
    cases hx : ρ x
    case map b =>
      rw [hx] at hv
      rcases hge b (by simp [addrOf, hx, namesV]) with hb | hb
      · simp only [hb] at hv; repeat' split at hv
        all_goals cases hv
      · simp only [hb]; exact hv
    case d x => rw [hx] at hv; cases x <;> exact hv
    all_goals rw [hx] at hv; exact hv
  case call c =>
    simp only [readV] at hv ⊢
    split at hv
    · rename_i b l hcal hl
      rcases hge b (by simp only [addrOf, hl]; simp [namesVs, namesV]) with hb | hb
      · rw [hb] at hv; cases hv
      · simp only [hb]; exact hv
    · exact hv
    · cases hv
  all_goals cases hv
theorem readV_grow {ρ : Operand → V} {h k : List O} {o : Op} {v : V} (hv : readV E ρ h o = some v) : readV E ρ (h ++ k) o = some v :=
  readV_keep (fun b _ => by
    rw [getO_append]
    split
    · exact .inr rfl
    · rename_i hlt; exact .inl (getO_length (by omega))) hv
end
end Go.Ab
