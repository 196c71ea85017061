/-
  What is known of calls, as one word each; functions from their bodies.
-/
import Derived.Test.YtldpapiaonchaaaGreatDoorZzS
namespace Go.Ab
open Go
section
variable {P : Program} {E : Env}
/-- What is known of a call. -/
inductive Sm (P : Program) (E : Env) (f : Nat) (args : List V) (h : List O) (Q : V → List O → Prop) : Prop where
  | mk (x : SemC P E f args h Q) : Sm P E f args h Q
/-- What is known of a call of yield. -/
inductive Sy (P : Program) (E : Env) (b : Nat) (args : List V) (h : List O) (Q : V → List O → Prop) : Prop where
  | mk (x : SemY P E b args h Q) : Sy P E b args h Q
theorem Sm_ok : CallOk P E (Sm P E) := fun _ _ _ _ ⟨h⟩ => h
theorem Sy_ok : YieldOk P E (Sy P E) := fun _ _ _ _ ⟨h⟩ => h
theorem LP_ok : LoopOk LP := fun _ h => h
theorem sm_of (HE : EnvOk E P) (frz : Bool) {f : Nat} {args : List V} {h : List O} {Q : V → List O → Prop} (hb : bodyOk E f = true) (hk : enterS E (Sm P E) (Sy P E) frz f args h Q) : Sm P E f args h Q :=
  ⟨semC_of (frz := fun _ => frz) HE Sm_ok Sy_ok LP_ok (enterS_out (frz := fun _ => frz) hb hk)⟩
theorem sy_of (HE : EnvOk E P) {b : Nat} {args : List V} {h : List O} {Q : V → List O → Prop} (hk : roundS E (Sm P E) (Sy P E) b args h Q) : Sy P E b args h Q :=
  ⟨roundFn_ok HE Sm_ok Sy_ok LP_ok (roundS_out hk)⟩
theorem Sm.mono {f : Nat} {args : List V} {h : List O} {Q Q' : V → List O → Prop} (h1 : Sm P E f args h Q) (hq : ∀ v h, Q v h → Q' v h) : Sm P E f args h Q' := ⟨SemC.mono h1.1 hq⟩
/-- It returns this value, over this heap. -/
def Rets (P : Program) (E : Env) (f : Nat) (args : List V) (v : V) : Prop := Sm P E f args [] fun u g => u = v ∧ g = []
theorem Rets.use {f : Nat} {args : List V} {v : V} (h : Rets P E f args v) {Q : V → List O → Prop} (hq : Q v []) : Sm P E f args [] Q := Sm.mono h fun _ _ ⟨h1, h2⟩ => by rw [h1, h2]; exact hq
/-- What is less precise. -/
def Wk (x y : D) : Prop := ∀ Z w v, VRd Z w x v → VRd Z w y v
theorem Wk.nil (sz : Nat) : Wk .nil (.slice 0 sz []) := fun _ _ _ h => ⟨none, 0, h, Nat.le_refl _, by simp, .inl rfl⟩
theorem Wk.emp (sz : Nat) : Wk .emp (.slice 0 sz []) := fun _ _ _ ⟨a, h⟩ => ⟨a, 0, h, Nat.le_refl _, by simp, .inl rfl⟩
theorem Rets.weaken {f : Nat} {args : List V} {x y : D} (h : Rets P E f args (.d x)) (hw : Wk x y) : Rets P E f args (.d y) := by
  obtain ⟨he, h⟩ := h
  refine ⟨he, fun Z μ w cargs S ha => CallsIn.mono (h Z μ w cargs S ha) ?_⟩
  intro e w' hp
  cases e with
  | returned cv =>
    obtain ⟨v, h', Z', μ', ⟨rfl, rfl⟩, S', hv, F⟩ := hp
    exact ⟨.d y, [], Z', μ', ⟨rfl, rfl⟩, S', hw _ _ _ hv, F⟩
  | panicked _ => exact hp.elim
  | outgrown => exact hp.elim
theorem ofV_map (l : List D) : Cells.ofV (l.map V.d) = .ds l := by
  have : allD (l.map V.d) = some l := by
    induction l with
    | nil => rfl
    | cons a l ih => simp only [List.map_cons, allD, ih]
  unfold Cells.ofV
  rw [this]
/-- Rounds, by a measure. -/
theorem hd_by {α : Type} {m : Nat} {sl : Option (List Nat)} {body : S → (Ex → S → Prop) → Prop} {Q : Ex → S → Prop} (st : α → S) (I : α → Prop) (μ : α → Nat)
    (step : ∀ (n : Nat) (x : α), I x → (∀ y, I y → μ y < μ x → hd m sl body n (st y) Q) → hd m sl body (n + 1) (st x) Q) : ∀ (n : Nat) (x : α), I x → μ x < n → hd m sl body n (st x) Q
  | 0, _, _, h => absurd h (Nat.not_lt_zero _)
  | n + 1, x, hx, h => step n x hx fun y hy hlt => hd_by st I μ step n y hy (by omega)
theorem loops_by {α : Type} {m : Nat} {sl : Option (List Nat)} {body : S → (Ex → S → Prop) → Prop} {Q : Ex → S → Prop} (st : α → S) (I : α → Prop) (μ : α → Nat) (x : α) (hx : I x)
    (step : ∀ (n : Nat) (x : α), I x → (∀ y, I y → μ y < μ x → hd m sl body n (st y) Q) → hd m sl body (n + 1) (st x) Q) : Loops fun n => hd m sl body n (st x) Q :=
  ⟨μ x + 1, hd_by st I μ step _ x hx (Nat.lt_succ_self _)⟩
end
end Go.Ab
