/-
  The same, with a list of the types whose values are compared cell by cell.
-/
import Derived.Test.YtbgaomkepfienaaGreatDoorZzEnv
namespace Go.Ab
open Go
section
variable {P : Program}
def flatOf (P : Program) (t : Nat) : Bool := match tiOf P t with | some i => i.flat | none => true
def allN (p : Nat → Bool) : List Nat → Bool
  | [] => true
  | a :: l => match p a with | true => allN p l | false => false
def tiOf2 (P : Program) (flats : List Nat) (t : Nat) : Option TI :=
  match P.info? t, P.underlying t with
  | some inf, some u => match Nat.blt 0 inf.bytes, Nat.blt 0 inf.size with
    | true, true => some { under := u, size := inf.size, bytes := inf.bytes, zero := match inf.zero with | some zv => zeroOf (isAggD u) inf.size zv | none => none, flat := memN t flats, kinds := kindsOf P t }
    | _, _ => none
  | _, _ => none
theorem tiOf2_of (P : Program) (flats : List Nat) (t : Nat) {j : TI} (h : tiOf2 P flats t = some j) : ∃ i, tiOf P t = some i ∧ j = { i with flat := memN t flats } := by
  unfold tiOf2 at h
  unfold tiOf
  split at h
  · rename_i inf u hinf hu
    simp only [hinf, hu]
    split at h
    · rename_i g1 g2
      simp only [g1, g2]
      cases h
      exact ⟨_, rfl, rfl⟩
    · cases h
  · cases h
theorem memN_mem {a : Nat} : ∀ {l : List Nat}, memN a l = true → a ∈ l
  | b :: l, h => by
    unfold memN at h
    split at h
    · rename_i hb; rw [Nat.eq_of_beq_eq_true hb]; exact List.mem_cons_self
    · exact List.mem_cons_of_mem _ (memN_mem h)
theorem allN_all {p : Nat → Bool} : ∀ {l : List Nat}, allN p l = true → ∀ a ∈ l, p a = true
  | b :: l, h, a, ha => by
    unfold allN at h
    split at h
    · rcases List.mem_cons.1 ha with rfl | ha
      · assumption
      · exact allN_all h a ha
    · cases h
def env2 (P : Program) (flats : List Nat) (glob : Nat → Option (List D)) (keep : Nat → Nat → Option (List Nat)) : Env := ⟨tiOf2 P flats, glob, fnOf P, keep⟩
theorem env2_ok (flats : List Nat) (glob : Nat → Option (List D)) (keep : Nat → Nat → Option (List Nat)) (hm : P.follows .mixedOrders = true) (hf : allN (flatOf P) flats = true) : EnvOk (env2 P flats glob keep) P where
  ty := fun t j h => by
    obtain ⟨i, hi, rfl⟩ := tiOf2_of P flats t h
    have O := tiOf_ok hi
    have hfl : memN t flats = true → i.flat = true := fun hm => by
      have := allN_all hf t (memN_mem hm)
      unfold flatOf at this
      rw [hi] at this
      exact this
    exact ⟨O.under, O.info, O.pos, fun h => O.flat (hfl h), fun h => O.key (hfl h)⟩
  fn := (envOf_ok glob keep hm).fn
  name := (envOf_ok glob keep hm).name
  mixed := hm
end
end Go.Ab
