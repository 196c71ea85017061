/-
  What an operation comes to hangs on the operands that it looks at, and on the blocks that they name.
-/
import Derived.Test.YtbgaomkepfienaaGreatDoorZzSt
namespace Go.Ab
open Go
section
variable {E : Env} {P : Program} {ρ ρ' : Operand → V} {h h' : List O}

theorem map_congr' {l : List Operand} (hh : ∀ x ∈ l, ρ x = ρ' x) : l.map ρ = l.map ρ' := List.map_congr_left hh
theorem call_args {c : Call} {x : Operand} (hx : x ∈ c.args.toList) : x ∈ opsOf (.call c) := by
  simp only [opsOf]
  split
  · exact List.mem_cons_of_mem _ hx
  · exact hx
theorem quietV_congr {o : Op} (hc : ∀ x ∈ opsOf o, ρ x = ρ' x) : quietV E ρ o = quietV E ρ' o := by
  cases o
  case call c =>
    have ha : ∀ x ∈ c.args.toList, ρ x = ρ' x := fun x hx => hc x (call_args hx)
    have hm := map_congr' ha
    simp only [quietV, hm]
  case makeFunc fn a c =>
    have h1 : a.toList.map ρ = a.toList.map ρ' := map_congr' fun x hx => hc x (by simp [opsOf, hx])
    have h2 : c.toList.map ρ = c.toList.map ρ' := map_congr' fun x hx => hc x (by simp [opsOf, hx])
    cases fn <;> simp only [quietV, h1, h2]
  case build t ps =>
    have h1 : (ps.toList.map fun p => (p.1, ρ p.2)) = ps.toList.map fun p => (p.1, ρ' p.2) := List.map_congr_left fun p hp => by
      rw [hc p.2 (by simp only [opsOf, List.mem_map]; exact ⟨p, hp, rfl⟩)]
    simp only [quietV, h1]
  case slice t x lo hi mx =>
    have h0 : ρ x = ρ' x := hc x (by simp [opsOf])
    have h1 : lo.map ρ = lo.map ρ' := by cases lo with | none => rfl | some y => simp [hc y (by simp [opsOf])]
    have h2 : hi.map ρ = hi.map ρ' := by cases hi with | none => rfl | some y => simp [hc y (by simp [opsOf])]
    cases mx <;> simp only [quietV, h0, h1, h2]
  case pick c a b => simp only [quietV, hc c (by simp [opsOf]), hc a (by simp [opsOf]), hc b (by simp [opsOf])]
  case binOp op t x y t' => simp only [quietV, hc x (by simp [opsOf]), hc y (by simp [opsOf])]
  case indexAddr t x y => simp only [quietV, hc x (by simp [opsOf]), hc y (by simp [opsOf])]
  case index t x y => simp only [quietV, hc x (by simp [opsOf]), hc y (by simp [opsOf])]
  case move x => simp only [quietV, hc x (by simp [opsOf])]
  case assign x => simp only [quietV, hc x (by simp [opsOf])]
  case nilCheck x => simp only [quietV, hc x (by simp [opsOf])]
  case unOp op t x => simp only [quietV, hc x (by simp [opsOf])]
  case convert s d x => simp only [quietV, hc x (by simp [opsOf])]
  case makeInterface t x => simp only [quietV, hc x (by simp [opsOf])]
  case fieldAddr t x i => simp only [quietV, hc x (by simp [opsOf])]
  case field t x i => simp only [quietV, hc x (by simp [opsOf])]
  case extract x i => simp only [quietV, hc x (by simp [opsOf])]
  all_goals rfl
theorem readV_congr {o : Op} (hc : ∀ x ∈ opsOf o, ρ x = ρ' x) : readV E ρ h o = readV E ρ' h o := by
  cases o
  case call c =>
    have ha : ∀ x ∈ c.args.toList, ρ x = ρ' x := fun x hx => hc x (call_args hx)
    have hm := map_congr' ha
    simp only [readV, hm]
  case load t x => simp only [readV, hc x (by simp [opsOf])]
  case lookup t x y ok => simp only [readV, hc x (by simp [opsOf]), hc y (by simp [opsOf])]
  all_goals rfl
theorem allocV_congr {o : Op} (hc : ∀ x ∈ opsOf o, ρ x = ρ' x) : allocV E ρ o = allocV E ρ' o := by
  cases o
  case box t x => simp only [allocV, hc x (by simp [opsOf])]
  case buildSlice t n ps =>
    have h1 : (ps.toList.map fun p => (p.1, ρ p.2)) = ps.toList.map fun p => (p.1, ρ' p.2) := List.map_congr_left fun p hp => by
      rw [hc p.2 (by simp only [opsOf, List.mem_map]; exact ⟨p, hp, rfl⟩)]
    simp only [allocV, h1]
  case makeSlice t x y => simp only [allocV, hc x (by simp [opsOf]), hc y (by simp [opsOf])]
  case range t x => simp only [allocV, hc x (by simp [opsOf])]
  case makeMap t r => cases r <;> rfl
  all_goals rfl
theorem effectO_congr {o : Op} (hc : ∀ x ∈ opsOf o, ρ x = ρ' x) : effectO E ρ h o = effectO E ρ' h o := by
  cases o
  case call c =>
    have ha : ∀ x ∈ c.args.toList, ρ x = ρ' x := fun x hx => hc x (call_args hx)
    have hm := map_congr' ha
    simp only [effectO, hm]
  case store t x y => simp only [effectO, hc x (by simp [opsOf]), hc y (by simp [opsOf])]
  case mapUpdate t m k x => simp only [effectO, hc m (by simp [opsOf]), hc k (by simp [opsOf]), hc x (by simp [opsOf])]
  case insert t m k x => simp only [effectO, hc m (by simp [opsOf]), hc k (by simp [opsOf]), hc x (by simp [opsOf])]
  case convert s d x => simp only [effectO, hc x (by simp [opsOf])]
  case next x b => cases b <;> simp only [effectO, hc x (by simp [opsOf])]
  all_goals rfl
theorem loudP_congr {C : CallP Prop} {Y : YieldP Prop} {K : V → List O → List Nat → Prop} {o : Op} (hc : ∀ x ∈ opsOf o, ρ x = ρ' x) (hk : loudP E C Y o ρ h K) : loudP E C Y o ρ' h K := by
  unfold loudP at *
  rw [effectO_congr hc] at hk
  split at hk
  · exact hk
  · split at hk
    · rename_i c _
      split at hk
      · rename_i g hg
        have e1 : ρ g = ρ' g := hc g (by simp [opsOf, hg])
        have e2 : c.args.toList.map ρ = c.args.toList.map ρ' := map_congr' fun x hx => hc x (by simp [opsOf, hg]; exact .inr (by simpa using hx))
        rw [e1, e2] at hk
        exact hk
      · exact hk.elim
    · exact hk.elim
  · exact hk.elim
/-- A reading hangs on the blocks that it names. -/
theorem readV_local {o : Op} (hc : ∀ b ∈ addrOf ρ o, getO h' b = getO h b) : readV E ρ h' o = readV E ρ h o := by
  cases o
  case load t x =>
    simp only [readV, loadV]
    simp only [addrOf] at hc
    cases hx : ρ x
    case ptr b e off lim =>
      rw [hx] at hc
      simp only [hc b (by simp [namesV])]
    case d x => cases x <;> rfl
    all_goals rfl
  case lookup t x y ok =>
    simp only [readV, lookupV]
    simp only [addrOf] at hc
    cases hx : ρ x
    case map b =>
      rw [hx] at hc
      simp only [hc b (by simp [namesV])]
    case d x => cases x <;> rfl
    all_goals rfl
  case call c =>
    simp only [readV]
    simp only [addrOf] at hc
    split
    · rename_i b l _ hl
      rw [hl] at hc
      rw [hc b (by simp [namesVs, namesV])]
    · rfl
    · rfl
  all_goals rfl
end
end Go.Ab
