/-
  TopLaid: pairs put into a map, taken out.
-/
import Derived.Test.YtldpapiaonchaaaGreatDoorDxF0
namespace Go.Proofs.Dx
open Go Go.Ab Go.Proofs.Dw
set_option maxRecDepth 100000
def put (ps : List (Int × Int)) (p : Int × Int) : List (Int × Int) := if p ∈ ps then ps else ps ++ [p]
def dg (n : Nat) : List (Int × Int) := (List.range n).map fun q : Nat => ((q : Int), (q : Int))
def mayL (n : Nat) (A : List (Int × Int)) : List (Int × Int) := A.foldl put (dg n)
theorem put_mem {ps : List (Int × Int)} {p q : Int × Int} : q ∈ put ps p ↔ q ∈ ps ∨ q = p := by
  unfold put
  split
  · rename_i h
    exact ⟨.inl, fun h1 => h1.elim id fun h2 => h2 ▸ h⟩
  · simp
theorem put_nodup {ps : List (Int × Int)} {p : Int × Int} (h : ps.Nodup) : (put ps p).Nodup := by
  unfold put
  split
  · exact h
  · rename_i hp
    rw [List.nodup_append]
    exact ⟨h, by simp, fun a ha b hb => by simp at hb; subst hb; exact fun h2 => hp (h2 ▸ ha)⟩
theorem fold_mem {q : Int × Int} : ∀ {A ps : List (Int × Int)}, q ∈ A.foldl put ps ↔ q ∈ ps ∨ q ∈ A
  | [], ps => by simp
  | a :: A, ps => by
    rw [List.foldl_cons, fold_mem (A := A), put_mem, List.mem_cons]
    constructor
    · rintro ((h | h) | h)
      · exact .inl h
      · exact .inr (.inl h)
      · exact .inr (.inr h)
    · rintro (h | h | h)
      · exact .inl (.inl h)
      · exact .inl (.inr h)
      · exact .inr h
theorem fold_nodup : ∀ {A ps : List (Int × Int)}, ps.Nodup → (A.foldl put ps).Nodup
  | [], _, h => h
  | _ :: A, _, h => fold_nodup (A := A) (put_nodup h)
theorem dg_mem {n : Nat} {p : Int × Int} : p ∈ dg n ↔ ∃ q : Nat, q < n ∧ p = ((q : Int), (q : Int)) := by
  unfold dg
  rw [List.mem_map]
  constructor
  · rintro ⟨q, h, rfl⟩; exact ⟨q, List.mem_range.1 h, rfl⟩
  · rintro ⟨q, h, rfl⟩; exact ⟨q, List.mem_range.2 h, rfl⟩
theorem dg_succ (n : Nat) : put (dg n) ((n : Int), (n : Int)) = dg (n + 1) := by
  unfold put
  rw [if_neg (fun h => by
    obtain ⟨q, h1, h2⟩ := dg_mem.1 h
    injection h2 with h3 _
    omega)]
  unfold dg
  rw [List.range_succ]; simp
theorem dg_nodup (n : Nat) : (dg n).Nodup := by
  induction n with
  | zero => simp [dg]
  | succ n ih => rw [← dg_succ]; exact put_nodup ih
theorem may_nodup (n : Nat) (A : List (Int × Int)) : (mayL n A).Nodup := fold_nodup (dg_nodup n)
theorem may_mem {n : Nat} {A : List (Int × Int)} {p : Int × Int} : p ∈ mayL n A ↔ p ∈ dg n ∨ p ∈ A := fold_mem
theorem take_put {A : List (Int × Int)} {j : Nat} {p : Int × Int} (h : A[j]? = some p) (ps : List (Int × Int)) : (A.take (j + 1)).foldl put ps = put ((A.take j).foldl put ps) p := by
  rw [List.take_add_one, h]; simp
theorem put_pair {ρ : Operand → V} {h : List O} {b : Nat} {x y z : Operand} {ps : List (Int × Int)} {p q : Int} (h1 : ρ x = .map b) (h2 : ρ y = .d (.agg [.int .i64 p, .int .i64 q])) (hz : ρ z = .d (.bool true)) (h3 : getO h b = .map (K ps) (.ds (Tr ps))) :
    effectO E ρ h (Op.mapUpdate 71 x y z) = some (.d .undef, setO h b (.map (K (put ps (p, q))) (.ds (Tr (put ps (p, q))))), [b]) := by
  have e : mapSet E h 71 (.map b) (.d (.agg [.int .i64 p, .int .i64 q])) (.d (.bool true)) = some (setO h b (.map (K (put ps (p, q))) (.ds (Tr (put ps (p, q)))))) := by
    conv => lhs; whnf
    rw [h3]
    conv => lhs; whnf
    unfold put
    by_cases hm : (p, q) ∈ ps
    · obtain ⟨i, k1, k2⟩ := findD_in 0 hm
      rw [show findD (.agg [.int .i64 p, .int .i64 q]) (K ps) 0 = some (some (0 + i)) from k1, Nat.zero_add, if_pos hm]
      show some (setO h b (.map (K ps) (.ds (Ab.setNth (Tr ps) i (.bool true))))) = _
      rw [Tr_set]
    · rw [show findD (.agg [.int .i64 p, .int .i64 q]) (K ps) 0 = some none from findD_out 0 hm, if_neg hm]
      show some (setO h b (.map (K ps ++ [pD (p, q)]) (.ds (Tr ps ++ [.bool true])))) = _
      rw [K_snoc, Tr_snoc]
  show (match mapSet E h 71 (ρ x) (ρ y) (ρ z) with | some h' => some (V.d .undef, h', namesV (ρ x)) | none => none) = _
  rw [h1, h2, hz, e]
  rfl
def del (ps : List (Int × Int)) (p : Int × Int) : List (Int × Int) := ps.eraseIdx (ps.idxOf p)
theorem del_mem {ps : List (Int × Int)} {p q : Int × Int} (hn : ps.Nodup) : q ∈ del ps p ↔ q ∈ ps ∧ q ≠ p := by
  unfold del
  by_cases hp : p ∈ ps
  · have hi : ps.idxOf p < ps.length := List.idxOf_lt_length_iff.2 hp
    exact mem_erase hn (List.getElem?_eq_some_iff.2 ⟨hi, List.getElem_idxOf hi⟩)
  · rw [List.eraseIdx_of_length_le (by rw [List.idxOf_eq_length hp]; exact Nat.le_refl _)]
    exact ⟨fun h => ⟨h, fun h2 => hp (h2 ▸ h)⟩, fun h => h.1⟩
theorem findD_idx {p : Int × Int} : ∀ {ps : List (Int × Int)} (j : Nat), p ∈ ps → findD (pD p) (K ps) j = some (some (j + ps.idxOf p))
  | [], _, h => by cases h
  | q :: ps, j, h => by
    by_cases hq : p = q
    · subst hq
      show (match eqK (pD p) (pD p) with | some true => some (some j) | some false => findD (pD p) (K ps) (j + 1) | none => none) = _
      rw [eqK_same, List.idxOf_cons_self]; rfl
    · show (match eqK (pD p) (pD q) with | some true => some (some j) | some false => findD (pD p) (K ps) (j + 1) | none => none) = _
      rw [eqK_ne hq, show List.idxOf p (q :: ps) = List.idxOf p ps + 1 from by rw [List.idxOf_cons]; simp [show (q == p) = false from by simpa using fun h : q = p => hq h.symm]]
      show findD (pD p) (K ps) (j + 1) = _
      rw [findD_idx (ps := ps) (j + 1) ((List.mem_cons.1 h).resolve_left hq)]
      congr 2; omega
theorem setO_self' : ∀ (h : List O) (b : Nat), setO h b (getO h b) = h
  | [], _ => rfl
  | _ :: _, 0 => rfl
  | x :: h, b + 1 => by show x :: setO h b (getO h b) = _; rw [setO_self' h b]
theorem del_pair {ρ : Operand → V} {h : List O} {b : Nat} {x y : Operand} {ps : List (Int × Int)} {p q : Int} (h1 : ρ x = .map b) (h2 : ρ y = .d (.agg [.int .i64 p, .int .i64 q])) (h3 : getO h b = .map (K ps) (.ds (Tr ps))) :
    effectO E ρ h (Op.call { callee := Callee.builtin Builtin.delete, args := #[x, y], argTypes := #[71, 57] }) = some (.d (.tuple []), setO h b (.map (K (del ps (p, q))) (.ds (Tr (del ps (p, q))))), [b]) := by
  have e : deleteO E h 71 (.map b) (.d (.agg [.int .i64 p, .int .i64 q])) = some (setO h b (.map (K (del ps (p, q))) (.ds (Tr (del ps (p, q)))))) := by
    conv => lhs; whnf
    rw [h3]
    conv => lhs; whnf
    unfold del
    by_cases hm : (p, q) ∈ ps
    · rw [show findD (.agg [.int .i64 p, .int .i64 q]) (K ps) 0 = some (some (0 + ps.idxOf (p, q))) from findD_idx 0 hm, Nat.zero_add]
      show some (setO h b (.map (eraseNth (K ps) (ps.idxOf (p, q))) (.ds (eraseNth (Tr ps) (ps.idxOf (p, q)))))) = _
      rw [K_erase, Tr_erase (List.idxOf_lt_length_iff.2 hm)]
    · rw [show findD (.agg [.int .i64 p, .int .i64 q]) (K ps) 0 = some none from findD_out 0 hm]
      rw [List.eraseIdx_of_length_le (by rw [List.idxOf_eq_length hm]; exact Nat.le_refl _), ← h3, setO_self']
  show (match deleteO E h 71 (ρ x) (ρ y) with | some h' => some (V.d (.tuple []), h', namesV (ρ x)) | none => none) = _
  rw [h1, h2, e]
  rfl
end Go.Proofs.Dx
