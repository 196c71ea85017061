/-
  TopLaid: lanes that were met, as a list; an empty desk.
-/
import Derived.Test.YtldpapiaonchaaaGreatDoorDxB
namespace Go.Proofs.Dx
open Go Go.Ab Go.Proofs.Dw
set_option maxRecDepth 100000
def nL (c : List Nat) : List Int := c.map Int.ofNat
theorem nL_length (c : List Nat) : (nL c).length = c.length := by simp [nL]
theorem nL_snoc (c : List Nat) (i : Nat) : nL (c ++ [i]) = nL c ++ [(i : Int)] := by simp [nL]
theorem nL_at {c : List Nat} {k i : Nat} (h : c[k]? = some i) : (nL c)[k]? = some (i : Int) := by simp [nL, h]
def lsV (w : List Nat) : V := .d (match w with | [] => .nil | a :: r => .slice (r.length + 1) 1 (encI (nL (a :: r))))
def metL (t : Tb) (n : Nat) : List Nat := (List.range n).filter fun l => t.M1[l]? == some true
theorem metL_yes {t : Tb} {n : Nat} (h : t.M1[n]? = some true) : metL t (n + 1) = metL t n ++ [n] := by
  unfold metL
  rw [List.range_succ, List.filter_append]
  simp [h]
theorem metL_no {t : Tb} {n : Nat} (h : t.M1[n]? = some false) : metL t (n + 1) = metL t n := by
  unfold metL
  rw [List.range_succ, List.filter_append]
  simp [h]
theorem metL_mem {t : Tb} {n l : Nat} : l ∈ metL t n ↔ l < n ∧ t.st.m1 l := by
  unfold metL
  rw [List.mem_filter, List.mem_range]
  simp [Tb.st]
theorem metL_sorted (t : Tb) (n : Nat) : (metL t n).Pairwise (· < ·) := List.Pairwise.filter _ List.pairwise_lt_range
theorem metL_len (t : Tb) (n : Nat) : (metL t n).length ≤ n := by
  have := List.length_filter_le (fun l => t.M1[l]? == some true) (List.range n)
  rw [List.length_range] at this
  exact this
def Tb.z : Tb := ⟨List.replicate 64 0, List.replicate 8 0, List.replicate 8 false, List.replicate 8 false⟩
def Tb.clr (t : Tb) : Tb := { t with M0 := List.replicate 8 false, M1 := List.replicate 8 false }
theorem z_ls : Tb.z.Ls := ⟨by simp [Tb.z], by simp [Tb.z], by simp [Tb.z], by simp [Tb.z]⟩
theorem z_h (s l : Nat) : Tb.z.st.h s l = 0 := by
  show ((List.replicate 64 (0 : Int))[s * 8 + l]?).getD 0 = 0
  rw [List.getElem?_replicate]
  split <;> rfl
theorem z_ok {S : List Int} {ps : List (Int × Int)} (h8 : S.length ≤ 8) (h0 : ∀ s, s < S.length → 0 ≤ fn S s) : Tb.z.Ok S ps ∧ Part S.length (fn S) (cP ps) (fun _ => 0) Tb.z.st.h := by
  have e : ∀ s, sumR S.length (fun l => Tb.z.st.h s l) = 0 := fun s => by rw [sumR_congr fun l _ => z_h s l, sumR_zero]
  have P : Part S.length (fn S) (cP ps) (fun _ => 0) Tb.z.st.h := ⟨fun s l _ _ => by rw [z_h]; exact Int.le_refl _, fun s l _ _ h => by rw [z_h] at h; omega, fun s hs => by rw [e]; exact h0 s hs,
    fun l _ => by rw [sumR_congr fun s _ => z_h s l, sumR_zero]⟩
  refine ⟨⟨z_ls, ⟨_, P⟩, fun s hs => ?_⟩, P⟩
  rw [e]
  show (List.replicate 8 (0 : Int))[s]? = _
  rw [List.getElem?_replicate, if_pos (by omega)]
theorem clr_ls {t : Tb} (L : t.Ls) : t.clr.Ls := ⟨L.h, L.u, by simp [Tb.clr], by simp [Tb.clr]⟩
theorem clr_ok {S : List Int} {ps : List (Int × Int)} {t : Tb} (O : t.Ok S ps) : t.clr.Ok S ps := ⟨clr_ls O.ls, O.part, O.us⟩
theorem clr_m0 (t : Tb) (s : Nat) : ¬ t.clr.st.m0 s := fun h => by
  have h : (List.replicate 8 false)[s]? = some true := h
  rw [List.getElem?_replicate] at h
  split at h <;> simp at h
theorem clr_m1 (t : Tb) (s : Nat) : ¬ t.clr.st.m1 s := fun h => by
  have h : (List.replicate 8 false)[s]? = some true := h
  rw [List.getElem?_replicate] at h
  split at h <;> simp at h
open Classical in
theorem lack_congr {n : Nat} {S D : Nat → Int} {can : Nat → Nat → Prop} {W W' : Nat → Prop} (but : Nat) (h : ∀ l, l < n → (W l ↔ W' l)) : lack n S D can W but = lack n S D can W' but := by
  unfold lack
  congr 1
  · exact sumR_congr fun l hl => by simp only [h l hl]
  · refine sumR_congr fun s _ => ?_
    have : (∃ l, l < n ∧ W l ∧ can s l) ↔ ∃ l, l < n ∧ W' l ∧ can s l := ⟨fun ⟨l, h1, h2, h3⟩ => ⟨l, h1, (h l h1).1 h2, h3⟩, fun ⟨l, h1, h2, h3⟩ => ⟨l, h1, (h l h1).2 h2, h3⟩⟩
    simp only [this]
/-- What is assigned so far: all of the lanes below i, j targets of lane i. -/
def soFar (N : List Int) (i : Nat) (j : Int) : Nat → Int := fun l => if l < i then fn N l else if l = i then j else 0
theorem soFar_inc (N : List Int) (i : Nat) (j : Int) (l : Nat) : soFar N i j l + (if l = i then 1 else 0) = soFar N i (j + 1) l := by
  unfold soFar
  by_cases h : l < i
  · rw [if_pos h, if_pos h, if_neg (by omega)]; omega
  · rw [if_neg h, if_neg h]
    by_cases h2 : l = i
    · rw [if_pos h2, if_pos h2, if_pos h2]
    · rw [if_neg h2, if_neg h2, if_neg h2]; rfl
theorem soFar_next {N : List Int} {i : Nat} {x : Int} (h : fn N i = x) (l : Nat) : soFar N i x l = soFar N (i + 1) 0 l := by
  unfold soFar
  by_cases h1 : l < i
  · rw [if_pos h1, if_pos (by omega)]
  · rw [if_neg h1]
    by_cases h2 : l = i
    · subst h2; rw [if_pos rfl, if_pos (by omega), h]
    · rw [if_neg h2, if_neg (by omega)]; split <;> rfl
end Go.Proofs.Dx
