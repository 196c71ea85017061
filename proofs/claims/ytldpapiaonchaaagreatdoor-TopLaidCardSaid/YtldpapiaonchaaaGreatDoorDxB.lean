/-
  TopLaid: what a desk holds: hits, shots used, skiers and lanes that were met.
-/
import Derived.Test.YtldpapiaonchaaaGreatDoorDxA
section
namespace Go.Proofs.Dx
open Go Go.Ab Go.Proofs.Dw
set_option maxRecDepth 100000
set_option maxHeartbeats 1000000
def sl (l : List Int) : D := .slice l.length 1 (encI l)
def pl (l : List (Int × Int)) : D := .slice l.length 2 (encP l)
def encB (l : List Bool) : List D := l.map .bool
theorem wr_set {α : Type} : ∀ (l : List α) (i : Nat) (x : α), wr l i [x] = l.set i x
  | [], _, _ => by cases ‹Nat› <;> rfl
  | a :: l, 0, x => by show x :: wr l 0 [] = _; rw [wr_nil]; rfl
  | a :: l, i + 1, x => by show a :: wr l i [x] = _; rw [wr_set l i x]; rfl
structure Tb where
  H : List Int
  U : List Int
  M0 : List Bool
  M1 : List Bool
def Tb.e (t : Tb) : List D := encI t.H ++ (encI t.U ++ (encB t.M0 ++ encB t.M1))
structure Tb.Ls (t : Tb) : Prop where
  h : t.H.length = 64
  u : t.U.length = 8
  m0 : t.M0.length = 8
  m1 : t.M1.length = 8
theorem encB_length (l : List Bool) : (encB l).length = l.length := by simp [encB]
theorem Tb.e_length {t : Tb} (L : t.Ls) : t.e.length = 88 := by
  unfold Tb.e
  simp only [List.length_append, encI_length, encB_length, L.h, L.u, L.m0, L.m1]
theorem Tb.at_h {t : Tb} (L : t.Ls) {i off : Nat} {x : Int} (h : t.H[i]? = some x) (ho : off = i) : t.e[off]? = some (.int .i64 x) := by
  subst ho
  unfold Tb.e
  rw [List.getElem?_append_left (by rw [encI_length]; exact lt_of_at h)]
  exact encI_get h
theorem Tb.at_u {t : Tb} (L : t.Ls) {i off : Nat} {x : Int} (h : t.U[i]? = some x) (ho : off = 64 + i) : t.e[off]? = some (.int .i64 x) := by
  subst ho
  have := lt_of_at h
  unfold Tb.e
  rw [List.getElem?_append_right (by rw [encI_length, L.h]; omega), encI_length, L.h, List.getElem?_append_left (by rw [encI_length]; omega), show 64 + i - 64 = i by omega]
  exact encI_get h
theorem Tb.at_m0 {t : Tb} (L : t.Ls) {i off : Nat} {x : Bool} (h : t.M0[i]? = some x) (ho : off = 72 + i) : t.e[off]? = some (.bool x) := by
  subst ho
  have := lt_of_at h
  unfold Tb.e
  rw [List.getElem?_append_right (by rw [encI_length, L.h]; omega), encI_length, L.h, List.getElem?_append_right (by rw [encI_length, L.u]; omega), encI_length, L.u, List.getElem?_append_left (by rw [encB_length]; omega), show 72 + i - 64 - 8 = i by omega]
  simp [encB, h]
theorem Tb.at_m1 {t : Tb} (L : t.Ls) {i off : Nat} {x : Bool} (h : t.M1[i]? = some x) (ho : off = 80 + i) : t.e[off]? = some (.bool x) := by
  subst ho
  have := lt_of_at h
  unfold Tb.e
  rw [List.getElem?_append_right (by rw [encI_length, L.h]; omega), encI_length, L.h, List.getElem?_append_right (by rw [encI_length, L.u]; omega), encI_length, L.u, List.getElem?_append_right (by rw [encB_length, L.m0]; omega), encB_length, L.m0, show 80 + i - 64 - 8 - 8 = i by omega]
  simp [encB, h]
theorem Tb.wr_h {t : Tb} (L : t.Ls) {i off : Nat} (x : Int) (hi : i < 64) (ho : off = i) : wr t.e off [.int .i64 x] = Tb.e { t with H := t.H.set i x } := by
  subst ho
  unfold Tb.e
  rw [wr_set, List.set_append_left _ _ (by rw [encI_length, L.h]; exact hi)]
  simp [encI, List.map_set]
theorem Tb.wr_u {t : Tb} (L : t.Ls) {i off : Nat} (x : Int) (hi : i < 8) (ho : off = 64 + i) : wr t.e off [.int .i64 x] = Tb.e { t with U := t.U.set i x } := by
  subst ho
  unfold Tb.e
  rw [wr_set, List.set_append_right _ _ (by rw [encI_length, L.h]; omega), encI_length, L.h, List.set_append_left _ _ (by rw [encI_length, L.u]; omega), show 64 + i - 64 = i by omega]
  simp [encI, List.map_set]
theorem Tb.wr_m0 {t : Tb} (L : t.Ls) {i off : Nat} (x : Bool) (hi : i < 8) (ho : off = 72 + i) : wr t.e off [.bool x] = Tb.e { t with M0 := t.M0.set i x } := by
  subst ho
  unfold Tb.e
  rw [wr_set, List.set_append_right _ _ (by rw [encI_length, L.h]; omega), encI_length, L.h, List.set_append_right _ _ (by rw [encI_length, L.u]; omega), encI_length, L.u, List.set_append_left _ _ (by rw [encB_length, L.m0]; omega), show 72 + i - 64 - 8 = i by omega]
  simp [encB, List.map_set]
theorem Tb.wr_m1 {t : Tb} (L : t.Ls) {i off : Nat} (x : Bool) (hi : i < 8) (ho : off = 80 + i) : wr t.e off [.bool x] = Tb.e { t with M1 := t.M1.set i x } := by
  subst ho
  unfold Tb.e
  rw [wr_set, List.set_append_right _ _ (by rw [encI_length, L.h]; omega), encI_length, L.h, List.set_append_right _ _ (by rw [encI_length, L.u]; omega), encI_length, L.u, List.set_append_right _ _ (by rw [encB_length, L.m0]; omega), encB_length, L.m0, show 80 + i - 64 - 8 - 8 = i by omega]
  simp [encB, List.map_set]
end Go.Proofs.Dx
end
section
/-
  TopLaid: who can have hit what; lanes of a skier.
-/
namespace Go.Proofs.Dx
open Go Go.Ab Go.Proofs.Dw
set_option maxRecDepth 100000
set_option maxHeartbeats 1000000
theorem mx_write {p : List V} {t xs : List D} {off : Nat} {vals : List V} (hv : vals = xs.map V.d) (h1 : p.length ≤ off) (h2 : off + xs.length ≤ p.length + t.length) : (Cells.mx p t).write off vals = some (.mx p (wr t (off - p.length) xs)) := by
  subst hv
  unfold Cells.write
  simp only [Cells.len, List.length_map]
  rw [ble_t h2, allD_map]
  simp only
  rw [ble_t h1]
theorem zf16 : (List.replicate 2 (List.replicate 8 (V.d (.bool false)))).flatten = (encB (List.replicate 8 false) ++ encB (List.replicate 8 false)).map V.d := rfl
theorem Tb.wr_met {t : Tb} (L : t.Ls) : wr t.e 72 (encB (List.replicate 8 false) ++ encB (List.replicate 8 false)) = Tb.e { t with M0 := List.replicate 8 false, M1 := List.replicate 8 false } := by
  have up : ∀ (p q xs : List D) (off : Nat), off = p.length → wr (p ++ q) off xs = p ++ wr q 0 xs := by
    intro p
    induction p with
    | nil => intro q xs off ho; subst ho; rfl
    | cons a p ih =>
      intro q xs off ho
      subst ho
      cases xs with
      | nil => rw [wr_nil, wr_nil]
      | cons x xs =>
        show a :: wr (p ++ q) p.length (x :: xs) = _
        rw [ih q (x :: xs) p.length rfl]; rfl
  unfold Tb.e
  have e1 : encI t.H ++ (encI t.U ++ (encB t.M0 ++ encB t.M1)) = (encI t.H ++ encI t.U) ++ (encB t.M0 ++ encB t.M1) := by simp
  have e2 : ∀ X, encI t.H ++ (encI t.U ++ X) = (encI t.H ++ encI t.U) ++ X := by simp
  rw [e1, up _ _ _ 72 (by rw [List.length_append, encI_length, encI_length, L.h, L.u]), wr_all (by simp [encB, L.m0, L.m1]), e2]
theorem clear_met {ρ : Operand → V} {a b c m : V} {t : Tb} {h' : List O} (hρ : ρ (.tmp 24) = .slice 0 0 (0 + 76 + 0 * 8) (2 - 0) 8) (L : t.Ls) :
    effectO E ρ (.row (.mx [a, b, c, m] t.e) 0 0 [] :: h') (Op.call { callee := Callee.builtin Builtin.clear, args := #[Operand.tmp 24], argTypes := #[117] }) =
      some (.d (.tuple []), .row (.mx [a, b, c, m] (Tb.e { t with M0 := List.replicate 8 false, M1 := List.replicate 8 false })) 0 0 [] :: h', [0]) := by
  have e : clearO E (.row (.mx [a, b, c, m] t.e) 0 0 [] :: h') 117 (.slice 0 0 (0 + 76 + 0 * 8) (2 - 0) 8) = some (.row (.mx [a, b, c, m] (Tb.e { t with M0 := List.replicate 8 false, M1 := List.replicate 8 false })) 0 0 [] :: h') := by
    conv => lhs; whnf
    have hw : (Cells.mx [a, b, c, m] t.e).write 76 ((encB (List.replicate 8 false) ++ encB (List.replicate 8 false)).map V.d) = some (.mx [a, b, c, m] (wr t.e (76 - 4) (encB (List.replicate 8 false) ++ encB (List.replicate 8 false)))) := mx_write rfl (by show 4 ≤ 76; omega) (by show 76 + 16 ≤ 4 + t.e.length; rw [Tb.e_length L]; omega)
    show (match (Cells.mx [a, b, c, m] t.e).write 76 ((encB (List.replicate 8 false) ++ encB (List.replicate 8 false)).map V.d) with | some c' => some (setO (O.row (Cells.mx [a, b, c, m] t.e) 0 0 [] :: h') 0 (O.row c' 0 0 [])) | none => none) = _
    rw [hw]
    show some (O.row (.mx [a, b, c, m] (wr t.e 72 _)) 0 0 [] :: h') = _
    rw [Tb.wr_met L]
  show (match clearO E (.row (.mx [a, b, c, m] t.e) 0 0 [] :: h') 117 (ρ (.tmp 24)) with | some h' => some (V.d (.tuple []), h', namesV (ρ (.tmp 24))) | none => none) = _
  rw [hρ, e]
  rfl
section
variable {t : Tb} {a b c d v : V} {off i : Nat}
theorem ble_mx (L : t.Ls) (h : off + 1 ≤ 92) : Nat.ble (off + [v].length) (Cells.mx [a, b, c, d] t.e).len = true := ble_t (by
  show off + 1 ≤ 4 + t.e.length
  rw [Tb.e_length L]; omega)
theorem st_h (L : t.Ls) (hi : i < 64) (ho : off = 4 + i) {x : Int} (hv : v = .d (.int .i64 x)) : (Cells.mx [a, b, c, d] t.e).write off [v] = some (.mx [a, b, c, d] (Tb.e { t with H := t.H.set i x })) := by
  subst hv
  rw [mx_write (vals := [V.d (.int .i64 x)]) (xs := [.int .i64 x]) rfl (by show 4 ≤ off; omega) (by show off + 1 ≤ 4 + t.e.length; rw [Tb.e_length L]; omega)]
  rw [Tb.wr_h L x hi (by show off - 4 = i; omega)]
theorem st_u (L : t.Ls) (hi : i < 8) (ho : off = 68 + i) {x : Int} (hv : v = .d (.int .i64 x)) : (Cells.mx [a, b, c, d] t.e).write off [v] = some (.mx [a, b, c, d] (Tb.e { t with U := t.U.set i x })) := by
  subst hv
  rw [mx_write (vals := [V.d (.int .i64 x)]) (xs := [.int .i64 x]) rfl (by show 4 ≤ off; omega) (by show off + 1 ≤ 4 + t.e.length; rw [Tb.e_length L]; omega)]
  rw [Tb.wr_u L x hi (by show off - 4 = 64 + i; omega)]
theorem st_m0 (L : t.Ls) (hi : i < 8) (ho : off = 76 + i) {x : Bool} (hv : v = .d (.bool x)) : (Cells.mx [a, b, c, d] t.e).write off [v] = some (.mx [a, b, c, d] (Tb.e { t with M0 := t.M0.set i x })) := by
  subst hv
  rw [mx_write (vals := [V.d (.bool x)]) (xs := [.bool x]) rfl (by show 4 ≤ off; omega) (by show off + 1 ≤ 4 + t.e.length; rw [Tb.e_length L]; omega)]
  rw [Tb.wr_m0 L x hi (by show off - 4 = 72 + i; omega)]
theorem st_m1 (L : t.Ls) (hi : i < 8) (ho : off = 84 + i) {x : Bool} (hv : v = .d (.bool x)) : (Cells.mx [a, b, c, d] t.e).write off [v] = some (.mx [a, b, c, d] (Tb.e { t with M1 := t.M1.set i x })) := by
  subst hv
  rw [mx_write (vals := [V.d (.bool x)]) (xs := [.bool x]) rfl (by show 4 ≤ off; omega) (by show off + 1 ≤ 4 + t.e.length; rw [Tb.e_length L]; omega)]
  rw [Tb.wr_m1 L x hi (by show off - 4 = 80 + i; omega)]
theorem blt_mx (h : 4 ≤ off) : Nat.blt off [a, b, c, d].length = false := by
  cases hb : Nat.blt off [a, b, c, d].length
  · rfl
  · rw [Nat.blt_eq] at hb
    exact absurd hb (by show ¬ off < 4; omega)
end
def cB (ps : List (Int × Int)) (s l : Nat) : Bool := decide (((s : Int), (l : Int)) ∈ ps)
/-- A desk, its map being block m. -/
def dkA (S N : List Int) (A : List (Int × Int)) (m : Nat) (t : Tb) : O := .row (.mx [.d (sl S), .d (sl N), .d (pl A), .map m] t.e) 0 0 []
def mpO (ps : List (Int × Int)) : O := .map (K ps) (.ds (Tr ps))
theorem look_pair {ρ : Operand → V} {h : List O} {b : Nat} {x y : Operand} {ps : List (Int × Int)} {p q : Int} (h1 : ρ x = .map b) (h2 : ρ y = .d (.agg [.int .i64 p, .int .i64 q])) (h3 : getO h b = .map (K ps) (.ds (Tr ps))) :
    readV E ρ h (Op.lookup 71 x y false) = some (.d (.bool (decide ((p, q) ∈ ps)))) := by
  have e : ∀ c, (if (p, q) ∈ ps then c = true else c = false) → decide ((p, q) ∈ ps) = c := fun c hc => by
    by_cases hm : (p, q) ∈ ps
    · rw [if_pos hm] at hc; rw [hc]; exact decide_eq_true hm
    · rw [if_neg hm] at hc; rw [hc]; exact decide_eq_false hm
  show lookupV E h 71 (ρ x) (ρ y) false = _
  rw [h1, h2]
  conv => lhs; whnf
  rw [h3]
  conv => lhs; whnf
  by_cases hm : (p, q) ∈ ps
  · obtain ⟨i, k1, k2⟩ := findD_in 0 hm
    rw [show findD (.agg [.int .i64 p, .int .i64 q]) (K ps) 0 = some (some (0 + i)) from k1, Nat.zero_add]
    conv => lhs; whnf
    rw [show Cells.readV false (Cells.ds (Tr ps)) i 1 = some (.d (.bool true)) from by
      show (match (Tr ps)[i]? with | some r => some (V.d r) | none => none) = _
      rw [Tr_at k2]]
    rw [e true (by rw [if_pos hm])]
    rfl
  · rw [show findD (.agg [.int .i64 p, .int .i64 q]) (K ps) 0 = some none from findD_out 0 hm]
    conv => lhs; whnf
    rw [e false (by rw [if_neg hm])]
    rfl
end Go.Proofs.Dx
end
section
/-
  TopLaid: what a desk's cells say of an assignment, and how they turn.
-/
namespace Go.Proofs.Dx
open Go Go.Ab Go.Proofs.Dw
set_option maxRecDepth 100000
set_option maxHeartbeats 1000000
def Tb.st (t : Tb) : St := ⟨fun s l => (t.H[s * 8 + l]?).getD 0, fun s => t.M0[s]? = some true, fun l => t.M1[l]? = some true⟩
def cP (ps : List (Int × Int)) : Nat → Nat → Prop := fun s l => ((s : Int), (l : Int)) ∈ ps
theorem cB_t {ps : List (Int × Int)} {s l : Nat} (h : cB ps s l = true) : cP ps s l := of_decide_eq_true (p := ((s : Int), (l : Int)) ∈ ps) h
theorem cB_f {ps : List (Int × Int)} {s l : Nat} (h : cB ps s l = false) : ¬ cP ps s l := of_decide_eq_false (p := ((s : Int), (l : Int)) ∈ ps) h
def fn (l : List Int) (q : Nat) : Int := (l[q]?).getD 0
theorem fn_at {l : List Int} {q : Nat} {x : Int} (h : l[q]? = some x) : fn l q = x := by unfold fn; rw [h]; rfl
theorem at_fn {l : List Int} {q : Nat} (h : q < l.length) : l[q]? = some (fn l q) := by
  obtain ⟨x, hx⟩ := at_some h
  rw [hx, fn_at hx]
structure Tb.Ok (S : List Int) (ps : List (Int × Int)) (t : Tb) : Prop where
  ls : t.Ls
  part : ∃ F, Part S.length (fn S) (cP ps) F t.st.h
  us : ∀ s, s < S.length → t.U[s]? = some (sumR S.length fun l => t.st.h s l)
def Tb.mark0 (t : Tb) (i : Nat) : Tb := { t with M0 := t.M0.set i true }
def Tb.mark1 (t : Tb) (i : Nat) : Tb := { t with M1 := t.M1.set i true }
def Tb.incU (t : Tb) (i : Nat) (x : Int) : Tb := { t with U := t.U.set i x }
def Tb.setH (t : Tb) (i l : Nat) (x : Int) : Tb := { t with H := t.H.set (i * 8 + l) x }
theorem set_true {l : List Bool} {i q : Nat} (hi : i < l.length) : (l.set i true)[q]? = some true ↔ l[q]? = some true ∨ q = i := by
  rw [List.getElem?_set]
  by_cases h : i = q
  · subst h; simp [hi]
  · rw [if_neg h]
    exact ⟨.inl, fun h1 => h1.elim id fun h2 => absurd h2.symm h⟩
theorem Tb.Ls.mark0 {t : Tb} (L : t.Ls) (i : Nat) : (t.mark0 i).Ls := ⟨L.h, L.u, by show (t.M0.set i true).length = 8; rw [List.length_set]; exact L.m0, L.m1⟩
theorem Tb.Ls.mark1 {t : Tb} (L : t.Ls) (i : Nat) : (t.mark1 i).Ls := ⟨L.h, L.u, L.m0, by show (t.M1.set i true).length = 8; rw [List.length_set]; exact L.m1⟩
theorem Tb.Ls.incU {t : Tb} (L : t.Ls) (i : Nat) (x : Int) : (t.incU i x).Ls := ⟨L.h, by show (t.U.set i x).length = 8; rw [List.length_set]; exact L.u, L.m0, L.m1⟩
theorem Tb.Ls.setH {t : Tb} (L : t.Ls) (i l : Nat) (x : Int) : (t.setH i l x).Ls := ⟨by show (t.H.set (i * 8 + l) x).length = 64; rw [List.length_set]; exact L.h, L.u, L.m0, L.m1⟩
theorem st_mark0 {t : Tb} (L : t.Ls) {i : Nat} (hi : i < 8) : (t.mark0 i).st = { t.st with m0 := fun s => t.st.m0 s ∨ s = i } := by
  unfold Tb.st Tb.mark0
  congr 1
  funext s
  exact propext (set_true (by rw [L.m0]; exact hi))
theorem st_mark1 {t : Tb} (L : t.Ls) {i : Nat} (hi : i < 8) : (t.mark1 i).st = { t.st with m1 := fun s => t.st.m1 s ∨ s = i } := by
  unfold Tb.st Tb.mark1
  congr 1
  funext s
  exact propext (set_true (by rw [L.m1]; exact hi))
theorem h_setH {t : Tb} (L : t.Ls) {i l : Nat} (hi : i < 8) (hl : l < 8) (x : Int) {s k : Nat} (hk : k < 8) : (t.setH i l x).st.h s k = Dw.upd t.st.h i l x s k := by
  show ((t.H.set (i * 8 + l) x)[s * 8 + k]?).getD 0 = _
  unfold Dw.upd
  rw [List.getElem?_set]
  by_cases h : s = i ∧ k = l
  · obtain ⟨rfl, rfl⟩ := h
    rw [if_pos rfl, if_pos (by rw [L.h]; omega), if_pos ⟨rfl, rfl⟩]; rfl
  · rw [if_neg (fun h2 => h (by omega)), if_neg h]; rfl
theorem Tb.Ok.hit {S : List Int} {ps : List (Int × Int)} {t : Tb} (O : t.Ok S ps) (h8 : ∀ s, s < S.length → fn S s ≤ 8) {s l : Nat} (hs : s < S.length) (hl : l < S.length) : 0 ≤ t.st.h s l ∧ t.st.h s l ≤ 8 := by
  obtain ⟨F, A⟩ := O.part
  refine ⟨A.pos s l hs hl, ?_⟩
  have h1 := sumR_part (f := fun l => t.st.h s l) hl fun q hq => A.pos s q hs hq
  have h2 := A.row s hs
  have h3 := h8 s hs
  have h4 : t.st.h s l ≤ sumR S.length (fun l => t.st.h s l) := h1
  omega
theorem at_hit {t : Tb} (L : t.Ls) {s l : Nat} (hs : s < 8) (hl : l < 8) : t.H[s * 8 + l]? = some (t.st.h s l) := by
  obtain ⟨x, hx⟩ := at_some (l := t.H) (i := s * 8 + l) (by rw [L.h]; omega)
  show _ = some ((t.H[s * 8 + l]?).getD 0)
  rw [hx]; rfl
theorem Tb.Ok.used {S : List Int} {ps : List (Int × Int)} {t : Tb} (O : t.Ok S ps) (h8 : ∀ s, s < S.length → fn S s ≤ 8) {s : Nat} (hs : s < S.length) : 0 ≤ sumR S.length (fun l => t.st.h s l) ∧ sumR S.length (fun l => t.st.h s l) ≤ 8 := by
  obtain ⟨F, A⟩ := O.part
  have h2 := A.row s hs
  have h3 := h8 s hs
  exact ⟨sumR_nonneg fun q hq => A.pos s q hs hq, by omega⟩
theorem Tb.Ok.mark0 {S : List Int} {ps : List (Int × Int)} {t : Tb} (O : t.Ok S ps) (i : Nat) : (t.mark0 i).Ok S ps := ⟨O.ls.mark0 i, O.part, O.us⟩
theorem Tb.Ok.mark1 {S : List Int} {ps : List (Int × Int)} {t : Tb} (O : t.Ok S ps) (i : Nat) : (t.mark1 i).Ok S ps := ⟨O.ls.mark1 i, O.part, O.us⟩
theorem Part.ext {n : Nat} {S F : Nat → Int} {can : Nat → Nat → Prop} {h g : Nat → Nat → Int} (A : Part n S can F h) (he : ∀ s l, s < n → l < n → g s l = h s l) : Part n S can F g :=
  ⟨fun s l h1 h2 => by rw [he s l h1 h2]; exact A.pos s l h1 h2, fun s l h1 h2 h3 => A.can s l h1 h2 (by rw [← he s l h1 h2]; exact h3),
    fun s h1 => by rw [sumR_congr fun l hl => he s l h1 hl]; exact A.row s h1, fun l h1 => by rw [sumR_congr fun s hs => he s l hs h1]; exact A.col l h1⟩
/-- One hit more. -/
theorem Tb.Ok.inc {S : List Int} {ps : List (Int × Int)} {t : Tb} (O : t.Ok S ps) (h6 : S.length ≤ 8) {i l : Nat} (hi : i < S.length) (hl : l < S.length) (hc : cP ps i l) (hs : sumR S.length (fun l => t.st.h i l) < fn S i) :
    ((t.incU i (sumR S.length (fun l => t.st.h i l) + 1)).setH i l (t.st.h i l + 1)).Ok S ps := by
  obtain ⟨F, A⟩ := O.part
  have L1 := O.ls.incU i (sumR S.length (fun l => t.st.h i l) + 1)
  have he : ∀ s k, s < S.length → k < S.length → ((t.incU i (sumR S.length (fun l => t.st.h i l) + 1)).setH i l (t.st.h i l + 1)).st.h s k = Dw.upd t.st.h i l (t.st.h i l + 1) s k := fun s k _ h2 => h_setH L1 (by omega) (by omega) _ (by omega)
  refine ⟨L1.setH i l _, ⟨_, Part.ext (A.more hi hl hc hs) he⟩, fun s h1 => ?_⟩
  rw [sumR_congr fun q hq => he s q h1 hq, upd_row _ _ _ hl]
  show (t.U.set i _)[s]? = _
  rw [List.getElem?_set]
  by_cases h : i = s
  · subst h
    rw [if_pos rfl, if_pos (by rw [O.ls.u]; omega), if_pos rfl]
    congr 1; omega
  · rw [if_neg h, O.us s h1, if_neg (fun h2 => h h2.symm), Int.add_zero]
/-- A hit of another lane's is turned into one of this lane's. -/
theorem Tb.Ok.move {S : List Int} {ps : List (Int × Int)} {t : Tb} (O : t.Ok S ps) (h6 : S.length ≤ 8) {i q l : Nat} {F : Nat → Int} (A : Part S.length (fn S) (cP ps) (fun p => F p + if p = q then 1 else 0) t.st.h) (hi : i < S.length) (hq : q < S.length) (hl : l < S.length) (hne : q ≠ l) (hc : cP ps i l) (hp : 0 < t.st.h i q) :
    ((t.setH i q (t.st.h i q - 1)).setH i l (t.st.h i l + 1)).Ok S ps ∧ ∀ s k, s < S.length → k < S.length → ((t.setH i q (t.st.h i q - 1)).setH i l (t.st.h i l + 1)).st.h s k = Dw.upd (Dw.upd t.st.h i q (t.st.h i q - 1)) i l (t.st.h i l + 1) s k := by
  have L1 := O.ls.setH i q (t.st.h i q - 1)
  have he : ∀ s k, s < S.length → k < S.length → ((t.setH i q (t.st.h i q - 1)).setH i l (t.st.h i l + 1)).st.h s k = Dw.upd (Dw.upd t.st.h i q (t.st.h i q - 1)) i l (t.st.h i l + 1) s k := fun s k _ h2 => by
    rw [h_setH L1 (by omega) (by omega) _ (by omega)]
    unfold Dw.upd
    by_cases h3 : s = i ∧ k = l
    · rw [if_pos h3, if_pos h3]
    · rw [if_neg h3, if_neg h3, h_setH O.ls (by omega) (by omega) _ (by omega)]; rfl
  refine ⟨⟨L1.setH i l _, ⟨_, Part.ext (A.move hi hq hl hne hc hp) he⟩, fun s h1 => ?_⟩, he⟩
  rw [sumR_congr fun k hk => he s k h1 hk, upd_row _ _ _ hl, upd_row _ _ _ hq]
  show t.U[s]? = _
  rw [O.us s h1, upd_other (fun h => hne h.2.symm)]
  by_cases h : s = i
  · rw [if_pos h, if_pos h]; congr 1; omega
  · rw [if_neg h, if_neg h]; congr 1; omega
/-- How many skiers were not met. -/
def unm (t : Tb) : Nat → Nat
  | 0 => 0
  | n + 1 => unm t n + (match t.M0[n]? with | some true => 0 | _ => 1)
theorem unm_le {t c : Tb} : ∀ {n : Nat}, (∀ s, t.st.m0 s → c.st.m0 s) → unm c n ≤ unm t n
  | 0, _ => Nat.le_refl _
  | n + 1, h => by
    have ih := unm_le (n := n) h
    unfold unm
    by_cases h1 : t.M0[n]? = some true
    · have h2 : c.M0[n]? = some true := h n h1
      rw [h1, h2]; simp only; omega
    · have : (match t.M0[n]? with | some true => 0 | _ => 1) = 1 := by split <;> simp_all
      rw [this]
      have : (match c.M0[n]? with | some true => 0 | _ => 1) ≤ 1 := by split <;> simp
      omega
theorem unm_lt {t c : Tb} {i : Nat} : ∀ {n : Nat}, (∀ s, t.st.m0 s → c.st.m0 s) → i < n → ¬ t.st.m0 i → c.st.m0 i → unm c n < unm t n
  | 0, _, hi, _, _ => absurd hi (by omega)
  | n + 1, h, hi, h1, h2 => by
    unfold unm
    by_cases hin : i = n
    · subst hin
      have ih := unm_le (n := i) h
      have e1 : (match t.M0[i]? with | some true => 0 | _ => 1) = 1 := by
        split
        · rename_i hh; exact absurd hh h1
        · rfl
      have e2 : c.M0[i]? = some true := h2
      rw [e1, e2]; simp only; omega
    · have ih := unm_lt (n := n) h (by omega) h1 h2
      by_cases h3 : t.M0[n]? = some true
      · have h4 : c.M0[n]? = some true := h n h3
        rw [h3, h4]; simp only; omega
      · have e1 : (match t.M0[n]? with | some true => 0 | _ => 1) = 1 := by split <;> simp_all
        rw [e1]
        have : (match c.M0[n]? with | some true => 0 | _ => 1) ≤ 1 := by split <;> simp
        omega
section
variable {t : Tb} {a b c d v : V} {off i l : Nat}
theorem sH (L : t.Ls) (hi : i < 8) (hl : l < 8) (ho : off = 4 + (i * 8 + l)) {x : Int} (hv : v = .d (.int .i64 x)) : (Cells.mx [a, b, c, d] t.e).write off [v] = some (.mx [a, b, c, d] (t.setH i l x).e) := st_h L (by omega) ho hv
theorem sU (L : t.Ls) (hi : i < 8) (ho : off = 68 + i) {x : Int} (hv : v = .d (.int .i64 x)) : (Cells.mx [a, b, c, d] t.e).write off [v] = some (.mx [a, b, c, d] (t.incU i x).e) := st_u L hi ho hv
theorem sM0 (L : t.Ls) (hi : i < 8) (ho : off = 76 + i) (hv : v = .d (.bool true)) : (Cells.mx [a, b, c, d] t.e).write off [v] = some (.mx [a, b, c, d] (t.mark0 i).e) := st_m0 L hi ho hv
theorem sM1 (L : t.Ls) (hi : i < 8) (ho : off = 84 + i) (hv : v = .d (.bool true)) : (Cells.mx [a, b, c, d] t.e).write off [v] = some (.mx [a, b, c, d] (t.mark1 i).e) := st_m1 L hi ho hv
end
end Go.Proofs.Dx
end
