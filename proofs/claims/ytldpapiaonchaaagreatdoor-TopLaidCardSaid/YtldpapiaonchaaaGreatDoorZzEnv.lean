/-
  What is to be known of a program, out of the program.
-/
import Derived.Test.YtldpapiaonchaaaGreatDoorZzFn
import Derived.ChangeKeysEq
namespace Go.Ab
open Go Go.Proofs

def allOne : List Value → Bool
  | [] => true
  | v :: l => match v.oneCell' with | true => allOne l | false => false
def shapeB : Bool → Value → Bool
  | true, .agg _ => true
  | true, _ => false
  | false, v => v.oneCell'
def zeroOf (agg : Bool) (size : Nat) (zv : Value) : Option (List D) :=
  match allOne zv.cells.toList, shapeB agg zv, Nat.beq zv.cells.toList.length size with
  | true, true, true => some (zv.cells.toList.map absS)
  | _, _, _ => none
def kindOf : Option TypeDesc → Nat
  | some .bool => 0
  | some (.int _) => 1
  | some .string => 2
  | _ => 3
/-- The kinds of a type's cells. -/
def kindsK (P : Program) : Nat → Nat → List Nat
  | 0, _ => [3]
  | d + 1, t => match P.underlying t with
    | some .bool => [0]
    | some (.int _) => [1]
    | some .string => [2]
    | some (.struct fs) => (fs.toList.map fun f => kindsK P d f.type).flatten
    | some (.array n e) => (List.replicate n (kindsK P d e)).flatten
    | _ => [3]
def sizeB (P : Program) (t n : Nat) : Bool := match P.info? t with | some i => Nat.beq i.size n | none => false
/-- Fields one behind the other, from place n on. -/
def flatFs (ok : Nat → Bool) (ks : Nat → List Nat) : Nat → List Field → Bool
  | _, [] => true
  | n, f :: l => match Nat.beq f.offset n, ok f.type, f.name == "_" with
    | true, true, false => flatFs ok ks (n + (ks f.type).length) l
    | _, _, _ => false
/-- '==' of the type is '==' of its cells. -/
def flatT (P : Program) : Nat → Nat → Bool
  | 0, _ => false
  | d + 1, t => match P.underlying t with
    | some .bool => true
    | some (.int _) => true
    | some .string => true
    | some (.struct fs) => match flatFs (flatT P d) (kindsK P d) 0 fs.toList, sizeB P t (kindsK P (d + 1) t).length, P.stoodInHeld t with
      | true, true, false => true
      | _, _, _ => false
    | some (.array n e) => match flatT P d e, sizeB P e (kindsK P d e).length, sizeB P t (kindsK P (d + 1) t).length with
      | true, true, true => true
      | _, _, _ => false
    | _ => false
def aggU : Option TypeDesc → Bool | some u => isAggD u | none => false
def flatB (P : Program) (t : Nat) : Bool :=
  match flatT P 4 t, P.eqGuardType P.depth t, aggU (P.underlying t) with
  | true, false, true => true
  | _, _, _ => false
def kindsOf (P : Program) (t : Nat) : List Nat := kindsK P 4 t
def tiOf (P : Program) (t : Nat) : Option TI :=
  match P.info? t, P.underlying t with
  | some inf, some u => match Nat.blt 0 inf.bytes, Nat.blt 0 inf.size with
    | true, true => some { under := u, size := inf.size, bytes := inf.bytes, zero := match inf.zero with | some zv => zeroOf (isAggD u) inf.size zv | none => none, flat := flatB P t, kinds := kindsOf P t }
    | _, _ => none
  | _, _ => none
def fnOf (P : Program) (f : Nat) : Option Func :=
  match P.funcs[f]? with
  | some F => match F.name == "runtime.NumGoroutine" with | true => none | false => some F
  | none => none
def envOf (P : Program) (glob : Nat → Option (List D)) (keep : Nat → Nat → Option (List Nat)) : Env := ⟨tiOf P, glob, fnOf P, keep⟩

section
variable {P : Program}
theorem allOne_iff : ∀ {l : List Value}, allOne l = true → ∀ c ∈ l, c.oneCell' = true
  | [], _, c, hc => by simp at hc
  | v :: l, h, c, hc => by
    unfold allOne at h
    split at h
    · rename_i hv
      rcases List.mem_cons.1 hc with rfl | hc
      · exact hv
      · exact allOne_iff h c hc
    · cases h
theorem kindOf_0 {u : Option TypeDesc} (h : kindOf u = 0) : u = some .bool := by unfold kindOf at h; split at h <;> first | rfl | cases h
theorem kindOf_1 {u : Option TypeDesc} (h : kindOf u = 1) : ∃ k, u = some (.int k) := by unfold kindOf at h; split at h <;> first | exact ⟨_, rfl⟩ | cases h
theorem kindOf_2 {u : Option TypeDesc} (h : kindOf u = 2) : u = some .string := by unfold kindOf at h; split at h <;> first | rfl | cases h
theorem part_one {t : Nat} {xs : Array Value} {n : Nat} {v : Value} (hk : kindOf (P.underlying t) < 3) (hx : xs[n]? = some v) (w : World) : (part t xs n).run P w = .ok v w := by
  have ha : (isAgg t).run P w = .ok false w := by
    have h3 : kindOf (P.underlying t) = 0 ∨ kindOf (P.underlying t) = 1 ∨ kindOf (P.underlying t) = 2 := by omega
    rcases h3 with h | h | h
    · exact run_isAgg_plain (kindOf_0 h) rfl w
    · obtain ⟨k, h⟩ := kindOf_1 h; exact run_isAgg_plain h rfl w
    · exact run_isAgg_plain (kindOf_2 h) rfl w
  simp [part, ha, hx]
theorem cell_equal {t : Nat} {x y : D} {a b : Value} {r : Bool} {Z : Nat → Prop} {w w' : World} {ks : List Nat} {l : List D} (hp : kindOf (P.underlying t) < 3) (hf : fitL (kindOf (P.underlying t) :: ks) (x :: l) = true) (hx : VRd Z w x a) (hy : VRd Z w y b) (h : eqCell x y = some r) (d : Nat) :
    (Op.equalIn (d + 1) t a b).run P w' = .ok r w' ∧ fitL ks l = true := by
  generalize hkk : kindOf (P.underlying t) = k at hp hf
  unfold fitL at hf
  split at hf
  · have hu := kindOf_0 hkk
    cases y <;> simp only [eqCell] at h <;> try (cases h; done)
    simp only [VRd] at hx hy; subst hx hy; cases h
    exact ⟨by simp [Op.equalIn, run_underlying hu, eqB_eq], hf⟩
  · obtain ⟨q, hu⟩ := kindOf_1 hkk
    cases y <;> simp only [eqCell] at h <;> try (cases h; done)
    rename_i k n k' n'
    split at h
    · rename_i hk
      have hk := kindEq_eq hk
      simp only [VRd] at hx hy; subst hx hy hk; cases h
      exact ⟨by simp [Op.equalIn, run_underlying hu, eqI_eq]; rfl, hf⟩
    · cases h
  · have hu := kindOf_2 hkk
    cases y <;> simp only [eqCell] at h <;> try (cases h; done)
    simp only [VRd] at hx hy; subst hx hy; cases h
    refine ⟨?_, hf⟩
    simp [Op.equalIn, run_underlying hu, beq_toListBytes, eqS_eq]
  · cases hf
theorem key_plain {t : Nat} {v : Value} (hk : kindOf (P.underlying t) < 3) (b : Bool) (d : Nat) (w : World) : (Instr.checkKey b (d + 1) t v).run P w = .ok () w := by
  have h3 : kindOf (P.underlying t) = 0 ∨ kindOf (P.underlying t) = 1 ∨ kindOf (P.underlying t) = 2 := by omega
  rcases h3 with h | h | h
  · simp [Instr.checkKey, run_underlying (kindOf_0 h)]
  · obtain ⟨k, h⟩ := kindOf_1 h; simp [Instr.checkKey, run_underlying h]
  · simp [Instr.checkKey, run_underlying (kindOf_2 h)]
theorem fitL_append : ∀ {k1 k2 : List Nat} {l : List D}, fitL (k1 ++ k2) l = true → ∃ l1 l2, l = l1 ++ l2 ∧ l1.length = k1.length ∧ fitL k1 l1 = true ∧ fitL k2 l2 = true
  | [], k2, l, h => ⟨[], l, rfl, rfl, by unfold fitL; rfl, h⟩
  | k :: k1, k2, [], h => by simp [fitL] at h
  | k :: k1, k2, x :: l, h => by
    rw [List.cons_append] at h
    unfold fitL at h
    split at h
    all_goals first
      | (cases h; done)
      | (obtain ⟨l1, l2, e1, e2, e3, e4⟩ := fitL_append h
         refine ⟨_ :: l1, l2, by rw [e1]; rfl, by simp [e2], ?_, e4⟩
         unfold fitL
         exact e3)
theorem eqCells_append : ∀ {a c l : List D} {r : Bool}, eqCells (a ++ c) l = some r → ∃ b e r1 r2, l = b ++ e ∧ b.length = a.length ∧ eqCells a b = some r1 ∧ eqCells c e = some r2 ∧ r = andB r1 r2
  | [], c, l, r, h => ⟨[], l, true, r, rfl, rfl, by unfold eqCells; rfl, h, by cases r <;> rfl⟩
  | x :: a, c, [], r, h => by rw [List.cons_append] at h; simp [eqCells] at h
  | x :: a, c, y :: l, r, h => by
    rw [List.cons_append] at h
    unfold eqCells at h
    split at h
    · rename_i q1 q2 m1 m2
      cases h
      obtain ⟨b, e, r1, r2, e1, e2, e3, e4, e5⟩ := eqCells_append m2
      refine ⟨y :: b, e, andB q1 r1, r2, by rw [e1]; rfl, by simp [e2], ?_, e4, by subst e5; cases q1 <;> cases r1 <;> cases r2 <;> rfl⟩
      unfold eqCells
      rw [m1, e3]
    · cases h
theorem vrdl_append {Z : Nat → Prop} {w : World} : ∀ {l1 l2 : List D} {L : List Value}, VRdL Z w (l1 ++ l2) L → ∃ L1 L2, L = L1 ++ L2 ∧ L1.length = l1.length ∧ VRdL Z w l1 L1 ∧ VRdL Z w l2 L2
  | [], l2, L, h => ⟨[], L, rfl, rfl, rfl, h⟩
  | x :: l1, l2, L, h => by
    obtain ⟨a, as', e, k1, k2⟩ := h
    obtain ⟨L1, L2, e1, e2, e3, e4⟩ := vrdl_append k2
    exact ⟨a :: L1, L2, by rw [e, e1]; rfl, by simp [e2], ⟨a, L1, rfl, k1, e3⟩, e4⟩
theorem run_sizeB {t n : Nat} (h : sizeB P t n = true) (w : World) : (sizeOf t).run P w = .ok n w ∧ P.cellsOf t = n := by
  unfold sizeB at h
  split at h
  · rename_i i hi
    have h := Nat.eq_of_beq_eq_true h
    have hc : P.cellsOf t = n := by simp [Program.cellsOf, hi, h]
    exact ⟨by rw [run_sizeOf w hi, hc], hc⟩
  · cases h
theorem run_isAgg_agg {t : Nat} {u : TypeDesc} (hu : P.underlying t = some u) (ha : isAggD u = true) (w : World) : (isAgg t).run P w = .ok true w := by
  cases u <;> simp [isAggD] at ha <;> simp [isAgg, run_underlying hu]
/-- A value of the type that has these cells. -/
def IsV (P : Program) (Z : Nat → Prop) (w : World) (t : Nat) (la : List D) (a : Value) : Prop :=
  match P.underlying t with
  | some (.struct _) => ∃ xs : Array Value, a = .agg xs ∧ VRdL Z w la xs.toList
  | some (.array _ _) => ∃ xs : Array Value, a = .agg xs ∧ VRdL Z w la xs.toList
  | _ => ∃ x, la = [x] ∧ VRd Z w x a
theorem kinds_plain {d t : Nat} (h : kindOf (P.underlying t) < 3) : kindsK P (d + 1) t = [kindOf (P.underlying t)] := by
  have h3 : kindOf (P.underlying t) = 0 ∨ kindOf (P.underlying t) = 1 ∨ kindOf (P.underlying t) = 2 := by omega
  rcases h3 with h | h | h
  · simp [kindsK, kindOf_0 h, kindOf]
  · obtain ⟨k, h⟩ := kindOf_1 h; simp [kindsK, h, kindOf]
  · simp [kindsK, kindOf_2 h, kindOf]
/-- A type that is flat: plain, of fields, or of items. -/
theorem flat_cases {d t : Nat} (h : flatT P (d + 1) t = true) : kindOf (P.underlying t) < 3 ∨
    (∃ fs, P.underlying t = some (.struct fs) ∧ flatFs (flatT P d) (kindsK P d) 0 fs.toList = true ∧ sizeB P t (kindsK P (d + 1) t).length = true ∧ P.stoodInHeld t = false ∧ kindsK P (d + 1) t = (fs.toList.map fun f => kindsK P d f.type).flatten) ∨
    (∃ n e, P.underlying t = some (.array n e) ∧ flatT P d e = true ∧ sizeB P e (kindsK P d e).length = true ∧ sizeB P t (kindsK P (d + 1) t).length = true ∧ kindsK P (d + 1) t = (List.replicate n (kindsK P d e)).flatten) := by
  unfold flatT at h
  split at h
  · rename_i hu; left; simp [hu, kindOf]
  · rename_i hu; left; simp [hu, kindOf]
  · rename_i hu; left; simp [hu, kindOf]
  · rename_i fs hu
    split at h
    · rename_i h1 h2 h3
      exact .inr (.inl ⟨fs, hu, h1, h2, h3, by simp [kindsK, hu]⟩)
    · cases h
  · rename_i n e hu
    split at h
    · rename_i h1 h2 h3
      exact .inr (.inr ⟨n, e, hu, h1, h2, h3, by simp [kindsK, hu]⟩)
    · cases h
  · cases h
theorem isV_plain {Z : Nat → Prop} {w : World} {t : Nat} {la : List D} {a : Value} (h : kindOf (P.underlying t) < 3) : IsV P Z w t la a ↔ ∃ x, la = [x] ∧ VRd Z w x a := by
  unfold IsV
  split
  · rename_i hu; simp [hu, kindOf] at h
  · rename_i hu; simp [hu, kindOf] at h
  · exact Iff.rfl
theorem part_flat {d t n : Nat} {xs : Array Value} {L1 L2 : List Value} (h : flatT P d t = true) (hx : xs.toList.drop n = L1 ++ L2) (hl : L1.length = (kindsK P d t).length) (w' : World) :
    ∃ a, (part t xs n).run P w' = .ok a w' ∧ (∀ {Z w} {la : List D}, VRdL Z w la L1 → IsV P Z w t la a) ∧ (∀ u, P.underlying t = some u → isAggD u = true → ∃ ys : Array Value, a = .agg ys ∧ ys.size = (kindsK P d t).length) := by
  cases d with
  | zero => simp [flatT] at h
  | succ d =>
    rcases flat_cases h with hk | hA
    · rw [kinds_plain hk] at hl
      obtain ⟨v, rfl⟩ := List.length_eq_one_iff.1 hl
      have hv : xs[n]? = some v := by
        have := congrArg (·[0]?) hx
        simpa using this
      refine ⟨v, part_one hk hv w', fun {Z w la} hL => ?_, fun u hu ha => ?_⟩
      · rw [isV_plain hk]
        cases la with
        | nil => simp [VRdL] at hL
        | cons x la =>
          obtain ⟨a, as', e, k1, k2⟩ := hL
          cases e
          cases la with
          | nil => exact ⟨x, rfl, k1⟩
          | cons y la => obtain ⟨_, _, e, _⟩ := k2; cases e
      · exfalso
        rw [hu] at hk
        cases u <;> simp [kindOf, isAggD] at hk ha
    · have hagg : ∃ u, P.underlying t = some u ∧ isAggD u = true ∧ sizeB P t (kindsK P (d + 1) t).length = true := by
        rcases hA with ⟨fs, hu, _, h2, _⟩ | ⟨m, e, hu, _, _, h2, _⟩
        · exact ⟨_, hu, rfl, h2⟩
        · exact ⟨_, hu, rfl, h2⟩
      obtain ⟨u, hu, ha, hs⟩ := hagg
      have hex : (xs.extract n (n + (kindsK P (d + 1) t).length)).toList = L1 := by
        rw [Array.toList_extract]
        simp only [List.extract]
        rw [Nat.add_sub_cancel_left, hx, List.take_append_of_le_length (by omega), ← hl, List.take_length]
      refine ⟨.agg (xs.extract n (n + (kindsK P (d + 1) t).length)), ?_, fun {Z w la} hL => ?_, fun _ _ _ => ⟨_, rfl, by rw [← Array.length_toList, hex, hl]⟩⟩
      · simp [part, run_isAgg_agg hu ha, (run_sizeB hs w').1]
      · unfold IsV
        cases u <;> simp [isAggD] at ha
        · simp only [hu]; exact ⟨_, rfl, by rw [hex]; exact hL⟩
        · simp only [hu]; exact ⟨_, rfl, by rw [hex]; exact hL⟩
section
variable {Z : Nat → Prop} {w w' : World}
theorem eqFields_flat {d D : Nat} {xs ys : Array Value}
    (IH : ∀ (t : Nat) (la lb : List Go.Ab.D) (a b : Value) (r : Bool), flatT P d t = true → fitL (kindsK P d t) la = true → IsV P Z w t la a → IsV P Z w t lb b → eqCells la lb = some r → (Op.equalIn D t a b).run P w' = .ok r w') :
    ∀ (fs : List Field) (n : Nat) (la lb : List Go.Ab.D) (r : Bool), flatFs (flatT P d) (kindsK P d) n fs = true → fitL ((fs.map fun f => kindsK P d f.type).flatten) la = true →
      VRdL Z w la (xs.toList.drop n) → VRdL Z w lb (ys.toList.drop n) → eqCells la lb = some r → (Op.eqFields D xs ys fs).run P w' = .ok r w'
  | [], n, la, lb, r, h1, h2, h3, h4, h5 => by
    cases la with
    | cons x la => simp [fitL] at h2
    | nil =>
      cases lb with
      | cons y lb => simp [eqCells] at h5
      | nil => simp only [eqCells, Option.some.injEq] at h5; subst h5; simp [Op.eqFields]
  | f :: fs, n, la, lb, r, h1, h2, h3, h4, h5 => by
    unfold flatFs at h1
    split at h1
    · rename_i g1 g2 g3
      have g1 := Nat.eq_of_beq_eq_true g1
      have g3 : f.name ≠ "_" := by simpa using g3
      rw [List.map_cons, List.flatten_cons] at h2
      obtain ⟨l1, l2, rfl, e2, e3, e4⟩ := fitL_append h2
      obtain ⟨b1, b2, r1, r2, rfl, m2, m3, m4, rfl⟩ := eqCells_append h5
      obtain ⟨A1, A2, x1, x2, x3, x4⟩ := vrdl_append h3
      obtain ⟨B1, B2, y1, y2, y3, y4⟩ := vrdl_append h4
      obtain ⟨a, p1, p2, _⟩ := part_flat g2 x1 (by omega) w'
      obtain ⟨b, q1, q2, _⟩ := part_flat g2 y1 (by omega) w'
      have hc := IH f.type l1 b1 a b r1 g2 e3 (p2 x3) (q2 y3) m3
      have dA : xs.toList.drop (n + (kindsK P d f.type).length) = A2 := by rw [← List.drop_drop, x1, List.drop_append_of_le_length (by omega), List.drop_eq_nil_of_le (by omega)]; rfl
      have dB : ys.toList.drop (n + (kindsK P d f.type).length) = B2 := by rw [← List.drop_drop, y1, List.drop_append_of_le_length (by omega), List.drop_eq_nil_of_le (by omega)]; rfl
      have ih := eqFields_flat IH fs _ l2 b2 r2 h1 e4 (by rw [dA]; exact x4) (by rw [dB]; exact y4) m4
      simp only [Op.eqFields, g1]
      rw [if_pos g3]
      simp only [Sem.run_bind, p1, q1, Result.andThen_ok, hc]
      cases r1
      · simp [andB]
      · simp [andB, ih]
    · cases h1
theorem eqItems_flat {d D e c : Nat} {xs ys : Array Value} (hc : c = (kindsK P d e).length) (hT : flatT P d e = true)
    (IH : ∀ (t : Nat) (la lb : List Go.Ab.D) (a b : Value) (r : Bool), flatT P d t = true → fitL (kindsK P d t) la = true → IsV P Z w t la a → IsV P Z w t lb b → eqCells la lb = some r → (Op.equalIn D t a b).run P w' = .ok r w') :
    ∀ (m j : Nat) (la lb : List Go.Ab.D) (r : Bool), fitL ((List.replicate m (kindsK P d e)).flatten) la = true →
      VRdL Z w la (xs.toList.drop (j * c)) → VRdL Z w lb (ys.toList.drop (j * c)) → eqCells la lb = some r → (Op.eqItems D e c xs ys (List.range' j m)).run P w' = .ok r w'
  | 0, j, la, lb, r, h2, h3, h4, h5 => by
    cases la with
    | cons x la => simp [fitL] at h2
    | nil =>
      cases lb with
      | cons y lb => simp [eqCells] at h5
      | nil => simp only [eqCells, Option.some.injEq] at h5; subst h5; simp [Op.eqItems]
  | m + 1, j, la, lb, r, h2, h3, h4, h5 => by
    rw [List.replicate_succ, List.flatten_cons] at h2
    obtain ⟨l1, l2, rfl, e2, e3, e4⟩ := fitL_append h2
    obtain ⟨b1, b2, r1, r2, rfl, m2, m3, m4, rfl⟩ := eqCells_append h5
    obtain ⟨A1, A2, x1, x2, x3, x4⟩ := vrdl_append h3
    obtain ⟨B1, B2, y1, y2, y3, y4⟩ := vrdl_append h4
    obtain ⟨a, p1, p2, _⟩ := part_flat hT x1 (by omega) w'
    obtain ⟨b, q1, q2, _⟩ := part_flat hT y1 (by omega) w'
    have hcc := IH e l1 b1 a b r1 hT e3 (p2 x3) (q2 y3) m3
    have hj : (j + 1) * c = j * c + c := by rw [Nat.add_mul]; omega
    have dA : xs.toList.drop ((j + 1) * c) = A2 := by rw [hj, ← List.drop_drop, x1, List.drop_append_of_le_length (by omega), List.drop_eq_nil_of_le (by omega)]; rfl
    have dB : ys.toList.drop ((j + 1) * c) = B2 := by rw [hj, ← List.drop_drop, y1, List.drop_append_of_le_length (by omega), List.drop_eq_nil_of_le (by omega)]; rfl
    have ih := eqItems_flat hc hT IH m (j + 1) l2 b2 r2 e4 (by rw [dA]; exact x4) (by rw [dB]; exact y4) m4
    rw [List.range'_succ]
    simp only [Op.eqItems, Sem.run_bind, p1, q1, Result.andThen_ok, hcc]
    cases r1
    · simp [andB]
    · simp [andB, ih]
theorem eq_flat (n : Nat) : ∀ (d t : Nat) (la lb : List Go.Ab.D) (a b : Value) (r : Bool), flatT P d t = true → fitL (kindsK P d t) la = true → IsV P Z w t la a → IsV P Z w t lb b → eqCells la lb = some r →
    (Op.equalIn (n + d) t a b).run P w' = .ok r w'
  | 0, _, _, _, _, _, _, h, _, _, _, _ => by simp [flatT] at h
  | d + 1, t, la, lb, a, b, r, h, hf, ha, hb, he => by
    have IH := eq_flat n d
    rcases flat_cases h with hk | ⟨fs, hu, k1, k2, k3, k4⟩ | ⟨m, e, hu, k1, k2, k3, k4⟩
    · rw [isV_plain hk] at ha hb
      obtain ⟨x, rfl, ha⟩ := ha
      obtain ⟨y, rfl, hb⟩ := hb
      rw [kinds_plain hk] at hf
      unfold eqCells at he
      split at he
      · rename_i q1 q2 m1 m2
        cases he
        simp only [eqCells, Option.some.injEq] at m2
        subst m2
        have := (cell_equal (P := P) (w' := w') hk hf ha hb m1 (n + d)).1
        rw [show n + (d + 1) = n + d + 1 by omega, this]
        cases q1 <;> rfl
      · cases he
    · unfold IsV at ha hb
      simp only [hu] at ha hb
      obtain ⟨xs, rfl, ha⟩ := ha
      obtain ⟨ys, rfl, hb⟩ := hb
      have hfo : P.fieldsOf t = fs := by simp [Program.fieldsOf, hu]
      have hu' : P.underlying t = some (.struct (P.fieldsOf t)) := by rw [hfo]; exact hu
      rw [show n + (d + 1) = n + d + 1 by omega, run_equalIn_agg w' (n + d) t xs ys hu' k3, hfo]
      rw [k4] at hf
      exact eqFields_flat IH fs.toList 0 la lb r k1 hf (by simpa using ha) (by simpa using hb) he
    · unfold IsV at ha hb
      simp only [hu] at ha hb
      obtain ⟨xs, rfl, ha⟩ := ha
      obtain ⟨ys, rfl, hb⟩ := hb
      have hi : ∃ i, P.info? e = some i := by
        unfold sizeB at k2
        split at k2
        · exact ⟨_, by assumption⟩
        · cases k2
      obtain ⟨i, hi⟩ := hi
      rw [show n + (d + 1) = n + d + 1 by omega, run_equalIn_array w' (n + d) xs ys hu hi, (run_sizeB k2 w').2, List.range_eq_range']
      rw [k4] at hf
      exact eqItems_flat rfl k1 IH m 0 la lb r hf (by simpa using ha) (by simpa using hb) he
end
/-- A value that has the type's size. -/
def IsS (P : Program) (d t : Nat) (a : Value) : Prop := ∀ u, P.underlying t = some u → isAggD u = true → ∃ ys : Array Value, a = .agg ys ∧ ys.size = (kindsK P d t).length
theorem part_size {d t n : Nat} {xs : Array Value} (h : flatT P d t = true) (hl : n + (kindsK P d t).length ≤ xs.size) (w : World) : ∃ a, (part t xs n).run P w = .ok a w ∧ IsS P d t a := by
  obtain ⟨a, p1, _, p3⟩ := part_flat (L1 := (xs.toList.drop n).take (kindsK P d t).length) (L2 := (xs.toList.drop n).drop (kindsK P d t).length) h (List.take_append_drop _ _).symm (by simp; omega) w
  exact ⟨a, p1, p3⟩
theorem key_flat (b : Bool) (n : Nat) (w : World) : ∀ (d t : Nat) (a : Value), flatT P d t = true → IsS P d t a → (Instr.checkKey b (n + d) t a).run P w = .ok () w
  | 0, _, _, h, _ => by simp [flatT] at h
  | d + 1, t, a, h, hs => by
    have IH := key_flat b n w d
    obtain ⟨ck, hck⟩ : ∃ ck, ck = Instr.checkKey b (n + d) := ⟨_, rfl⟩
    rcases flat_cases h with hk | ⟨fs, hu, k1, k2, k3, k4⟩ | ⟨m, e, hu, k1, k2, k3, k4⟩
    · exact key_plain hk b (n + d) w
    · obtain ⟨xs, rfl, hx⟩ := hs _ hu rfl
      rw [show n + (d + 1) = n + d + 1 by omega, Instr.checkKey, ← hck]
      simp only [Sem.run_bind, run_underlying hu, Result.andThen_ok]
      have key : ∀ (l : List Field) (p : Nat), flatFs (flatT P d) (kindsK P d) p l = true → p + ((l.map fun f => kindsK P d f.type).flatten).length ≤ xs.size →
          (forIn l PUnit.unit fun f _ => (if f.name ≠ "_" then do let x ← part f.type xs f.offset; ck f.type x; pure (ForInStep.yield PUnit.unit) else pure (ForInStep.yield PUnit.unit) : Sem (ForInStep PUnit))).run P w = .ok PUnit.unit w := by
        intro l
        induction l with
        | nil => intro p _ _; simp
        | cons f l ih =>
          intro p h1 h2
          unfold flatFs at h1
          split at h1
          · rename_i g1 g2 g3
            have g1 := Nat.eq_of_beq_eq_true g1
            have g3 : f.name ≠ "_" := by simpa using g3
            rw [List.map_cons, List.flatten_cons, List.length_append] at h2
            obtain ⟨x, p1, p2⟩ := part_size (P := P) (xs := xs) (n := p) g2 (by omega) w
            have hc := IH f.type x g2 p2
            rw [← hck] at hc
            rw [List.forIn_cons]
            rw [if_pos g3]
            simp only [Sem.run_bind, g1, p1, Result.andThen_ok, hc, Sem.run_pure]
            exact ih _ h1 (by omega)
          · cases h1
      have hk := key fs.toList 0 k1 (by rw [← k4]; omega)
      simp only [Array.forIn_toList] at hk
      first | (simp only [hk, Result.andThen_ok]; rfl) | simp [hk] | (simp at hk; simp [hk])
    · obtain ⟨xs, rfl, hx⟩ := hs _ hu rfl
      rw [show n + (d + 1) = n + d + 1 by omega, Instr.checkKey, ← hck]
      simp only [Sem.run_bind, run_underlying hu, Result.andThen_ok]
      simp only [Std.Legacy.Range.forIn_eq_forIn_range', Std.Legacy.Range.size, Nat.sub_zero, Nat.add_one_sub_one, Nat.div_one]
      have key : ∀ (q j : Nat), (j + q) * (kindsK P d e).length ≤ xs.size →
          (forIn (List.range' j q) PUnit.unit fun i _ => (do let s ← sizeOf e; let x ← part e xs (i * s); ck e x; pure (ForInStep.yield PUnit.unit) : Sem (ForInStep PUnit))).run P w = .ok PUnit.unit w := by
        intro q
        induction q with
        | zero => intro j _; simp
        | succ q ih =>
          intro j hj
          have hle : j * (kindsK P d e).length + (kindsK P d e).length ≤ xs.size := by
            have : (j + 1) * (kindsK P d e).length ≤ (j + (q + 1)) * (kindsK P d e).length := Nat.mul_le_mul_right _ (by omega)
            rw [Nat.add_mul] at this
            omega
          obtain ⟨x, p1, p2⟩ := part_size (P := P) (xs := xs) (n := j * (kindsK P d e).length) k1 hle w
          have hc := IH e x k1 p2
          rw [← hck] at hc
          rw [List.range'_succ, List.forIn_cons]
          simp only [Sem.run_bind, (run_sizeB k2 w).1, p1, Result.andThen_ok, hc, Sem.run_pure]
          exact ih _ (by rw [show j + 1 + q = j + (q + 1) by omega]; exact hj)
      have hk := key m 0 (by rw [hx, k4, Nat.zero_add]; simp)
      first | (simp only [hk, Result.andThen_ok]; rfl) | simp [hk] | (simp at hk; simp [hk])
theorem fitL_length : ∀ {ks : List Nat} {l : List D}, fitL ks l = true → l.length = ks.length
  | [], [], _ => rfl
  | [], _ :: _, h => by simp [fitL] at h
  | _ :: _, [], h => by simp [fitL] at h
  | _ :: ks, x :: l, h => by
    unfold fitL at h
    split at h
    · simp [fitL_length h]
    · simp [fitL_length h]
    · simp [fitL_length h]
    · cases h
theorem zeroOf_ok {agg : Bool} {size : Nat} {zv : Value} {z : List D} (h : zeroOf agg size zv = some z) : z = zv.cells.toList.map absS ∧ (∀ c ∈ zv.cells.toList, c.oneCell' = true) ∧
    ((agg = true → zv = .agg zv.cells) ∧ (agg = false → zv.cells = #[zv])) ∧ z.length = size := by
  unfold zeroOf at h
  split at h
  · rename_i h1 h2 h3
    cases h
    refine ⟨rfl, allOne_iff h1, ⟨fun ha => ?_, fun ha => ?_⟩, by simpa using Nat.eq_of_beq_eq_true h3⟩
    · subst ha
      cases zv <;> simp [shapeB] at h2
      rfl
    · subst ha
      simp only [shapeB] at h2
      cases zv <;> first | rfl | simp [Value.oneCell'] at h2
  · cases h
theorem tiOf_ok {t : Nat} {i : TI} (h : tiOf P t = some i) : TIOk P t i := by
  unfold tiOf at h
  split at h
  · rename_i inf u hinf hu
    split at h
    · rename_i g1 g2
      have g1 : 0 < inf.bytes := by simpa [Nat.blt_eq] using g1
      have g2 : 0 < inf.size := by simpa [Nat.blt_eq] using g2
      cases h
      refine ⟨hu, ⟨inf, hinf, rfl, rfl, fun z hz => ?_⟩, ⟨g1, g2⟩, fun hf Z w w' la lb xs ys r hfit ha hb he => ?_, fun hf w' b xs hs _ => ?_⟩
      · simp only at hz
        split at hz
        · rename_i zv hzv
          obtain ⟨e1, e2, e3, e4⟩ := zeroOf_ok hz
          refine ⟨zv, hzv, e1, e2, ?_, e4⟩
          show (match isAggD u with | true => zv = .agg zv.cells | false => zv.cells = #[zv])
          cases ha : isAggD u with
          | true => exact e3.1 ha
          | false => exact e3.2 ha
        · cases hz
      · have hf : flatB P t = true := hf
        unfold flatB at hf
        split at hf
        · rename_i q1 q2 q3
          refine ⟨?_, fun op x y => run_eqGuard_agg w' op t x y xs ys q2⟩
          have hI : ∀ {l : List D} {vs : Array Value}, VRdL Z w l vs.toList → IsV P Z w t l (.agg vs) := by
            intro l vs hl
            rw [hu] at q3
            simp only [aggU] at q3
            unfold IsV
            cases u <;> simp [isAggD] at q3
            · simp only [hu]; exact ⟨_, rfl, hl⟩
            · simp only [hu]; exact ⟨_, rfl, hl⟩
          exact eq_flat 9996 4 t la lb (.agg xs) (.agg ys) r q1 hfit (hI ha) (hI hb) he
        · cases hf
      · have hf : flatB P t = true := hf
        unfold flatB at hf
        split at hf
        · rename_i q1 q2 q3
          refine key_flat b 9996 w' 4 t (.agg xs) q1 fun u' hu' ha => ⟨xs, rfl, ?_⟩
          rw [hs]
          have hz : sizeB P t (kindsK P 4 t).length = true := by
            rcases flat_cases q1 with hk | ⟨fs, hu2, _, k2, _⟩ | ⟨m, e, hu2, _, _, k3, _⟩
            · exfalso
              rw [hu'] at hk
              cases u' <;> simp [kindOf, isAggD] at hk ha
            · exact k2
            · exact k3
          have := Nat.eq_of_beq_eq_true (show Nat.beq inf.size (kindsK P 4 t).length = true by unfold sizeB at hz; simpa only [hinf] using hz)
          exact this
        · cases hf
    · cases h
  · cases h
theorem envOf_ok (glob : Nat → Option (List D)) (keep : Nat → Nat → Option (List Nat)) (hm : P.follows .mixedOrders = true) : EnvOk (envOf P glob keep) P where
  ty := fun t i h => tiOf_ok h
  fn := fun f F h => by
    simp only [envOf, fnOf] at h
    split at h
    · rename_i F' hF
      split at h
      · cases h
      · cases h; exact hF
    · cases h
  name := fun f F h => by
    simp only [envOf, fnOf] at h
    split at h
    · rename_i F' hF
      split at h
      · cases h
      · rename_i hn; cases h; exact hn
    · cases h
  mixed := hm
end
end Go.Ab
