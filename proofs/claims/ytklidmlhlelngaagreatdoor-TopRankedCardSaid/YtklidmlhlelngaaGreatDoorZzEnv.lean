/-
  What is to be known of a program, out of the program.
-/
import Derived.Test.YtklidmlhlelngaaGreatDoorZzFn
namespace Go.Ab
open Go Go.Proofs

def allOne : List Value → Bool
  | [] => true
  | v :: l => match v.oneCell' with | true => allOne l | false => false
def shapeB : Bool → Value → Bool
  | true, .agg _ => true
  | true, _ => false
  | false, v => v.oneCell'
def zeroOf (agg : Bool) (size : Nat) (zv : Value) : Option (List D) :=
  match allOne zv.cells.toList, shapeB agg zv, Nat.beq zv.cells.toList.length size with
  | true, true, true => some (zv.cells.toList.map absS)
  | _, _, _ => none
def kindOf : Option TypeDesc → Nat
  | some .bool => 0
  | some (.int _) => 1
  | some .string => 2
  | _ => 3
/-- Fields of one cell each, one behind the other, from place n on. -/
def flatFs (P : Program) : Nat → List Field → Bool
  | _, [] => true
  | n, f :: l => match Nat.beq f.offset n, Nat.blt (kindOf (P.underlying f.type)) 3, f.name == "_" with
    | true, true, false => flatFs P (n + 1) l
    | _, _, _ => false
def flatB (P : Program) (t : Nat) (size : Nat) : Bool :=
  match P.underlying t with
  | some (.struct fs) => match flatFs P 0 fs.toList, Nat.beq fs.toList.length size, P.stoodInHeld t, P.eqGuardType P.depth t with
    | true, true, false, false => true
    | _, _, _, _ => false
  | _ => false
def kindsOf (P : Program) (t : Nat) : List Nat :=
  match P.underlying t with
  | some (.struct fs) => fs.toList.map fun f => kindOf (P.underlying f.type)
  | _ => []
def tiOf (P : Program) (t : Nat) : Option TI :=
  match P.info? t, P.underlying t with
  | some inf, some u => match Nat.blt 0 inf.bytes, Nat.blt 0 inf.size with
    | true, true => some { under := u, size := inf.size, bytes := inf.bytes, zero := match inf.zero with | some zv => zeroOf (isAggD u) inf.size zv | none => none, flat := flatB P t inf.size, kinds := kindsOf P t }
    | _, _ => none
  | _, _ => none
def fnOf (P : Program) (f : Nat) : Option Func :=
  match P.funcs[f]? with
  | some F => match F.name == "runtime.NumGoroutine" with | true => none | false => some F
  | none => none
def envOf (P : Program) (glob : Nat → Option (List D)) (keep : Nat → Nat → Option (List Nat)) : Env := ⟨tiOf P, glob, fnOf P, keep⟩

section
variable {P : Program}
theorem allOne_iff : ∀ {l : List Value}, allOne l = true → ∀ c ∈ l, c.oneCell' = true
  | [], _, c, hc => by simp at hc
  | v :: l, h, c, hc => by
    unfold allOne at h
    split at h
    · rename_i hv
      rcases List.mem_cons.1 hc with rfl | hc
      · exact hv
      · exact allOne_iff h c hc
    · cases h
theorem kindOf_0 {u : Option TypeDesc} (h : kindOf u = 0) : u = some .bool := by unfold kindOf at h; split at h <;> first | rfl | cases h
theorem kindOf_1 {u : Option TypeDesc} (h : kindOf u = 1) : ∃ k, u = some (.int k) := by unfold kindOf at h; split at h <;> first | exact ⟨_, rfl⟩ | cases h
theorem kindOf_2 {u : Option TypeDesc} (h : kindOf u = 2) : u = some .string := by unfold kindOf at h; split at h <;> first | rfl | cases h
theorem part_one {t : Nat} {xs : Array Value} {n : Nat} {v : Value} (hk : kindOf (P.underlying t) < 3) (hx : xs[n]? = some v) (w : World) : (part t xs n).run P w = .ok v w := by
  have ha : (isAgg t).run P w = .ok false w := by
    have h3 : kindOf (P.underlying t) = 0 ∨ kindOf (P.underlying t) = 1 ∨ kindOf (P.underlying t) = 2 := by omega
    rcases h3 with h | h | h
    · exact run_isAgg_plain (kindOf_0 h) rfl w
    · obtain ⟨k, h⟩ := kindOf_1 h; exact run_isAgg_plain h rfl w
    · exact run_isAgg_plain (kindOf_2 h) rfl w
  simp [part, ha, hx]
theorem cell_equal {t : Nat} {x y : D} {a b : Value} {r : Bool} {Z : Nat → Prop} {w w' : World} {ks : List Nat} {l : List D} (hp : kindOf (P.underlying t) < 3) (hf : fitL (kindOf (P.underlying t) :: ks) (x :: l) = true) (hx : VRd Z w x a) (hy : VRd Z w y b) (h : eqCell x y = some r) (d : Nat) :
    (Op.equalIn (d + 1) t a b).run P w' = .ok r w' ∧ fitL ks l = true := by
  generalize hkk : kindOf (P.underlying t) = k at hp hf
  unfold fitL at hf
  split at hf
  · have hu := kindOf_0 hkk
    cases y <;> simp only [eqCell] at h <;> try (cases h; done)
    simp only [VRd] at hx hy; subst hx hy; cases h
    exact ⟨by simp [Op.equalIn, run_underlying hu, eqB_eq], hf⟩
  · obtain ⟨q, hu⟩ := kindOf_1 hkk
    cases y <;> simp only [eqCell] at h <;> try (cases h; done)
    rename_i k n k' n'
    split at h
    · rename_i hk
      have hk := kindEq_eq hk
      simp only [VRd] at hx hy; subst hx hy hk; cases h
      exact ⟨by simp [Op.equalIn, run_underlying hu, eqI_eq]; rfl, hf⟩
    · cases h
  · have hu := kindOf_2 hkk
    cases y <;> simp only [eqCell] at h <;> try (cases h; done)
    simp only [VRd] at hx hy; subst hx hy; cases h
    refine ⟨?_, hf⟩
    simp [Op.equalIn, run_underlying hu, beq_toListBytes, eqS_eq]
  · cases hf
theorem eqFields_ok {xs ys : Array Value} {Z : Nat → Prop} {w w' : World} (d : Nat) : ∀ (fs : List Field) (n : Nat) (la lb : List D) (r : Bool), flatFs P n fs = true → fitL (fs.map fun f => kindOf (P.underlying f.type)) la = true →
    VRdL Z w la (xs.toList.drop n) → VRdL Z w lb (ys.toList.drop n) → eqCells la lb = some r → (Op.eqFields (d + 1) xs ys fs).run P w' = .ok r w'
  | [], n, la, lb, r, h1, h2, h3, h4, h5 => by
    cases la with
    | cons x la => simp [fitL] at h2
    | nil =>
      cases lb with
      | cons y lb => simp [eqCells] at h5
      | nil => simp only [eqCells, Option.some.injEq] at h5; subst h5; simp [Op.eqFields]
  | f :: fs, n, la, lb, r, h1, h2, h3, h4, h5 => by
    cases la with
    | nil => simp [fitL] at h2
    | cons x la =>
      cases lb with
      | nil => simp [eqCells] at h5
      | cons y lb =>
        unfold flatFs at h1
        split at h1
        · rename_i g1 g2 g3
          have g1 := Nat.eq_of_beq_eq_true g1
          have g2 : kindOf (P.underlying f.type) < 3 := by simpa [Nat.blt_eq] using g2
          have g3 : f.name ≠ "_" := by simpa using g3
          obtain ⟨a, as', e1, k1, k2⟩ := h3
          obtain ⟨b, bs, e2, k3, k4⟩ := h4
          have hxa : xs[n]? = some a := by
            have := congrArg (·[0]?) e1
            simpa using this
          have hyb : ys[n]? = some b := by
            have := congrArg (·[0]?) e2
            simpa using this
          have e1' : xs.toList.drop (n + 1) = as' := by rw [← List.tail_drop, e1]; rfl
          have e2' : ys.toList.drop (n + 1) = bs := by rw [← List.tail_drop, e2]; rfl
          unfold eqCells at h5
          split at h5
          · rename_i q1 q2 m1 m2
            cases h5
            obtain ⟨c1, c2⟩ := cell_equal (P := P) (w' := w') g2 h2 k1 k3 m1 d
            have ih := eqFields_ok (w' := w') d fs (n + 1) la lb q2 h1 c2 (by rw [e1']; exact k2) (by rw [e2']; exact k4) m2
            simp only [Op.eqFields, g1]
            rw [if_pos g3]
            simp only [Sem.run_bind, part_one g2 hxa, part_one g2 hyb, Result.andThen_ok, c1]
            cases q1
            · simp [andB]
            · simp [andB, ih]
          · cases h5
        · cases h1
theorem key_plain {t : Nat} {v : Value} (hk : kindOf (P.underlying t) < 3) (b : Bool) (d : Nat) (w : World) : (Instr.checkKey b (d + 1) t v).run P w = .ok () w := by
  have h3 : kindOf (P.underlying t) = 0 ∨ kindOf (P.underlying t) = 1 ∨ kindOf (P.underlying t) = 2 := by omega
  rcases h3 with h | h | h
  · simp [Instr.checkKey, run_underlying (kindOf_0 h)]
  · obtain ⟨k, h⟩ := kindOf_1 h; simp [Instr.checkKey, run_underlying h]
  · simp [Instr.checkKey, run_underlying (kindOf_2 h)]
theorem checkStruct_ok {t : Nat} {fs : Array Field} {xs : Array Value} (hu : P.underlying t = some (.struct fs)) (b : Bool) (d : Nat) (w : World) (h1 : flatFs P 0 fs.toList = true) (h2 : fs.toList.length = xs.size) :
    (Instr.checkKey b (d + 2) t (.agg xs)).run P w = .ok () w := by
  obtain ⟨ck, hck⟩ : ∃ ck, ck = Instr.checkKey b (d + 1) := ⟨_, rfl⟩
  rw [Instr.checkKey, ← hck]
  simp only [Sem.run_bind, run_underlying hu, Result.andThen_ok]
  have key : ∀ (l : List Field) (n : Nat) , flatFs P n l = true → n + l.length = xs.size →
      (forIn l PUnit.unit fun f _ => (if f.name ≠ "_" then do let x ← part f.type xs f.offset; ck f.type x; pure (ForInStep.yield PUnit.unit) else pure (ForInStep.yield PUnit.unit) : Sem (ForInStep PUnit))).run P w = .ok PUnit.unit w := by
    intro l
    induction l with
    | nil => intro n _ _; simp
    | cons f l ih =>
      intro n h1 h2
      unfold flatFs at h1
      split at h1
      · rename_i g1 g2 g3
        have g1 := Nat.eq_of_beq_eq_true g1
        have g2 : kindOf (P.underlying f.type) < 3 := by simpa [Nat.blt_eq] using g2
        have g3 : f.name ≠ "_" := by simpa using g3
        simp only [List.length_cons] at h2
        have hn : n < xs.size := by omega
        have hx : xs[n]? = some xs[n] := by simp [hn]
        rw [List.forIn_cons]
        rw [if_pos g3]
        simp only [Sem.run_bind, g1, part_one g2 hx, Result.andThen_ok, hck, key_plain g2, Sem.run_pure]
        rw [← hck]
        exact ih (n + 1) h1 (by omega)
      · cases h1
  have hk := key fs.toList 0 h1 (by omega)
  simp only [Array.forIn_toList] at hk
  first | (simp only [hk, Result.andThen_ok]; rfl) | simp [hk] | (simp at hk; simp [hk])
theorem fitL_length : ∀ {ks : List Nat} {l : List D}, fitL ks l = true → l.length = ks.length
  | [], [], _ => rfl
  | [], _ :: _, h => by simp [fitL] at h
  | _ :: _, [], h => by simp [fitL] at h
  | _ :: ks, x :: l, h => by
    unfold fitL at h
    split at h
    · simp [fitL_length h]
    · simp [fitL_length h]
    · simp [fitL_length h]
    · cases h
theorem zeroOf_ok {agg : Bool} {size : Nat} {zv : Value} {z : List D} (h : zeroOf agg size zv = some z) : z = zv.cells.toList.map absS ∧ (∀ c ∈ zv.cells.toList, c.oneCell' = true) ∧
    ((agg = true → zv = .agg zv.cells) ∧ (agg = false → zv.cells = #[zv])) ∧ z.length = size := by
  unfold zeroOf at h
  split at h
  · rename_i h1 h2 h3
    cases h
    refine ⟨rfl, allOne_iff h1, ⟨fun ha => ?_, fun ha => ?_⟩, by simpa using Nat.eq_of_beq_eq_true h3⟩
    · subst ha
      cases zv <;> simp [shapeB] at h2
      rfl
    · subst ha
      simp only [shapeB] at h2
      cases zv <;> first | rfl | simp [Value.oneCell'] at h2
  · cases h
theorem tiOf_ok {t : Nat} {i : TI} (h : tiOf P t = some i) : TIOk P t i := by
  unfold tiOf at h
  split at h
  · rename_i inf u hinf hu
    split at h
    · rename_i g1 g2
      have g1 : 0 < inf.bytes := by simpa [Nat.blt_eq] using g1
      have g2 : 0 < inf.size := by simpa [Nat.blt_eq] using g2
      cases h
      refine ⟨hu, ⟨inf, hinf, rfl, rfl, fun z hz => ?_⟩, ⟨g1, g2⟩, fun hf Z w w' la lb xs ys r hfit ha hb he => ?_, fun hf w' b xs hs _ => ?_⟩
      · simp only at hz
        split at hz
        · rename_i zv hzv
          obtain ⟨e1, e2, e3, e4⟩ := zeroOf_ok hz
          refine ⟨zv, hzv, e1, e2, ?_, e4⟩
          show (match isAggD u with | true => zv = .agg zv.cells | false => zv.cells = #[zv])
          cases ha : isAggD u with
          | true => exact e3.1 ha
          | false => exact e3.2 ha
        · cases hz
      · simp only [flatB, hu] at hf
        split at hf
        · rename_i fs hfs
          cases hfs
          split at hf
          · rename_i q1 q2 q3 q4
            have hfo : P.fieldsOf t = fs := by simp [Program.fieldsOf, hu]
            have hu' : P.underlying t = some (.struct (P.fieldsOf t)) := by rw [hfo]; exact hu
            refine ⟨?_, fun op x y => run_eqGuard_agg w' op t x y xs ys q4⟩
            show (Op.equalIn (9998 + 1 + 1) t (.agg xs) (.agg ys)).run P w' = _
            rw [run_equalIn_agg w' (9998 + 1) t xs ys hu' q3, hfo]
            simp only [kindsOf, hu] at hfit
            exact eqFields_ok 9998 fs.toList 0 la lb r q1 hfit (by simpa using ha) (by simpa using hb) he
          · cases hf
        · cases hf
      · simp only [flatB, hu] at hf
        split at hf
        · rename_i fs hfs
          cases hfs
          split at hf
          · rename_i q1 q2 q3 q4
            exact checkStruct_ok hu b 9998 w' q1 (by rw [Nat.eq_of_beq_eq_true q2, hs])
          · cases hf
        · cases hf
    · cases h
  · cases h
theorem envOf_ok (glob : Nat → Option (List D)) (keep : Nat → Nat → Option (List Nat)) (hm : P.follows .mixedOrders = true) : EnvOk (envOf P glob keep) P where
  ty := fun t i h => tiOf_ok h
  fn := fun f F h => by
    simp only [envOf, fnOf] at h
    split at h
    · rename_i F' hF
      split at h
      · cases h
      · cases h; exact hF
    · cases h
  name := fun f F h => by
    simp only [envOf, fnOf] at h
    split at h
    · rename_i F' hF
      split at h
      · cases h
      · rename_i hn; cases h; exact hn
    · cases h
  mixed := hm
end
end Go.Ab
