/-
  Code: what the abstract machine shows of a piece of code holds of the model's.
-/
import Derived.Test.YtldpapiaonchaaaGreatDoorZzAny3
import Derived.LoopNIn
section
namespace Go.Ab
open Go
section
variable {E : Env} {P : Program}
variable {m : Nat} {Z0 Z : Nat → Prop} {μ0 μ : Mu} {w0 w : World} {st : S} {a : Act} {r : Option Nat} {h : List O}

def exOf : Ex → Exit
  | .normal => .normal
  | .exit id => .exit id
  | .ret => .ret
/-- What holds behind a piece of code. -/
def QC (E : Env) (m : Nat) (Z0 : Nat → Prop) (μ0 : Mu) (w0 : World) (Q : Ex → S → Prop) : Exit → Act → World → Prop := fun e a w => ∃ x st, e = exOf x ∧ Q x st ∧ At E m Z0 μ0 w0 st a w

/-! ### Only what is reached -/
theorem Frame.sub {σ l : List Nat} (hσ : σ = List.range m ++ l) : Frame m Z μ w Z (μ.sub σ) w := by
  have hnth : ∀ b, b < m → b < σ.length ∧ nthN σ b = b := fun b hb => by
    have hlt : b < σ.length := by rw [hσ]; simp; omega
    refine ⟨hlt, ?_⟩
    have : ∀ (l : List Nat) (i : Nat), i < l.length → l[i]? = some (nthN l i) := by
      intro l
      induction l with
      | nil => intro i hi; simp at hi
      | cons a l ih => intro i hi; cases i with
        | zero => rfl
        | succ i => simpa [nthN] using ih i (by simpa using hi)
    have h1 := this σ b hlt
    rw [hσ, List.getElem?_append_left (by simpa using hb), List.getElem?_range hb] at h1
    rw [← hσ] at h1
    exact (Option.some.inj h1).symm
  have heq : ∀ b, b < m → ∀ e, μ.sub σ b e = μ b e := fun b hb e => by
    obtain ⟨h1, h2⟩ := hnth b hb
    unfold Mu.sub; rw [if_pos h1, h2]
  exact ⟨rfl, rfl, rfl, Nat.le_refl _, fun _ _ _ => rfl, fun _ h => h, fun _ h => .inl h, fun b e x c hx hc => .inl ⟨_, e, x, (Mu.sub_some hx).2, hc⟩, fun b hb e x hx => by rw [heq b hb]; exact hx, fun _ C _ _ h => ⟨C, h, rfl⟩, fun b hb hn e => by rw [heq b hb]; exact hn e⟩
theorem getT_keepT (df : D) (ts : List (Nat × V)) (t : Nat) : ∀ l : List Nat, getT .unk (keepT df ts l) t = getT df ts t ∨ getT .unk (keepT df ts l) t = .d .unk
  | [] => .inr rfl
  | s :: l => by
    simp only [keepT, getT]
    split
    · rename_i hh; rw [Nat.eq_of_beq_eq_true hh]; exact .inl rfl
    · exact getT_keepT df ts t l
theorem TR.keep {df : D} {ts : List (Nat × V)} {tmps : Array Value} (T : TR Z μ w df ts tmps) (l : List Nat) : TR Z μ w .unk (keepT df ts l) tmps := fun t => by
  rcases getT_keepT df ts t l with h | h
  · rw [h]; exact T t
  · rw [h]; trivial
theorem MkOk.sub {σ : List Nat} : ∀ {l : List Nat} {ds : List Deferred}, MkOk μ l ds → (∀ b ∈ l, b ∈ σ) → MkOk (μ.sub σ) (l.map (posN σ)) ds
  | [], _, h, _ => h
  | b :: l, _, ⟨x, c, ds', h1, h2, h3, h4⟩, hb => ⟨x, c, ds', Mu.sub_pos (hb b (List.mem_cons_self ..)) h1, h2, h3, h4.sub fun b' hb' => hb b' (List.mem_cons_of_mem _ hb')⟩
theorem checkpoint_ok {fr : Fr} {slots : List Nat} {K : S → Prop} (hk : checkpoint MP fr slots st K) (B : StOk E fr.m Z0 μ0 w0 Z μ st a w) : ∃ st', K st' ∧ At E fr.m Z0 μ0 w0 st' a w := by
  unfold checkpoint at hk
  simp only at hk
  obtain ⟨h1, hk⟩ := bB_MP hk
  obtain ⟨l, hl⟩ := reachOn_prefix st.h fr.m (st.mks ++ namesTs (keepT st.df st.ts slots))
  have hn := reachOn_nodup st.h fr.m (st.mks ++ namesTs (keepT st.df st.ts slots))
  generalize reachOn st.h fr.m (st.mks ++ namesTs (keepT st.df st.ts slots)) = σ at hk h1 hl hn
  split at h1
  · rename_i ha
    have ha := allIn_iff.1 ha
    have hc := closedIn_iff.1 h1
    refine ⟨_, hk, Z, μ.sub σ, ⟨⟨B.fr.trans (Frame.sub hl), ?_, B.sr.sub hn hc, B.nt, B.mks.sub fun b hb => ha b (by simp [hb])⟩, ?_⟩⟩
    · rw [subHeap_length, hl]; simp
    · exact (B.tr.keep slots).ren fun b hb e x hx => Mu.sub_pos (ha b (by simp [hb])) hx
  · cases h1
theorem mayCheck_ok {fr : Fr} {key : Nat} {K : S → Prop} (hk : mayCheck MP E fr key st K) (B : StOk E fr.m Z0 μ0 w0 Z μ st a w) : ∃ st', K st' ∧ At E fr.m Z0 μ0 w0 st' a w := by
  unfold mayCheck at hk
  split at hk
  · exact ⟨st, hk, Z, μ, B⟩
  · exact checkpoint_ok hk B
/-! ### Loops -/
theorem iter_ok {fr : Fr} {key : Nat} {b : Code} {body : S → (Ex → S → Prop) → Prop}
    (hb : ∀ (Q : Ex → S → Prop) (st : S) (Z : Nat → Prop) (μ : Mu) (a : Act) (w : World), body st Q → StOk E fr.m Z0 μ0 w0 Z μ st a w → b.wpIn (WF r) 0 P (QC E fr.m Z0 μ0 w0 Q) a w) (Q : Ex → S → Prop) :
    ∀ (n : Nat) (st : S) (Z : Nat → Prop) (μ : Mu) (a : Act) (w : World), iter MP (mayCheck MP E fr key) body n st Q → StOk E fr.m Z0 μ0 w0 Z μ st a w → Code.roundsIn (WF r) 0 P b (QC E fr.m Z0 μ0 w0 Q) n a w
  | 0, _, _, _, _, _, hk, _ => hk.elim
  | n + 1, st, Z, μ, a, w, hk, B => by
    unfold iter at hk
    obtain ⟨st1, hk, Z1, μ1, B1⟩ := mayCheck_ok hk B
    rw [roundsIn_succ]
    refine wpIn_mono (hb _ st1 Z1 μ1 a w hk B1) ?_
    rintro e a' w' ⟨x, st', rfl, hx, Z', μ', B'⟩
    cases x with
    | normal => exact iter_ok hb Q n st' Z' μ' a' w' hx B'
    | exit id =>
      obtain ⟨st2, h2, hat⟩ := mayCheck_ok hx B'
      exact ⟨.exit id, st2, rfl, h2, hat⟩
    | ret =>
      obtain ⟨st2, h2, hat⟩ := mayCheck_ok hx B'
      exact ⟨.ret, st2, rfl, h2, hat⟩
end
end Go.Ab
end
section
/-
  Ranges over functions.
-/
namespace Go.Ab
open Go
section
variable {E : Env} {P : Program}
variable {m : Nat} {Z0 Z : Nat → Prop} {μ0 μ : Mu} {w0 w : World} {st : S} {a : Act} {r : Option Nat} {h : List O}

/-- The frame is that of a round, of this record; or of none. -/
def RoundRel (fr : Fr) (r : Option Nat) (μ0 : Mu) : Prop := match fr.rnd with
  | none => r = none
  | some l => l < fr.m ∧ ∃ x c, μ0 l 0 = some x ∧ x.blk = some c ∧ r = some c
theorem callG_ok {C : CallP Prop} (HC : CallOk P E C) {g : V} {gv : Value} {args : List V} {cargs : Array Value} {K : V → List O → List Nat → Prop} (hk : callG MP C g args h K) (S : SR E Z μ h w) (hg : VR Z μ w g gv) (ha : VRL Z μ w args cargs.toList) :
    ∃ d f xs, (Deferred.ofValue gv cargs).run P w = .ok d w ∧ (invoke d.target d.args).run P w = .ok (.enter f xs) w ∧ CallsIn Fence.wide 0 P f xs w (Post E h.length Z μ w (Told h K)) := by
  unfold callG at hk
  split at hk
  · rename_i f fa fc
    obtain ⟨a', c', rfl, h1, h2⟩ := hg
    obtain ⟨k1, k2⟩ := callF_ok HC hk
    refine ⟨_, f, (a' ++ cargs) ++ c', rfl, by simp [invoke, run_callFunc k1], k2 Z μ w _ S ?_⟩
    simp only [Array.toList_append]
    exact (h1.toV.append ha).append h2.toV
  · rename_i f fa fc
    obtain ⟨a', c', rfl, h1, h2⟩ := hg
    obtain ⟨k1, k2⟩ := callF_ok HC hk
    refine ⟨_, f, (a' ++ cargs) ++ c', rfl, by simp [invoke, run_callFunc k1], k2 Z μ w _ S ?_⟩
    simp only [Array.toList_append]
    exact (h1.append ha).append h2
  · exact hk.elim
theorem loopTs_ok (f key : Nat) {df : D} {ts : List (Nat × V)} {tmps : Array Value} (T : TR Z μ w df ts tmps) : TR Z μ w (loopDf E f key df) (loopTs E f key df ts) tmps := by
  unfold loopDf loopTs
  cases E.keep f key with
  | none => exact T
  | some slots => exact T.keep slots
/-- What is asked behind the call. -/
def rangeK (st : S) (mk : List Nat) (n : Nat) (Q : Ex → S → Prop) : V → List O → List Nat → Prop := fun _ h3 _ =>
  match getO h3 n with
  | .loop r => match r.state with
    | .busy => False
    | _ => match r.pending with
      | none => Q .normal { st with h := setO h3 n .gone, mks := mk }
      | some .ret => Q .ret { st with h := setO h3 n .gone, mks := mk }
      | some (.exit id) => Q (.exit id) { st with h := setO h3 n .gone, mks := mk }
      | _ => False
  | _ => False
theorem range_go {C : CallP Prop} (HC : CallOk P E C) {fr : Fr} {g : Operand} {ps : Array Tmp} {asg bd : Code} {Q : Ex → S → Prop} {dn : Nat} {mk : List Nat} {ds : List Deferred} {y : Ep} {k fn key : Nat}
    (B : StOk E fr.m Z0 μ0 w0 Z μ { st with h := h, mks := mk } { a with defers := ds } w) (hy : μ dn 0 = some y) (hk : y.blk = some k)
    (hc : callG MP C (opd E st.df st.ts g) [.yield h.length] (h ++ [.loop ⟨.ready, none, fr.f, st.nt, loopTs E fr.f key st.df st.ts, loopDf E fr.f key st.df, ps.toList, asg, bd, dn⟩]) (rangeK st mk h.length Q)) :
    ∃ d f xs, (Deferred.ofValue (a.eval g) #[.func (.yield w.heap.size) #[] #[]]).run P (w.alloc (.loop ⟨.ready, none, fn, a.tmps, ps, asg, bd, k⟩)) = .ok d (w.alloc (.loop ⟨.ready, none, fn, a.tmps, ps, asg, bd, k⟩)) ∧
      (invoke d.target d.args).run P (w.alloc (.loop ⟨.ready, none, fn, a.tmps, ps, asg, bd, k⟩)) = .ok (.enter f xs) (w.alloc (.loop ⟨.ready, none, fn, a.tmps, ps, asg, bd, k⟩)) ∧
      CallsIn (WF r) 0 P f xs (w.alloc (.loop ⟨.ready, none, fn, a.tmps, ps, asg, bd, k⟩)) (rangePost (WF r) 0 P w.heap.size (QC E fr.m Z0 μ0 w0 Q) { a with defers := ds }) := by
  have hno : ∀ e, μ h.length e = none := fresh_none B.sr
  have hnt : a.tmps.size = st.nt := B.nt
  have hm : fr.m ≤ h.length := B.hm
  generalize hob : O.loop ⟨.ready, none, fr.f, st.nt, loopTs E fr.f key st.df st.ts, loopDf E fr.f key st.df, ps.toList, asg, bd, dn⟩ = ob at hc
  obtain ⟨S2, F2⟩ := (B.sr.push ob).link (b := h.length) (n := 0) (o := .loop ⟨.ready, none, fn, a.tmps, ps, asg, bd, k⟩) (by simp) hno (ob := ob) (by rw [getO_append]; simp [getO])
    (by rw [← hob]; exact ⟨rfl, rfl, rfl, rfl, rfl, hnt, loopTs_ok fr.f key B.tr, y, k, hy, hk, rfl⟩) fr.m hm
  have H2 := ext_alloc (w := w) B.sr (.loop ⟨.ready, none, fn, a.tmps, ps, asg, bd, k⟩) (μ' := μ.link h.length ⟨some w.heap.size, 0⟩) fun b' e x hx => Mu.link_old hno hx
  have hg := VR.mono H2 _ _ (B.ρ g)
  have B2 := B.step (h' := h ++ [ob]) S2 F2 H2 (by simp; omega)
  obtain ⟨d, f, xs, e1, e2, e3⟩ := callG_ok (cargs := #[.func (.yield w.heap.size) #[] #[]]) HC hc S2 hg ⟨_, [], rfl, ⟨_, _, Mu.link_new .., rfl, rfl⟩, rfl⟩
  refine ⟨d, f, xs, e1, e2, ?_⟩
  show CallsIn Fence.wide 0 P f xs _ _
  refine CallsIn.mono e3 fun e w' he => ?_
  cases e with
  | panicked _ => exact he.elim
  | outgrown => exact he.elim
  | returned cv =>
    obtain ⟨v, h3, Z', μ', ⟨σ, q1, q2, q3⟩, S3, _, F3⟩ := he
    have B3 := B2.step S3 (F3.fewer (Nat.le_trans hm (by simp))) (F3.toExt S2 (Nat.le_refl _)) (Nat.le_trans (Nat.le_trans hm (by simp)) q2)
    have hx : μ' h.length 0 = some ⟨some w.heap.size, 0⟩ := F3.ext _ (by simp) _ _ (Mu.link_new ..)
    unfold rangeK at q1
    split at q1
    · rename_i lr hlr
      have ho := S3.obj _ (S3.dom _ _ _ hx)
      rw [hlr] at ho
      obtain ⟨_, c, R, y', k', g1, g2, g3, g4, _⟩ := ho 0 _ hx
      cases g1
      have h0 : ∀ e x, μ' h.length e = some x → e = 0 := fun e x hxx => (ho e x hxx).1
      obtain ⟨w4, r1, r2, r3, r4⟩ := obj_turn (P := P) (o' := .loop { R with state := .exhausted }) (ob := .gone) S3 fr.m hx h0 rfl g2 (by intro _ _ _ hh; cases hh) (fun _ _ _ => trivial)
      have B4 := B3.step r2 r3 r4 (by rw [setO_length]; exact Nat.le_trans (Nat.le_trans hm (by simp)) q2)
      have hget : (getObj w.heap.size).run P w' = .ok (.loop R) w' := by simp only [getObj, Sem.run, g2]
      have hat : At E fr.m Z0 μ0 w0 { st with h := setO h3 h.length .gone, mks := mk } { a with defers := ds } w4 := ⟨_, _, B4⟩
      have hend : (R.state == .busy) = false → (Instr.endLoop w.heap.size).run P w' = .ok R.pending w4 := by
        intro hb
        have hb' : R.state ≠ .busy := by simpa using hb
        simp [Instr.endLoop, Instr.getLoop, hget, hb', r1]
      split at q1
      · exact q1.elim
      · rename_i hnb
        have hb : (R.state == .busy) = false := by
          rw [g3]
          cases hs : lr.state with
          | busy => exact absurd hs (by intro hh; exact hnb hh)
          | _ => rfl
        refine ⟨R.pending, w4, hend hb, ?_⟩
        rw [g4]
        split at q1
        · rename_i hp; rw [hp]; exact ⟨.normal, _, rfl, q1, hat⟩
        · rename_i hp; rw [hp]; exact wpIn_ret ⟨.ret, _, rfl, q1, hat⟩
        · rename_i id hp; rw [hp]; exact wpIn_exit ⟨.exit id, _, rfl, q1, hat⟩
        · exact q1.elim
    · exact q1.elim
theorem run_enterLoop_none (fn : Nat) (tmps : Array Value) (ps : Array Tmp) (asg bd : Code) (w : World) : (Instr.enterLoop fn tmps ps asg bd none).run P w =
    .ok ((w.alloc (.deferred (some []))).heap.size, [{ target := .collected w.heap.size, args := #[] }]) ((w.alloc (.deferred (some []))).alloc (.loop ⟨.ready, none, fn, tmps, ps, asg, bd, w.heap.size⟩)) := by
  simp [Instr.enterLoop]
theorem run_enterLoop_some (fn : Nat) (tmps : Array Value) (ps : Array Tmp) (asg bd : Code) (w : World) {c : Nat} {R : Loop} (h : w.heap[c]? = some (.loop R)) : (Instr.enterLoop fn tmps ps asg bd (some c)).run P w =
    .ok (w.heap.size, []) (w.alloc (.loop ⟨.ready, none, fn, tmps, ps, asg, bd, R.defers⟩)) := by
  have hget : (getObj c).run P w = .ok (.loop R) w := by simp only [getObj, Sem.run, h]
  simp [Instr.enterLoop, Instr.getLoop, hget]
theorem range_ok {C : CallP Prop} {Y : YieldP Prop} (HC : CallOk P E C) {L : LoopP Prop} {fr : Fr} (hr : RoundRel fr r μ0) {g : Operand} {ps : Array Tmp} {asg bd : Code} {Q : Ex → S → Prop} (hk : W MP E C Y L fr (.rangeFunc g ps asg bd) st Q) (B : StOk E fr.m Z0 μ0 w0 Z μ st a w) :
    (Code.rangeFunc g ps asg bd).wpIn (WF r) 0 P (QC E fr.m Z0 μ0 w0 Q) a w := by
  refine wpIn_rangeFunc fun fn _ => ?_
  unfold W at hk
  simp only at hk
  have res : ∀ (l : Nat) (w1 : World), (resolve a.eval (rangeCall g l) 0).run P w1 = (Deferred.ofValue (a.eval g) #[.func (.yield l) #[] #[]]).run P w1 := fun l w1 => by simp [resolve, rangeCall, Act.eval]
  cases hrnd : fr.rnd with
  | none =>
    rw [hrnd] at hk
    simp only at hk
    unfold RoundRel at hr
    rw [hrnd] at hr
    simp only at hr
    subst hr
    have hno : ∀ e, μ st.h.length e = none := fresh_none B.sr
    obtain ⟨S2, F2⟩ := (B.sr.push .dfr).link (b := st.h.length) (n := 0) (o := .deferred (some [])) (by simp) hno (ob := .dfr) (by rw [getO_append]; simp [getO]) trivial fr.m B.hm
    have H2 := ext_alloc (w := w) B.sr (.deferred (some [])) (μ' := μ.link st.h.length ⟨some w.heap.size, 0⟩) fun b' e x hx => Mu.link_old hno hx
    have B2 := B.step S2 F2 H2 (by have := B.hm; simp; omega)
    have B3 : StOk E fr.m Z0 μ0 w0 Z (μ.link st.h.length ⟨some w.heap.size, 0⟩) { st with h := st.h ++ [.dfr], mks := st.h.length :: st.mks } { a with defers := { target := .collected w.heap.size, args := #[] } :: a.defers } (w.alloc (.deferred (some []))) :=
      ⟨⟨B2.fr, B2.hm, B2.sr, B2.nt, ⟨_, _, _, Mu.link_new .., rfl, rfl, B2.mks⟩⟩, B2.tr⟩
    obtain ⟨d, f, xs, e1, e2, e3⟩ := range_go (P := P) (r := none) (fn := fn) (key := firstReg bd) HC B3 (Mu.link_new ..) rfl hk
    exact ⟨_, _, _, d, _, f, xs, _, run_enterLoop_none fn a.tmps ps asg bd w, (res _ _).trans e1, fun _ _ => trivial, e2, fun hh => by simp [WF, Fence.wide] at hh, e3⟩
  | some l =>
    rw [hrnd] at hk
    simp only at hk
    unfold RoundRel at hr
    rw [hrnd] at hr
    obtain ⟨hl, x, c, h1, h2, rfl⟩ := hr
    have hx := B.fr.ext l hl 0 x h1
    split at hk
    · rename_i lr hlr
      have ho := B.sr.obj l (B.sr.dom _ _ _ hx)
      rw [hlr] at ho
      obtain ⟨_, c', R, y, k, g1, g2, g3, g4, g5, g6, g7, g8, g9, g10, g11, g12⟩ := ho 0 x hx
      rw [h2] at g1; cases g1
      obtain ⟨d, f, xs, e1, e2, e3⟩ := range_go (P := P) (r := some c) (fn := fn) (key := firstReg bd) (ds := a.defers) HC (h := st.h) (mk := st.mks) B g10 g11 hk
      subst g12
      exact ⟨_, _, _, d, _, f, xs, _, run_enterLoop_some fn a.tmps ps asg bd w g2, (res _ _).trans e1, fun _ _ => trivial, e2, fun hh => by simp [WF, Fence.wide] at hh, e3⟩
    · exact hk.elim
end
end Go.Ab
end
section
/-
  Code, whole.
-/
namespace Go.Ab
open Go
section
variable {E : Env} {P : Program}
variable {Z0 : Nat → Prop} {μ0 : Mu} {w0 : World} {r : Option Nat}

/-- How rounds are counted. -/
def LoopOk (L : LoopP Prop) : Prop := ∀ K, L K → ∃ k, K k
theorem wpIn_scope {F : Fence} {n : Nat} {c : Code} {Q : Exit → Act → World → Prop} {a : Act} {w : World} (h : c.wpIn F n P Q a w) (hg : ∀ l a w, ¬ Q (.goto l) a w) : (Code.scope c).wpIn F n P Q a w := by
  intro b k cs hro hb hr
  have s1 : step P (lone (b.atR a (.code (.scope c) :: k)) cs w) = .next (lone (b.atR a (.code c :: .inScope c :: k)) cs w) := step_lone_go (by simp [stepG, stepG.exec, Frame.atR])
  have s2 : ∀ a w, step P (lone (b.atR a (.inScope c :: k)) cs w) = .next (lone (b.atR a k) cs w) := fun a w => step_lone_go (by simp [stepG, stepG.exec, Frame.atR])
  have h0 : (lone (b.atR a (.code (.scope c) :: k)) cs w).fenced P F := fenced_calm hb hr rfl
  obtain ⟨e, a₁, w₁, hq, harr⟩ := h b (.inScope c :: k) cs hro hb hr
  cases e with
  | normal => exact ⟨.normal, a₁, w₁, hq, .head h0 s1 (StepsIn.trans harr (.one (fenced_calm hb hr rfl) (s2 a₁ w₁)))⟩
  | exit id' =>
    have hx : exitTo id' (.inScope c :: k) = exitTo id' k := by simp [exitTo]
    exact ⟨.exit id', a₁, w₁, hq, fun k' hk => .head h0 s1 (harr.1 k' (by rw [hx]; exact hk)),
      fun hr' hk => let ⟨k₁, h1, h2⟩ := harr.2 hr' (by rw [hx]; exact hk); ⟨k₁, h1, .head h0 s1 h2⟩⟩
  | goto l => exact (hg l _ _ hq).elim
  | ret => exact ⟨_, a₁, w₁, hq, .of_steps (.one h0 s1) harr⟩
  | panic ch => exact ⟨_, a₁, w₁, hq, .of_steps (.one h0 s1) harr⟩
  | outgrown => exact ⟨_, a₁, w₁, hq, .of_steps (.one h0 s1) harr⟩
theorem W_ok (HE : EnvOk E P) {C : CallP Prop} {Y : YieldP Prop} (HC : CallOk P E C) (HY : YieldOk P E Y) {L : LoopP Prop} (HL : LoopOk L) {fr : Fr} (hr : RoundRel fr r μ0) :
    ∀ (c : Code) (Q : Ex → S → Prop) (st : S) (Z : Nat → Prop) (μ : Mu) (a : Act) (w : World), W MP E C Y L fr c st Q → StOk E fr.m Z0 μ0 w0 Z μ st a w → c.wpIn (WF r) 0 P (QC E fr.m Z0 μ0 w0 Q) a w := by
  intro c
  induction c with
  | skip => exact fun Q st Z μ a w hk B => wpIn_skip ⟨.normal, st, rfl, hk, Z, μ, B⟩
  | label l => exact fun Q st Z μ a w hk B => wpIn_label ⟨.normal, st, rfl, hk, Z, μ, B⟩
  | exit id => exact fun Q st Z μ a w hk B => wpIn_exit ⟨.exit id, st, rfl, hk, Z, μ, B⟩
  | ret => exact fun Q st Z μ a w hk B => wpIn_ret ⟨.ret, st, rfl, hk, Z, μ, B⟩
  | goto l => exact fun Q st Z μ a w hk B => hk.elim
  | refuse why => exact fun Q st Z μ a w hk B => hk.elim
  | scope b ih =>
    intro Q st Z μ a w hk B
    unfold W at hk
    refine wpIn_scope (ih Q st Z μ a w hk B) ?_
    rintro l a w ⟨x, st, he, _⟩
    cases x <;> cases he
  | region id ops draw =>
    intro Q st Z μ a w hk B
    unfold W at hk
    cases draw with
    | false =>
      refine wpIn_region (opsIn_ok HE HC HY ops.toList (List.range ops.size) st _ Z μ a w ?_ hk B fun st' a' w' h hat => ⟨.normal, st', rfl, h, hat⟩)
      apply List.ext_getElem?
      intro i
      simp only [List.getElem?_map]
      by_cases hi : i < ops.size
      · simp [hi]
      · have h1 : (List.range ops.size)[i]? = none := by rw [List.getElem?_eq_none_iff]; simp; omega
        have h2 : ops.toList[i]? = none := by rw [List.getElem?_eq_none_iff]; simp; omega
        rw [h1, h2]; rfl
    | true => exact anyIn_ok HE HC HY hk B fun st' a' w' h hat => ⟨.normal, st', rfl, h, hat⟩
  | seq x y ihx ihy =>
    intro Q st Z μ a w hk B
    unfold W at hk
    refine wpIn_seq (wpIn_mono (ihx _ st Z μ a w hk B) ?_)
    rintro e a' w' ⟨z, st', rfl, hz, Z', μ', B'⟩
    cases z with
    | normal => exact ihy Q st' Z' μ' a' w' hz B'
    | exit id => exact ⟨.exit id, st', rfl, hz, Z', μ', B'⟩
    | ret => exact ⟨.ret, st', rfl, hz, Z', μ', B'⟩
  | cond c x y ihx ihy =>
    intro Q st Z μ a w hk B
    unfold W at hk
    split at hk
    · rename_i t ht
      have hc : a.eval c = .bool t := by
        have := B.ρ c
        rw [ht] at this
        exact this
      cases t with
      | true => exact wpIn_cond_true hc (ihx Q st Z μ a w hk B)
      | false => exact wpIn_cond_false hc (ihy Q st Z μ a w hk B)
    · exact hk.elim
  | block id b ih =>
    intro Q st Z μ a w hk B
    unfold W at hk
    refine wpIn_block (wpIn_mono (ih _ st Z μ a w hk B) ?_)
    rintro e a' w' ⟨z, st', rfl, hz, hat⟩
    cases z with
    | normal => exact ⟨.normal, st', rfl, hz, hat⟩
    | exit i =>
      simp only [exOf, Exit.inBlock]
      simp only at hz
      split at hz
      · rename_i hh; rw [if_pos (Nat.eq_of_beq_eq_true hh)]; exact ⟨.normal, st', rfl, hz, hat⟩
      · rename_i hh; rw [if_neg fun h0 => by rw [h0, Nat.beq_refl] at hh; cases hh]; exact ⟨.exit i, st', rfl, hz, hat⟩
    | ret => exact ⟨.ret, st', rfl, hz, hat⟩
  | loop b ih =>
    intro Q st Z μ a w hk B
    unfold W at hk
    obtain ⟨k, hk⟩ := HL _ hk
    exact wpIn_loop_rounds k (iter_ok (fun Q st Z μ a w h B => ih Q st Z μ a w h B) Q k st Z μ a w hk B)
  | rangeFunc g ps asg bd _ _ => exact fun Q st Z μ a w hk B => range_ok HC hr hk B
end
end Go.Ab
end
