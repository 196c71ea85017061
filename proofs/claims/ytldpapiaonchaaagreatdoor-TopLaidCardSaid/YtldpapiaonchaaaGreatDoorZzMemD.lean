/-
  The abstract machine's operations that change a block do what the model's do.
-/
import Derived.Test.YtldpapiaonchaaaGreatDoorZzMemA
import Derived.Laws.Append
section
namespace Go.Ab
open Go
section
variable {E : Env} {P : Program} {Z : Nat → Prop} {μ : Mu} {w : World} {h : List O}

/-- Only block c has turned. -/
structure But (c : Nat) (w w' : World) : Prop where
  os : w'.os = w.os
  tape : w'.tape = w.tape
  output : w'.output = w.output
  size : w'.heap.size = w.heap.size
  keep : ∀ c', c' ≠ c → w'.heap[c']? = w.heap[c']?
theorem But.refl (c : Nat) (w : World) : But c w w := ⟨rfl, rfl, rfl, rfl, fun _ _ => rfl⟩
theorem But.trans {c : Nat} {w w1 w2 : World} (h : But c w w1) (k : But c w1 w2) : But c w w2 :=
  ⟨k.os.trans h.os, k.tape.trans h.tape, k.output.trans h.output, k.size.trans h.size, fun c' hc => (k.keep c' hc).trans (h.keep c' hc)⟩
theorem But.setCell (w : World) (c o : Nat) (v : Value) : But c w (w.setCell ⟨c, o, none⟩ v) := by
  refine ⟨rfl, rfl, rfl, by simp [World.setCell], fun c' hc => ?_⟩
  simp only [World.setCell]
  rw [Array.getElem?_modify, if_neg (Ne.symm hc)]
theorem setCell_heap (w : World) (c o : Nat) (v : Value) (C : Array Value) (el : TypeId) (fr : Nat × Nat) (hc : w.heap[c]? = some (.cells C el fr)) : (w.setCell ⟨c, o, none⟩ v).heap[c]? = some (.cells (C.setIfInBounds o v) el fr) := by
  simp only [World.setCell]
  rw [Array.getElem?_modify, if_pos rfl, hc]
  simp
theorem run_storeRow (c o : Nat) (el : TypeId) (fr : Nat × Nat) : ∀ (vs : List Value) (i : Nat) (C : Array Value) (w : World), w.heap[c]? = some (.cells C el fr) → Free fr C.size → o + i + vs.length ≤ C.size → (∀ v ∈ vs, v.oneCell' = true) →
    ∃ w' C', (storeCells ⟨c, o, none⟩ vs i).run P w = .ok () w' ∧ But c w w' ∧ w'.heap[c]? = some (.cells C' el fr) ∧ C'.toList = wr C.toList (o + i) vs
  | [], i, C, w, hc, _, _, _ => ⟨w, C, rfl, But.refl c w, hc, by rw [wr_nil]⟩
  | v :: rest, i, C, w, hc, hf, hl, h1 => by
    have hi : o + i < C.size := by simp at hl; omega
    have hcell : w.cell? ⟨c, o + i, none⟩ = some C[o + i] := by simp [World.cell?, hc, hi]
    have hfro : w.frozen? ⟨c, o + i, none⟩ = false := by
      have := hf (o + i) hi
      simp only [World.frozen?, hc]
      simpa using this
    have hst : (store ((⟨c, o, none⟩ : Addr).add i) v).run P w = .ok () (w.setCell ⟨c, o + i, none⟩ v) := by
      rw [add_off, run_store P w _ v _ (h1 v (by simp)), hcell]
      simp [hfro]
    obtain ⟨w', C', g1, g2, g3, g4⟩ := run_storeRow c o el fr rest (i + 1) (C.setIfInBounds (o + i) v) (w.setCell ⟨c, o + i, none⟩ v) (setCell_heap w c _ v C el fr hc) (by simpa using hf) (by simp at hl ⊢; omega) (fun x hx => h1 x (by simp [hx]))
    refine ⟨w', C', by simp only [storeCells, Sem.run_bind, hst, Result.andThen_ok, g1], (But.setCell w c _ v).trans g2, g3, ?_⟩
    rw [g4, wr_step, Array.toList_setIfInBounds]
    rfl

/-- One object turns. -/
theorem SR.change (S : SR E Z μ h w) {b : Nat} (hb : b < h.length) {w' : World} {μ' : Mu} {o' : O} (m : Nat) (hex : ∃ e x, μ b e = some x)
    (os : w'.os = w.os) (tape : w'.tape = w.tape) (output : w'.output = w.output) (size : w.heap.size ≤ w'.heap.size)
    (keep : ∀ c, c < w.heap.size → (∀ e x, μ b e = some x → x.blk ≠ some c) → w'.heap[c]? = w.heap[c]?)
    (cells : ∀ (c : Nat) C el fr, w.heap[c]? = some (.cells C el fr) → ∃ C', w'.heap[c]? = some (.cells C' el fr) ∧ C'.size = C.size)
    (mo : ∀ b' e, b' ≠ b → μ' b' e = μ b' e) (mb : ∀ e x, μ b e = some x → μ' b e = some x)
    (mn : ∀ e x c, μ' b e = some x → x.blk = some c → (∃ e0 x0, μ b e0 = some x0 ∧ x0.blk = some c) ∨ (w.heap.size ≤ c ∧ c < w'.heap.size))
    (hO : Ext Z μ w Z μ' w' → OR Z μ' w' b o') : SR E Z μ' (setO h b o') w' ∧ Frame m Z μ w Z μ' w' ∧ Ext Z μ w Z μ' w' := by
  have zw : ∀ c, Z c → w'.heap[c]? = w.heap[c]? := fun c hc => keep c (S.zlt c hc) fun e x hx hx2 => (S.own b e x c hx hx2).2 hc
  have hm : ∀ b' e x, μ b' e = some x → μ' b' e = some x := by
    intro b' e x hx
    by_cases hne : b' = b
    · subst hne; exact mb e x hx
    · rw [mo b' e hne]; exact hx
  have H : Ext Z μ w Z μ' w' := ⟨fun _ hc => hc, zw, hm, cells⟩
  have blks : ∀ b' e x c, μ' b' e = some x → x.blk = some c → (∃ b0 e0 x0, μ b0 e0 = some x0 ∧ x0.blk = some c ∧ b0 = b') ∨ (b' = b ∧ w.heap.size ≤ c ∧ c < w'.heap.size) := by
    intro b' e x c hx hc
    by_cases hne : b' = b
    · subst hne
      rcases mn e x c hx hc with ⟨e0, x0, k1, k2⟩ | k
      · exact .inl ⟨b', e0, x0, k1, k2, rfl⟩
      · exact .inr ⟨rfl, k⟩
    · rw [mo b' e hne] at hx
      exact .inl ⟨b', e, x, hx, hc, rfl⟩
  refine ⟨⟨?_, ?_, ?_, ?_, ?_, ?_⟩, ?_, H⟩
  · intro c hc; have := S.zlt c hc; omega
  · intro b' hb'
    rw [setO_length] at hb'
    rw [getO_setO]
    by_cases hne : b' = b
    · rw [if_pos ⟨hne, hb⟩, hne]; exact hO H
    · rw [if_neg (by simp [hne])]
      refine OR.mono H (S.obj b' hb') (fun e x hx => by rwa [mo b' e hne] at hx) fun e x c hx hc => ?_
      refine keep c (S.own b' e x c hx hc).1 fun e2 x2 hx2 hc2 => hne (S.inj b' b e e2 x x2 c hx hx2 hc hc2)
  · intro b' e x hx
    rw [setO_length]
    by_cases hne : b' = b
    · rw [hne]; exact hb
    · rw [mo b' e hne] at hx; exact S.dom b' e x hx
  · intro b' e x c hx hc
    rcases blks b' e x c hx hc with ⟨b0, e0, x0, k1, k2, _⟩ | ⟨_, k1, k2⟩
    · obtain ⟨g1, g2⟩ := S.own b0 e0 x0 c k1 k2
      exact ⟨by omega, g2⟩
    · exact ⟨k2, fun hz => by have := S.zlt c hz; omega⟩
  · intro b1 b2 e1 e2 x1 x2 c h1 h2 c1 c2
    rcases blks b1 e1 x1 c h1 c1 with ⟨b0, e0, x0, k1, k2, k3⟩ | ⟨j1, j2, j3⟩ <;> rcases blks b2 e2 x2 c h2 c2 with ⟨b0', e0', x0', l1, l2, l3⟩ | ⟨i1, i2, i3⟩
    · rw [← k3, ← l3]; exact S.inj b0 b0' e0 e0' x0 x0' c k1 l1 k2 l2
    · have := (S.own b0 e0 x0 c k1 k2).1; omega
    · have := (S.own b0' e0' x0' c l1 l2).1; omega
    · rw [j1, i1]
  · exact glob_mono H.z H.zw S.glob
  · refine ⟨os, tape, output, size, fun c hc hn => keep c hc fun e x hx => hn b e x hx, H.z, fun c hc => .inl hc, ?_, fun b' _ e x hx => hm b' e x hx, cells, fun b' _ hn e => by
      by_cases hne : b' = b
      · subst hne; obtain ⟨e0, x0, h0⟩ := hex; rw [hn] at h0; cases h0
      · rw [mo b' e hne]; exact hn e⟩
    intro b' e x c hx hc
    rcases blks b' e x c hx hc with ⟨b0, e0, x0, k1, k2, _⟩ | ⟨_, k1, _⟩
    · exact .inl ⟨b0, e0, x0, k1, k2⟩
    · exact .inr k1
theorem But.cells {c : Nat} {w' : World} (hB : But c w w') {C C' : Array Value} {el : TypeId} {fr : Nat × Nat} (h1 : w.heap[c]? = some (.cells C el fr)) (h2 : w'.heap[c]? = some (.cells C' el fr)) (hs : C'.size = C.size) :
    ∀ (d : Nat) D el' fr', w.heap[d]? = some (.cells D el' fr') → ∃ D', w'.heap[d]? = some (.cells D' el' fr') ∧ D'.size = D.size := by
  intro d D el' fr' hd
  by_cases hne : d = c
  · subst hne
    rw [h1] at hd; cases hd
    exact ⟨C', h2, hs⟩
  · exact ⟨D, by rw [hB.keep d hne]; exact hd, rfl⟩
theorem write_spec {c c' : Cells} {off : Nat} {vals : List V} (hw : c.write off vals = some c') : off + vals.length ≤ c.toV.length ∧ c'.toV = wr c.toV off vals := by
  unfold Cells.write at hw
  split at hw
  · cases hw
  rename_i hle
  have hle := Nat.le_of_ble_eq_true hle
  have hl : c.len = c.toV.length := by cases c <;> simp [Cells.len, Cells.toV]
  refine ⟨by omega, ?_⟩
  have key : ∀ (l xs : List D) (off : Nat), (wr l off xs).map V.d = wr (l.map .d) off (xs.map .d) := by
    intro l
    induction l with
    | nil => intro xs off; cases xs <;> cases off <;> simp [wr]
    | cons a l ih =>
      intro xs off
      cases xs with
      | nil => cases off <;> simp [wr]
      | cons x xs => cases off with
        | zero => simp [wr, ih]
        | succ n => have := ih (x :: xs) n; simp only [List.map_cons] at this; simp [wr, this]
  cases c with
  | ds l =>
    cases hx : allD vals with
    | none => rw [hx] at hw; simp only [Option.some.injEq] at hw; subst hw; rfl
    | some xs =>
      rw [hx] at hw; simp only [Option.some.injEq] at hw; subst hw
      rw [allD_spec hx]
      exact key l xs off
  | vs l => simp only [Option.some.injEq] at hw; subst hw; rfl
  | mx p t =>
    have up : ∀ (p : List V) (q xs : List V) (off : Nat), p.length ≤ off → wr (p ++ q) off xs = p ++ wr q (off - p.length) xs := by
      intro p
      induction p with
      | nil => intro q xs off _; rfl
      | cons a p ih =>
        intro q xs off ho
        obtain ⟨o', rfl⟩ : ∃ o', off = o' + 1 := ⟨off - 1, by simp at ho; omega⟩
        have := ih q xs o' (by simpa using ho)
        cases xs with
        | nil => rw [wr_nil, wr_nil]
        | cons x xs =>
          show a :: wr (p ++ q) o' (x :: xs) = _
          rw [this]
          simp
    have down : ∀ (p : List V) (q xs : List V) (off : Nat), off + xs.length ≤ p.length → wr (p ++ q) off xs = wr p off xs ++ q := by
      intro p
      induction p with
      | nil => intro q xs off ho; have : xs = [] := List.eq_nil_of_length_eq_zero (by simp only [List.length_nil] at ho; omega); subst this; rw [wr_nil, wr_nil]
      | cons a p ih =>
        intro q xs off ho
        cases xs with
        | nil => rw [wr_nil, wr_nil]
        | cons x xs => cases off with
          | zero =>
            show x :: wr (p ++ q) 0 xs = x :: (wr p 0 xs ++ q)
            rw [ih q xs 0 (by simp at ho ⊢; omega)]
          | succ o' =>
            show a :: wr (p ++ q) o' (x :: xs) = a :: (wr p o' (x :: xs) ++ q)
            rw [ih q (x :: xs) o' (by simp at ho ⊢; omega)]
    cases hx : allD vals with
    | none => rw [hx] at hw; simp only [Option.some.injEq] at hw; subst hw; rfl
    | some xs =>
      rw [hx] at hw; simp only at hw
      have hv := allD_spec hx
      split at hw
      · rename_i hb
        have hb := Nat.le_of_ble_eq_true hb
        cases hw
        simp only [Cells.toV]
        rw [up p _ _ _ hb, key, hv]
      · split at hw
        · rename_i hb
          have hb := Nat.le_of_ble_eq_true hb
          cases hw
          simp only [Cells.toV]
          rw [down p _ _ _ hb]
        · cases hw; rfl
theorem wr_getElem? {α : Type} : ∀ (l : List α) (off : Nat) (xs : List α) (i : Nat), off + xs.length ≤ l.length → (wr l off xs)[i]? = if off ≤ i ∧ i < off + xs.length then xs[i - off]? else l[i]?
  | l, off, [], i, _ => by rw [wr_nil]; simp; omega
  | [], off, x :: xs, i, h => by simp at h
  | a :: l, 0, x :: xs, 0, h => by simp [wr]
  | a :: l, 0, x :: xs, i + 1, h => by
    simp only [wr, List.getElem?_cons_succ]
    rw [wr_getElem? l 0 xs i (by simp at h ⊢; omega)]
    simp
  | a :: l, off + 1, x :: xs, 0, h => by simp [wr]
  | a :: l, off + 1, x :: xs, i + 1, h => by
    simp only [wr, List.getElem?_cons_succ]
    rw [wr_getElem? l off (x :: xs) i (by simp at h ⊢; omega)]
    have e1 : (off + 1 ≤ i + 1 ∧ i + 1 < off + 1 + (x :: xs).length) ↔ (off ≤ i ∧ i < off + (x :: xs).length) := by omega
    simp only [e1]
    have e2 : i + 1 - (off + 1) = i - off := by omega
    rw [e2]
/-- Writing into the row of the newest epoch. -/
theorem row_write (S : SR E Z μ h w) {b e off : Nat} {x : Ep} {c c' : Cells} {fl : Nat} {cons : List (Nat × Nat)} {blk : Nat} {new : List V} {vs : List Value} (m : Nat)
    (hb : getO h b = .row c e fl cons) (hx : μ b e = some x) (hblk : x.blk = some blk) (hl : off + new.length ≤ x.len) (hfl : fl ≤ e)
    (hw : c.write off new = some c') (hv : VRL Z μ w new vs) (h1 : ∀ u ∈ vs, u.oneCell' = true) :
    ∃ w', (storeCells ⟨blk, off, none⟩ vs).run P w = .ok () w' ∧ SR E Z μ (setO h b (.row c' e e cons)) w' ∧ Frame m Z μ w Z μ w' ∧ Ext Z μ w Z μ w' := by
  have hlt := S.dom b e x hx
  have ho := S.obj b hlt
  rw [hb] at ho
  obtain ⟨_, hblks, _⟩ := ho e x hx
  obtain ⟨C, el, fr, g1, g2, g3⟩ := hblks blk hblk
  have hvl := hv.length
  obtain ⟨w', C', r1, r2, r3, r4⟩ := run_storeRow (P := P) blk off el fr vs 0 C w g1 g3.1 (by omega) h1
  have hC : C'.size = C.size := by rw [← Array.length_toList, r4, wr_length, Array.length_toList]
  obtain ⟨q1, q2⟩ := write_spec hw
  refine ⟨w', r1, S.change hlt m ⟨_, _, hx⟩ r2.os r2.tape r2.output (by rw [r2.size]; exact Nat.le_refl _) (fun d _ hn => r2.keep d fun hd => hn e x hx (by rw [hblk, hd])) (r2.cells g1 r3 hC) (fun _ _ _ => rfl) (fun _ _ hh => hh) (fun e0 x0 d hh hd => .inl ⟨e0, x0, hh, hd⟩) ?_⟩
  intro H e0 x0 hx0
  obtain ⟨p1, p2, p3⟩ := ho e0 x0 hx0
  refine ⟨p1, fun blk0 hb0 => ?_, fun i hi hil => ?_⟩
  · obtain ⟨D, el0, fr0, k1, k2, k3⟩ := p2 blk0 hb0
    by_cases hne : blk0 = blk
    · subst hne
      rw [g1] at k1; cases k1
      exact ⟨C', el, fr, r3, by omega, by rw [hC]; exact k3⟩
    · exact ⟨D, el0, fr0, by rw [r2.keep blk0 hne]; exact k1, k2, k3⟩
  · obtain ⟨i1, i2⟩ := hi
    obtain rfl : e0 = e := by omega
    rw [hx] at hx0; cases hx0
    obtain ⟨v, cv, blk0, k1, k2, k3, k4, k5⟩ := p3 i ⟨hfl, i2⟩ hil
    rw [hblk] at k2; cases k2
    have hiC : i < C.size := by omega
    have hcell' : w'.cell? ⟨blk, i, none⟩ = C'[i]? := by simp [World.cell?, r3]
    have hcell : w.cell? ⟨blk, i, none⟩ = C[i]? := by simp [World.cell?, g1]
    have hC'i : C'[i]? = if off ≤ i ∧ i < off + vs.length then vs[i - off]? else C[i]? := by
      have := wr_getElem? C.toList off vs i (by simp; omega)
      rw [← Array.getElem?_toList, r4]
      simpa using this
    have hci : c'.toV[i]? = if off ≤ i ∧ i < off + new.length then new[i - off]? else c.toV[i]? := by
      rw [q2]; exact wr_getElem? _ _ _ _ q1
    by_cases hin : off ≤ i ∧ i < off + new.length
    · rw [if_pos hin] at hci
      rw [if_pos (by omega)] at hC'i
      have hil2 : i - off < new.length := by omega
      obtain ⟨cv', l1, l2⟩ := hv.getElem? (i - off) _ (List.getElem?_eq_getElem hil2)
      exact ⟨_, cv', blk, by rw [hci]; exact List.getElem?_eq_getElem hil2, hblk, by rw [hcell', hC'i, l1], h1 cv' (List.mem_of_getElem? l1), VR.mono H _ _ l2⟩
    · rw [if_neg hin] at hci
      rw [if_neg (by omega)] at hC'i
      exact ⟨v, cv, blk, by rw [hci]; exact k1, hblk, by rw [hcell', hC'i, ← hcell]; exact k3, k4, VR.mono H _ _ k5⟩
theorem store_ok (HE : EnvOk E P) (S : SR E Z μ h w) {t : Nat} {a v : V} {av vv : Value} {h' : List O} (m : Nat) (ha : VR Z μ w a av) (hv : VR Z μ w v vv) (hs : storeO E h t a v = some h') :
    ∃ w', (Instr.storeAt t av vv).run P w = .ok () w' ∧ SR E Z μ h' w' ∧ Frame m Z μ w Z μ w' ∧ Ext Z μ w Z μ w' := by
  unfold storeO at hs
  split at hs
  · rename_i i b e off lim cs hi hcs
    have T := HE.ty t i hi
    split at hs
    · rename_i c cur fl cons hb
      split at hs
      · rename_i b1 b2 b3 b4
        have b1 := Nat.eq_of_beq_eq_true b1
        have b2 := Nat.le_of_ble_eq_true b2
        obtain rfl := Nat.eq_of_beq_eq_true b3
        obtain ⟨_, b5, _⟩ := may_spec b4
        split at hs
        · rename_i c' hw
          cases hs
          obtain ⟨x, blk, k1, k2, k3, rfl, _⟩ := ha
          obtain ⟨g1, g2⟩ := hv.cellsO hcs
          obtain ⟨w', r1, r2⟩ := row_write (P := P) S m hb k1 k2 (by omega) b5 hw g1 g2
          refine ⟨w', ?_, r2⟩
          have hl := g1.length
          simp only [Instr.storeAt, Instr.sureAddr, Sem.run_bind, Sem.run_pure, Result.andThen_ok, storeVar, T.sizeOf]
          rw [if_neg (by simp at hl; omega)]
          exact r1
        · cases hs
      · cases hs
    · cases hs
  · cases hs
end
end Go.Ab
end
section
/-
  The abstract machine's append and copy do what the model's do.
-/
namespace Go.Ab
open Go
section
variable {E : Env} {P : Program} {Z : Nat → Prop} {μ : Mu} {w : World} {h : List O}

theorem CellsAt.loads {c o : Nat} {l : List V} (H : CellsAt Z μ w c o l) {n : Nat} (hn : n ≤ l.length) : ∃ vs : List Value, vs.length = n ∧ (∀ w' : World, w'.heap = w.heap → (loadCells ⟨c, o, none⟩ n).run P w' = .ok vs.toArray w') ∧ VRL Z μ w (l.take n) vs ∧ ∀ u ∈ vs, u.oneCell' = true := by
  obtain ⟨vs, g1, g2⟩ := H.list
  have hl := g1.length
  refine ⟨vs.take n, by simp; omega, fun w' hw' => ?_, g1.take n, fun u hu => ?_⟩
  · have := run_loadList (P := P) (w := w') c o (vs.take n) fun j v hj => by
      rw [List.getElem?_take] at hj
      split at hj
      · rw [cell_of_heap (w := w) (by rw [hw'])]; exact (g2 j v hj).1
      · cases hj
    have e : (vs.take n).length = n := by simp; omega
    rw [e] at this; exact this
  · obtain ⟨j, hj⟩ := List.getElem?_of_mem (List.mem_of_mem_take hu)
    exact (g2 j u hj).2
theorem loadCells_zero (a : Addr) : (loadCells a 0).run P w = .ok #[] w := rfl
/-- What is appended, or copied. -/
theorem rowOf_ok (S : SR E Z μ h w) {sz m : Nat} {x : V} {xv : Value} {new : List V} (hsz : 0 < sz) (hx : VR Z μ w x xv) (hr : rowOf sz h x = some (m, new)) :
    (Builtin.lenOf xv).run P w = .ok m w ∧ new.length = m * sz ∧ ∀ k, k ≤ m → ∃ vs : List Value, (∀ w' : World, w'.heap = w.heap → (Builtin.firstCells sz k xv).run P w' = .ok vs.toArray w') ∧ VRL Z μ w (new.take (k * sz)) vs ∧ ∀ u ∈ vs, u.oneCell' = true := by
  unfold rowOf at hr
  split at hr
  · cases hr
    obtain ⟨a, rfl⟩ : ∃ a, xv = .slice a 0 0 := ⟨none, hx⟩
    refine ⟨rfl, by simp, fun k hk => ?_⟩
    obtain rfl : k = 0 := by omega
    refine ⟨[], fun w' _ => ?_, by simp [VRL], by simp⟩
    cases a <;> simp [Builtin.firstCells, loadCells_zero]
  · cases hr
    obtain ⟨a, rfl⟩ := hx
    refine ⟨rfl, by simp, fun k hk => ?_⟩
    obtain rfl : k = 0 := by omega
    refine ⟨[], fun w' _ => ?_, by simp [VRL], by simp⟩
    cases a <;> simp [Builtin.firstCells, loadCells_zero]
  · rename_i n sz' cs
    split at hr
    · rename_i hb
      obtain rfl := Nat.eq_of_beq_eq_true hb
      cases hr
      obtain ⟨a, cap, rfl, k1, k2, k3⟩ := hx
      refine ⟨rfl, by simpa using k2, fun k hk => ?_⟩
      rcases k3 with rfl | ⟨c, o, rfl, hc, hat⟩
      · obtain rfl : k = 0 := by omega
        refine ⟨[], fun w' _ => ?_, by simp [VRL], by simp⟩
        cases a <;> simp [Builtin.firstCells, loadCells_zero]
      · have hle : k * sz ≤ m * sz := Nat.mul_le_mul_right _ hk
        obtain ⟨vs, g1, g2, g3, g4⟩ := (hat.cellsAt (μ := μ)).loads (P := P) (n := k * sz) (by simp; omega)
        exact ⟨vs, fun w' hw' => by simpa [Builtin.firstCells] using g2 w' hw', g3, g4⟩
    · cases hr
  · rename_i s
    split at hr
    · rename_i hb
      obtain rfl := Nat.eq_of_beq_eq_true hb
      cases hr
      simp only [VR, VRd] at hx; subst hx
      refine ⟨by simp [Builtin.lenOf, ByteArray.size], by simp, fun k hk => ?_⟩
      refine ⟨(s.take k).map fun c => .int .u8 c.toNat, fun w' _ => ?_, ?_, ?_⟩
      · simp only [Builtin.firstCells, Sem.run_pure]
        have : (⟨s.toArray⟩ : ByteArray).extract 0 k = ⟨(s.take k).toArray⟩ := by simpa using take_drop_toArray s 0 k
        rw [this]
        simp
      · rw [← List.map_take, Nat.mul_one]
        generalize s.take k = l
        clear hk
        induction l with
        | nil => rfl
        | cons c l ih => exact ⟨_, _, rfl, rfl, ih⟩
      · intro u hu; obtain ⟨_, _, rfl⟩ := List.mem_map.1 hu; rfl
    · cases hr
  · rename_i b e off n sz'
    split at hr
    · rename_i c cur fl cons hb
      split at hr
      · rename_i b1 b2
        obtain rfl := Nat.eq_of_beq_eq_true b1
        split at hr
        · rename_i l hl
          cases hr
          obtain ⟨x, a, cap, k1, rfl, k2, k3, k4⟩ := hx
          obtain ⟨l1, l2⟩ := rd_spec (rdV_rd hl)
          refine ⟨rfl, by rw [l2]; simp; omega, fun k hk => ?_⟩
          have hle : k * sz ≤ m * sz := Nat.mul_le_mul_right _ hk
          rcases k4 with rfl | ⟨blk, C, el, fr, e1, rfl, e2, e3⟩
          · obtain rfl : k = 0 := by omega
            refine ⟨[], fun w' _ => ?_, by simp [VRL], by simp⟩
            cases a <;> simp [Builtin.firstCells, loadCells_zero]
          · rcases Nat.eq_zero_or_pos m with rfl | hn
            · obtain rfl : k = 0 := by omega
              refine ⟨[], fun w' _ => ?_, by simp [VRL], by simp⟩
              simp [Builtin.firstCells, loadCells_zero]
            · obtain ⟨blk', g1, g2, g3⟩ := row_cells S hb k1 b2 k3 (Nat.mul_pos hn hsz)
              rw [e1] at g1; cases g1
              have hln : (List.take (m * sz) (List.drop off c.toV)).length = m * sz := by simp; omega
              obtain ⟨vs, f1, f2, f3, f4⟩ := g2.loads (P := P) (n := k * sz) (by omega)
              exact ⟨vs, fun w' hw' => by simpa [Builtin.firstCells] using f2 w' hw', by rw [l2]; exact f3, f4⟩
        · cases hr
      · cases hr
    · cases hr
  · cases hr

theorem append_toV (c : Cells) (k : Nat) (vals : List V) : (c.append k vals).toV = c.toV.take k ++ vals := by
  unfold Cells.append
  split
  · rename_i l xs hx; rw [allD_spec hx]; simp [Cells.toV, List.map_take]
  · simp [Cells.toV]
theorem zeroCells_one (z : Array Value) (hz : ∀ u ∈ z.toList, u.oneCell' = true) (n : Nat) : ∀ u ∈ (Builtin.zeroCells z n).toList, u.oneCell' = true := by
  intro u hu
  simp only [Builtin.zeroCells, Array.toList_map, List.mem_map] at hu
  obtain ⟨i, hi, rfl⟩ := hu
  have hi' : i < n * z.size := by simpa using hi
  have hpos : 0 < z.size := by
    rcases Nat.eq_zero_or_pos z.size with h | h
    · rw [h] at hi'; omega
    · exact h
  have hlt := Nat.mod_lt i hpos
  rw [getElem!_pos z _ hlt]
  exact hz _ (by simp)
/-- A new block for the newest epoch of a row; nothing else has turned but counts. -/
theorem row_grow (S : SR E Z μ h w) {b : Nat} {c c' : Cells} {cur fl : Nat} {cons cons' : List (Nat × Nat)} {C : Array Value} {el : TypeId} {k n' : Nat} {w0 : World} (m : Nat) (hex : ∃ e x, μ b e = some x)
    (hlt : b < h.length) (ho : ∀ e x, μ b e = some x → e ≤ cur ∧
      (∀ blk, x.blk = some blk → ∃ C el fr, w.heap[blk]? = some (.cells C el fr) ∧ x.len ≤ C.size ∧ Free fr C.size ∧ Exact cur cons C.size) ∧
      (∀ i, acc fl cons e i → i < x.len → ∃ v cv blk, c.toV[i]? = some v ∧ x.blk = some blk ∧ w.cell? ⟨blk, i, none⟩ = some cv ∧ cv.oneCell' = true ∧ VR Z μ w v cv))
    (h0 : w0.heap = w.heap ∧ w0.os = w.os ∧ w0.tape = w.tape ∧ w0.output = w.output)
    (hacc : ∀ e x i, μ b e = some x → acc fl cons' e i → i < x.len → acc fl cons e i ∧ i < k) (hc' : ∀ i, i < k → c'.toV[i]? = c.toV[i]?)
    (hC : ∀ i, i < n' → ∃ v cv, c'.toV[i]? = some v ∧ C[i]? = some cv ∧ cv.oneCell' = true ∧ VR Z μ w v cv) (hn' : n' ≤ C.size) :
    ∃ μ', SR E Z μ' (setO h b (.row c' (cur + 1) fl cons')) (w0.alloc (.cells C el)) ∧ Frame m Z μ w Z μ' (w0.alloc (.cells C el)) ∧ Ext Z μ w Z μ' (w0.alloc (.cells C el)) ∧ μ' b (cur + 1) = some ⟨some w.heap.size, n'⟩ := by
  obtain ⟨q1, q2, q3, q4⟩ := h0
  have hnone : μ b (cur + 1) = none := by
    cases hh : μ b (cur + 1) with
    | none => rfl
    | some x => have := (ho _ _ hh).1; omega
  let μ' : Mu := fun b' e => if b' = b ∧ e = cur + 1 then some ⟨some w.heap.size, n'⟩ else μ b' e
  have heap' : ∀ d, (w0.alloc (.cells C el)).heap[d]? = if d = w.heap.size then some (.cells C el) else w.heap[d]? := by
    intro d; rw [heap_push, q1]
  have hsz : (w0.alloc (.cells C el)).heap.size = w.heap.size + 1 := by simp [q1]
  have hμb : ∀ e x, μ b e = some x → μ' b e = some x := by
    intro e x hx
    show (if b = b ∧ e = cur + 1 then _ else _) = _
    rw [if_neg]
    · exact hx
    · rintro ⟨_, rfl⟩; rw [hnone] at hx; cases hx
  refine ⟨μ', ?_⟩
  rw [← and_assoc, ← and_assoc]
  refine ⟨?_, by show (if b = b ∧ cur + 1 = cur + 1 then _ else _) = _; rw [if_pos ⟨rfl, rfl⟩]⟩
  rw [and_assoc]
  refine S.change hlt m hex (by show w0.os = _; exact q2) (by show w0.tape = _; exact q3) (by show w0.output = _; exact q4) (by omega) (fun d hd _ => by rw [heap', if_neg (by omega)])
    (fun d D el' fr' hd => ⟨D, by rw [heap', if_neg (by have := (Array.getElem?_eq_some_iff.1 hd).1; omega)]; exact hd, rfl⟩)
    (fun b' e hne => by show (if b' = b ∧ e = cur + 1 then _ else _) = _; rw [if_neg (by simp [hne])]) hμb ?_ ?_
  · intro e x d hx hd
    have hx : (if b = b ∧ e = cur + 1 then some (⟨some w.heap.size, n'⟩ : Ep) else μ b e) = some x := hx
    split at hx
    · cases hx; cases hd; exact .inr ⟨Nat.le_refl _, by omega⟩
    · exact .inl ⟨e, x, hx, hd⟩
  · intro H e x hx
    have hx : (if b = b ∧ e = cur + 1 then some (⟨some w.heap.size, n'⟩ : Ep) else μ b e) = some x := hx
    split at hx
    · rename_i hh
      cases hx
      refine ⟨by omega, fun blk hb => ?_, fun i hi hil => ?_⟩
      · cases hb; exact ⟨C, el, (0, 0), by rw [heap', if_pos rfl], hn', Free.none _, Exact.succ _ _ _⟩
      · obtain ⟨v, cv, k1, k2, k3, k4⟩ := hC i hil
        refine ⟨v, cv, w.heap.size, k1, rfl, ?_, k3, VR.mono H _ _ k4⟩
        simp only [World.cell?, heap', if_pos]
        simpa using k2
    · obtain ⟨p1, p2, p3⟩ := ho e x hx
      refine ⟨by omega, fun blk hb => ?_, fun i hi hil => ?_⟩
      · obtain ⟨D, el0, fr0, k1, k2, k3⟩ := p2 blk hb
        exact ⟨D, el0, fr0, by rw [heap', if_neg (by have := (Array.getElem?_eq_some_iff.1 k1).1; omega)]; exact k1, k2, k3.1, Exact.succ _ _ _⟩
      · obtain ⟨a1, a2⟩ := hacc e x i hx hi hil
        obtain ⟨v, cv, blk, k1, k2, k3, k4, k5⟩ := p3 i a1 hil
        refine ⟨v, cv, blk, by rw [hc' i a2]; exact k1, k2, ?_, k4, VR.mono H _ _ k5⟩
        have hb := (S.own b e x blk hx k2).1
        rw [cell_of_heap (w := w)]
        · exact k3
        · rw [heap', if_neg (by omega)]
/-- The newest epoch of a row lies where an elder one does, and reaches further. -/
theorem row_extend (S : SR E Z μ h w) {b : Nat} {c c' : Cells} {cur fl : Nat} {cons cons' : List (Nat × Nat)} {C C' : Array Value} {el : TypeId} {fr : Nat × Nat} {k n' blk : Nat} {w' : World} (m : Nat)
    (hlt : b < h.length) (ho : ∀ e x, μ b e = some x → e ≤ cur ∧
      (∀ blk, x.blk = some blk → ∃ C el fr, w.heap[blk]? = some (.cells C el fr) ∧ x.len ≤ C.size ∧ Free fr C.size ∧ Exact cur cons C.size) ∧
      (∀ i, acc fl cons e i → i < x.len → ∃ v cv blk, c.toV[i]? = some v ∧ x.blk = some blk ∧ w.cell? ⟨blk, i, none⟩ = some cv ∧ cv.oneCell' = true ∧ VR Z μ w v cv))
    (hown : ∃ e x, μ b e = some x ∧ x.blk = some blk) (hB : But blk w w') (hC : w.heap[blk]? = some (.cells C el fr)) (hC' : w'.heap[blk]? = some (.cells C' el fr)) (hs : C'.size = C.size) (hf : Free fr C.size)
    (hacc : ∀ e x i, μ b e = some x → acc fl cons' e i → i < x.len → acc fl cons e i ∧ i < k) (hc' : ∀ i, i < k → c'.toV[i]? = c.toV[i]?) (hk : ∀ i, i < k → C'[i]? = C[i]?)
    (hN : ∀ i, i < n' → ∃ v cv, c'.toV[i]? = some v ∧ C'[i]? = some cv ∧ cv.oneCell' = true ∧ VR Z μ w v cv) (hn' : n' ≤ C.size) :
    ∃ μ', SR E Z μ' (setO h b (.row c' (cur + 1) fl cons')) w' ∧ Frame m Z μ w Z μ' w' ∧ Ext Z μ w Z μ' w' ∧ μ' b (cur + 1) = some ⟨some blk, n'⟩ := by
  have hnone : μ b (cur + 1) = none := by
    cases hh : μ b (cur + 1) with
    | none => rfl
    | some x => have := (ho _ _ hh).1; omega
  let μ' : Mu := fun b' e => if b' = b ∧ e = cur + 1 then some ⟨some blk, n'⟩ else μ b' e
  have hμb : ∀ e x, μ b e = some x → μ' b e = some x := by
    intro e x hx
    show (if b = b ∧ e = cur + 1 then _ else _) = _
    rw [if_neg]
    · exact hx
    · rintro ⟨_, rfl⟩; rw [hnone] at hx; cases hx
  obtain ⟨eo, xo, ho1, ho2⟩ := hown
  have hcell' : ∀ i, w'.cell? ⟨blk, i, none⟩ = C'[i]? := fun i => by simp [World.cell?, hC']
  have hcell : ∀ i, w.cell? ⟨blk, i, none⟩ = C[i]? := fun i => by simp [World.cell?, hC]
  refine ⟨μ', ?_⟩
  rw [← and_assoc, ← and_assoc]
  refine ⟨?_, by show (if b = b ∧ cur + 1 = cur + 1 then _ else _) = _; rw [if_pos ⟨rfl, rfl⟩]⟩
  rw [and_assoc]
  refine S.change hlt m ⟨eo, xo, ho1⟩ hB.os hB.tape hB.output (by rw [hB.size]; exact Nat.le_refl _) (fun d _ hn => hB.keep d fun hd => hn eo xo ho1 (by rw [ho2, hd])) (hB.cells hC hC' hs)
    (fun b' e hne => by show (if b' = b ∧ e = cur + 1 then _ else _) = _; rw [if_neg (by simp [hne])]) hμb ?_ ?_
  · intro e x d hx hd
    have hx : (if b = b ∧ e = cur + 1 then some (⟨some blk, n'⟩ : Ep) else μ b e) = some x := hx
    split at hx
    · cases hx; cases hd; exact .inl ⟨eo, xo, ho1, ho2⟩
    · exact .inl ⟨e, x, hx, hd⟩
  · intro H e x hx
    have hx : (if b = b ∧ e = cur + 1 then some (⟨some blk, n'⟩ : Ep) else μ b e) = some x := hx
    split at hx
    · rename_i hh
      cases hx
      refine ⟨by omega, fun blk0 hb => ?_, fun i hi hil => ?_⟩
      · cases hb; exact ⟨C', el, fr, hC', by simp only; omega, by rw [hs]; exact hf, Exact.succ _ _ _⟩
      · obtain ⟨v, cv, k1, k2, k3, k4⟩ := hN i hil
        exact ⟨v, cv, blk, k1, rfl, by rw [hcell']; exact k2, k3, VR.mono H _ _ k4⟩
    · obtain ⟨p1, p2, p3⟩ := ho e x hx
      refine ⟨by omega, fun blk0 hb => ?_, fun i hi hil => ?_⟩
      · obtain ⟨D, el0, fr0, k1, k2, k3⟩ := p2 blk0 hb
        by_cases hne : blk0 = blk
        · subst hne
          rw [hC] at k1; cases k1
          exact ⟨C', el, fr, hC', by omega, by rw [hs]; exact hf, Exact.succ _ _ _⟩
        · exact ⟨D, el0, fr0, by rw [hB.keep blk0 hne]; exact k1, k2, k3.1, Exact.succ _ _ _⟩
      · obtain ⟨a1, a2⟩ := hacc e x i hx hi hil
        obtain ⟨v, cv, blk0, k1, k2, k3, k4, k5⟩ := p3 i a1 hil
        refine ⟨v, cv, blk0, by rw [hc' i a2]; exact k1, k2, ?_, k4, VR.mono H _ _ k5⟩
        by_cases hne : blk0 = blk
        · subst hne; rw [hcell', hk i a2, ← hcell]; exact k3
        · rw [cell_of_heap (hB.keep blk0 hne)]; exact k3
theorem append_run (HE : EnvOk E P) {t t' ty e : Nat} {i : TI} {base : Option Addr} {n cap m : Nat} {xv : Value} {vs : List Value} (hu : P.underlying t = some (.slice e)) (T : TIOk P e i) (hni : notInt E t' = true)
    (h1 : (Builtin.lenOf xv).run P w = .ok m w) (h2 : (Builtin.firstCells i.size m xv).run P w = .ok vs.toArray w) :
    (n + m ≤ cap → ∀ w', (match base with | some a => storeCells (a.add (n * i.size)) vs | none => pure ()).run P w = .ok () w' → (Builtin.append_ #[t, t'] ty #[.slice base n cap, xv]).run P w = .ok (.slice base (n + m) cap) w') ∧
    (cap < n + m → (n + m) * i.bytes ≤ 140737488355328 → ∀ old : List Value, (Builtin.firstCells i.size n (.slice base n cap)).run P w.drew = .ok old.toArray w.drew → (Builtin.firstCells i.size m xv).run P w.drew = .ok vs.toArray w.drew → ∀ zv, (∀ w, (zeroValue e).run P w = .ok zv w) →
      (Builtin.append_ #[t, t'] ty #[.slice base n cap, xv]).run P w = .ok (.slice (some ⟨w.heap.size, 0, none⟩) (n + m) (grownCap w (n + m) cap e)) (w.drew.alloc (.cells (old.toArray ++ (vs.toArray ++ Builtin.zeroCells zv.cells (grownCap w (n + m) cap e - (n + m)))) e))) := by
  obtain ⟨inf, i1, i2, i3⟩ := T.typeInfo
  have hpos := T.pos
  unfold notInt at hni
  split at hni
  · cases hni
  · rename_i u2 hn2 hu2
    have hu2 := HE.under hu2
    constructor
    · intro hroom w' hst
      cases base with
      | none =>
        simp only [Sem.run_pure] at hst
        cases hst
        simp [Builtin.append_, run_underlying hu, run_underlying hu2, T.sizeOf, h1, h2, hroom]
      | some a =>
        simp only at hst
        simp [Builtin.append_, run_underlying hu, run_underlying hu2, T.sizeOf, h1, h2, hroom, hst]
    · intro hgrow hb old ho hv zv hzv
      have hfit := growslice_fits hgrow hb
      have b1 : ¬ (n + m ≤ cap) := by omega
      have b2 : ¬ (i.bytes = 0) := by omega
      have b3 : ¬ (281474976710656 < Builtin.nextslicecap (n + m) cap * i.bytes) := by omega
      simp [Builtin.append_, run_underlying hu, run_underlying hu2, T.sizeOf, h1, b1, i1, i3, b2, b3, ho, hv, hzv, newRow, Question.forced, grownCap]
  · cases hni
theorem SR.same {w' : World} (S : SR E Z μ h w) (hh : w'.heap = w.heap) : SR E Z μ h w' := by
  have H : Ext Z μ w Z μ w' := ⟨fun _ hc => hc, fun _ _ => by rw [hh], fun _ _ _ hx => hx, fun c C el fr hc => ⟨C, by rw [hh]; exact hc, rfl⟩⟩
  refine ⟨fun c hc => by rw [hh]; exact S.zlt c hc, fun b hb => OR.mono H (S.obj b hb) (fun _ _ hx => hx) fun _ _ _ _ _ => by rw [hh], S.dom, fun b e x c hx hc => by rw [hh]; exact S.own b e x c hx hc, S.inj, glob_mono H.z H.zw S.glob⟩
theorem VR.same {w' : World} (hh : w'.heap = w.heap) {x : V} {v : Value} (hx : VR Z μ w x v) : VR Z μ w' x v :=
  VR.mono ⟨fun _ hc => hc, fun _ _ => by rw [hh], fun _ _ _ hx => hx, fun c C el fr hc => ⟨C, by rw [hh]; exact hc, rfl⟩⟩ x v hx
theorem grownCap_ge (w : World) (need old : Nat) (e : TypeId) : need ≤ grownCap w need old e := by
  simp [grownCap, Question.cut]
theorem zeroCells_size (z : Array Value) (n : Nat) : (Builtin.zeroCells z n).size = n * z.size := by simp [Builtin.zeroCells]
end
end Go.Ab
end
section
/-
  Append, put together.
-/
namespace Go.Ab
open Go
section
variable {E : Env} {P : Program} {Z : Nat → Prop} {μ : Mu} {w : World} {h : List O}

/-- What an operation that changes memory comes to. -/
def Eff (P : Program) (E : Env) (Z : Nat → Prop) (μ : Mu) (w : World) (m : Nat) (s : Sem Value) (v : V) (h' : List O) : Prop :=
  ∃ μ' w' cv, s.run P w = .ok cv w' ∧ SR E Z μ' h' w' ∧ Frame m Z μ w Z μ' w' ∧ Ext Z μ w Z μ' w' ∧ VR Z μ' w' v cv
theorem Frame.drew (m : Nat) (Z : Nat → Prop) (μ : Mu) (w : World) : Frame m Z μ w Z μ w.drew :=
  ⟨rfl, rfl, rfl, Nat.le_refl _, fun _ _ _ => rfl, fun _ h => h, fun _ h => .inl h, fun b e x _ h1 h2 => .inl ⟨b, e, x, h1, h2⟩, fun _ _ _ _ h => h, fun _ C _ _ h => ⟨C, h, rfl⟩, fun _ _ h => h⟩
theorem Ext.drew (Z : Nat → Prop) (μ : Mu) (w : World) : Ext Z μ w Z μ w.drew :=
  ⟨fun _ hc => hc, fun _ _ => rfl, fun _ _ _ hx => hx, fun _ C _ _ h => ⟨C, h, rfl⟩⟩
theorem Ext.trans {Z0 Z1 Z2 : Nat → Prop} {μ0 μ1 μ2 : Mu} {w0 w1 w2 : World} (H : Ext Z0 μ0 w0 Z1 μ1 w1) (K : Ext Z1 μ1 w1 Z2 μ2 w2) : Ext Z0 μ0 w0 Z2 μ2 w2 :=
  ⟨fun c hc => K.z c (H.z c hc), fun c hc => (K.zw c (H.z c hc)).trans (H.zw c hc), fun b e x hx => K.m b e x (H.m b e x hx), fun c C el fr hc => by
    obtain ⟨C1, h1, h2⟩ := H.sz c C el fr hc
    obtain ⟨C2, h3, h4⟩ := K.sz c C1 el fr h1
    exact ⟨C2, h3, by omega⟩⟩
theorem elem_of {t : Nat} {i : TI} (h : elemOfT E t = some i) : ∃ e, E.under t = some (.slice e) ∧ E.ty e = some i := by
  unfold elemOfT at h
  split at h
  · rename_i e he; exact ⟨e, he, h⟩
  · cases h
theorem append_one {a b : Array Value} (ha : ∀ u ∈ a.toList, u.oneCell' = true) (hb : ∀ u ∈ b.toList, u.oneCell' = true) : ∀ u ∈ (a ++ b).toList, u.oneCell' = true := by
  intro u hu
  rw [Array.toList_append] at hu
  rcases List.mem_append.1 hu with h | h
  · exact ha u h
  · exact hb u h
theorem VRL.pt {l : List V} {vs : List Value} (hl : VRL Z μ w l vs) (h1 : ∀ u ∈ vs, u.oneCell' = true) {i : Nat} (hi : i < l.length) : ∃ v cv, l[i]? = some v ∧ vs[i]? = some cv ∧ cv.oneCell' = true ∧ VR Z μ w v cv := by
  obtain ⟨cv, k1, k2⟩ := hl.getElem? i _ (List.getElem?_eq_getElem hi)
  exact ⟨_, cv, List.getElem?_eq_getElem hi, k1, h1 cv (List.mem_of_getElem? k1), k2⟩
theorem VR.sameL {w' : World} (hh : w'.heap = w.heap) {x : List V} {v : List Value} (hx : VRL Z μ w x v) : VRL Z μ w' x v :=
  VRL.mono ⟨fun _ hc => hc, fun _ _ => by rw [hh], fun _ _ _ hx => hx, fun c C el fr hc => ⟨C, by rw [hh]; exact hc, rfl⟩⟩ x v hx
theorem exactK_eq {cons : List (Nat × Nat)} {k : Nat} (h : exactK cons = some k) : cons = [(0, k)] := by
  unfold exactK at h
  split at h
  · cases h; rfl
  · cases h
theorem append_ok (HE : EnvOk E P) (S : SR E Z μ h w) {t t' ty : Nat} {s x : V} {sv xv : Value} {v : V} {h' : List O} (m0 : Nat) (hm0 : m0 ≤ h.length) (hs : VR Z μ w s sv) (hx : VR Z μ w x xv) (hni : notInt E t' = true) (ha : appendO E h t s x = some (v, h')) :
    Eff P E Z μ w m0 (Builtin.append_ #[t, t'] ty #[sv, xv]) v h' := by
  unfold appendO at ha
  split at ha
  · cases ha
  rename_i i hel
  obtain ⟨e, he, hi⟩ := elem_of hel
  have hu := HE.under he
  have T := HE.ty e i hi
  split at ha
  · cases ha
  · cases ha
  rename_i m new zz hr hz
  obtain ⟨zv, z1, z2, z3, _, _, z6⟩ := T.zeroValue (z := zz.map .d) (by simp [TI.zeroVs, hz])
  obtain ⟨l1, l2, l3⟩ := rowOf_ok (P := P) S T.pos.2 hx hr
  obtain ⟨vs, f1, f2, f3⟩ := l3 m (Nat.le_refl _)
  rw [List.take_of_length_le (by omega)] at f2
  have hvl := f2.length
  split at ha
  · -- nothing yet
    obtain ⟨a, rfl⟩ := hs
    split at ha
    · rename_i hb
      have hb := Nat.le_of_ble_eq_true hb
      obtain ⟨R1, R2⟩ := append_run (ty := ty) (base := a) (n := 0) (cap := 0) HE hu T hni l1 (f1 w rfl)
      split at ha
      · cases ha
        obtain rfl : vs = [] := List.eq_nil_of_length_eq_zero (by omega)
        refine ⟨μ, w, _, R1 (by omega) w ?_, S, Frame.refl .., ⟨fun _ hc => hc, fun _ _ => rfl, fun _ _ _ hx => hx, fun _ C _ _ h => ⟨C, h, rfl⟩⟩, ⟨a, by simp⟩⟩
        cases a <;> rfl
      · rename_i hm
        cases ha
        have hm : 0 < m := Nat.pos_of_ne_zero fun hh => hm hh
        have R := R2 (by omega) (by simpa using hb) [] (by cases a <;> simp [Builtin.firstCells, loadCells_zero]) (f1 w.drew rfl) zv z1
        simp only [Nat.zero_add] at R
        have hg := grownCap_ge w m 0 e
        generalize grownCap w m 0 e = g at R hg
        have S1 := (S.same (w' := w.drew) rfl).push (.row (.ofV new) 0 0 [])
        have hn : ∀ e, μ h.length e = none := by
          intro e
          cases hh : μ h.length e with
          | none => rfl
          | some y => have := S.dom _ _ _ hh; omega
        have hsize : (([] : List Value).toArray ++ (vs.toArray ++ Builtin.zeroCells zv.cells (g - m))).size = m * i.size + (g - m) * i.size := by
          simp [zeroCells_size, z6]; omega
        have hgm : m * i.size + (g - m) * i.size = g * i.size := by rw [← Nat.add_mul]; congr 1; omega
        obtain ⟨S2, F2⟩ := S1.link (b := h.length) (n := m * i.size) (o := .cells (([] : List Value).toArray ++ (vs.toArray ++ Builtin.zeroCells zv.cells (g - m))) e (0, 0)) (by simp) hn (ob := .row (.ofV new) 0 0 []) (by rw [getO_append]; simp [getO])
          ⟨rfl, rfl, .inl rfl, ⟨vs, (Builtin.zeroCells zv.cells (g - m)).toList, by simp, by rw [ofV_toV]; exact VR.sameL (by rfl) f2, f3, by omega⟩, Free.none _⟩ m0 hm0
        refine ⟨_, _, _, R, S2, (Frame.drew m0 Z μ w).trans F2, (Ext.drew Z μ w).trans (ext_alloc (S.same (w' := w.drew) rfl) _ fun b' e x hx => Mu.link_old hn hx), ?_⟩
        refine ⟨_, _, g, Mu.link_new .., rfl, hg, by simp only; omega, .inr ⟨w.heap.size, _, e, (0, 0), rfl, rfl, by rw [heap_push]; exact if_pos rfl, ?_⟩⟩
        rw [hsize]; omega
    · cases ha
  · -- nothing yet
    obtain ⟨a, ha0, rfl⟩ : ∃ a : Option Addr, a = none ∧ sv = .slice a 0 0 := ⟨none, rfl, hs⟩
    split at ha
    · rename_i hb
      have hb := Nat.le_of_ble_eq_true hb
      obtain ⟨R1, R2⟩ := append_run (ty := ty) (base := a) (n := 0) (cap := 0) HE hu T hni l1 (f1 w rfl)
      split at ha
      · cases ha
        obtain rfl : vs = [] := List.eq_nil_of_length_eq_zero (by omega)
        refine ⟨μ, w, _, R1 (by omega) w ?_, S, Frame.refl .., ⟨fun _ hc => hc, fun _ _ => rfl, fun _ _ _ hx => hx, fun _ C _ _ h => ⟨C, h, rfl⟩⟩, by rw [ha0]; rfl⟩
        cases a <;> rfl
      · rename_i hm
        cases ha
        have hm : 0 < m := Nat.pos_of_ne_zero fun hh => hm hh
        have R := R2 (by omega) (by simpa using hb) [] (by cases a <;> simp [Builtin.firstCells, loadCells_zero]) (f1 w.drew rfl) zv z1
        simp only [Nat.zero_add] at R
        have hg := grownCap_ge w m 0 e
        generalize grownCap w m 0 e = g at R hg
        have S1 := (S.same (w' := w.drew) rfl).push (.row (.ofV new) 0 0 [])
        have hn : ∀ e, μ h.length e = none := by
          intro e
          cases hh : μ h.length e with
          | none => rfl
          | some y => have := S.dom _ _ _ hh; omega
        have hsize : (([] : List Value).toArray ++ (vs.toArray ++ Builtin.zeroCells zv.cells (g - m))).size = m * i.size + (g - m) * i.size := by
          simp [zeroCells_size, z6]; omega
        have hgm : m * i.size + (g - m) * i.size = g * i.size := by rw [← Nat.add_mul]; congr 1; omega
        obtain ⟨S2, F2⟩ := S1.link (b := h.length) (n := m * i.size) (o := .cells (([] : List Value).toArray ++ (vs.toArray ++ Builtin.zeroCells zv.cells (g - m))) e (0, 0)) (by simp) hn (ob := .row (.ofV new) 0 0 []) (by rw [getO_append]; simp [getO])
          ⟨rfl, rfl, .inl rfl, ⟨vs, (Builtin.zeroCells zv.cells (g - m)).toList, by simp, by rw [ofV_toV]; exact VR.sameL (by rfl) f2, f3, by omega⟩, Free.none _⟩ m0 hm0
        refine ⟨_, _, _, R, S2, (Frame.drew m0 Z μ w).trans F2, (Ext.drew Z μ w).trans (ext_alloc (S.same (w' := w.drew) rfl) _ fun b' e x hx => Mu.link_old hn hx), ?_⟩
        refine ⟨_, _, g, Mu.link_new .., rfl, hg, by simp only; omega, .inr ⟨w.heap.size, _, e, (0, 0), rfl, rfl, by rw [heap_push]; exact if_pos rfl, ?_⟩⟩
        rw [hsize]; omega
    · cases ha
  · -- there is a row
    rename_i b ep off n sz
    split at ha
    · rename_i c cur fl cons hb
      split at ha
      · rename_i b1 b2 b3 b4
        have b1 := Nat.le_of_ble_eq_true b1
        obtain rfl := Nat.eq_of_beq_eq_true b2
        obtain rfl := Nat.eq_of_beq_eq_true b3
        obtain ⟨x, a, cap, k1, rfl, k2, k3, k4⟩ := hs
        obtain ⟨R1, R2⟩ := append_run (ty := ty) (base := a) (n := n) (cap := cap) HE hu T hni l1 (f1 w rfl)
        have hlt := S.dom b ep x k1
        have ho := S.obj b hlt
        rw [hb] at ho
        split at ha
        · cases ha
          obtain rfl : vs = [] := List.eq_nil_of_length_eq_zero (by omega)
          refine ⟨μ, w, _, R1 (by omega) w ?_, S, Frame.refl .., ⟨fun _ hc => hc, fun _ _ => rfl, fun _ _ _ hx => hx, fun _ C _ _ h => ⟨C, h, rfl⟩⟩, ⟨x, a, cap, k1, rfl, k2, k3, k4⟩⟩
          cases a <;> rfl
        · rename_i hm
          cases ha
          have hm : 0 < m := Nat.pos_of_ne_zero fun hh => hm hh
          have hnm : (n + m) * i.size = n * i.size + m * i.size := Nat.add_mul ..
          have hposm : 0 < m * i.size := Nat.mul_pos hm T.pos.2
          have hclen : n * i.size ≤ c.toV.length := by
            rcases Nat.eq_zero_or_pos n with rfl | hn
            · simp
            · obtain ⟨_, _, _, q⟩ := row_cells S hb k1 b4 k3 (Nat.mul_pos hn T.pos.2)
              omega
          have hlen : c.len = c.toV.length := by cases c <;> simp [Cells.len, Cells.toV]
          have hc'1 : ∀ j, j < n * i.size → (c.append (n * i.size) new).toV[j]? = c.toV[j]? := by
            intro j hj
            rw [append_toV, List.getElem?_append_left (by simp; omega), List.getElem?_take, if_pos hj]
          have hc'2 : ∀ j, n * i.size ≤ j → (c.append (n * i.size) new).toV[j]? = new[j - n * i.size]? := by
            intro j hj
            rw [append_toV, List.getElem?_append_right (by simp; omega)]
            congr 1; simp; omega
          have hacc : ∀ e x j, μ b e = some x → acc fl (match Nat.beq (n * i.size) c.len with | true => cons | false => (cur, n * i.size) :: cons) e j → j < x.len → acc fl cons e j ∧ j < n * i.size := by
            intro e y j hy hj hjl
            obtain ⟨o1, _, o3⟩ := ho e y hy
            split at hj
            · rename_i hbe
              have hbe := Nat.eq_of_beq_eq_true hbe
              refine ⟨hj, ?_⟩
              obtain ⟨v, _, _, q, _⟩ := o3 j hj hjl
              have := (List.getElem?_eq_some_iff.1 q).1
              omega
            · exact ⟨⟨hj.1, fun p hp => hj.2 p (List.mem_cons_of_mem _ hp)⟩, hj.2 (cur, n * i.size) (by simp) o1⟩
          by_cases hroom : n + m ≤ cap
          · -- there is room
            rcases k4 with k4 | ⟨blk, C, el, fr, e1, rfl, e2, e3⟩
            · omega
            have hcs : (n + m) * i.size ≤ cap * i.size := Nat.mul_le_mul_right _ hroom
            obtain ⟨_, hblks, _⟩ := ho ep x k1
            obtain ⟨D, el', fr', g1, g2, g3⟩ := hblks blk e1
            rw [e2] at g1; cases g1
            obtain ⟨w', C', r1, r2, r3, r4⟩ := run_storeRow (P := P) blk (n * i.size) el fr vs 0 C w e2 g3.1 (by omega) f3
            have hC' : C'.size = C.size := by rw [← Array.length_toList, r4, wr_length, Array.length_toList]
            have hC'i : ∀ j, C'[j]? = if n * i.size ≤ j ∧ j < n * i.size + vs.length then vs[j - n * i.size]? else C[j]? := by
              intro j
              have := wr_getElem? C.toList (n * i.size) vs j (by simp; omega)
              rw [← Array.getElem?_toList, r4]
              simpa using this
            have hcell : ∀ j, w.cell? ⟨blk, j, none⟩ = C[j]? := fun j => by simp [World.cell?, e2]
            obtain ⟨μ', S', F', H', hμ⟩ := row_extend (c' := c.append (n * i.size) new) (k := n * i.size) (n' := (n + m) * i.size) S m0 hlt ho ⟨ep, x, k1, e1⟩ r2 e2 r3 hC' g3.1 hacc hc'1 (fun j hj => by rw [hC'i, if_neg (by omega)]) (by
              intro j hj
              by_cases hjn : j < n * i.size
              · obtain ⟨v, cv, blk', q1, q2, q3, q4, q5⟩ := (ho ep x k1).2.2 j (may_acc b4 (by omega)) (by omega)
                rw [e1] at q2; cases q2
                exact ⟨v, cv, by rw [hc'1 j hjn]; exact q1, by rw [hC'i, if_neg (by omega), ← hcell]; exact q3, q4, q5⟩
              · obtain ⟨v, cv, q1, q2, q3, q4⟩ := f2.pt f3 (i := j - n * i.size) (by omega)
                exact ⟨v, cv, by rw [hc'2 j (by omega)]; exact q1, by rw [hC'i, if_pos (by omega)]; exact q2, q3, q4⟩) (by omega)
            refine ⟨μ', w', _, R1 hroom w' ?_, S', F', H', ?_⟩
            · simp only [add_off, Nat.zero_add]; exact r1
            · exact ⟨_, _, cap, hμ, rfl, hroom, by simp only; omega, .inr ⟨blk, C', el, fr, rfl, rfl, r3, by omega⟩⟩
          · -- it grows
            have hold : ∃ old : List Value, (Builtin.firstCells i.size n (.slice a n cap)).run P w.drew = .ok old.toArray w.drew ∧ VRL Z μ w (c.toV.take (n * i.size)) old ∧ ∀ u ∈ old, u.oneCell' = true := by
              rcases Nat.eq_zero_or_pos n with rfl | hn
              · refine ⟨[], ?_, by simp [VRL], by simp⟩
                cases a <;> simp [Builtin.firstCells, loadCells_zero]
              · obtain ⟨blk, g1, g2, g3⟩ := row_cells S hb k1 b4 k3 (Nat.mul_pos hn T.pos.2)
                rcases k4 with k4 | ⟨blk', C, el, fr, e1, rfl, e2, e3⟩
                · omega
                rw [e1] at g1; cases g1
                simp only [List.drop_zero] at g2
                obtain ⟨old, q1, q2, q3, q4⟩ := g2.loads (P := P) (n := n * i.size) (by simp; omega)
                refine ⟨old, by simpa [Builtin.firstCells] using q2 w.drew rfl, ?_, q4⟩
                rw [List.take_take, Nat.min_self] at q3
                exact q3
            obtain ⟨old, o1, o2, o3⟩ := hold
            have hol := o2.length
            simp only [List.length_take] at hol
            have R := R2 (by omega) b1 old o1 (f1 w.drew rfl) zv z1
            have hg := grownCap_ge w (n + m) cap e
            generalize grownCap w (n + m) cap e = g at R hg
            have hsize : (old.toArray ++ (vs.toArray ++ Builtin.zeroCells zv.cells (g - (n + m)))).size = n * i.size + m * i.size + (g - (n + m)) * i.size := by
              simp [zeroCells_size, z6]; omega
            have hgm : (n + m) * i.size + (g - (n + m)) * i.size = g * i.size := by rw [← Nat.add_mul]; congr 1; omega
            have hCi : ∀ j, j < (n + m) * i.size → (old.toArray ++ (vs.toArray ++ Builtin.zeroCells zv.cells (g - (n + m))))[j]? = (old ++ vs)[j]? := by
              intro j hj
              rw [← Array.getElem?_toList]
              simp only [Array.toList_append]
              rw [← List.append_assoc, List.getElem?_append_left (by simp; omega)]
            obtain ⟨μ', S', F', H', hμ⟩ := row_grow (w0 := w.drew) (c' := c.append (n * i.size) new) (k := n * i.size) (n' := (n + m) * i.size) (C := old.toArray ++ (vs.toArray ++ Builtin.zeroCells zv.cells (g - (n + m)))) (el := e) S m0 ⟨ep, x, k1⟩ hlt ho ⟨rfl, rfl, rfl, rfl⟩ hacc hc'1 (by
              intro j hj
              rw [hCi j hj]
              by_cases hjn : j < n * i.size
              · obtain ⟨v, cv, q1, q2, q3, q4⟩ := o2.pt o3 (i := j) (by simp; omega)
                rw [List.getElem?_take, if_pos hjn] at q1
                exact ⟨v, cv, by rw [hc'1 j hjn]; exact q1, by rw [List.getElem?_append_left (by omega)]; exact q2, q3, q4⟩
              · obtain ⟨v, cv, q1, q2, q3, q4⟩ := f2.pt f3 (i := j - n * i.size) (by omega)
                exact ⟨v, cv, by rw [hc'2 j (by omega)]; exact q1, by rw [List.getElem?_append_right (by omega), ← q2]; congr 1; omega, q3, q4⟩) (by omega)
            refine ⟨μ', _, _, R, S', F', H', ?_⟩
            exact ⟨_, _, g, hμ, rfl, hg, by simp only; omega, .inr ⟨w.heap.size, _, e, (0, 0), rfl, rfl, by rw [heap_push]; exact if_pos rfl, by omega⟩⟩
      · rename_i b1 b2 b3
        have b1 := Nat.le_of_ble_eq_true b1
        obtain rfl := Nat.eq_of_beq_eq_true b3
        obtain ⟨x, a, cap, k1, rfl, k2, k3, k4⟩ := hs
        obtain ⟨R1, R2⟩ := append_run (ty := ty) (base := a) (n := n) (cap := cap) HE hu T hni l1 (f1 w rfl)
        have hlt := S.dom b ep x k1
        have ho := S.obj b hlt
        rw [hb] at ho
        unfold appendEnd at ha
        split at ha
        · cases ha
          obtain rfl : vs = [] := List.eq_nil_of_length_eq_zero (by omega)
          refine ⟨μ, w, _, R1 (by omega) w ?_, S, Frame.refl .., ⟨fun _ hc => hc, fun _ _ => rfl, fun _ _ _ hx => hx, fun _ C _ _ h => ⟨C, h, rfl⟩⟩, ⟨x, a, cap, k1, rfl, k2, k3, k4⟩⟩
          cases a <;> rfl
        · rename_i hm
          split at ha
          · rename_i k oldV hk hrd hmay
            split at ha
            · rename_i hend
              cases ha
              have hend := Nat.eq_of_beq_eq_true hend
              have hcons := exactK_eq hk
              have hm : 0 < m := Nat.pos_of_ne_zero fun hh => hm hh
              have hnm : (n + m) * i.size = n * i.size + m * i.size := Nat.add_mul ..
              have hpos := T.pos.2
              have hcap : cap ≤ n := by
                rcases k4 with k4 | ⟨blk, C, el, fr, e1, rfl, e2, e3⟩
                · omega
                obtain ⟨_, hblks, _⟩ := ho ep x k1
                obtain ⟨D, el', fr', g1, g2, g3⟩ := hblks blk e1
                rw [e2] at g1; cases g1
                have hsz := g3.2 k rfl hcons
                exact Nat.le_of_mul_le_mul_right (by omega : cap * i.size ≤ n * i.size) hpos
              unfold rd at hrd
              split at hrd
              case h_2 => cases hrd
              cases hrd
              have hold : ∃ old : List Value, (Builtin.firstCells i.size n (.slice a n cap)).run P w.drew = .ok old.toArray w.drew ∧ VRL Z μ w ((c.toV.drop off).take (n * i.size)) old ∧ ∀ u ∈ old, u.oneCell' = true := by
                rcases Nat.eq_zero_or_pos n with rfl | hn
                · refine ⟨[], ?_, by simp [VRL], by simp⟩
                  cases a <;> simp [Builtin.firstCells, loadCells_zero]
                · obtain ⟨blk, g1, g2, g3⟩ := row_cells S hb k1 hmay k3 (Nat.mul_pos hn hpos)
                  rcases k4 with k4 | ⟨blk', C, el, fr, e1, rfl, e2, e3⟩
                  · omega
                  rw [e1] at g1; cases g1
                  obtain ⟨old, q1, q2, q3, q4⟩ := g2.loads (P := P) (n := n * i.size) (by simp; omega)
                  refine ⟨old, by simpa [Builtin.firstCells] using q2 w.drew rfl, ?_, q4⟩
                  rw [List.take_take, Nat.min_self] at q3
                  exact q3
              obtain ⟨old, o1, o2, o3⟩ := hold
              have hol := o2.length
              have hrl : ((c.toV.drop off).take (n * i.size)).length = n * i.size := by
                have := Nat.le_of_ble_eq_true ‹_›
                simp; omega
              rw [hrl] at hol
              have R := R2 (by omega) b1 old o1 (f1 w.drew rfl) zv z1
              have hg := grownCap_ge w (n + m) cap e
              generalize grownCap w (n + m) cap e = g at R hg
              have S1 := (S.same (w' := w.drew) rfl).push (.row (.ofV ((c.toV.drop off).take (n * i.size) ++ new)) 0 0 [])
              have hn : ∀ e, μ h.length e = none := by
                intro e
                cases hh : μ h.length e with
                | none => rfl
                | some y => have := S.dom _ _ _ hh; omega
              have hsize : (old.toArray ++ (vs.toArray ++ Builtin.zeroCells zv.cells (g - (n + m)))).size = n * i.size + m * i.size + (g - (n + m)) * i.size := by
                simp [zeroCells_size, z6]; omega
              have hgm : (n + m) * i.size + (g - (n + m)) * i.size = g * i.size := by rw [← Nat.add_mul]; congr 1; omega
              obtain ⟨S2, F2⟩ := S1.link (b := h.length) (n := (n + m) * i.size) (o := .cells (old.toArray ++ (vs.toArray ++ Builtin.zeroCells zv.cells (g - (n + m)))) e (0, 0)) (by simp) hn (ob := .row (.ofV ((c.toV.drop off).take (n * i.size) ++ new)) 0 0 []) (by rw [getO_append]; simp [getO])
                ⟨rfl, rfl, .inl rfl, ⟨old ++ vs, (Builtin.zeroCells zv.cells (g - (n + m))).toList, by simp, by rw [ofV_toV]; exact (VR.sameL (by rfl) o2).append (VR.sameL (by rfl) f2), fun u hu => by
                  rcases List.mem_append.1 hu with hu | hu
                  · exact o3 u hu
                  · exact f3 u hu, by simp; omega⟩, Free.none _⟩ m0 hm0
              refine ⟨_, _, _, R, S2, (Frame.drew m0 Z μ w).trans F2, (Ext.drew Z μ w).trans (ext_alloc (S.same (w' := w.drew) rfl) _ fun b' e x hx => Mu.link_old hn hx), ?_⟩
              refine ⟨_, _, g, Mu.link_new .., rfl, hg, by simp only; omega, .inr ⟨w.heap.size, _, e, (0, 0), rfl, rfl, by rw [heap_push]; exact if_pos rfl, ?_⟩⟩
              rw [hsize]; omega
            · cases ha
          · cases ha
      · cases ha
    · cases ha
  · cases ha
end
end Go.Ab
end
