/-
  What a function hands back.
-/
import Derived.Test.YtldpapiaonchaaaGreatDoorZzW
import Derived.RangeFuncLeaves
section
namespace Go.Ab
open Go
section
variable {E : Env} {P : Program}
variable {m : Nat} {Z0 Z Z' : Nat → Prop} {μ0 μ : Mu} {w0 w : World} {st : S} {a : Act} {r : Option Nat} {h : List O}

theorem renTs_id {f : Nat → Nat} : ∀ (ts : List (Nat × V)), (∀ b ∈ namesTs ts, f b = b) → renTs f ts = ts
  | [], _ => rfl
  | (t, v) :: l, hh => by
    simp only [renTs]
    rw [renV_id v fun b hb => hh b (by simp [namesTs, hb]), renTs_id l fun b hb => hh b (by simp [namesTs, hb])]
theorem renC_id {f : Nat → Nat} (c : Cells) (hh : ∀ b ∈ namesC c, f b = b) : renC f c = c := by
  cases c with
  | ds l => rfl
  | vs l => simp only [renC]; rw [renVs_id l fun b hb => hh b (by simpa [namesC] using hb)]
  | mx p t => simp only [renC]; rw [renVs_id p fun b hb => hh b (by simpa [namesC] using hb)]
theorem renO_id {f : Nat → Nat} (o : O) (hh : ∀ b ∈ namesO o, f b = b) : renO f o = o := by
  cases o with
  | row c x y z => simp only [renO]; rw [renC_id c fun b hb => hh b (by simpa [namesO] using hb)]
  | map k v => simp only [renO]; rw [renC_id v fun b hb => hh b (by simpa [namesO] using hb)]
  | loop l =>
    simp only [renO]
    rw [renTs_id l.ts fun b hb => hh b (by simp [namesO, hb]), hh l.dfr (by simp [namesO])]
  | _ => rfl
/-- What is handed on: a value, over a heap. -/
def Hand (E : Env) (m : Nat) (Z0 : Nat → Prop) (μ0 : Mu) (w0 w : World) (cv : Value) (K : V → List O → Prop) : Prop :=
  ∃ v h Z' μ', K v h ∧ SR E Z' μ' h w ∧ VR Z' μ' w v cv ∧ Frame m Z0 μ0 w0 Z' μ' w
theorem handBack_ok {v : V} {cv : Value} {K : V → List O → Prop} (hk : handBack MP m h v K) (S : SR E Z μ h w) (F : Frame m Z0 μ0 w0 Z μ w) (hv : VR Z μ w v cv) : Hand E m Z0 μ0 w0 w cv K := by
  unfold handBack at hk
  simp only at hk
  obtain ⟨h1, hk⟩ := bB_MP hk
  obtain ⟨l, hl⟩ := reachOn_prefix h m (namesV v)
  have hn := reachOn_nodup h m (namesV v)
  generalize reachOn h m (namesV v) = σ at hk h1 hl hn
  split at h1
  · rename_i ha
    exact ⟨_, _, Z, μ.sub σ, hk, S.sub hn (closedIn_iff.1 h1), VR.sub hv (allIn_iff.1 ha), F.trans (Frame.sub hl)⟩
  · cases h1
/-! ### Values given up to be changed no more -/
def Given (Z : Nat → Prop) (μ : Mu) (m : Nat) : Nat → Prop := fun c => Z c ∨ ∃ b e x, m ≤ b ∧ μ b e = some x ∧ x.blk = some c
mutual
theorem frzV_ok (S : SR E Z μ h w) : ∀ (k : Nat) (v : V) (x : D) (cv : Value), frzV h m k v = some x → VR Z μ w v cv → VRd (Given Z μ m) w x cv
  | k, .d y, x, cv, hk, hv => by
    have : x = y := by cases k <;> simp [frzV] at hk <;> exact hk.symm
    subst this
    exact VRd.mono (fun c hc => .inl hc) (fun _ _ => rfl) _ _ hv
  | 0, .ptr .., _, _, hk, _ | 0, .slice .., _, _, hk, _ | 0, .map _, _, _, hk, _ | 0, .iter _, _, _, hk, _ | 0, .func .., _, _, hk, _ | 0, .yield _, _, _, hk, _ | 0, .iface .., _, _, hk, _ | 0, .agg _, _, _, hk, _ | 0, .tuple _, _, _, hk, _ => by simp [frzV] at hk
  | k + 1, .map _, _, _, hk, _ | k + 1, .iter _, _, _, hk, _ | k + 1, .yield _, _, _, hk, _ => by simp [frzV] at hk
  | k + 1, .slice b e off n sz, x, cv, hk, hv => by
    unfold frzV at hk
    split at hk
    · rename_i c cur fl cons hb hrow
      have hb := Nat.le_of_ble_eq_true hb
      split at hk
      · rename_i hm
        have key : ∀ (vs : List V) (ds : List D), rd c.toV off (n * sz) = some vs → (∀ cvs, VRL Z μ w vs cvs → VRdL (Given Z μ m) w ds cvs) → ds.length = vs.length → VRd (Given Z μ m) w (.slice n sz ds) cv := by
          intro vs ds hvs hds hdl'
          obtain ⟨y, ad, cap, h1, rfl, h2, h3, h4⟩ := hv
          obtain ⟨l1, l2⟩ := rd_spec hvs
          have hlen : vs.length = n * sz := by rw [l2]; simp; omega
          have hdl : ds.length = n * sz := by rw [hdl', hlen]
          refine ⟨ad, cap, rfl, h2, hdl, ?_⟩
          rcases Nat.eq_zero_or_pos n with rfl | hn
          · exact .inl rfl
          · rcases h4 with rfl | ⟨blk, C, el, fr, e1, rfl, e2, e3⟩
            · omega
            refine .inr ⟨blk, off, rfl, .inr ⟨b, e, y, hb, h1, e1⟩, ?_⟩
            rcases Nat.eq_zero_or_pos (n * sz) with h0 | hp
            · have : ds = [] := List.eq_nil_of_length_eq_zero (by omega)
              subst this; trivial
            · obtain ⟨blk', g1, g2, _⟩ := row_cells S hrow h1 hm h3 hp
              rw [e1] at g1; cases g1
              rw [← l2] at g2
              obtain ⟨cvs, f1, f2⟩ := g2.list
              have hd := hds cvs f1
              refine VRdAt.mk fun i x hx => ?_
              obtain ⟨u, hu, hux⟩ := hd.getElem? i x hx
              exact ⟨u, (f2 i u hu).1, (f2 i u hu).2, hux⟩
        split at hk
        · rename_i l
          split at hk
          · rename_i r hr
            cases hk
            refine key (r.map .d) r ?_ (fun cvs hcv => VRdL.mono (fun c hc => .inl hc) (fun _ _ => rfl) _ _ hcv.toD) (by simp)
            obtain ⟨l1, l2⟩ := rd_spec hr
            simp only [Cells.toV, rd, List.length_map]
            rw [Nat.ble_eq_true_of_le l1, l2]
            simp [List.map_drop, List.map_take]
          · cases hk
        · rename_i l
          split at hk
          · rename_i vs hvs
            split at hk
            · rename_i ds hds
              cases hk
              exact key vs ds hvs (fun cvs hcv => frzVs_ok S k vs ds cvs hds hcv) (frzVs_length hds)
            · cases hk
          · cases hk
        · rename_i p t
          split at hk
          · rename_i vs hvs
            split at hk
            · rename_i ds hds
              cases hk
              exact key vs ds hvs (fun cvs hcv => frzVs_ok S k vs ds cvs hds hcv) (frzVs_length hds)
            · cases hk
          · cases hk
      · cases hk
    · cases hk
  | k + 1, .ptr b e off lim, x, cv, hk, hv => by
    unfold frzV at hk
    split at hk
    · rename_i c cur fl cons hb hrow
      have hb := Nat.le_of_ble_eq_true hb
      split at hk
      · rename_i hm
        split at hk
        · rename_i vs hvs
          split at hk
          · rename_i ds hds
            cases hk
            obtain ⟨y, blk, h1, h2, h3, rfl, _⟩ := hv
            obtain ⟨l1, l2⟩ := rd_spec hvs
            have hlen : vs.length = lim := by rw [l2]; simp; omega
            have hdl : ds.length = lim := by rw [frzVs_length hds, hlen]
            refine ⟨blk, 0, by simp, .inr ⟨b, e, y, hb, h1, h2⟩, ?_⟩
            rcases Nat.eq_zero_or_pos lim with h0 | hp
            · have : ds = [] := List.eq_nil_of_length_eq_zero (by omega)
              subst this; trivial
            · obtain ⟨blk', g1, g2, _⟩ := row_cells S hrow h1 hm (by omega) hp
              rw [h2] at g1; cases g1
              rw [← l2] at g2
              obtain ⟨cvs, f1, f2⟩ := g2.list
              have hd := frzVs_ok S k vs ds cvs hds f1
              refine VRdAt.mk fun i x hx => ?_
              obtain ⟨u, hu, hux⟩ := hd.getElem? i x hx
              exact ⟨u, (f2 i u hu).1, (f2 i u hu).2, hux⟩
          · cases hk
        · cases hk
      · cases hk
    · cases hk
  | k + 1, .func f fa fc, x, cv, hk, hv => by
    unfold frzV at hk
    split at hk
    · rename_i x1 x2 h1 h2
      cases hk
      obtain ⟨a', c', rfl, g1, g2⟩ := hv
      exact ⟨a', c', rfl, frzVs_ok S k _ _ _ h1 g1, frzVs_ok S k _ _ _ h2 g2⟩
    · cases hk
  | k + 1, .iface t v, x, cv, hk, hv => by
    unfold frzV at hk
    split at hk
    · rename_i x1 h1
      cases hk
      obtain ⟨u, rfl, g1⟩ := hv
      exact ⟨u, rfl, frzV_ok S k _ _ _ h1 g1⟩
    · cases hk
  | k + 1, .agg cs, x, cv, hk, hv => by
    unfold frzV at hk
    split at hk
    · rename_i x1 h1
      cases hk
      obtain ⟨u, rfl, g1, g2⟩ := hv
      exact ⟨u, rfl, frzVs_ok S k _ _ _ h1 g1, g2⟩
    · cases hk
  | k + 1, .tuple cs, x, cv, hk, hv => by
    unfold frzV at hk
    split at hk
    · rename_i x1 h1
      cases hk
      obtain ⟨u, rfl, g1⟩ := hv
      exact ⟨u, rfl, frzVs_ok S k _ _ _ h1 g1⟩
    · cases hk
theorem frzVs_ok (S : SR E Z μ h w) : ∀ (k : Nat) (vs : List V) (ds : List D) (cvs : List Value), frzVs h m k vs = some ds → VRL Z μ w vs cvs → VRdL (Given Z μ m) w ds cvs
  | k, [], ds, cvs, hk, hv => by
    have : ds = [] := by cases k <;> simp [frzVs] at hk <;> exact hk
    subst this
    exact hv
  | 0, _ :: _, _, _, hk, _ => by simp [frzVs] at hk
  | k + 1, v :: l, ds, cvs, hk, hv => by
    unfold frzVs at hk
    split at hk
    · rename_i x r h1 h2
      cases hk
      obtain ⟨u, us, rfl, g1, g2⟩ := hv
      exact ⟨u, us, rfl, frzV_ok S k _ _ _ h1 g1, frzVs_ok S k _ _ _ h2 g2⟩
    · cases hk
theorem frzVs_length : ∀ {k : Nat} {vs : List V} {ds : List D}, frzVs h m k vs = some ds → ds.length = vs.length
  | k, [], ds, hk => by
    have : ds = [] := by cases k <;> simp [frzVs] at hk <;> exact hk
    subst this; rfl
  | 0, _ :: _, _, hk => by simp [frzVs] at hk
  | k + 1, v :: l, ds, hk => by
    unfold frzVs at hk
    split at hk
    · rename_i x r h1 h2
      cases hk
      simp [frzVs_length h2]
    · cases hk
end
end
end Go.Ab
end
section
/-
  Functions, whole; rounds, whole.
-/
namespace Go.Ab
open Go
section
variable {E : Env} {P : Program}
variable {m : Nat} {Z0 Z Z' : Nat → Prop} {μ0 μ : Mu} {w0 w : World} {st : S} {a : Act} {r : Option Nat} {h : List O}

theorem getO_take : ∀ (h : List O) (m b : Nat), b < m → getO (h.take m) b = getO h b
  | [], m, b, _ => by simp
  | x :: h, 0, b, hb => by omega
  | x :: h, m + 1, 0, _ => rfl
  | x :: h, m + 1, b + 1, hb => by simp only [List.take_succ_cons, getO]; exact getO_take h m b (by omega)
/-- The first m names. -/
def Mu.first (μ : Mu) (m : Nat) : Mu := fun b e => if b < m then μ b e else none
theorem Mu.first_some {b e : Nat} {x : Ep} (hx : μ.first m b e = some x) : b < m ∧ μ b e = some x := by
  unfold Mu.first at hx
  split at hx
  · exact ⟨by assumption, hx⟩
  · cases hx
theorem Mu.first_lt {b e : Nat} (hb : b < m) : μ.first m b e = μ b e := by unfold Mu.first; rw [if_pos hb]
theorem handFrozen_ok {v : V} {cv : Value} {K : V → List O → Prop} (hk : handFrozen MP m h v K) (S : SR E Z μ h w) (F : Frame m Z0 μ0 w0 Z μ w) (hd : ∀ b e x, μ0 b e = some x → b < m) (hm : m ≤ h.length) (hv : VR Z μ w v cv) : Hand E m Z0 μ0 w0 w cv K := by
  unfold handFrozen at hk
  split at hk
  · rename_i hc
    have hc := closedIn_iff.1 hc
    split at hk
    · rename_i x hx
      have H : Ext Z μ w (Given Z μ m) μ w := ⟨fun _ hz => .inl hz, fun _ _ => rfl, fun _ _ _ h => h, fun _ C _ _ h => ⟨C, h, rfl⟩⟩
      refine ⟨.d x, h.take m, Given Z μ m, μ.first m, hk, ⟨?_, ?_, ?_, ?_, ?_, ?_⟩, frzV_ok S 60 v x cv hx hv, ?_⟩
      · rintro c (hz | ⟨b, e, y, _, h1, h2⟩)
        · exact S.zlt c hz
        · exact (S.own b e y c h1 h2).1
      · intro b hb
        have hb : b < m := by simp at hb; omega
        rw [getO_take h m b hb]
        have h0 := OR.mono H (S.obj b (by omega)) (fun _ _ h => h) (fun _ _ _ _ _ => rfl)
        have h1 := OR.ren (μ' := μ.first m) (r := id) (i := b) h0 (fun e y hy => (Mu.first_some hy).2) fun b' hb' e y hy => by
          rw [id, Mu.first_lt (by simpa using hc b (by simpa using hb) b' hb')]; exact hy
        rwa [renO_id (f := id) _ fun _ _ => rfl] at h1
      · intro b e y hy
        have := (Mu.first_some hy).1
        simp; omega
      · intro b e y c hy hyc
        obtain ⟨h1, h2⟩ := Mu.first_some hy
        obtain ⟨k1, k2⟩ := S.own b e y c h2 hyc
        refine ⟨k1, ?_⟩
        rintro (hz | ⟨b', e', y', h3, h4, h5⟩)
        · exact k2 hz
        · have := S.inj b b' e e' y y' c h2 h4 hyc h5
          omega
      · intro b b' e e' y y' c h1 h2 h3 h4
        exact S.inj b b' e e' y y' c (Mu.first_some h1).2 (Mu.first_some h2).2 h3 h4
      · exact glob_mono H.z H.zw S.glob
      · refine ⟨F.os, F.tape, F.output, F.size, F.keep, fun c hz => .inl (F.z c hz), ?_, fun b e y c hy hyc => F.ow b e y c (Mu.first_some hy).2 hyc, fun b hb e y hy => by rw [Mu.first_lt hb]; exact F.ext b hb e y hy, F.sz, fun b hb hn e => by rw [Mu.first_lt hb]; exact F.un b hb hn e⟩
        rintro c (hz | ⟨b, e, y, h1, h2, h3⟩)
        · exact F.zz c hz
        · rcases F.ow b e y c h2 h3 with ⟨b0, e0, y0, k1, k2⟩ | k
          · have hb0 := hd _ _ _ k1
            have := S.inj b b0 e e0 y y0 c h2 (F.ext b0 hb0 e0 y0 k1) h3 k2
            omega
          · exact .inr k
    · exact handBack_ok hk S F hv
  · exact handBack_ok hk S F hv
/-! ### Results -/
theorem loadAt_addr {t : Nat} {v : V} {av cv : Value} {x : V} (hx : VR Z μ w x av) (hv : loadV E h t x = some v) (hr : (Instr.loadAt t av).run P w = .ok cv w) : (do loadVar t (← asAddr av) : Sem Value).run P w = .ok cv w := by
  have : ∃ ad, av = .pointer (some ad) := by
    unfold loadV at hv
    split at hv
    · cases hv
    · split at hv
      · obtain ⟨c, o, rfl, _⟩ := hx; exact ⟨_, rfl⟩
      · obtain ⟨y, c, _, _, _, rfl, _⟩ := hx; exact ⟨_, rfl⟩
      · cases hv
  obtain ⟨ad, rfl⟩ := this
  simpa [Instr.loadAt, Instr.sureAddr, asAddr] using hr
/-- One result, as the model takes it. -/
def resOne (tmps : Array Value) (x : ResultVar) : Sem Value := match x with
  | .tmp t => pure (tmps.getD t undef)
  | .cell y t => do loadVar t (← asAddr (tmps.getD y undef))
theorem resultsV_ok (HE : EnvOk E P) (S : SR E Z μ st.h w) (T : TR Z μ w st.df st.ts a.tmps) : ∀ (rs : List ResultVar) (vs : List V), resultsV E st rs = some vs → ∃ cvs : List Value,
    (rs.mapM (resOne a.tmps)).run P w = .ok cvs w ∧ VRL Z μ w vs cvs
  | [], vs, h => by
    simp only [resultsV, Option.some.injEq] at h; subst h
    exact ⟨[], by simp, rfl⟩
  | x :: rs, vs, h => by
    unfold resultsV at h
    split at h
    · rename_i v vs' h1 h2
      cases h
      obtain ⟨cvs, e1, e2⟩ := resultsV_ok HE S T rs vs' h2
      cases x with
      | tmp t =>
        simp only [resultV, Option.some.injEq] at h1; subst h1
        exact ⟨_ :: cvs, by simp only [List.mapM_cons, resOne, Sem.run_bind, Sem.run_pure, Result.andThen_ok, e1], ⟨_, _, rfl, T t, e2⟩⟩
      | cell x t =>
        simp only [resultV] at h1
        obtain ⟨cv, e3, e4⟩ := loadV_ok (P := P) HE S (T x) h1
        have e5 := loadAt_addr (P := P) (T x) h1 e3
        have e6 : (resOne a.tmps (.cell x t)).run P w = .ok cv w := e5
        exact ⟨cv :: cvs, by simp only [List.mapM_cons, Sem.run_bind, e6, Result.andThen_ok, e1, Sem.run_pure], ⟨_, _, rfl, e4, e2⟩⟩
    · cases h
theorem out_ok {vs : List V} {cvs : Array Value} (hv : VRL Z μ w vs cvs.toList) : VR Z μ w (outV vs) (if h : cvs.size = 1 then cvs[0] else .tuple cvs) := by
  have hl := hv.length
  simp at hl
  unfold outV
  split
  · rename_i v
    have h1 : cvs.size = 1 := by simpa using hl.symm
    rw [dif_pos h1]
    obtain ⟨u, us, e, h2, h3⟩ := hv
    have : cvs.toList[0]? = some u := by rw [e]; rfl
    have h4 : cvs[0] = u := by
      rw [Array.getElem?_toList] at this
      simpa [h1] using this
    rw [h4]; exact h2
  · rename_i hne
    have h1 : ¬ cvs.size = 1 := fun h1 => by
      rw [h1] at hl
      obtain ⟨v, rfl⟩ := List.length_eq_one_iff.1 hl
      exact hne v rfl
    rw [dif_neg h1]
    exact VR.mkTuple hv
theorem results_ok (HE : EnvOk E P) (S : SR E Z μ st.h w) (T : TR Z μ w st.df st.ts a.tmps) {fn : Func} {vs : List V} (h : resultsV E st fn.results.toList = some vs) : ∃ cv, (results fn a.tmps).run P w = .ok cv w ∧ VR Z μ w (outV vs) cv := by
  obtain ⟨cvs, e1, e2⟩ := resultsV_ok (P := P) HE S T _ vs h
  refine ⟨_, ?_, out_ok (cvs := cvs.toArray) (by simpa using e2)⟩
  have hm : fn.results.mapM (resOne a.tmps) = (do let l ← fn.results.toList.mapM (resOne a.tmps); pure l.toArray) := by
    rw [Array.mapM_eq_mapM_toList]
    exact map_eq_pure_bind _ _
  have hr : results fn a.tmps = (do let vs ← fn.results.mapM (resOne a.tmps); pure (if h : vs.size = 1 then vs[0] else .tuple vs)) := by
    unfold results
    congr 1
  rw [hr, hm]
  simp only [Sem.run_bind, e1, Result.andThen_ok, Sem.run_pure]
/-- The marks are taken in. -/
theorem leave_marks {fn : Func} {tmps : Array Value} {R : Ending → World → Prop} : ∀ (l : List Nat) (ds : List Deferred) (h h' : List O) (w : World), MkOk μ l ds → goneAll h l = some h' → SR E Z μ h w → Frame m Z0 μ0 w0 Z μ w →
    (∀ w', SR E Z μ h' w' → Frame m Z0 μ0 w0 Z μ w' → Ext Z μ w Z μ w' → LeavesInM (WF none) 0 P fn tmps R [] .returning w') → LeavesInM (WF none) 0 P fn tmps R ds .returning w
  | [], ds, h, h', w, hmk, hg, S, F, hk => by
    cases hmk
    simp only [goneAll, Option.some.injEq] at hg; subst hg
    exact hk w S F (Ext.refl ..)
  | b :: l, _, h, h', w, ⟨x, c, ds', h1, h2, h3, h4⟩, hg, S, F, hk => by
    subst h3
    unfold goneAll at hg
    split at hg
    · rename_i hb
      have ho := S.obj b (S.dom _ _ _ h1)
      rw [hb] at ho
      obtain ⟨_, c', g1, g2⟩ := ho 0 x h1
      rw [h2] at g1; cases g1
      obtain ⟨w1, r1, r2, r3, r4⟩ := obj_turn (P := P) (o' := .deferred none) (ob := .gone) S m h1 (fun e y hy => (ho e y hy).1) h2 g2 (by intro _ _ _ hh; cases hh) (fun _ _ _ => trivial)
      have hget : (getObj c).run P w = .ok (.deferred (some [])) w := by simp only [getObj, Sem.run, g2]
      refine ⟨by simp, .inl ⟨c, w1, rfl, by simp [Instr.takeDeferred, hget, r1], ?_⟩⟩
      exact leave_marks l ds' _ h' w1 h4 hg r2 (F.trans r3) fun w' S' F' H' => hk w' S' F' (r4.trans H')
    · cases hg
end
end Go.Ab
end
section
/-
  Functions and rounds, from a call's start to its end.
-/
namespace Go.Ab
open Go
section
variable {E : Env} {P : Program}
variable {m : Nat} {Z0 Z Z' : Nat → Prop} {μ0 μ : Mu} {w0 w : World} {st : S} {a : Act} {r : Option Nat} {h : List O}

theorem goneAll_length : ∀ (l : List Nat) (h h' : List O), goneAll h l = some h' → h'.length = h.length
  | [], h, h', hg => by simp only [goneAll, Option.some.injEq] at hg; rw [hg]
  | b :: l, h, h', hg => by
    unfold goneAll at hg
    split at hg
    · rw [goneAll_length l _ _ hg, setO_length]
    · cases hg
theorem finish_ok (HE : EnvOk E P) {frz : Bool} {fr : Fr} {fn : Func} {Q : V → List O → Prop} (hk : finish MP E frz fr fn.results.toList st Q)
    (hd : ∀ b e x, μ0 b e = some x → b < fr.m) (B : StOk E fr.m Z0 μ0 w0 Z μ st a w) :
    LeavesInM (WF none) 0 P fn a.tmps (Post E fr.m Z0 μ0 w0 Q) a.defers .returning w := by
  unfold finish at hk
  obtain ⟨h', hg, hk⟩ := oB_MP hk
  obtain ⟨vs, hvs, hk⟩ := oB_MP hk
  refine leave_marks st.mks a.defers st.h h' w B.mks hg B.sr B.fr fun w' S' F' H' => ?_
  obtain ⟨cv, h1, h2⟩ := results_ok (P := P) (st := { st with h := h' }) (a := a) HE S' (B.tr.mono H') hvs
  have hl : fr.m ≤ h'.length := by rw [goneAll_length _ _ _ hg]; exact B.hm
  have hand : Hand E fr.m Z0 μ0 w0 w' cv Q := by
    cases frz with
    | true => exact handFrozen_ok hk S' F' hd hl h2
    | false => exact handBack_ok hk S' F' h2
  obtain ⟨v, h3, Z', μ', q, s, vr, f⟩ := hand
  exact ⟨cv, h1, v, h3, Z', μ', q, s, vr, f⟩
theorem getT_numbered (df : D) : ∀ (args : List V) (i t : Nat), getT df (numbered i args) t = if i ≤ t then (args[t - i]?).getD (.d df) else .d df
  | [], i, t => by simp [numbered, getT]
  | v :: l, i, t => by
    simp only [numbered, getT]
    split
    · rename_i hh
      rw [Nat.eq_of_beq_eq_true hh, if_pos (Nat.le_refl _)]; simp
    · rename_i hh
      have hne : i ≠ t := fun h0 => by rw [h0, Nat.beq_refl] at hh; cases hh
      rw [getT_numbered df l (i + 1) t]
      by_cases hi : i ≤ t
      · rw [if_pos hi, if_pos (by omega)]
        have : t - i = (t - (i + 1)) + 1 := by omega
        rw [this]; simp
      · rw [if_neg hi, if_neg (by omega)]
theorem TR.enter {args : List V} {cargs : Array Value} (ha : VRL Z μ w args cargs.toList) (n : Nat) : TR Z μ w .undef (numbered 0 args) (cargs ++ Array.replicate n undef) := fun t => by
  rw [getT_numbered, if_pos (Nat.zero_le _), Nat.sub_zero]
  have hl := ha.length
  simp at hl
  by_cases ht : t < args.length
  · obtain ⟨v, hv⟩ : ∃ v, args[t]? = some v := ⟨args[t], by simp [ht]⟩
    obtain ⟨u, hu, hvu⟩ := ha.getElem? t v hv
    rw [hv]
    have h1 : t < cargs.size := by omega
    have h2 : (cargs ++ Array.replicate n undef).getD t undef = u := by
      rw [Array.getD_eq_getD_getElem?, Array.getElem?_append, if_pos h1]
      rw [Array.getElem?_toList] at hu
      rw [hu]; rfl
    rw [h2]; exact hvu
  · have h0 : args[t]? = none := by simp; omega
    rw [h0]
    have h1 : ¬ t < cargs.size := by omega
    have h2 : (cargs ++ Array.replicate n undef).getD t undef = undef := by
      rw [Array.getD_eq_getD_getElem?, Array.getElem?_append, if_neg h1, Array.getElem?_replicate]
      split <;> rfl
    rw [h2]; rfl
theorem enterFn_ok (HE : EnvOk E P) {C : CallP Prop} {Y : YieldP Prop} (HC : CallOk P E C) (HY : YieldOk P E Y) {L : LoopP Prop} (HL : LoopOk L) {frz : Nat → Bool} {f : Nat} {args : List V} {Q : V → List O → Prop}
    (hk : enterFn MP E C Y L frz f args h Q) : Enters P f ∧
      ∀ Z μ w (cargs : Array Value), SR E Z μ h w → VRL Z μ w args cargs.toList → CallsIn Fence.wide 0 P f cargs w (Post E h.length Z μ w Q) := by
  unfold enterFn at hk
  split at hk
  · rename_i F hF
    split at hk
    · rename_i body hbody
      obtain ⟨hle, hk⟩ := bB_MP hk
      have hle := Nat.le_of_ble_eq_true hle
      refine ⟨⟨F, HE.fn f F hF, HE.name f F hF, by rw [hbody]; rfl⟩, fun Z μ w cargs S ha => ?_⟩
      have hl := ha.length
      simp at hl
      have B : StOk E h.length Z μ w Z μ ⟨F.ntmps, numbered 0 args, .undef, h, []⟩ { tmps := cargs ++ Array.replicate (F.ntmps - cargs.size) undef, defers := [] } w :=
        ⟨⟨Frame.refl .., Nat.le_refl _, S, by simp; omega, rfl⟩, TR.enter ha _⟩
      have hw := W_ok (r := none) HE HC HY HL (fr := ⟨f, h.length, none⟩) (μ0 := μ) rfl body _ _ Z μ _ w hk B
      refine callsIn_of_wp_marks (F := Fence.wide) (HE.fn f F hF) hbody trivial ?_ rfl
      show body.wpIn (WF none) 0 P (bodyPostM (WF none) 0 P F _) _ w
      refine wpIn_mono hw ?_
      rintro e a' w' ⟨x, st', rfl, hx, Z', μ', B'⟩
      cases x with
      | normal => exact finish_ok HE hx S.dom B'
      | ret => exact finish_ok HE hx S.dom B'
      | exit id => exact hx.elim
    · exact hk.elim
  · exact hk.elim
/-! ### Rounds -/
theorem setLoop_ok {b c : Nat} {s : LoopState} {p : Option Code} {K : List O → Prop} {x : Ep} (m : Nat) (hk : setLoop MP h b s p K) (S : SR E Z μ h w) (hx : μ b 0 = some x) (hblk : x.blk = some c) :
    ∃ (R : Loop) (lr : LoopR) (w' : World) (h' : List O), w.heap[c]? = some (.loop R) ∧ getO h b = .loop lr ∧ R.state = lr.state ∧ R.pending = lr.pending ∧
      (setObj c (.loop { R with state := s, pending := p })).run P w = .ok () w' ∧ K h' ∧ h'.length = h.length ∧ SR E Z μ h' w' ∧ Frame m Z μ w Z μ w' ∧ Ext Z μ w Z μ w' := by
  unfold setLoop at hk
  split at hk
  · rename_i lr hlr
    have ho := S.obj _ (S.dom _ _ _ hx)
    rw [hlr] at ho
    obtain ⟨_, c', R, y', k', g1, g2, g3, g4, g5, g6, g7, g8, g9, g10, g11, g12⟩ := ho 0 _ hx
    rw [hblk] at g1; cases g1
    have h0 : ∀ e x, μ b e = some x → e = 0 := fun e x hxx => (ho e x hxx).1
    obtain ⟨w', r1, r2, r3, r4⟩ := obj_turn (P := P) (o' := .loop { R with state := s, pending := p }) (ob := .loop { lr with state := s, pending := p }) S m hx h0 hblk g2 (by intro _ _ _ hh; cases hh)
      (fun w' H hw e y hy => by
        obtain rfl := h0 e y hy
        rw [hx] at hy; cases hy
        exact ⟨rfl, c, _, y', k', hblk, hw, rfl, rfl, g5, g6, g7, g8, g9.mono H, g10, g11, g12⟩)
    exact ⟨R, lr, w', _, g2, hlr, g3, g4, r1, hk, setO_length .., r2, r3, r4⟩
  · exact hk.elim
theorem putAll_ok {df : D} : ∀ (ps : List Nat) (args : List V) (ts : List (Nat × V)) (tmps : Array Value) (cs : List Value), ps.length = args.length → (∀ t ∈ ps, t < tmps.size) → VRL Z μ w args cs → TR Z μ w df ts tmps →
    TR Z μ w df (putAll ps args ts) ((ps.zip cs).foldl (fun tmps (t, a) => tmps.setIfInBounds t a) tmps) ∧ ((ps.zip cs).foldl (fun tmps (t, a) => tmps.setIfInBounds t a) tmps).size = tmps.size
  | [], _, ts, tmps, cs, _, _, _, T => by simp [putAll, T]
  | t :: ps, [], ts, tmps, cs, hl, _, _, _ => by simp at hl
  | t :: ps, v :: args, ts, tmps, cs, hl, hb, ha, T => by
    obtain ⟨u, us, rfl, h1, h2⟩ := ha
    have hb' : ∀ t' ∈ ps, t' < (tmps.setIfInBounds t u).size := fun t' ht' => by simp; exact hb t' (List.mem_cons_of_mem _ ht')
    obtain ⟨k1, k2⟩ := putAll_ok ps args ((t, v) :: ts) (tmps.setIfInBounds t u) us (by simpa using hl) hb' h2 (by
      intro s
      simp only [getT]
      have ht := hb t (List.mem_cons_self ..)
      split
      · rename_i hh
        obtain rfl := Nat.eq_of_beq_eq_true hh
        simpa [Array.getD_eq_getD_getElem?, ht] using h1
      · rename_i hh
        have hne : t ≠ s := fun h0 => by rw [h0, Nat.beq_refl] at hh; cases hh
        have := T s
        simpa [Array.getD_eq_getD_getElem?, Array.getElem?_setIfInBounds, hne] using this)
    refine ⟨by simpa [putAll] using k1, by simpa using k2⟩
theorem allBlt_iff {nt : Nat} : ∀ {l : List Nat}, allBlt nt l = true → ∀ t ∈ l, t < nt
  | [], _, t, ht => by simp at ht
  | s :: l, hh, t, ht => by
    unfold allBlt at hh
    split at hh
    · rename_i h1
      rcases List.mem_cons.1 ht with rfl | ht
      · simpa [Nat.blt_eq] using h1
      · exact allBlt_iff hh t ht
    · cases hh
theorem foldl_zip (ps : Array Nat) (cs : Array Value) (tmps : Array Value) : (ps.zip cs).foldl (fun tmps (t, a) => tmps.setIfInBounds t a) tmps = (ps.toList.zip cs.toList).foldl (fun tmps (t, a) => tmps.setIfInBounds t a) tmps := by
  rw [← Array.foldl_toList, Array.toList_zip]
theorem roundFn_ok (HE : EnvOk E P) {C : CallP Prop} {Y : YieldP Prop} (HC : CallOk P E C) (HY : YieldOk P E Y) {L : LoopP Prop} (HL : LoopOk L) {b : Nat} {args : List V} {Q : V → List O → Prop}
    (hk : roundFn MP E C Y L b args h Q) : ∀ Z μ w (cargs : Array Value) x c, SR E Z μ h w → VRL Z μ w args cargs.toList → μ b 0 = some x → x.blk = some c →
    ∃ R, w.heap[c]? = some (.loop R) ∧ cargs.size = R.params.size ∧ RoundIn Fence.wide 0 P c R.fn ((R.params.zip cargs).foldl (fun tmps (t, a) => tmps.setIfInBounds t a) R.tmps) R.assign R.body w (Post E h.length Z μ w Q) := by
  intro Z μ w cargs x c Sr ha hx hblk
  unfold roundFn at hk
  split at hk
  · rename_i lr hlr
    obtain ⟨hp, hk⟩ := bB_MP hk
    split at hp
    · rename_i hlen
      have hlen := Nat.eq_of_beq_eq_true hlen
      have hbl := Sr.dom _ _ _ hx
      have ho := Sr.obj _ hbl
      rw [hlr] at ho
      obtain ⟨_, c', R, y', k', g1, g2, g3, g4, g5, g6, g7, g8, g9, g10, g11, g12⟩ := ho 0 _ hx
      rw [hblk] at g1; cases g1
      have hl := ha.length
      simp at hl
      have hps : R.params.size = args.length := by rw [← hlen, ← g5]; simp
      refine ⟨R, g2, by omega, ?_⟩
      obtain ⟨k1, k2⟩ := putAll_ok (Z := Z) (μ := μ) (w := w) lr.params args lr.ts R.tmps cargs.toList hlen (fun t ht => by rw [g8]; exact allBlt_iff hp t ht) ha g9
      rw [foldl_zip, g5]
      generalize (lr.params.zip cargs.toList).foldl (fun tmps (t, a) => tmps.setIfInBounds t a) R.tmps = tmps0 at k1 k2
      have B : StOk E h.length Z μ w Z μ ⟨lr.nt, putAll lr.params args lr.ts, lr.df, h, []⟩ { tmps := tmps0, defers := [] } w :=
        ⟨⟨Frame.refl .., Nat.le_refl _, Sr, by rw [← g8]; exact k2, rfl⟩, k1⟩
      have hrr : RoundRel ⟨lr.fn, h.length, some b⟩ (some c) μ := ⟨hbl, x, c, hx, hblk, rfl⟩
      rw [g6, g7]
      refine roundIn_of_wpIn (F := Fence.wide) trivial ?_
      show lr.assign.wpIn (WF (some c)) 0 P _ _ w
      refine wpIn_mono (W_ok (r := some c) HE HC HY HL hrr lr.assign _ _ Z μ _ w hk B) ?_
      rintro e a1 w1 ⟨z, st1, rfl, hz, Z1, μ1, B1⟩
      have hx1 : μ1 b 0 = some x := B1.fr.ext b hbl 0 x hx
      split at hz
      · rename_i lr1 hlr1
        split at hz
        · rename_i hst
          obtain ⟨R1, lr1', w2, h2, q1, q2, q3, q4, q5, q6, q7, q8, q9, q10⟩ := setLoop_ok (P := P) h.length hz B1.sr hx1 hblk
          rw [hlr1] at q2; cases q2
          have hget : (getObj c).run P w1 = .ok (.loop R1) w1 := by simp only [getObj, Sem.run, q1]
          refine ⟨w2, ?_, ?_⟩
          · have q5' : (setObj c (.loop { R1 with state := .busy })).run P w1 = .ok () w2 := by
              have q := q5
              rw [← q4] at q
              exact q
            simp [Instr.beginRound, Instr.getLoop, hget, q5', q3, hst]
          · have B2 := B1.step q8 q9 q10 (by rw [q7]; exact B1.hm)
            show lr.body.wpIn (WF (some c)) 0 P _ _ w2
            refine wpIn_mono (W_ok (r := some c) HE HC HY HL hrr lr.body _ _ Z1 μ1 _ w2 q6 B2) ?_
            have fin : ∀ {st3 : S} {a3 : Act} {w3 : World} {Z3 : Nat → Prop} {μ3 : Mu} {s : LoopState} {p : Option Code} {bv : Bool}, StOk E h.length Z μ w Z3 μ3 st3 a3 w3 → setLoop MP st3.h b s p (fun h2 => Q (.d (.bool bv)) h2) →
                (s = if p.isNone then .ready else .done) → bv = p.isNone → ∃ v w4, (Instr.endRound c p).run P w3 = .ok v w4 ∧ Post E h.length Z μ w Q (.returned v) w4 := by
              intro st3 a3 w3 Z3 μ3 s p bv B3 hq hs hbv
              have hx3 : μ3 b 0 = some x := B3.fr.ext b hbl 0 x hx
              obtain ⟨R3, lr3, w4, h4, u1, u2, u3, u4, u5, u6, u7, u8, u9, u10⟩ := setLoop_ok (P := P) h.length hq B3.sr hx3 hblk
              have hget3 : (getObj c).run P w3 = .ok (.loop R3) w3 := by simp only [getObj, Sem.run, u1]
              subst hs hbv
              refine ⟨.bool p.isNone, w4, ?_, _, h4, Z3, μ3, u6, u8, rfl, B3.fr.trans u9⟩
              cases p
              · simp only [Option.isNone_none, if_true] at u5
                simp [Instr.endRound, Instr.getLoop, hget3, u5]
              · simp only [Option.isNone_some, Bool.false_eq_true, if_false] at u5
                simp [Instr.endRound, Instr.getLoop, hget3, u5]
            rintro e a3 w3 ⟨z3, st3, rfl, hz3, Z3, μ3, B3⟩
            cases z3 with
            | normal => exact fin B3 hz3 rfl rfl
            | ret => exact fin B3 hz3 rfl rfl
            | exit id => exact fin B3 hz3 rfl rfl
        · exact hz.elim
      · exact hz.elim
    · cases hp
  · exact hk.elim
/-! ### What a call is known to do -/
/-- A call's end is known: the model's own word. -/
def SemC (P : Program) (E : Env) : CallP Prop := fun f args h Q => Enters P f ∧
  ∀ Z μ w (cargs : Array Value), SR E Z μ h w → VRL Z μ w args cargs.toList → CallsIn Fence.wide 0 P f cargs w (Post E h.length Z μ w Q)
def SemY (P : Program) (E : Env) : YieldP Prop := fun b args h Q =>
  ∀ Z μ w (cargs : Array Value) x c, SR E Z μ h w → VRL Z μ w args cargs.toList → μ b 0 = some x → x.blk = some c →
    ∃ R, w.heap[c]? = some (.loop R) ∧ cargs.size = R.params.size ∧ RoundIn Fence.wide 0 P c R.fn ((R.params.zip cargs).foldl (fun tmps (t, a) => tmps.setIfInBounds t a) R.tmps) R.assign R.body w (Post E h.length Z μ w Q)
theorem SemC_ok : CallOk P E (SemC P E) := fun _ _ _ _ h => h
theorem SemY_ok : YieldOk P E (SemY P E) := fun _ _ _ _ h => h
theorem Post.mono {Q Q' : V → List O → Prop} (hq : ∀ v h, Q v h → Q' v h) {e : Ending} (hp : Post E m Z μ w Q e w0) : Post E m Z μ w Q' e w0 := by
  cases e with
  | returned cv => obtain ⟨v, h', Z', μ', q, s⟩ := hp; exact ⟨v, h', Z', μ', hq _ _ q, s⟩
  | panicked _ => exact hp.elim
  | outgrown => exact hp.elim
theorem SemC.mono {f : Nat} {args : List V} {Q Q' : V → List O → Prop} (h1 : SemC P E f args h Q) (hq : ∀ v h, Q v h → Q' v h) : SemC P E f args h Q' :=
  ⟨h1.1, fun Z μ w cargs S ha => CallsIn.mono (h1.2 Z μ w cargs S ha) fun _ _ hp => Post.mono hq hp⟩
/-- What the machine shows of a function's body holds of the function. -/
theorem semC_of (HE : EnvOk E P) {C : CallP Prop} {Y : YieldP Prop} (HC : CallOk P E C) (HY : YieldOk P E Y) {L : LoopP Prop} (HL : LoopOk L) (frz : Nat → Bool) {f : Nat} {args : List V} {Q : V → List O → Prop}
    (hk : enterFn MP E C Y L frz f args h Q) : SemC P E f args h Q := enterFn_ok HE HC HY HL hk
/-- Calls that are carried out whole, others by what is known of them. -/
def NatOk (P : Program) (E : Env) (X : Nat → Option (List V → List O → Option (V × List O))) : Prop := ∀ f x args h v h', X f = some x → x args h = some (v, h') → SemC P E f args h fun u g => u = v ∧ g = h'
theorem evalP_ok (HE : EnvOk E P) {X : Nat → Option (List V → List O → Option (V × List O))} (HX : NatOk P E X) (frz : Nat → Bool) (k : Nat) : ∀ n, CallOk P E (evalP MP E X frz k n).1 ∧ YieldOk P E (evalP MP E X frz k n).2
  | 0 => ⟨fun _ _ _ _ h => h.elim, fun _ _ _ _ h => h.elim⟩
  | n + 1 => by
    obtain ⟨h1, h2⟩ := evalP_ok HE HX frz k n
    refine ⟨fun f args h Q hk => ?_, fun b args h Q hk => ?_⟩
    · simp only [evalP] at hk
      split at hk
      · rename_i x hx
        split at hk
        · rename_i v h' hv
          exact SemC.mono (HX f x args h v h' hx hv) fun u g hh => by rw [hh.1, hh.2]; exact hk
        · exact hk.elim
      · exact enterFn_ok HE h1 h2 (fun K hK => ⟨k, hK⟩) hk
    · exact roundFn_ok HE h1 h2 (fun K hK => ⟨k, hK⟩) hk
end
end Go.Ab
end
