/-
  Calls over no more of the heap than they reach.
-/
import Derived.Test.YtldpapiaonchaaaGreatDoorZzMemG
import Derived.CallsIn
section
namespace Go.Ab
open Go
section
variable {E : Env} {P : Program} {Z : Nat → Prop} {μ : Mu} {w : World} {h : List O}

/-! ### The same value -/
mutual
def sameD : D → D → Bool
  | .unk, y => match y with | .unk => true | _ => false
  | .undef, y => match y with | .undef => true | _ => false
  | .bool a, y => match y with | .bool b => eqB a b | _ => false
  | .int k a, y => match y with | .int k' b => andB (kindEq k k') (eqI a b) | _ => false
  | .str a, y => match y with | .str b => eqS a b | _ => false
  | .nil, y => match y with | .nil => true | _ => false
  | .emp, y => match y with | .emp => true | _ => false
  | .slice n s l, y => match y with | .slice n' s' l' => andB (andB (Nat.beq n n') (Nat.beq s s')) (sameDs l l') | _ => false
  | .ptr l o, y => match y with | .ptr l' o' => andB (Nat.beq o o') (sameDs l l') | _ => false
  | .nilptr, y => match y with | .nilptr => true | _ => false
  | .nilmap, y => match y with | .nilmap => true | _ => false
  | .nilfunc, y => match y with | .nilfunc => true | _ => false
  | .niliface, y => match y with | .niliface => true | _ => false
  | .func f a c, y => match y with | .func f' a' c' => andB (Nat.beq f f') (andB (sameDs a a') (sameDs c c')) | _ => false
  | .iface t v, y => match y with | .iface t' v' => andB (Nat.beq t t') (sameD v v') | _ => false
  | .agg l, y => match y with | .agg l' => sameDs l l' | _ => false
  | .tuple l, y => match y with | .tuple l' => sameDs l l' | _ => false
def sameDs : List D → List D → Bool
  | [], y => match y with | [] => true | _ :: _ => false
  | a :: l, y => match y with | [] => false | b :: m => andB (sameD a b) (sameDs l m)
end
mutual
def sameV : V → V → Bool
  | .d x, y => match y with | .d x' => sameD x x' | _ => false
  | .ptr b e o m, y => match y with | .ptr b' e' o' m' => andB (andB (Nat.beq b b') (Nat.beq e e')) (andB (Nat.beq o o') (Nat.beq m m')) | _ => false
  | .slice b e o n s, y => match y with | .slice b' e' o' n' s' => andB (andB (andB (Nat.beq b b') (Nat.beq e e')) (andB (Nat.beq o o') (Nat.beq n n'))) (Nat.beq s s') | _ => false
  | .map b, y => match y with | .map b' => Nat.beq b b' | _ => false
  | .iter b, y => match y with | .iter b' => Nat.beq b b' | _ => false
  | .func f a c, y => match y with | .func f' a' c' => andB (Nat.beq f f') (andB (sameVs a a') (sameVs c c')) | _ => false
  | .yield b, y => match y with | .yield b' => Nat.beq b b' | _ => false
  | .iface t v, y => match y with | .iface t' v' => andB (Nat.beq t t') (sameV v v') | _ => false
  | .agg l, y => match y with | .agg l' => sameVs l l' | _ => false
  | .tuple l, y => match y with | .tuple l' => sameVs l l' | _ => false
def sameVs : List V → List V → Bool
  | [], y => match y with | [] => true | _ :: _ => false
  | a :: l, y => match y with | [] => false | b :: m => andB (sameV a b) (sameVs l m)
end
theorem andB_true {a b : Bool} (h : andB a b = true) : a = true ∧ b = true := by cases a <;> cases b <;> simp_all [andB]
mutual
theorem sameD_eq : ∀ {x y : D}, sameD x y = true → x = y
  | .unk, y, h => by cases y <;> simp [sameD] at h; rfl
  | .undef, y, h => by cases y <;> simp [sameD] at h; rfl
  | .bool a, y, h => by cases y <;> simp [sameD, eqB_eq] at h; rw [h]
  | .int k a, y, h => by
    cases y <;> simp only [sameD] at h <;> try (cases h; done)
    obtain ⟨h1, h2⟩ := andB_true h
    rw [kindEq_eq h1, show a = _ by simpa [eqI_eq] using h2]
  | .str a, y, h => by cases y <;> simp [sameD, eqS_eq] at h; rw [h]
  | .nil, y, h => by cases y <;> simp [sameD] at h; rfl
  | .emp, y, h => by cases y <;> simp [sameD] at h; rfl
  | .slice n s l, y, h => by
    cases y <;> simp only [sameD] at h <;> try (cases h; done)
    obtain ⟨h1, h2⟩ := andB_true h
    obtain ⟨h3, h4⟩ := andB_true h1
    rw [Nat.eq_of_beq_eq_true h3, Nat.eq_of_beq_eq_true h4, sameDs_eq h2]
  | .ptr l o, y, h => by
    cases y <;> simp only [sameD] at h <;> try (cases h; done)
    obtain ⟨h1, h2⟩ := andB_true h
    rw [Nat.eq_of_beq_eq_true h1, sameDs_eq h2]
  | .nilptr, y, h => by cases y <;> simp [sameD] at h; rfl
  | .nilmap, y, h => by cases y <;> simp [sameD] at h; rfl
  | .nilfunc, y, h => by cases y <;> simp [sameD] at h; rfl
  | .niliface, y, h => by cases y <;> simp [sameD] at h; rfl
  | .func f a c, y, h => by
    cases y <;> simp only [sameD] at h <;> try (cases h; done)
    obtain ⟨h1, h2⟩ := andB_true h
    obtain ⟨h3, h4⟩ := andB_true h2
    rw [Nat.eq_of_beq_eq_true h1, sameDs_eq h3, sameDs_eq h4]
  | .iface t v, y, h => by
    cases y <;> simp only [sameD] at h <;> try (cases h; done)
    obtain ⟨h1, h2⟩ := andB_true h
    rw [Nat.eq_of_beq_eq_true h1, sameD_eq h2]
  | .agg l, y, h => by
    cases y <;> simp only [sameD] at h <;> try (cases h; done)
    rw [sameDs_eq h]
  | .tuple l, y, h => by
    cases y <;> simp only [sameD] at h <;> try (cases h; done)
    rw [sameDs_eq h]
theorem sameDs_eq : ∀ {x y : List D}, sameDs x y = true → x = y
  | [], y, h => by cases y <;> simp [sameDs] at h; rfl
  | a :: l, y, h => by
    cases y <;> simp only [sameDs] at h
    · cases h
    obtain ⟨h1, h2⟩ := andB_true h
    rw [sameD_eq h1, sameDs_eq h2]
end
mutual
theorem sameV_eq : ∀ {x y : V}, sameV x y = true → x = y
  | .d x, y, h => by
    cases y <;> simp only [sameV] at h <;> try (cases h; done)
    rw [sameD_eq h]
  | .ptr b e o m, y, h => by
    cases y <;> simp only [sameV] at h <;> try (cases h; done)
    obtain ⟨h1, h2⟩ := andB_true h
    obtain ⟨h3, h4⟩ := andB_true h1
    obtain ⟨h5, h6⟩ := andB_true h2
    rw [Nat.eq_of_beq_eq_true h3, Nat.eq_of_beq_eq_true h4, Nat.eq_of_beq_eq_true h5, Nat.eq_of_beq_eq_true h6]
  | .slice b e o n s, y, h => by
    cases y <;> simp only [sameV] at h <;> try (cases h; done)
    obtain ⟨h0, h7⟩ := andB_true h
    obtain ⟨h1, h2⟩ := andB_true h0
    obtain ⟨h3, h4⟩ := andB_true h1
    obtain ⟨h5, h6⟩ := andB_true h2
    rw [Nat.eq_of_beq_eq_true h3, Nat.eq_of_beq_eq_true h4, Nat.eq_of_beq_eq_true h5, Nat.eq_of_beq_eq_true h6, Nat.eq_of_beq_eq_true h7]
  | .map b, y, h => by
    cases y <;> simp only [sameV] at h <;> try (cases h; done)
    rw [Nat.eq_of_beq_eq_true h]
  | .iter b, y, h => by
    cases y <;> simp only [sameV] at h <;> try (cases h; done)
    rw [Nat.eq_of_beq_eq_true h]
  | .func f a c, y, h => by
    cases y <;> simp only [sameV] at h <;> try (cases h; done)
    obtain ⟨h1, h2⟩ := andB_true h
    obtain ⟨h3, h4⟩ := andB_true h2
    rw [Nat.eq_of_beq_eq_true h1, sameVs_eq h3, sameVs_eq h4]
  | .yield b, y, h => by
    cases y <;> simp only [sameV] at h <;> try (cases h; done)
    rw [Nat.eq_of_beq_eq_true h]
  | .iface t v, y, h => by
    cases y <;> simp only [sameV] at h <;> try (cases h; done)
    obtain ⟨h1, h2⟩ := andB_true h
    rw [Nat.eq_of_beq_eq_true h1, sameV_eq h2]
  | .agg l, y, h => by
    cases y <;> simp only [sameV] at h <;> try (cases h; done)
    rw [sameVs_eq h]
  | .tuple l, y, h => by
    cases y <;> simp only [sameV] at h <;> try (cases h; done)
    rw [sameVs_eq h]
theorem sameVs_eq : ∀ {x y : List V}, sameVs x y = true → x = y
  | [], y, h => by cases y <;> simp [sameVs] at h; rfl
  | a :: l, y, h => by
    cases y <;> simp only [sameVs] at h
    · cases h
    obtain ⟨h1, h2⟩ := andB_true h
    rw [sameV_eq h1, sameVs_eq h2]
end
/-- A value anew is as it was: looked at, where it can be; else to be shown. -/
def chkP (o : Option V) (v : V) (K : Prop) : Prop := match (match o with | some u => sameV u v | none => false) with
  | true => K
  | false => o = some v ∧ K
theorem chkP_out {o : Option V} {v : V} {K : Prop} (h : chkP o v K) : o = some v ∧ K := by
  unfold chkP at h
  cases o with
  | none => exact h
  | some u =>
    simp only at h
    cases hs : sameV u v with
    | true => rw [hs] at h; exact ⟨by rw [sameV_eq hs], h⟩
    | false => rw [hs] at h; exact h
theorem chkP_in {o : Option V} {v : V} {K : Prop} (h : o = some v) (hK : K) : chkP o v K := by
  unfold chkP
  split
  · exact hK
  · exact ⟨h, hK⟩
/-- Where what is asked ends up in proofs. -/
def MP : Mo Prop := ⟨fun _ => False, chkP⟩
theorem bB_MP {x : Bool} {why : String} {K : Prop} (hk : bB MP x why K) : x = true ∧ K := by
  cases x
  · exact hk.elim
  · exact ⟨rfl, hk⟩
theorem oB_MP {α : Type} {x : Option α} {why : String} {K : α → Prop} (hk : oB MP x why K) : ∃ a, x = some a ∧ K a := by
  cases x
  · exact hk.elim
  · exact ⟨_, rfl, hk⟩

/-! ### Names -/
mutual
theorem renV_id {r : Nat → Nat} : ∀ (d : V), (∀ b ∈ namesV d, r b = b) → renV r d = d
  | .d _, _ => rfl
  | .ptr b e off lim, h => by simp [renV, h b (by simp [namesV])]
  | .slice b e off n sz, h => by simp [renV, h b (by simp [namesV])]
  | .map b, h => by simp [renV, h b (by simp [namesV])]
  | .iter b, h => by simp [renV, h b (by simp [namesV])]
  | .func f a c, h => by
    simp only [renV]
    rw [renVs_id a fun b hb => h b (by simp [namesV, hb]), renVs_id c fun b hb => h b (by simp [namesV, hb])]
  | .yield b, h => by simp [renV, h b (by simp [namesV])]
  | .iface t x, h => by simp only [renV]; rw [renV_id x fun b hb => h b (by simp [namesV, hb])]
  | .agg cs, h => by simp only [renV]; rw [renVs_id cs fun b hb => h b (by simp [namesV, hb])]
  | .tuple cs, h => by simp only [renV]; rw [renVs_id cs fun b hb => h b (by simp [namesV, hb])]
theorem renVs_id {r : Nat → Nat} : ∀ (d : List V), (∀ b ∈ namesVs d, r b = b) → renVs r d = d
  | [], _ => rfl
  | d :: ds, h => by
    simp only [renVs]
    rw [renV_id d fun b hb => h b (by simp [namesVs, hb]), renVs_id ds fun b hb => h b (by simp [namesVs, hb])]
end
theorem renVs_map (r : Nat → Nat) : ∀ (d : List V), renVs r d = d.map (renV r)
  | [] => rfl
  | d :: ds => by simp [renVs, renVs_map r ds]
theorem renC_toV (r : Nat → Nat) (c : Cells) : (renC r c).toV = c.toV.map (renV r) := by
  cases c with
  | ds l => simp [renC, Cells.toV, renV]
  | vs l => simp [renC, Cells.toV, renVs_map]
  | mx p t => simp [renC, Cells.toV, renVs_map, renV]
theorem getT_renTs (r : Nat → Nat) (df : D) (t : Nat) : ∀ ts : List (Nat × V), getT df (renTs r ts) t = renV r (getT df ts t)
  | [] => rfl
  | (s, v) :: l => by
    simp only [renTs, getT]
    split
    · rfl
    · exact getT_renTs r df t l
theorem namesVs_mem {b : Nat} : ∀ {l : List V}, b ∈ namesVs l ↔ ∃ v ∈ l, b ∈ namesV v
  | [] => by simp [namesVs]
  | v :: l => by simp [namesVs, namesVs_mem (l := l)]
theorem namesC_mem {b : Nat} {c : Cells} {v : V} (hv : v ∈ c.toV) (hb : b ∈ namesV v) : b ∈ namesC c := by
  cases c with
  | ds l => simp only [Cells.toV, List.mem_map] at hv; obtain ⟨x, _, rfl⟩ := hv; simp [namesV] at hb
  | vs l => exact namesVs_mem.2 ⟨v, hv, hb⟩
  | mx p t =>
    simp only [Cells.toV, List.mem_append, List.mem_map] at hv
    rcases hv with hv | ⟨x, _, rfl⟩
    · exact namesVs_mem.2 ⟨v, hv, hb⟩
    · simp [namesV] at hb
theorem getT_names {b t : Nat} {df : D} : ∀ {ts : List (Nat × V)}, b ∈ namesV (getT df ts t) → b ∈ namesTs ts
  | [], hb => by simp [getT, namesV] at hb
  | (s, v) :: l, hb => by
    simp only [getT] at hb
    simp only [namesTs, List.mem_append]
    split at hb
    · exact .inl hb
    · exact .inr (getT_names hb)
theorem TR.ren {μ' : Mu} {r : Nat → Nat} {df : D} {ts : List (Nat × V)} {tmps : Array Value} (T : TR Z μ w df ts tmps) (hr : ∀ b ∈ namesTs ts, ∀ e x, μ b e = some x → μ' (r b) e = some x) : TR Z μ' w df (renTs r ts) tmps := fun t => by
  rw [getT_renTs]
  exact VR.ren _ _ (fun b hb => hr b (getT_names hb)) (T t)
theorem OR.ren {μ' : Mu} {r : Nat → Nat} {b i : Nat} {o : O} (h0 : OR Z μ w b o) (hm : ∀ e x, μ' i e = some x → μ b e = some x) (hr : ∀ b' ∈ namesO o, ∀ e x, μ b' e = some x → μ' (r b') e = some x) : OR Z μ' w i (renO r o) := by
  cases o with
  | row c cur fl cons =>
    intro e x hx
    obtain ⟨g1, g2, g3⟩ := h0 e x (hm e x hx)
    refine ⟨g1, g2, fun j hj hl => ?_⟩
    obtain ⟨v, cv, blk, k1, k2, k3, k4, k5⟩ := g3 j hj hl
    refine ⟨renV r v, cv, blk, by rw [renC_toV]; simp [k1], k2, k3, k4, VR.ren _ _ (fun b' hb' => hr b' ?_) k5⟩
    exact namesC_mem (List.mem_of_getElem? k1) hb'
  | map ks vs =>
    intro e x hx
    obtain ⟨g0, c, es, clock, g1, g2, g3, g4⟩ := h0 e x (hm e x hx)
    refine ⟨g0, c, es, clock, g1, g2, g3, ?_⟩
    rw [renC_toV, ← renVs_map]
    refine VRL.ren _ _ (fun b' hb' => ?_) g4
    obtain ⟨v, hv, h⟩ := namesVs_mem.1 hb'
    exact hr b' (namesC_mem hv h)
  | iter s pos => exact fun e x hx => h0 e x (hm e x hx)
  | loop l =>
    intro e x hx
    obtain ⟨g0, c, R, y, k, g1, g2, g3, g4, g6, g7, g8, g9, g10, g11, g12, g13⟩ := h0 e x (hm e x hx)
    exact ⟨g0, c, R, y, k, g1, g2, g3, g4, g6, g7, g8, g9, g10.ren fun b' hb' => hr b' (by simp [namesO, hb']), hr _ (by simp [namesO]) _ _ g11, g12, g13⟩
  | dfr => exact fun e x hx => h0 e x (hm e x hx)
  | gone => trivial

/-! ### Lists of names -/
theorem memN_iff {a : Nat} : ∀ {l : List Nat}, memN a l = true ↔ a ∈ l
  | [] => by simp [memN]
  | b :: l => by
    simp only [memN, List.mem_cons]
    split
    · rename_i hb; simp [Nat.eq_of_beq_eq_true hb]
    · rename_i hb
      have : a ≠ b := fun hh => by rw [hh, Nat.beq_refl] at hb; cases hb
      simp [this, memN_iff (l := l)]
theorem posN_lt {b : Nat} : ∀ {l : List Nat}, b ∈ l → posN l b < l.length ∧ nthN l (posN l b) = b
  | a :: l, hb => by
    simp only [posN]
    split
    · rename_i hh; exact ⟨by simp, by simp [nthN, Nat.eq_of_beq_eq_true hh]⟩
    · rename_i hh
      have : b ≠ a := fun h0 => by rw [h0, Nat.beq_refl] at hh; cases hh
      obtain ⟨h1, h2⟩ := posN_lt (l := l) (by simpa [this] using hb)
      exact ⟨by simpa using h1, by simpa [nthN] using h2⟩
theorem nthN_mem : ∀ {l : List Nat} {i : Nat}, i < l.length → nthN l i ∈ l
  | a :: l, 0, _ => by simp [nthN]
  | a :: l, i + 1, hi => by simp only [nthN]; exact List.mem_cons_of_mem _ (nthN_mem (by simpa using hi))
theorem posN_nthN : ∀ {l : List Nat} {i : Nat}, l.Nodup → i < l.length → posN l (nthN l i) = i
  | a :: l, 0, _, _ => by simp [nthN, posN, Nat.beq_refl]
  | a :: l, i + 1, hn, hi => by
    have hi' : i < l.length := by simpa using hi
    have hm := nthN_mem hi'
    have hne : a ≠ nthN l i := fun hh => (List.nodup_cons.1 hn).1 (hh ▸ hm)
    simp only [nthN, posN]
    split
    · rename_i hh; exact absurd (Nat.eq_of_beq_eq_true hh) hne
    · rw [posN_nthN (List.nodup_cons.1 hn).2 hi']
theorem posN_not {b : Nat} : ∀ {l : List Nat}, b ∉ l → posN l b = l.length
  | [], _ => rfl
  | a :: l, hb => by
    simp only [posN]
    split
    · rename_i hh; exact absurd (by simp [Nat.eq_of_beq_eq_true hh]) hb
    · rw [posN_not (l := l) (fun hh => hb (List.mem_cons_of_mem _ hh))]; rfl
theorem nodup_reverse {l : List Nat} (hl : l.Nodup) : l.reverse.Nodup := by
  unfold List.Nodup at *
  rw [List.pairwise_reverse]
  exact hl.imp fun hab => Ne.symm hab
theorem reach_nodup (h : List O) : ∀ (k : Nat) (todo seen : List Nat), seen.Nodup → (reach h k todo seen).Nodup
  | 0, _, _, hs => hs
  | k + 1, [], _, hs => hs
  | k + 1, b :: todo, seen, hs => by
    simp only [reach]
    split
    · exact reach_nodup h k _ _ hs
    · rename_i hb
      refine reach_nodup h k _ _ (List.nodup_cons.2 ⟨fun hh => ?_, hs⟩)
      rw [memN_iff.2 hh] at hb; cases hb
theorem reachAll_nodup (h : List O) (todo : List Nat) : (reachAll h todo).Nodup := by
  unfold reachAll
  exact nodup_reverse (reach_nodup h _ _ _ List.nodup_nil)
theorem reach_suffix (h : List O) : ∀ (k : Nat) (todo seen : List Nat), ∃ l, reach h k todo seen = l ++ seen
  | 0, _, _ => ⟨[], rfl⟩
  | k + 1, [], _ => ⟨[], rfl⟩
  | k + 1, b :: todo, seen => by
    simp only [reach]
    split
    · exact reach_suffix h k _ _
    · obtain ⟨l, hl⟩ := reach_suffix h k (namesO (getO h b) ++ todo) (b :: seen)
      exact ⟨l ++ [b], by rw [hl]; simp⟩
theorem reachOn_prefix (h : List O) (m : Nat) (todo : List Nat) : ∃ l, reachOn h m todo = List.range m ++ l := by
  unfold reachOn
  obtain ⟨l, hl⟩ := reach_suffix h reachFuel ((List.range m).flatMap (fun b => namesO (getO h b)) ++ todo) (List.range m).reverse
  exact ⟨l.reverse, by rw [hl]; simp⟩
theorem reachOn_nodup (h : List O) (m : Nat) (todo : List Nat) : (reachOn h m todo).Nodup := by
  unfold reachOn
  exact nodup_reverse (reach_nodup h _ _ _ (nodup_reverse List.nodup_range))
theorem allIn_iff {σ : List Nat} : ∀ {l : List Nat}, allIn σ l = true ↔ ∀ b ∈ l, b ∈ σ
  | [] => by simp [allIn]
  | b :: l => by
    simp only [allIn, List.mem_cons]
    split
    · rename_i hb
      have := memN_iff.1 hb
      rw [allIn_iff]
      exact ⟨fun hh c hc => by rcases hc with rfl | hc; exact this; exact hh c hc, fun hh c hc => hh c (.inr hc)⟩
    · rename_i hb
      refine ⟨fun hh => by simp at hh, fun hh => ?_⟩
      rw [memN_iff.2 (hh b (.inl rfl))] at hb; cases hb
theorem closedIn_iff {h : List O} {σ : List Nat} : ∀ {l : List Nat}, closedIn h σ l = true ↔ ∀ b ∈ l, ∀ c ∈ namesO (getO h b), c ∈ σ
  | [] => by simp [closedIn]
  | b :: l => by
    simp only [closedIn, List.mem_cons]
    split
    · rename_i hb
      have := allIn_iff.1 hb
      rw [closedIn_iff]
      exact ⟨fun hh c hc => by rcases hc with rfl | hc; exact this; exact hh c hc, fun hh c hc => hh c (.inr hc)⟩
    · rename_i hb
      refine ⟨fun hh => by simp at hh, fun hh => ?_⟩
      rw [allIn_iff.2 (hh b (.inl rfl))] at hb; cases hb
theorem getO_subHeap (h : List O) (r : Nat → Nat) : ∀ (σ : List Nat) (i : Nat), i < σ.length → getO (subHeap h r σ) i = renO r (getO h (nthN σ i))
  | b :: σ, 0, _ => rfl
  | b :: σ, i + 1, hi => by simp only [subHeap, getO, nthN]; exact getO_subHeap h r σ i (by simpa using hi)
theorem subHeap_length (h : List O) (r : Nat → Nat) : ∀ (σ : List Nat), (subHeap h r σ).length = σ.length
  | [] => rfl
  | b :: σ => by simp [subHeap, subHeap_length h r σ]

/-! ### The heap of a part -/
/-- The names of a part. -/
def Mu.sub (μ : Mu) (σ : List Nat) : Mu := fun i e => if i < σ.length then μ (nthN σ i) e else none
theorem Mu.sub_some {σ : List Nat} {i e : Nat} {x : Ep} (hx : μ.sub σ i e = some x) : i < σ.length ∧ μ (nthN σ i) e = some x := by
  unfold Mu.sub at hx
  split at hx
  · exact ⟨by assumption, hx⟩
  · cases hx
theorem Mu.sub_pos {σ : List Nat} {b e : Nat} {x : Ep} (hb : b ∈ σ) (hx : μ b e = some x) : μ.sub σ (posN σ b) e = some x := by
  obtain ⟨h1, h2⟩ := posN_lt hb
  unfold Mu.sub
  rw [if_pos h1, h2]; exact hx
theorem SR.sub (S : SR E Z μ h w) {σ : List Nat} (hn : σ.Nodup) (hc : ∀ b ∈ σ, ∀ c ∈ namesO (getO h b), c ∈ σ) : SR E Z (μ.sub σ) (subHeap h (posN σ) σ) w where
  zlt := S.zlt
  obj := fun i hi => by
    rw [subHeap_length] at hi
    rw [getO_subHeap h _ σ i hi]
    by_cases hlt : nthN σ i < h.length
    · exact OR.ren (S.obj _ hlt) (fun e x hx => (Mu.sub_some hx).2) fun b' hb' e x hx => Mu.sub_pos (hc _ (nthN_mem hi) b' hb') hx
    · rw [getO_length (by omega)]; trivial
  dom := fun i e x hx => by rw [subHeap_length]; exact (Mu.sub_some hx).1
  own := fun i e x c hx hb => S.own _ e x c (Mu.sub_some hx).2 hb
  inj := fun i i' e e' x x' c hx hx' hb hb' => by
    obtain ⟨h1, h2⟩ := Mu.sub_some hx
    obtain ⟨h3, h4⟩ := Mu.sub_some hx'
    have := S.inj _ _ e e' x x' c h2 h4 hb hb'
    rw [← posN_nthN hn h1, ← posN_nthN hn h3, this]
  glob := S.glob
theorem VRL.sub {args : List V} {cargs : List Value} (ha : VRL Z μ w args cargs) {σ : List Nat} (hc : ∀ b ∈ namesVs args, b ∈ σ) : VRL Z (μ.sub σ) w (renVs (posN σ) args) cargs :=
  VRL.ren _ _ (fun b hb _ _ hx => Mu.sub_pos (hc b hb) hx) ha
theorem VR.sub {v : V} {cv : Value} (ha : VR Z μ w v cv) {σ : List Nat} (hc : ∀ b ∈ namesV v, b ∈ σ) : VR Z (μ.sub σ) w (renV (posN σ) v) cv :=
  VR.ren _ _ (fun b hb _ _ hx => Mu.sub_pos (hc b hb) hx) ha
end
end Go.Ab
end
section
/-
  Calls over no more of the heap than they reach: what comes back.
-/
namespace Go.Ab
open Go
section
variable {E : Env} {P : Program} {Z Z' : Nat → Prop} {μ μ1 : Mu} {w w' : World} {h h2 : List O}

theorem getO_map (f : O → O) (hf : f .gone = .gone) : ∀ (h : List O) (b : Nat), getO (h.map f) b = f (getO h b)
  | [], b => by cases b <;> simp [getO, hf]
  | _ :: _, 0 => rfl
  | _ :: h, b + 1 => by simp [getO, getO_map f hf h b]
theorem mergeO_get (u : Nat → Nat) : ∀ (σ : List Nat) (new h : List O) (b : Nat), σ.length ≤ new.length → σ.Nodup →
    getO (mergeO u h σ new) b = if b < h.length then (if b ∈ σ then renO u (getO new (posN σ b)) else getO h b) else renO u (getO new (σ.length + (b - h.length)))
  | [], new, h, b, _, _ => by
    unfold mergeO
    rw [getO_append]
    split
    · simp
    · rw [getO_map _ rfl]; simp
  | a :: σ, [], h, b, hl, _ => by simp at hl
  | a :: σ, o :: new, h, b, hl, hn => by
    simp only [mergeO]
    obtain ⟨hn1, hn2⟩ := List.nodup_cons.1 hn
    rw [mergeO_get u σ new _ b (by simpa using hl) hn2, setO_length, getO_setO]
    split
    · rename_i hb
      by_cases hba : b = a
      · subst hba
        simp [hn1, hb, posN, Nat.beq_refl, getO]
      · have hab : Nat.beq a b = false := by
          cases hh : Nat.beq a b with
          | false => rfl
          | true => exact absurd (Nat.eq_of_beq_eq_true hh).symm hba
        by_cases hbs : b ∈ σ
        · simp [hbs, posN, hab, getO]
        · simp [hbs, hba]
    · rename_i hb
      have : (a :: σ).length + (b - h.length) = σ.length + (b - h.length) + 1 := by simp; omega
      rw [this]; rfl
theorem mergeO_length (u : Nat → Nat) : ∀ (σ : List Nat) (new h : List O), σ.length ≤ new.length → (mergeO u h σ new).length = h.length + (new.length - σ.length)
  | [], new, h, _ => by simp [mergeO]
  | a :: σ, [], h, hl => by simp at hl
  | a :: σ, o :: new, h, hl => by
    simp only [mergeO]
    rw [mergeO_length u σ new _ (by simpa using hl), setO_length]
    simp
/-- The names behind a call. -/
def Mu.merge (μ μ1 : Mu) (σ : List Nat) (n : Nat) : Mu := fun b e => if b < n then (if b ∈ σ then μ1 (posN σ b) e else μ b e) else μ1 (σ.length + (b - n)) e
theorem merge_names (S : SR E Z μ h w) {σ : List Nat} (F : Frame σ.length Z (μ.sub σ) w Z' μ1 w') (hn : σ.Nodup) (i e : Nat) (x : Ep) (hx : μ1 i e = some x) : μ.merge μ1 σ h.length (unren σ σ.length h.length i) e = some x := by
  unfold unren
  split
  · rename_i hi
    rw [Nat.blt_eq] at hi
    have hm := nthN_mem hi
    by_cases hlt : nthN σ i < h.length
    · unfold Mu.merge
      rw [if_pos hlt, if_pos hm, posN_nthN hn hi]; exact hx
    · have h0 : ∀ e, μ.sub σ i e = none := by
        intro e
        unfold Mu.sub
        rw [if_pos hi]
        cases hh : μ (nthN σ i) e with
        | none => rfl
        | some y => exact absurd (S.dom _ _ _ hh) hlt
      rw [F.un i hi h0] at hx; cases hx
  · rename_i hi
    have hi : ¬ (i < σ.length) := fun hh => by rw [← Nat.blt_eq] at hh; rw [hh] at hi; cases hi
    unfold Mu.merge
    rw [if_neg (by omega)]
    have : σ.length + (h.length + (i - σ.length) - h.length) = i := by omega
    rw [this]; exact hx
theorem merge_ext (S : SR E Z μ h w) {σ : List Nat} (F : Frame σ.length Z (μ.sub σ) w Z' μ1 w') (b e : Nat) (x : Ep) (hx : μ b e = some x) : μ.merge μ1 σ h.length b e = some x := by
  unfold Mu.merge
  rw [if_pos (S.dom _ _ _ hx)]
  split
  · rename_i hb
    exact F.ext _ (posN_lt hb).1 _ _ (Mu.sub_pos hb hx)
  · exact hx
theorem SR.merge (S : SR E Z μ h w) {σ : List Nat} (hn : σ.Nodup) (S1 : SR E Z' μ1 h2 w') (F : Frame σ.length Z (μ.sub σ) w Z' μ1 w') (hl : σ.length ≤ h2.length) :
    SR E Z' (μ.merge μ1 σ h.length) (mergeO (unren σ σ.length h.length) h σ h2) w' ∧ Frame h.length Z μ w Z' (μ.merge μ1 σ h.length) w' := by
  have hsub : ∀ i e x, μ.sub σ i e = some x → i < σ.length ∧ μ (nthN σ i) e = some x := fun i e x hx => Mu.sub_some hx
  have hsz : w.heap.size ≤ w'.heap.size := F.size
  -- blocks that the part doesn't own stay
  have hkeep : ∀ b e x c, b ∉ σ → μ b e = some x → x.blk = some c → w'.heap[c]? = w.heap[c]? := fun b e x c hb hx hc =>
    F.keep c (S.own b e x c hx hc).1 fun i e' x' hx' hc' => by
      obtain ⟨h1, h2⟩ := hsub _ _ _ hx'
      have := S.inj _ _ _ _ _ _ c h2 hx hc' hc
      exact hb (this ▸ nthN_mem h1)
  have H : Ext Z μ w Z' (μ.merge μ1 σ h.length) w' :=
    ⟨F.z, fun c hc => F.keep c (S.zlt c hc) fun i e x hx hb => (S.own _ e x c (hsub _ _ _ hx).2 hb).2 hc, fun b e x hx => merge_ext S F b e x hx, F.sz⟩
  -- where a name's epoch comes from
  have hfrom : ∀ b e x, μ.merge μ1 σ h.length b e = some x → (b < h.length ∧ b ∉ σ ∧ μ b e = some x) ∨ (∃ i, μ1 i e = some x ∧ b = unren σ σ.length h.length i ∧ (i < σ.length → b ∈ σ ∧ b < h.length)) := by
    intro b e x hx
    unfold Mu.merge at hx
    split at hx
    · rename_i hlt
      split at hx
      · rename_i hb
        obtain ⟨p1, p2⟩ := posN_lt hb
        refine .inr ⟨posN σ b, hx, ?_, fun _ => ⟨hb, hlt⟩⟩
        unfold unren
        rw [show Nat.blt (posN σ b) σ.length = true from Nat.blt_eq ▸ p1]
        exact p2.symm
      · rename_i hb; exact .inl ⟨hlt, hb, hx⟩
    · rename_i hlt
      refine .inr ⟨_, hx, ?_, fun hh => by omega⟩
      have : Nat.blt (σ.length + (b - h.length)) σ.length = false := by
        rw [Bool.eq_false_iff]
        intro hh
        rw [Nat.blt_eq] at hh; omega
      unfold unren
      rw [this]
      simp only
      omega
  refine ⟨⟨?_, ?_, ?_, ?_, ?_, ?_⟩, ?_⟩
  · exact S1.zlt
  · intro b hb
    rw [mergeO_length _ _ _ _ hl] at hb
    rw [mergeO_get _ _ _ _ _ hl hn]
    split
    · rename_i hlt
      split
      · rename_i hbs
        have hp := (posN_lt hbs).1
        refine OR.ren (S1.obj (posN σ b) (by omega)) (fun e x hx => ?_) fun b' _ e x hx => merge_names S F hn b' e x hx
        unfold Mu.merge at hx
        rw [if_pos hlt, if_pos hbs] at hx
        exact hx
      · rename_i hbs
        refine OR.mono H (S.obj b hlt) (fun e x hx => ?_) fun e x c hx hc => hkeep b e x c hbs hx hc
        unfold Mu.merge at hx
        rw [if_pos hlt, if_neg hbs] at hx
        exact hx
    · rename_i hlt
      refine OR.ren (S1.obj (σ.length + (b - h.length)) (by omega)) (fun e x hx => ?_) fun b' _ e x hx => merge_names S F hn b' e x hx
      unfold Mu.merge at hx
      rw [if_neg hlt] at hx
      exact hx
  · intro b e x hx
    rw [mergeO_length _ _ _ _ hl]
    unfold Mu.merge at hx
    split at hx
    · omega
    · have := S1.dom _ _ _ hx; omega
  · intro b e x c hx hc
    rcases hfrom b e x hx with ⟨h1, h2, h3⟩ | ⟨i, h1, _⟩
    · obtain ⟨k1, k2⟩ := S.own b e x c h3 hc
      refine ⟨by omega, fun hz => ?_⟩
      rcases F.zz c hz with hz | hz
      · exact k2 hz
      · omega
    · exact S1.own i e x c h1 hc
  · intro b b' e e' x x' c hx hx' hc hc'
    have mixed : ∀ b e x i b' e' x', b < h.length → b ∉ σ → μ b e = some x → x.blk = some c → μ1 i e' = some x' → x'.blk = some c → (i < σ.length → b' ∈ σ ∧ b' < h.length) → b' = unren σ σ.length h.length i → False := by
      intro b e x i b' e' x' k1 k2 k3 k4 k5 k6 k7 k8
      rcases F.ow i e' x' c k5 k6 with ⟨b0, e0, x0, l1, l2⟩ | l1
      · obtain ⟨j1, j2⟩ := hsub _ _ _ l1
        have := S.inj _ _ _ _ _ _ c j2 k3 l2 k4
        exact k2 (this ▸ nthN_mem j1)
      · have := (S.own b e x c k3 k4).1
        omega
    rcases hfrom b e x hx with ⟨h1, h2, h3⟩ | ⟨i, h1, h2, h3⟩ <;> rcases hfrom b' e' x' hx' with ⟨j1, j2, j3⟩ | ⟨j, j1, j2, j3⟩
    · exact S.inj b b' e e' x x' c h3 j3 hc hc'
    · exact (mixed b e x j b' e' x' h1 h2 h3 hc j1 hc' j3 j2).elim
    · exact (mixed b' e' x' i b e x j1 j2 j3 hc' h1 hc h3 h2).elim
    · rw [h2, j2, S1.inj i j e e' x x' c h1 j1 hc hc']
  · exact S1.glob
  · refine ⟨F.os, F.tape, F.output, F.size, fun c hc hno => F.keep c hc fun i e x hx hb => hno _ e x (hsub _ _ _ hx).2 hb, F.z, F.zz, ?_, fun b _ e x hx => merge_ext S F b e x hx, F.sz, ?_⟩
    · intro b e x c hx hc
      rcases hfrom b e x hx with ⟨h1, h2, h3⟩ | ⟨i, h1, h2, h3⟩
      · exact .inl ⟨b, e, x, h3, hc⟩
      · rcases F.ow i e x c h1 hc with ⟨b0, e0, x0, l1, l2⟩ | l1
        · exact .inl ⟨_, e0, x0, (hsub _ _ _ l1).2, l2⟩
        · exact .inr l1
    · intro b hb hno e
      unfold Mu.merge
      rw [if_pos hb]
      split
      · rename_i hbs
        have hp := (posN_lt hbs)
        refine F.un _ hp.1 (fun e => ?_) e
        unfold Mu.sub
        rw [if_pos hp.1, hp.2]; exact hno e
      · exact hno e

/-! ### Calls -/
def Enters (P : Program) (f : Nat) : Prop := ∃ fn, P.funcs[f]? = some fn ∧ (fn.name == "runtime.NumGoroutine") = false ∧ fn.body.isSome = true
/-- What is asked of the end of a call. -/
def Post (E : Env) (m : Nat) (Z : Nat → Prop) (μ : Mu) (w : World) (Q : V → List O → Prop) : Ending → World → Prop
  | .returned cv, w' => ∃ v h' Z' μ', Q v h' ∧ SR E Z' μ' h' w' ∧ VR Z' μ' w' v cv ∧ Frame m Z μ w Z' μ' w'
  | _, _ => False
def CallOk (P : Program) (E : Env) (C : CallP Prop) : Prop := ∀ f args h Q, C f args h Q → Enters P f ∧
  ∀ Z μ w (cargs : Array Value), SR E Z μ h w → VRL Z μ w args cargs.toList → CallsIn Fence.wide 0 P f cargs w (Post E h.length Z μ w Q)
def YieldOk (P : Program) (E : Env) (Y : YieldP Prop) : Prop := ∀ b args h Q, Y b args h Q →
  ∀ Z μ w (cargs : Array Value) x c, SR E Z μ h w → VRL Z μ w args cargs.toList → μ b 0 = some x → x.blk = some c →
    ∃ R, w.heap[c]? = some (.loop R) ∧ cargs.size = R.params.size ∧ RoundIn Fence.wide 0 P c R.fn ((R.params.zip cargs).foldl (fun tmps (t, a) => tmps.setIfInBounds t a) R.tmps) R.assign R.body w (Post E h.length Z μ w Q)
/-- What a call's continuation is told. -/
def Told (h : List O) (K : V → List O → List Nat → Prop) (v : V) (h' : List O) : Prop := ∃ σ, K v h' σ ∧ h.length ≤ h'.length ∧ ∀ b, b < h.length → b ∉ σ → getO h' b = getO h b
theorem callF_ok {C : CallP Prop} (HC : CallOk P E C) {f : Nat} {args : List V} {K : V → List O → List Nat → Prop} (hk : callF MP C f args h K) :
    Enters P f ∧ ∀ Z μ w (cargs : Array Value), SR E Z μ h w → VRL Z μ w args cargs.toList → CallsIn Fence.wide 0 P f cargs w (Post E h.length Z μ w (Told h K)) := by
  unfold callF at hk
  have key : ∀ (σ : List Nat) (Q : V → List O → Prop), σ.Nodup → (∀ b ∈ namesVs args, b ∈ σ) → (∀ b ∈ σ, ∀ c ∈ namesO (getO h b), c ∈ σ) →
      (∀ v h2, Q v h2 → σ.length ≤ h2.length ∧ Told h K (renV (unren σ σ.length h.length) v) (mergeO (unren σ σ.length h.length) h σ h2)) →
      C f (renVs (posN σ) args) (subHeap h (posN σ) σ) Q →
      Enters P f ∧ ∀ Z μ w (cargs : Array Value), SR E Z μ h w → VRL Z μ w args cargs.toList → CallsIn Fence.wide 0 P f cargs w (Post E h.length Z μ w (Told h K)) := by
    intro σ Q hn ha hc hQ hk
    obtain ⟨h1, h2⟩ := HC _ _ _ _ hk
    refine ⟨h1, fun Z μ w cargs S hargs => ?_⟩
    refine CallsIn.mono (h2 Z (μ.sub σ) w cargs (S.sub hn hc) (hargs.sub ha)) ?_
    intro e w' he
    cases e with
    | returned cv =>
      obtain ⟨v, h', Z', μ', q, S', hv, F⟩ := he
      obtain ⟨q1, q2⟩ := hQ _ _ q
      rw [subHeap_length] at F
      obtain ⟨S2, F2⟩ := S.merge hn S' F q1
      exact ⟨_, _, Z', _, q2, S2, VR.ren _ _ (fun b _ e x hx => merge_names S F hn b e x hx) hv, F2⟩
    | panicked _ => exact he.elim
    | outgrown => exact he.elim
  have told : ∀ (σ : List Nat) (v : V) (h2 : List O), σ.Nodup → σ.length ≤ h2.length → K (renV (unren σ σ.length h.length) v) (mergeO (unren σ σ.length h.length) h σ h2) σ →
      σ.length ≤ h2.length ∧ Told h K (renV (unren σ σ.length h.length) v) (mergeO (unren σ σ.length h.length) h σ h2) := by
    intro σ v h2 hn hl hK
    refine ⟨hl, σ, hK, by rw [mergeO_length _ _ _ _ hl]; omega, fun b hb hbs => ?_⟩
    rw [mergeO_get _ _ _ _ _ hl hn, if_pos hb, if_neg hbs]
  split at hk
  · rename_i hns
    refine key [] _ List.nodup_nil (by rw [hns]; simp) (by simp) (fun v h2 hK => told [] v h2 List.nodup_nil (by simp) ?_) (by rw [renVs_id args (by rw [hns]; simp)]; exact hk)
    have e2 : unren [] ([] : List Nat).length h.length = fun i => h.length + i := funext fun i => by simp [unren, Nat.blt, Nat.ble]
    rw [e2]
    unfold mergeO
    exact hK
  · rename_i ns
    obtain ⟨b1, hk⟩ := bB_MP hk
    split at b1
    · rename_i ha
      refine key _ _ (reachAll_nodup h _) (allIn_iff.1 ha) (closedIn_iff.1 b1) (fun v h2 hK => ?_) hk
      obtain ⟨q1, q2⟩ := bB_MP hK
      exact told _ v h2 (reachAll_nodup h _) (Nat.le_of_ble_eq_true q1) q2
    · cases b1
end
end Go.Ab
end
