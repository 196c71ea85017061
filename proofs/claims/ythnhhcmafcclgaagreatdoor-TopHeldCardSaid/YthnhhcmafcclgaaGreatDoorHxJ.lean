/-
  TopHeld: the first day that fails, and why.
-/
import Derived.Test.YthnhhcmafcclgaaGreatDoorHxI
namespace Go.Proofs.Hx
open Go Go.Ab Go.Proofs.Hw
set_option maxRecDepth 100000
set_option maxHeartbeats 1000000
theorem zip3_map : ∀ ds : List Dy6, zip3 (ds.map (·.nh)) (ds.map (·.ml)) (ds.map (·.lh)) = wz ds
  | [] => rfl
  | d :: ds => by
    have := zip3_map ds
    simp only [wz] at *
    simp only [List.map_cons, zip3, this]
theorem worst_in {s st : Int} {ds : List Dy6} (G : Good s st ds) : ∀ (i : Nat) a b c, (ds.map (·.nh))[i]? = some a → (ds.map (·.ml))[i]? = some b → (ds.map (·.lh))[i]? = some c → (0 ≤ a ∧ a ≤ 100000) ∧ (0 ≤ b ∧ b ≤ 100000) ∧ (0 ≤ c ∧ c ≤ 100000) := by
  intro i a b c h1 h2 h3
  rw [List.getElem?_map] at h1 h2 h3
  cases hd : ds[i]? with
  | none => rw [hd] at h1; cases h1
  | some d =>
    rw [hd] at h1 h2 h3
    cases h1; cases h2; cases h3
    have := G.d d (List.mem_of_getElem? hd)
    simp only
    omega
theorem weak_of {f : Nat} {args : List V} {y : D} (h : Sm Tryz.prog E f args [] (fun v h => h = [] ∧ ∃ x, v = .d x ∧ Wk x y)) : Rets Tryz.prog E f args (.d y) := by
  obtain ⟨he, h⟩ := h
  refine ⟨he, fun Z μ w cargs S ha => CallsIn.mono (h Z μ w cargs S ha) ?_⟩
  intro e w' hp
  cases e with
  | returned cv =>
    obtain ⟨v, h', Z', μ', ⟨rfl, x, rfl, hw⟩, S', hv, F⟩ := hp
    exact ⟨.d y, [], Z', μ', ⟨rfl, rfl⟩, S', hw _ _ _ hv, F⟩
  | panicked _ => exact hp.elim
  | outgrown => exact hp.elim
theorem Happens_ok' {s st : Int} {ds : List Dy6} {n m l : List Int} (hc : chk s st ds = 0) (e1 : n.length = ds.length) (e2 : m.length = ds.length) (e3 : l.length = ds.length)
    (hB : ∀ (i : Nat) a b c, n[i]? = some a → m[i]? = some b → l[i]? = some c → (0 ≤ a ∧ a ≤ 100000) ∧ (0 ≤ b ∧ b ≤ 100000) ∧ (0 ≤ c ∧ c ≤ 100000)) :
    Rets Tryz.prog E 12 [.d (wD s st ds), .d (.slice n.length 1 (encI n)), .d (.slice m.length 1 (encI m)), .d (.slice l.length 1 (encI l))] (.d (.tuple [.unk, .unk, .int .i64 (fl st (zip3 n m l) s 0)])) := by
  refine weak_of (Sm.mono (Happens_ok s st ds n m l hc e1 e2 e3 hB) ?_)
  rintro v h ⟨rfl, x, y, rfl⟩
  refine ⟨rfl, _, rfl, ?_⟩
  rintro Z w v ⟨vs, rfl, a, as1, e, _, b, as2, e2, _, h3⟩
  exact ⟨vs, rfl, a, as1, e, trivial, b, as2, e2, trivial, h3⟩
def FailQ (s st : Int) (ds : List Dy6) (k g : Int) (v : V) (h : List O) : Prop := h = [] ∧ match eqI k (-1) with
  | true => v = .d (.tuple [.nilptr, .int .i64 6])
  | false => ∃ a b c, v = .d (.tuple [.ptr [.int .i64 s, .int .i64 st, .slice ds.length 6 (encW ds), .int .i64 k, a, b, .int .i64 g, c] 0, .int .i64 0])
section
variable {s st : Int} {ds : List Dy6} {k g : Int}
theorem failing_ok (hc : chk s st ds = 0) (hkg : fu st (wz ds) s 0 (-1) = (k, g)) : Sm Tryz.prog E 18 [.d (wD s st ds)] [] (FailQ s st ds k g) := by
  have G := chk_zero hc
  have hn60 := G.n
  have hchk := check_ok s st ds (by omega)
  rw [hc] at hchk
  have hh := happens_ok s st ds (ds.map (·.nh)) (ds.map (·.ml)) (ds.map (·.lh)) G (by simp) (by simp) (by simp) (worst_in G)
  rw [zip3_map, hkg] at hh
  refine sm_of HE true (by kernel_rfl) ?_
  unfold wD
  conv => whnf
  refine Rets.use hchk ?_
  conv => whnf
  refine Rets.use (worst_ok s st ds (by omega) (by omega)) ?_
  unfold weD
  conv => whnf
  refine Sm.mono hh ?_
  rintro v h ⟨rfl, a, b, c, rfl⟩
  conv => whnf
  unfold FailQ
  cases hk : eqI k (-1)
  · conv => whnf
    exact ⟨rfl, a, b, c, rfl⟩
  · conv => whnf
    exact ⟨rfl, rfl⟩
def firD (k : Int) : D := match eqI k (-1) with
  | true => .tuple [.int .i64 0, .int .i64 6]
  | false => .tuple [.int .i64 k, .int .i64 0]
theorem First_ok (hc : chk s st ds = 0) (hkg : fu st (wz ds) s 0 (-1) = (k, g)) : Rets Tryz.prog E 7 [.d (wD s st ds)] (.d (firD k)) := by
  have hf := failing_ok hc hkg
  refine sm_of HE true (by kernel_rfl) ?_
  unfold wD firD
  conv => whnf
  refine Sm.mono hf ?_
  unfold FailQ
  cases hk : eqI k (-1)
  · rintro v h ⟨rfl, a, b, c, rfl⟩
    conv => whnf
    exact ⟨rfl, rfl⟩
  · rintro v h ⟨rfl, rfl⟩
    conv => whnf
    exact ⟨rfl, rfl⟩
def whyD (k g : Int) : D := match eqI k (-1) with
  | true => .tuple [.agg [.int .i64 0, .int .i64 0], .int .i64 6]
  | false => .tuple [.agg [.int .i64 g, .int .i64 k], .int .i64 0]
theorem Why_ok (hc : chk s st ds = 0) (hkg : fu st (wz ds) s 0 (-1) = (k, g)) : Rets Tryz.prog E 9 [.d (wD s st ds)] (.d (whyD k g)) := by
  have hf := failing_ok hc hkg
  refine sm_of HE true (by kernel_rfl) ?_
  unfold wD whyD
  conv => whnf
  refine Sm.mono hf ?_
  unfold FailQ
  cases hk : eqI k (-1)
  · rintro v h ⟨rfl, a, b, c, rfl⟩
    conv => whnf
    exact ⟨rfl, rfl⟩
  · rintro v h ⟨rfl, rfl⟩
    conv => whnf
    exact ⟨rfl, rfl⟩
end
/-! ### The plain law -/
theorem wea_worst {s st : Int} {ds : List Dy6} (G : Good s st ds) : wea ds (ds.map (·.nh)) (ds.map (·.ml)) (ds.map (·.lh)) = 0 := by
  have e : ∀ a : Int, eqI a a = true := fun a => by rw [eqI_eq]; simp
  have hw : ∀ l : List Dy6, (∀ p ∈ l, p ∈ ds) → weaB l (l.map (·.nh)) (l.map (·.ml)) (l.map (·.lh)) = false := by
    intro l
    induction l with
    | nil => intro _; rfl
    | cons p l ih =>
      intro hp
      have hd := G.d p (hp p List.mem_cons_self)
      have ok : ∀ n lo hi : Int, lo ≤ n → n ≤ hi → inB n lo hi = true := fun n lo hi a b => by
        unfold inB; rw [leI_eq, leI_eq]; simp [andB, a, b]
      simp only [List.map_cons, weaB]
      rw [show inDay p p.nh p.ml p.lh = true by unfold inDay; rw [ok _ _ _ hd.1.2.1 (Int.le_refl _), ok _ _ _ (Int.le_refl _) hd.2.1.2.1, ok _ _ _ hd.2.2.2.1 (Int.le_refl _)]; rfl]
      exact ih fun q hq => hp q (List.mem_cons_of_mem _ hq)
  unfold wea
  simp only [List.length_map, e]
  rw [hw ds fun _ h => h]
  rfl
theorem wea_zero {ds : List Dy6} {n m l : List Int} (h : wea ds n m l = 0) : n.length = ds.length ∧ m.length = ds.length ∧ l.length = ds.length ∧ weaB ds n m l = false := by
  unfold wea at h
  split at h
  · cases h
  rename_i g
  split at h
  · cases h
  rename_i g2
  have orf : ∀ {a b : Bool}, orB a b = false → a = false ∧ b = false := by intro a b; cases a <;> cases b <;> simp [orB]
  have ntf : ∀ {a : Bool}, notB a = false → a = true := by intro a; cases a <;> simp [notB]
  obtain ⟨a1, a2⟩ := orf g
  obtain ⟨b1, b2⟩ := orf a1
  exact ⟨eqI_nat (ntf b1), eqI_nat (ntf b2), eqI_nat (ntf a2), g2⟩
theorem weaB_false : ∀ {ds : List Dy6} {n m l : List Int}, weaB ds n m l = false → n.length = ds.length → m.length = ds.length → l.length = ds.length →
    Worse (wz ds) (zip3 n m l) ∧ ∀ (i : Nat) d a b c, ds[i]? = some d → n[i]? = some a → m[i]? = some b → l[i]? = some c → (d.nl ≤ a ∧ a ≤ d.nh) ∧ (d.ml ≤ b ∧ b ≤ d.mh) ∧ (d.ll ≤ c ∧ c ≤ d.lh)
  | [], [], [], [], _, _, _, _ => ⟨trivial, fun _ _ _ _ _ h => by simp at h⟩
  | d :: ds, a :: n, b :: m, c :: l, h, h1, h2, h3 => by
    rw [weaB] at h
    split at h
    · rename_i hd
      unfold inDay at hd
      obtain ⟨k1, k2⟩ := andB_true hd
      obtain ⟨k3, k4⟩ := andB_true k1
      have i1 := inB_true k3
      have i2 := inB_true k4
      have i3 := inB_true k2
      obtain ⟨w1, w2⟩ := weaB_false h (by simpa using h1) (by simpa using h2) (by simpa using h3)
      refine ⟨⟨i1.2, i2.1, i3.2, w1⟩, ?_⟩
      rintro (_ | i) d' a' b' c' e1 e2 e3 e4
      · simp at e1 e2 e3 e4
        subst e1; subst e2; subst e3; subst e4
        exact ⟨i1, i2, i3⟩
      · exact w2 i d' a' b' c' (by simpa using e1) (by simpa using e2) (by simpa using e3) (by simpa using e4)
    · cases h
  | _ :: _, [], _, _, _, h1, _, _ => by simp at h1
  | _ :: _, _ :: _, [], _, _, _, h2, _ => by simp at h2
  | _ :: _, _ :: _, _ :: _, [], _, _, _, h3 => by simp at h3
  | [], _ :: _, _, _, _, h1, _, _ => by simp at h1
  | [], [], _ :: _, _, _, _, h2, _ => by simp at h2
  | [], [], [], _ :: _, _, _, _, h3 => by simp at h3
theorem weather_in {s st : Int} {ds : List Dy6} {n m l : List Int} (G : Good s st ds) (h : wea ds n m l = 0) : ∀ (i : Nat) a b c, n[i]? = some a → m[i]? = some b → l[i]? = some c → (0 ≤ a ∧ a ≤ 100000) ∧ (0 ≤ b ∧ b ≤ 100000) ∧ (0 ≤ c ∧ c ≤ 100000) := by
  obtain ⟨h1, h2, h3, h4⟩ := wea_zero h
  obtain ⟨_, w⟩ := weaB_false h4 h1 h2 h3
  intro i a b c e1 e2 e3
  have hi : i < ds.length := by have := (List.getElem?_eq_some_iff.1 e1).1; omega
  have hd : ds[i]? = some ds[i] := by simp [hi]
  have g := G.d _ (List.mem_of_getElem? hd)
  have := w i _ a b c hd e1 e2 e3
  omega
theorem wz_length (ds : List Dy6) : (wz ds).length = ds.length := by simp [wz]
/-- What is named as a proof proves something. -/
theorem why_law {s st : Int} {ds : List Dy6} {k g : Int} (hkg : fu st (wz ds) s 0 (-1) = (k, g)) (hk : k ≠ -1) : ∃ x, prvI st s g k ds = (-x, 0) ∧ x < 0 := by
  obtain ⟨a1, a2, a3, w1, w2⟩ := why_holds st (wz ds) s 0 (-1) k g (by omega) hkg hk
  rw [wz_length] at a2
  have hfl : fl st (wz ds) s 0 = k := by have := fu_fst st (wz ds) s 0 (-1); rw [hkg] at this; exact this.symm
  have hk0 : 0 ≤ k := by
    have h := fl_cases st (wz ds) s 0
    rw [hfl] at h
    clear w1 w2
    omega
  have ok : ∀ n lo hi : Int, lo ≤ n → n ≤ hi → inB n lo hi = true := fun n lo hi a b => by
    unfold inB; rw [leI_eq, leI_eq]; simp [andB, a, b]
  obtain ⟨x, hx, hx0⟩ : ∃ x, pv st g k (wz ds) 0 s = some x ∧ x < 0 := by
    by_cases hg : g < 0
    · exact (w1 (by omega)).2
    · exact w2 (by omega) s
  refine ⟨x, ?_, hx0⟩
  unfold prvI
  rw [ok k 0 _ hk0 (by omega), ok g (-1) k a3 a1, hx]
  have : leI 0 x = false := by rw [leI_eq]; simpa using hx0
  simp only [notB, orB, this]
/-- What a proof that holds names. -/
theorem prv_law {s st from_ day : Int} {ds : List Dy6} {k g : Int} (hkg : fu st (wz ds) s 0 (-1) = (k, g)) (h0 : (prvI st s from_ day ds).2 = 0) (h1 : 0 < (prvI st s from_ day ds).1) : k ≠ -1 ∧ k ≤ day := by
  have hfl : fl st (wz ds) s 0 = k := by have := fu_fst st (wz ds) s 0 (-1); rw [hkg] at this; exact this.symm
  unfold prvI at h0 h1
  split at h0
  · cases h0
  rename_i hin
  rw [hin] at h1
  simp only at h1
  split at h0
  · cases h0
  rename_i x hx
  rw [hx] at h1
  simp only at h1
  split at h0
  · cases h0
  rename_i hlt
  rw [hlt] at h1
  simp only at h1
  have orf : ∀ {a b : Bool}, orB a b = false → a = false ∧ b = false := by intro a b; cases a <;> cases b <;> simp [orB]
  have ntf : ∀ {a : Bool}, notB a = false → a = true := by intro a; cases a <;> simp [notB]
  obtain ⟨b1, b2⟩ := orf hin
  have c1 := inB_true (ntf b1)
  have c2 := inB_true (ntf b2)
  have := proof_names st from_ day c2.2 (wz ds) s s x 0 (by omega) (by rw [wz_length]; omega) (.inr (Int.le_refl _)) hx (by omega)
  rw [hfl] at this
  exact this
end Go.Proofs.Hx
