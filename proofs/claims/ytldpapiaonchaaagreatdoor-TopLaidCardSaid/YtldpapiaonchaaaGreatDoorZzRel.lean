/-
  How the abstract machine's values and heap stand to the model's: the relation, and that it lives on as the world grows.
-/
import Derived.Test.YtldpapiaonchaaaGreatDoorZzCtl
import Derived.CallsIn
import Derived.OrdersIn
import Derived.RangeFuncLeaves
import Derived.Laws.World
namespace Go.Ab
open Go

structure Ep where
  blk : Option Nat
  len : Nat
/-- Where each epoch of each name lies. -/
abbrev Mu := Nat → Nat → Option Ep

mutual
def VRd (Z : Nat → Prop) (w : World) : D → Value → Prop
  | .unk, _ => True
  | .undef, v => v = .tuple #[]
  | .bool b, v => v = .bool b
  | .int k n, v => v = .int k n
  | .str s, v => v = .string ⟨s.toArray⟩
  | .nil, v => v = .slice none 0 0
  | .emp, v => ∃ a, v = .slice a 0 0
  | .slice n sz cells, v => ∃ a cap, v = .slice a n cap ∧ n ≤ cap ∧ cells.length = n * sz ∧ (n = 0 ∨ ∃ c o, a = some ⟨c, o, none⟩ ∧ Z c ∧ VRdAt Z w c o cells)
  | .ptr cells off, v => ∃ c o, v = .pointer (some ⟨c, o + off, none⟩) ∧ Z c ∧ VRdAt Z w c o cells
  | .nilptr, v => v = .pointer none
  | .nilmap, v => v = .map none
  | .nilfunc, v => v = .nilFunc
  | .niliface, v => v = .nilIface
  | .func f a c, v => ∃ a' c', v = .func (.func f) a' c' ∧ VRdL Z w a a'.toList ∧ VRdL Z w c c'.toList
  | .iface t x, v => ∃ u, v = .iface t u ∧ VRd Z w x u
  | .agg cs, v => ∃ vs, v = .agg vs ∧ VRdL Z w cs vs.toList ∧ (∀ u ∈ vs.toList, u.oneCell' = true)
  | .tuple cs, v => ∃ vs, v = .tuple vs ∧ VRdL Z w cs vs.toList
def VRdL (Z : Nat → Prop) (w : World) : List D → List Value → Prop
  | [], l => l = []
  | d :: ds, l => ∃ v vs, l = v :: vs ∧ VRd Z w d v ∧ VRdL Z w ds vs
def VRdAt (Z : Nat → Prop) (w : World) (c o : Nat) : List D → Prop
  | [] => True
  | d :: ds => (∃ v, w.cell? ⟨c, o, none⟩ = some v ∧ v.oneCell' = true ∧ VRd Z w d v) ∧ VRdAt Z w c (o + 1) ds
end

mutual
def VR (Z : Nat → Prop) (μ : Mu) (w : World) : V → Value → Prop
  | .d x, v => VRd Z w x v
  | .ptr b e off lim, v => ∃ x c, μ b e = some x ∧ x.blk = some c ∧ lim ≤ x.len ∧ v = .pointer (some ⟨c, off, none⟩) ∧ ∃ C el fr, w.heap[c]? = some (.cells C el fr) ∧ lim ≤ C.size
  | .slice b e off n sz, v => ∃ x a cap, μ b e = some x ∧ v = .slice a n cap ∧ n ≤ cap ∧ off + n * sz ≤ x.len ∧
      (cap = 0 ∨ ∃ c C el fr, x.blk = some c ∧ a = some ⟨c, off, none⟩ ∧ w.heap[c]? = some (.cells C el fr) ∧ off + cap * sz ≤ C.size)
  | .map b, v => ∃ x c, μ b 0 = some x ∧ x.blk = some c ∧ v = .map (some c)
  | .iter b, v => ∃ x c, μ b 0 = some x ∧ x.blk = some c ∧ v = .pointer (some ⟨c, 0, none⟩)
  | .func f a c, v => ∃ a' c', v = .func (.func f) a' c' ∧ VRL Z μ w a a'.toList ∧ VRL Z μ w c c'.toList
  | .yield b, v => ∃ x c, μ b 0 = some x ∧ x.blk = some c ∧ v = .func (.yield c) #[] #[]
  | .iface t x, v => ∃ u, v = .iface t u ∧ VR Z μ w x u
  | .agg cs, v => ∃ vs, v = .agg vs ∧ VRL Z μ w cs vs.toList ∧ (∀ u ∈ vs.toList, u.oneCell' = true)
  | .tuple cs, v => ∃ vs, v = .tuple vs ∧ VRL Z μ w cs vs.toList
def VRL (Z : Nat → Prop) (μ : Mu) (w : World) : List V → List Value → Prop
  | [], l => l = []
  | d :: ds, l => ∃ v vs, l = v :: vs ∧ VR Z μ w d v ∧ VRL Z μ w ds vs
end

/-! ### The relation lives on -/
theorem cell_of_heap {w w' : World} {c o : Nat} (h : w'.heap[c]? = w.heap[c]?) : w'.cell? ⟨c, o, none⟩ = w.cell? ⟨c, o, none⟩ := by
  unfold World.cell?; simp only [h]

section
variable {Z Z' : Nat → Prop} {w w' : World}
mutual
theorem VRd.mono (hz : ∀ c, Z c → Z' c) (hw : ∀ c, Z c → w'.heap[c]? = w.heap[c]?) : ∀ (d : D) (v : Value), VRd Z w d v → VRd Z' w' d v
  | .unk, _, _ => trivial
  | .undef, _, h => h
  | .bool _, _, h => h
  | .int _ _, _, h => h
  | .str _, _, h => h
  | .nil, _, h => h
  | .emp, _, h => h
  | .slice n sz cells, _, h => by
    obtain ⟨a, cap, e, h1, h2, h3⟩ := h
    refine ⟨a, cap, e, h1, h2, h3.imp id ?_⟩
    rintro ⟨c, o, e, hc, hr⟩
    exact ⟨c, o, e, hz c hc, VRdAt.mono hz hw c o cells hc hr⟩
  | .ptr cells off, _, h => by
    obtain ⟨c, o, e, hc, hr⟩ := h
    exact ⟨c, o, e, hz c hc, VRdAt.mono hz hw c o cells hc hr⟩
  | .nilptr, _, h => h
  | .nilmap, _, h => h
  | .nilfunc, _, h => h
  | .niliface, _, h => h
  | .func f a c, _, h => by
    obtain ⟨a', c', e, h1, h2⟩ := h
    exact ⟨a', c', e, VRdL.mono hz hw a _ h1, VRdL.mono hz hw c _ h2⟩
  | .iface t x, _, h => by
    obtain ⟨u, e, h1⟩ := h
    exact ⟨u, e, VRd.mono hz hw x u h1⟩
  | .agg cs, _, h => by
    obtain ⟨vs, e, h1, h2⟩ := h
    exact ⟨vs, e, VRdL.mono hz hw cs _ h1, h2⟩
  | .tuple cs, _, h => by
    obtain ⟨vs, e, h1⟩ := h
    exact ⟨vs, e, VRdL.mono hz hw cs _ h1⟩
theorem VRdL.mono (hz : ∀ c, Z c → Z' c) (hw : ∀ c, Z c → w'.heap[c]? = w.heap[c]?) : ∀ (d : List D) (v : List Value), VRdL Z w d v → VRdL Z' w' d v
  | [], _, h => h
  | d :: ds, _, h => by
    obtain ⟨v, vs, e, h1, h2⟩ := h
    exact ⟨v, vs, e, VRd.mono hz hw d v h1, VRdL.mono hz hw ds vs h2⟩
theorem VRdAt.mono (hz : ∀ c, Z c → Z' c) (hw : ∀ c, Z c → w'.heap[c]? = w.heap[c]?) : ∀ (c o : Nat) (d : List D), Z c → VRdAt Z w c o d → VRdAt Z' w' c o d
  | _, _, [], _, _ => trivial
  | c, o, d :: ds, hc, h => by
    obtain ⟨⟨v, e, ho, h1⟩, h2⟩ := h
    exact ⟨⟨v, (cell_of_heap (hw c hc)).trans e, ho, VRd.mono hz hw d v h1⟩, VRdAt.mono hz hw c (o + 1) ds hc h2⟩
end
end

/-- What values are carried over by. -/
structure Ext (Z : Nat → Prop) (μ : Mu) (w : World) (Z' : Nat → Prop) (μ' : Mu) (w' : World) : Prop where
  z : ∀ c, Z c → Z' c
  zw : ∀ c, Z c → w'.heap[c]? = w.heap[c]?
  m : ∀ b e x, μ b e = some x → μ' b e = some x
  sz : ∀ (c : Nat) C el fr, w.heap[c]? = some (.cells C el fr) → ∃ C', w'.heap[c]? = some (.cells C' el fr) ∧ C'.size = C.size

section
variable {Z Z' : Nat → Prop} {μ μ' : Mu} {w w' : World}
mutual
theorem VR.mono (H : Ext Z μ w Z' μ' w') : ∀ (d : V) (v : Value), VR Z μ w d v → VR Z' μ' w' d v
  | .d x, v, h => VRd.mono H.z H.zw x v h
  | .ptr b e off lim, _, h => by
    obtain ⟨x, c, h1, h2, h3, h4, C, el, fr, h5, h6⟩ := h
    obtain ⟨C', e5, e6⟩ := H.sz c C el fr h5
    exact ⟨x, c, H.m _ _ _ h1, h2, h3, h4, C', el, fr, e5, by omega⟩
  | .slice b e off n sz, _, h => by
    obtain ⟨x, a, cap, h1, h2, h3, h4, h5⟩ := h
    refine ⟨x, a, cap, H.m _ _ _ h1, h2, h3, h4, h5.imp id ?_⟩
    rintro ⟨c, C, el, fr, e1, e2, e3, e4⟩
    obtain ⟨C', e5, e6⟩ := H.sz c C el fr e3
    exact ⟨c, C', el, fr, e1, e2, e5, by omega⟩
  | .map b, _, h => by obtain ⟨x, c, h1, h2⟩ := h; exact ⟨x, c, H.m _ _ _ h1, h2⟩
  | .iter b, _, h => by obtain ⟨x, c, h1, h2⟩ := h; exact ⟨x, c, H.m _ _ _ h1, h2⟩
  | .func f a c, _, h => by
    obtain ⟨a', c', e, h1, h2⟩ := h
    exact ⟨a', c', e, VRL.mono H a _ h1, VRL.mono H c _ h2⟩
  | .yield b, _, h => by obtain ⟨x, c, h1, h2⟩ := h; exact ⟨x, c, H.m _ _ _ h1, h2⟩
  | .iface t x, _, h => by obtain ⟨u, e, h1⟩ := h; exact ⟨u, e, VR.mono H x u h1⟩
  | .agg cs, _, h => by obtain ⟨vs, e, h1, h2⟩ := h; exact ⟨vs, e, VRL.mono H cs _ h1, h2⟩
  | .tuple cs, _, h => by obtain ⟨vs, e, h1⟩ := h; exact ⟨vs, e, VRL.mono H cs _ h1⟩
theorem VRL.mono (H : Ext Z μ w Z' μ' w') : ∀ (d : List V) (v : List Value), VRL Z μ w d v → VRL Z' μ' w' d v
  | [], _, h => h
  | d :: ds, _, h => by
    obtain ⟨v, vs, e, h1, h2⟩ := h
    exact ⟨v, vs, e, VR.mono H d v h1, VRL.mono H ds vs h2⟩
end
mutual
/-- Other names. -/
theorem VR.ren {r : Nat → Nat} : ∀ (d : V) (v : Value), (∀ b ∈ namesV d, ∀ e x, μ b e = some x → μ' (r b) e = some x) → VR Z μ w d v → VR Z μ' w (renV r d) v
  | .d _, _, _, h => h
  | .ptr b e off lim, _, hr, h => by
    obtain ⟨x, c, h1, h2⟩ := h
    exact ⟨x, c, hr b (by simp [namesV]) _ _ h1, h2⟩
  | .slice b e off n sz, _, hr, h => by
    obtain ⟨x, a, cap, h1, h2⟩ := h
    exact ⟨x, a, cap, hr b (by simp [namesV]) _ _ h1, h2⟩
  | .map b, _, hr, h => by obtain ⟨x, c, h1, h2⟩ := h; exact ⟨x, c, hr b (by simp [namesV]) _ _ h1, h2⟩
  | .iter b, _, hr, h => by obtain ⟨x, c, h1, h2⟩ := h; exact ⟨x, c, hr b (by simp [namesV]) _ _ h1, h2⟩
  | .func f a c, _, hr, h => by
    obtain ⟨a', c', e, h1, h2⟩ := h
    exact ⟨a', c', e, VRL.ren a _ (fun b hb => hr b (by simp [namesV, hb])) h1, VRL.ren c _ (fun b hb => hr b (by simp [namesV, hb])) h2⟩
  | .yield b, _, hr, h => by obtain ⟨x, c, h1, h2⟩ := h; exact ⟨x, c, hr b (by simp [namesV]) _ _ h1, h2⟩
  | .iface t x, _, hr, h => by obtain ⟨u, e, h1⟩ := h; exact ⟨u, e, VR.ren x u (fun b hb => hr b (by simp [namesV, hb])) h1⟩
  | .agg cs, _, hr, h => by obtain ⟨vs, e, h1, h2⟩ := h; exact ⟨vs, e, VRL.ren cs _ (fun b hb => hr b (by simp [namesV, hb])) h1, h2⟩
  | .tuple cs, _, hr, h => by obtain ⟨vs, e, h1⟩ := h; exact ⟨vs, e, VRL.ren cs _ (fun b hb => hr b (by simp [namesV, hb])) h1⟩
theorem VRL.ren {r : Nat → Nat} : ∀ (d : List V) (v : List Value), (∀ b ∈ namesVs d, ∀ e x, μ b e = some x → μ' (r b) e = some x) → VRL Z μ w d v → VRL Z μ' w (renVs r d) v
  | [], _, _, h => h
  | d :: ds, _, hr, h => by
    obtain ⟨v, vs, e, h1, h2⟩ := h
    exact ⟨v, vs, e, VR.ren d v (fun b hb => hr b (by simp [namesVs, hb])) h1, VRL.ren ds vs (fun b hb => hr b (by simp [namesVs, hb])) h2⟩
end
end

/-! ### Lists -/
section
variable {Z : Nat → Prop} {μ : Mu} {w : World}
theorem VRdL.length : ∀ {d : List D} {v : List Value}, VRdL Z w d v → d.length = v.length
  | [], _, h => by cases h; rfl
  | _ :: _, _, h => by obtain ⟨v, vs, rfl, _, h2⟩ := h; simp [h2.length]
theorem VRL.length : ∀ {d : List V} {v : List Value}, VRL Z μ w d v → d.length = v.length
  | [], _, h => by cases h; rfl
  | _ :: _, _, h => by obtain ⟨v, vs, rfl, _, h2⟩ := h; simp [h2.length]
theorem VRdL.toV : ∀ {d : List D} {v : List Value}, VRdL Z w d v → VRL Z μ w (d.map .d) v
  | [], _, h => h
  | _ :: _, _, h => by obtain ⟨v, vs, rfl, h1, h2⟩ := h; exact ⟨v, vs, rfl, h1, h2.toV⟩
theorem VRL.getElem? : ∀ {d : List V} {v : List Value}, VRL Z μ w d v → ∀ (i : Nat) x, d[i]? = some x → ∃ y, v[i]? = some y ∧ VR Z μ w x y
  | [], _, _, _, _, hx => by simp at hx
  | a :: l, _, h, 0, x, hx => by obtain ⟨v, vs, rfl, h1, h2⟩ := h; simp at hx; subst hx; exact ⟨v, rfl, h1⟩
  | a :: l, _, h, i + 1, x, hx => by obtain ⟨v, vs, rfl, h1, h2⟩ := h; simp at hx; simpa using h2.getElem? i x hx
theorem VRdL.getElem? : ∀ {d : List D} {v : List Value}, VRdL Z w d v → ∀ (i : Nat) x, d[i]? = some x → ∃ y, v[i]? = some y ∧ VRd Z w x y
  | [], _, _, _, _, hx => by simp at hx
  | a :: l, _, h, 0, x, hx => by obtain ⟨v, vs, rfl, h1, h2⟩ := h; simp at hx; subst hx; exact ⟨v, rfl, h1⟩
  | a :: l, _, h, i + 1, x, hx => by obtain ⟨v, vs, rfl, h1, h2⟩ := h; simp at hx; simpa using h2.getElem? i x hx
theorem VRL.append : ∀ {d d' : List V} {v v' : List Value}, VRL Z μ w d v → VRL Z μ w d' v' → VRL Z μ w (d ++ d') (v ++ v')
  | [], _, _, _, h, h' => by cases h; exact h'
  | _ :: _, _, _, _, h, h' => by obtain ⟨v, vs, rfl, h1, h2⟩ := h; exact ⟨v, _, rfl, h1, h2.append h'⟩
theorem VRL.take : ∀ {d : List V} {v : List Value} (n : Nat), VRL Z μ w d v → VRL Z μ w (d.take n) (v.take n)
  | _, _, 0, _ => by simp [VRL]
  | [], _, _ + 1, h => by cases h; simp [VRL]
  | _ :: _, _, n + 1, h => by obtain ⟨v, vs, rfl, h1, h2⟩ := h; exact ⟨v, _, rfl, h1, h2.take n⟩
theorem VRL.drop : ∀ {d : List V} {v : List Value} (n : Nat), VRL Z μ w d v → VRL Z μ w (d.drop n) (v.drop n)
  | _, _, 0, h => h
  | [], _, _ + 1, h => by cases h; simp [VRL]
  | _ :: _, _, n + 1, h => by obtain ⟨v, vs, rfl, h1, h2⟩ := h; exact h2.drop n
theorem VRL.wr : ∀ {d x : List V} {v y : List Value} (n : Nat), VRL Z μ w d v → VRL Z μ w x y → VRL Z μ w (wr d n x) (wr v n y)
  | _, [], _, _, _, h, h' => by cases h'; cases ‹List V› <;> cases ‹Nat› <;> (try cases ‹List Value›) <;> simp_all [Ab.wr]
  | [], _ :: _, _, _, _, h, h' => by obtain ⟨_, _, rfl, _, _⟩ := h'; cases h; simp [Ab.wr, VRL]
  | _ :: _, _ :: _, _, _, 0, h, h' => by
    obtain ⟨v, vs, rfl, h1, h2⟩ := h; obtain ⟨u, us, rfl, h3, h4⟩ := h'
    exact ⟨u, _, rfl, h3, VRL.wr 0 h2 h4⟩
  | _ :: _, a :: l, _, _, n + 1, h, h' => by
    obtain ⟨v, vs, rfl, h1, h2⟩ := h
    obtain ⟨u, us, rfl, h3, h4⟩ := h'
    exact ⟨v, _, rfl, h1, VRL.wr n h2 ⟨u, us, rfl, h3, h4⟩⟩
/-- What lies there one after the other. -/
theorem VRdAt.at_ : ∀ {cs : List D} {c o : Nat}, VRdAt Z w c o cs → ∀ (i : Nat) x, cs[i]? = some x → ∃ v, w.cell? ⟨c, o + i, none⟩ = some v ∧ v.oneCell' = true ∧ VRd Z w x v
  | [], _, _, _, _, _, hx => by simp at hx
  | a :: l, c, o, h, 0, x, hx => by simp at hx; subst hx; simpa using h.1
  | a :: l, c, o, h, i + 1, x, hx => by
    simp at hx
    obtain ⟨v, e, h1⟩ := h.2.at_ i x hx
    exact ⟨v, by rw [← e]; congr 2; omega, h1⟩
theorem VRdAt.mk : ∀ {cs : List D} {c o : Nat}, (∀ (i : Nat) x, cs[i]? = some x → ∃ v, w.cell? ⟨c, o + i, none⟩ = some v ∧ v.oneCell' = true ∧ VRd Z w x v) → VRdAt Z w c o cs
  | [], _, _, _ => trivial
  | a :: l, c, o, h => ⟨by simpa using h 0 a rfl, VRdAt.mk fun i x hx => by
      obtain ⟨v, e, h1⟩ := h (i + 1) x (by simpa using hx)
      exact ⟨v, by rw [← e]; congr 2; omega, h1⟩⟩
theorem VRdAt.drop {cs : List D} {c o : Nat} (h : VRdAt Z w c o cs) (n : Nat) : VRdAt Z w c (o + n) (cs.drop n) :=
  .mk fun i x hx => by
    rw [List.getElem?_drop] at hx
    obtain ⟨v, e, h1⟩ := h.at_ _ x hx
    exact ⟨v, by rw [← e]; congr 2; omega, h1⟩
theorem VRdAt.take {cs : List D} {c o : Nat} (h : VRdAt Z w c o cs) (n : Nat) : VRdAt Z w c o (cs.take n) :=
  .mk fun i x hx => by
    have hx' : cs[i]? = some x := by
      rw [List.getElem?_take] at hx
      split at hx <;> simp_all
    exact h.at_ i x hx'
end

/-! ### Making values -/
section
variable {Z : Nat → Prop} {μ : Mu} {w : World}
theorem allD_spec : ∀ {cs : List V} {ds : List D}, allD cs = some ds → cs = ds.map .d
  | [], _, h => by simp [allD] at h; simp [h]
  | .d x :: r, ds, h => by
    simp only [allD] at h
    split at h
    · rename_i l hl; cases h; simp [allD_spec hl]
    · cases h
  | .ptr .. :: _, _, h | .slice .. :: _, _, h | .map _ :: _, _, h | .iter _ :: _, _, h | .func .. :: _, _, h | .yield _ :: _, _, h | .iface .. :: _, _, h | .agg _ :: _, _, h | .tuple _ :: _, _, h => by simp [allD] at h
theorem VRL.toD : ∀ {ds : List D} {v : List Value}, VRL Z μ w (ds.map .d) v → VRdL Z w ds v
  | [], _, h => h
  | _ :: _, _, h => by obtain ⟨v, vs, rfl, h1, h2⟩ := h; exact ⟨v, vs, rfl, h1, h2.toD⟩
theorem VR.mkAgg {cs : List V} {vs : Array Value} (h : VRL Z μ w cs vs.toList) (h1 : ∀ u ∈ vs.toList, u.oneCell' = true) : VR Z μ w (mkAgg cs) (.agg vs) := by
  unfold Ab.mkAgg
  split
  · rename_i ds hd; rw [allD_spec hd] at h; exact ⟨vs, rfl, h.toD, h1⟩
  · exact ⟨vs, rfl, h, h1⟩
theorem VR.mkTuple {cs : List V} {vs : Array Value} (h : VRL Z μ w cs vs.toList) : VR Z μ w (mkTuple cs) (.tuple vs) := by
  unfold Ab.mkTuple
  split
  · rename_i ds hd; rw [allD_spec hd] at h; exact ⟨vs, rfl, h.toD⟩
  · exact ⟨vs, rfl, h⟩
theorem VR.mkFunc {f : Nat} {a c : List V} {a' c' : Array Value} (h : VRL Z μ w a a'.toList) (h' : VRL Z μ w c c'.toList) : VR Z μ w (mkFunc f a c) (.func (.func f) a' c') := by
  unfold Ab.mkFunc
  split
  · rename_i x y hx hy; rw [allD_spec hx] at h; rw [allD_spec hy] at h'; exact ⟨a', c', rfl, h.toD, h'.toD⟩
  · exact ⟨a', c', rfl, h, h'⟩
theorem VR.mkIface {t : Nat} {x : V} {v : Value} (h : VR Z μ w x v) : VR Z μ w (mkIface t x) (.iface t v) := by
  cases x <;> exact ⟨v, rfl, h⟩
/-- The cells of a value that may be stored. -/
theorem VR.cellsO {x : V} {cs : List V} {v : Value} (h : VR Z μ w x v) (hc : cellsO x = some cs) : VRL Z μ w cs v.cells.toList ∧ ∀ u ∈ v.cells.toList, u.oneCell' = true := by
  have one : ∀ {y : V}, VR Z μ w y v → v.oneCell' = true → VRL Z μ w [y] v.cells.toList ∧ ∀ u ∈ v.cells.toList, u.oneCell' = true := by
    intro y hy ho
    have e : v.cells = #[v] := by cases v <;> first | rfl | simp [Value.oneCell'] at ho
    rw [e]
    exact ⟨⟨v, [], rfl, hy, rfl⟩, by simp [ho]⟩
  cases x with
  | d x =>
    cases x with
    | agg ds =>
      simp only [Ab.cellsO, Option.some.injEq] at hc; subst hc
      obtain ⟨vs, rfl, h1, h2⟩ := h
      exact ⟨h1.toV, h2⟩
    | unk => simp [Ab.cellsO] at hc
    | undef => simp [Ab.cellsO] at hc
    | tuple l => simp [Ab.cellsO] at hc
    | bool b => simp only [Ab.cellsO, Option.some.injEq] at hc; subst hc; have := h; simp only [VR, VRd] at h; subst h; exact one this rfl
    | int k n => simp only [Ab.cellsO, Option.some.injEq] at hc; subst hc; have := h; simp only [VR, VRd] at h; subst h; exact one this rfl
    | str s => simp only [Ab.cellsO, Option.some.injEq] at hc; subst hc; have := h; simp only [VR, VRd] at h; subst h; exact one this rfl
    | nil => simp only [Ab.cellsO, Option.some.injEq] at hc; subst hc; have := h; simp only [VR, VRd] at h; subst h; exact one this rfl
    | emp => simp only [Ab.cellsO, Option.some.injEq] at hc; subst hc; have := h; obtain ⟨a, rfl⟩ := h; exact one this rfl
    | slice n sz l => simp only [Ab.cellsO, Option.some.injEq] at hc; subst hc; have := h; obtain ⟨a, cap, rfl, _⟩ := h; exact one this rfl
    | ptr l o => simp only [Ab.cellsO, Option.some.injEq] at hc; subst hc; have := h; obtain ⟨c, o, rfl, _⟩ := h; exact one this rfl
    | nilptr => simp only [Ab.cellsO, Option.some.injEq] at hc; subst hc; have := h; simp only [VR, VRd] at h; subst h; exact one this rfl
    | nilmap => simp only [Ab.cellsO, Option.some.injEq] at hc; subst hc; have := h; simp only [VR, VRd] at h; subst h; exact one this rfl
    | nilfunc => simp only [Ab.cellsO, Option.some.injEq] at hc; subst hc; have := h; simp only [VR, VRd] at h; subst h; exact one this rfl
    | niliface => simp only [Ab.cellsO, Option.some.injEq] at hc; subst hc; have := h; simp only [VR, VRd] at h; subst h; exact one this rfl
    | func f a c => simp only [Ab.cellsO, Option.some.injEq] at hc; subst hc; have := h; obtain ⟨a', c', rfl, _⟩ := h; exact one this rfl
    | iface t x => simp only [Ab.cellsO, Option.some.injEq] at hc; subst hc; have := h; obtain ⟨u, rfl, _⟩ := h; exact one this rfl
  | ptr b e o l => simp only [Ab.cellsO, Option.some.injEq] at hc; subst hc; have := h; obtain ⟨x, c, _, _, _, rfl, _⟩ := h; exact one this rfl
  | slice b e o n s => simp only [Ab.cellsO, Option.some.injEq] at hc; subst hc; have := h; obtain ⟨x, a, cap, _, rfl, _⟩ := h; exact one this rfl
  | map b => simp only [Ab.cellsO, Option.some.injEq] at hc; subst hc; have := h; obtain ⟨x, c, _, _, rfl⟩ := h; exact one this rfl
  | iter b => simp only [Ab.cellsO, Option.some.injEq] at hc; subst hc; have := h; obtain ⟨x, c, _, _, rfl⟩ := h; exact one this rfl
  | func f a c => simp only [Ab.cellsO, Option.some.injEq] at hc; subst hc; have := h; obtain ⟨a', c', rfl, _⟩ := h; exact one this rfl
  | yield b => simp only [Ab.cellsO, Option.some.injEq] at hc; subst hc; have := h; obtain ⟨x, c, _, _, rfl⟩ := h; exact one this rfl
  | iface t x => simp only [Ab.cellsO, Option.some.injEq] at hc; subst hc; have := h; obtain ⟨u, rfl, _⟩ := h; exact one this rfl
  | agg cs' =>
    simp only [Ab.cellsO, Option.some.injEq] at hc; subst hc
    obtain ⟨vs, rfl, h1, h2⟩ := h
    exact ⟨h1, h2⟩
  | tuple l => simp [Ab.cellsO] at hc
end

/-! ### The heap -/
/-- May epoch e look at cell i? -/
def acc (fl : Nat) (cons : List (Nat × Nat)) (e i : Nat) : Prop := fl ≤ e ∧ ∀ p ∈ cons, e ≤ p.1 → i < p.2
theorem may_spec {e off n cur fl : Nat} : ∀ {cons : List (Nat × Nat)}, may e off n cur fl cons = true → e ≤ cur ∧ fl ≤ e ∧ ∀ p ∈ cons, e ≤ p.1 → off + n ≤ p.2
  | [], h => by
    simp only [may] at h
    split at h
    · rename_i h1; exact ⟨Nat.le_of_ble_eq_true h, Nat.le_of_ble_eq_true h1, by simp⟩
    · cases h
  | (e', l) :: r, h => by
    simp only [may] at h
    split at h
    · rename_i h1
      split at h
      · rename_i h2
        obtain ⟨a, b, c⟩ := may_spec h
        refine ⟨a, b, fun p hp hle => ?_⟩
        rcases List.mem_cons.1 hp with rfl | hp
        · exact Nat.le_of_ble_eq_true h2
        · exact c p hp hle
      · cases h
    · rename_i h1
      obtain ⟨a, b, c⟩ := may_spec h
      refine ⟨a, b, fun p hp hle => ?_⟩
      rcases List.mem_cons.1 hp with rfl | hp
      · rw [Nat.ble_eq_true_of_le hle] at h1; cases h1
      · exact c p hp hle
theorem may_acc {e off n cur fl : Nat} {cons : List (Nat × Nat)} (h : may e off n cur fl cons = true) {i : Nat} (hi : i < off + n) : acc fl cons e i := by
  obtain ⟨_, b, c⟩ := may_spec h
  exact ⟨b, fun p hp hle => Nat.lt_of_lt_of_le hi (c p hp hle)⟩

/-- An unfrozen row of cells. -/
def Free (fr : Nat × Nat) (n : Nat) : Prop := ∀ i, i < n → ¬ (fr.1 ≤ i ∧ i < fr.2)

/-- Temporaries. -/
def TR (Z : Nat → Prop) (μ : Mu) (w : World) (df : D) (ts : List (Nat × V)) (tmps : Array Value) : Prop :=
  ∀ t, VR Z μ w (getT df ts t) (tmps.getD t undef)

/-- What is known of a block's size. -/
def Exact (cur : Nat) (cons : List (Nat × Nat)) (n : Nat) : Prop := ∀ k, cur = 0 → cons = [(0, k)] → n ≤ k
theorem Exact.succ (cur : Nat) (cons : List (Nat × Nat)) (n : Nat) : Exact (cur + 1) cons n := fun _ h => absurd h (Nat.succ_ne_zero _)
theorem Exact.nil (cur n : Nat) : Exact cur [] n := fun _ _ h => by cases h
def OR (Z : Nat → Prop) (μ : Mu) (w : World) (b : Nat) : O → Prop
  | .row c cur fl cons => ∀ e x, μ b e = some x → e ≤ cur ∧
      (∀ blk, x.blk = some blk → ∃ C el fr, w.heap[blk]? = some (.cells C el fr) ∧ x.len ≤ C.size ∧ Free fr C.size ∧ Exact cur cons C.size) ∧
      (∀ i, acc fl cons e i → i < x.len → ∃ v cv blk, c.toV[i]? = some v ∧ x.blk = some blk ∧ w.cell? ⟨blk, i, none⟩ = some cv ∧ cv.oneCell' = true ∧ VR Z μ w v cv)
  | .map ks vs => ∀ e x, μ b e = some x → e = 0 ∧ ∃ c es clock, x.blk = some c ∧ w.heap[c]? = some (.map es clock) ∧ VRdL Z w ks (es.toList.map (·.key)) ∧ VRL Z μ w vs.toV (es.toList.map (·.val))
  | .iter s pos => ∀ e x, μ b e = some x → e = 0 ∧ ∃ c, x.blk = some c ∧ w.heap[c]? = some (.stringIter ⟨s.toArray⟩ pos)
  | .loop r => ∀ e x, μ b e = some x → e = 0 ∧ ∃ c, ∃ R : Loop, ∃ y k, x.blk = some c ∧ w.heap[c]? = some (.loop R) ∧ R.state = r.state ∧ R.pending = r.pending ∧ R.params.toList = r.params ∧
      R.assign = r.assign ∧ R.body = r.body ∧ R.tmps.size = r.nt ∧ TR Z μ w r.df r.ts R.tmps ∧ μ r.dfr 0 = some y ∧ y.blk = some k ∧ R.defers = k
  | .dfr => ∀ e x, μ b e = some x → e = 0 ∧ ∃ c, x.blk = some c ∧ w.heap[c]? = some (.deferred (some []))
  | .gone => True

/-- A block of so many cells. -/
def SizedAt (w : World) (g n : Nat) : Prop := ∃ C el fr, w.heap[g]? = some (.cells C el fr) ∧ C.size = n
structure SR (E : Env) (Z : Nat → Prop) (μ : Mu) (h : List O) (w : World) : Prop where
  zlt : ∀ c, Z c → c < w.heap.size
  obj : ∀ b, b < h.length → OR Z μ w b (getO h b)
  dom : ∀ b e x, μ b e = some x → b < h.length
  own : ∀ b e x c, μ b e = some x → x.blk = some c → c < w.heap.size ∧ ¬ Z c
  inj : ∀ b b' e e' x x' c, μ b e = some x → μ b' e' = some x' → x.blk = some c → x'.blk = some c → b = b'
  glob : ∀ g cs, E.glob g = some cs → Z g ∧ VRdAt Z w g 0 cs ∧ SizedAt w g cs.length

/-- What a piece of a run leaves alone; the first m names go on. -/
structure Frame (m : Nat) (Z : Nat → Prop) (μ : Mu) (w : World) (Z' : Nat → Prop) (μ' : Mu) (w' : World) : Prop where
  os : w'.os = w.os
  tape : w'.tape = w.tape
  output : w'.output = w.output
  size : w.heap.size ≤ w'.heap.size
  keep : ∀ c, c < w.heap.size → (∀ b e x, μ b e = some x → x.blk ≠ some c) → w'.heap[c]? = w.heap[c]?
  z : ∀ c, Z c → Z' c
  zz : ∀ c, Z' c → Z c ∨ w.heap.size ≤ c
  ow : ∀ b e x c, μ' b e = some x → x.blk = some c → (∃ b0 e0 x0, μ b0 e0 = some x0 ∧ x0.blk = some c) ∨ w.heap.size ≤ c
  ext : ∀ b, b < m → ∀ e x, μ b e = some x → μ' b e = some x
  sz : ∀ (c : Nat) C el fr, w.heap[c]? = some (.cells C el fr) → ∃ C', w'.heap[c]? = some (.cells C' el fr) ∧ C'.size = C.size
  un : ∀ b, b < m → (∀ e, μ b e = none) → ∀ e, μ' b e = none

theorem Frame.refl (m : Nat) (Z : Nat → Prop) (μ : Mu) (w : World) : Frame m Z μ w Z μ w :=
  ⟨rfl, rfl, rfl, Nat.le_refl _, fun _ _ _ => rfl, fun _ h => h, fun _ h => .inl h, fun b e x _ h1 h2 => .inl ⟨b, e, x, h1, h2⟩, fun _ _ _ _ h => h, fun _ C _ _ h => ⟨C, h, rfl⟩, fun _ _ h => h⟩
theorem Frame.trans {m : Nat} {Z0 Z1 Z2 : Nat → Prop} {μ0 μ1 μ2 : Mu} {w0 w1 w2 : World} (h : Frame m Z0 μ0 w0 Z1 μ1 w1) (k : Frame m Z1 μ1 w1 Z2 μ2 w2) : Frame m Z0 μ0 w0 Z2 μ2 w2 where
  os := k.os.trans h.os
  tape := k.tape.trans h.tape
  output := k.output.trans h.output
  size := Nat.le_trans h.size k.size
  keep := fun c hc hn => by
    rw [← h.keep c hc hn]
    refine k.keep c (Nat.lt_of_lt_of_le hc h.size) fun b e x hx hb => ?_
    rcases h.ow b e x c hx hb with ⟨b0, e0, x0, h1, h2⟩ | h1
    · exact hn b0 e0 x0 h1 h2
    · omega
  z := fun c hc => k.z c (h.z c hc)
  zz := fun c hc => by
    rcases k.zz c hc with h1 | h1
    · exact h.zz c h1
    · exact .inr (Nat.le_trans h.size h1)
  ow := fun b e x c hx hb => by
    rcases k.ow b e x c hx hb with ⟨b0, e0, x0, h1, h2⟩ | h1
    · exact h.ow b0 e0 x0 c h1 h2
    · exact .inr (Nat.le_trans h.size h1)
  ext := fun b hb e x hx => k.ext b hb e x (h.ext b hb e x hx)
  sz := fun c C el fr hc => by
    obtain ⟨C1, h1, h2⟩ := h.sz c C el fr hc
    obtain ⟨C2, h3, h4⟩ := k.sz c C1 el fr h1
    exact ⟨C2, h3, by omega⟩
  un := fun b hb hn => k.un b hb (h.un b hb hn)
theorem Frame.fewer {m m' : Nat} (hm : m' ≤ m) {Z0 Z1 : Nat → Prop} {μ0 μ1 : Mu} {w0 w1 : World} (h : Frame m Z0 μ0 w0 Z1 μ1 w1) : Frame m' Z0 μ0 w0 Z1 μ1 w1 :=
  { h with ext := fun b hb => h.ext b (Nat.lt_of_lt_of_le hb hm), un := fun b hb => h.un b (Nat.lt_of_lt_of_le hb hm) }
/-- The unchanging memory is unchanged. -/
theorem Frame.zw {m : Nat} {E : Env} {h : List O} {Z0 Z1 : Nat → Prop} {μ0 μ1 : Mu} {w0 w1 : World} (F : Frame m Z0 μ0 w0 Z1 μ1 w1) (S : SR E Z0 μ0 h w0) (c : Nat) (hc : Z0 c) : w1.heap[c]? = w0.heap[c]? :=
  F.keep c (S.zlt c hc) fun b e x hx hb => (S.own b e x c hx hb).2 hc
theorem Frame.toExt {m : Nat} {E : Env} {h : List O} {Z0 Z1 : Nat → Prop} {μ0 μ1 : Mu} {w0 w1 : World} (F : Frame m Z0 μ0 w0 Z1 μ1 w1) (S : SR E Z0 μ0 h w0) (hm : h.length ≤ m) : Ext Z0 μ0 w0 Z1 μ1 w1 :=
  ⟨F.z, F.zw S, fun b e x hx => F.ext b (Nat.lt_of_lt_of_le (S.dom b e x hx) hm) e x hx, F.sz⟩
end Go.Ab
