/-
  From the abstract machine to a law's row: a law that returns true and leaves its arguments alone.
-/
import Derived.Test.YtbgaomkepfienaaGreatDoorZzOpen
import Derived.WalkKit
import Derived.ProofKit
import Derived.OpenShut
import Derived.Below
import Derived.ChangeSame
import Derived.WideKeyArgs
import Derived.Carry
import Derived.Deep.DeepHandedRow
namespace Go.Ab
open Go Go.RowKit Go.WideShapes Go.ChangeShapes

/-- An argument as it stands on the machine. -/
def ArgFits (P : Program) (k t : Nat) (x : D) : Prop := match P.underlying t with
  | some (.struct _) => ∃ xs, x = .agg xs ∧ Fits P k t xs
  | some (.array _ _) => False
  | _ => Fits P k t [x]
def ArgsFit (P : Program) (k : Nat) : List Nat → List D → Prop
  | [], xs => xs = []
  | t :: ts, l => ∃ x xs, l = x :: xs ∧ ArgFits P k t x ∧ ArgsFit P k ts xs
section
variable {P : Program} {E : Env} {H : Type} {enc : TypeId × Value → H} {W W' : World}
theorem arg_fits {k t : Nat} {v : Value} {d : DataW H} {ps : List MemPlace} {base : Nat} (hok : okTy P k t = true) (hval : Value.okWide P W .any base t v) (h : DataW.Trod enc P W 0 (fun _ => true) true t v d ps) :
    ∃ x, VRd (ZAll W) W x v ∧ ArgFits P k t x := by
  obtain ⟨fuel, hf⟩ := h
  obtain ⟨xs, h1, h2, h3, h4⟩ := trod_fits k fuel t _ d ps hok hf
  unfold ArgFits
  have one : (∀ cs, v ≠ .agg cs) → ∃ x, xs = [x] ∧ VRd (ZAll W) W x v := fun hne => by
    have e : v.cells = #[v] := by cases v <;> first | rfl | exact absurd rfl (hne _)
    rw [e] at h1
    cases xs with
    | nil => simp [VRdL] at h1
    | cons x xs =>
      obtain ⟨u, us, e2, k1, k2⟩ := h1
      simp at e2
      obtain ⟨rfl, rfl⟩ := e2
      cases xs with
      | nil => exact ⟨x, rfl, k1⟩
      | cons y ys => obtain ⟨_, _, e3, _⟩ := k2; cases e3
  cases hu : P.underlying t with
  | none => cases k <;> simp [okTy, hu] at hok
  | some u =>
    simp only [Value.okWide, hu] at hval
    cases u with
    | struct fs =>
      obtain ⟨cs, rfl, _, _⟩ := hval
      exact ⟨.agg xs, ⟨cs, rfl, h1, h2⟩, xs, rfl, h3⟩
    | array n e => cases k <;> simp [okTy, hu] at hok
    | bool => obtain ⟨x, rfl, hx⟩ := one (fun cs e => by subst e; simp [Cell.okWide, Cell.ok, hu] at hval); exact ⟨x, hx, h3⟩
    | int q => obtain ⟨x, rfl, hx⟩ := one (fun cs e => by subst e; simp [Cell.okWide, Cell.ok, hu] at hval); exact ⟨x, hx, h3⟩
    | string => obtain ⟨x, rfl, hx⟩ := one (fun cs e => by subst e; simp [Cell.okWide, Cell.ok, hu] at hval); exact ⟨x, hx, h3⟩
    | slice e => obtain ⟨x, rfl, hx⟩ := one (fun cs e => by subst e; simp [Cell.okWide, Cell.ok, hu] at hval); exact ⟨x, hx, h3⟩
    | _ => cases k <;> simp [okTy, hu] at hok
theorem args_fit {k : Nat} {base : Nat} : ∀ {ts : List Nat} {vs : List Value} {ds : List (DataW H)} {ps : List MemPlace}, (∀ t ∈ ts, okTy P k t = true) → (∀ (j : Nat) t v, ts[j]? = some t → vs[j]? = some v → Value.okWide P W .any base t v) →
    DataW.TrodAll enc P W 0 (fun _ => true) true ts vs ds ps → ∃ xs, VRdL (ZAll W) W xs vs ∧ ArgsFit P k ts xs
  | [], [], [], _, _, _, _ => ⟨[], rfl, rfl⟩
  | [], _ :: _, _, _, _, _, h => by simp [DataW.TrodAll] at h
  | [], [], _ :: _, _, _, _, h => by simp [DataW.TrodAll] at h
  | _ :: _, [], _, _, _, _, h => by simp [DataW.TrodAll] at h
  | _ :: _, _ :: _, [], _, _, _, h => by simp [DataW.TrodAll] at h
  | t :: ts, v :: vs, d :: ds, ps, hok, hval, h => by
    obtain ⟨p, q, h1, h2, _⟩ := h
    obtain ⟨x, k1, k2⟩ := arg_fits (hok t (List.mem_cons_self ..)) (hval 0 t v rfl rfl) h1
    obtain ⟨xs, k3, k4⟩ := args_fit (fun t ht => hok t (List.mem_cons_of_mem _ ht)) (fun j t v h1 h2 => hval (j + 1) t v (by simpa using h1) (by simpa using h2)) h2
    exact ⟨x :: xs, ⟨v, vs, rfl, k1, k3⟩, x, xs, rfl, k2, k4⟩
theorem calls_of {f : Nat} {xs : List D} {args : Array Value} (h : Sm P E f (xs.map .d) [] fun v g => v = .d (.bool true) ∧ g = []) (hx : VRdL (ZAll W) W xs args.toList)
    (hg : ∀ g cs, E.glob g = some cs → ZAll W g ∧ VRdAt (ZAll W) W g 0 cs ∧ SizedAt W g cs.length) : Calls P f args W fun e W' => e = .returned (.bool true) ∧ Below W.heap.size W W' := by
  obtain ⟨⟨_, h⟩⟩ := h
  have S0 : SR E (ZAll W) (fun _ _ => none) [] W := ⟨fun _ hc => hc, fun b hb => absurd hb (Nat.not_lt_zero _), fun _ _ _ hx => (by cases hx), fun _ _ _ _ hx _ => (by cases hx), fun _ _ _ _ _ _ _ hx _ _ _ => (by cases hx), hg⟩
  refine callsIn_wide.1 (CallsIn.mono (h (ZAll W) (fun _ _ => none) W args S0 hx.toV) ?_)
  intro e w' he
  cases e with
  | panicked _ => exact he.elim
  | outgrown => exact he.elim
  | returned cv =>
    obtain ⟨v, h', Z', μ', ⟨rfl, rfl⟩, _, hv, F⟩ := he
    have hv : cv = .bool true := hv
    subst hv
    exact ⟨rfl, F.os, F.tape, F.output, F.size, fun c hc => F.keep c hc fun _ _ _ hx => by cases hx⟩
/-- Arguments read as before. -/
theorem args_stay (hl : laidOutB P = true) (hb : Below W.heap.size W W') {sp : Nat → Bool} : ∀ {ts : List Nat} {vs : List Value} {ds : List (DataW H)} {ps : List MemPlace}, (∀ t ∈ ts, P.readableRec t = true ∧ t < P.types.size) →
    DataW.TrodAll enc P W 0 (fun _ => true) true ts vs ds ps → (∀ x ∈ ps, x.block < W.heap.size) → (∀ x ∈ ps, sp x.block = true) → DataW.TrodAll enc P W' 0 sp true ts vs ds ps
  | [], [], [], _, _, h, _, _ => h
  | [], _ :: _, _, _, _, h, _, _ => by simp [DataW.TrodAll] at h
  | [], [], _ :: _, _, _, h, _, _ => by simp [DataW.TrodAll] at h
  | _ :: _, [], _, _, _, h, _, _ => by simp [DataW.TrodAll] at h
  | _ :: _, _ :: _, [], _, _, h, _, _ => by simp [DataW.TrodAll] at h
  | t :: ts, v :: vs, d :: ds, ps, ht, h, hlt, hsp => by
    obtain ⟨p, q, h1, h2, rfl⟩ := h
    obtain ⟨r1, r2⟩ := ht t (List.mem_cons_self ..)
    exact ⟨p, q, WideElems.Trod_stays hl r1 r2 h1 (fun x hx => hb.same (hlt x (by simp [hx]))) (fun x hx => hsp x (by simp [hx])),
      args_stay hl hb (fun t ht' => ht t (List.mem_cons_of_mem _ ht')) h2 (fun x hx => hlt x (by simp [hx])) (fun x hx => hsp x (by simp [hx])), rfl⟩
theorem vars_none {ts : List Nat} {apart : Bool} {vs : List Value} {ds gs : List (DataW H)} {ps : List MemPlace} (hW : DataW.Whole enc P ts [] apart W vs ds gs ps) :
    gs = [] ∧ DataW.TrodAll enc P W 0 (fun _ => true) true ts vs ds ps := by
  obtain ⟨p, q, h1, h2, rfl, _, _⟩ := hW
  cases gs with
  | nil =>
    simp only [DataW.TrodVars] at h2
    subst h2
    exact ⟨rfl, by simpa using h1⟩
  | cons g gs => simp [DataW.TrodVars] at h2
/-- Behind a call that returns true and leaves all that was there alone, a law's post holds. -/
theorem post_true {fn : Func} {s : ChangeSpec} {apart fresh handsOn again : Bool} {args : Array Value} {ds gs : List (DataW H)} {before : List MemPlace} {tb : Nat}
    (hs : s.vars = []) (hW : DataW.Whole enc P fn.params.toList s.vars apart W args.toList ds gs before) (hfn : s.fn H ds = { results := [.lit (.bool true)], args := ds })
    (hrt : fn.resultTypes = #[tb]) (htb : P.underlying tb = some .bool) (hl : laidOutB P = true) (ht : ∀ t ∈ fn.params.toList, P.readableRec t = true ∧ t < P.types.size) (hb : Below W.heap.size W W') :
    s.post enc P fn apart fresh handsOn again W args (.bool true) W' := by
  have hW' := hW
  rw [hs] at hW'
  obtain ⟨rfl, hA⟩ := vars_none hW'
  have hlt : ∀ p ∈ before, p.block < W.heap.size := fun p hp => hW.lt p hp
  have hold : ∀ p ∈ before, (fun b => decide (b < W.heap.size)) p.block = true := fun p hp => by simpa using hlt p hp
  have hs' : s.fn H (ds ++ []) = { results := [.lit (.bool true)], args := ds } := by rw [List.append_nil]; exact hfn
  have hres : ∀ (b : Nat) (sp : Nat → Bool) (hd : Bool), DataW.TrodAll enc P W' b sp hd fn.resultTypes.toList ((Value.bool true).resultList fn.resultTypes.size) (s.fn H (ds ++ [])).results [] := fun b sp hd => by
    rw [hs', hrt]
    exact trodAll_cons_mk (shut_bool htb _) trodAll_mk0
  have hargs : ∀ sp : Nat → Bool, (∀ p ∈ before, sp p.block = true) → DataW.TrodAll enc P W' 0 sp true fn.params.toList args.toList (s.fn H (ds ++ [])).args before := fun sp hsp => by
    rw [hs']
    exact args_stay hl hb ht hA hlt hsp
  have hvars : ∀ sp : Nat → Bool, DataW.TrodVars enc P W' sp s.vars (s.fn H (ds ++ [])).vars [] := fun sp => by rw [hs', hs]; rfl
  refine ⟨ds, [], before, [], before, [], hW, hres _ _ _, hargs _ hold, hvars _, World.keptBut_mono (fun p hp => ⟨hp, .inr (by simpa using hp)⟩) (hb.frame (· ∈ before)), fun _ => ?_⟩
  obtain ⟨_, _, _, _, _, hz, hn⟩ := hW
  refine ⟨?_, _, _, ([] ++ before) ++ [], ⟨[] ++ before, [], trodAll_append (hargs _ (fun _ _ => rfl)) (hres _ _ _), hvars _, rfl, ?_, ?_⟩, ?_⟩
  · intro j t r h1 h2
    rw [hrt] at h1 h2
    have : j = 0 := by
      have := (Array.getElem?_eq_some_iff.1 h1).1
      simp at this; exact this
    subst this
    simp at h1
    subst h1
    have h2 : some (Value.bool true) = some r := h2
    cases h2
    exact okWide_bool_mk htb _
  · intro b off hp
    have hin : MemPlace.cell b off ∈ before := by simpa using hp
    rw [hb.frozen (hlt _ hin)]
    exact hz b off hin
  · intro ha
    simpa using hn ha
  · intro p hp _
    simpa using hp
end
end Go.Ab
