/-
  From the abstract machine to a law's row: a law that returns true and leaves its arguments alone.
-/
import Derived.Test.YtldpapiaonchaaaGreatDoorZzOpen
import Derived.WalkKit
import Derived.ProofKit
import Derived.OpenShut
import Derived.Below
import Derived.ChangeSame
import Derived.WideKeyArgs
import Derived.Carry
import Derived.Deep.DeepHandedRow
import Derived.Lib.LaidTab
import Derived.Stop.LaidErr
import Derived.MakeChecks
import Derived.Lay
import Derived.Stop.Joined
section
namespace Go.Ab
open Go Go.RowKit Go.WideShapes Go.ChangeShapes

/-- An argument as it stands on the machine. -/
def ArgFits (P : Program) (k t : Nat) (x : D) : Prop := match P.underlying t with
  | some (.struct _) => ∃ xs, x = .agg xs ∧ Fits P k t xs
  | some (.array _ _) => False
  | _ => Fits P k t [x]
def ArgsFit (P : Program) (k : Nat) : List Nat → List D → Prop
  | [], xs => xs = []
  | t :: ts, l => ∃ x xs, l = x :: xs ∧ ArgFits P k t x ∧ ArgsFit P k ts xs
section
variable {P : Program} {E : Env} {H : Type} {enc : TypeId × Value → H} {W W' : World}
theorem arg_fits {k t : Nat} {v : Value} {d : DataW H} {ps : List MemPlace} {base : Nat} (hok : okTy P k t = true) (hval : Value.okWide P W .any base t v) (h : DataW.Trod enc P W 0 (fun _ => true) true t v d ps) :
    ∃ x, VRd (ZAll W) W x v ∧ ArgFits P k t x := by
  obtain ⟨fuel, hf⟩ := h
  obtain ⟨xs, h1, h2, h3, h4⟩ := trod_fits k fuel t _ d ps hok hf
  unfold ArgFits
  have one : (∀ cs, v ≠ .agg cs) → ∃ x, xs = [x] ∧ VRd (ZAll W) W x v := fun hne => by
    have e : v.cells = #[v] := by cases v <;> first | rfl | exact absurd rfl (hne _)
    rw [e] at h1
    cases xs with
    | nil => simp [VRdL] at h1
    | cons x xs =>
      obtain ⟨u, us, e2, k1, k2⟩ := h1
      simp at e2
      obtain ⟨rfl, rfl⟩ := e2
      cases xs with
      | nil => exact ⟨x, rfl, k1⟩
      | cons y ys => obtain ⟨_, _, e3, _⟩ := k2; cases e3
  cases hu : P.underlying t with
  | none => cases k <;> simp [okTy, hu] at hok
  | some u =>
    simp only [Value.okWide, hu] at hval
    cases u with
    | struct fs =>
      obtain ⟨cs, rfl, _, _⟩ := hval
      exact ⟨.agg xs, ⟨cs, rfl, h1, h2⟩, xs, rfl, h3⟩
    | array n e => cases k <;> simp [okTy, hu] at hok
    | bool => obtain ⟨x, rfl, hx⟩ := one (fun cs e => by subst e; simp [Cell.okWide, Cell.ok, hu] at hval); exact ⟨x, hx, h3⟩
    | int q => obtain ⟨x, rfl, hx⟩ := one (fun cs e => by subst e; simp [Cell.okWide, Cell.ok, hu] at hval); exact ⟨x, hx, h3⟩
    | string => obtain ⟨x, rfl, hx⟩ := one (fun cs e => by subst e; simp [Cell.okWide, Cell.ok, hu] at hval); exact ⟨x, hx, h3⟩
    | slice e => obtain ⟨x, rfl, hx⟩ := one (fun cs e => by subst e; simp [Cell.okWide, Cell.ok, hu] at hval); exact ⟨x, hx, h3⟩
    | _ => cases k <;> simp [okTy, hu] at hok
theorem args_fit {k : Nat} {base : Nat} : ∀ {ts : List Nat} {vs : List Value} {ds : List (DataW H)} {ps : List MemPlace}, (∀ t ∈ ts, okTy P k t = true) → (∀ (j : Nat) t v, ts[j]? = some t → vs[j]? = some v → Value.okWide P W .any base t v) →
    DataW.TrodAll enc P W 0 (fun _ => true) true ts vs ds ps → ∃ xs, VRdL (ZAll W) W xs vs ∧ ArgsFit P k ts xs
  | [], [], [], _, _, _, _ => ⟨[], rfl, rfl⟩
  | [], _ :: _, _, _, _, _, h => by simp [DataW.TrodAll] at h
  | [], [], _ :: _, _, _, _, h => by simp [DataW.TrodAll] at h
  | _ :: _, [], _, _, _, _, h => by simp [DataW.TrodAll] at h
  | _ :: _, _ :: _, [], _, _, _, h => by simp [DataW.TrodAll] at h
  | t :: ts, v :: vs, d :: ds, ps, hok, hval, h => by
    obtain ⟨p, q, h1, h2, _⟩ := h
    obtain ⟨x, k1, k2⟩ := arg_fits (hok t (List.mem_cons_self ..)) (hval 0 t v rfl rfl) h1
    obtain ⟨xs, k3, k4⟩ := args_fit (fun t ht => hok t (List.mem_cons_of_mem _ ht)) (fun j t v h1 h2 => hval (j + 1) t v (by simpa using h1) (by simpa using h2)) h2
    exact ⟨x :: xs, ⟨v, vs, rfl, k1, k3⟩, x, xs, rfl, k2, k4⟩
theorem calls_of {f : Nat} {xs : List D} {args : Array Value} (h : Sm P E f (xs.map .d) [] fun v g => v = .d (.bool true) ∧ g = []) (hx : VRdL (ZAll W) W xs args.toList)
    (hg : ∀ g cs, E.glob g = some cs → ZAll W g ∧ VRdAt (ZAll W) W g 0 cs ∧ SizedAt W g cs.length) : Calls P f args W fun e W' => e = .returned (.bool true) ∧ Below W.heap.size W W' := by
  obtain ⟨⟨_, h⟩⟩ := h
  have S0 : SR E (ZAll W) (fun _ _ => none) [] W := ⟨fun _ hc => hc, fun b hb => absurd hb (Nat.not_lt_zero _), fun _ _ _ hx => (by cases hx), fun _ _ _ _ hx _ => (by cases hx), fun _ _ _ _ _ _ _ hx _ _ _ => (by cases hx), hg⟩
  refine callsIn_wide.1 (CallsIn.mono (h (ZAll W) (fun _ _ => none) W args S0 hx.toV) ?_)
  intro e w' he
  cases e with
  | panicked _ => exact he.elim
  | outgrown => exact he.elim
  | returned cv =>
    obtain ⟨v, h', Z', μ', ⟨rfl, rfl⟩, _, hv, F⟩ := he
    have hv : cv = .bool true := hv
    subst hv
    exact ⟨rfl, F.os, F.tape, F.output, F.size, fun c hc => F.keep c hc fun _ _ _ hx => by cases hx⟩
/-- Arguments read as before. -/
theorem args_stay (hl : laidOutB P = true) (hb : Below W.heap.size W W') {sp : Nat → Bool} : ∀ {ts : List Nat} {vs : List Value} {ds : List (DataW H)} {ps : List MemPlace}, (∀ t ∈ ts, P.readableRec t = true ∧ t < P.types.size) →
    DataW.TrodAll enc P W 0 (fun _ => true) true ts vs ds ps → (∀ x ∈ ps, x.block < W.heap.size) → (∀ x ∈ ps, sp x.block = true) → DataW.TrodAll enc P W' 0 sp true ts vs ds ps
  | [], [], [], _, _, h, _, _ => h
  | [], _ :: _, _, _, _, h, _, _ => by simp [DataW.TrodAll] at h
  | [], [], _ :: _, _, _, h, _, _ => by simp [DataW.TrodAll] at h
  | _ :: _, [], _, _, _, h, _, _ => by simp [DataW.TrodAll] at h
  | _ :: _, _ :: _, [], _, _, h, _, _ => by simp [DataW.TrodAll] at h
  | t :: ts, v :: vs, d :: ds, ps, ht, h, hlt, hsp => by
    obtain ⟨p, q, h1, h2, rfl⟩ := h
    obtain ⟨r1, r2⟩ := ht t (List.mem_cons_self ..)
    exact ⟨p, q, WideElems.Trod_stays hl r1 r2 h1 (fun x hx => hb.same (hlt x (by simp [hx]))) (fun x hx => hsp x (by simp [hx])),
      args_stay hl hb (fun t ht' => ht t (List.mem_cons_of_mem _ ht')) h2 (fun x hx => hlt x (by simp [hx])) (fun x hx => hsp x (by simp [hx])), rfl⟩
theorem vars_none {ts : List Nat} {apart : Bool} {vs : List Value} {ds gs : List (DataW H)} {ps : List MemPlace} (hW : DataW.Whole enc P ts [] apart W vs ds gs ps) :
    gs = [] ∧ DataW.TrodAll enc P W 0 (fun _ => true) true ts vs ds ps := by
  obtain ⟨p, q, h1, h2, rfl, _, _⟩ := hW
  cases gs with
  | nil =>
    simp only [DataW.TrodVars] at h2
    subst h2
    exact ⟨rfl, by simpa using h1⟩
  | cons g gs => simp [DataW.TrodVars] at h2
/-- Behind a call that returns true and leaves all that was there alone, a law's post holds. -/
theorem post_true {fn : Func} {s : ChangeSpec} {apart fresh handsOn again : Bool} {args : Array Value} {ds gs : List (DataW H)} {before : List MemPlace} {tb : Nat}
    (hs : s.vars = []) (hW : DataW.Whole enc P fn.params.toList s.vars apart W args.toList ds gs before) (hfn : s.fn H ds = { results := [.lit (.bool true)], args := ds })
    (hrt : fn.resultTypes = #[tb]) (htb : P.underlying tb = some .bool) (hl : laidOutB P = true) (ht : ∀ t ∈ fn.params.toList, P.readableRec t = true ∧ t < P.types.size) (hb : Below W.heap.size W W') :
    s.post enc P fn apart fresh handsOn again W args (.bool true) W' := by
  have hW' := hW
  rw [hs] at hW'
  obtain ⟨rfl, hA⟩ := vars_none hW'
  have hlt : ∀ p ∈ before, p.block < W.heap.size := fun p hp => hW.lt p hp
  have hold : ∀ p ∈ before, (fun b => decide (b < W.heap.size)) p.block = true := fun p hp => by simpa using hlt p hp
  have hs' : s.fn H (ds ++ []) = { results := [.lit (.bool true)], args := ds } := by rw [List.append_nil]; exact hfn
  have hres : ∀ (b : Nat) (sp : Nat → Bool) (hd : Bool), DataW.TrodAll enc P W' b sp hd fn.resultTypes.toList ((Value.bool true).resultList fn.resultTypes.size) (s.fn H (ds ++ [])).results [] := fun b sp hd => by
    rw [hs', hrt]
    exact trodAll_cons_mk (shut_bool htb _) trodAll_mk0
  have hargs : ∀ sp : Nat → Bool, (∀ p ∈ before, sp p.block = true) → DataW.TrodAll enc P W' 0 sp true fn.params.toList args.toList (s.fn H (ds ++ [])).args before := fun sp hsp => by
    rw [hs']
    exact args_stay hl hb ht hA hlt hsp
  have hvars : ∀ sp : Nat → Bool, DataW.TrodVars enc P W' sp s.vars (s.fn H (ds ++ [])).vars [] := fun sp => by rw [hs', hs]; rfl
  refine ⟨ds, [], before, [], before, [], hW, hres _ _ _, hargs _ hold, hvars _, World.keptBut_mono (fun p hp => ⟨hp, .inr (by simpa using hp)⟩) (hb.frame (· ∈ before)), fun _ => ?_⟩
  obtain ⟨_, _, _, _, _, hz, hn⟩ := hW
  refine ⟨?_, _, _, ([] ++ before) ++ [], ⟨[] ++ before, [], trodAll_append (hargs _ (fun _ _ => rfl)) (hres _ _ _), hvars _, rfl, ?_, ?_⟩, ?_⟩
  · intro j t r h1 h2
    rw [hrt] at h1 h2
    have : j = 0 := by
      have := (Array.getElem?_eq_some_iff.1 h1).1
      simp at this; exact this
    subst this
    simp at h1
    subst h1
    have h2 : some (Value.bool true) = some r := h2
    cases h2
    exact okWide_bool_mk htb _
  · intro b off hp
    have hin : MemPlace.cell b off ∈ before := by simpa using hp
    rw [hb.frozen (hlt _ hin)]
    exact hz b off hin
  · intro ha
    simpa using hn ha
  · intro p hp _
    simpa using hp
end
end Go.Ab
end
section
/-
  Arguments by their shape: numbers, lists of numbers, structs.
-/
namespace Go.Ab
open Go
def shapeOf (P : Program) (t : Nat) : List (Nat × Nat) := match P.underlying t with
  | some (.struct fs) => fs.toList.map fun f => (f.type, f.offset)
  | _ => []
section
variable {P : Program}
theorem fits_int {k t : Nat} {q : IntKind} {xs : List D} (hu : P.underlying t = some (.int q)) (h : Fits P k t xs) : ∃ n, xs = [.int q n] ∧ (Lit.int q n).wf = true := by
  cases k with
  | zero => exact h.elim
  | succ k => simpa [Fits, hu] using h
theorem fits_bool {k t : Nat} {xs : List D} (hu : P.underlying t = some .bool) (h : Fits P k t xs) : ∃ b, xs = [.bool b] := by
  cases k with
  | zero => exact h.elim
  | succ k => simpa [Fits, hu] using h
theorem fits_str {k t : Nat} {xs : List D} (hu : P.underlying t = some .string) (h : Fits P k t xs) : ∃ s, xs = [.str s] ∧ s.length ≤ maxLen := by
  cases k with
  | zero => exact h.elim
  | succ k => simpa [Fits, hu] using h
theorem all_enc {α : Type} {enc : α → List D} {p : α → Prop} : ∀ {G : List (List D)}, (∀ g ∈ G, ∃ a, g = enc a ∧ p a) → ∃ l : List α, G = l.map enc ∧ ∀ a ∈ l, p a
  | [], _ => ⟨[], rfl, by simp⟩
  | g :: G, h => by
    obtain ⟨a, ha, hp⟩ := h g (List.mem_cons_self ..)
    obtain ⟨l, hl, hq⟩ := all_enc (G := G) fun x hx => h x (List.mem_cons_of_mem _ hx)
    exact ⟨a :: l, by rw [ha, hl]; rfl, by simpa using ⟨hp, hq⟩⟩
theorem fits_slice {α : Type} {enc : α → List D} {p : α → Prop} {k t e c : Nat} {xs : List D} (hu : P.underlying t = some (.slice e)) (hc : P.cellsOf e = c) (he : ∀ g, g.length = c → Fits P (k - 1) e g → ∃ a, g = enc a ∧ p a) (h : Fits P k t xs) :
    ∃ l : List α, xs = [.slice l.length c (l.flatMap enc)] ∧ l.length ≤ maxLen ∧ ∀ a ∈ l, p a := by
  cases k with
  | zero => exact h.elim
  | succ k =>
    simp only [Fits, hu] at h
    obtain ⟨G, h1, h2, h3⟩ := h
    obtain ⟨l, hl, hp⟩ := all_enc (enc := enc) (p := p) (G := G) fun g hg => he g (by rw [(h3 g hg).1, hc]) (h3 g hg).2
    subst hl
    refine ⟨l, by rw [h1, hc, List.length_map, List.flatMap_def], by simpa using h2, hp⟩
theorem fits_struct {k t : Nat} {l : List (Nat × Nat)} {xs : List D} (hs : shapeOf P t = l) (hne : l ≠ []) (h : Fits P k t xs) :
    xs.length = P.cellsOf t ∧ ∀ f ∈ l, Fits P (k - 1) f.1 ((xs.drop f.2).take (P.cellsOf f.1)) := by
  cases k with
  | zero => exact h.elim
  | succ k =>
    unfold shapeOf at hs
    unfold Fits at h
    split at hs
    · rename_i fs hfs
      simp only [hfs] at h
      refine ⟨h.1, fun f hf => ?_⟩
      rw [← hs] at hf
      obtain ⟨g, hg, rfl⟩ := List.mem_map.1 hf
      exact h.2 g hg
    · exact absurd hs.symm hne
theorem flat_int (q : IntKind) (l : List Int) : (l.flatMap fun n => [D.int q n]) = l.map (D.int q) := by
  induction l with
  | nil => rfl
  | cons a l ih => simp only [List.flatMap_cons, ih, List.map_cons, List.singleton_append]
theorem fits_ints {k t e : Nat} {q : IntKind} {xs : List D} (hu : P.underlying t = some (.slice e)) (hc : P.cellsOf e = 1) (he : P.underlying e = some (.int q)) (h : Fits P k t xs) :
    ∃ l : List Int, xs = [.slice l.length 1 (l.map (D.int q))] ∧ l.length ≤ maxLen ∧ ∀ n ∈ l, (Lit.int q n).wf = true := by
  obtain ⟨l, h1, h2, h3⟩ := fits_slice (enc := fun n => [D.int q n]) (p := fun n => (Lit.int q n).wf = true) hu hc (fun g _ hg => fits_int he hg) h
  exact ⟨l, by rw [h1, flat_int], h2, h3⟩
theorem argFits_plain {k t : Nat} {x : D} (h : ArgFits P k t x) (hu : ∀ fs, P.underlying t ≠ some (.struct fs)) (hv : ∀ n e, P.underlying t ≠ some (.array n e)) : Fits P k t [x] := by
  unfold ArgFits at h
  split at h
  · exact absurd ‹_› (hu _)
  · exact h.elim
  · exact h
theorem argFits_struct {k t : Nat} {x : D} (h : ArgFits P k t x) (hs : shapeOf P t ≠ []) : ∃ xs, x = .agg xs ∧ Fits P k t xs := by
  unfold ArgFits at h
  unfold shapeOf at hs
  split at h
  · exact h
  · exact h.elim
  · split at hs
    · rename_i h0 _ _ fs hfs; exact absurd hfs (h0 _)
    · exact absurd rfl hs
/-- A table of the library's, as it is on the machine. -/
theorem tab_at {W : World} {name : String} {kd : IntKind} {zs : List Int} {g : Nat} (hg : P.globalNamed name = some g) (h : Lib.TabIs P W name kd zs) :
    ZAll W g ∧ VRdAt (ZAll W) W g 0 (zs.map (D.int kd)) ∧ SizedAt W g (zs.map (D.int kd)).length := by
  have h' := h
  unfold Lib.TabIs World.var? at h'
  rw [hg] at h'
  simp only [Option.bind_some] at h'
  split at h'
  · rename_i cs el fr hh
    cases h'
    refine ⟨(Array.getElem?_eq_some_iff.1 hh).1, VRdAt.of_list (cs := zs.map (Value.int kd)) ?_ ?_ ?_, ⟨_, _, _, hh, by simp⟩⟩
    · clear hh h
      induction zs with
      | nil => rfl
      | cons z zs ih => exact ⟨_, _, rfl, rfl, ih⟩
    · intro u hu
      obtain ⟨z, _, rfl⟩ := List.mem_map.1 hu
      rfl
    · intro i v hv
      have := World.var?_cell hg h i
      rw [Nat.zero_add]
      rw [this]
      simpa using hv
  · cases h'
end
end Go.Ab
namespace Go.Ab
open Go
theorem witness_zip {H : Type} {enc : TypeId × Value → H} {C : Checked} {os : Os} {f : FuncId} {fn : Func} {s : OpenSpec} {conds : List PathCond} {apart : Bool} {laid : List (String × DataW Unit)} (w0 : World) (args : Array Value) (hos : w0.os = os)
    (hv : (w0.forCall (fun _ _ => 0) ⟨#[], args, []⟩).variablesZipB C.prog = true)
    (hr : ((w0.forCall (fun _ _ => 0) ⟨#[], args, []⟩).heap.toList.drop C.prog.globals.size).take ((begin C.prog (fun _ _ => 0) default).world.heap.size - C.prog.globals.size) =
      (begin C.prog (fun _ _ => 0) default).world.heap.toList.drop C.prog.globals.size)
    (hok : Input.okWideB C.prog (w0.forCall (fun _ _ => 0) ⟨#[], args, []⟩) f ⟨#[], args, []⟩ = true)
    (hrow : s.preRow enc C.prog fn conds apart laid (w0.forCall (fun _ _ => 0) ⟨#[], args, []⟩).memory args) :
    ∃ (w : World) (tape : Tape) (i : Input), w.os = os ∧ (w.forCall tape i).Shaped C.prog ∧ i.vars = [] ∧ Input.okWide C.prog (w.forCall tape i) .any w.heap.size f i ∧
      s.preRow enc C.prog fn conds apart laid (w.forCall tape i).memory i.args ∧ ({} : Assume).holds C.prog (lone (Frame.enter C.prog f i.args .normal) [] (w.forCall tape i)) :=
  ⟨w0, fun _ _ => 0, ⟨#[], args, []⟩, hos, World.shaped_of_ZipB hv hr, (Input.okWide_of_okWideB (base := 0) hok).1, (Input.okWide_of_okWideB hok).2, hrow, by
    simp only [Assume.holds]
    exact ⟨by simp, by simp, by simp, by simp, by simp⟩⟩
end Go.Ab
end
