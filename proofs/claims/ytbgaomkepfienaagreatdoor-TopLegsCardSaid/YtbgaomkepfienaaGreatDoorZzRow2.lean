/-
  Arguments by their shape: numbers, lists of numbers, structs.
-/
import Derived.Test.YtbgaomkepfienaaGreatDoorZzRow
import Derived.Lib.LaidTab
import Derived.Stop.LaidErr
import Derived.MakeChecks
import Derived.Lay
import Derived.Stop.Joined
namespace Go.Ab
open Go
def shapeOf (P : Program) (t : Nat) : List (Nat × Nat) := match P.underlying t with
  | some (.struct fs) => fs.toList.map fun f => (f.type, f.offset)
  | _ => []
section
variable {P : Program}
theorem fits_int {k t : Nat} {q : IntKind} {xs : List D} (hu : P.underlying t = some (.int q)) (h : Fits P k t xs) : ∃ n, xs = [.int q n] ∧ (Lit.int q n).wf = true := by
  cases k with
  | zero => exact h.elim
  | succ k => simpa [Fits, hu] using h
theorem fits_bool {k t : Nat} {xs : List D} (hu : P.underlying t = some .bool) (h : Fits P k t xs) : ∃ b, xs = [.bool b] := by
  cases k with
  | zero => exact h.elim
  | succ k => simpa [Fits, hu] using h
theorem fits_str {k t : Nat} {xs : List D} (hu : P.underlying t = some .string) (h : Fits P k t xs) : ∃ s, xs = [.str s] ∧ s.length ≤ maxLen := by
  cases k with
  | zero => exact h.elim
  | succ k => simpa [Fits, hu] using h
theorem all_enc {α : Type} {enc : α → List D} {p : α → Prop} : ∀ {G : List (List D)}, (∀ g ∈ G, ∃ a, g = enc a ∧ p a) → ∃ l : List α, G = l.map enc ∧ ∀ a ∈ l, p a
  | [], _ => ⟨[], rfl, by simp⟩
  | g :: G, h => by
    obtain ⟨a, ha, hp⟩ := h g (List.mem_cons_self ..)
    obtain ⟨l, hl, hq⟩ := all_enc (G := G) fun x hx => h x (List.mem_cons_of_mem _ hx)
    exact ⟨a :: l, by rw [ha, hl]; rfl, by simpa using ⟨hp, hq⟩⟩
theorem fits_slice {α : Type} {enc : α → List D} {p : α → Prop} {k t e c : Nat} {xs : List D} (hu : P.underlying t = some (.slice e)) (hc : P.cellsOf e = c) (he : ∀ g, g.length = c → Fits P (k - 1) e g → ∃ a, g = enc a ∧ p a) (h : Fits P k t xs) :
    ∃ l : List α, xs = [.slice l.length c (l.flatMap enc)] ∧ l.length ≤ maxLen ∧ ∀ a ∈ l, p a := by
  cases k with
  | zero => exact h.elim
  | succ k =>
    simp only [Fits, hu] at h
    obtain ⟨G, h1, h2, h3⟩ := h
    obtain ⟨l, hl, hp⟩ := all_enc (enc := enc) (p := p) (G := G) fun g hg => he g (by rw [(h3 g hg).1, hc]) (h3 g hg).2
    subst hl
    refine ⟨l, by rw [h1, hc, List.length_map, List.flatMap_def], by simpa using h2, hp⟩
theorem fits_struct {k t : Nat} {l : List (Nat × Nat)} {xs : List D} (hs : shapeOf P t = l) (hne : l ≠ []) (h : Fits P k t xs) :
    xs.length = P.cellsOf t ∧ ∀ f ∈ l, Fits P (k - 1) f.1 ((xs.drop f.2).take (P.cellsOf f.1)) := by
  cases k with
  | zero => exact h.elim
  | succ k =>
    unfold shapeOf at hs
    unfold Fits at h
    split at hs
    · rename_i fs hfs
      simp only [hfs] at h
      refine ⟨h.1, fun f hf => ?_⟩
      rw [← hs] at hf
      obtain ⟨g, hg, rfl⟩ := List.mem_map.1 hf
      exact h.2 g hg
    · exact absurd hs.symm hne
theorem flat_int (q : IntKind) (l : List Int) : (l.flatMap fun n => [D.int q n]) = l.map (D.int q) := by
  induction l with
  | nil => rfl
  | cons a l ih => simp only [List.flatMap_cons, ih, List.map_cons, List.singleton_append]
theorem fits_ints {k t e : Nat} {q : IntKind} {xs : List D} (hu : P.underlying t = some (.slice e)) (hc : P.cellsOf e = 1) (he : P.underlying e = some (.int q)) (h : Fits P k t xs) :
    ∃ l : List Int, xs = [.slice l.length 1 (l.map (D.int q))] ∧ l.length ≤ maxLen ∧ ∀ n ∈ l, (Lit.int q n).wf = true := by
  obtain ⟨l, h1, h2, h3⟩ := fits_slice (enc := fun n => [D.int q n]) (p := fun n => (Lit.int q n).wf = true) hu hc (fun g _ hg => fits_int he hg) h
  exact ⟨l, by rw [h1, flat_int], h2, h3⟩
theorem argFits_plain {k t : Nat} {x : D} (h : ArgFits P k t x) (hu : ∀ fs, P.underlying t ≠ some (.struct fs)) (hv : ∀ n e, P.underlying t ≠ some (.array n e)) : Fits P k t [x] := by
  unfold ArgFits at h
  split at h
  · exact absurd ‹_› (hu _)
  · exact h.elim
  · exact h
theorem argFits_struct {k t : Nat} {x : D} (h : ArgFits P k t x) (hs : shapeOf P t ≠ []) : ∃ xs, x = .agg xs ∧ Fits P k t xs := by
  unfold ArgFits at h
  unfold shapeOf at hs
  split at h
  · exact h
  · exact h.elim
  · split at hs
    · rename_i h0 _ _ fs hfs; exact absurd hfs (h0 _)
    · exact absurd rfl hs
/-- A table of the library's, as it is on the machine. -/
theorem tab_at {W : World} {name : String} {kd : IntKind} {zs : List Int} {g : Nat} (hg : P.globalNamed name = some g) (h : Lib.TabIs P W name kd zs) :
    ZAll W g ∧ VRdAt (ZAll W) W g 0 (zs.map (D.int kd)) ∧ SizedAt W g (zs.map (D.int kd)).length := by
  have h' := h
  unfold Lib.TabIs World.var? at h'
  rw [hg] at h'
  simp only [Option.bind_some] at h'
  split at h'
  · rename_i cs el fr hh
    cases h'
    refine ⟨(Array.getElem?_eq_some_iff.1 hh).1, VRdAt.of_list (cs := zs.map (Value.int kd)) ?_ ?_ ?_, ⟨_, _, _, hh, by simp⟩⟩
    · clear hh h
      induction zs with
      | nil => rfl
      | cons z zs ih => exact ⟨_, _, rfl, rfl, ih⟩
    · intro u hu
      obtain ⟨z, _, rfl⟩ := List.mem_map.1 hu
      rfl
    · intro i v hv
      have := World.var?_cell hg h i
      rw [Nat.zero_add]
      rw [this]
      simpa using hv
  · cases h'
end
end Go.Ab
namespace Go.Ab
open Go
theorem witness_zip {H : Type} {enc : TypeId × Value → H} {C : Checked} {os : Os} {f : FuncId} {fn : Func} {s : OpenSpec} {conds : List PathCond} {apart : Bool} {laid : List (String × DataW Unit)} (w0 : World) (args : Array Value) (hos : w0.os = os)
    (hv : (w0.forCall (fun _ _ => 0) ⟨#[], args, []⟩).variablesZipB C.prog = true)
    (hr : ((w0.forCall (fun _ _ => 0) ⟨#[], args, []⟩).heap.toList.drop C.prog.globals.size).take ((begin C.prog (fun _ _ => 0) default).world.heap.size - C.prog.globals.size) =
      (begin C.prog (fun _ _ => 0) default).world.heap.toList.drop C.prog.globals.size)
    (hok : Input.okWideB C.prog (w0.forCall (fun _ _ => 0) ⟨#[], args, []⟩) f ⟨#[], args, []⟩ = true)
    (hrow : s.preRow enc C.prog fn conds apart laid (w0.forCall (fun _ _ => 0) ⟨#[], args, []⟩).memory args) :
    ∃ (w : World) (tape : Tape) (i : Input), w.os = os ∧ (w.forCall tape i).Shaped C.prog ∧ i.vars = [] ∧ Input.okWide C.prog (w.forCall tape i) .any w.heap.size f i ∧
      s.preRow enc C.prog fn conds apart laid (w.forCall tape i).memory i.args ∧ ({} : Assume).holds C.prog (lone (Frame.enter C.prog f i.args .normal) [] (w.forCall tape i)) :=
  ⟨w0, fun _ _ => 0, ⟨#[], args, []⟩, hos, World.shaped_of_ZipB hv hr, (Input.okWide_of_okWideB (base := 0) hok).1, (Input.okWide_of_okWideB hok).2, hrow, by
    simp only [Assume.holds]
    exact ⟨by simp, by simp, by simp, by simp, by simp⟩⟩
end Go.Ab
