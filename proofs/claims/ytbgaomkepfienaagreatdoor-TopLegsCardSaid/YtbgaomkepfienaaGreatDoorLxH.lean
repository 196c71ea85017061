/-
  TopLegs: the program's best order.
-/
import Derived.Test.YtbgaomkepfienaaGreatDoorLxF
import Derived.Test.YtbgaomkepfienaaGreatDoorLwP
section
namespace Go.Proofs.Lx
open Go Go.Ab Go.Proofs.Lw
set_option maxRecDepth 100000
set_option maxHeartbeats 40000000
theorem grow39n {r : Ru} {s : Sq} (O : OkS r s) (st : Option (List Nat × Int)) :
    Sm Tryz.prog E 39 [.d .nil, .ptr 0 0 0 8, .ptr 1 0 0 1, .ptr 2 0 0 1, .ptr 3 0 0 1, .ptr 4 0 0 1] (HG r s 0 st)
      (fun v h => v = .d (.tuple []) ∧ h = HG r s 0 ((enum s.sc.length (mayB s.sc r.pc) r.pc.length []).foldl (keep (tk s.sc r.pc s.T r.e.toNat)) st)) := by
  have hL := O.ru.pcl
  have hS := O.scl
  obtain ⟨rem, hrem⟩ : ∃ n, r.pc.length = n + 1 := ⟨r.pc.length - 1, by omega⟩
  have hen : (enum s.sc.length (mayB s.sc r.pc) r.pc.length []).foldl (keep (tk s.sc r.pc s.T r.e.toNat)) st = gst r s rem [] st s.sc.length := by
    rw [hrem]; rfl
  rw [hen]
  refine sm_of HE true (by kernel_rfl) ?_
  unfold HG chL
  conv => whnf
  rw [eqI_ff (a := 0) (b := (r.pc.length : Int)) (by omega)]
  conv => whnf
  refine loops_by (fun i : Nat => ⟨61, [(0, .d .nil), (1, .ptr 0 0 0 8), (4, .ptr 3 0 0 1), (5, .ptr 4 0 0 1), (39, .d (.int .i64 s.sc.length)), (40, .d (.int .i64 i))], .unk, HG r s 0 (gst r s rem [] st i), []⟩)
    (fun i => i ≤ s.sc.length) (fun i => s.sc.length - i) 0 (Nat.zero_le _) ?_
  rintro f i hi ih
  conv => whnf
  cases h2 : ltI (i : Int) (s.sc.length : Int)
  · have h2 := ltI_f h2
    have hiS : i = s.sc.length := by omega
    subst hiS
    conv => whnf
    exact ⟨rfl, rfl⟩
  have h2 := ltI_t h2
  have hm := may23 O (i := i) (k := 0) (by omega) (by omega)
  conv => whnf
  rw [eqI_ff (a := (i : Int)) (b := -1) (by omega)]
  conv => whnf
  refine Rets.use hm ?_
  have k := ih (i + 1) (by omega) (by omega)
  cases h3 : mayB s.sc r.pc i 0
  · have hg := gst_no (s := s) (rem := rem) (p := []) (st := st) h3
    rw [hg] at k
    conv => whnf
    rw [wrap_succ (by omega)]
    exact k
  have hg := gst_yes (rem := rem) (p := []) (st := st) h3
  rw [hg] at k
  conv => whnf
  refine Rets.use clone41n ?_
  conv => whnf
  have hIH := grow39 O rem ([] ++ [i]) 0 0 (gst r s rem [] st i) (by omega) (by simp; omega) (by simp) (fun x hx => by
    simp only [List.nil_append, List.mem_singleton] at hx; omega)
  refine Sm.mono hIH ?_
  rintro v h ⟨rfl, rfl⟩
  conv => whnf
  rw [wrap_succ (by omega)]
  exact k
theorem best21 {r : Ru} {s : Sq} (O : OkS r s) : Rets Tryz.prog E 21 [.d (chD r s), .d (.int .i64 (-1))] (.d (.tuple [bestD (bst s.sc r.pc s.T r.e.toNat), leastD (bst s.sc r.pc s.T r.e.toNat)])) := by
  have hg : Sm Tryz.prog E 39 [.d .nil, .ptr 0 0 0 8, .ptr 1 0 0 1, .ptr 2 0 0 1, .ptr 3 0 0 1, .ptr 4 0 0 1] (HG r s 0 none) (fun v h => v = .d (.tuple []) ∧ h = HG r s 0 (bst s.sc r.pc s.T r.e.toNat)) := grow39n O none
  generalize bst s.sc r.pc s.T r.e.toNat = st at hg ⊢
  refine sm_of HE true (by kernel_rfl) ?_
  unfold chD chL
  conv => whnf
  refine Sm.mono hg ?_
  rintro v h ⟨rfl, rfl⟩
  rcases st with _ | ⟨⟨_ | ⟨a, l⟩, n⟩⟩
  all_goals
    conv => whnf
    exact ⟨rfl, rfl⟩
/-- What the program says of the best order. -/
def BestP (r : Ru) (s : Sq) (v : V) : Prop :=
  (bst s.sc r.pc s.T r.e.toNat = none ∧ v = .d (.tuple [.nil, .int .i64 0, .int .i64 6])) ∨
  (∃ b n, bst s.sc r.pc s.T r.e.toNat = some (b, n) ∧ v = .d (.tuple [sl (nL b), .int .i64 n, .int .i64 0]))
theorem Best9 {r : Ru} {s : Sq} (O : OkS r s) : Sm Tryz.prog E 9 [.d (ruD r), .d (sqD s)] [] (fun v h => BestP r s v ∧ h = []) := by
  have hL := O.ru.pcl
  refine sm_of HE true (by kernel_rfl) ?_
  unfold ruD ruL sqD sqL
  conv => whnf
  refine Rets.use (CheckSquad20 r s O) ?_
  conv => whnf
  refine Rets.use (best21 O) ?_
  cases hb : bst s.sc r.pc s.T r.e.toNat with
  | none =>
    conv => whnf
    exact ⟨.inl ⟨hb, rfl⟩, rfl⟩
  | some x =>
    obtain ⟨b, n⟩ := x
    cases b with
    | nil =>
      have := (bst_some hb).1.1
      simp only [List.length_nil] at this
      omega
    | cons a l =>
      conv => whnf
      exact ⟨.inr ⟨a :: l, n, hb, rfl⟩, rfl⟩
end Go.Proofs.Lx
end
section
/-
  TopLegs: the program's prices: what is lowered.
-/
namespace Go.Proofs.Lx
open Go Go.Ab Go.Proofs.Lw
set_option maxRecDepth 100000
set_option maxHeartbeats 40000000
theorem may_made {off k n : Nat} (h : off + k ≤ n) : may 0 off k 0 0 [(0, n)] = true := by
  unfold may
  rw [ble_t (Nat.le_refl 0), ble_t h]
  exact may_all 0 _ _
theorem lowS (l : List Int) (i N : Nat) (a x : Int) (ch : Bool) (hi : l[i]? = some a) (hN : l.length = N) :
    Sm Tryz.prog E 22 [.ptr 0 0 (0 + i * 1) (0 + i * 1 + 1), .d (.int .i64 x), .ptr 1 0 0 1] [.row (.ds (encI l)) 0 0 [(0, N * 1)], .row (.ds [.bool ch]) 0 0 []]
      (fun v h => v = .d (.tuple []) ∧ ∃ l' ch', h = [.row (.ds (encI l')) 0 0 [(0, N * 1)], .row (.ds [.bool ch']) 0 0 []] ∧ LowS l i a x ch l' ch') := by
  have hil := lt_of_at hi
  refine sm_of HE true (by kernel_rfl) ?_
  conv => whnf
  rw [ble_t (i := 0 + i * 1 + 1) (Nat.le_refl _)]
  conv => whnf
  rw [may_made (by omega)]
  conv => whnf
  rw [encI_get0 hi]
  conv => whnf
  cases h1 : ltI x a
  · conv => whnf
    exact ⟨rfl, l, ch, rfl, .inr ⟨ltI_f h1, rfl, rfl⟩⟩
  · conv => whnf
    rw [ble_t (i := 0 + i * 1 + 1) (Nat.le_refl _)]
    conv => whnf
    rw [may_made (by omega)]
    conv => whnf
    rw [ble_t (i := 0 + i * 1 + [V.d (D.int .i64 x)].length) (by simp only [List.length_cons, List.length_nil, Cells.len, encI_length]; omega)]
    conv => whnf
    rw [write_int (i := i) (x := x) (by omega) (by omega)]
    conv => whnf
    exact ⟨rfl, l.set i x, true, rfl, .inl ⟨ltI_t h1, rfl, rfl⟩⟩
theorem lowF (a x : Int) (ch : Bool) :
    Sm Tryz.prog E 22 [.ptr 0 0 0 1, .d (.int .i64 x), .ptr 1 0 0 1] [.row (.ds [.int .i64 a]) 0 0 [], .row (.ds [.bool ch]) 0 0 []]
      (fun v h => v = .d (.tuple []) ∧ ∃ a' ch', h = [.row (.ds [.int .i64 a']) 0 0 [], .row (.ds [.bool ch']) 0 0 []] ∧ LowF a x ch a' ch') := by
  refine sm_of HE true (by kernel_rfl) ?_
  conv => whnf
  cases h1 : ltI x a
  · conv => whnf
    exact ⟨rfl, a, ch, rfl, .inr ⟨ltI_f h1, rfl, rfl⟩⟩
  · conv => whnf
    exact ⟨rfl, x, true, rfl, .inl ⟨ltI_t h1, rfl, rfl⟩⟩
end Go.Proofs.Lx
end
