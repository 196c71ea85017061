/-
  TopLaid: the program's check of a bout; a bout is asked.
-/
import Derived.Test.YtldpapiaonchaaaGreatDoorDxH0
namespace Go.Proofs.Dx
open Go Go.Ab Go.Proofs.Dw
set_option maxRecDepth 100000
set_option maxHeartbeats 40000000
def hpF (f : Nat) : List O := [.row (.ds [.func f [] []]) 0 0 []]
theorem c57 (x : Int) (hx : 0 ≤ x ∧ x ≤ 8) : Rets Tryz.prog E 57 [.d (.int .i64 x)] (.d (.bool true)) := by
  refine sm_of HE true (by kernel_rfl) ?_
  conv => whnf
  refine Rets.use (within_ok x 0 8) ?_
  rw [inB_of hx.1 hx.2]
  conv => whnf
  exact ⟨rfl, rfl⟩
theorem c67_57 (x : Int) (hx : 0 ≤ x ∧ x ≤ 8) : Sm Tryz.prog E 67 [.d (.int .i64 x), .ptr 0 0 0 1] (hpF 57) (fun v h => v = .d (.bool false) ∧ h = hpF 57) := by
  refine sm_of HE true (by kernel_rfl) ?_
  unfold hpF
  conv => whnf
  refine Rets.use (c57 x hx) ?_
  conv => whnf
  exact ⟨rfl, rfl⟩
theorem idx57 (l : List Int) (hl : l.length < 4611686018427387904) (hc : ∀ r ∈ l, 0 ≤ r ∧ r ≤ 8) :
    Sm Tryz.prog E 92 [.d (.slice l.length 1 (encI l)), .func 67 [] [.ptr 0 0 0 1]] (hpF 57) (fun v h => v = .d (.int .i64 (-1)) ∧ h = hpF 57) := by
  refine sm_of HE true (by kernel_rfl) ?_
  conv => whnf
  refine loops_by (fun i : Nat => ⟨19, [(0, .d (.slice l.length 1 (encI l))), (1, .func 67 [] [.ptr 0 0 0 1]), (4, .d (.int .i64 0)), (7, .d (.int .i64 l.length)), (8, .d (.int .i64 i))], .unk, hpF 57, []⟩)
    (fun i => i ≤ l.length) (fun i => l.length - i) 0 (Nat.zero_le _) ?_
  intro f i hi ih
  conv => whnf
  cases h1 : ltI (i : Int) (l.length : Int)
  · conv => whnf
    exact ⟨rfl, rfl⟩
  have hlt := ltI_t h1
  obtain ⟨x, hx⟩ := at_some (l := l) (i := i) (by omega)
  conv => whnf
  rw [blt_t (i := i) (n := l.length) (by omega)]
  conv => whnf
  rw [encI_get1 hx]
  conv => whnf
  refine Sm.mono (c67_57 x (hc x (List.mem_of_getElem? hx))) ?_
  rintro v h ⟨rfl, rfl⟩
  conv => whnf
  rw [wrap_succ (by omega)]
  exact ih (i + 1) (by omega) (by omega)
theorem con57 (l : List Int) (hl : l.length < 4611686018427387904) (hc : ∀ r ∈ l, 0 ≤ r ∧ r ≤ 8) :
    Sm Tryz.prog E 66 [.d (.slice l.length 1 (encI l)), .func 67 [] [.ptr 0 0 0 1]] (hpF 57) (fun v h => v = .d (.bool false) ∧ h = hpF 57) := by
  refine sm_of HE true (by kernel_rfl) ?_
  conv => whnf
  refine Sm.mono (idx57 l hl hc) ?_
  rintro v h ⟨rfl, rfl⟩
  conv => whnf
  exact ⟨rfl, rfl⟩
theorem all57 (l : List Int) (hl : l.length < 4611686018427387904) (hc : ∀ r ∈ l, 0 ≤ r ∧ r ≤ 8) :
    Rets Tryz.prog E 56 [.d (.slice l.length 1 (encI l)), .d (.func 57 [] [])] (.d (.bool true)) := by
  refine sm_of HE true (by kernel_rfl) ?_
  conv => whnf
  refine Sm.mono (con57 l hl hc) ?_
  rintro v h ⟨rfl, rfl⟩
  conv => whnf
  exact ⟨rfl, rfl⟩
theorem c58 (x : Int) (hx : 0 ≤ x ∧ x ≤ 5) : Rets Tryz.prog E 58 [.d (.int .i64 x)] (.d (.bool true)) := by
  refine sm_of HE true (by kernel_rfl) ?_
  conv => whnf
  refine Rets.use (within_ok x 0 5) ?_
  rw [inB_of hx.1 hx.2]
  conv => whnf
  exact ⟨rfl, rfl⟩
theorem c67_58 (x : Int) (hx : 0 ≤ x ∧ x ≤ 5) : Sm Tryz.prog E 67 [.d (.int .i64 x), .ptr 0 0 0 1] (hpF 58) (fun v h => v = .d (.bool false) ∧ h = hpF 58) := by
  refine sm_of HE true (by kernel_rfl) ?_
  unfold hpF
  conv => whnf
  refine Rets.use (c58 x hx) ?_
  conv => whnf
  exact ⟨rfl, rfl⟩
theorem idx58 (l : List Int) (hl : l.length < 4611686018427387904) (hc : ∀ r ∈ l, 0 ≤ r ∧ r ≤ 5) :
    Sm Tryz.prog E 92 [.d (.slice l.length 1 (encI l)), .func 67 [] [.ptr 0 0 0 1]] (hpF 58) (fun v h => v = .d (.int .i64 (-1)) ∧ h = hpF 58) := by
  refine sm_of HE true (by kernel_rfl) ?_
  conv => whnf
  refine loops_by (fun i : Nat => ⟨19, [(0, .d (.slice l.length 1 (encI l))), (1, .func 67 [] [.ptr 0 0 0 1]), (4, .d (.int .i64 0)), (7, .d (.int .i64 l.length)), (8, .d (.int .i64 i))], .unk, hpF 58, []⟩)
    (fun i => i ≤ l.length) (fun i => l.length - i) 0 (Nat.zero_le _) ?_
  intro f i hi ih
  conv => whnf
  cases h1 : ltI (i : Int) (l.length : Int)
  · conv => whnf
    exact ⟨rfl, rfl⟩
  have hlt := ltI_t h1
  obtain ⟨x, hx⟩ := at_some (l := l) (i := i) (by omega)
  conv => whnf
  rw [blt_t (i := i) (n := l.length) (by omega)]
  conv => whnf
  rw [encI_get1 hx]
  conv => whnf
  refine Sm.mono (c67_58 x (hc x (List.mem_of_getElem? hx))) ?_
  rintro v h ⟨rfl, rfl⟩
  conv => whnf
  rw [wrap_succ (by omega)]
  exact ih (i + 1) (by omega) (by omega)
theorem con58 (l : List Int) (hl : l.length < 4611686018427387904) (hc : ∀ r ∈ l, 0 ≤ r ∧ r ≤ 5) :
    Sm Tryz.prog E 66 [.d (.slice l.length 1 (encI l)), .func 67 [] [.ptr 0 0 0 1]] (hpF 58) (fun v h => v = .d (.bool false) ∧ h = hpF 58) := by
  refine sm_of HE true (by kernel_rfl) ?_
  conv => whnf
  refine Sm.mono (idx58 l hl hc) ?_
  rintro v h ⟨rfl, rfl⟩
  conv => whnf
  exact ⟨rfl, rfl⟩
theorem all58 (l : List Int) (hl : l.length < 4611686018427387904) (hc : ∀ r ∈ l, 0 ≤ r ∧ r ≤ 5) :
    Rets Tryz.prog E 56 [.d (.slice l.length 1 (encI l)), .d (.func 58 [] [])] (.d (.bool true)) := by
  refine sm_of HE true (by kernel_rfl) ?_
  conv => whnf
  refine Sm.mono (con58 l hl hc) ?_
  rintro v h ⟨rfl, rfl⟩
  conv => whnf
  exact ⟨rfl, rfl⟩
def PrOk (n : Nat) (p : Int × Int) : Prop := (0 ≤ p.1 ∧ p.1 ≤ (n : Int) - 1) ∧ (0 ≤ p.2 ∧ p.2 ≤ (n : Int) - 1) ∧ p.1 ≠ p.2
def hpN (n : Nat) : List O := [.row (.ds [.int .i64 n]) 0 0 []]
def hpP (n : Nat) : List O := [.row (.vs [.func 60 [] [.ptr 1 0 0 1]]) 0 0 [], .row (.ds [.int .i64 n]) 0 0 []]
theorem c60 (n : Nat) (hn : n ≤ 8) (p : Int × Int) (hp : PrOk n p) : Sm Tryz.prog E 60 [.d (.agg [.int .i64 p.1, .int .i64 p.2]), .ptr 0 0 0 1] (hpN n) (fun v h => v = .d (.bool true) ∧ h = hpN n) := by
  obtain ⟨h1, h2, h3⟩ := hp
  refine sm_of HE true (by kernel_rfl) ?_
  unfold hpN
  conv => whnf
  rw [wrap_i64 (n := (n : Int) - 1) (by omega) (by omega)]
  refine Rets.use (within_ok p.1 0 _) ?_
  rw [inB_of h1.1 h1.2]
  conv => whnf
  rw [wrap_i64 (n := (n : Int) - 1) (by omega) (by omega)]
  refine Rets.use (within_ok p.2 0 _) ?_
  rw [inB_of h2.1 h2.2]
  conv => whnf
  rw [eqI_ff h3]
  exact ⟨rfl, rfl⟩
theorem c69 (n : Nat) (hn : n ≤ 8) (p : Int × Int) (hp : PrOk n p) : Sm Tryz.prog E 69 [.d (.agg [.int .i64 p.1, .int .i64 p.2]), .ptr 0 0 0 1] (hpP n) (fun v h => v = .d (.bool false) ∧ h = hpP n) := by
  have hc := c60 n hn p hp
  refine sm_of HE true (by kernel_rfl) ?_
  unfold hpN at hc
  unfold hpP
  conv => whnf
  refine Sm.mono hc ?_
  rintro v h ⟨rfl, rfl⟩
  conv => whnf
  exact ⟨rfl, rfl⟩
theorem idx93 (n : Nat) (hn : n ≤ 8) (l : List (Int × Int)) (hl : l.length < 4611686018427387904) (hc : ∀ p ∈ l, PrOk n p) :
    Sm Tryz.prog E 93 [.d (.slice l.length 2 (encP l)), .func 69 [] [.ptr 0 0 0 1]] (hpP n) (fun v h => v = .d (.int .i64 (-1)) ∧ h = hpP n) := by
  refine sm_of HE true (by kernel_rfl) ?_
  unfold hpP
  conv => whnf
  refine loops_by (fun i : Nat => ⟨19, [(0, .d (.slice l.length 2 (encP l))), (1, .func 69 [] [.ptr 0 0 0 1]), (4, .d (.int .i64 0)), (7, .d (.int .i64 l.length)), (8, .d (.int .i64 i))], .unk, hpP n, []⟩)
    (fun i => i ≤ l.length) (fun i => l.length - i) 0 (Nat.zero_le _) ?_
  intro f i hi ih
  unfold hpP
  conv => whnf
  cases h1 : ltI (i : Int) (l.length : Int)
  · conv => whnf
    exact ⟨rfl, rfl⟩
  have hlt := ltI_t h1
  obtain ⟨x, hx⟩ := at_some (l := l) (i := i) (by omega)
  have hc := c69 n hn x (hc x (List.mem_of_getElem? hx))
  unfold hpP at hc
  conv => whnf
  rw [blt_t (i := i) (n := l.length) (by omega)]
  conv => whnf
  rw [ble_t (i := i * 2 + 2) (n := (encP l).length) (by rw [encP_length]; omega)]
  conv => whnf
  rw [encP_at hx]
  conv => whnf
  refine Sm.mono hc ?_
  rintro v h ⟨rfl, rfl⟩
  conv => whnf
  rw [wrap_succ (by omega)]
  exact ih (i + 1) (by omega) (by omega)
theorem con68 (n : Nat) (hn : n ≤ 8) (l : List (Int × Int)) (hl : l.length < 4611686018427387904) (hc : ∀ p ∈ l, PrOk n p) :
    Sm Tryz.prog E 68 [.d (.slice l.length 2 (encP l)), .func 69 [] [.ptr 0 0 0 1]] (hpP n) (fun v h => v = .d (.bool false) ∧ h = hpP n) := by
  have hi := idx93 n hn l hl hc
  refine sm_of HE true (by kernel_rfl) ?_
  unfold hpP at hi ⊢
  conv => whnf
  refine Sm.mono hi ?_
  rintro v h ⟨rfl, rfl⟩
  conv => whnf
  exact ⟨rfl, rfl⟩
theorem all59 (n : Nat) (hn : n ≤ 8) (l : List (Int × Int)) (hl : l.length < 4611686018427387904) (hc : ∀ p ∈ l, PrOk n p) :
    Sm Tryz.prog E 59 [.d (.slice l.length 2 (encP l)), .func 60 [] [.ptr 0 0 0 1]] (hpN n) (fun v h => v = .d (.bool true) ∧ h = hpN n) := by
  have hi := con68 n hn l hl hc
  refine sm_of HE true (by kernel_rfl) ?_
  unfold hpP at hi
  unfold hpN
  conv => whnf
  refine Sm.mono hi ?_
  rintro v h ⟨rfl, rfl⟩
  conv => whnf
  exact ⟨rfl, rfl⟩
theorem less61 (p q : Int × Int) (h : p.1 < q.1 ∨ (p.1 = q.1 ∧ p.2 < q.2)) : Rets Tryz.prog E 61 [.d (.agg [.int .i64 p.1, .int .i64 p.2]), .d (.agg [.int .i64 q.1, .int .i64 q.2])] (.d (.bool true)) := by
  refine sm_of HE true (by kernel_rfl) ?_
  conv => whnf
  rcases h with h | ⟨h1, h2⟩
  · rw [ltI_tt h]
    conv => whnf
    exact ⟨rfl, rfl⟩
  · rw [ltI_ff (by omega)]
    conv => whnf
    rw [eqI_tt h1]
    conv => whnf
    rw [ltI_tt h2]
    exact ⟨rfl, rfl⟩
theorem fn_mem {l : List Int} {x : Int} (h : x ∈ l) : ∃ q, q < l.length ∧ fn l q = x := by
  obtain ⟨q, hq⟩ := List.getElem?_of_mem h
  exact ⟨q, lt_of_at hq, fn_at hq⟩
theorem Check46 {S N : List Int} {A : List (Int × Int)} (O : OkB S N A) (hA : A.length < 4611686018427387904) : Rets Tryz.prog E 46 [.d (boD S N A)] (.d (.int .i64 0)) := by
  have hN := O.hN
  have h1 := O.h1
  have hall := all59 S.length h1.2 A hA fun p hp => O.a p hp
  refine sm_of HE true (by kernel_rfl) ?_
  unfold boD boL sl pl
  unfold hpN at hall
  conv => whnf
  refine Rets.use (within_ok S.length 1 8) ?_
  rw [inB_of (n := (S.length : Int)) (lo := 1) (hi := 8) (by omega) (by omega)]
  conv => whnf
  rw [eqI_tt (a := (N.length : Int)) (b := (S.length : Int)) (by omega)]
  conv => whnf
  refine Rets.use (all57 S (by omega) fun x hx => ?_) ?_
  · obtain ⟨q, hq, rfl⟩ := fn_mem hx; exact O.s q hq
  conv => whnf
  refine Rets.use (all58 N (by omega) fun x hx => ?_) ?_
  · obtain ⟨q, hq, rfl⟩ := fn_mem hx; exact O.n q (by omega)
  conv => whnf
  refine Sm.mono hall ?_
  rintro v h ⟨rfl, rfl⟩
  conv => whnf
  refine loops_by (fun i : Nat => ⟨56, [(1, .ptr 0 0 0 3), (2, .d (.int .i64 0)), (4, .d (.int .i64 (i + 1 : Nat)))], .unk, [.row (.ds (boL S N A)) 0 0 []], []⟩) (fun i => i ≤ A.length) (fun i => A.length - i) 0 (Nat.zero_le _) ?_
  rintro f i hi ih
  unfold boL sl pl
  conv => whnf
  cases g1 : ltI ((i + 1 : Nat) : Int) (A.length : Int)
  case false =>
    conv => whnf
    exact ⟨rfl, rfl⟩
  have g1 := ltI_t g1
  obtain ⟨p, hp⟩ := at_some (l := A) (i := i) (by omega)
  obtain ⟨r, hr⟩ := at_some (l := A) (i := i + 1) (by omega)
  have bp := O.a p (List.mem_of_getElem? hp)
  have br := O.a r (List.mem_of_getElem? hr)
  have ho := O.o i p r hp hr
  conv => whnf
  rw [wrap_pred (by omega)]
  conv => whnf
  rw [blt_t (i := i) (n := A.length) (by omega)]
  conv => whnf
  rw [ble_t (i := i * 2 + 2) (n := (encP A).length) (by rw [encP_length]; omega)]
  conv => whnf
  rw [encP_at hp]
  conv => whnf
  rw [blt_t (i := i + 1) (n := A.length) (by omega)]
  conv => whnf
  rw [ble_t (i := (i + 1) * 2 + 2) (n := (encP A).length) (by rw [encP_length]; omega)]
  conv => whnf
  rw [encP_at hr]
  conv => whnf
  refine Rets.use (less61 p r (by omega)) ?_
  conv => whnf
  rw [wrap_succ (by omega)]
  exact ih (i + 1) (by omega) (by omega)
end Go.Proofs.Dx
