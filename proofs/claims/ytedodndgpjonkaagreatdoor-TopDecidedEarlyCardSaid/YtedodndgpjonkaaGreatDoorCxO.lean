/-
  TopDecidedEarly: ranks, by the program.
-/
import Derived.Test.YtedodndgpjonkaaGreatDoorCxM
namespace Go.Proofs.Cx
open Go Go.Ab Go.Proofs.Cw
set_option maxRecDepth 100000
set_option maxHeartbeats 40000000
theorem others_ok (nn rr bb : Int) (P : List Int) (R : List (List Int)) (s : Nat) :
    Rets Tryz.prog E 60 [.d (cupD nn rr bb P R), .d (.int .i64 s)] (.d (.func 81 [] [.ptr (cupL nn rr bb P R) 0, .ptr [.int .i64 s] 0])) := by
  refine sm_of HE true (by kernel_rfl) ?_
  unfold cupD cupL
  conv => whnf
  exact ⟨rfl, rfl⟩
def rfOf : Code → Option (Code × Code)
  | .rangeFunc _ _ a b => some (a, b)
  | .seq a b => match rfOf a with | some x => some x | none => rfOf b
  | .block _ b => rfOf b
  | .loop b => rfOf b
  | .scope b => rfOf b
  | .cond _ a b => match rfOf a with | some x => some x | none => rfOf b
  | _ => none
def rfOf' (f : Func) : Code × Code := match f.body with
  | some b => (match rfOf b with | some x => x | none => (.skip, .skip))
  | none => (.skip, .skip)
noncomputable def code42 : Code × Code := rfOf' Tryz.f42
noncomputable def hp42 (F : List D) (m : Nat) : List O :=
  [.loop ⟨.ready, none, 42, 26, [(5, .ptr 2 0 0 62), (6, .ptr 3 0 0 1), (8, .d .undef), (17, .d .undef)], .unk, [16, 17], code42.1, code42.2, 1⟩, .dfr, .row (.ds F) 0 0 [], .row (.ds [.int .i64 m]) 0 0 []]
theorem lexB_congr {f f' g g' : Nat → Int} : ∀ (n p : Nat), (∀ q, p ≤ q → f q = f' q ∧ g q = g' q) → lexB f g n p = lexB f' g' n p
  | 0, _, _ => rfl
  | n + 1, p, h => by
    unfold lexB
    rw [(h p (Nat.le_refl _)).1, (h p (Nat.le_refl _)).2, lexB_congr n (p + 1) fun q hq => h q (by omega)]
theorem btrF_btrB (P : List Int) (b : Nat) (R : List (List Int)) (o s : Nat) : btrF (Tt P b R o) (Tt P b R s) (pf R o) (pf R s) = btrB P b R o s := by
  unfold btrF btrB
  rw [lexB_congr (f := pf R o) (f' := plc R o) (g := pf R s) (g' := plc R s) 60 1 fun q hq => by
    unfold pf
    rw [if_neg (by omega), if_neg (by omega)]
    exact ⟨rfl, rfl⟩]
theorem each81 {nn rr bb : Int} {P : List Int} {R : List (List Int)} {n : Nat} (O : Pt P) (hR : Rc n R) (hn : nn = n) {s : Nat} (hs : s < n) (hbb : 1 ≤ bb ∧ bb ≤ 20) (hR1 : 1 ≤ R.length) (hR12 : R.length ≤ 12) {F : List D} (hF : F = formL (Tt P bb.toNat R s) (pf R s)) :
    Sm Tryz.prog E 81 [.yield 0, .d (.ptr (cupL nn rr bb P R) 0), .d (.ptr [.int .i64 s] 0)] (hp42 F 1) (fun v h => v = .d (.tuple []) ∧ h = hp42 F (rnk P bb.toNat R n s + 1)) := by
  subst hn
  have h12 := hR.sk
  have hFl : F.length = 62 := by rw [hF, formL_length]
  have hforms : ∀ o, o < n → ∃ G, G = formL (Tt P bb.toNat R o) (pf R o) ∧ Rets Tryz.prog E 59 [.d (cupD n rr bb P R), .d (.int .i64 o)] (.d (.agg G)) := fun o ho => ⟨_, rfl, form_ok O hR ho hbb hR1 hR12 rfl⟩
  refine sm_of HE true (by kernel_rfl) ?_
  unfold cupD at hforms
  unfold cupL at hforms ⊢
  conv => whnf
  refine loops_by (fun x : Nat × Nat => match x with
      | (i, m) => ⟨24, [(0, .yield 0), (1, .d (.ptr (cupL n rr bb P R) 0)), (2, .d (.ptr [.int .i64 s] 0)), (7, .d (.int .i64 n)), (8, .d (.int .i64 i))], .unk, hp42 F (m + 1), []⟩)
    (fun x => x.1 ≤ n ∧ x.2 = (List.range x.1).countP fun o => btrB P bb.toNat R o s) (fun x => n - x.1) (0, 0) ⟨Nat.zero_le _, rfl⟩ ?_
  rintro f ⟨i, m⟩ ⟨hi, hm⟩ ih
  simp only at hi hm
  have hml : m ≤ i := by rw [hm]; exact Nat.le_trans List.countP_le_length (by simp)
  conv => whnf
  cases h1 : ltI (i : Int) (n : Int)
  · have := ltI_f h1
    have hin : i = n := by omega
    subst hin
    conv => whnf
    refine ⟨rfl, ?_⟩
    rw [hm]; rfl
  have hlt := ltI_t h1
  have hc := countP_range (p := fun o => btrB P bb.toNat R o s) (i := i)
  rw [← hm] at hc
  conv => whnf
  cases h2 : eqI (i : Int) (s : Int)
  case true =>
    have h2 := eqI_t h2
    obtain rfl : i = s := by omega
    rw [btrB_self] at hc
    conv => whnf
    rw [wrap_succ (by omega)]
    exact ih (i + 1, m) ⟨by simp only; omega, hc.symm⟩ (by simp only; omega)
  obtain ⟨G, hG, hform⟩ := hforms i (by omega)
  have hGl : G.length = 62 := by rw [hG, formL_length]
  have hbet := better61 hG hF
  rw [btrF_btrB] at hbet
  conv => whnf
  refine Rets.use hform ?_
  conv => whnf
  repeat (rw [fL_rec]; conv => whnf)
  refine sy_of HE ?_
  conv => whnf
  repeat (rw [fL_rec]; conv => whnf)
  rw [show (List.map V.d G).length = 62 by rw [List.length_map, hGl]]
  conv => whnf
  rw [write_all]
  rotate_left
  · rw [hGl]; rfl
  conv => whnf
  rw [hGl]
  conv => whnf
  rw [row_all hGl]
  conv => whnf
  repeat (rw [fL_rec]; conv => whnf)
  rw [hFl]
  conv => whnf
  rw [row_all hFl]
  conv => whnf
  repeat (rw [fL_rec]; conv => whnf)
  refine Rets.use hbet ?_
  conv => whnf
  cases h3 : btrB P bb.toNat R i s
  · rw [h3] at hc
    conv => whnf
    rw [wrap_succ (by omega)]
    exact ih (i + 1, m) ⟨by simp only; omega, hc.symm⟩ (by simp only; omega)
  · rw [h3] at hc
    conv => whnf
    rw [wrap_succ (by omega)]
    conv => whnf
    rw [wrap_succ (by omega)]
    exact ih (i + 1, m + 1) ⟨by simp only; omega, hc.symm⟩ (by simp only; omega)
theorem rank42 {nn rr bb : Int} {P : List Int} {R : List (List Int)} {n : Nat} (O : Pt P) (hR : Rc n R) (hn : nn = n) {s : Nat} (hs : s < n) (hbb : 1 ≤ bb ∧ bb ≤ 20) (hR1 : 1 ≤ R.length) (hR12 : R.length ≤ 12) :
    Rets Tryz.prog E 42 [.d (cupD nn rr bb P R), .d (.int .i64 s)] (.d (.int .i64 ((rnk P bb.toNat R n s + 1 : Nat)))) := by
  obtain ⟨F, hF⟩ : ∃ F, F = formL (Tt P bb.toNat R s) (pf R s) := ⟨_, rfl⟩
  have hFl : F.length = 62 := by rw [hF, formL_length]
  have hform := form_ok (nn := nn) (rr := rr) O hR hs hbb hR1 hR12 hF
  have hoth := others_ok nn rr bb P R s
  refine sm_of HE true (by kernel_rfl) ?_
  unfold cupD at hform hoth ⊢
  unfold cupL at hform ⊢
  conv => whnf
  refine Rets.use hform ?_
  conv => whnf
  rw [fL_rec]
  conv => whnf
  rw [show (List.map V.d F).length = 62 by rw [List.length_map, hFl]]
  conv => whnf
  rw [write_all]
  rotate_left
  · rw [hFl]; rfl
  conv => whnf
  refine Rets.use hoth ?_
  conv => whnf
  refine Sm.mono (each81 (rr := rr) O hR hn hs hbb hR1 hR12 hF) ?_
  rintro v h ⟨rfl, rfl⟩
  conv => whnf
  exact ⟨rfl, rfl⟩
end Go.Proofs.Cx
