/-
  TopLaid: a desk is opened; lists copied.
-/
import Derived.Test.YtldpapiaonchaaaGreatDoorDxE0
import Derived.Test.YtldpapiaonchaaaGreatDoorDxG0
namespace Go.Proofs.Dx
open Go Go.Ab Go.Proofs.Dw
set_option maxRecDepth 100000
set_option maxHeartbeats 40000000
theorem clone23b (l : List Int) (h0 : 0 < l.length) (hl : l.length ≤ 1000) : Sm Tryz.prog E 23 [.d (.slice l.length 1 (encI l))] [] (fun v h => v = .slice 0 0 0 l.length 1 ∧ h = [.row (.ds (encI l)) 0 0 []]) := by
  cases l with
  | nil => exact absurd h0 (by simp)
  | cons a r =>
    simp only [List.length_cons] at hl ⊢
    refine sm_of HE false (by kernel_rfl) ?_
    conv => whnf
    rw [show Nat.ble ((r.length + 1) * 8) 140737488355328 = true from Nat.ble_eq_true_of_le (by omega)]
    conv => whnf
    rw [ofV_map]
    conv => whnf
    exact ⟨rfl, rfl⟩
theorem opened32A (S N : List Int) (A : List (Int × Int)) (h8 : S.length ≤ 1000) (hA : A.length ≤ 1000) :
    Sm Tryz.prog E 32 [.d (.agg [sl S, sl N, pl A])] [] (fun v h => v = .ptr 0 0 0 92 ∧ h = [dkA S N A 1 Tb.z, mpO (mayL S.length A)]) := by
  refine sm_of HE true (by kernel_rfl) ?_
  unfold dkA mpO
  conv => whnf
  refine loops_by (fun i : Nat => ⟨39, [(1, .ptr 0 0 0 3), (2, .d .nilptr), (3, .ptr 1 0 0 92), (13, .d (.int .i64 S.length)), (14, .d (.int .i64 i))], .unk, [.row (.ds [sl S, sl N, pl A]) 0 0 [], dkA S N A 2 Tb.z, .map (K (dg i)) (.ds (Tr (dg i)))], []⟩) (fun i => i ≤ S.length) (fun i => S.length - i) 0 (Nat.zero_le _) ?_
  rintro f i hi ih
  unfold dkA
  conv => whnf
  cases h1 : ltI (i : Int) (S.length : Int)
  case true =>
    have h1 := ltI_t h1
    conv => whnf
    rw [put_pair (ps := dg i) (p := i) (q := i)]
    rotate_left
    · rfl
    · rfl
    · rfl
    · rfl
    rw [dg_succ]
    conv => whnf
    rw [wrap_succ (by omega)]
    exact ih (i + 1) (by omega) (by omega)
  have h1 := ltI_f h1
  obtain rfl : i = S.length := by omega
  conv => whnf
  refine loops_by (fun j : Nat => ⟨39, [(2, .d .nilptr), (3, .ptr 0 0 0 92), (26, .d (pl A)), (27, .d (.int .i64 A.length)), (28, .d (.int .i64 j))], .unk, [dkA S N A 1 Tb.z, .map (K ((A.take j).foldl put (dg S.length))) (.ds (Tr ((A.take j).foldl put (dg S.length))))], []⟩) (fun j => j ≤ A.length) (fun j => A.length - j) 0 (Nat.zero_le _) ?_
  rintro f2 j hj ih2
  unfold dkA
  conv => whnf
  cases h2 : ltI (j : Int) (A.length : Int)
  case false =>
    have h2 := ltI_f h2
    obtain rfl : j = A.length := by omega
    rw [List.take_length]
    conv => whnf
    exact ⟨rfl, rfl⟩
  have h2 := ltI_t h2
  obtain ⟨p, hp⟩ := at_some (l := A) (i := j) (by omega)
  conv => whnf
  rw [blt_t (i := j) (n := A.length) (by omega)]
  conv => whnf
  rw [ble_t (i := j * 2 + 2) (n := (encP A).length) (by rw [encP_length]; omega)]
  conv => whnf
  rw [encP_at hp]
  conv => whnf
  rw [put_pair (ps := (A.take j).foldl put (dg S.length)) (p := p.1) (q := p.2)]
  rotate_left
  · rfl
  · rfl
  · rfl
  · rfl
  conv => whnf
  rw [wrap_succ (by omega), ← take_put hp]
  exact ih2 (j + 1) (by omega) (by omega)
theorem opened32B (S N : List Int) (A : List (Int × Int)) (h8 : S.length ≤ 1000) (hA : A.length ≤ 1000) :
    Sm Tryz.prog E 32 [.agg [.slice 0 0 0 S.length 1, .slice 1 0 0 N.length 1, .d (pl A)]] [.row (.ds (encI S)) 0 0 [], .row (.ds (encI N)) 0 0 []] (fun v h => v = .ptr 2 0 0 92 ∧ h = [.row (.ds (encI S)) 0 0 [], .row (.ds (encI N)) 0 0 [], dkB S N A 0 1 3 Tb.z, mpO (mayL S.length A)]) := by
  refine sm_of HE true (by kernel_rfl) ?_
  unfold dkB mpO
  conv => whnf
  refine loops_by (fun i : Nat => ⟨39, [(1, .ptr 2 0 0 3), (2, .d .nilptr), (3, .ptr 3 0 0 92), (13, .d (.int .i64 S.length)), (14, .d (.int .i64 i))], .unk, [.row (.ds (encI S)) 0 0 [], .row (.ds (encI N)) 0 0 [], .row (.vs [.slice 0 0 0 S.length 1, .slice 1 0 0 N.length 1, .d (pl A)]) 0 0 [], dkB S N A 0 1 4 Tb.z, .map (K (dg i)) (.ds (Tr (dg i)))], []⟩) (fun i => i ≤ S.length) (fun i => S.length - i) 0 (Nat.zero_le _) ?_
  rintro f i hi ih
  unfold dkB
  conv => whnf
  cases h1 : ltI (i : Int) (S.length : Int)
  case true =>
    have h1 := ltI_t h1
    conv => whnf
    rw [put_pair (ps := dg i) (p := i) (q := i)]
    rotate_left
    · rfl
    · rfl
    · rfl
    · rfl
    rw [dg_succ]
    conv => whnf
    rw [wrap_succ (by omega)]
    exact ih (i + 1) (by omega) (by omega)
  have h1 := ltI_f h1
  obtain rfl : i = S.length := by omega
  conv => whnf
  refine loops_by (fun j : Nat => ⟨39, [(2, .d .nilptr), (3, .ptr 2 0 0 92), (26, .d (pl A)), (27, .d (.int .i64 A.length)), (28, .d (.int .i64 j))], .unk, [.row (.ds (encI S)) 0 0 [], .row (.ds (encI N)) 0 0 [], dkB S N A 0 1 3 Tb.z, .map (K ((A.take j).foldl put (dg S.length))) (.ds (Tr ((A.take j).foldl put (dg S.length))))], []⟩) (fun j => j ≤ A.length) (fun j => A.length - j) 0 (Nat.zero_le _) ?_
  rintro f2 j hj ih2
  unfold dkB
  conv => whnf
  cases h2 : ltI (j : Int) (A.length : Int)
  case false =>
    have h2 := ltI_f h2
    obtain rfl : j = A.length := by omega
    rw [List.take_length]
    conv => whnf
    exact ⟨rfl, rfl⟩
  have h2 := ltI_t h2
  obtain ⟨p, hp⟩ := at_some (l := A) (i := j) (by omega)
  conv => whnf
  rw [blt_t (i := j) (n := A.length) (by omega)]
  conv => whnf
  rw [ble_t (i := j * 2 + 2) (n := (encP A).length) (by rw [encP_length]; omega)]
  conv => whnf
  rw [encP_at hp]
  conv => whnf
  rw [put_pair (ps := (A.take j).foldl put (dg S.length)) (p := p.1) (q := p.2)]
  rotate_left
  · rfl
  · rfl
  · rfl
  · rfl
  conv => whnf
  rw [wrap_succ (by omega), ← take_put hp]
  exact ih2 (j + 1) (by omega) (by omega)
theorem opened32C (S N : List Int) (A : List (Int × Int)) (h8 : S.length ≤ 1000) (hA : A.length ≤ 1000) :
    Sm Tryz.prog E 32 [.agg [.slice 0 0 0 S.length 1, .d (sl N), .d (pl A)]] [.row (.ds (encI S)) 0 0 []] (fun v h => v = .ptr 1 0 0 92 ∧ h = [.row (.ds (encI S)) 0 0 [], dkC S N A 0 2 Tb.z, mpO (mayL S.length A)]) := by
  refine sm_of HE true (by kernel_rfl) ?_
  unfold dkC mpO
  conv => whnf
  refine loops_by (fun i : Nat => ⟨39, [(1, .ptr 1 0 0 3), (2, .d .nilptr), (3, .ptr 2 0 0 92), (13, .d (.int .i64 S.length)), (14, .d (.int .i64 i))], .unk, [.row (.ds (encI S)) 0 0 [], .row (.vs [.slice 0 0 0 S.length 1, .d (sl N), .d (pl A)]) 0 0 [], dkC S N A 0 3 Tb.z, .map (K (dg i)) (.ds (Tr (dg i)))], []⟩) (fun i => i ≤ S.length) (fun i => S.length - i) 0 (Nat.zero_le _) ?_
  rintro f i hi ih
  unfold dkC
  conv => whnf
  cases h1 : ltI (i : Int) (S.length : Int)
  case true =>
    have h1 := ltI_t h1
    conv => whnf
    rw [put_pair (ps := dg i) (p := i) (q := i)]
    rotate_left
    · rfl
    · rfl
    · rfl
    · rfl
    rw [dg_succ]
    conv => whnf
    rw [wrap_succ (by omega)]
    exact ih (i + 1) (by omega) (by omega)
  have h1 := ltI_f h1
  obtain rfl : i = S.length := by omega
  conv => whnf
  refine loops_by (fun j : Nat => ⟨39, [(2, .d .nilptr), (3, .ptr 1 0 0 92), (26, .d (pl A)), (27, .d (.int .i64 A.length)), (28, .d (.int .i64 j))], .unk, [.row (.ds (encI S)) 0 0 [], dkC S N A 0 2 Tb.z, .map (K ((A.take j).foldl put (dg S.length))) (.ds (Tr ((A.take j).foldl put (dg S.length))))], []⟩) (fun j => j ≤ A.length) (fun j => A.length - j) 0 (Nat.zero_le _) ?_
  rintro f2 j hj ih2
  unfold dkC
  conv => whnf
  cases h2 : ltI (j : Int) (A.length : Int)
  case false =>
    have h2 := ltI_f h2
    obtain rfl : j = A.length := by omega
    rw [List.take_length]
    conv => whnf
    exact ⟨rfl, rfl⟩
  have h2 := ltI_t h2
  obtain ⟨p, hp⟩ := at_some (l := A) (i := j) (by omega)
  conv => whnf
  rw [blt_t (i := j) (n := A.length) (by omega)]
  conv => whnf
  rw [ble_t (i := j * 2 + 2) (n := (encP A).length) (by rw [encP_length]; omega)]
  conv => whnf
  rw [encP_at hp]
  conv => whnf
  rw [put_pair (ps := (A.take j).foldl put (dg S.length)) (p := p.1) (q := p.2)]
  rotate_left
  · rfl
  · rfl
  · rfl
  · rfl
  conv => whnf
  rw [wrap_succ (by omega), ← take_put hp]
  exact ih2 (j + 1) (by omega) (by omega)
end Go.Proofs.Dx
