/-
  TopDecidedEarly: races that are left, won by one; a cup with more races.
-/
import Derived.Test.YtedodndgpjonkaaGreatDoorCxO
namespace Go.Proofs.Cx
open Go Go.Ab Go.Proofs.Cw
set_option maxRecDepth 100000
set_option maxHeartbeats 40000000
theorem zeros_flat (n : Nat) : (List.replicate n [V.d (D.int .i64 0)]).flatten = (encI (List.replicate n 0)).map V.d := by
  induction n with
  | zero => rfl
  | succ m ih => rw [List.replicate_succ, List.flatten_cons, ih, List.replicate_succ]; rfl
theorem nils_flat (n : Nat) : (List.replicate n [V.d D.nil]).flatten = (List.replicate n D.nil).map V.d := by
  induction n with
  | zero => rfl
  | succ m ih => rw [List.replicate_succ, List.flatten_cons, ih, List.replicate_succ]; rfl
theorem won43 (n : Nat) (rr bb : Int) (P : List Int) (R : List (List Int)) {s : Nat} (hs : s < n) (hn : n ≤ 12) :
    Sm Tryz.prog E 43 [.ptr 0 0 0 5, .ptr 1 0 0 1] [.row (.ds (cupL n rr bb P R)) 0 0 [], .row (.ds [.int .i64 s]) 0 0 []]
      (fun v h => v = .d (.slice (wrow n s).length 1 (encI (wrow n s))) ∧ h = [.row (.ds (cupL n rr bb P R)) 0 0 [], .row (.ds [.int .i64 s]) 0 0 []]) := by
  have hb := blt_t hs
  refine sm_of HE true (by kernel_rfl) ?_
  unfold cupL
  conv => whnf
  rw [ble_t (Nat.le_refl n)]
  conv => whnf
  rw [ble_t (i := n * 8) (n := 140737488355328) (by omega)]
  conv => whnf
  rw [show Cells.ofV (List.replicate n (List.map V.d (List.map absS (Value.int IntKind.i64 0).cells.toList))).flatten = Cells.ds (encI (List.replicate n 0)) from by
    show Cells.ofV ((List.replicate n [V.d (D.int .i64 0)]).flatten) = _
    rw [zeros_flat, ofV_map]]
  conv => whnf
  rw [hb]
  conv => whnf
  rw [ble_t (i := 0 + s * 1 + 1) (Nat.le_refl _)]
  conv => whnf
  have hm : may 0 (0 + s * 1) 1 0 0 [(0, n * 1)] = true := by
    unfold may
    rw [ble_t (Nat.le_refl 0), ble_t (i := 0 + s * 1 + 1) (by omega)]
    exact may_all 0 _ _
  rw [hm]
  conv => whnf
  rw [ble_t (i := 0 + s * 1 + [V.d (absC (Value.int .i64 1))].length) (by simp only [List.length_cons, List.length_nil, Cells.len, encI_length, List.length_replicate]; omega)]
  have hw : (Cells.ds (encI (List.replicate n 0))).write (0 + s * 1) [V.d (absC (Value.int .i64 1))] = some (.ds (encI (wrow n s))) := write_int (by simpa using hs) (by omega)
  conv => whnf
  rw [hw]
  conv => whnf
  have hm2 : may 0 0 (n * 1) 0 0 [(0, n * 1)] = true := by
    unfold may
    rw [ble_t (Nat.le_refl 0), ble_t (i := 0 + n * 1) (by omega)]
    exact may_all 0 _ _
  rw [hm2]
  have hwl : (encI (wrow n s)).length = n * 1 := by rw [encI_length, wrow_length]; omega
  conv => whnf
  rw [ble_t (i := 0 + n * 1) (by omega)]
  conv => whnf
  refine ⟨?_, rfl⟩
  rw [row_all hwl, wrow_length]
def slL (b : Nat) (k : Nat) : V := match k with | 0 => .d .nil | k + 1 => .slice b k 0 (k + 1) 1
def rwL (k : Nat) (acc : List (List Int)) : List O := match k with | 0 => [] | k + 1 => [.row (.ds (encLL acc)) k 0 []]
theorem wk_rows (l : List (List Int)) : Wk (match l with | [] => D.nil | a :: r => .slice (r.length + 1) 1 (encLL (a :: r))) (.slice l.length 1 (encLL l)) := by
  cases l with
  | cons a r => exact fun _ _ _ h => h
  | nil => exact Wk.nil 1
theorem won_ok (n : Nat) (rr bb : Int) (P : List Int) (R : List (List Int)) {s : Nat} (hs : s < n) (hn : n ≤ 12) {m : Nat} (hm : (m : Int) = rr - R.length) (hm20 : m ≤ 20) (hR : R.length ≤ 1000) :
    Rets Tryz.prog E 27 [.d (cupD n rr bb P R), .d (.int .i64 s)] (.d (.slice (won n s m).length 1 (encLL (won n s m)))) := by
  refine Rets.weaken ?_ (wk_rows _)
  refine sm_of HE true (by kernel_rfl) ?_
  unfold cupD cupL
  conv => whnf
  rw [wrap_i64 (n := rr - R.length) (by omega) (by omega), ← hm]
  refine loops_by (fun i : Nat => ⟨25, [(4, .d .nil), (5, .func 43 [] [.ptr 0 0 0 5, .ptr 1 0 0 1]), (6, slL 2 i), (15, .d (.int .i64 m)), (16, .d (.int .i64 i))], .unk,
      .row (.ds (cupL n rr bb P R)) 0 0 [] :: .row (.ds [.int .i64 s]) 0 0 [] :: rwL i (List.replicate i (wrow n s)), []⟩)
    (fun i => i ≤ m) (fun i => m - i) 0 (Nat.zero_le _) ?_
  intro f i hi ih
  cases i with
  | zero =>
    conv => whnf
    cases h1 : ltI ((0 : Nat) : Int) (m : Int)
    · have := ltI_f h1
      have h0 : m = 0 := by omega
      subst h0
      conv => whnf
      exact ⟨rfl, rfl⟩
    · have := ltI_t h1
      conv => whnf
      refine Sm.mono (won43 n rr bb P R hs hn) ?_
      rintro v h ⟨rfl, rfl⟩
      conv => whnf
      rw [wrap_succ (by omega)]
      exact ih 1 (by omega) (by omega)
  | succ k =>
    have hlk : (List.replicate (k + 1) (wrow n s)).length = k + 1 := by simp
    conv => whnf
    cases h1 : ltI ((k + 1 : Nat) : Int) (m : Int)
    · have := ltI_f h1
      have h0 : m = k + 1 := by omega
      subst h0
      conv => whnf
      rw [may_all]
      conv => whnf
      have hel : (encLL (List.replicate (k + 1) (wrow n s))).length = (k + 1) * 1 := by rw [encLL_length, hlk]; simp
      rw [ble_t (i := 0 + (k + 1) * 1) (by omega)]
      conv => whnf
      refine ⟨?_, rfl⟩
      rw [row_all hel]
      unfold won
      rw [List.replicate_succ]
      simp
    · have := ltI_t h1
      conv => whnf
      refine Sm.mono (won43 n rr bb P R hs hn) ?_
      rintro v h ⟨rfl, rfl⟩
      conv => whnf
      rw [ble_t (i := (k + 1 + 1) * 24) (n := 140737488355328) (by omega)]
      conv => whnf
      rw [may_all]
      conv => whnf
      rw [len_beqL hlk, wrap_succ (by omega), List.take_of_length_le (by rw [encLL_length, hlk]; omega)]
      have e1 : ∀ (l : List (List Int)) (x : List Int), encLL l ++ [D.slice x.length 1 (encI x)] = encLL (l ++ [x]) := fun l x => (encLL_snoc l x).symm
      rw [e1, ← List.replicate_succ']
      exact ih (k + 1 + 1) (by omega) (by omega)
theorem setO_self : ∀ (l : List O) (b : Nat), setO l b (getO l b) = l
  | [], _ => rfl
  | _ :: _, 0 => rfl
  | o :: l, b + 1 => congrArg (o :: ·) (setO_self l b)
theorem wr_front : ∀ (l : List D) (k : Nat), wr (List.replicate (l.length + k) D.nil) 0 l = l ++ List.replicate k D.nil
  | [], k => by
    rw [List.length_nil, Nat.zero_add, wr_nil]; rfl
  | x :: l, k => by
    rw [show (x :: l).length + k = (l.length + k) + 1 by simp; omega, List.replicate_succ]
    show x :: wr (List.replicate (l.length + k) D.nil) 0 l = _
    rw [wr_front l k]
    rfl
theorem copy_rows {H : List O} {b N : Nat} {R : List (List Int)} {k : Nat} (hN : N = R.length + k) (hH : getO H b = .row (.ds (List.replicate N .nil)) 0 0 [(0, N * 1)]) :
    copyO E H 23 (.slice b 0 0 R.length 1) (.d (.slice R.length 1 (encLL R))) = some (.d (.int .i64 R.length), setO H b (.row (.ds (encLL R ++ List.replicate k .nil)) 0 0 [(0, N * 1)])) := by
  have hm : may 0 0 (R.length * 1) 0 0 [(0, N * 1)] = true := by
    unfold may
    rw [ble_t (Nat.le_refl 0), ble_t (i := 0 + R.length * 1) (by omega)]
    exact may_all 0 0 _
  conv =>
    lhs
    whnf
  rw [hH]
  conv =>
    lhs
    whnf
  rw [hm]
  conv =>
    lhs
    whnf
  cases R with
  | nil =>
    conv =>
      lhs
      whnf
    have hk : N = k := by rw [hN]; simp
    subst hk
    show _ = some (_, setO H b (.row (.ds (List.replicate N .nil)) 0 0 [(0, N * 1)]))
    rw [← hH, setO_self]
    rfl
  | cons a R =>
    have hmin : Nat.min (a :: R).length (a :: R).length = R.length + 1 := by simp
    have hle : (encLL (a :: R)).length = R.length + 1 := by rw [encLL_length]; simp
    rw [hmin]
    have hw : (Cells.ds (List.replicate N D.nil)).write 0 (List.take ((R.length + 1) * 1) (List.map V.d (encLL (a :: R)))) = some (.ds (encLL (a :: R) ++ List.replicate k D.nil)) := by
      rw [List.take_of_length_le (by rw [List.length_map, hle]; omega)]
      unfold Cells.write
      rw [ble_t (i := 0 + (List.map V.d (encLL (a :: R))).length) (by simp only [Cells.len, List.length_map, List.length_replicate, hle]; simp at hN; omega), allD_map]
      simp only
      have := wr_front (encLL (a :: R)) k
      rw [hle, show R.length + 1 + k = N by rw [hN]; simp] at this
      rw [this]
    change (match (Cells.ds (List.replicate N D.nil)).write 0 (List.take ((R.length + 1) * 1) (List.map V.d (encLL (a :: R)))) with | some c' => some (V.d (D.int IntKind.i64 ((R.length + 1 : Nat) : Int)), setO H b (O.row c' 0 0 [(0, N * 1)])) | none => none) = _
    rw [hw]
    rfl
theorem append_front (R F : List (List Int)) (z : List D) : (Cells.ds (encLL R ++ z)).append (R.length * 1) (List.map V.d (encLL F)) = .ds (encLL (R ++ F)) := by
  unfold Cells.append
  rw [allD_map]
  simp only
  rw [List.take_append_of_le_length (by rw [encLL_length]; omega), List.take_of_length_le (by rw [encLL_length]; omega), encLL_append]
theorem with41 (nn rr bb : Int) (P : List Int) (R F : List (List Int)) (hR : R.length ≤ 100) (hF : F.length ≤ 100) (hP : 1 ≤ P.length ∧ P.length ≤ 100) (hr : ∀ r ∈ R ++ F, 1 ≤ r.length ∧ r.length ≤ 100) :
    Rets Tryz.prog E 41 [.d (cupD nn rr bb P R), .d (.slice F.length 1 (encLL F))] (.d (cupD nn rr bb P (R ++ F))) := by
  have clone : ∀ l : List Int, 1 ≤ l.length → l.length ≤ 100 → Rets Tryz.prog E 58 [.d (.slice l.length 1 (encI l))] (.d (.slice l.length 1 (encI l))) := fun l h1 h2 => by
    cases l with
    | nil => simp at h1
    | cons a l => exact clone58d a l (by simp at h2; omega)
  refine sm_of HE true (by kernel_rfl) ?_
  unfold cupD cupL
  conv => whnf
  refine Rets.use (clone P hP.1 hP.2) ?_
  conv => whnf
  rw [wrap_i64 (n := (R.length : Int) + F.length) (by omega) (by omega), show (R.length : Int) + F.length = (R.length + F.length : Nat) by omega]
  conv => whnf
  rw [ble_t (i := R.length) (n := R.length + F.length) (by omega)]
  conv => whnf
  rw [ble_t (i := (R.length + F.length) * 24) (n := 140737488355328) (by omega)]
  conv => whnf
  rw [show Cells.ofV (List.replicate (R.length + F.length) (List.map V.d (List.map absS (Value.slice none 0 0).cells.toList))).flatten = Cells.ds (List.replicate (R.length + F.length) .nil) from by
    show Cells.ofV ((List.replicate (R.length + F.length) [V.d D.nil]).flatten) = _
    rw [nils_flat, ofV_map]]
  conv => whnf
  conv in (effectO _ _ _ _) => whnf
  conv in (copyO _ _ _ _ _) =>
    arg 4
    whnf
  conv in (copyO _ _ _ _ _) =>
    arg 5
    whnf
  rw [copy_rows (N := R.length + F.length) (k := F.length) rfl]
  rotate_left
  · rfl
  conv => whnf
  rw [ble_t (i := (R.length + F.length) * 24) (n := 140737488355328) (by omega)]
  conv => whnf
  have hm : may 0 0 (R.length * 1) 0 0 [(0, (R.length + F.length) * 1)] = true := by
    unfold may
    rw [ble_t (Nat.le_refl 0), ble_t (i := 0 + R.length * 1) (by omega)]
    exact may_all 0 0 _
  rw [hm]
  conv => whnf
  cases F with
  | nil =>
    rw [List.append_nil] at hr ⊢
    have hmy : ∀ off k fl : Nat, off + k ≤ R.length → fl ≤ 0 → may 0 off k 0 fl [(0, (R.length + 0) * 1)] = true := fun off k fl h1 h2 => by
      unfold may
      rw [ble_t (Nat.le_refl 0), ble_t (i := off + k) (by omega)]
      exact may_fl h2
    have hz : encLL R ++ List.replicate ([] : List (List Int)).length D.nil = encLL R := List.append_nil _
    rw [hz]
    conv => whnf
    have hN : (R).length = R.length := by simp
    refine loops_by (fun x : Nat × Nat => match x with
        | (i, fl) => ⟨56, [(4, .ptr 0 0 0 5), (5, .ptr 1 0 0 5), (40, .slice 2 0 0 (R.length) 1), (41, .d (.int .i64 (R.length : Nat))), (42, .d (.int .i64 i))], .unk,
          [.row (.ds [.int .i64 0, .int .i64 0, .int .i64 0, .nil, .nil]) 0 0 [], .row (.vs [.d (.int .i64 nn), .d (.int .i64 rr), .d (.int .i64 bb), .d (.slice P.length 1 (encI P)), .slice 2 0 0 (R.length) 1]) 0 0 [], .row (.ds (encLL (R))) 0 fl [(0, (R.length + 0) * 1)]], []⟩)
      (fun x => x.1 ≤ R.length ∧ x.2 ≤ 0) (fun x => R.length - x.1) (0, 0) ⟨Nat.zero_le _, Nat.zero_le _⟩ ?_
    rintro f ⟨i, fl⟩ ⟨hi, hfl⟩ ih
    simp only at hi hfl
    conv => whnf
    cases h1 : ltI (i : Int) ((R.length : Nat) : Int)
    · conv => whnf
      rw [hmy 0 ((R.length) * 1) fl (by omega) hfl]
      have hel : (encLL (R)).length = (R.length) * 1 := by rw [encLL_length, hN]; omega
      conv => whnf
      rw [ble_t (i := 0 + (R.length) * 1) (by omega)]
      conv => whnf
      refine ⟨?_, rfl⟩
      rw [row_all hel, hN]
    have hlt := ltI_t h1
    have hb := blt_t (i := i) (n := R.length) (by omega)
    obtain ⟨r, hr'⟩ := at_some (l := R) (i := i) (by omega)
    have hrl := hr r (List.mem_of_getElem? hr')
    have hset : (R).set i r = R := by
      obtain ⟨h1, rfl⟩ := List.getElem?_eq_some_iff.1 hr'
      exact List.set_getElem_self h1
    conv => whnf
    rw [hb]
    conv => whnf
    rw [ble_t (i := 0 + i * 1 + 1) (Nat.le_refl _)]
    conv => whnf
    rw [hmy (0 + i * 1) 1 fl (by omega) hfl]
    conv => whnf
    rw [encLL_get0 hr']
    conv => whnf
    refine Rets.use (clone r hrl.1 hrl.2) ?_
    conv => whnf
    rw [hb]
    conv => whnf
    rw [ble_t (i := 0 + i * 1 + 1) (Nat.le_refl _)]
    conv => whnf
    rw [hmy (0 + i * 1) 1 fl (by omega) hfl]
    conv => whnf
    rw [ble_t (i := 0 + i * 1 + [V.d (D.slice r.length 1 (encI r))].length) (by show 0 + i * 1 + 1 ≤ (encLL (R)).length; rw [encLL_length, hN]; omega)]
    conv => whnf
    rw [write_row (i := i) (x := r) (by omega) (by omega), hset]
    conv => whnf
    rw [wrap_succ (by omega)]
    exact ih (i + 1, 0) ⟨by simp only; omega, Nat.le_refl _⟩ (by simp only; omega)
  | cons g F =>
    have hgl : (g :: F).length = F.length + 1 := rfl
    have hmy : ∀ off k fl : Nat, off + k ≤ R.length + (g :: F).length → fl ≤ 1 → may 1 off k 1 fl [(0, R.length * 1), (0, (R.length + (g :: F).length) * 1)] = true := fun off k fl _ h2 => by
      show may 1 off k 1 fl [] = true
      exact may_fl (n := k) (off := off) h2
    rw [show Nat.beq (R.length * 1) (Cells.ds (encLL R ++ List.replicate (g :: F).length D.nil)).len = false from by
      have : R.length * 1 ≠ (encLL R ++ List.replicate (g :: F).length D.nil).length := by simp [encLL_length]
      cases h : Nat.beq (R.length * 1) (Cells.ds (encLL R ++ List.replicate (g :: F).length D.nil)).len
      · rfl
      · exact absurd (Nat.eq_of_beq_eq_true h) this]
    rw [append_front]
    conv => whnf
    have hN : (R ++ g :: F).length = R.length + (g :: F).length := by simp
    refine loops_by (fun x : Nat × Nat => match x with
        | (i, fl) => ⟨56, [(4, .ptr 0 0 0 5), (5, .ptr 1 0 0 5), (40, .slice 2 1 0 (R.length + (g :: F).length) 1), (41, .d (.int .i64 (R.length + (g :: F).length : Nat))), (42, .d (.int .i64 i))], .unk,
          [.row (.ds [.int .i64 0, .int .i64 0, .int .i64 0, .nil, .nil]) 0 0 [], .row (.vs [.d (.int .i64 nn), .d (.int .i64 rr), .d (.int .i64 bb), .d (.slice P.length 1 (encI P)), .slice 2 1 0 (R.length + (g :: F).length) 1]) 0 0 [], .row (.ds (encLL (R ++ g :: F))) 1 fl [(0, R.length * 1), (0, (R.length + (g :: F).length) * 1)]], []⟩)
      (fun x => x.1 ≤ R.length + (g :: F).length ∧ x.2 ≤ 1) (fun x => R.length + (g :: F).length - x.1) (0, 0) ⟨Nat.zero_le _, Nat.zero_le _⟩ ?_
    rintro f ⟨i, fl⟩ ⟨hi, hfl⟩ ih
    simp only at hi hfl
    conv => whnf
    cases h1 : ltI (i : Int) ((R.length + (g :: F).length : Nat) : Int)
    · conv => whnf
      rw [hmy 0 ((R.length + (g :: F).length) * 1) fl (by omega) hfl]
      have hel : (encLL (R ++ g :: F)).length = (R.length + (g :: F).length) * 1 := by rw [encLL_length, hN]; omega
      conv => whnf
      rw [ble_t (i := 0 + (R.length + (g :: F).length) * 1) (by omega)]
      conv => whnf
      refine ⟨?_, rfl⟩
      rw [row_all hel, hN]
    have hlt := ltI_t h1
    have hb := blt_t (i := i) (n := R.length + (g :: F).length) (by omega)
    obtain ⟨r, hr'⟩ := at_some (l := R ++ g :: F) (i := i) (by omega)
    have hrl := hr r (List.mem_of_getElem? hr')
    have hset : (R ++ g :: F).set i r = R ++ g :: F := by
      obtain ⟨h1, rfl⟩ := List.getElem?_eq_some_iff.1 hr'
      exact List.set_getElem_self h1
    conv => whnf
    rw [hb]
    conv => whnf
    rw [ble_t (i := 0 + i * 1 + 1) (Nat.le_refl _)]
    conv => whnf
    rw [hmy (0 + i * 1) 1 fl (by omega) hfl]
    conv => whnf
    rw [encLL_get0 hr']
    conv => whnf
    refine Rets.use (clone r hrl.1 hrl.2) ?_
    conv => whnf
    rw [hb]
    conv => whnf
    rw [ble_t (i := 0 + i * 1 + 1) (Nat.le_refl _)]
    conv => whnf
    rw [hmy (0 + i * 1) 1 fl (by omega) hfl]
    conv => whnf
    rw [ble_t (i := 0 + i * 1 + [V.d (D.slice r.length 1 (encI r))].length) (by show 0 + i * 1 + 1 ≤ (encLL (R ++ g :: F)).length; rw [encLL_length, hN]; omega)]
    conv => whnf
    rw [write_row (i := i) (x := r) (by omega) (by omega), hset]
    conv => whnf
    rw [wrap_succ (by omega)]
    exact ih (i + 1, 1) ⟨by simp only; omega, Nat.le_refl _⟩ (by simp only; omega)
end Go.Proofs.Cx
