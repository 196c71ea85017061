/-
  TopRanked: places; is a pair among them?
-/
import Derived.Test.YtklidmlhlelngaaGreatDoorRxE
namespace Go.Proofs.Rx
open Go Go.Ab Go.Proofs.Rw
set_option maxRecDepth 100000
set_option maxHeartbeats 4000000
theorem place_ok (o : Ord) {F : List D} (hF : F = encO o) (s n : Nat) (hs : s < 8) (hn : n ≤ 8) :
    Rets Tryz.prog E 27 [.d (.agg F), .d (.int .i64 s), .d (.int .i64 n)] (.d (prD ((cnt (fun i => o i s) n : Nat), (cnt (fun i => o s i) n : Nat)))) := by
  have hl : F.length = 64 := by rw [hF, encO_length]
  refine sm_of HE true (by kernel_rfl) ?_
  unfold prD
  conv => whnf
  rw [show (List.map V.d F).length = 64 by rw [List.length_map, hl], ofV_map]
  conv => whnf
  refine loops_by (fun x : Nat => ⟨32, [(1, .d (.int .i64 s)), (3, .ptr 0 0 0 64), (6, .d (.int .i64 0)), (7, .d (.int .i64 0)), (8, .d (.int .i64 (cnt (fun i => o i s) x : Nat))), (9, .d (.int .i64 (cnt (fun i => o s i) x : Nat))), (11, .d (.int .i64 n)), (12, .d (.int .i64 x))], .unk,
      [.row (.ds F) 0 0 []], []⟩) (fun x => x ≤ n) (fun x => n - x) 0 (Nat.zero_le _) ?_
  rintro f i hi ih
  have c1 : cnt (fun i => o i s) (i + 1) = cnt (fun i => o i s) i + (if o i s then 1 else 0) := rfl
  have c2 : cnt (fun i => o s i) (i + 1) = cnt (fun i => o s i) i + (if o s i then 1 else 0) := rfl
  have b1 : cnt (fun i => o i s) i ≤ i := by have := cnt_disj (p := fun i => o i s) (q := fun _ => false) (n := i) (fun _ _ _ h => by cases h); omega
  have b2 : cnt (fun i => o s i) i ≤ i := by have := cnt_disj (p := fun i => o s i) (q := fun _ => false) (n := i) (fun _ _ _ h => by cases h); omega
  have key := ih (i + 1)
  conv => whnf
  cases h1 : ltI (i : Int) (n : Int)
  · have h2 : i = n := by rw [ltI_eq] at h1; have := of_decide_eq_false h1; omega
    subst h2
    conv => whnf
    exact ⟨rfl, rfl⟩
  have hlt : i < n := by rw [ltI_eq] at h1; have := of_decide_eq_true h1; omega
  have bi : Nat.blt i 8 = true := by simp [Nat.blt_eq]; omega
  have bs : Nat.blt s 8 = true := by simpa [Nat.blt_eq] using hs
  have g1 : F[0 + i * 8 + s * 1]? = some (.bool (o i s)) := by rw [hF, Nat.zero_add]; exact encO_get o (by omega) hs
  have g2 : F[0 + s * 8 + i * 1]? = some (.bool (o s i)) := by rw [hF, Nat.zero_add]; exact encO_get o hs (by omega)
  conv => whnf
  rw [bi]
  conv => whnf
  rw [bs]
  conv => whnf
  rw [show Nat.ble (0 + i * 8 + s * 1 + 1) 64 = true from Nat.ble_eq_true_of_le (by omega)]
  conv => whnf
  rw [g1]
  cases h3 : o i s
  · rw [h3] at c1
    simp only [Bool.false_eq_true, if_false, Nat.add_zero] at c1
    rw [c1] at key
    conv => whnf
    rw [bs]
    conv => whnf
    rw [bi]
    conv => whnf
    rw [show Nat.ble (0 + s * 8 + i * 1 + 1) 64 = true from Nat.ble_eq_true_of_le (by omega)]
    conv => whnf
    rw [g2]
    cases h4 : o s i
    · rw [h4] at c2
      simp only [Bool.false_eq_true, if_false, Nat.add_zero] at c2
      rw [c2] at key
      conv => whnf
      rw [wrap_succ (by omega)]
      exact key (by omega) (by omega)
    · rw [h4] at c2
      simp only [if_true] at c2
      rw [c2] at key
      conv => whnf
      rw [wrap_succ (by omega), wrap_succ (by omega)]
      exact key (by omega) (by omega)
  · rw [h3] at c1
    simp only [if_true] at c1
    rw [c1] at key
    conv => whnf
    rw [bs]
    conv => whnf
    rw [bi]
    conv => whnf
    rw [show Nat.ble (0 + s * 8 + i * 1 + 1) 64 = true from Nat.ble_eq_true_of_le (by omega)]
    conv => whnf
    rw [g2]
    cases h4 : o s i
    · rw [h4] at c2
      simp only [Bool.false_eq_true, if_false, Nat.add_zero] at c2
      rw [c2] at key
      conv => whnf
      rw [wrap_succ (i := cnt (fun i => o i s) i) (by omega), wrap_succ (i := i) (by omega)]
      exact key (by omega) (by omega)
    · rw [h4] at c2
      simp only [if_true] at c2
      rw [c2] at key
      conv => whnf
      rw [wrap_succ (i := cnt (fun i => o i s) i) (by omega), wrap_succ (i := cnt (fun i => o s i) i) (by omega), wrap_succ (i := i) (by omega)]
      exact key (by omega) (by omega)
/-! ### Is it among them? -/
def eqP (a b : Int) (p : Int × Int) : Bool := andB (eqI a p.1) (andB (eqI b p.2) true)
theorem encP_at {l : List (Int × Int)} {i : Nat} {p : Int × Int} (h : l[i]? = some p) : ((encP l).drop (i * 2)).take 2 = [.int .i64 p.1, .int .i64 p.2] := by
  obtain ⟨hi, rfl⟩ := List.getElem?_eq_some_iff.1 h
  rw [encP_drop, List.drop_eq_getElem_cons hi]; rfl
theorem index_ok (l : List (Int × Int)) (a b : Int) (hl : l.length < 1000) : Rets Tryz.prog E 26 [.d (.slice l.length 2 (encP l)), .d (.agg [.int .i64 a, .int .i64 b])] (.d (.int .i64 (idxB (eqP a b) l 0))) := by
  refine sm_of HE true (by kernel_rfl) ?_
  conv => whnf
  refine loops_by (fun i : Nat => ⟨19, [(0, .d (.slice l.length 2 (encP l))), (3, .ptr 0 0 0 2), (4, .d (.int .i64 0)), (7, .d (.int .i64 l.length)), (8, .d (.int .i64 i))], .unk, [.row (.ds [.int .i64 a, .int .i64 b]) 0 0 []], []⟩)
    (fun i => i ≤ l.length ∧ idxB (eqP a b) l 0 = idxB (eqP a b) (l.drop i) i) (fun i => l.length - i) 0 ⟨Nat.zero_le _, rfl⟩ ?_
  intro n i ⟨hi, hid⟩ ih
  conv => whnf
  cases h1 : ltI (i : Int) (l.length : Int)
  · conv => whnf
    have hn : l.length ≤ i := by rw [ltI_eq] at h1; have := of_decide_eq_false h1; omega
    refine ⟨?_, rfl⟩
    rw [hid, List.drop_eq_nil_of_le hn]; rfl
  · have hlt : i < l.length := by rw [ltI_eq] at h1; have := of_decide_eq_true h1; omega
    have hb : Nat.blt i l.length = true := by simpa [Nat.blt_eq] using hlt
    obtain ⟨p, hp⟩ : ∃ b, l[i]? = some b := ⟨l[i], by simp [hlt]⟩
    conv => whnf
    rw [hb]
    conv => whnf
    rw [show Nat.ble (i * 2 + 2) (encP l).length = true from Nat.ble_eq_true_of_le (by rw [encP_length]; omega)]
    conv => whnf
    rw [encP_at hp]
    conv => whnf
    rw [show andB (eqI a p.fst) (andB (eqI b p.snd) true) = eqP a b p from rfl]
    cases h2 : eqP a b p
    · conv => whnf
      rw [wrap_succ (by omega)]
      exact ih (i + 1) ⟨by omega, by rw [hid, idxB_at hp, h2]⟩ (by omega)
    · conv => whnf
      refine ⟨?_, rfl⟩
      rw [hid, idxB_at hp, h2]; rfl
theorem contains_ok (l : List (Int × Int)) (a b : Int) (hl : l.length < 1000) : Rets Tryz.prog E 12 [.d (.slice l.length 2 (encP l)), .d (.agg [.int .i64 a, .int .i64 b])] (.d (.bool (anyB (eqP a b) l))) := by
  refine sm_of HE true (by kernel_rfl) ?_
  conv => whnf
  refine Rets.use (index_ok l a b hl) ?_
  conv => whnf
  exact ⟨by rw [← idxB_nonneg _ l 0], rfl⟩
/-! ### Places -/
def plE (o : Ord) (n s : Nat) : Int × Int := (1 + ((cnt (fun i => o i s) n : Nat) : Int), (n : Int) - ((cnt (fun i => o s i) n : Nat) : Int))
def plc (o : Ord) (n m : Nat) : List (Int × Int) := (List.range m).map (plE o n)
theorem plc_succ (o : Ord) (n m : Nat) : plc o n (m + 1) = plc o n m ++ [plE o n m] := by
  unfold plc; rw [List.range_succ]; simp
theorem plc_length (o : Ord) (n m : Nat) : (plc o n m).length = m := by simp [plc]
theorem cnt_lt (p : Nat → Bool) (n : Nat) : cnt p n ≤ n := by have := cnt_disj (p := p) (q := fun _ => false) (n := n) (fun _ _ _ h => by cases h); omega
theorem Places_ok (sk er : Int) (rs : List Run3) (hc : chk sk er rs = 0) {o : Ord} (ho : o = clo (prs er rs) o0) (hg : agE o sk = 0) {L : List (Int × Int)} (hL : L = plc o sk.toNat sk.toNat) :
    Rets Tryz.prog E 13 [.d (laD sk er rs)] (.d (.tuple [.slice sk.toNat 2 (encP L), .int .i64 0])) := by
  obtain ⟨F, hF⟩ : ∃ F, F = encO o := ⟨_, rfl⟩
  have ha := agreed_ok sk er rs hc ho hF
  rw [hg] at ha
  unfold deO at ha
  have G := chk_zero hc
  have hk := G.skis
  obtain ⟨n, rfl⟩ : ∃ n : Nat, sk = n := ⟨sk.toNat, by omega⟩
  rw [Int.toNat_natCast] at hL ⊢
  have hFl : F.length = 64 := by rw [hF, encO_length]
  have hdl : (deL n er rs F).length = 67 := by simp [deL, hFl]
  have hdd : ((deL n er rs F).drop (0 + 3)).take 64 = F := by show F.take 64 = F; rw [List.take_of_length_le (by omega)]
  refine sm_of HE true (by kernel_rfl) ?_
  unfold laD labL
  conv => whnf
  refine Sm.mono ha ?_
  rintro v h ⟨rfl, rfl⟩
  conv => whnf
  refine loops_by (fun x : Nat × List (Int × Int) => match x with
      | (a, l) => ⟨55, [(2, .d .nil), (3, .d (.int .i64 0)), (4, .ptr 0 0 0 67), (6, slP l), (22, .d (.int .i64 n)), (23, .d (.int .i64 a))], .unk, deO n er rs F ++ roP l, []⟩)
    (fun x => x.1 ≤ n ∧ x.2 = plc o n x.1) (fun x => n - x.1) (0, []) ⟨Nat.zero_le _, rfl⟩ ?_
  rintro f ⟨a, l⟩ ⟨hi, hl⟩ ih
  simp only at hi hl
  have hll : l.length = a := by rw [hl, plc_length]
  conv => whnf
  cases h1 : ltI (a : Int) (n : Int)
  · have hn : a = n := by rw [ltI_eq] at h1; have := of_decide_eq_false h1; omega
    subst hn
    obtain rfl : l = L := by rw [hl, hL]
    cases l with
    | nil => simp at hll; omega
    | cons p r =>
      simp only [List.length_cons] at hll
      subst hll
      conv => whnf
      rw [may_all]
      conv => whnf
      rw [show Nat.ble (0 + (r.length + 1) * 2) (encP (p :: r)).length = true from Nat.ble_eq_true_of_le (by rw [encP_length]; simp)]
      conv => whnf
      refine ⟨?_, rfl⟩
      rw [row_all (by rw [encP_length]; simp)]
  have hla : a < n := by rw [ltI_eq] at h1; have := of_decide_eq_true h1; omega
  have hpl := place_ok o hF a n (by omega) (by omega)
  unfold prD at hpl
  have c1 := cnt_lt (fun i => o i a) n
  have c2 := cnt_lt (fun i => o a i) n
  have hs := plc_succ o n a
  have he : plE o n a = (1 + ((cnt (fun i => o i a) n : Nat) : Int), (n : Int) - ((cnt (fun i => o a i) n : Nat) : Int)) := rfl
  obtain ⟨x, hx⟩ : ∃ x : Nat, x = cnt (fun i => o i a) n := ⟨_, rfl⟩
  obtain ⟨y, hy⟩ : ∃ y : Nat, y = cnt (fun i => o a i) n := ⟨_, rfl⟩
  rw [← hx, ← hy] at hpl he
  rw [← hx] at c1
  rw [← hy] at c2
  rw [he] at hs
  rcases l with _ | ⟨p, r⟩
  · conv => whnf
    rw [hdl]
    conv => whnf
    rw [hdd]
    conv => whnf
    repeat (rw [fL_rec]; conv => whnf)
    refine Rets.use hpl ?_
    conv => whnf
    rw [wrap_i64 (n := 1 + (x : Int)) (by omega) (by omega), wrap_i64 (n := (n : Int) - (y : Int)) (by omega) (by omega), wrap_succ (by omega)]
    exact ih (a + 1, [(1 + (x : Int), (n : Int) - (y : Int))]) ⟨by simp only; omega, by simp only; rw [hs, ← hl]; rfl⟩ (by simp only; omega)
  · simp only [List.length_cons] at hll
    conv => whnf
    rw [hdl]
    conv => whnf
    rw [hdd]
    conv => whnf
    repeat (rw [fL_rec]; conv => whnf)
    refine Rets.use hpl ?_
    conv => whnf
    rw [show Nat.ble ((r.length + 1 + 1) * 16) 140737488355328 = true from Nat.ble_eq_true_of_le (by omega)]
    conv => whnf
    rw [may_all]
    conv => whnf
    rw [show Nat.beq ((r.length + 1) * 2) (Cells.ds (encP (p :: r))).len = true by simp only [Cells.len, encP_length, List.length_cons]; exact Nat.beq_refl _, wrap_i64 (n := 1 + (x : Int)) (by omega) (by omega), wrap_i64 (n := (n : Int) - (y : Int)) (by omega) (by omega), wrap_succ (by omega), List.take_of_length_le (by rw [encP_length]; simp)]
    have e1 : encP (p :: r) ++ [D.int .i64 (1 + (x : Int)), D.int .i64 ((n : Int) - (y : Int))] = encP (p :: (r ++ [(1 + (x : Int), (n : Int) - (y : Int))])) := encP_snoc (p :: r) (1 + (x : Int), (n : Int) - (y : Int))
    rw [e1, show r.length + 1 = (r ++ [(1 + (x : Int), (n : Int) - (y : Int))]).length by simp]
    exact ih (a + 1, p :: (r ++ [(1 + (x : Int), (n : Int) - (y : Int))])) ⟨by simp only; omega, by simp only; rw [hs, ← hl]; rfl⟩ (by simp only; omega)
end Go.Proofs.Rx
