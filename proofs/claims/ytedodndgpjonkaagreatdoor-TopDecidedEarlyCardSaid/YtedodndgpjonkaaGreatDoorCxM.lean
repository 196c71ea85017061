/-
  TopDecidedEarly: what a skier has.
-/
import Derived.Test.YtedodndgpjonkaaGreatDoorCxK
section
namespace Go.Proofs.Cx
open Go Go.Ab Go.Proofs.Cw
set_option maxRecDepth 100000
set_option maxHeartbeats 40000000
/-- A form's cells. -/
def formL (t : Int) (f : Nat → Int) : List D := .int .i64 t :: (List.range 61).map fun p => .int .i64 (f p)
theorem formL_length (t : Int) (f : Nat → Int) : (formL t f).length = 62 := by simp [formL]
theorem formL_get {t : Int} {f : Nat → Int} {F : List D} (hF : F = formL t f) {p : Nat} (hp : p < 61) : F[0 + 1 + p * 1]? = some (.int .i64 (f p)) := by
  rw [hF, show 0 + 1 + p * 1 = p + 1 by omega]
  show ((List.range 61).map fun p => D.int .i64 (f p))[p]? = _
  simp [hp]
theorem formL_get0 {t : Int} {f : Nat → Int} {F : List D} (hF : F = formL t f) : F[0 + 0]? = some (.int .i64 t) := by rw [hF]; rfl
def upd (f : Nat → Int) (p : Nat) (x : Int) : Nat → Int := fun q => if q = p then x else f q
theorem wr_range (f : Nat → Int) (x : Int) : ∀ (n k p : Nat), p < n → wr ((List.range' k n).map fun p => D.int .i64 (f p)) p [D.int .i64 x] = (List.range' k n).map fun q => D.int .i64 (upd f (k + p) x q)
  | 0, _, _, h => absurd h (by omega)
  | n + 1, k, 0, _ => by
    rw [List.range'_succ, List.map_cons, List.map_cons]
    show _ :: wr _ 0 [] = _
    rw [show wr ((List.range' (k + 1) n).map fun p => D.int .i64 (f p)) 0 [] = (List.range' (k + 1) n).map fun p => D.int .i64 (f p) from wr_nil _ _]
    congr 1
    · simp [upd]
    · refine List.map_congr_left fun q hq => ?_
      have := List.mem_range'_1.1 hq
      unfold upd
      rw [if_neg (by omega)]
  | n + 1, k, p + 1, h => by
    rw [List.range'_succ, List.map_cons, List.map_cons]
    show _ :: wr _ p _ = _
    rw [wr_range f x n (k + 1) p (by omega)]
    congr 1
    · unfold upd; rw [if_neg (by omega)]
    · rw [show k + 1 + p = k + (p + 1) by omega]
theorem formL_write {t : Int} {f : Nat → Int} {F : List D} (hF : F = formL t f) {p : Nat} (hp : p < 61) (x : Int) {F2 : List D} (hF2 : F2 = formL t (upd f p x)) : (Cells.ds F).write (0 + 1 + p * 1) [V.d (D.int .i64 x)] = some (.ds F2) := by
  unfold Cells.write
  rw [ble_t (i := 0 + 1 + p * 1 + [V.d (D.int .i64 x)].length) (n := (Cells.ds F).len) (by simp only [List.length_cons, List.length_nil, Cells.len]; rw [hF, formL_length]; omega)]
  simp only [allD]
  rw [hF, hF2, show 0 + 1 + p * 1 = p + 1 by omega]
  have := wr_range f x 61 0 p hp
  rw [Nat.zero_add, ← List.range_eq_range'] at this
  show some (Cells.ds (_ :: wr _ p _)) = _
  rw [this]
  rfl
theorem formL_write0 {t : Int} {f : Nat → Int} {F : List D} (hF : F = formL t f) (x : Int) {F2 : List D} (hF2 : F2 = formL x f) : (Cells.ds F).write (0 + 0) [V.d (D.int .i64 x)] = some (.ds F2) := by
  unfold Cells.write
  rw [ble_t (i := 0 + 0 + [V.d (D.int .i64 x)].length) (n := (Cells.ds F).len) (by simp only [List.length_cons, List.length_nil, Cells.len]; rw [hF, formL_length]; omega)]
  simp only [allD]
  rw [hF, hF2]
  show some (Cells.ds (_ :: wr _ 0 [])) = _
  rw [wr_nil]
  rfl
theorem sum2 (a b : Int) (h : 0 ≤ a ∧ a ≤ 10000000) (hb : 0 ≤ b ∧ b ≤ 10000000) : Sm Tryz.prog E 79 [.slice 0 0 0 2 1] [.row (.ds [.int .i64 a, .int .i64 b]) 0 0 []] (fun v h => v = .d (.int .i64 (a + b)) ∧ h = [.row (.ds [.int .i64 a, .int .i64 b]) 0 0 []]) := by
  refine sm_of HE true (by kernel_rfl) ?_
  conv => whnf
  refine ⟨3, ?_⟩
  conv => whnf
  rw [wrap_i64 (n := 0 + a) (by omega) (by omega), show (0 : Int) + a = a by omega]
  rw [wrap_i64 (n := a + b) (by omega) (by omega)]
  exact ⟨rfl, rfl⟩
theorem wr_all : ∀ {l m : List D}, l.length = m.length → wr l 0 m = m
  | [], [], _ => rfl
  | _ :: l, x :: m, h => by
    show x :: wr l 0 m = _
    rw [wr_all (by simpa using h)]
  | [], _ :: _, h => by simp at h
  | _ :: _, [], h => by simp at h
theorem write_all {Z F : List D} (hz : Z.length = F.length) : (Cells.ds Z).write 0 (F.map V.d) = some (.ds F) := by
  unfold Cells.write
  simp only [Cells.len, List.length_map]
  rw [show Nat.ble (0 + F.length) Z.length = true from Nat.ble_eq_true_of_le (by omega), allD_map]
  simp only
  rw [wr_all hz]
def zf : Nat → Int := fun _ => 0
def pf (R : List (List Int)) (s : Nat) : Nat → Int := fun p => if p = 0 then 0 else plc R s p
theorem form_ok {nn rr bb : Int} {P : List Int} {R : List (List Int)} {n : Nat} (O : Pt P) (hR : Rc n R) {s : Nat} (hs : s < n) (hbb : 1 ≤ bb ∧ bb ≤ 20) (hR1 : 1 ≤ R.length) (hR12 : R.length ≤ 12) {G : List D} (hG : G = formL (Tt P bb.toNat R s) (pf R s)) :
    Rets Tryz.prog E 59 [.d (cupD nn rr bb P R), .d (.int .i64 s)] (.d (.agg G)) := by
  have hcnt := progCounted (nn := nn) (rr := rr) O hR hs hbb hR1 hR12
  have hmem : ∀ x ∈ cL P bb.toNat R s, ∃ j : Nat, x = j ∧ j < R.length := fun x => cL_mem
  have hlen := cL_length (P := P) (b := bb.toNat) (R := R) (s := s)
  rw [← cL_tot] at hG
  generalize cL P bb.toNat R s = L at *
  obtain ⟨sc, hsc⟩ : ∃ sc : Nat → Int, sc = fun j => scr P (row R j) s := ⟨_, rfl⟩
  have hpoints : ∀ (j : Nat) r, R[j]? = some r → (0 ≤ sc j ∧ sc j ≤ 60000) ∧ Rets Tryz.prog E 80 [.d (cupD nn rr bb P R), .d (.slice r.length 1 (encI r)), .d (.int .i64 s)] (.d (.int .i64 (sc j))) := fun j r hr => by
    have := hR.at hr
    have h12 := hR.sk
    rw [hsc]
    simp only
    rw [row_of hr]
    exact ⟨scr_le' O (by omega), points_ok O (by omega) (by omega) this.2⟩
  have hg : ∀ x : Int, scr P (row R x.toNat) s = sc x.toNat := fun x => by rw [hsc]
  simp only [hg] at hG
  refine sm_of HE true (by kernel_rfl) ?_
  unfold cupD at hcnt hpoints
  unfold cupD
  unfold cupL at hcnt hpoints ⊢
  conv => whnf
  refine Rets.use hcnt ?_
  conv => whnf
  refine loops_by (fun x : Nat × Int × List D => match x with
      | (i, t, F) => ⟨59, [(1, .d (.int .i64 s)), (2, .ptr 0 0 0 5), (4, .ptr 1 0 0 62), (5, .ptr 2 0 0 62), (12, .d (.slice L.length 1 (encI L))), (13, .d (.int .i64 L.length)), (14, .d (.int .i64 i))], .unk,
        [.row (.ds (cupL nn rr bb P R)) 0 0 [], .row (.ds (List.replicate 62 (.int .i64 0))) 0 0 [], .row (.ds F) 0 0 []], []⟩)
    (fun x => x.1 ≤ L.length ∧ x.2.1 = ((L.take x.1).map fun x => sc x.toNat).sum ∧ x.2.2 = formL x.2.1 zf) (fun x => L.length - x.1) (0, 0, List.replicate 62 (.int .i64 0)) ⟨Nat.zero_le _, rfl, rfl⟩ ?_
  rintro f ⟨i, t, F⟩ ⟨hi, ht, hF⟩ ih
  simp only at hi ht hF
  have hFl : F.length = 62 := by rw [hF, formL_length]
  have htb := sum_bound (m := 60000) ((L.take i).map fun x => sc x.toNat) fun y hy => by
    obtain ⟨z, hz, rfl⟩ := List.mem_map.1 hy
    obtain ⟨q, rfl, hq⟩ := hmem z (List.mem_of_mem_take hz)
    obtain ⟨r, hr⟩ := at_some hq
    exact (hpoints q r hr).1
  rw [← ht] at htb
  have hln : ((L.take i).map fun x => sc x.toNat).length ≤ 12 := by simp; omega
  conv => whnf
  cases h1 : ltI (i : Int) (L.length : Int)
  · have := ltI_f h1
    rw [List.take_of_length_le (by omega)] at ht
    rw [← ht] at hG
    conv => whnf
    refine loops_by (fun x : Nat × List D => match x with
        | (i, F) => ⟨59, [(1, .d (.int .i64 s)), (4, .ptr 0 0 0 62), (5, .ptr 1 0 0 62), (36, .d (.slice R.length 1 (encLL R))), (37, .d (.int .i64 R.length)), (38, .d (.int .i64 i))], .unk,
          [.row (.ds (List.replicate 62 (.int .i64 0))) 0 0 [], .row (.ds F) 0 0 []], []⟩)
      (fun x => x.1 ≤ R.length ∧ x.2 = formL t (pf (R.take x.1) s)) (fun x => R.length - x.1) (0, F) ⟨Nat.zero_le _, by
        rw [hF]
        exact congrArg (formL t) (by funext p; simp [pf, zf, plc])⟩ ?_
    clear ih h1 this hF hFl F
    rintro f ⟨i, F⟩ ⟨hi, hF⟩ ih
    simp only at hi hF
    have hFl : F.length = 62 := by rw [hF, formL_length]
    conv => whnf
    cases h1 : ltI (i : Int) (R.length : Int)
    · have := ltI_f h1
      rw [List.take_of_length_le (by omega)] at hF
      have hFG : F = G := hF.trans hG.symm
      conv => whnf
      rw [hFl]
      conv => whnf
      rw [row_all hFl]
      conv => whnf
      rw [fL_rec]
      conv => whnf
      rw [show (List.map V.d F).length = 62 by rw [List.length_map, hFl]]
      conv => whnf
      rw [write_all]
      rotate_left
      · rw [hFl]; rfl
      conv => whnf
      rw [hFl]
      conv => whnf
      rw [row_all hFl]
      conv => whnf
      rw [fL_rec]
      conv => whnf
      exact ⟨by rw [hFG], rfl⟩
    have hlt := ltI_t h1
    have hb := blt_t (i := i) (n := R.length) (by omega)
    obtain ⟨r, hr⟩ := at_some (l := R) (i := i) (by omega)
    have hrR := hR.at hr
    have hbs := blt_t (i := s) (n := r.length) (by omega)
    obtain ⟨p, hp⟩ := at_some (l := r) (i := s) (by omega)
    have hpb := hrR.2 p (List.mem_of_getElem? hp)
    obtain ⟨pN, rfl⟩ : ∃ pN : Nat, p = pN := ⟨p.toNat, by omega⟩
    have hct : ∀ q : Nat, plc (R.take (i + 1)) s q = plc (R.take i) s q + (if pN = q then 1 else 0) := fun q => by
      unfold plc
      rw [countP_take hr, pl_of hp]
      by_cases h : pN = q
      · subst h; simp
      · have : ¬ ((pN : Int) = q) := by omega
        simp [h, this]
    conv => whnf
    rw [hb]
    conv => whnf
    rw [encLL_get1 hr]
    conv => whnf
    rw [hbs]
    conv => whnf
    rw [encI_get1 hp]
    conv => whnf
    cases h2 : ltI 0 (pN : Int)
    · have h2 := ltI_f h2
      conv => whnf
      rw [wrap_succ (by omega)]
      refine ih (i + 1, F) ⟨by simp only; omega, ?_⟩ (by simp only; omega)
      simp only
      rw [hF]
      refine congrArg (formL t) ?_
      funext q
      unfold pf
      rw [hct]
      split
      · rfl
      · rw [if_neg (by omega)]; omega
    have h2 := ltI_t h2
    have hbp := blt_t (i := pN) (n := 61) (by omega)
    obtain ⟨F2, hF2⟩ : ∃ F2, F2 = formL t (upd (pf (R.take i) s) pN (pf (R.take i) s pN + 1)) := ⟨_, rfl⟩
    have hpfb : 0 ≤ pf (R.take i) s pN ∧ pf (R.take i) s pN ≤ 100 := by
      unfold pf
      rw [if_neg (by omega)]
      have h1 := plc_nonneg (R.take i) s pN
      have h2 := plc_le (R.take i) s pN
      simp only [List.length_take] at h2
      omega
    conv => whnf
    rw [hbs]
    conv => whnf
    rw [encI_get1 hp]
    conv => whnf
    rw [hbp]
    conv => whnf
    rw [ble_t (i := 0 + 1 + pN * 1 + 1) (n := 62) (by omega)]
    conv => whnf
    rw [formL_get hF (by omega)]
    conv => whnf
    rw [wrap_i64 (n := pf (R.take i) s pN + 1) (by omega) (by omega)]
    conv => whnf
    rw [hbp]
    conv => whnf
    rw [ble_t (i := 0 + 1 + pN * 1 + 1) (n := 62) (by omega)]
    conv => whnf
    rw [ble_t (i := 0 + 1 + pN * 1 + [V.d (D.int .i64 (pf (R.take i) s pN + 1))].length) (n := (Cells.ds F).len) (by simp only [List.length_cons, List.length_nil, Cells.len]; omega)]
    conv => whnf
    rw [formL_write hF (by omega) _ hF2]
    conv => whnf
    rw [wrap_succ (by omega)]
    refine ih (i + 1, F2) ⟨by simp only; omega, ?_⟩ (by simp only; omega)
    simp only
    rw [hF2]
    refine congrArg (formL t) ?_
    funext q
    unfold upd pf
    rw [hct]
    by_cases hq : q = pN
    · subst hq
      rw [if_pos rfl, if_neg (by omega), if_neg (by omega), if_pos rfl]
    · have hq2 : ¬ pN = q := fun h => hq h.symm
      simp [hq, hq2]
  have hlt := ltI_t h1
  have hb := blt_t (i := i) (n := L.length) (by omega)
  obtain ⟨x, hx⟩ := at_some (l := L) (i := i) (by omega)
  obtain ⟨j, rfl, hj⟩ := hmem x (List.mem_of_getElem? hx)
  obtain ⟨r, hr⟩ := at_some hj
  have hbj := blt_t hj
  obtain ⟨hsj, hpt⟩ := hpoints j r hr
  have hnx : ((L.take (i + 1)).map fun x => sc x.toNat).sum = t + sc j := by rw [List.take_add_one, hx, ht]; simp
  obtain ⟨F2, hF2⟩ : ∃ F2, F2 = formL (t + sc j) zf := ⟨_, rfl⟩
  conv => whnf
  rw [hb]
  conv => whnf
  rw [encI_get1 hx]
  conv => whnf
  rw [formL_get0 hF]
  conv => whnf
  rw [hbj]
  conv => whnf
  rw [encLL_get1 hr]
  conv => whnf
  refine Rets.use hpt ?_
  conv => whnf
  refine Sm.mono (sum2 t (sc j) (by omega) (by omega)) ?_
  rintro v h ⟨rfl, rfl⟩
  conv => whnf
  rw [ble_t (i := 0 + 0 + [V.d (D.int .i64 (t + sc j))].length) (n := (Cells.ds F).len) (by simp only [List.length_cons, List.length_nil, Cells.len]; omega)]
  conv => whnf
  rw [formL_write0 hF _ hF2]
  conv => whnf
  rw [wrap_succ (by omega)]
  exact ih (i + 1, t + sc j, F2) ⟨by simp only; omega, hnx.symm, hF2⟩ (by simp only; omega)
end Go.Proofs.Cx
end
section
/-
  TopDecidedEarly: what a skier has is better than what another one has.
-/
namespace Go.Proofs.Cx
open Go Go.Ab Go.Proofs.Cw
set_option maxRecDepth 100000
set_option maxHeartbeats 40000000
theorem eqCells_ints : ∀ (l m : List Int), l.length = m.length → ∃ r, eqCells (encI l) (encI m) = some r ∧ (r = true ↔ l = m)
  | [], [], _ => ⟨true, rfl, by simp⟩
  | x :: l, y :: m, h => by
    obtain ⟨r, h1, h2⟩ := eqCells_ints l m (by simpa using h)
    refine ⟨andB (eqI x y) r, ?_, ?_⟩
    · show (match eqCell (.int .i64 x) (.int .i64 y), eqCells (encI l) (encI m) with | some x, some y => some (andB x y) | _, _ => none) = _
      rw [h1]
      rfl
    · cases hxy : eqI x y
      · have := eqI_f hxy
        simp [andB, this]
      · have := eqI_t hxy
        simp [andB, this, h2]
  | [], _ :: _, h => by simp at h
  | _ :: _, [], h => by simp at h
theorem fit_ints : ∀ (l : List Int), fitL (List.replicate l.length 1) (encI l) = true
  | [] => rfl
  | _ :: l => by
    show fitL (List.replicate l.length 1) (encI l) = true
    exact fit_ints l
def ints (f : Nat → Int) : List Int := (List.range 61).map f
theorem formL_ints (t : Int) (f : Nat → Int) : formL t f = encI (t :: ints f) := by
  unfold formL ints encI
  rw [List.map_cons, List.map_map]
  rfl
theorem ints_iff {f g : Nat → Int} : ints f = ints g ↔ ∀ p, p < 61 → f p = g p := by
  unfold ints
  constructor
  · intro h p hp
    have := congrArg (·[p]?) h
    simpa [hp] using this
  · intro h
    exact List.map_congr_left fun p hp => h p (by simpa using hp)
theorem lexB_same (f : Nat → Int) {g : Nat → Int} : ∀ (n p : Nat), (∀ q, p ≤ q → q < p + n → f q = g q) → lexB f g n p = false
  | 0, _, _ => rfl
  | n + 1, p, h => by
    unfold lexB
    rw [if_pos (h p (Nat.le_refl _) (by omega))]
    exact lexB_same f n (p + 1) fun q h1 h2 => h q (by omega) (by omega)
def btrF (a b : Int) (f g : Nat → Int) : Bool := if a = b then lexB f g 60 1 else decide (b < a)
theorem k107 : kindsOf Tryz.prog 107 = List.replicate 62 1 := by kernel_rfl
theorem m107 : memN 107 flats = true := rfl
theorem eq107 {l m : List Int} (hl : l.length = 62) (hm : m.length = 62) {F G : List D} (hF : F = encI l) (hG : G = encI m) : ∃ r, binV E false .eql 107 (.d (.agg F)) (.d (.agg G)) = some (.d (.bool r)) ∧ (r = true ↔ l = m) := by
  obtain ⟨r, h1, h2⟩ := eqCells_ints l m (by omega)
  refine ⟨r, ?_, h2⟩
  have hfit := fit_ints l
  rw [hl, ← hF] at hfit
  rw [← hF, ← hG] at h1
  conv =>
    lhs
    whnf
  have he : eqV E false 107 (.d (.agg F)) (.d (.agg G)) = some r := by
    conv =>
      lhs
      whnf
    change (match fitL (kindsOf Tryz.prog 107) F, memN 107 flats with | true, true => eqCells F G | _, _ => none) = some r
    rw [k107, m107, hfit]
    exact h1
  rw [he]
theorem k105 : kindsOf Tryz.prog 105 = List.replicate 61 1 := by kernel_rfl
theorem m105 : memN 105 flats = true := rfl
theorem eq105 {l m : List Int} (hl : l.length = 61) (hm : m.length = 61) {F G : List D} (hF : F = encI l) (hG : G = encI m) : ∃ r, binV E false .eql 105 (.d (.agg F)) (.d (.agg G)) = some (.d (.bool r)) ∧ (r = true ↔ l = m) := by
  obtain ⟨r, h1, h2⟩ := eqCells_ints l m (by omega)
  refine ⟨r, ?_, h2⟩
  have hfit := fit_ints l
  rw [hl, ← hF] at hfit
  rw [← hF, ← hG] at h1
  conv =>
    lhs
    whnf
  have he : eqV E false 105 (.d (.agg F)) (.d (.agg G)) = some r := by
    conv =>
      lhs
      whnf
    change (match fitL (kindsOf Tryz.prog 105) F, memN 105 flats with | true, true => eqCells F G | _, _ => none) = some r
    rw [k105, m105, hfit]
    exact h1
  rw [he]
theorem better61 {a b : Int} {f g : Nat → Int} {F G : List D} (hF : F = formL a f) (hG : G = formL b g) : Rets Tryz.prog E 61 [.d (.agg F), .d (.agg G)] (.d (.bool (btrF a b f g))) := by
  have hFl : F.length = 62 := by rw [hF, formL_length]
  have hGl : G.length = 62 := by rw [hG, formL_length]
  refine sm_of HE true (by kernel_rfl) ?_
  conv => whnf
  rw [show (List.map V.d F).length = 62 by rw [List.length_map, hFl], ofV_map]
  conv => whnf
  rw [show (List.map V.d G).length = 62 by rw [List.length_map, hGl], ofV_map]
  conv => whnf
  rw [hFl]
  conv => whnf
  rw [row_all hFl]
  conv => whnf
  rw [fL_rec]
  conv => whnf
  rw [hGl]
  conv => whnf
  rw [row_all hGl]
  conv => whnf
  rw [fL_rec]
  conv => whnf
  conv in (binV _ _ _ _ _ _) =>
    arg 2
    whnf
  conv in (binV _ _ _ _ _ _) =>
    arg 5
    whnf
  conv in (binV _ _ _ _ _ _) =>
    arg 6
    whnf
  obtain ⟨r1, e1, e1'⟩ := eq107 (l := a :: ints f) (m := b :: ints g) (by simp [ints]) (by simp [ints]) (hF.trans (formL_ints a f)) (hG.trans (formL_ints b g))
  rw [e1]
  obtain ⟨F', rfl⟩ : ∃ F', F = .int .i64 a :: F' := ⟨_, hF⟩
  obtain ⟨G', rfl⟩ : ∃ G', G = .int .i64 b :: G' := ⟨_, hG⟩
  have hF' : F' = encI (ints f) := by rw [formL_ints] at hF; exact (List.cons.inj hF).2
  have hG' : G' = encI (ints g) := by rw [formL_ints] at hG; exact (List.cons.inj hG).2
  have hFl' : F'.length = 61 := by simpa using hFl
  have hGl' : G'.length = 61 := by simpa using hGl
  cases r1
  case true =>
    have h := e1'.1 rfl
    simp only [List.cons.injEq] at h
    obtain ⟨h3, h4⟩ := h
    have h5 : btrF a b f g = false := by
      unfold btrF
      rw [if_pos h3]
      exact lexB_same f 60 1 fun q _ h => ints_iff.1 h4 q (by omega)
    rw [h5]
    conv => whnf
    subst h3
    rw [ltI_ff (Int.le_refl a)]
    exact ⟨rfl, rfl⟩
  conv => whnf
  cases h0 : eqI a b
  · have h0 := eqI_f h0
    have h5 : btrF a b f g = ltI b a := by
      unfold btrF
      rw [if_neg h0, ltI_eq]
    rw [h5]
    conv => whnf
    exact ⟨rfl, rfl⟩
  have h0 := eqI_t h0
  unfold btrF
  rw [if_pos h0]
  have tF : ((D.int .i64 a :: F').drop (0 + 1)).take 61 = F' := by show F'.take 61 = F'; rw [List.take_of_length_le (by omega)]
  have tG : ((D.int .i64 b :: G').drop (0 + 1)).take 61 = G' := by show G'.take 61 = G'; rw [List.take_of_length_le (by omega)]
  conv => whnf
  rw [ble_t (i := 0 + 1 + 61) (by omega)]
  conv => whnf
  rw [tF]
  conv => whnf
  rw [fL_rec]
  conv => whnf
  rw [ble_t (i := 0 + 1 + 61) (by omega)]
  conv => whnf
  rw [tG]
  conv => whnf
  rw [fL_rec]
  conv => whnf
  conv in (binV _ _ _ _ _ _) =>
    arg 2
    whnf
  conv in (binV _ _ _ _ _ _) =>
    arg 5
    whnf
  conv in (binV _ _ _ _ _ _) =>
    arg 6
    whnf
  obtain ⟨r2, e2, e2'⟩ := eq105 (l := ints f) (m := ints g) (by simp [ints]) (by simp [ints]) hF' hG'
  rw [e2]
  cases r2
  case true =>
    have h := e2'.1 rfl
    rw [lexB_same f 60 1 fun q _ h1 => ints_iff.1 h q (by omega)]
    conv => whnf
    exact ⟨rfl, rfl⟩
  conv => whnf
  refine loops_by (fun p : Nat => ⟨48, [(2, .ptr 0 0 0 62), (3, .ptr 1 0 0 62), (4, .d (.bool false)), (5, .d (.int .i64 (p + 1 : Nat)))], .unk, [.row (.ds (D.int .i64 a :: F')) 0 0 [], .row (.ds (D.int .i64 b :: G')) 0 0 []], []⟩)
    (fun p => p ≤ 60 ∧ lexB f g 60 1 = lexB f g (60 - p) (p + 1)) (fun p => 60 - p) 0 ⟨Nat.zero_le _, rfl⟩ ?_
  intro n p ⟨hp, hl⟩ ih
  rw [hl]
  conv => whnf
  cases h1 : leI ((p + 1 : Nat) : Int) 60
  · have h60 : p = 60 := by rw [leI_eq] at h1; have := of_decide_eq_false h1; omega
    subst h60
    conv => whnf
    exact ⟨rfl, rfl⟩
  have h60 : p < 60 := by rw [leI_eq] at h1; have := of_decide_eq_true h1; omega
  obtain ⟨m, hm⟩ : ∃ m, 60 - p = m + 1 := ⟨59 - p, by omega⟩
  have hl2 : lexB f g (m + 1) (p + 1) = if f (p + 1) = g (p + 1) then lexB f g m (p + 1 + 1) else decide (g (p + 1) < f (p + 1)) := rfl
  rw [hm] at hl ⊢
  rw [hl2] at hl ⊢
  have gf := formL_get hF (show p + 1 < 61 by omega)
  have gg := formL_get hG (show p + 1 < 61 by omega)
  have hb := blt_t (i := p + 1) (n := 61) (by omega)
  generalize f (p + 1) = x at *
  generalize g (p + 1) = y at *
  conv => whnf
  rw [hb]
  conv => whnf
  rw [ble_t (i := 0 + 1 + (p + 1) * 1 + 1) (n := 62) (by omega)]
  conv => whnf
  rw [gf]
  conv => whnf
  rw [hb]
  conv => whnf
  rw [ble_t (i := 0 + 1 + (p + 1) * 1 + 1) (n := 62) (by omega)]
  conv => whnf
  rw [gg]
  conv => whnf
  cases h2 : eqI x y
  · rw [if_neg (eqI_f h2), ← ltI_eq]
    conv => whnf
    rw [hb]
    conv => whnf
    rw [ble_t (i := 0 + 1 + (p + 1) * 1 + 1) (n := 62) (by omega)]
    conv => whnf
    rw [gf]
    conv => whnf
    rw [hb]
    conv => whnf
    rw [ble_t (i := 0 + 1 + (p + 1) * 1 + 1) (n := 62) (by omega)]
    conv => whnf
    rw [gg]
    conv => whnf
    exact ⟨rfl, rfl⟩
  · rw [if_pos (eqI_t h2)] at hl ⊢
    conv => whnf
    rw [wrap_succ (by omega)]
    rw [← hl]
    exact ih (p + 1) ⟨by omega, by rw [hl, show 60 - (p + 1) = m by omega]⟩ (by omega)
end Go.Proofs.Cx
end
