/-
  TopLaid: shots that hit nothing.
-/
import Derived.Test.YtldpapiaonchaaaGreatDoorDxT
import Derived.Test.YtldpapiaonchaaaGreatDoorDxFC
namespace Go.Proofs.Dx
open Go Go.Ab Go.Proofs.Dw
set_option maxRecDepth 100000
set_option maxHeartbeats 40000000
noncomputable def code12 : Code × Code := rfOf' Tryz.f12
noncomputable def hp12 (S N : List Int) (A ps : List (Int × Int)) (i : Nat) (t : Tb) (dn : Int) : List O := [.loop ⟨.ready, none, 12, 91, [(4, .ptr 2 0 0 1), (9, .ptr 5 0 0 1), (10, .d .unk), (35, .d .undef)], .unk, [35], code12.1, code12.2, 1⟩, .dfr, .row (.vs [.ptr 3 0 0 92]) 0 0 [], dkA S N A 4 t, mpO ps, .row (.ds [.int .i64 dn]) 0 0 [], .row (.vs [.ptr 3 0 0 92]) 0 0 [], .row (.vs [.func 48 [.ptr 3 0 0 92] []]) 0 0 [], .row (.ds [.int .i64 i]) 0 0 []]
open Classical in
/-- The targets of the lanes below q that a skier can have hit. -/
noncomputable def dnS (N : List Int) (ps : List (Int × Int)) (s q : Nat) : Int := sumR q (fun l => if cP ps s l then fn N l else 0)
theorem dnS_yes {N : List Int} {ps : List (Int × Int)} {s q : Nat} (h : cP ps s q) : dnS N ps s (q + 1) = dnS N ps s q + fn N q := by
  unfold dnS
  rw [sumR_succ, if_pos h]
theorem dnS_no {N : List Int} {ps : List (Int × Int)} {s q : Nat} (h : ¬ cP ps s q) : dnS N ps s (q + 1) = dnS N ps s q := by
  unfold dnS
  rw [sumR_succ, if_neg h]; omega
theorem each50w {S N : List Int} {A ps : List (Int × Int)} (hn : N.length ≤ 8) (hN : ∀ q, q < N.length → 0 ≤ fn N q ∧ fn N q ≤ 5) (i : Nat) (t : Tb) :
    Sm Tryz.prog E 50 [.yield 0, .ptr 6 0 0 1, .ptr 7 0 0 1, .ptr 8 0 0 1] (hp12 S N A ps i t 0) (fun v h => v = .d (.tuple []) ∧ h = hp12 S N A ps i t (dnS N ps i N.length) ∧ 0 ≤ dnS N ps i N.length ∧ dnS N ps i N.length ≤ 40) := by
  refine sm_of HE true (by kernel_rfl) ?_
  unfold hp12 dkA mpO
  conv => whnf
  refine loops_by (fun q : Nat => ⟨26, [(0, .yield 0), (2, .ptr 7 0 0 1), (3, .ptr 8 0 0 1), (11, .d (.int .i64 N.length)), (12, .d (.int .i64 q))], .unk, hp12 S N A ps i t (dnS N ps i q), []⟩)
    (fun q => q ≤ N.length ∧ 0 ≤ dnS N ps i q ∧ dnS N ps i q ≤ 5 * q) (fun q => N.length - q) 0 ⟨Nat.zero_le _, Int.le_refl _, Int.le_refl _⟩ ?_
  rintro f q ⟨hq, hd0, hd1⟩ ih
  unfold hp12 dkA mpO
  conv => whnf
  cases h1 : ltI (q : Int) (N.length : Int)
  case false =>
    have h1 := ltI_f h1
    obtain rfl : q = N.length := by omega
    conv => whnf
    exact ⟨rfl, rfl, hd0, by omega⟩
  have h1 := ltI_t h1
  have hx := at_fn (l := N) (q := q) (by omega)
  have hxb := hN q (by omega)
  have hcan := can48A S N A ps t i q
  unfold dkA mpO at hcan
  conv => whnf
  refine Sm.mono hcan ?_
  rintro v h ⟨rfl, rfl⟩
  cases hc : cB ps i q
  case false =>
    have e1 := dnS_no (N := N) (cB_f hc)
    have k := ih (q + 1) ⟨by omega, by omega, by omega⟩ (by omega)
    rw [e1] at k
    unfold hp12 dkA mpO at k
    conv => whnf
    rw [wrap_succ (by omega)]
    exact k
  have e1 := dnS_yes (N := N) (cB_t hc)
  have k := ih (q + 1) ⟨by omega, by omega, by omega⟩ (by omega)
  rw [e1] at k
  unfold hp12 dkA mpO at k
  conv => whnf
  refine sy_of HE ?_
  conv => whnf
  rw [blt_t (i := q) (n := N.length) (by omega)]
  conv => whnf
  rw [encI_get1 hx]
  conv => whnf
  rw [wrap_i64 (n := dnS N ps i q + fn N q) (by omega) (by omega)]
  conv => whnf
  rw [wrap_succ (by omega)]
  exact k
/-- The search with few shots of a skier. -/
def Ff (S N : List Int) (A : List (Int × Int)) (s : Nat) (x : Int) : Prop := ∃ h, Asg S.length (fS (fn S) s x) (fn N) (cP (mayL S.length A)) h
theorem fn_fS {S : List Int} {s q : Nat} {x : Int} (hs : s < S.length) : fn (S.set s x) q = fS (fn S) s x q := fn_set hs
theorem few_solve {S N : List Int} {A : List (Int × Int)} (O : OkT S N A) {s : Nat} (hs : s < S.length) {x : Int} (hx0 : 0 ≤ x) (hxm : x ≤ fn S s) :
    Sm Tryz.prog E 27 [.ptr 0 0 0 92] (hdC (S.set s x) N A (mayL S.length A) Tb.z) (fun v h => ∃ d : Tb, h = hdC (S.set s x) N A (mayL S.length A) d ∧ ((v = .d .nil ∧ Ff S N A s x) ∨ (∃ a w, v = lsV (a :: w) ∧ ¬ Ff S N A s x))) := by
  have h6 := O.h6
  have hN := O.ok.hN
  have hss := O.ok.s s hs
  have hSl : (S.set s x).length = S.length := List.length_set
  have b1 : ∀ q, q < S.length → 0 ≤ fn (S.set s x) q ∧ fn (S.set s x) q ≤ 8 := fun q hq => by
    have := O.ok.s q hq
    rw [fn_set hs]
    split
    · omega
    · exact this
  refine Sm.mono (solve27C (S := S.set s x) (N := N) (A := A) (ps := mayL S.length A) (by omega) (by omega) (fun q hq => (b1 q (by omega)).2) (fun q hq => (b1 q (by omega)).1) (fun q hq => by have := O.ok.n q (by omega); omega)) ?_
  rintro v h ⟨d, _, rfl, h⟩
  rw [hSl] at h
  refine ⟨d, rfl, ?_⟩
  rcases h with ⟨rfl, As⟩ | ⟨w, rfl, hne, hpw, hlt, hlk⟩
  · exact .inl ⟨rfl, _, asg_congr As (fun q _ => fn_fS hs) (fun _ _ => rfl) fun _ _ _ _ h => h⟩
  · obtain ⟨a, w, rfl⟩ : ∃ a w', w = a :: w' := by
      cases w with
      | nil => exact absurd rfl hne
      | cons a w => exact ⟨a, w, rfl⟩
    refine .inr ⟨a, w, rfl, fun ⟨h, B⟩ => ?_⟩
    have B' : Asg S.length (fn (S.set s x)) (fn N) (cP (mayL S.length A)) h := asg_congr B (fun q _ => (fn_fS hs).symm) (fun _ _ => rfl) fun _ _ _ _ h => h
    have := Part.short B' (fun k => k ∈ a :: w)
    omega
/-- What is wasted lies in a span. -/
def WsP (S N : List Int) (A : List (Int × Int)) (s : Nat) (p : Int × Int) : Prop := ∀ h, Asg S.length (fn S) (fn N) (cP (mayL S.length A)) h → p.1 ≤ fn S s - sumR S.length (fun l => h s l) ∧ fn S s - sumR S.length (fun l => h s l) ≤ p.2
theorem wsp_of {S N : List Int} {A : List (Int × Int)} (hN : N.length = S.length) {s : Nat} (hs : s < S.length) {few : Int} (hall : ∀ y, 0 ≤ y → y < few → ¬ Ff S N A s y) :
    WsP S N A s (fn S s - (if dnS N (mayL S.length A) s N.length < fn S s then dnS N (mayL S.length A) s N.length else fn S s), fn S s - few) := fun h B => by
  have h1 := B.row s hs
  have h2 := used_le B hs
  have h3 : 0 ≤ sumR S.length (fun l => h s l) := sumR_nonneg fun l hl => B.pos s l hs hl
  have h4 : ¬ sumR S.length (fun l => h s l) < few := fun h5 => hall _ h3 h5 ⟨h, few_to B⟩
  have h5 : sumR S.length (fun l => h s l) ≤ dnS N (mayL S.length A) s N.length := by
    unfold dnS
    rw [hN]; exact h2
  simp only
  refine ⟨?_, by omega⟩
  split <;> omega
theorem Wasted12 {S N : List Int} {A : List (Int × Int)} (O : OkT S N A) (he : Ex1 S N A) : Sm Tryz.prog E 12 [.d (boD S N A)] [] (fun v h => h = [] ∧ ∃ R : List (Int × Int), v = .d (.tuple [.slice R.length 2 (encP R), .int .i64 0]) ∧ R.length = S.length ∧ ∀ (q : Nat) p, R[q]? = some p → WsP S N A q p) := by
  have hso := solved22 O
  have h6 := O.h6
  have hN := O.ok.hN
  have h1 := O.ok.h1
  have hA := O.hA
  refine sm_of HE true (by kernel_rfl) ?_
  unfold boD boL at hso ⊢
  conv => whnf
  refine Sm.mono hso ?_
  rintro v h ⟨t, rfl, L, ⟨rfl, As⟩ | ⟨rfl, hne⟩⟩
  rotate_left
  · exact absurd he hne
  unfold hdA dkA mpO
  conv => whnf
  refine loops_by (fun x : Nat × List (Int × Int) => match x with | (i, R) => ⟨91, [(2, .d .nil), (3, .d (.int .i64 0)), (4, .ptr i 0 0 1), (6, slP (i + 3) i), (25, .d (sl S)), (26, .d (.int .i64 S.length)), (27, .d (.int .i64 i)), (35, .d .undef)], .unk, List.replicate i .dfr ++ ([.row (.vs [.ptr (i + 1) 0 0 92]) 0 0 [], dkA S N A (i + 2) t, mpO (mayL S.length A)] ++ rwP i R), List.range' 0 i⟩)
    (fun x => x.1 ≤ S.length ∧ x.2.length = x.1 ∧ ∀ (q : Nat) p, x.2[q]? = some p → WsP S N A q p) (fun x => S.length - x.1) (0, []) ⟨Nat.zero_le _, rfl, fun q p h => by simp at h⟩ ?_
  rintro f ⟨i, R⟩ ⟨hi, hR, hW⟩ ih
  simp only at hi hR hW
  by_cases hiS : i < S.length
  rotate_left
  · obtain rfl : i = S.length := by omega
    have h1 := ltI_ff (a := (S.length : Int)) (b := (S.length : Int)) (Int.le_refl _)
    have hcs : S.length = 1 ∨ S.length = 2 ∨ S.length = 3 ∨ S.length = 4 ∨ S.length = 5 ∨ S.length = 6 := by omega
    clear ih
    rcases hcs with hm | hm | hm | hm | hm | hm
    all_goals
      have hel : (encP R).length = R.length * 2 := encP_length R
      unfold dkA mpO sl
      rw [hm]
      conv => whnf
      rw [ble_t (n := (encP R).length) (by rw [encP_length, hR, hm]; decide)]
      conv => whnf
      refine ⟨rfl, R, ?_, by omega, hW⟩
      rw [row_all (by rw [encP_length, hR, hm]), hR, hm]
  have hx := at_fn hiS
  have hxb := O.ok.s i hiS
  have hl1 := ltI_tt (a := (i : Int)) (b := S.length) (by omega)
  have hb1 := blt_t (i := i) (n := S.length) hiS
  have hew := each50w (S := S) (A := A) (ps := mayL S.length A) (by omega) (fun q hq => O.ok.n q (by omega)) i t
  have hla := lanes31A S N A (mayL S.length A) t i
  have hcl := clone23b S (by omega) (by omega)
  have hnext : ∀ p, WsP S N A i p → ∀ (q : Nat) r, (R ++ [p])[q]? = some r → WsP S N A q r := fun p hp q r hr => by
    by_cases hq : q < i
    · rw [List.getElem?_append_left (by omega)] at hr; exact hW q r hr
    · rw [List.getElem?_append_right (by omega)] at hr
      have : q = i := by
        have := lt_of_at hr
        simp at this; omega
      subst this
      rw [hR, Nat.sub_self] at hr
      cases hr
      exact hp
  have hop := fun x : Int => opened32C (S.set i x) N A (by rw [List.length_set]; omega) (by omega)
  have hsv := fun (x : Int) (h1 : 0 ≤ x) (h2 : x ≤ fn S i) => few_solve O hiS h1 h2
  simp only [List.length_set] at hop
  unfold dkA mpO at hla
  unfold hp12 dkA mpO at hew
  unfold dkC mpO at hop
  unfold hdC dkC mpO at hsv
  simp only [List.length_set] at hop hsv
  have hi6 : i = 0 ∨ i = 1 ∨ i = 2 ∨ i = 3 ∨ i = 4 ∨ i = 5 := by omega
  rcases hi6 with rfl | rfl | rfl | rfl | rfl | rfl
  · unfold dkA mpO
    conv => whnf
    rw [hl1]
    conv => whnf
    rw [hb1]
    conv => whnf
    rw [show (encI S)[0 * 1]? = _ from encI_get1 hx]
    conv => whnf
    refine Sm.mono hla ?_
    rintro v h ⟨rfl, rfl⟩
    conv => whnf
    refine Sm.mono hew ?_
    rintro v h ⟨rfl, rfl, hd0, hd1⟩
    obtain ⟨dn, hdn⟩ : ∃ dn, dn = dnS N (mayL S.length A) 0 N.length := ⟨_, rfl⟩
    have hwsp := fun few hall => wsp_of (A := A) (few := few) hN hiS hall
    rw [← hdn] at hd0 hd1 hwsp ⊢
    conv => whnf
    refine loops_by (fun few : Nat => ⟨91, [(2, .d .nil), (3, .d (.int .i64 0)), (4, .ptr 1 0 0 1), (6, slP 4 0), (7, .d (.int .i64 (0 : Nat))), (8, .d (.int .i64 (fn S 0))), (9, .ptr 4 0 0 1), (11, .d (.int .i64 few)), (25, .d (sl S)), (26, .d (.int .i64 S.length)), (27, .d (.int .i64 (0 : Nat))), (35, .d .undef)], .unk, List.replicate 1 .dfr ++ ([.row (.vs [.ptr 2 0 0 92]) 0 0 [], dkA S N A 3 t, mpO (mayL S.length A)] ++ rwP 0 R ++ [.row (.ds [.int .i64 dn]) 0 0 []]), List.range' 0 1⟩)
      (fun few => (few : Int) ≤ fn S 0 ∧ ∀ y : Int, 0 ≤ y → y < few → ¬ Ff S N A 0 y) (fun few => (fn S 0).toNat - few) 0 ⟨by omega, fun y h1 h2 => absurd h1 (by omega)⟩ ?_
    rintro f2 few ⟨hf, hall⟩ ih2
    unfold dkA mpO
    conv => whnf
    cases g1 : ltI (few : Int) (fn S 0)
    · have g1 := ltI_f g1
      have hw := hwsp few hall
      conv => whnf
      refine Sm.mono (least33 (fn S 0) dn) ?_
      rintro v h ⟨rfl, rfl⟩
      generalize hmn : (if dn < fn S 0 then dn else fn S 0) = mn at hw ⊢
      have hmb : 0 ≤ mn ∧ mn ≤ 40 := by rw [← hmn]; split <;> omega
      conv => whnf
      rw [wrap_i64 (n := fn S 0 - mn) (by omega) (by omega)]
      conv => whnf
      rw [wrap_i64 (n := fn S 0 - few) (by omega) (by omega)]
      conv => whnf
      obtain rfl : R = [] := List.eq_nil_of_length_eq_zero hR
      exact ih (1, [(fn S 0 - mn, fn S 0 - few)]) ⟨by simp only; omega, rfl, hnext _ hw⟩ (by simp only; omega)
    have g1 := ltI_t g1
    conv => whnf
    refine Sm.mono hcl ?_
    rintro v h ⟨rfl, rfl⟩
    conv => whnf
    rw [hb1]
    conv => whnf
    rw [ble_t (i := 0 + 0 * 1 + [V.d (D.int .i64 few)].length) (n := (Cells.ds (encI S)).len) (by show 0 + 0 * 1 + 1 ≤ (encI S).length; rw [encI_length]; omega)]
    conv => whnf
    rw [write_int (i := 0) (x := few) (by omega) (by rfl)]
    conv => whnf
    refine Sm.mono (hop few) ?_
    rintro v h ⟨rfl, rfl⟩
    conv => whnf
    refine Sm.mono (hsv few (by omega) (by omega)) ?_
    rintro v h ⟨d, rfl, ⟨rfl, hfe⟩ | ⟨c, w, rfl, hfe⟩⟩
    · skip
      have hw := hwsp few hall
      conv => whnf
      refine Sm.mono (least33 (fn S 0) dn) ?_
      rintro v h ⟨rfl, rfl⟩
      generalize hmn : (if dn < fn S 0 then dn else fn S 0) = mn at hw ⊢
      have hmb : 0 ≤ mn ∧ mn ≤ 40 := by rw [← hmn]; split <;> omega
      conv => whnf
      rw [wrap_i64 (n := fn S 0 - mn) (by omega) (by omega)]
      conv => whnf
      rw [wrap_i64 (n := fn S 0 - few) (by omega) (by omega)]
      conv => whnf
      obtain rfl : R = [] := List.eq_nil_of_length_eq_zero hR
      exact ih (1, [(fn S 0 - mn, fn S 0 - few)]) ⟨by simp only; omega, rfl, hnext _ hw⟩ (by simp only; omega)
    · conv => whnf
      rw [wrap_succ (by omega)]
      refine ih2 (few + 1) ⟨by omega, fun y h2 h3 => ?_⟩ (by omega)
      by_cases hy : y < few
      · exact hall y h2 hy
      · obtain rfl : y = few := by omega
        exact hfe
  · unfold dkA mpO
    conv => whnf
    rw [hl1]
    conv => whnf
    rw [hb1]
    conv => whnf
    rw [show (encI S)[1 * 1]? = _ from encI_get1 hx]
    conv => whnf
    refine Sm.mono hla ?_
    rintro v h ⟨rfl, rfl⟩
    conv => whnf
    refine Sm.mono hew ?_
    rintro v h ⟨rfl, rfl, hd0, hd1⟩
    obtain ⟨dn, hdn⟩ : ∃ dn, dn = dnS N (mayL S.length A) 1 N.length := ⟨_, rfl⟩
    have hwsp := fun few hall => wsp_of (A := A) (few := few) hN hiS hall
    rw [← hdn] at hd0 hd1 hwsp ⊢
    conv => whnf
    refine loops_by (fun few : Nat => ⟨91, [(2, .d .nil), (3, .d (.int .i64 0)), (4, .ptr 2 0 0 1), (6, slP 5 1), (7, .d (.int .i64 (1 : Nat))), (8, .d (.int .i64 (fn S 1))), (9, .ptr 6 0 0 1), (11, .d (.int .i64 few)), (25, .d (sl S)), (26, .d (.int .i64 S.length)), (27, .d (.int .i64 (1 : Nat))), (35, .d .undef)], .unk, List.replicate 2 .dfr ++ ([.row (.vs [.ptr 3 0 0 92]) 0 0 [], dkA S N A 4 t, mpO (mayL S.length A)] ++ rwP 1 R ++ [.row (.ds [.int .i64 dn]) 0 0 []]), List.range' 0 2⟩)
      (fun few => (few : Int) ≤ fn S 1 ∧ ∀ y : Int, 0 ≤ y → y < few → ¬ Ff S N A 1 y) (fun few => (fn S 1).toNat - few) 0 ⟨by omega, fun y h1 h2 => absurd h1 (by omega)⟩ ?_
    rintro f2 few ⟨hf, hall⟩ ih2
    unfold dkA mpO
    conv => whnf
    cases g1 : ltI (few : Int) (fn S 1)
    · have g1 := ltI_f g1
      have hw := hwsp few hall
      conv => whnf
      refine Sm.mono (least33 (fn S 1) dn) ?_
      rintro v h ⟨rfl, rfl⟩
      generalize hmn : (if dn < fn S 1 then dn else fn S 1) = mn at hw ⊢
      have hmb : 0 ≤ mn ∧ mn ≤ 40 := by rw [← hmn]; split <;> omega
      conv => whnf
      rw [wrap_i64 (n := fn S 1 - mn) (by omega) (by omega)]
      conv => whnf
      rw [wrap_i64 (n := fn S 1 - few) (by omega) (by omega)]
      conv => whnf
      have e1 : encP R ++ [D.int .i64 (fn S 1 - mn), D.int .i64 (fn S 1 - few)] = encP (R ++ [(fn S 1 - mn, fn S 1 - few)]) := by rw [encP_append]; rfl
      have hel : (encP R).length = 2 := by rw [encP_length, hR]
      rw [show Nat.beq (1 * 2) (Cells.ds (encP R)).len = true from by simp only [Cells.len, hel]; rfl]
      rw [wrap_i64 (n := ((1 : Nat) : Int) + 1) (by omega) (by omega), List.take_of_length_le (by rw [hel]; exact Nat.le_refl _), e1]
      exact ih (2, R ++ [(fn S 1 - mn, fn S 1 - few)]) ⟨by simp only; omega, by simp only; rw [List.length_append, hR]; rfl, hnext _ hw⟩ (by simp only; omega)
    have g1 := ltI_t g1
    conv => whnf
    refine Sm.mono hcl ?_
    rintro v h ⟨rfl, rfl⟩
    conv => whnf
    rw [hb1]
    conv => whnf
    rw [ble_t (i := 0 + 1 * 1 + [V.d (D.int .i64 few)].length) (n := (Cells.ds (encI S)).len) (by show 0 + 1 * 1 + 1 ≤ (encI S).length; rw [encI_length]; omega)]
    conv => whnf
    rw [write_int (i := 1) (x := few) (by omega) (by rfl)]
    conv => whnf
    refine Sm.mono (hop few) ?_
    rintro v h ⟨rfl, rfl⟩
    conv => whnf
    refine Sm.mono (hsv few (by omega) (by omega)) ?_
    rintro v h ⟨d, rfl, ⟨rfl, hfe⟩ | ⟨c, w, rfl, hfe⟩⟩
    · skip
      have hw := hwsp few hall
      conv => whnf
      refine Sm.mono (least33 (fn S 1) dn) ?_
      rintro v h ⟨rfl, rfl⟩
      generalize hmn : (if dn < fn S 1 then dn else fn S 1) = mn at hw ⊢
      have hmb : 0 ≤ mn ∧ mn ≤ 40 := by rw [← hmn]; split <;> omega
      conv => whnf
      rw [wrap_i64 (n := fn S 1 - mn) (by omega) (by omega)]
      conv => whnf
      rw [wrap_i64 (n := fn S 1 - few) (by omega) (by omega)]
      conv => whnf
      have e1 : encP R ++ [D.int .i64 (fn S 1 - mn), D.int .i64 (fn S 1 - few)] = encP (R ++ [(fn S 1 - mn, fn S 1 - few)]) := by rw [encP_append]; rfl
      have hel : (encP R).length = 2 := by rw [encP_length, hR]
      rw [show Nat.beq (1 * 2) (Cells.ds (encP R)).len = true from by simp only [Cells.len, hel]; rfl]
      rw [wrap_i64 (n := ((1 : Nat) : Int) + 1) (by omega) (by omega), List.take_of_length_le (by rw [hel]; exact Nat.le_refl _), e1]
      exact ih (2, R ++ [(fn S 1 - mn, fn S 1 - few)]) ⟨by simp only; omega, by simp only; rw [List.length_append, hR]; rfl, hnext _ hw⟩ (by simp only; omega)
    · conv => whnf
      rw [wrap_succ (by omega)]
      refine ih2 (few + 1) ⟨by omega, fun y h2 h3 => ?_⟩ (by omega)
      by_cases hy : y < few
      · exact hall y h2 hy
      · obtain rfl : y = few := by omega
        exact hfe
  · unfold dkA mpO
    conv => whnf
    rw [hl1]
    conv => whnf
    rw [hb1]
    conv => whnf
    rw [show (encI S)[2 * 1]? = _ from encI_get1 hx]
    conv => whnf
    refine Sm.mono hla ?_
    rintro v h ⟨rfl, rfl⟩
    conv => whnf
    refine Sm.mono hew ?_
    rintro v h ⟨rfl, rfl, hd0, hd1⟩
    obtain ⟨dn, hdn⟩ : ∃ dn, dn = dnS N (mayL S.length A) 2 N.length := ⟨_, rfl⟩
    have hwsp := fun few hall => wsp_of (A := A) (few := few) hN hiS hall
    rw [← hdn] at hd0 hd1 hwsp ⊢
    conv => whnf
    refine loops_by (fun few : Nat => ⟨91, [(2, .d .nil), (3, .d (.int .i64 0)), (4, .ptr 3 0 0 1), (6, slP 6 2), (7, .d (.int .i64 (2 : Nat))), (8, .d (.int .i64 (fn S 2))), (9, .ptr 7 0 0 1), (11, .d (.int .i64 few)), (25, .d (sl S)), (26, .d (.int .i64 S.length)), (27, .d (.int .i64 (2 : Nat))), (35, .d .undef)], .unk, List.replicate 3 .dfr ++ ([.row (.vs [.ptr 4 0 0 92]) 0 0 [], dkA S N A 5 t, mpO (mayL S.length A)] ++ rwP 2 R ++ [.row (.ds [.int .i64 dn]) 0 0 []]), List.range' 0 3⟩)
      (fun few => (few : Int) ≤ fn S 2 ∧ ∀ y : Int, 0 ≤ y → y < few → ¬ Ff S N A 2 y) (fun few => (fn S 2).toNat - few) 0 ⟨by omega, fun y h1 h2 => absurd h1 (by omega)⟩ ?_
    rintro f2 few ⟨hf, hall⟩ ih2
    unfold dkA mpO
    conv => whnf
    cases g1 : ltI (few : Int) (fn S 2)
    · have g1 := ltI_f g1
      have hw := hwsp few hall
      conv => whnf
      refine Sm.mono (least33 (fn S 2) dn) ?_
      rintro v h ⟨rfl, rfl⟩
      generalize hmn : (if dn < fn S 2 then dn else fn S 2) = mn at hw ⊢
      have hmb : 0 ≤ mn ∧ mn ≤ 40 := by rw [← hmn]; split <;> omega
      conv => whnf
      rw [wrap_i64 (n := fn S 2 - mn) (by omega) (by omega)]
      conv => whnf
      rw [wrap_i64 (n := fn S 2 - few) (by omega) (by omega)]
      conv => whnf
      have e1 : encP R ++ [D.int .i64 (fn S 2 - mn), D.int .i64 (fn S 2 - few)] = encP (R ++ [(fn S 2 - mn, fn S 2 - few)]) := by rw [encP_append]; rfl
      have hel : (encP R).length = 4 := by rw [encP_length, hR]
      rw [show Nat.beq (2 * 2) (Cells.ds (encP R)).len = true from by simp only [Cells.len, hel]; rfl]
      rw [wrap_i64 (n := ((2 : Nat) : Int) + 1) (by omega) (by omega), List.take_of_length_le (by rw [hel]; exact Nat.le_refl _), e1]
      exact ih (3, R ++ [(fn S 2 - mn, fn S 2 - few)]) ⟨by simp only; omega, by simp only; rw [List.length_append, hR]; rfl, hnext _ hw⟩ (by simp only; omega)
    have g1 := ltI_t g1
    conv => whnf
    refine Sm.mono hcl ?_
    rintro v h ⟨rfl, rfl⟩
    conv => whnf
    rw [hb1]
    conv => whnf
    rw [ble_t (i := 0 + 2 * 1 + [V.d (D.int .i64 few)].length) (n := (Cells.ds (encI S)).len) (by show 0 + 2 * 1 + 1 ≤ (encI S).length; rw [encI_length]; omega)]
    conv => whnf
    rw [write_int (i := 2) (x := few) (by omega) (by rfl)]
    conv => whnf
    refine Sm.mono (hop few) ?_
    rintro v h ⟨rfl, rfl⟩
    conv => whnf
    refine Sm.mono (hsv few (by omega) (by omega)) ?_
    rintro v h ⟨d, rfl, ⟨rfl, hfe⟩ | ⟨c, w, rfl, hfe⟩⟩
    · skip
      have hw := hwsp few hall
      conv => whnf
      refine Sm.mono (least33 (fn S 2) dn) ?_
      rintro v h ⟨rfl, rfl⟩
      generalize hmn : (if dn < fn S 2 then dn else fn S 2) = mn at hw ⊢
      have hmb : 0 ≤ mn ∧ mn ≤ 40 := by rw [← hmn]; split <;> omega
      conv => whnf
      rw [wrap_i64 (n := fn S 2 - mn) (by omega) (by omega)]
      conv => whnf
      rw [wrap_i64 (n := fn S 2 - few) (by omega) (by omega)]
      conv => whnf
      have e1 : encP R ++ [D.int .i64 (fn S 2 - mn), D.int .i64 (fn S 2 - few)] = encP (R ++ [(fn S 2 - mn, fn S 2 - few)]) := by rw [encP_append]; rfl
      have hel : (encP R).length = 4 := by rw [encP_length, hR]
      rw [show Nat.beq (2 * 2) (Cells.ds (encP R)).len = true from by simp only [Cells.len, hel]; rfl]
      rw [wrap_i64 (n := ((2 : Nat) : Int) + 1) (by omega) (by omega), List.take_of_length_le (by rw [hel]; exact Nat.le_refl _), e1]
      exact ih (3, R ++ [(fn S 2 - mn, fn S 2 - few)]) ⟨by simp only; omega, by simp only; rw [List.length_append, hR]; rfl, hnext _ hw⟩ (by simp only; omega)
    · conv => whnf
      rw [wrap_succ (by omega)]
      refine ih2 (few + 1) ⟨by omega, fun y h2 h3 => ?_⟩ (by omega)
      by_cases hy : y < few
      · exact hall y h2 hy
      · obtain rfl : y = few := by omega
        exact hfe
  · unfold dkA mpO
    conv => whnf
    rw [hl1]
    conv => whnf
    rw [hb1]
    conv => whnf
    rw [show (encI S)[3 * 1]? = _ from encI_get1 hx]
    conv => whnf
    refine Sm.mono hla ?_
    rintro v h ⟨rfl, rfl⟩
    conv => whnf
    refine Sm.mono hew ?_
    rintro v h ⟨rfl, rfl, hd0, hd1⟩
    obtain ⟨dn, hdn⟩ : ∃ dn, dn = dnS N (mayL S.length A) 3 N.length := ⟨_, rfl⟩
    have hwsp := fun few hall => wsp_of (A := A) (few := few) hN hiS hall
    rw [← hdn] at hd0 hd1 hwsp ⊢
    conv => whnf
    refine loops_by (fun few : Nat => ⟨91, [(2, .d .nil), (3, .d (.int .i64 0)), (4, .ptr 4 0 0 1), (6, slP 7 3), (7, .d (.int .i64 (3 : Nat))), (8, .d (.int .i64 (fn S 3))), (9, .ptr 8 0 0 1), (11, .d (.int .i64 few)), (25, .d (sl S)), (26, .d (.int .i64 S.length)), (27, .d (.int .i64 (3 : Nat))), (35, .d .undef)], .unk, List.replicate 4 .dfr ++ ([.row (.vs [.ptr 5 0 0 92]) 0 0 [], dkA S N A 6 t, mpO (mayL S.length A)] ++ rwP 3 R ++ [.row (.ds [.int .i64 dn]) 0 0 []]), List.range' 0 4⟩)
      (fun few => (few : Int) ≤ fn S 3 ∧ ∀ y : Int, 0 ≤ y → y < few → ¬ Ff S N A 3 y) (fun few => (fn S 3).toNat - few) 0 ⟨by omega, fun y h1 h2 => absurd h1 (by omega)⟩ ?_
    rintro f2 few ⟨hf, hall⟩ ih2
    unfold dkA mpO
    conv => whnf
    cases g1 : ltI (few : Int) (fn S 3)
    · have g1 := ltI_f g1
      have hw := hwsp few hall
      conv => whnf
      refine Sm.mono (least33 (fn S 3) dn) ?_
      rintro v h ⟨rfl, rfl⟩
      generalize hmn : (if dn < fn S 3 then dn else fn S 3) = mn at hw ⊢
      have hmb : 0 ≤ mn ∧ mn ≤ 40 := by rw [← hmn]; split <;> omega
      conv => whnf
      rw [wrap_i64 (n := fn S 3 - mn) (by omega) (by omega)]
      conv => whnf
      rw [wrap_i64 (n := fn S 3 - few) (by omega) (by omega)]
      conv => whnf
      have e1 : encP R ++ [D.int .i64 (fn S 3 - mn), D.int .i64 (fn S 3 - few)] = encP (R ++ [(fn S 3 - mn, fn S 3 - few)]) := by rw [encP_append]; rfl
      have hel : (encP R).length = 6 := by rw [encP_length, hR]
      rw [show Nat.beq (3 * 2) (Cells.ds (encP R)).len = true from by simp only [Cells.len, hel]; rfl]
      rw [wrap_i64 (n := ((3 : Nat) : Int) + 1) (by omega) (by omega), List.take_of_length_le (by rw [hel]; exact Nat.le_refl _), e1]
      exact ih (4, R ++ [(fn S 3 - mn, fn S 3 - few)]) ⟨by simp only; omega, by simp only; rw [List.length_append, hR]; rfl, hnext _ hw⟩ (by simp only; omega)
    have g1 := ltI_t g1
    conv => whnf
    refine Sm.mono hcl ?_
    rintro v h ⟨rfl, rfl⟩
    conv => whnf
    rw [hb1]
    conv => whnf
    rw [ble_t (i := 0 + 3 * 1 + [V.d (D.int .i64 few)].length) (n := (Cells.ds (encI S)).len) (by show 0 + 3 * 1 + 1 ≤ (encI S).length; rw [encI_length]; omega)]
    conv => whnf
    rw [write_int (i := 3) (x := few) (by omega) (by rfl)]
    conv => whnf
    refine Sm.mono (hop few) ?_
    rintro v h ⟨rfl, rfl⟩
    conv => whnf
    refine Sm.mono (hsv few (by omega) (by omega)) ?_
    rintro v h ⟨d, rfl, ⟨rfl, hfe⟩ | ⟨c, w, rfl, hfe⟩⟩
    · skip
      have hw := hwsp few hall
      conv => whnf
      refine Sm.mono (least33 (fn S 3) dn) ?_
      rintro v h ⟨rfl, rfl⟩
      generalize hmn : (if dn < fn S 3 then dn else fn S 3) = mn at hw ⊢
      have hmb : 0 ≤ mn ∧ mn ≤ 40 := by rw [← hmn]; split <;> omega
      conv => whnf
      rw [wrap_i64 (n := fn S 3 - mn) (by omega) (by omega)]
      conv => whnf
      rw [wrap_i64 (n := fn S 3 - few) (by omega) (by omega)]
      conv => whnf
      have e1 : encP R ++ [D.int .i64 (fn S 3 - mn), D.int .i64 (fn S 3 - few)] = encP (R ++ [(fn S 3 - mn, fn S 3 - few)]) := by rw [encP_append]; rfl
      have hel : (encP R).length = 6 := by rw [encP_length, hR]
      rw [show Nat.beq (3 * 2) (Cells.ds (encP R)).len = true from by simp only [Cells.len, hel]; rfl]
      rw [wrap_i64 (n := ((3 : Nat) : Int) + 1) (by omega) (by omega), List.take_of_length_le (by rw [hel]; exact Nat.le_refl _), e1]
      exact ih (4, R ++ [(fn S 3 - mn, fn S 3 - few)]) ⟨by simp only; omega, by simp only; rw [List.length_append, hR]; rfl, hnext _ hw⟩ (by simp only; omega)
    · conv => whnf
      rw [wrap_succ (by omega)]
      refine ih2 (few + 1) ⟨by omega, fun y h2 h3 => ?_⟩ (by omega)
      by_cases hy : y < few
      · exact hall y h2 hy
      · obtain rfl : y = few := by omega
        exact hfe
  · unfold dkA mpO
    conv => whnf
    rw [hl1]
    conv => whnf
    rw [hb1]
    conv => whnf
    rw [show (encI S)[4 * 1]? = _ from encI_get1 hx]
    conv => whnf
    refine Sm.mono hla ?_
    rintro v h ⟨rfl, rfl⟩
    conv => whnf
    refine Sm.mono hew ?_
    rintro v h ⟨rfl, rfl, hd0, hd1⟩
    obtain ⟨dn, hdn⟩ : ∃ dn, dn = dnS N (mayL S.length A) 4 N.length := ⟨_, rfl⟩
    have hwsp := fun few hall => wsp_of (A := A) (few := few) hN hiS hall
    rw [← hdn] at hd0 hd1 hwsp ⊢
    conv => whnf
    refine loops_by (fun few : Nat => ⟨91, [(2, .d .nil), (3, .d (.int .i64 0)), (4, .ptr 5 0 0 1), (6, slP 8 4), (7, .d (.int .i64 (4 : Nat))), (8, .d (.int .i64 (fn S 4))), (9, .ptr 9 0 0 1), (11, .d (.int .i64 few)), (25, .d (sl S)), (26, .d (.int .i64 S.length)), (27, .d (.int .i64 (4 : Nat))), (35, .d .undef)], .unk, List.replicate 5 .dfr ++ ([.row (.vs [.ptr 6 0 0 92]) 0 0 [], dkA S N A 7 t, mpO (mayL S.length A)] ++ rwP 4 R ++ [.row (.ds [.int .i64 dn]) 0 0 []]), List.range' 0 5⟩)
      (fun few => (few : Int) ≤ fn S 4 ∧ ∀ y : Int, 0 ≤ y → y < few → ¬ Ff S N A 4 y) (fun few => (fn S 4).toNat - few) 0 ⟨by omega, fun y h1 h2 => absurd h1 (by omega)⟩ ?_
    rintro f2 few ⟨hf, hall⟩ ih2
    unfold dkA mpO
    conv => whnf
    cases g1 : ltI (few : Int) (fn S 4)
    · have g1 := ltI_f g1
      have hw := hwsp few hall
      conv => whnf
      refine Sm.mono (least33 (fn S 4) dn) ?_
      rintro v h ⟨rfl, rfl⟩
      generalize hmn : (if dn < fn S 4 then dn else fn S 4) = mn at hw ⊢
      have hmb : 0 ≤ mn ∧ mn ≤ 40 := by rw [← hmn]; split <;> omega
      conv => whnf
      rw [wrap_i64 (n := fn S 4 - mn) (by omega) (by omega)]
      conv => whnf
      rw [wrap_i64 (n := fn S 4 - few) (by omega) (by omega)]
      conv => whnf
      have e1 : encP R ++ [D.int .i64 (fn S 4 - mn), D.int .i64 (fn S 4 - few)] = encP (R ++ [(fn S 4 - mn, fn S 4 - few)]) := by rw [encP_append]; rfl
      have hel : (encP R).length = 8 := by rw [encP_length, hR]
      rw [show Nat.beq (4 * 2) (Cells.ds (encP R)).len = true from by simp only [Cells.len, hel]; rfl]
      rw [wrap_i64 (n := ((4 : Nat) : Int) + 1) (by omega) (by omega), List.take_of_length_le (by rw [hel]; exact Nat.le_refl _), e1]
      exact ih (5, R ++ [(fn S 4 - mn, fn S 4 - few)]) ⟨by simp only; omega, by simp only; rw [List.length_append, hR]; rfl, hnext _ hw⟩ (by simp only; omega)
    have g1 := ltI_t g1
    conv => whnf
    refine Sm.mono hcl ?_
    rintro v h ⟨rfl, rfl⟩
    conv => whnf
    rw [hb1]
    conv => whnf
    rw [ble_t (i := 0 + 4 * 1 + [V.d (D.int .i64 few)].length) (n := (Cells.ds (encI S)).len) (by show 0 + 4 * 1 + 1 ≤ (encI S).length; rw [encI_length]; omega)]
    conv => whnf
    rw [write_int (i := 4) (x := few) (by omega) (by rfl)]
    conv => whnf
    refine Sm.mono (hop few) ?_
    rintro v h ⟨rfl, rfl⟩
    conv => whnf
    refine Sm.mono (hsv few (by omega) (by omega)) ?_
    rintro v h ⟨d, rfl, ⟨rfl, hfe⟩ | ⟨c, w, rfl, hfe⟩⟩
    · skip
      have hw := hwsp few hall
      conv => whnf
      refine Sm.mono (least33 (fn S 4) dn) ?_
      rintro v h ⟨rfl, rfl⟩
      generalize hmn : (if dn < fn S 4 then dn else fn S 4) = mn at hw ⊢
      have hmb : 0 ≤ mn ∧ mn ≤ 40 := by rw [← hmn]; split <;> omega
      conv => whnf
      rw [wrap_i64 (n := fn S 4 - mn) (by omega) (by omega)]
      conv => whnf
      rw [wrap_i64 (n := fn S 4 - few) (by omega) (by omega)]
      conv => whnf
      have e1 : encP R ++ [D.int .i64 (fn S 4 - mn), D.int .i64 (fn S 4 - few)] = encP (R ++ [(fn S 4 - mn, fn S 4 - few)]) := by rw [encP_append]; rfl
      have hel : (encP R).length = 8 := by rw [encP_length, hR]
      rw [show Nat.beq (4 * 2) (Cells.ds (encP R)).len = true from by simp only [Cells.len, hel]; rfl]
      rw [wrap_i64 (n := ((4 : Nat) : Int) + 1) (by omega) (by omega), List.take_of_length_le (by rw [hel]; exact Nat.le_refl _), e1]
      exact ih (5, R ++ [(fn S 4 - mn, fn S 4 - few)]) ⟨by simp only; omega, by simp only; rw [List.length_append, hR]; rfl, hnext _ hw⟩ (by simp only; omega)
    · conv => whnf
      rw [wrap_succ (by omega)]
      refine ih2 (few + 1) ⟨by omega, fun y h2 h3 => ?_⟩ (by omega)
      by_cases hy : y < few
      · exact hall y h2 hy
      · obtain rfl : y = few := by omega
        exact hfe
  · unfold dkA mpO
    conv => whnf
    rw [hl1]
    conv => whnf
    rw [hb1]
    conv => whnf
    rw [show (encI S)[5 * 1]? = _ from encI_get1 hx]
    conv => whnf
    refine Sm.mono hla ?_
    rintro v h ⟨rfl, rfl⟩
    conv => whnf
    refine Sm.mono hew ?_
    rintro v h ⟨rfl, rfl, hd0, hd1⟩
    obtain ⟨dn, hdn⟩ : ∃ dn, dn = dnS N (mayL S.length A) 5 N.length := ⟨_, rfl⟩
    have hwsp := fun few hall => wsp_of (A := A) (few := few) hN hiS hall
    rw [← hdn] at hd0 hd1 hwsp ⊢
    conv => whnf
    refine loops_by (fun few : Nat => ⟨91, [(2, .d .nil), (3, .d (.int .i64 0)), (4, .ptr 6 0 0 1), (6, slP 9 5), (7, .d (.int .i64 (5 : Nat))), (8, .d (.int .i64 (fn S 5))), (9, .ptr 10 0 0 1), (11, .d (.int .i64 few)), (25, .d (sl S)), (26, .d (.int .i64 S.length)), (27, .d (.int .i64 (5 : Nat))), (35, .d .undef)], .unk, List.replicate 6 .dfr ++ ([.row (.vs [.ptr 7 0 0 92]) 0 0 [], dkA S N A 8 t, mpO (mayL S.length A)] ++ rwP 5 R ++ [.row (.ds [.int .i64 dn]) 0 0 []]), List.range' 0 6⟩)
      (fun few => (few : Int) ≤ fn S 5 ∧ ∀ y : Int, 0 ≤ y → y < few → ¬ Ff S N A 5 y) (fun few => (fn S 5).toNat - few) 0 ⟨by omega, fun y h1 h2 => absurd h1 (by omega)⟩ ?_
    rintro f2 few ⟨hf, hall⟩ ih2
    unfold dkA mpO
    conv => whnf
    cases g1 : ltI (few : Int) (fn S 5)
    · have g1 := ltI_f g1
      have hw := hwsp few hall
      conv => whnf
      refine Sm.mono (least33 (fn S 5) dn) ?_
      rintro v h ⟨rfl, rfl⟩
      generalize hmn : (if dn < fn S 5 then dn else fn S 5) = mn at hw ⊢
      have hmb : 0 ≤ mn ∧ mn ≤ 40 := by rw [← hmn]; split <;> omega
      conv => whnf
      rw [wrap_i64 (n := fn S 5 - mn) (by omega) (by omega)]
      conv => whnf
      rw [wrap_i64 (n := fn S 5 - few) (by omega) (by omega)]
      conv => whnf
      have e1 : encP R ++ [D.int .i64 (fn S 5 - mn), D.int .i64 (fn S 5 - few)] = encP (R ++ [(fn S 5 - mn, fn S 5 - few)]) := by rw [encP_append]; rfl
      have hel : (encP R).length = 10 := by rw [encP_length, hR]
      rw [show Nat.beq (5 * 2) (Cells.ds (encP R)).len = true from by simp only [Cells.len, hel]; rfl]
      rw [wrap_i64 (n := ((5 : Nat) : Int) + 1) (by omega) (by omega), List.take_of_length_le (by rw [hel]; exact Nat.le_refl _), e1]
      exact ih (6, R ++ [(fn S 5 - mn, fn S 5 - few)]) ⟨by simp only; omega, by simp only; rw [List.length_append, hR]; rfl, hnext _ hw⟩ (by simp only; omega)
    have g1 := ltI_t g1
    conv => whnf
    refine Sm.mono hcl ?_
    rintro v h ⟨rfl, rfl⟩
    conv => whnf
    rw [hb1]
    conv => whnf
    rw [ble_t (i := 0 + 5 * 1 + [V.d (D.int .i64 few)].length) (n := (Cells.ds (encI S)).len) (by show 0 + 5 * 1 + 1 ≤ (encI S).length; rw [encI_length]; omega)]
    conv => whnf
    rw [write_int (i := 5) (x := few) (by omega) (by rfl)]
    conv => whnf
    refine Sm.mono (hop few) ?_
    rintro v h ⟨rfl, rfl⟩
    conv => whnf
    refine Sm.mono (hsv few (by omega) (by omega)) ?_
    rintro v h ⟨d, rfl, ⟨rfl, hfe⟩ | ⟨c, w, rfl, hfe⟩⟩
    · skip
      have hw := hwsp few hall
      conv => whnf
      refine Sm.mono (least33 (fn S 5) dn) ?_
      rintro v h ⟨rfl, rfl⟩
      generalize hmn : (if dn < fn S 5 then dn else fn S 5) = mn at hw ⊢
      have hmb : 0 ≤ mn ∧ mn ≤ 40 := by rw [← hmn]; split <;> omega
      conv => whnf
      rw [wrap_i64 (n := fn S 5 - mn) (by omega) (by omega)]
      conv => whnf
      rw [wrap_i64 (n := fn S 5 - few) (by omega) (by omega)]
      conv => whnf
      have e1 : encP R ++ [D.int .i64 (fn S 5 - mn), D.int .i64 (fn S 5 - few)] = encP (R ++ [(fn S 5 - mn, fn S 5 - few)]) := by rw [encP_append]; rfl
      have hel : (encP R).length = 10 := by rw [encP_length, hR]
      rw [show Nat.beq (5 * 2) (Cells.ds (encP R)).len = true from by simp only [Cells.len, hel]; rfl]
      rw [wrap_i64 (n := ((5 : Nat) : Int) + 1) (by omega) (by omega), List.take_of_length_le (by rw [hel]; exact Nat.le_refl _), e1]
      exact ih (6, R ++ [(fn S 5 - mn, fn S 5 - few)]) ⟨by simp only; omega, by simp only; rw [List.length_append, hR]; rfl, hnext _ hw⟩ (by simp only; omega)
    · conv => whnf
      rw [wrap_succ (by omega)]
      refine ih2 (few + 1) ⟨by omega, fun y h2 h3 => ?_⟩ (by omega)
      by_cases hy : y < few
      · exact hall y h2 hy
      · obtain rfl : y = few := by omega
        exact hfe
end Go.Proofs.Dx
