/-
  TopLaid: the main function.
-/
import Derived.Test.YtldpapiaonchaaaGreatDoorDxN
import Derived.Test.YtldpapiaonchaaaGreatDoorDxO
import Derived.Test.YtldpapiaonchaaaGreatDoorDxQ
import Derived.Test.YtldpapiaonchaaaGreatDoorDxT
import Derived.Test.YtldpapiaonchaaaGreatDoorDxV
import Derived.Test.YtldpapiaonchaaaGreatDoorDxW
namespace Go.Proofs.Dx
open Go Go.Ab Go.Proofs.Dw
set_option maxRecDepth 100000
set_option maxHeartbeats 40000000
theorem Sm_last {f : Nat} {a b c : V} {x y : D} {h : List O} {Q : V → List O → Prop} (hs : Sm Tryz.prog E f [a, b, c, .d y] h Q) (hw : Wk x y) : Sm Tryz.prog E f [a, b, c, .d x] h Q := by
  obtain ⟨h1, h2⟩ := hs
  refine ⟨h1, fun Z μ w cargs S ha => h2 Z μ w cargs S ?_⟩
  obtain ⟨v1, l1, e1, k1, v2, l2, e2, k2, v3, l3, e3, k3, v4, l4, e4, k4, e5⟩ := ha
  exact ⟨v1, l1, e1, k1, v2, l2, e2, k2, v3, l3, e3, k3, v4, l4, e4, hw _ _ _ k4, e5⟩
theorem span_eq {S N : List Int} {ps : List (Int × Int)} {s l : Nat} {lo hi lo2 hi2 : Int} (h : SpanP S N ps s l lo hi) (h2 : SpanP S N ps s l lo2 hi2) : lo2 = lo ∧ hi2 = hi := by
  have a1 := h.all _ h2.flo
  have a2 := h.all _ h2.fhi
  have b1 := h2.all _ h.flo
  have b2 := h2.all _ h.fhi
  omega
theorem show_in {S N : List Int} {A : List (Int × Int)} {s q : Nat} (hs : s < S.length) (hq : q < S.length) {lo hi a b : Int} {w : List Nat} (P : SpanP S N (mayL S.length A) s q lo hi) (H : ShowP S N A s q w a b) : a ≤ lo ∧ hi ≤ b := by
  obtain ⟨h, B, hx⟩ := P.flo
  obtain ⟨g, C, hy⟩ := P.fhi
  have h0 := P.flo.most hs hq
  have h1 := P.fhi.most hs hq
  constructor
  · by_cases hc : q ∈ w ∧ ∀ k ∈ w, k ≠ q → ¬ cP (mayL S.length A) s k
    · have := H.lo1 hc.1 hc.2
      have hl := B.low (fun k => k ∈ w) hs hq fun k _ hk hne => hc.2 k hk hne
      unfold lkW at this
      rw [this]; split <;> omega
    · rw [H.lo2 hc]; omega
  · by_cases hc : q ∉ w ∧ ∃ k ∈ w, k ≠ q ∧ cP (mayL S.length A) s k
    · have := H.hi1 hc.1 hc.2
      have hl := C.high (fun k => k ∈ w) hs hq hc.1
      unfold lkW at this
      rw [this]; split <;> omega
    · rw [H.hi2 hc]; omega
theorem show_wk {S N : List Int} {A : List (Int × Int)} {a b : Nat} {w : List Nat} (h : Sm Tryz.prog E 16 [.d (boD S N A), .d (.int .i64 a), .d (.int .i64 b), .d (sl (nL w))] [] (fun v h => (∃ x y e, v = .d (.tuple [.agg [.int .i64 x, .int .i64 y], .int .i64 e]) ∧ ((e = 0 ∧ ∃ v, nL w = nL v ∧ LaOk S.length v ∧ ShowP S N A a b v x y) ∨ (e ≠ 0 ∧ ∀ v, nL w = nL v → ¬ LaOk S.length v))) ∧ h = [])) (o : LaOk S.length w) :
    Sm Tryz.prog E 16 [.d (.agg [sl S, sl N, pl A]), .d (.int .i64 a), .d (.int .i64 b), .d (.slice w.length 1 (encI (nL w)))] [] (fun v h => (∃ x y, v = .d (.tuple [.agg [.int .i64 x, .int .i64 y], .int .i64 0]) ∧ ShowP S N A a b w x y) ∧ h = []) := by
  unfold sl at h
  rw [nL_length] at h
  refine Sm.mono h ?_
  rintro v h ⟨⟨x, y, ee, rfl, ⟨rfl, w2, hw, _, H1⟩ | ⟨_, H1⟩⟩, rfl⟩
  · obtain rfl := nL_inj hw
    exact ⟨⟨x, y, rfl, H1⟩, rfl⟩
  · exact absurd o (H1 _ rfl)
theorem rows_fit {S N : List Int} {A : List (Int × Int)} {R : List (List Int)} {t : Tb} (h1 : R.length = S.length) (h2 : ∀ r ∈ R, r.length = S.length) (h3 : ∀ q, q < S.length → R[q]? = some (rowT t q S.length)) (B : Asg S.length (fn S) (fn N) (cP (mayL S.length A)) t.st.h) : FitP S N A R :=
  ⟨h1, h2, Part.ext B fun s l hs hl => by
    unfold hf
    rw [h3 s hs]
    exact rowT_at hl⟩
theorem Laid3 (S N : List Int) (A : List (Int × Int)) (H : List (List Int)) (l : List Int) (s q : Int) (hA : A.length * 16 ≤ 140737488355328) :
    Rets Tryz.prog E 3 [.d (boD S N A), .d (.slice H.length 1 (encLL H)), .d (sl l), .d (.int .i64 s), .d (.int .i64 q)] (.d (.bool true)) := by
  have hbo := Bout4 S N A hA
  have hck := Check5 S N A (by omega)
  refine sm_of HE true (by kernel_rfl) ?_
  unfold boD boL at hbo hck ⊢
  conv => whnf
  refine Rets.use hbo ?_
  conv => whnf
  cases g1 : ltI 6 (S.length : Int)
  case true =>
    conv => whnf
    refine Rets.use plays_ok ?_
    conv => whnf
    exact ⟨rfl, rfl⟩
  have g1 := ltI_f g1
  conv => whnf
  cases g2 : ltI 12 (N.length : Int)
  case true =>
    conv => whnf
    refine Rets.use plays_ok ?_
    conv => whnf
    exact ⟨rfl, rfl⟩
  have g2 := ltI_f g2
  conv => whnf
  cases g3 : ltI 70 (A.length : Int)
  case true =>
    conv => whnf
    refine Rets.use plays_ok ?_
    conv => whnf
    exact ⟨rfl, rfl⟩
  have g3 := ltI_f g3
  conv => whnf
  cases g4 : ltI 12 (H.length : Int)
  case true =>
    conv => whnf
    refine Rets.use plays_ok ?_
    conv => whnf
    exact ⟨rfl, rfl⟩
  have g4 := ltI_f g4
  conv => whnf
  cases g5 : ltI 20 (l.length : Int)
  case true =>
    conv => whnf
    refine Rets.use plays_ok ?_
    conv => whnf
    exact ⟨rfl, rfl⟩
  have g5 := ltI_f g5
  conv => whnf
  refine Sm.mono hck ?_
  rintro v h ⟨⟨e, rfl, he⟩, rfl⟩
  conv => whnf
  cases g6 : eqI e 0
  case false =>
    conv => whnf
    refine Rets.use plays_ok ?_
    conv => whnf
    exact ⟨rfl, rfl⟩
  obtain rfl := eqI_t g6
  have OB := he.1 rfl
  clear he g6
  have O : OkT S N A := ⟨OB, by omega, by omega⟩
  have hA62 : A.length < 4611686018427387904 := by omega
  have hN := OB.hN
  have hn1 := OB.h1
  have hcl := Clone8 S N A (by omega) (by omega) (by omega)
  have has := Assign7 O
  have hsh := Short9 O
  have hfH := Fits10 OB hA62 H (by omega)
  have hpl := Proves11 OB hA62 l (by omega)
  unfold boD boL at hcl has hsh hfH hpl
  conv => whnf
  refine Rets.use hcl ?_
  conv => whnf
  refine Sm.mono has ?_
  rintro v h ⟨rfl, ⟨rfl, hno⟩ | ⟨R, rfl, hR1, hR2, t, hR3, As⟩⟩
  · have hpl2 := fun (w : List Nat) (h : w.length < 100) => Proves11 OB hA62 (nL w) (by rw [nL_length]; omega)
    unfold boD boL at hpl2
    conv => whnf
    refine Rets.use hcl ?_
    conv => whnf
    refine Sm.mono hsh ?_
    rintro v h ⟨rfl, ⟨rfl, hx⟩ | ⟨a, w, rfl, w1, w2, w3⟩⟩
    · exact absurd hx hno
    conv => whnf
    refine Sm.mono hfH ?_
    rintro v h ⟨⟨b, e1, rfl, hb, hb0⟩, rfl⟩
    conv => whnf
    refine Sm.mono hpl ?_
    rintro v h ⟨⟨k1, e2, rfl, _⟩, rfl⟩
    conv => whnf
    have hwl : (a :: w).length < 100 := by have := sorted_len (n := S.length) w1 w2; omega
    have hp2 := hpl2 (a :: w) hwl
    unfold sl at hp2
    rw [nL_length] at hp2
    refine Sm.mono hp2 ?_
    rintro v h ⟨⟨k2, e3, rfl, hP⟩, rfl⟩
    obtain ⟨rfl, hk2⟩ : e3 = 0 ∧ 0 < k2 := by
      rcases hP with ⟨h1, _, _, _, _, h2⟩ | ⟨_, h⟩
      · exact ⟨h1, h2⟩
      · have := h (a :: w) rfl ⟨w1, w2⟩
        unfold lkW at this
        omega
    conv => whnf
    rw [ltI_tt hk2]
    conv => whnf
    cases g7 : eqI e1 0
    case false =>
      conv => whnf
      refine Rets.use plays_ok ?_
      conv => whnf
      exact ⟨rfl, rfl⟩
    conv => whnf
    cases b
    case false =>
      conv => whnf
      refine Rets.use plays_ok ?_
      conv => whnf
      exact ⟨rfl, rfl⟩
    exact absurd ⟨_, (hb.1 rfl).asg⟩ hno
  have he : Ex1 S N A := ⟨_, As⟩
  have hfR := Fits10 OB hA62 R (by omega)
  have hws := Wasted12 O he
  have hcr := Crossed13w O he
  have hht := fun (s l : Int) => Hits14 O he s l
  have hrs := fun (a b : Nat) (ha : a < S.length) (hb : b < S.length) => Reasons15w O he ha hb
  have hsw := fun (a b : Nat) (ha : a < S.length) (hb : b < S.length) (l : List Int) (hl : l.length < 4611686018427387904) => Shows16 OB hA62 ha hb he l hl
  have hfit := rows_fit hR1 hR2 hR3 As
  unfold boD boL at hfR hws hcr hht hrs hsw
  conv => whnf
  refine Rets.use hcl ?_
  conv => whnf
  refine Sm.mono hsh ?_
  rintro v h ⟨rfl, ⟨rfl, _⟩ | ⟨_, _, _, _, _, w3⟩⟩
  rotate_left
  · exact absurd he (not_ex w3)
  conv => whnf
  refine Sm.mono hfH ?_
  rintro v h ⟨⟨b, e1, rfl, hb, hb0⟩, rfl⟩
  conv => whnf
  refine Sm.mono hpl ?_
  rintro v h ⟨⟨k1, e2, rfl, hP⟩, rfl⟩
  have he2 : e2 ≠ 0 := by
    rcases hP with ⟨_, w, _, _, h1, h2⟩ | ⟨h, _⟩
    · have := Part.short As (fun k => k ∈ w)
      unfold lkW at h1
      omega
    · exact h
  clear hP
  conv => whnf
  refine Sm.mono hfR ?_
  rintro v h ⟨⟨b2, e3, rfl, hb2, hb3⟩, rfl⟩
  obtain rfl := hb2.2 hfit
  obtain rfl := hb3 rfl
  conv => whnf
  rw [eqI_ff he2]
  conv => whnf
  refine Rets.use hcl ?_
  conv => whnf
  refine Sm.mono hws ?_
  rintro v h ⟨rfl, Ws, rfl, hWl, hW⟩
  conv => whnf
  refine Rets.use hcl ?_
  conv => whnf
  refine Sm.mono hcr ?_
  rintro v h ⟨rfl, C, rfl, hCl, hC⟩
  have hbF : b = true → FitP S N A H := hb.1
  cases b with
  | false =>
    conv => whnf
    rw [eqI_tt (a := (Ws.length : Int)) (b := (S.length : Int)) (by rw [hWl])]
    conv => whnf
    refine loops_by (fun i : Nat => ⟨375, [(1, .d (.slice H.length 1 (encLL H))), (2, .d (sl l)), (3, .d (.int .i64 s)), (4, .d (.int .i64 q)), (5, .ptr 0 0 0 3), (10, .d (.bool false)), (11, .ptr 1 0 0 3), (16, .d (.bool false)), (24, .d (.slice Ws.length 2 (encP Ws))), (25, .d (.slice C.length 2 (encP C))), (186, .d (.int .i64 S.length)), (187, .d (.int .i64 i))], .unk, [.row (.ds (boL S N A)) 0 0 [], .row (.ds (boL S N A)) 0 0 []], []⟩) (fun i => i ≤ S.length) (fun i => S.length - i) 0 (Nat.zero_le _) ?_
    rintro f i hi ih
    unfold boL
    conv => whnf
    cases g8 : ltI (i : Int) (S.length : Int)
    case false =>
      conv => whnf
      refine loops_by (fun i : Nat => ⟨375, [(1, .d (.slice H.length 1 (encLL H))), (3, .d (.int .i64 s)), (4, .d (.int .i64 q)), (5, .ptr 0 0 0 3), (10, .d (.bool false)), (16, .d (.bool false)), (330, .d (.slice C.length 2 (encP C))), (331, .d (.int .i64 C.length)), (332, .d (.int .i64 i))], .unk, [.row (.ds (boL S N A)) 0 0 []], []⟩) (fun i => i ≤ C.length) (fun i => C.length - i) 0 (Nat.zero_le _) ?_
      rintro f4 i4 hi4 ih4
      unfold boL
      conv => whnf
      cases g9 : ltI (i4 : Int) (C.length : Int)
      case true =>
        have g9 := ltI_t g9
        obtain ⟨p, hp⟩ := at_some (l := C) (i := i4) (by omega)
        have hpc := hC p (List.mem_of_getElem? hp)
        obtain ⟨hpA, a, d, lo, hi5, rfl, ha, hd, P, hlo⟩ := hpc
        have hct := Contains18 A (by omega) _ hpA
        unfold pl at hct
        conv => whnf
        rw [blt_t (i := i4) (n := C.length) (by omega)]
        conv => whnf
        rw [ble_t (i := i4 * 2 + 2) (n := (encP C).length) (by rw [encP_length]; omega)]
        conv => whnf
        rw [encP_at hp]
        conv => whnf
        refine Rets.use hct ?_
        conv => whnf
        rw [wrap_succ (by omega)]
        exact ih4 (i4 + 1) (by omega) (by omega)
      conv => whnf
      refine Rets.use hcl ?_
      conv => whnf
      refine Sm.mono (hht s q) ?_
      rintro v h ⟨rfl, ⟨a, d, lo, hi5, _, _, _, _, rfl, _⟩ | ⟨rfl, _⟩⟩
      · conv => whnf
        refine Rets.use plays_ok ?_
        conv => whnf
        exact ⟨rfl, rfl⟩
      · conv => whnf
        refine Rets.use plays_ok ?_
        conv => whnf
        exact ⟨rfl, rfl⟩
    have g8 := ltI_t g8
    have hiS : i < S.length := by omega
    have hxi := at_fn hiS
    have hxb := OB.s i hiS
    obtain ⟨pw, hpw⟩ := at_some (l := Ws) (i := i) (by omega)
    have hwp := hW i pw hpw
    conv => whnf
    rw [blt_t (i := i) (n := S.length) hiS]
    conv => whnf
    rw [encI_get1 hxi]
    conv => whnf
    refine loops_by (fun x : Nat × Int => match x with | (k, lf) => ⟨375, [(1, .d (.slice H.length 1 (encLL H))), (2, .d (sl l)), (3, .d (.int .i64 s)), (4, .d (.int .i64 q)), (5, .ptr 0 0 0 3), (10, .d (.bool false)), (11, .ptr 1 0 0 3), (16, .d (.bool false)), (24, .d (.slice Ws.length 2 (encP Ws))), (25, .d (.slice C.length 2 (encP C))), (26, .d (.int .i64 i)), (27, .d (.int .i64 lf)), (186, .d (.int .i64 S.length)), (187, .d (.int .i64 i)), (197, .d (.int .i64 S.length)), (198, .d (.int .i64 k))], .unk, [.row (.ds (boL S N A)) 0 0 [], .row (.ds (boL S N A)) 0 0 []], []⟩) (fun x => x.1 ≤ S.length ∧ (false = true → x.2 = fn S i - sumR x.1 (fun k => hf H i k) ∧ -10 * (x.1 : Int) ≤ x.2 ∧ x.2 ≤ 8)) (fun x => S.length - x.1) (0, fn S i) ⟨Nat.zero_le _, fun _ => ⟨by simp [sumR], by simp only; omega, by simp only; omega⟩⟩ ?_
    rintro f2 ⟨k, lf⟩ ⟨hk, hlf⟩ ih2
    simp only at hk hlf
    unfold boL
    conv => whnf
    cases g9 : ltI (k : Int) (S.length : Int)
    case false =>
      have g9 := ltI_f g9
      obtain rfl : k = S.length := by omega
      conv => whnf
      rw [wrap_succ (by omega)]
      exact ih (i + 1) (by omega) (by omega)
    have g9 := ltI_t g9
    have hkS : k < S.length := by omega
    conv => whnf
    refine Rets.use hcl ?_
    conv => whnf
    refine Sm.mono (hht i k) ?_
    rintro v h ⟨rfl, ⟨a, d, lo, hi5, ha, hd, ha2, hd2, rfl, P⟩ | ⟨rfl, hbad⟩⟩
    rotate_left
    · exact absurd ⟨⟨by omega, by omega⟩, by omega, by omega⟩ hbad
    obtain rfl : a = i := by omega
    obtain rfl : d = k := by omega
    clear ha hd ha2 hd2
    have hlh := P.all _ P.fhi
    have hlo0 := P.flo.most hiS hkS
    conv => whnf
    refine Rets.use hcl ?_
    conv => whnf
    refine Sm.mono (hrs a d hiS hkS) ?_
    rintro v h ⟨rfl, v1, v2, rfl, o1, o2, lo2, hi2, P2, f1, f2⟩
    obtain ⟨rfl, rfl⟩ := span_eq P P2
    clear P2
    have q1 : v1.length < 4611686018427387904 := by have := sorted_len o1.1 o1.2; omega
    have q2 : v2.length < 4611686018427387904 := by have := sorted_len o2.1 o2.2; omega
    have hs1 := show_wk (hsw a d hiS hkS (nL v1) (by rw [nL_length]; exact q1)) o1
    have hs2 := show_wk (hsw a d hiS hkS (nL v2) (by rw [nL_length]; exact q2)) o2
    have hs3 := hsw a d hiS hkS l (by omega)
    have hrow : false = true → ∃ r, H[a]? = some r ∧ r.length = S.length ∧ r[d]? = some (hf H a d) ∧ a < H.length ∧ (lo2 ≤ hf H a d ∧ hf H a d ≤ hi2) ∧ 0 ≤ hf H a d ∧ hf H a d ≤ 5 := fun hbt => by
      have F := hbF hbt
      have hFl := F.len
      obtain ⟨r, hr⟩ := at_some (l := H) (i := a) (by omega)
      have hrl := F.rows r (List.mem_of_getElem? hr)
      have hb5 := hit_le F.asg hiS hkS
      have hn5 := OB.n d hkS
      exact ⟨r, hr, hrl, by unfold hf; rw [hr]; exact at_fn (by omega), by omega, P.all _ ⟨_, F.asg, rfl⟩, by omega, by omega⟩
    conv => whnf
    refine Sm.mono hs1 ?_
    rintro v h ⟨⟨x1, y1, rfl, H1⟩, rfl⟩
    obtain rfl := f1 _ _ H1
    conv => whnf
    refine Sm.mono hs2 ?_
    rintro v h ⟨⟨x2, y2, rfl, H2⟩, rfl⟩
    obtain rfl := f2 _ _ H2
    conv => whnf
    repeat
      conv =>
        arg 2
        first | rw [ltI_ff (a := y2) (b := x1) (by omega)] | rw [eqI_tt (a := x1) (b := x1) rfl] | rw [eqI_tt (a := y2) (b := y2) rfl]
      conv => whnf
    refine Sm.mono hs3 ?_
    rintro v h ⟨⟨x3, y3, e4, rfl, hQ⟩, rfl⟩
    conv => whnf
    have hgo : (e4 = 0 → x3 ≤ x1 ∧ y2 ≤ y3) := fun h0 => by
      rcases hQ with ⟨_, w, _, _, H1⟩ | ⟨h, _⟩
      · exact show_in hiS hkS P H1
      · exact absurd h0 h
    clear hQ
    cases g10 : eqI e4 0
    · skip
      conv => whnf
      rw [wrap_succ (by omega)]
      exact ih2 (d + 1, lf) ⟨by simp only; omega, fun h => (Bool.noConfusion h : _)⟩ (by simp only; omega)
    · have hg := hgo (eqI_t g10)
      conv => whnf
      repeat
        conv =>
          arg 2
          first | rw [ltI_ff (a := x1) (b := x3) hg.1] | rw [ltI_ff (a := y3) (b := y2) hg.2]
        conv => whnf
      conv => whnf
      rw [wrap_succ (by omega)]
      exact ih2 (d + 1, lf) ⟨by simp only; omega, fun h => (Bool.noConfusion h : _)⟩ (by simp only; omega)
  | true =>
    conv => whnf
    rw [eqI_tt (a := (Ws.length : Int)) (b := (S.length : Int)) (by rw [hWl])]
    conv => whnf
    refine loops_by (fun i : Nat => ⟨375, [(1, .d (.slice H.length 1 (encLL H))), (2, .d (sl l)), (3, .d (.int .i64 s)), (4, .d (.int .i64 q)), (5, .ptr 0 0 0 3), (10, .d (.bool false)), (11, .ptr 1 0 0 3), (16, .d (.bool true)), (24, .d (.slice Ws.length 2 (encP Ws))), (25, .d (.slice C.length 2 (encP C))), (186, .d (.int .i64 S.length)), (187, .d (.int .i64 i))], .unk, [.row (.ds (boL S N A)) 0 0 [], .row (.ds (boL S N A)) 0 0 []], []⟩) (fun i => i ≤ S.length) (fun i => S.length - i) 0 (Nat.zero_le _) ?_
    rintro f i hi ih
    unfold boL
    conv => whnf
    cases g8 : ltI (i : Int) (S.length : Int)
    case false =>
      conv => whnf
      refine loops_by (fun i : Nat => ⟨375, [(1, .d (.slice H.length 1 (encLL H))), (3, .d (.int .i64 s)), (4, .d (.int .i64 q)), (5, .ptr 0 0 0 3), (10, .d (.bool false)), (16, .d (.bool true)), (330, .d (.slice C.length 2 (encP C))), (331, .d (.int .i64 C.length)), (332, .d (.int .i64 i))], .unk, [.row (.ds (boL S N A)) 0 0 []], []⟩) (fun i => i ≤ C.length) (fun i => C.length - i) 0 (Nat.zero_le _) ?_
      rintro f4 i4 hi4 ih4
      unfold boL
      conv => whnf
      cases g9 : ltI (i4 : Int) (C.length : Int)
      case true =>
        have g9 := ltI_t g9
        obtain ⟨p, hp⟩ := at_some (l := C) (i := i4) (by omega)
        have hpc := hC p (List.mem_of_getElem? hp)
        obtain ⟨hpA, a, d, lo, hi5, rfl, ha, hd, P, hlo⟩ := hpc
        have hct := Contains18 A (by omega) _ hpA
        unfold pl at hct
        conv => whnf
        rw [blt_t (i := i4) (n := C.length) (by omega)]
        conv => whnf
        rw [ble_t (i := i4 * 2 + 2) (n := (encP C).length) (by rw [encP_length]; omega)]
        conv => whnf
        rw [encP_at hp]
        conv => whnf
        have F := hbF rfl
        have hFl := F.len
        obtain ⟨r, hr⟩ := at_some (l := H) (i := a) (by omega)
        have hrl := F.rows r (List.mem_of_getElem? hr)
        have hrd : r[d]? = some (hf H a d) := by unfold hf; rw [hr]; exact at_fn (by omega)
        have hge := (P.all _ ⟨_, F.asg, rfl⟩).1
        rw [blt_t (i := a) (n := H.length) (by omega)]
        conv => whnf
        rw [encLL_get1 hr]
        conv => whnf
        rw [blt_t (i := d) (n := r.length) (by omega)]
        conv => whnf
        rw [encI_get1 hrd]
        conv => whnf
        rw [ltI_ff (a := hf H a d) (b := 1) (by omega)]
        conv => whnf
        refine Rets.use hct ?_
        conv => whnf
        rw [wrap_succ (by omega)]
        exact ih4 (i4 + 1) (by omega) (by omega)
      conv => whnf
      refine Rets.use hcl ?_
      conv => whnf
      refine Sm.mono (hht s q) ?_
      rintro v h ⟨rfl, ⟨a, d, lo, hi5, _, _, _, _, rfl, _⟩ | ⟨rfl, _⟩⟩
      · conv => whnf
        refine Rets.use plays_ok ?_
        conv => whnf
        exact ⟨rfl, rfl⟩
      · conv => whnf
        refine Rets.use plays_ok ?_
        conv => whnf
        exact ⟨rfl, rfl⟩
    have g8 := ltI_t g8
    have hiS : i < S.length := by omega
    have hxi := at_fn hiS
    have hxb := OB.s i hiS
    obtain ⟨pw, hpw⟩ := at_some (l := Ws) (i := i) (by omega)
    have hwp := hW i pw hpw
    conv => whnf
    rw [blt_t (i := i) (n := S.length) hiS]
    conv => whnf
    rw [encI_get1 hxi]
    conv => whnf
    refine loops_by (fun x : Nat × Int => match x with | (k, lf) => ⟨375, [(1, .d (.slice H.length 1 (encLL H))), (2, .d (sl l)), (3, .d (.int .i64 s)), (4, .d (.int .i64 q)), (5, .ptr 0 0 0 3), (10, .d (.bool false)), (11, .ptr 1 0 0 3), (16, .d (.bool true)), (24, .d (.slice Ws.length 2 (encP Ws))), (25, .d (.slice C.length 2 (encP C))), (26, .d (.int .i64 i)), (27, .d (.int .i64 lf)), (186, .d (.int .i64 S.length)), (187, .d (.int .i64 i)), (197, .d (.int .i64 S.length)), (198, .d (.int .i64 k))], .unk, [.row (.ds (boL S N A)) 0 0 [], .row (.ds (boL S N A)) 0 0 []], []⟩) (fun x => x.1 ≤ S.length ∧ (true = true → x.2 = fn S i - sumR x.1 (fun k => hf H i k) ∧ -10 * (x.1 : Int) ≤ x.2 ∧ x.2 ≤ 8)) (fun x => S.length - x.1) (0, fn S i) ⟨Nat.zero_le _, fun _ => ⟨by simp [sumR], by simp only; omega, by simp only; omega⟩⟩ ?_
    rintro f2 ⟨k, lf⟩ ⟨hk, hlf⟩ ih2
    simp only at hk hlf
    unfold boL
    conv => whnf
    cases g9 : ltI (k : Int) (S.length : Int)
    case false =>
      have g9 := ltI_f g9
      obtain rfl : k = S.length := by omega
      conv => whnf
      have F := hbF rfl
      have hl := hlf trivial
      have hin := hwp _ F.asg
      rw [← hl.1] at hin
      conv => (arg 2; rw [blt_t (i := i) (n := Ws.length) (by omega)])
      conv => whnf
      conv => (arg 2; rw [ble_t (i := i * 2 + 2) (n := (encP Ws).length) (by rw [encP_length]; omega)])
      conv => whnf
      rw [encP_at hpw]
      conv => whnf
      refine Rets.use (inside17 lf pw.1 pw.2 hin) ?_
      conv => whnf
      rw [wrap_succ (by omega)]
      exact ih (i + 1) (by omega) (by omega)
    have g9 := ltI_t g9
    have hkS : k < S.length := by omega
    conv => whnf
    refine Rets.use hcl ?_
    conv => whnf
    refine Sm.mono (hht i k) ?_
    rintro v h ⟨rfl, ⟨a, d, lo, hi5, ha, hd, ha2, hd2, rfl, P⟩ | ⟨rfl, hbad⟩⟩
    rotate_left
    · exact absurd ⟨⟨by omega, by omega⟩, by omega, by omega⟩ hbad
    obtain rfl : a = i := by omega
    obtain rfl : d = k := by omega
    clear ha hd ha2 hd2
    have hlh := P.all _ P.fhi
    have hlo0 := P.flo.most hiS hkS
    conv => whnf
    refine Rets.use hcl ?_
    conv => whnf
    refine Sm.mono (hrs a d hiS hkS) ?_
    rintro v h ⟨rfl, v1, v2, rfl, o1, o2, lo2, hi2, P2, f1, f2⟩
    obtain ⟨rfl, rfl⟩ := span_eq P P2
    clear P2
    have q1 : v1.length < 4611686018427387904 := by have := sorted_len o1.1 o1.2; omega
    have q2 : v2.length < 4611686018427387904 := by have := sorted_len o2.1 o2.2; omega
    have hs1 := show_wk (hsw a d hiS hkS (nL v1) (by rw [nL_length]; exact q1)) o1
    have hs2 := show_wk (hsw a d hiS hkS (nL v2) (by rw [nL_length]; exact q2)) o2
    have hs3 := hsw a d hiS hkS l (by omega)
    have hrow : true = true → ∃ r, H[a]? = some r ∧ r.length = S.length ∧ r[d]? = some (hf H a d) ∧ a < H.length ∧ (lo2 ≤ hf H a d ∧ hf H a d ≤ hi2) ∧ 0 ≤ hf H a d ∧ hf H a d ≤ 5 := fun hbt => by
      have F := hbF hbt
      have hFl := F.len
      obtain ⟨r, hr⟩ := at_some (l := H) (i := a) (by omega)
      have hrl := F.rows r (List.mem_of_getElem? hr)
      have hb5 := hit_le F.asg hiS hkS
      have hn5 := OB.n d hkS
      exact ⟨r, hr, hrl, by unfold hf; rw [hr]; exact at_fn (by omega), by omega, P.all _ ⟨_, F.asg, rfl⟩, by omega, by omega⟩
    conv => whnf
    refine Sm.mono hs1 ?_
    rintro v h ⟨⟨x1, y1, rfl, H1⟩, rfl⟩
    obtain rfl := f1 _ _ H1
    conv => whnf
    refine Sm.mono hs2 ?_
    rintro v h ⟨⟨x2, y2, rfl, H2⟩, rfl⟩
    obtain rfl := f2 _ _ H2
    conv => whnf
    repeat
      conv =>
        arg 2
        first | rw [ltI_ff (a := y2) (b := x1) (by omega)] | rw [eqI_tt (a := x1) (b := x1) rfl] | rw [eqI_tt (a := y2) (b := y2) rfl]
      conv => whnf
    obtain ⟨r, hr, hrl, hrd, haH, hin, hf0, hf5⟩ := hrow rfl
    have hl := hlf trivial
    conv => (arg 2; rw [blt_t (i := a) (n := H.length) haH])
    conv => whnf
    conv => (arg 2; rw [encLL_get1 hr])
    conv => whnf
    conv => (arg 2; rw [blt_t (i := d) (n := r.length) (by omega)])
    conv => whnf
    conv => (arg 2; rw [encI_get1 hrd])
    conv => whnf
    refine Rets.use (inside17 _ x1 y2 hin) ?_
    conv => whnf
    repeat
      conv =>
        arg 2
        first | rw [ltI_ff (a := y2) (b := x1) (by omega)] | rw [eqI_tt (a := x1) (b := x1) rfl] | rw [eqI_tt (a := y2) (b := y2) rfl]
      conv => whnf
    refine Sm.mono hs3 ?_
    rintro v h ⟨⟨x3, y3, e4, rfl, hQ⟩, rfl⟩
    conv => whnf
    have hgo : (e4 = 0 → x3 ≤ x1 ∧ y2 ≤ y3) := fun h0 => by
      rcases hQ with ⟨_, w, _, _, H1⟩ | ⟨h, _⟩
      · exact show_in hiS hkS P H1
      · exact absurd h0 h
    clear hQ
    cases g10 : eqI e4 0
    · skip
      conv => whnf
      conv => (arg 2; rw [blt_t (i := a) (n := H.length) haH])
      conv => whnf
      conv => (arg 2; rw [encLL_get1 hr])
      conv => whnf
      conv => (arg 2; rw [blt_t (i := d) (n := r.length) (by omega)])
      conv => whnf
      conv => (arg 2; rw [encI_get1 hrd])
      conv => whnf
      rw [wrap_i64 (n := lf - hf H a d) (by omega) (by omega)]
      conv => whnf
      rw [wrap_succ (by omega)]
      exact ih2 (d + 1, lf - hf H a d) ⟨by simp only; omega, fun _ => ⟨by simp only; rw [sumR_succ, hl.1]; omega, by simp only; omega, by simp only; omega⟩⟩ (by simp only; omega)
    · have hg := hgo (eqI_t g10)
      conv => whnf
      repeat
        conv =>
          arg 2
          first | rw [ltI_ff (a := x1) (b := x3) hg.1] | rw [ltI_ff (a := y3) (b := y2) hg.2]
        conv => whnf
      conv => whnf
      conv => (arg 2; rw [blt_t (i := a) (n := H.length) haH])
      conv => whnf
      conv => (arg 2; rw [encLL_get1 hr])
      conv => whnf
      conv => (arg 2; rw [blt_t (i := d) (n := r.length) (by omega)])
      conv => whnf
      conv => (arg 2; rw [encI_get1 hrd])
      conv => whnf
      rw [wrap_i64 (n := lf - hf H a d) (by omega) (by omega)]
      conv => whnf
      rw [wrap_succ (by omega)]
      exact ih2 (d + 1, lf - hf H a d) ⟨by simp only; omega, fun _ => ⟨by simp only; rw [sumR_succ, hl.1]; omega, by simp only; omega, by simp only; omega⟩⟩ (by simp only; omega)
end Go.Proofs.Dx
