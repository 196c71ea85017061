/-
  TopHeld: the reference: what happens in a weather.
-/
import Derived.Test.YthnhhcmafcclgaaGreatDoorHxD
namespace Go.Proofs.Hx
open Go Go.Ab Go.Proofs.Hw
set_option maxRecDepth 100000
set_option maxHeartbeats 1000000
def zip3 : List Int → List Int → List Int → List Hw.Dy
  | a :: n, b :: m, c :: l => (a, b, c) :: zip3 n m l
  | _, _, _ => []
theorem zip3_at : ∀ {n m l : List Int} {i : Nat} {a b c : Int}, n[i]? = some a → m[i]? = some b → l[i]? = some c → (zip3 n m l)[i]? = some (a, b, c)
  | _ :: _, _ :: _, _ :: _, 0, _, _, _, h1, h2, h3 => by simp at h1 h2 h3; subst h1; subst h2; subst h3; rfl
  | _ :: n, _ :: m, _ :: l, i + 1, _, _, _, h1, h2, h3 => by simpa [zip3] using zip3_at (by simpa using h1) (by simpa using h2) (by simpa using h3)
  | [], _, _, _, _, _, _, h1, _, _ => by simp at h1
  | _ :: _, [], _, _, _, _, _, _, h2, _ => by simp at h2
  | _ :: _, _ :: _, [], _, _, _, _, _, _, h3 => by simp at h3
theorem zip3_length : ∀ {n m l : List Int}, m.length = n.length → l.length = n.length → (zip3 n m l).length = n.length
  | [], _, _, _, _ => by simp [zip3]
  | _ :: n, _ :: m, _ :: l, h1, h2 => by simpa [zip3] using zip3_length (by simpa using h1) (by simpa using h2)
  | _ :: _, [], _, h1, _ => by simp at h1
  | _ :: _, _ :: _, [], _, h2 => by simp at h2
theorem fl_at {st : Int} {zs : List Hw.Dy} {i : Nat} {d : Hw.Dy} (h : zs[i]? = some d) (s : Int) : fl st (zs.drop i) s i = if stp st d s < d.1 then (i : Int) else fl st (zs.drop (i + 1)) (stp st d s - d.1) (i + 1) := by
  obtain ⟨hi, rfl⟩ := List.getElem?_eq_some_iff.1 h
  rw [List.drop_eq_getElem_cons hi, fl]
/-- Stocks and what is made, whatever they are, and the day. -/
def HapQ (day : Int) (v : V) (h : List O) : Prop := h = [] ∧ ∃ x y, v = .d (.tuple [x, y, .int .i64 day])
def hpH (s st : Int) (ds : List Dy6) (x : Option (Nat × List Int × List Int)) : List O := match x with
  | none => [.row (.ds [.int .i64 s, .int .i64 st, .slice ds.length 6 (encW ds)]) 0 0 []]
  | some (k, a, b) => [.row (.ds [.int .i64 s, .int .i64 st, .slice ds.length 6 (encW ds)]) 0 0 [], .row (.ds (encI a)) k 0 [], .row (.ds (encI b)) k 0 []]
theorem Happens_ok (s st : Int) (ds : List Dy6) (n m l : List Int) (hc : chk s st ds = 0) (e1 : n.length = ds.length) (e2 : m.length = ds.length) (e3 : l.length = ds.length)
    (hB : ∀ (i : Nat) a b c, n[i]? = some a → m[i]? = some b → l[i]? = some c → (0 ≤ a ∧ a ≤ 100000) ∧ (0 ≤ b ∧ b ≤ 100000) ∧ (0 ≤ c ∧ c ≤ 100000)) :
    Sm Tryz.prog E 12 [.d (wD s st ds), .d (.slice n.length 1 (encI n)), .d (.slice m.length 1 (encI m)), .d (.slice l.length 1 (encI l))] [] (HapQ (fl st (zip3 n m l) s 0)) := by
  have G := chk_zero hc
  have hn60 := G.n
  have hst := G.store
  have hs0 := G.stock
  have hel := encW_length ds
  have hzl : (zip3 n m l).length = ds.length := by rw [zip3_length (by omega) (by omega), e1]
  refine sm_of HE true (by kernel_rfl) ?_
  unfold wD
  conv => whnf
  refine loops_by (fun x : Int × Option (Nat × List Int × List Int) => match x with
      | (s', none) => ⟨70, [(1, .d (.slice n.length 1 (encI n))), (2, .d (.slice m.length 1 (encI m))), (3, .d (.slice l.length 1 (encI l))), (4, .ptr 0 0 0 3), (8, .d .nil), (9, .d .nil), (10, .d (.int .i64 0)), (11, .d .nil), (12, .d .nil), (13, .d (.int .i64 s')), (14, .d (.int .i64 0))], .unk, hpH s st ds none, []⟩
      | (s', some (k, a, b)) => ⟨70, [(1, .d (.slice n.length 1 (encI n))), (2, .d (.slice m.length 1 (encI m))), (3, .d (.slice l.length 1 (encI l))), (4, .ptr 0 0 0 3), (8, .d .nil), (9, .d .nil), (10, .d (.int .i64 0)), (11, .slice 1 k 0 (k + 1) 1), (12, .slice 2 k 0 (k + 1) 1), (13, .d (.int .i64 s')), (14, .d (.int .i64 (k + 1 : Nat)))], .unk, hpH s st ds (some (k, a, b)), []⟩)
    (fun x => 0 ≤ x.1 ∧ x.1 ≤ st ∧ match x.2 with
      | none => fl st (zip3 n m l) s 0 = fl st (zip3 n m l) x.1 0
      | some (k, a, b) => k + 1 ≤ ds.length ∧ a.length = k + 1 ∧ b.length = k + 1 ∧ fl st (zip3 n m l) s 0 = fl st ((zip3 n m l).drop (k + 1)) x.1 (k + 1))
    (fun x => match x.2 with | none => ds.length | some (k, _) => ds.length - (k + 1)) (s, none) ⟨hs0.1, hs0.2, rfl⟩ ?_
  rintro f ⟨s', (_ | ⟨k, x, y⟩)⟩ ⟨hs1, hs2, hI⟩ ih
  · simp only at hs1 hs2 hI
    have hlt : 0 < ds.length := by omega
    have hb1 : Nat.blt 0 n.length = true := by simp [Nat.blt_eq]; omega
    have hb2 : Nat.blt 0 m.length = true := by simp [Nat.blt_eq]; omega
    have hb3 : Nat.blt 0 l.length = true := by simp [Nat.blt_eq]; omega
    obtain ⟨a, ha⟩ : ∃ a, n[0]? = some a := ⟨n[0]'(by omega), by simp⟩
    obtain ⟨b, hbb⟩ : ∃ a, m[0]? = some a := ⟨m[0]'(by omega), by simp⟩
    obtain ⟨c, hcc⟩ : ∃ a, l[0]? = some a := ⟨l[0]'(by omega), by simp⟩
    obtain ⟨B1, B2, B3⟩ := hB 0 a b c ha hbb hcc
    have hst' := fl_at (st := st) (zip3_at ha hbb hcc) s'
    simp only [List.drop_zero] at hst'
    conv => whnf
    cases h1 : ltI (0 : Int) (ds.length : Int)
    · rw [ltI_eq] at h1; have := of_decide_eq_false h1; omega
    conv => whnf
    rw [hb3]
    conv => whnf
    rw [encI_get1 hcc]
    conv => whnf
    rw [wrap_i64 (n := s' - c) (by omega) (by omega)]
    cases q1 : ltI (s' - c) 0
    · rw [ltI_eq] at q1
      have q1 := of_decide_eq_false q1
      conv => whnf
      rw [hb2]
      conv => whnf
      rw [encI_get1 hbb]
      conv => whnf
      rw [wrap_i64 (n := (s' - c) + b) (by omega) (by omega)]
      cases q2 : ltI st ((s' - c) + b)
      · rw [ltI_eq] at q2
        have q2 := of_decide_eq_false q2
        conv => whnf
        rw [hb1]
        conv => whnf
        rw [encI_get1 ha]
        conv => whnf
        rw [wrap_i64 (n := (s' - c) + b) (by omega) (by omega), wrap_i64 (n := (s' - c) + b - a) (by omega) (by omega)]
        have hX : stp st (a, b, c) s' - a = (s' - c) + b - a := by unfold stp; simp only; omega
        cases q3 : ltI ((s' - c) + b - a) 0
        · rw [ltI_eq] at q3
          have q3 := of_decide_eq_false q3
          conv => whnf
          refine ih ((s' - c) + b - a, some (0, [(s' - c) + b - a], [b])) ⟨by simp only; omega, by simp only; omega, by omega, rfl, rfl, ?_⟩ (by simp only; omega)
          rw [hI, hst', if_neg (by first | omega | (simp only; omega) | (show ¬ (stp st (a, b, c) s' < a); omega))]
          simp only [hX]
        · rw [ltI_eq] at q3
          have q3 := of_decide_eq_true q3
          rw [hI, hst', if_pos (by first | omega | (simp only; omega) | (show stp st (a, b, c) s' < a; omega))]
          conv => whnf
          exact ⟨rfl, _, _, rfl⟩
      · rw [ltI_eq] at q2
        have q2 := of_decide_eq_true q2
        conv => whnf
        rw [wrap_i64 (n := st - (s' - c)) (by omega) (by omega)]
        conv => whnf
        rw [hb1]
        conv => whnf
        rw [encI_get1 ha]
        conv => whnf
        rw [wrap_i64 (n := (s' - c) + (st - (s' - c))) (by omega) (by omega), wrap_i64 (n := (s' - c) + (st - (s' - c)) - a) (by omega) (by omega)]
        have hX : stp st (a, b, c) s' - a = (s' - c) + (st - (s' - c)) - a := by unfold stp; simp only; omega
        cases q3 : ltI ((s' - c) + (st - (s' - c)) - a) 0
        · rw [ltI_eq] at q3
          have q3 := of_decide_eq_false q3
          conv => whnf
          refine ih ((s' - c) + (st - (s' - c)) - a, some (0, [(s' - c) + (st - (s' - c)) - a], [(st - (s' - c))])) ⟨by simp only; omega, by simp only; omega, by omega, rfl, rfl, ?_⟩ (by simp only; omega)
          rw [hI, hst', if_neg (by first | omega | (simp only; omega) | (show ¬ (stp st (a, b, c) s' < a); omega))]
          simp only [hX]
        · rw [ltI_eq] at q3
          have q3 := of_decide_eq_true q3
          rw [hI, hst', if_pos (by first | omega | (simp only; omega) | (show stp st (a, b, c) s' < a; omega))]
          conv => whnf
          exact ⟨rfl, _, _, rfl⟩
    · rw [ltI_eq] at q1
      have q1 := of_decide_eq_true q1
      conv => whnf
      rw [hb2]
      conv => whnf
      rw [encI_get1 hbb]
      conv => whnf
      rw [wrap_i64 (n := 0 + b) (by omega) (by omega)]
      cases q2 : ltI st (0 + b)
      · rw [ltI_eq] at q2
        have q2 := of_decide_eq_false q2
        conv => whnf
        rw [hb1]
        conv => whnf
        rw [encI_get1 ha]
        conv => whnf
        rw [wrap_i64 (n := 0 + b) (by omega) (by omega), wrap_i64 (n := 0 + b - a) (by omega) (by omega)]
        have hX : stp st (a, b, c) s' - a = 0 + b - a := by unfold stp; simp only; omega
        cases q3 : ltI (0 + b - a) 0
        · rw [ltI_eq] at q3
          have q3 := of_decide_eq_false q3
          conv => whnf
          refine ih (0 + b - a, some (0, [0 + b - a], [b])) ⟨by simp only; omega, by simp only; omega, by omega, rfl, rfl, ?_⟩ (by simp only; omega)
          rw [hI, hst', if_neg (by first | omega | (simp only; omega) | (show ¬ (stp st (a, b, c) s' < a); omega))]
          simp only [hX]
        · rw [ltI_eq] at q3
          have q3 := of_decide_eq_true q3
          rw [hI, hst', if_pos (by first | omega | (simp only; omega) | (show stp st (a, b, c) s' < a; omega))]
          conv => whnf
          exact ⟨rfl, _, _, rfl⟩
      · rw [ltI_eq] at q2
        have q2 := of_decide_eq_true q2
        conv => whnf
        rw [wrap_i64 (n := st - 0) (by omega) (by omega)]
        conv => whnf
        rw [hb1]
        conv => whnf
        rw [encI_get1 ha]
        conv => whnf
        rw [wrap_i64 (n := 0 + (st - 0)) (by omega) (by omega), wrap_i64 (n := 0 + (st - 0) - a) (by omega) (by omega)]
        have hX : stp st (a, b, c) s' - a = 0 + (st - 0) - a := by unfold stp; simp only; omega
        cases q3 : ltI (0 + (st - 0) - a) 0
        · rw [ltI_eq] at q3
          have q3 := of_decide_eq_false q3
          conv => whnf
          refine ih (0 + (st - 0) - a, some (0, [0 + (st - 0) - a], [(st - 0)])) ⟨by simp only; omega, by simp only; omega, by omega, rfl, rfl, ?_⟩ (by simp only; omega)
          rw [hI, hst', if_neg (by first | omega | (simp only; omega) | (show ¬ (stp st (a, b, c) s' < a); omega))]
          simp only [hX]
        · rw [ltI_eq] at q3
          have q3 := of_decide_eq_true q3
          rw [hI, hst', if_pos (by first | omega | (simp only; omega) | (show stp st (a, b, c) s' < a; omega))]
          conv => whnf
          exact ⟨rfl, _, _, rfl⟩
  · obtain ⟨hkl, hx, hy, hI⟩ := hI
    simp only at hs1 hs2
    have eS : ∀ (l : List Int) (x : Int), encI l ++ [D.int .i64 x] = encI (l ++ [x]) := fun l x => (encI_snoc l x).symm
    conv => whnf
    cases h1 : ltI ((k + 1 : Nat) : Int) (ds.length : Int)
    · have hn : ds.length ≤ k + 1 := by rw [ltI_eq] at h1; have := of_decide_eq_false h1; omega
      rw [hI, List.drop_eq_nil_of_le (by omega), fl]
      conv => whnf
      rw [may_all]
      conv => whnf
      rw [show Nat.ble (0 + (k + 1) * 1) (encI x).length = true from Nat.ble_eq_true_of_le (by rw [encI_length]; omega)]
      conv => whnf
      rw [may_all]
      conv => whnf
      rw [show Nat.ble (0 + (k + 1) * 1) (encI y).length = true from Nat.ble_eq_true_of_le (by rw [encI_length]; omega)]
      conv => whnf
      exact ⟨rfl, _, _, rfl⟩
    have hlt : k + 1 < ds.length := by rw [ltI_eq] at h1; have := of_decide_eq_true h1; omega
    have hb1 : Nat.blt (k + 1) n.length = true := by simp [Nat.blt_eq]; omega
    have hb2 : Nat.blt (k + 1) m.length = true := by simp [Nat.blt_eq]; omega
    have hb3 : Nat.blt (k + 1) l.length = true := by simp [Nat.blt_eq]; omega
    obtain ⟨a, ha⟩ : ∃ a, n[k + 1]? = some a := ⟨n[k + 1]'(by omega), by simp⟩
    obtain ⟨b, hbb⟩ : ∃ a, m[k + 1]? = some a := ⟨m[k + 1]'(by omega), by simp⟩
    obtain ⟨c, hcc⟩ : ∃ a, l[k + 1]? = some a := ⟨l[k + 1]'(by omega), by simp⟩
    obtain ⟨B1, B2, B3⟩ := hB (k + 1) a b c ha hbb hcc
    have hst' := fl_at (st := st) (zip3_at ha hbb hcc) s'
    conv => whnf
    rw [hb3]
    conv => whnf
    rw [encI_get1 hcc]
    conv => whnf
    rw [wrap_i64 (n := s' - c) (by omega) (by omega)]
    cases q1 : ltI (s' - c) 0
    · rw [ltI_eq] at q1
      have q1 := of_decide_eq_false q1
      conv => whnf
      rw [hb2]
      conv => whnf
      rw [encI_get1 hbb]
      conv => whnf
      rw [wrap_i64 (n := (s' - c) + b) (by omega) (by omega)]
      cases q2 : ltI st ((s' - c) + b)
      · rw [ltI_eq] at q2
        have q2 := of_decide_eq_false q2
        conv => whnf
        rw [hb1]
        conv => whnf
        rw [encI_get1 ha]
        conv => whnf
        rw [wrap_i64 (n := (s' - c) + b) (by omega) (by omega), wrap_i64 (n := (s' - c) + b - a) (by omega) (by omega)]
        have hX : stp st (a, b, c) s' - a = (s' - c) + b - a := by unfold stp; simp only; omega
        cases q3 : ltI ((s' - c) + b - a) 0
        · rw [ltI_eq] at q3
          have q3 := of_decide_eq_false q3
          conv => whnf
          rw [show Nat.ble ((k + 1 + 1) * 8) 140737488355328 = true from Nat.ble_eq_true_of_le (by omega)]
          conv => whnf
          rw [may_all]
          conv => whnf
          rw [show Nat.ble ((k + 1 + 1) * 8) 140737488355328 = true from Nat.ble_eq_true_of_le (by omega)]
          conv => whnf
          rw [may_all]
          conv => whnf
          rw [len_beq hx, len_beq hy, wrap_succ (by omega), List.take_of_length_le (by rw [encI_length]; omega), List.take_of_length_le (by rw [encI_length]; omega), eS, eS]
          refine ih ((s' - c) + b - a, some (k + 1, x ++ [(s' - c) + b - a], y ++ [b])) ⟨by simp only; omega, by simp only; omega, by omega, by simp [hx], by simp [hy], ?_⟩ (by simp only; omega)
          rw [hI, hst', if_neg (by first | omega | (simp only; omega) | (show ¬ (stp st (a, b, c) s' < a); omega))]
          simp only [hX]
        · rw [ltI_eq] at q3
          have q3 := of_decide_eq_true q3
          rw [hI, hst', if_pos (by first | omega | (simp only; omega) | (show stp st (a, b, c) s' < a; omega))]
          conv => whnf
          rw [may_all]
          conv => whnf
          rw [show Nat.ble (0 + (k + 1) * 1) (encI x).length = true from Nat.ble_eq_true_of_le (by rw [encI_length]; omega)]
          conv => whnf
          rw [may_all]
          conv => whnf
          rw [show Nat.ble (0 + (k + 1) * 1) (encI y).length = true from Nat.ble_eq_true_of_le (by rw [encI_length]; omega)]
          conv => whnf
          exact ⟨rfl, _, _, rfl⟩
      · rw [ltI_eq] at q2
        have q2 := of_decide_eq_true q2
        conv => whnf
        rw [wrap_i64 (n := st - (s' - c)) (by omega) (by omega)]
        conv => whnf
        rw [hb1]
        conv => whnf
        rw [encI_get1 ha]
        conv => whnf
        rw [wrap_i64 (n := (s' - c) + (st - (s' - c))) (by omega) (by omega), wrap_i64 (n := (s' - c) + (st - (s' - c)) - a) (by omega) (by omega)]
        have hX : stp st (a, b, c) s' - a = (s' - c) + (st - (s' - c)) - a := by unfold stp; simp only; omega
        cases q3 : ltI ((s' - c) + (st - (s' - c)) - a) 0
        · rw [ltI_eq] at q3
          have q3 := of_decide_eq_false q3
          conv => whnf
          rw [show Nat.ble ((k + 1 + 1) * 8) 140737488355328 = true from Nat.ble_eq_true_of_le (by omega)]
          conv => whnf
          rw [may_all]
          conv => whnf
          rw [show Nat.ble ((k + 1 + 1) * 8) 140737488355328 = true from Nat.ble_eq_true_of_le (by omega)]
          conv => whnf
          rw [may_all]
          conv => whnf
          rw [len_beq hx, len_beq hy, wrap_succ (by omega), List.take_of_length_le (by rw [encI_length]; omega), List.take_of_length_le (by rw [encI_length]; omega), eS, eS]
          refine ih ((s' - c) + (st - (s' - c)) - a, some (k + 1, x ++ [(s' - c) + (st - (s' - c)) - a], y ++ [(st - (s' - c))])) ⟨by simp only; omega, by simp only; omega, by omega, by simp [hx], by simp [hy], ?_⟩ (by simp only; omega)
          rw [hI, hst', if_neg (by first | omega | (simp only; omega) | (show ¬ (stp st (a, b, c) s' < a); omega))]
          simp only [hX]
        · rw [ltI_eq] at q3
          have q3 := of_decide_eq_true q3
          rw [hI, hst', if_pos (by first | omega | (simp only; omega) | (show stp st (a, b, c) s' < a; omega))]
          conv => whnf
          rw [may_all]
          conv => whnf
          rw [show Nat.ble (0 + (k + 1) * 1) (encI x).length = true from Nat.ble_eq_true_of_le (by rw [encI_length]; omega)]
          conv => whnf
          rw [may_all]
          conv => whnf
          rw [show Nat.ble (0 + (k + 1) * 1) (encI y).length = true from Nat.ble_eq_true_of_le (by rw [encI_length]; omega)]
          conv => whnf
          exact ⟨rfl, _, _, rfl⟩
    · rw [ltI_eq] at q1
      have q1 := of_decide_eq_true q1
      conv => whnf
      rw [hb2]
      conv => whnf
      rw [encI_get1 hbb]
      conv => whnf
      rw [wrap_i64 (n := 0 + b) (by omega) (by omega)]
      cases q2 : ltI st (0 + b)
      · rw [ltI_eq] at q2
        have q2 := of_decide_eq_false q2
        conv => whnf
        rw [hb1]
        conv => whnf
        rw [encI_get1 ha]
        conv => whnf
        rw [wrap_i64 (n := 0 + b) (by omega) (by omega), wrap_i64 (n := 0 + b - a) (by omega) (by omega)]
        have hX : stp st (a, b, c) s' - a = 0 + b - a := by unfold stp; simp only; omega
        cases q3 : ltI (0 + b - a) 0
        · rw [ltI_eq] at q3
          have q3 := of_decide_eq_false q3
          conv => whnf
          rw [show Nat.ble ((k + 1 + 1) * 8) 140737488355328 = true from Nat.ble_eq_true_of_le (by omega)]
          conv => whnf
          rw [may_all]
          conv => whnf
          rw [show Nat.ble ((k + 1 + 1) * 8) 140737488355328 = true from Nat.ble_eq_true_of_le (by omega)]
          conv => whnf
          rw [may_all]
          conv => whnf
          rw [len_beq hx, len_beq hy, wrap_succ (by omega), List.take_of_length_le (by rw [encI_length]; omega), List.take_of_length_le (by rw [encI_length]; omega), eS, eS]
          refine ih (0 + b - a, some (k + 1, x ++ [0 + b - a], y ++ [b])) ⟨by simp only; omega, by simp only; omega, by omega, by simp [hx], by simp [hy], ?_⟩ (by simp only; omega)
          rw [hI, hst', if_neg (by first | omega | (simp only; omega) | (show ¬ (stp st (a, b, c) s' < a); omega))]
          simp only [hX]
        · rw [ltI_eq] at q3
          have q3 := of_decide_eq_true q3
          rw [hI, hst', if_pos (by first | omega | (simp only; omega) | (show stp st (a, b, c) s' < a; omega))]
          conv => whnf
          rw [may_all]
          conv => whnf
          rw [show Nat.ble (0 + (k + 1) * 1) (encI x).length = true from Nat.ble_eq_true_of_le (by rw [encI_length]; omega)]
          conv => whnf
          rw [may_all]
          conv => whnf
          rw [show Nat.ble (0 + (k + 1) * 1) (encI y).length = true from Nat.ble_eq_true_of_le (by rw [encI_length]; omega)]
          conv => whnf
          exact ⟨rfl, _, _, rfl⟩
      · rw [ltI_eq] at q2
        have q2 := of_decide_eq_true q2
        conv => whnf
        rw [wrap_i64 (n := st - 0) (by omega) (by omega)]
        conv => whnf
        rw [hb1]
        conv => whnf
        rw [encI_get1 ha]
        conv => whnf
        rw [wrap_i64 (n := 0 + (st - 0)) (by omega) (by omega), wrap_i64 (n := 0 + (st - 0) - a) (by omega) (by omega)]
        have hX : stp st (a, b, c) s' - a = 0 + (st - 0) - a := by unfold stp; simp only; omega
        cases q3 : ltI (0 + (st - 0) - a) 0
        · rw [ltI_eq] at q3
          have q3 := of_decide_eq_false q3
          conv => whnf
          rw [show Nat.ble ((k + 1 + 1) * 8) 140737488355328 = true from Nat.ble_eq_true_of_le (by omega)]
          conv => whnf
          rw [may_all]
          conv => whnf
          rw [show Nat.ble ((k + 1 + 1) * 8) 140737488355328 = true from Nat.ble_eq_true_of_le (by omega)]
          conv => whnf
          rw [may_all]
          conv => whnf
          rw [len_beq hx, len_beq hy, wrap_succ (by omega), List.take_of_length_le (by rw [encI_length]; omega), List.take_of_length_le (by rw [encI_length]; omega), eS, eS]
          refine ih (0 + (st - 0) - a, some (k + 1, x ++ [0 + (st - 0) - a], y ++ [(st - 0)])) ⟨by simp only; omega, by simp only; omega, by omega, by simp [hx], by simp [hy], ?_⟩ (by simp only; omega)
          rw [hI, hst', if_neg (by first | omega | (simp only; omega) | (show ¬ (stp st (a, b, c) s' < a); omega))]
          simp only [hX]
        · rw [ltI_eq] at q3
          have q3 := of_decide_eq_true q3
          rw [hI, hst', if_pos (by first | omega | (simp only; omega) | (show stp st (a, b, c) s' < a; omega))]
          conv => whnf
          rw [may_all]
          conv => whnf
          rw [show Nat.ble (0 + (k + 1) * 1) (encI x).length = true from Nat.ble_eq_true_of_le (by rw [encI_length]; omega)]
          conv => whnf
          rw [may_all]
          conv => whnf
          rw [show Nat.ble (0 + (k + 1) * 1) (encI y).length = true from Nat.ble_eq_true_of_le (by rw [encI_length]; omega)]
          conv => whnf
          exact ⟨rfl, _, _, rfl⟩
end Go.Proofs.Hx
