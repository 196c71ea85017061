/-
  TopRanked: a round.
-/
import Derived.Test.YtklidmlhlelngaaGreatDoorRxI
namespace Go.Proofs.Rx
open Go Go.Ab Go.Proofs.Rw
set_option maxRecDepth 100000
set_option maxHeartbeats 4000000
theorem unk_of {f : Nat} {args : List V} {hp H : List O} (h : Sm Tryz.prog E f args hp (fun v h => h = H ∧ ∃ x, v = .d x)) : Sm Tryz.prog E f args hp (fun v h => v = .d .unk ∧ h = H) := by
  obtain ⟨he, h⟩ := h
  refine ⟨he, fun Z μ w cargs S ha => CallsIn.mono (h Z μ w cargs S ha) ?_⟩
  intro e w' hp
  cases e with
  | returned cv =>
    obtain ⟨v, h', Z', μ', ⟨rfl, x, rfl⟩, S', hv, F⟩ := hp
    exact ⟨.d .unk, _, Z', μ', ⟨rfl, rfl⟩, S', trivial, F⟩
  | panicked _ => exact hp.elim
  | outgrown => exact hp.elim
def rnE (o : Ord) (sk : Int) : Int := match ltI (cnf o sk.toNat 0) 0 with
  | true => 6
  | false => 0
theorem Round_ok (sk er : Int) (rs : List Run3) (hc : chk sk er rs = 0) {o : Ord} (ho : o = clo (prs er rs) o0) :
    Rets Tryz.prog E 10 [.d (laD sk er rs)] (.d (.tuple [.unk, .int .i64 (rnE o sk)])) := by
  have G := chk_zero hc
  have hk := G.skis
  obtain ⟨F, hF⟩ : ∃ F, F = encO o := ⟨_, rfl⟩
  have hFl : F.length = 64 := by rw [hF]; exact encO_length o
  have ha := asked_ok sk er rs hc (F := F) (by rw [hF, ho])
  have hcf := conflict_ok G hF
  have hch := fun (s : Nat) (hs : s < 8) => unk_of (chain_ok sk er rs G hFl hs)
  unfold deO at ha hcf hch
  suffices H : Sm Tryz.prog E 10 [.d (laD sk er rs)] [] (fun v h => h = [] ∧ ∃ x, v = .d x ∧ Wk x (.tuple [.unk, .int .i64 (rnE o sk)])) by
    obtain ⟨he, h⟩ := H
    refine ⟨he, fun Z μ w cargs S ha => CallsIn.mono (h Z μ w cargs S ha) ?_⟩
    intro e w' hp
    cases e with
    | returned cv =>
      obtain ⟨v, h', Z', μ', ⟨rfl, x, rfl, hw⟩, S', hv, F⟩ := hp
      exact ⟨.d _, [], Z', μ', ⟨rfl, rfl⟩, S', hw _ _ _ hv, F⟩
    | panicked _ => exact hp.elim
    | outgrown => exact hp.elim
  have hwk : ∀ (a : D) (n : Int), Wk (.tuple [a, .int .i64 n]) (.tuple [.unk, .int .i64 n]) := by
    rintro a n Z w v ⟨vs, rfl, a, as1, e, _, b, as2, e2, h3, h4⟩
    exact ⟨vs, rfl, a, as1, e, trivial, b, as2, e2, h3, h4⟩
  refine sm_of HE true (by kernel_rfl) ?_
  unfold laD labL rnE
  conv => whnf
  refine Sm.mono ha ?_
  rintro v h ⟨rfl, rfl⟩
  conv => whnf
  refine Sm.mono hcf ?_
  rintro v h ⟨rfl, rfl⟩
  conv => whnf
  rcases cnf_spec o sk.toNat 0 with ⟨h1, _⟩ | ⟨s, h1, _, h2, _⟩
  · rw [h1]
    conv => whnf
    exact ⟨rfl, _, rfl, hwk _ _⟩
  · rw [h1]
    conv => whnf
    cases h3 : ltI (s : Int) 0
    · conv => whnf
      refine Sm.mono (hch s (by omega)) ?_
      rintro v h ⟨rfl, rfl⟩
      conv => whnf
      refine ⟨rfl, _, rfl, hwk _ _⟩
    · exfalso
      rw [ltI_eq] at h3
      have := of_decide_eq_true h3
      omega
end Go.Proofs.Rx
