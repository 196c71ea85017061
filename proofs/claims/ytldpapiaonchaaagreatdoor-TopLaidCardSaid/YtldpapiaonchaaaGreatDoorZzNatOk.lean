/-
  Functions of Go's library that are carried out at once do what the library's contracts say.
-/
import Derived.Test.YtldpapiaonchaaaGreatDoorZzT
import Derived.Below
import Derived.Lib.Bytealg
import Derived.Lib.Join
import Derived.Lib.ItoaMem
import Derived.Lib.LaidTab
import Derived.Lib.AppendIntMem
namespace Go.Ab
open Go Go.RowKit Go.Sort

/-- The library's contracts, at a program's own numbers. -/
structure LibOk (P : Program) (fI fC fJ fA gP : Nat) : Prop where
  eI : Enters P fI
  eC : Enters P fC
  eJ : Enters P fJ
  eA : Enters P fA
  ib : ∀ (s : ByteArray) (c : Int) (w : World), Calls P fI #[.string s, .int .u8 c] w fun e w' => e = .returned (.int .i64 (Lib.indexByte s.data.toList c.toNat.toUInt8)) ∧ w' = w
  ct : ∀ (s : ByteArray) (c : UInt8) (w : World), Calls P fC #[.string s, .string ⟨#[c]⟩] w fun e w' => e = .returned (.int .i64 (Lib.countByte s.data.toList c)) ∧ w' = w
  j0 : ∀ (a : Option Addr) (c : Nat) (sep : ByteArray) (w : World), Calls P fJ #[.slice a 0 c, .string sep] w fun e w' => e = .returned (.string ⟨#[]⟩) ∧ w' = w
  jn : ∀ (bk o c : Nat) (xs : List ByteArray) (sep : ByteArray) (w : World), (∀ (j : Nat) x, xs[j]? = some x → w.cell? ⟨bk, o + j, none⟩ = some (.string x)) → bk < w.heap.size → xs.length ≤ 140737488355328 → xs.length ≤ c →
    (Lib.join (xs.map (·.data.toList)) sep.data.toList).length ≤ 140737488355328 →
    Calls P fJ #[.slice (some ⟨bk, o, none⟩) xs.length c, .string sep] w fun e w' => e = .returned (.string ⟨(Lib.join (xs.map (·.data.toList)) sep.data.toList).toArray⟩) ∧ Below w.heap.size w w'
  it : ∀ (n : Int), -9223372036854775808 ≤ n → n ≤ 9223372036854775807 → ∀ w : World, Lib.TabIs P w "internal/strconv.uint64pow10" .u64 Lib.pow10Tab →
    Calls P fA #[.int .i64 n] w fun e w' => e = .returned (.string ⟨(Lib.itoa n).toArray⟩) ∧ ∃ k os, w' = grow (w.drewN k) os
  gp : P.globalNamed "internal/strconv.uint64pow10" = some gP
def pow10D : List D := Lib.pow10Tab.map fun z => .int .u64 z
def libX (fI fC fJ fA : Nat) (f : Nat) : Option (List V → List O → Option (V × List O)) :=
  match Nat.beq f fI with
  | true => some natIndexByte
  | false => match Nat.beq f fC with
    | true => some natCount
    | false => match Nat.beq f fJ with
      | true => some natJoin
      | false => match Nat.beq f fA with
        | true => some natItoa
        | false => none

theorem indexB_eq (c : Nat) (hc : c < 256) : ∀ (l : List UInt8) (i : Nat), indexB c l i = if Lib.indexByte l c.toUInt8 = -1 then -1 else Lib.indexByte l c.toUInt8 + i
  | [], i => by simp [indexB, Lib.indexByte]
  | b :: l, i => by
    have hb : Nat.beq b.toNat c = (b == c.toUInt8) := by
      have hcc : c.toUInt8.toNat = c := by
        show (UInt8.ofNat c).toNat = c
        rw [UInt8.toNat_ofNat']; omega
      rw [Bool.eq_iff_iff]
      constructor
      · intro h
        have h := Nat.eq_of_beq_eq_true h
        rw [beq_iff_eq]; apply UInt8.toNat_inj.1; rw [h, hcc]
      · intro h
        rw [beq_iff_eq] at h
        rw [h, hcc]; exact Nat.beq_refl c
    unfold indexB Lib.indexByte
    rw [hb, indexB_eq c hc l (i + 1)]
    have hge := Lib.indexByte_ge l c.toUInt8
    cases b == c.toUInt8 with
    | true => simp
    | false =>
      simp only [Bool.false_eq_true, if_false, beq_iff_eq]
      by_cases h : Lib.indexByte l c.toUInt8 = -1
      · simp [h]
      · rw [if_neg h, if_neg h, if_neg (by omega)]
        omega
theorem countB_eq (c : UInt8) : ∀ (l : List UInt8) (n : Nat), countB c.toNat l n = n + Lib.countByte l c
  | [], n => by simp [countB, Lib.countByte]
  | b :: l, n => by
    have hb : Nat.beq b.toNat c.toNat = (b == c) := by
      rw [Bool.eq_iff_iff]
      constructor
      · intro h
        rw [beq_iff_eq]; exact UInt8.toNat_inj.1 (Nat.eq_of_beq_eq_true h)
      · intro h
        rw [beq_iff_eq] at h
        rw [h]; exact Nat.beq_refl _
    unfold countB
    rw [hb]
    have ih := countB_eq c l
    simp only [Lib.countByte] at *
    rw [List.count_cons]
    cases b == c with
    | true => simp only [ih, if_true]; omega
    | false => simp [ih]
theorem joinT_eq (sep : List UInt8) : ∀ l : List (List UInt8), joinT sep l = Lib.joinTail sep l
  | [] => rfl
  | x :: l => by simp [joinT, Lib.joinTail, joinT_eq sep l]
theorem joinB_eq (sep : List UInt8) (l : List (List UInt8)) : joinB sep l = Lib.join l sep := by
  cases l with
  | nil => rfl
  | cons x l => rw [Lib.join_cons, joinB, joinT_eq]
theorem digB_eq : ∀ (k u : Nat) (acc : List UInt8), 0 < k → u < 10 ^ k → digB k u acc = Lib.decDigits u ++ acc
  | 0, u, acc, h0, h => absurd h0 (Nat.lt_irrefl _)
  | k + 1, u, acc, h0, h => by
    unfold digB
    rw [Lib.decDigits]
    by_cases hu : u < 10
    · have : Nat.blt u 10 = true := by simpa [Nat.blt_eq] using hu
      rw [this, dif_pos hu]; rfl
    · have : Nat.blt u 10 = false := by
        cases hh : Nat.blt u 10 with
        | false => rfl
        | true => exact absurd (by simpa [Nat.blt_eq] using hh) hu
      rw [this, dif_neg hu]
      simp only
      rw [digB_eq k (u / 10) _ (by cases k with | zero => (simp at h; omega) | succ k => exact Nat.succ_pos k) (by rw [Nat.pow_succ] at h; omega)]
      simp
theorem itoaB_eq (n : Int) (h0 : -9223372036854775808 ≤ n) (h1 : n ≤ 9223372036854775807) : itoaB n = Lib.itoa n := by
  unfold itoaB Lib.itoa
  cases n with
  | ofNat m =>
    simp only
    have h1' : (m : Int) ≤ 9223372036854775807 := h1
    rw [if_neg (by simp), digB_eq 20 m [] (by decide) (by omega)]
    simp
  | negSucc m =>
    simp only
    rw [if_pos (by omega), digB_eq 20 (m + 1) [] (by decide) (by omega)]
    simp
section
variable {P : Program} {E : Env}
theorem SR.below {Z : Nat → Prop} {μ : Mu} {h : List O} {w w' : World} (S : SR E Z μ h w) (hb : Below w.heap.size w w') (m : Nat) : SR E Z μ h w' ∧ Frame m Z μ w Z μ w' := by
  have hk : ∀ c, c < w.heap.size → w'.heap[c]? = w.heap[c]? := hb.block
  have H : Ext Z μ w Z μ w' := ⟨fun _ h => h, fun c hc => hk c (S.zlt c hc), fun _ _ _ h => h, fun c C el fr hc => ⟨C, by rw [hk c (Array.getElem?_eq_some_iff.1 hc).1]; exact hc, rfl⟩⟩
  refine ⟨⟨fun c hc => Nat.lt_of_lt_of_le (S.zlt c hc) hb.size, fun b hbl => OR.mono H (S.obj b hbl) (fun _ _ h => h) fun e x c hx hc => hk c (S.own b e x c hx hc).1, S.dom, fun b e x c hx hc => ⟨Nat.lt_of_lt_of_le (S.own b e x c hx hc).1 hb.size, (S.own b e x c hx hc).2⟩, S.inj, glob_mono H.z H.zw S.glob⟩,
    ⟨hb.os, hb.tape, hb.output, hb.size, fun c hc _ => hk c hc, fun _ h => h, fun _ h => .inl h, fun b e x c hx hc => .inl ⟨b, e, x, hx, hc⟩, fun _ _ _ _ h => h, H.sz, fun _ _ h => h⟩⟩
theorem sem_below {f : Nat} {args : List V} {h : List O} {v : V} (he : Enters P f)
    (hc : ∀ Z μ w (cargs : Array Value), SR E Z μ h w → VRL Z μ w args cargs.toList → ∃ cv, (∀ w', VR Z μ w' v cv) ∧ Calls P f cargs w fun e w' => e = .returned cv ∧ Below w.heap.size w w') : SemC P E f args h fun u g => u = v ∧ g = h := by
  refine ⟨he, fun Z μ w cargs S ha => ?_⟩
  obtain ⟨cv, hv, hcall⟩ := hc Z μ w cargs S ha
  refine CallsIn.mono (callsIn_wide.2 hcall) ?_
  rintro e w' ⟨rfl, hb⟩
  obtain ⟨S', F⟩ := S.below hb h.length
  exact ⟨v, h, Z, μ, ⟨rfl, rfl⟩, S', hv w', F⟩
theorem args1 {Z : Nat → Prop} {μ : Mu} {w : World} {a : V} {cargs : Array Value} (h : VRL Z μ w [a] cargs.toList) : ∃ x, cargs = #[x] ∧ VR Z μ w a x := by
  obtain ⟨x, xs, e, h1, h2⟩ := h
  have h2 : xs = [] := h2
  subst h2
  exact ⟨x, by rw [← Array.toList_inj]; exact e, h1⟩
theorem args2 {Z : Nat → Prop} {μ : Mu} {w : World} {a b : V} {cargs : Array Value} (h : VRL Z μ w [a, b] cargs.toList) : ∃ x y, cargs = #[x, y] ∧ VR Z μ w a x ∧ VR Z μ w b y := by
  obtain ⟨x, xs, e, h1, y, ys, e2, h2, h3⟩ := h
  have h3 : ys = [] := h3
  subst h3 e2
  exact ⟨x, y, by rw [← Array.toList_inj]; exact e, h1, h2⟩
theorem strsOf_ok {Z : Nat → Prop} {μ : Mu} {w : World} : ∀ {cells : List V} {l : List (List UInt8)} {cvs : List Value}, strsOf cells = some l → VRL Z μ w cells cvs → cvs = l.map fun s => .string ⟨s.toArray⟩
  | [], l, cvs, h, hv => by
    simp only [strsOf, Option.some.injEq] at h; subst h
    have hv : cvs = [] := hv
    rw [hv]; rfl
  | v :: cells, l, cvs, h, hv => by
    obtain ⟨u, us, rfl, h1, h2⟩ := hv
    cases v with
    | d x =>
      cases x with
      | str s =>
        simp only [strsOf] at h
        split at h
        · rename_i r hr
          cases h
          have h1 : u = .string ⟨s.toArray⟩ := h1
          rw [h1, strsOf_ok hr h2]; rfl
        · cases h
      | _ => cases h
    | _ => cases h
theorem row_strs {Z : Nat → Prop} {μ : Mu} {h : List O} {w : World} (S : SR E Z μ h w) {y : V} {cy : Value} {n : Nat} {cells : List V} (hy : VR Z μ w y cy) (hr : rowOf 1 h y = some (n, cells)) (hns : ∀ s, y ≠ .d (.str s)) :
    ∃ a cap cvs, cy = .slice a n cap ∧ n ≤ cap ∧ VRL Z μ w cells cvs ∧ cells.length = n ∧ (n = 0 ∨ ∃ c o, a = some ⟨c, o, none⟩ ∧ c < w.heap.size ∧ ∀ i u, cvs[i]? = some u → w.cell? ⟨c, o + i, none⟩ = some u) := by
  unfold rowOf at hr
  split at hr
  · cases hr
    exact ⟨none, 0, [], hy, Nat.le_refl _, rfl, rfl, .inl rfl⟩
  · cases hr
    obtain ⟨a, rfl⟩ := hy
    exact ⟨a, 0, [], rfl, Nat.le_refl _, rfl, rfl, .inl rfl⟩
  · rename_i n' sz' cs
    split at hr
    · rename_i hsz
      cases hr
      have hsz := Nat.eq_of_beq_eq_true hsz
      subst hsz
      obtain ⟨a, cap, rfl, h1, h2, h3⟩ := hy
      have hl : (cs.map V.d).length = n := by simp; omega
      rcases h3 with h0 | ⟨c, o, rfl, hz, hat⟩
      · subst h0
        have : cs = [] := List.eq_nil_of_length_eq_zero (by omega)
        subst this
        exact ⟨a, cap, [], rfl, h1, rfl, rfl, .inl rfl⟩
      · obtain ⟨cvs, k1, k2⟩ : ∃ cvs, VRdL Z w cs cvs ∧ ∀ i u, cvs[i]? = some u → w.cell? ⟨c, o + i, none⟩ = some u := by
          clear h1 h2 hl hns
          induction cs generalizing o with
          | nil => exact ⟨[], rfl, by simp⟩
          | cons x cs ih =>
            obtain ⟨⟨v, e1, _, e2⟩, e3⟩ := hat
            obtain ⟨cvs, k1, k2⟩ := ih (o + 1) e3
            refine ⟨v :: cvs, ⟨v, cvs, rfl, e2, k1⟩, fun i u hu => ?_⟩
            cases i with
            | zero => simp at hu; subst hu; exact e1
            | succ i => rw [← k2 i u (by simpa using hu)]; congr 2; omega
        exact ⟨_, cap, cvs, rfl, h1, k1.toV, hl, .inr ⟨c, o, rfl, S.zlt c hz, k2⟩⟩
    · cases hr
  · exact absurd rfl (hns _)
  · rename_i b e off n' sz'
    split at hr
    · rename_i c cur fl cons hrow
      split at hr
      · rename_i hsz hm
        have hsz := Nat.eq_of_beq_eq_true hsz
        subst hsz
        split at hr
        · rename_i l hl
          cases hr
          obtain ⟨y, ad, cap, h1, rfl, h2, h3, h4⟩ := hy
          obtain ⟨l1, l2⟩ := rd_spec (rdV_rd hl)
          have hlen : cells.length = n := by rw [l2]; simp; omega
          rcases Nat.eq_zero_or_pos n with h0 | hn
          · subst h0
            have : cells = [] := List.eq_nil_of_length_eq_zero hlen
            subst this
            exact ⟨ad, cap, [], rfl, h2, rfl, rfl, .inl rfl⟩
          · rcases h4 with rfl | ⟨blk, C, el, fr, e1, rfl, e2, e3⟩
            · omega
            obtain ⟨blk', g1, g2, _⟩ := row_cells S hrow h1 hm h3 (by omega)
            rw [e1] at g1; cases g1
            rw [← l2] at g2
            obtain ⟨cvs, f1, f2⟩ := g2.list
            exact ⟨_, cap, cvs, rfl, h2, f1, hlen, .inr ⟨blk, off, rfl, (Array.getElem?_eq_some_iff.1 e2).1, fun i u hu => (f2 i u hu).1⟩⟩
        · cases hr
      · cases hr
    · cases hr
  · cases hr
theorem tab_ok {Z : Nat → Prop} {w : World} {gP : Nat} (hgp : P.globalNamed "internal/strconv.uint64pow10" = some gP) (h1 : VRdAt Z w gP 0 pow10D) (h2 : SizedAt w gP pow10D.length) : Lib.TabIs P w "internal/strconv.uint64pow10" .u64 Lib.pow10Tab := by
  obtain ⟨C, el, fr, hc, hs⟩ := h2
  unfold Lib.TabIs World.var?
  rw [hgp]
  simp only [Option.bind_some, hc, Option.some.injEq]
  apply Array.ext'
  simp only
  apply List.ext_getElem?
  intro i
  by_cases hi : i < pow10D.length
  · obtain ⟨d, hd⟩ : ∃ d, pow10D[i]? = some d := ⟨pow10D[i], by simp [hi]⟩
    obtain ⟨v, hv, _, hvr⟩ := h1.at_ i d hd
    simp only [World.cell?, hc, Nat.zero_add] at hv
    unfold pow10D at hd
    rw [List.getElem?_map, Option.map_eq_some_iff] at hd
    obtain ⟨z, hz, rfl⟩ := hd
    have hvr : v = .int .u64 z := hvr
    subst hvr
    rw [List.getElem?_map, hz]
    simpa using hv
  · rw [List.getElem?_eq_none (by simp; omega), List.getElem?_eq_none (by unfold pow10D at hi; simpa using hi)]
theorem nat_ok {fI fC fJ fA gP : Nat} (L : LibOk P fI fC fJ fA gP) (hg : E.glob gP = some pow10D) : NatOk P E (libX fI fC fJ fA) := by
  intro f x args h v h' hx hv
  unfold libX at hx
  split at hx
  · rename_i hf
    obtain rfl := Nat.eq_of_beq_eq_true hf
    cases hx
    unfold natIndexByte at hv
    split at hv
    · rename_i s c
      split at hv
      · rename_i hc
        have hc : c < 256 := by simpa [Nat.blt_eq] using hc
        cases hv
        refine sem_below L.eI fun Z μ w cargs S ha => ?_
        obtain ⟨x, y, rfl, h1, h2⟩ := args2 ha
        have h1 : x = .string ⟨s.toArray⟩ := h1
        have h2 : y = .int .u8 c := h2
        subst h1 h2
        refine ⟨.int .i64 (Lib.indexByte s c.toUInt8), fun w' => ?_, (L.ib ⟨s.toArray⟩ c w).mono fun e w' hh => ⟨by simpa using hh.1, by rw [hh.2]; exact Below.refl _ _⟩⟩
        have hge := Lib.indexByte_ge s c.toUInt8
        show _ = Value.int .i64 (indexB c s 0)
        rw [indexB_eq c hc]
        split
        · rename_i hh; rw [hh]
        · simp
      · cases hv
    · cases hv
  · split at hx
    · rename_i hf
      obtain rfl := Nat.eq_of_beq_eq_true hf
      cases hx
      unfold natCount at hv
      split at hv
      · rename_i s c
        cases hv
        refine sem_below L.eC fun Z μ w cargs S ha => ?_
        obtain ⟨x, y, rfl, h1, h2⟩ := args2 ha
        have h1 : x = .string ⟨s.toArray⟩ := h1
        have h2 : y = .string ⟨#[c]⟩ := h2
        subst h1 h2
        refine ⟨.int .i64 (Lib.countByte s c), fun w' => ?_, (L.ct ⟨s.toArray⟩ c w).mono fun e w' hh => ⟨by simpa using hh.1, by rw [hh.2]; exact Below.refl _ _⟩⟩
        show _ = Value.int .i64 _
        rw [countB_eq]; simp
      · cases hv
    · split at hx
      · rename_i hf
        obtain rfl := Nat.eq_of_beq_eq_true hf
        cases hx
        unfold natJoin at hv
        split at hv
        · cases hv
        · rename_i y sep hns
          split at hv
          · rename_i n cells hr
            split at hv
            · rename_i l hl
              split at hv
              · rename_i hn hj
                have hn := Nat.le_of_ble_eq_true hn
                have hj := Nat.le_of_ble_eq_true hj
                cases hv
                refine sem_below L.eJ fun Z μ w cargs S ha => ?_
                obtain ⟨x, z, rfl, h1, h2⟩ := args2 ha
                have h2 : z = .string ⟨sep.toArray⟩ := h2
                subst h2
                refine ⟨.string ⟨(joinB sep l).toArray⟩, fun w' => rfl, ?_⟩
                obtain ⟨a, cap, cvs, rfl, q1, q2, q3, q4⟩ := row_strs S h1 hr fun s hs => hns s hs
                have hcv := strsOf_ok hl q2
                have hll : l.length = n := by have := q2.length; rw [hcv] at this; simpa [q3] using this.symm
                rw [joinB_eq] at hj ⊢
                rcases q4 with h0 | ⟨c, o, rfl, hcs, hcell⟩
                · subst h0
                  have : l = [] := List.eq_nil_of_length_eq_zero hll
                  subst this
                  exact (L.j0 a cap _ w).mono fun e w' hh => ⟨hh.1, by rw [hh.2]; exact Below.refl _ _⟩
                · have hm : (l.map fun s => (⟨s.toArray⟩ : ByteArray)).map (fun b => b.data.toList) = l := by rw [List.map_map]; exact (List.map_congr_left fun a _ => rfl).trans (List.map_id l)
                  have := L.jn c o cap (l.map fun s => ⟨s.toArray⟩) ⟨sep.toArray⟩ w (fun j x hx => by
                    rw [List.getElem?_map, Option.map_eq_some_iff] at hx
                    obtain ⟨s, hs, rfl⟩ := hx
                    exact hcell j _ (by rw [hcv, List.getElem?_map, hs]; rfl)) hcs (by simp; omega) (by simp; omega) (by rw [hm]; simpa using hj)
                  rw [hm] at this
                  rw [List.length_map, hll] at this
                  exact this.mono fun e w' hh => ⟨by simpa using hh.1, hh.2⟩
              · cases hv
            · cases hv
          · cases hv
        · cases hv
      · split at hx
        · rename_i hf
          obtain rfl := Nat.eq_of_beq_eq_true hf
          cases hx
          unfold natItoa at hv
          split at hv
          · rename_i n
            split at hv
            · rename_i hn0 hn1
              rw [leI_eq] at hn0 hn1
              have hn0 := of_decide_eq_true hn0
              have hn1 := of_decide_eq_true hn1
              cases hv
              refine sem_below L.eA fun Z μ w cargs S ha => ?_
              obtain ⟨x, rfl, h1⟩ := args1 ha
              have h1 : x = .int .i64 n := h1
              subst h1
              refine ⟨.string ⟨(itoaB n).toArray⟩, fun w' => rfl, (L.it n hn0 hn1 w ?_).mono fun e w' hh => ⟨by rw [itoaB_eq n hn0 hn1]; exact hh.1, ?_⟩⟩
              · obtain ⟨_, g1, g2⟩ := S.glob gP _ hg
                exact tab_ok L.gp g1 g2
              · obtain ⟨_, k, os, rfl⟩ := hh
                exact Lib.below_grow _ _ (Nat.le_refl _) k os
            · cases hv
          · cases hv
        · cases hx
end
end Go.Ab
