/- The order by ranks, as the reference and the program reckon it. No condition. -/
import Derived.Test.YtcadaadoodpnmaaLRankOrder
import Derived.Test.YtcadaadoodpnmaaLCur
namespace Go.Proofs.Ytcadaadoodpnmaa.Am
open Go Go.RowKit
set_option linter.unusedSimpArgs false
set_option linter.unusedVariables false

open Classical in
noncomputable def ores (l : List Task) : List Int × Bool := if GoodT l then (ord (rks 0 l) l.length, true) else ([], false)
set_option maxRecDepth 100000 in
theorem specOrder_ok (l : List Task) (us : List AV) (v : AV) (H : Hp) (hm : l.length ≤ 1048576) (hmm : ∀ t ∈ l, t.after.length ≤ 1048576) (hv : TRow H v l us) : T Try.prog 35 [v] H (fun r K => ∃ out, r = .tup [out, .bool (ores l).2] ∧ Own 1 K out (ints (ores l).1) ∧ Fresh H.length out ∧ Fr H K) := by
  refine T.by tabOk Try.func35 (by kernel_rfl) rfl _ (by simp [Try.f35]) H _ ?_
  have hlen := hv.count 49
  simp [Try.f35]
  refine (specGood_ok l us v H hm hmm hv).mono fun r K ⟨⟨t, h1, h2⟩, h3⟩ => ?_
  subst h1
  by_cases hg : GoodT l
  case neg =>
    have : t = false := by
      cases t with
      | false => rfl
      | true => exact absurd (h2.1 rfl) hg
    subst this
    simp [ores, hg]
    exact ⟨Own.nil 1 K, Fresh.nil _, h3⟩
  obtain rfl := h2.2 hg
  simp [tab]
  refine (l10Ranks_ok l us v K hg hmm (hv.fr h3)).mono fun w K1 ⟨e1, e2, e3⟩ => ?_
  have hl12 := hg.1
  have hrb := rks_bound l 0 (fun t ht => hg.longs t ht)
  simp [tab, hlen]
  refine W_loop _ fun I hI => ?_
  have key : ∀ (d k : Nat) (ts : TS) (K2 : Hp) (out : AV), k + d = l.length → Fr H K2 → Fresh H.length out → Own 1 K2 w (ints (rks 0 l)) → Own 1 K2 out (ints (ord (rks 0 l) k)) → (∀ b, w.at b → ¬ out.at b) → (ts 4 = w ∧ ts 5 = out ∧ ts 15 = .int .i64 l.length ∧ ts 16 = .int .i64 k) → I ts K2 := by
    intro d
    induction d with
    | zero =>
      intro k ts K2 out e hK hf hw ho hne hts
      apply hI
      obtain rfl : k = l.length := by omega
      simp [hts, tab, ores, hg]
      exact ⟨ho, hf, hK⟩
    | succ d ih =>
      intro k ts K2 out e hK hf hw ho hne hts
      apply hI
      have hlt : (k : Int) < l.length := by omega
      have hol := ord_length (rks 0 l) k
      have holen := ho.row.len 3
      have hkr := rk_get (rks 0 l) k (by omega) (by simp; omega)
      simp only [Int.toNat_natCast] at hkr
      simp [hts, tab, hlt]
      refine W_loop _ fun I2 hI2 => ?_
      have key2 : ∀ (B A : List Int) (ts : TS), ord (rks 0 l) k = A ++ B → (∀ a ∈ A, rkat (rks 0 l) k ≤ rkat (rks 0 l) a) → (ts 4 = w ∧ ts 5 = out ∧ ts 15 = .int .i64 l.length ∧ ts 16 = .int .i64 k ∧ ts 6 = .int .i64 k ∧ ts 7 = .int .i64 A.length) → I2 ts K2 := by
        have done : ∀ (B A : List Int) (ts : TS), ord (rks 0 l) k = A ++ B → insS (rks 0 l) k (ord (rks 0 l) k) = A ++ (k : Int) :: B → (∀ x ∈ B.head?, ¬ rkat (rks 0 l) k ≤ rkat (rks 0 l) x) → (ts 4 = w ∧ ts 5 = out ∧ ts 15 = .int .i64 l.length ∧ ts 16 = .int .i64 k ∧ ts 6 = .int .i64 k ∧ ts 7 = .int .i64 A.length) → I2 ts K2 := by
          intro B A ts eA eS stop hts
          have hAl : A.length ≤ l.length := by have := congrArg List.length eA; simp at this; omega
          have hBl : B.length ≤ l.length := by have := congrArg List.length eA; simp at this; omega
          obtain ⟨u1, p1, p2, p3⟩ := ho.row.part 0 A.length (Nat.zero_le _) (by simp [eA]) none (some (.int .i64 A.length)) rfl rfl
          have q1 : ((ints (ord (rks 0 l) k)).drop 0).take (A.length - 0) = ints A := by simp [eA, ints_append, ints]
          rw [q1] at p2
          obtain ⟨u2, K3, a1, a2, a3, a4⟩ := (Own.nil 1 K2).join (es := []) p2 (by simp; omega)
          obtain ⟨u3, K4, b1, b2, b3, b4⟩ := a2.push k (by simp; omega)
          have f3 : Fr K2 K3 := a3
          have f4 : Fr K2 K4 := Fr.then f3 b3 fun b hb => (a4 b hb).elim (fun h => h.elim) id
          have ho4 := ho.fr f4
          obtain ⟨u4, p4, p5, p6⟩ := ho4.row.part A.length (A.length + B.length) (by omega) (by simp [eA]) (some (.int .i64 A.length)) none rfl (by simp [boundA, eA])
          have q2 : ((ints (ord (rks 0 l) k)).drop A.length).take (A.length + B.length - A.length) = ints B := by simp [eA, ints_append, ints]; exact List.take_of_length_le (by simp)
          rw [q2] at p5
          obtain ⟨u5, K5, c1, c2, c3, c4⟩ := b2.join (es := [] ++ A ++ [(k : Int)]) p5 (by simp; omega)
          have hu2 : ∀ b, u2.at b → K2.length ≤ b := fun b hb => (a4 b hb).elim (fun h => h.elim) id
          have hu3 : ∀ b, u3.at b → K2.length ≤ b := fun b hb => (b4 b hb).elim (hu2 b) (fun h => Nat.le_trans f3.1 h)
          have hu5 : ∀ b, u5.at b → K2.length ≤ b := fun b hb => (c4 b hb).elim (hu3 b) (fun h => Nat.le_trans f4.1 h)
          have f5 : Fr K2 K5 := Fr.then f4 c3 hu3
          have hw1 := wrap64 (x := k + 1) (by omega) (by omega)
          apply hI2
          simp only [W_seq]
          refine W_cut (fun ts' K' => K' = K2 ∧ ts' 36 = .bool false ∧ ts' 4 = w ∧ ts' 5 = out ∧ ts' 15 = .int .i64 l.length ∧ ts' 16 = .int .i64 k ∧ ts' 6 = .int .i64 k ∧ ts' 7 = .int .i64 A.length) ?_ ?_
          case refine_2 =>
            rintro ts' K' ⟨rfl, hts'⟩
            have hlv := ho.row.live
            have hlv4 := ho4.row.live
            simp (maxDischargeDepth := 9) [hts', tab, hlv, hlv4, p1, a1, b1, p4, c1, hw1, buildSliceA, zerosA, f4.live]
            refine ih (k + 1) _ _ u5 (by omega) (hK.trans f5) (fun b hb => Nat.le_trans hK.1 (hu5 b hb)) (hw.fr f5) ?_ (fun b hb h => by have := hw.lt b hb; have := hu5 b h; omega) (by simp [hts'])
            rw [ord_succ, eS]
            simpa using c2
          refine W_draw mixed (.look 0 (.look 1 (.look 2 (.look 3 (.look 4 (.look 5 (.look 6 (.look 7 (.look 8 (.look 9 (.look 10 (.look 11 (.look 12 (.look 13 (.look 14 (.look 15 (.look 16 (.look 17 .done)))))))))))))))))) (by kernel_rfl) ?_
          cases B with
          | nil =>
            have hAk : A.length = k := by have := congrArg List.length eA; simp at this; omega
            have holen : lenA (.slice 3) out = some (.int .i64 k) := by rw [holen]; simp [hol]
            have h7 : ts 7 = .int .i64 k := by rw [hts.2.2.2.2.2, hAk]
            obtain ⟨x1, x2, x3, x4, x5, _⟩ := hts
            simp [x1, x2, x3, x4, x5, h7, hAk, tab, holen]
          | cons b B =>
            have hblt : (A.length : Int) < k := by have := congrArg List.length eA; simp at this; omega
            have holen : lenA (.slice 3) out = some (.int .i64 k) := by rw [holen]; simp [hol]
            have hb2 := (ord_mem (rks 0 l) k b).1 (by rw [eA]; simp)
            obtain ⟨bi, hbi⟩ := Int.eq_ofNat_of_zero_le hb2.1
            obtain ⟨b1', q1', _, o1, o2⟩ := Row.get1 ho.row (tab := tab) (e := 3) (ety := tI) rfl rfl rfl (i := A.length) (a := b) (by rw [eA]; simp) .i64
            have hbr := rk_get (rks 0 l) b hb2.1 (by simp; omega)
            obtain ⟨b2', q2', _, w1, w2⟩ := Row.get1 hw.row (tab := tab) (e := 3) (ety := tI) rfl rfl rfl hbr .i64
            obtain ⟨b3', q3', _, w3, w4⟩ := Row.get1 hw.row (tab := tab) (e := 3) (ety := tI) rfl rfl rfl hkr .i64
            have hst := stop b rfl
            rw [Int.toNat_of_nonneg hb2.1] at w1
            simp (maxDischargeDepth := 9) [hts, tab, holen, hblt, o1, o2, w1, w2, w3, w4, hst]
        intro B
        induction B with
        | nil =>
          intro A ts eA hA hts
          simp at eA
          have hlA : A.length = k := by rw [← eA]; exact hol
          refine done [] A ts (by simp [eA]) ?_ (by simp) hts
          have := insS_high (rks 0 l) k A [] hA
          rw [eA]
          simpa [insS] using this
        | cons b B ih2 =>
          intro A ts eA hA hts
          by_cases hb : rkat (rks 0 l) k ≤ rkat (rks 0 l) b
          case neg =>
            refine done (b :: B) A ts eA ?_ (fun x hx => by simp at hx; subst hx; exact hb) hts
            have := insS_high (rks 0 l) k A (b :: B) hA
            rw [eA, this, insS, if_neg hb]
          apply hI2
          have hblt : (A.length : Int) < k := by have := congrArg List.length eA; simp at this; omega
          have holen : lenA (.slice 3) out = some (.int .i64 k) := by rw [holen]; simp [hol]
          have hb2 := (ord_mem (rks 0 l) k b).1 (by rw [eA]; simp)
          obtain ⟨b1', q1', _, o1, o2⟩ := Row.get1 ho.row (tab := tab) (e := 3) (ety := tI) rfl rfl rfl (i := A.length) (a := b) (by rw [eA]; simp) .i64
          have hbr := rk_get (rks 0 l) b hb2.1 (by simp; omega)
          obtain ⟨b2', q2', _, w1, w2⟩ := Row.get1 hw.row (tab := tab) (e := 3) (ety := tI) rfl rfl rfl hbr .i64
          obtain ⟨b3', q3', _, w3, w4⟩ := Row.get1 hw.row (tab := tab) (e := 3) (ety := tI) rfl rfl rfl hkr .i64
          rw [Int.toNat_of_nonneg hb2.1] at w1
          have hw1 := wrap64 (x := A.length + 1) (by omega) (by omega)
          simp only [W_seq]
          refine W_draw mixed (.look 0 (.look 1 (.look 2 (.look 3 (.look 4 (.look 5 (.look 6 (.look 7 (.look 8 (.look 9 (.look 10 (.look 11 (.look 12 (.look 13 (.look 14 (.look 15 (.look 16 (.look 17 .done)))))))))))))))))) (by kernel_rfl) ?_
          simp (maxDischargeDepth := 9) [hts, tab, holen, hblt, o1, o2, w1, w2, w3, w4, hb, hw1]
          exact ih2 (A ++ [b]) _ (by simp [eA]) (fun a ha => by
            rcases List.mem_append.1 ha with ha | ha
            · exact hA a ha
            · simp at ha
              subst ha
              exact hb) (by simp [hts])
      exact key2 (ord (rks 0 l) k) [] _ rfl (by simp) (by simp [hts])
  refine key l.length 0 _ _ .nil (by omega) (h3.trans e3) (Fresh.nil _) e1 (by simpa [ord, upto, ints] using Own.nil 1 K1) (fun _ _ h => h.elim) (by simp)
set_option maxRecDepth 100000 in
theorem cmp_ok (R : List Int) (w : AV) (c : Nat) (s : List Int) (v : AV) (H : Hp) (hR : R.length ≤ 1048576) (hs : ∀ x ∈ s, 0 ≤ x ∧ x < R.length) (hb : ∀ x ∈ R, 0 ≤ x ∧ x ≤ 1048576) (hw : Row 1 H w (ints R)) (hc : loadA ⟨.slice 3, 1, 24, [.nil], false⟩ H (.ptr c 0) = some w) (hn : ∀ b, w.at b → ¬ v.at b) (hcn : ¬ v.at c) : Cmp 63 [.ptr c 0] (fun a b => rkat R b - rkat R a) s v H := by
  intro K x y hK hx hy
  refine T.by tabOk Try.func63 (by kernel_rfl) rfl _ (by simp [Try.f63]) K _ ?_
  have hw' := hw.keeps hK hn
  have hc' : loadA ⟨.slice 3, 1, 24, [.nil], false⟩ K (.ptr c 0) = some w := by rw [Keeps.load hK (by rw [hc]; rfl) (fun b hb => by cases hb; exact hcn)]; exact hc
  have hx0 := hs x hx
  have hy0 := hs y hy
  have hxr := rk_get R x hx0.1 hx0.2
  have hyr := rk_get R y hy0.1 hy0.2
  have hxb := hb _ (List.mem_of_getElem? hxr)
  have hyb := hb _ (List.mem_of_getElem? hyr)
  obtain ⟨b2', q2', _, w1, w2⟩ := Row.get1 hw' (tab := tab) (e := 3) (ety := tI) rfl rfl rfl hxr .i64
  obtain ⟨b3', q3', _, w3, w4⟩ := Row.get1 hw' (tab := tab) (e := 3) (ety := tI) rfl rfl rfl hyr .i64
  rw [Int.toNat_of_nonneg hx0.1] at w1
  rw [Int.toNat_of_nonneg hy0.1] at w3
  have hw1 := wrap64 (x := rkat R y - rkat R x) (by omega) (by omega)
  simp [Try.f63]
  refine W_draw mixed (.look 0 (.look 1 (.look 2 (.look 3 (.look 4 (.look 5 (.look 6 (.look 7 (.look 8 (.act 9 [] .done .stop)))))))))) (by kernel_rfl) ?_
  simp (maxDischargeDepth := 9) [tab, hc', w1, w2, w3, w4, hw1]
set_option maxRecDepth 100000 in
theorem implOrder_ok (l : List Task) (us : List AV) (v : AV) (H : Hp) (hm : l.length ≤ 1048576) (hmm : ∀ t ∈ l, t.after.length ≤ 1048576) (hv : TRow H v l us) : T Try.prog 36 [v] H (fun r K => ∃ out, r = .tup [out, .bool (ores l).2] ∧ Own 1 K out (ints (ores l).1) ∧ Fresh H.length out ∧ Fr H K) := by
  refine T.by tabOk Try.func36 (by kernel_rfl) rfl _ (by simp [Try.f36]) H _ ?_
  have hlen := hv.count 49
  simp [Try.f36]
  refine (implGood0_ok l us v H hm hmm hv).mono fun r K ⟨⟨t, h1, h2⟩, h3⟩ => ?_
  subst h1
  by_cases hg : GoodT l
  case neg =>
    have : t = false := by
      cases t with
      | false => rfl
      | true => exact absurd (h2.1 rfl) hg
    subst this
    simp [ores, hg]
    exact ⟨Own.nil 1 K, Fresh.nil _, h3⟩
  obtain rfl := h2.2 hg
  simp [tab]
  refine (ranksOf_ok l us v K hg hmm (hv.fr h3)).mono fun w K1 ⟨e1, e2, e3⟩ => ?_
  have hl12 := hg.1
  have hrb := rks_bound l 0 (fun t ht => hg.longs t ht)
  have hw1 := e1.row.one
  have hw2 := e1.row.self
  simp [tab, hlen, hw1, hw2, buildSliceA, zerosA]
  refine W_loop _ fun I hI => ?_
  have fB := Fr.app K1 [some ⟨1, true, [w]⟩]
  have key : ∀ (d k : Nat) (ts : TS) (K2 : Hp) (out : AV), k + d = l.length → Fr (K1 ++ [some ⟨1, true, [w]⟩]) K2 → (∀ b, out.at b → K1.length < b) → Own 1 K2 out (ints (upto k)) → (ts 4 = .ptr K1.length 0 ∧ ts 5 = out ∧ ts 14 = .int .i64 l.length ∧ ts 15 = .int .i64 k) → I ts K2 := by
    intro d
    induction d with
    | zero =>
      intro k ts K2 out e hK hf ho hts
      apply hI
      obtain rfl : k = l.length := by omega
      have f2 : Fr K1 K2 := fB.trans hK
      have hcm : Cmp 63 [.ptr K1.length 0] (fun a b => rkat (rks 0 l) b - rkat (rks 0 l) a) (upto l.length) out K2 := by
        refine cmp_ok (rks 0 l) w K1.length _ out K2 (by simp; omega) (fun x hx => by have := (upto_mem _ _).1 hx; simp; omega) (fun x hx => by have := hrb x hx; omega) (e1.fr f2).row ?_ (fun b hb h => by have := e1.lt b hb; have := hf b h; omega) (fun h => by have := hf _ h; omega)
        rw [Fr.load hK (by simp [loadB, hw1])]
        simp [loadB]
      simp [hts, tab]
      refine (sortStable_ok (upto l.length) out _ _ _ K2 (by rw [upto_length]; omega) ho hcm).mono fun r K3 ⟨s1, s2⟩ => ?_
      simp [hts, ores, hg]
      rw [ord_ins] at s1
      exact ⟨s1, fun b hb => by have := hf b hb; have := h3.1; have := e3.1; omega, Fr.then ((h3.trans e3).trans f2) s2 fun b hb => by have := hf b hb; have := h3.1; have := e3.1; omega⟩
    | succ d ih =>
      intro k ts K2 out e hK hf ho hts
      apply hI
      have hlt : (k : Int) < l.length := by omega
      have hw3 := wrap64 (x := k + 1) (by omega) (by omega)
      obtain ⟨u, K3, a1, a2, a3, a4⟩ := ho.push k (by rw [upto_length]; omega)
      have hlK := hK.1
      simp [hts, tab, hlt, buildSliceA, zerosA, a1, hw3]
      refine ih (k + 1) _ _ u (by omega) (Fr.then hK a3 fun b hb => by have := hf b hb; simp; omega) (fun b hb => ?_) (by rw [upto_succ]; exact a2) (by simp [hts])
      simp at hlK
      rcases a4 b hb with h | h
      · exact hf b h
      · omega
  refine key l.length 0 _ _ _ (by omega) ?_ ?_ ?_ ⟨by simp, rfl, by simp, by simp⟩
  · exact ⟨by simp, fun b blk hb _ => by rw [show K1 ++ [some ⟨1, true, [w]⟩, some ⟨1, true, []⟩] = (K1 ++ [some ⟨1, true, [w]⟩]) ++ [some ⟨1, true, []⟩] by simp, List.getElem?_append_left (List.getElem?_eq_some_iff.1 hb).1]; exact hb⟩
  · intro b hb
    simp [AV.at] at hb
    omega
  · have := Own.new (sz := 1) (K := K1 ++ [some ⟨1, true, [w]⟩]) (es := ints (upto 0)) (ints_one _)
    simpa [upto, ints] using this
end Go.Proofs.Ytcadaadoodpnmaa.Am
