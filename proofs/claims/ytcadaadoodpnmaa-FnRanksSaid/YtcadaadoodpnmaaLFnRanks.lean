/- The law of FnRanks. No condition. -/
import Derived.Test.YtcadaadoodpnmaaLTimes
import Derived.Test.YtcadaadoodpnmaaLRankSpec
import Derived.Test.YtcadaadoodpnmaaLDrawSched
import Derived.Test.YtcadaadoodpnmaaLGrahamList
namespace Go.Proofs.Ytcadaadoodpnmaa.Am
open Go Go.RowKit
set_option linter.unusedSimpArgs false
set_option linter.unusedVariables false

theorem bytes_open (H : Hp) (x : AV) (h : SSl 1 1 (SInt .u8) H [x]) : ∃ bs, Row 1 H x (bytesA bs) ∧ (∀ y ∈ bs, 0 ≤ y ∧ y ≤ 255) ∧ bs.length ≤ 140737488355328 := by
  obtain ⟨v, es, e1, h1, h2, h3, h4⟩ := h
  cases e1
  obtain ⟨xs, rfl, hxs⟩ := map_of_all (enc := fun x : Int => [AV.int .u8 x]) (q := fun y => 0 ≤ y ∧ y ≤ 255) (es := es) (fun e he => by
    obtain ⟨n, rfl, hn⟩ := h4 e he
    refine ⟨n, rfl, ?_⟩
    simpa [Lit.wf, IntKind.min, IntKind.max, IntKind.signed, IntKind.bits] using hn)
  refine ⟨xs, h1, hxs, ?_⟩
  simp at h3
  omega
theorem ores_len (l : List Task) : (ores l).1.length ≤ l.length := by
  unfold ores
  split <;> simp [ord_length]
theorem goodD {p : Prop} [Decidable p] {t : Bool} (h : t = true ↔ p) : t = decide p := by
  by_cases hp : p
  · simp [hp, h.2 hp]
  · have : ¬ t = true := fun e => hp (h.1 e)
    simp [hp, this]
set_option maxRecDepth 100000 in
theorem fnRanks_law (v w : AV) (bs cs : List Int) (H : Hp) (hv : Row 1 H v (bytesA bs)) (hb : ∀ y ∈ bs, 0 ≤ y ∧ y ≤ 255) (hbl : bs.length ≤ 140737488355328) (hw : Row 1 H w (bytesA cs)) (hc : ∀ y ∈ cs, 0 ≤ y ∧ y ≤ 255) (hcl : cs.length ≤ 140737488355328) : T Try.prog 12 [v, w] H (fun r K => r = .bool true) := by
  refine T.by tabOk Try.func12 (by kernel_rfl) rfl _ (by simp [Try.f12]) H _ ?_
  have hlv := hv.len 5
  have hlw := hw.len 5
  have hlv : lenA (.slice 5) v = some (.int .i64 bs.length) := by simpa [bytesA] using hlv
  have hlw : lenA (.slice 5) w = some (.int .i64 cs.length) := by simpa [bytesA] using hlw
  have hw0 := wrap64 (x := bs.length + cs.length) (by omega) (by omega)
  by_cases hbig : 1048576 < (bs.length : Int) + cs.length
  · simp [Try.f12, tab, hlv, hlw, hw0, hbig]
  have hBv : Bytes H v := ⟨bs, hv, hb, by omega⟩
  have hBw : Bytes H w := ⟨cs, hw, hc, by omega⟩
  simp [Try.f12, tab, hlv, hlw, hw0, hbig]
  refine (drawRanks_ok v H hBv).mono fun x K1 ⟨⟨l, hT⟩, f1⟩ => ?_
  obtain ⟨us, hx⟩ := hT.row
  have hm : l.length ≤ 1048576 := by have := hT.2.1; omega
  have hmm : ∀ t ∈ l, t.after.length ≤ 1048576 := fun t ht => by have := hT.2.2 t ht; omega
  have hrl := ranksRes_length l
  have hol := ores_len l
  simp
  refine (implRanksOf_ok l us x K1 hm hmm hx).mono fun z K2 ⟨r1, e1, o1, q1, f2⟩ => ?_
  subst e1
  have hx2 := hx.fr f2
  simp
  refine (specRanksOf_ok l us x K2 hm hmm hx2).mono fun z K3 ⟨r2, e1, o2, q2, f3⟩ => ?_
  subst e1
  have hx3 := hx2.fr f3
  simp
  refine (implOrder_ok l us x K3 hm hmm hx3).mono fun z K4 ⟨r3, e1, o3, q3, f4⟩ => ?_
  subst e1
  have hx4 := hx3.fr f4
  simp
  refine (specOrder_ok l us x K4 hm hmm hx4).mono fun z K5 ⟨r4, e1, o4, q4, f5⟩ => ?_
  subst e1
  have hx5 := hx4.fr f5
  simp
  refine (implChain_ok l us x K5 hm hmm hx5).mono fun z K6 ⟨e1, f6⟩ => ?_
  subst e1
  have hx6 := hx5.fr f6
  simp
  refine (specChain_ok l us x K6 hm hmm hx6).mono fun z K7 ⟨e1, f7⟩ => ?_
  subst e1
  have hx7 := hx6.fr f7
  simp
  refine (implWork_ok l us x K7 hm hmm hx7).mono fun z K8 ⟨e1, f8⟩ => ?_
  subst e1
  have hx8 := hx7.fr f8
  simp
  refine (specWork_ok l us x K8 hm hmm hx8).mono fun z K9 ⟨e1, f9⟩ => ?_
  subst e1
  have hx9 := hx8.fr f9
  simp [tab]
  have g1 := o1.fr ((((((f3.trans f4).trans f5).trans f6).trans f7).trans f8).trans f9)
  have g2 := o2.fr (((((f4.trans f5).trans f6).trans f7).trans f8).trans f9)
  have g3 := o3.fr ((((f5.trans f6).trans f7).trans f8).trans f9)
  have g4 := o4.fr (((f6.trans f7).trans f8).trans f9)
  refine (sameInts_ok _ _ r1 r2 K9 (by omega) g1.row g2.row).mono fun z K' ⟨e1, e2⟩ => ?_
  subst e1 e2
  simp [tab]
  refine (sameInts_ok _ _ r3 r4 K' (by omega) g3.row g4.row).mono fun z K'' ⟨e1, e2⟩ => ?_
  subst e1 e2
  simp [tab]
  refine (implGood_ok l us x K'' hm hmm hx9).mono fun z K10 ⟨⟨t, e1, e2⟩, f10⟩ => ?_
  subst e1
  have hx10 := hx9.fr f10
  have g5 := g1.fr f10
  have g6 := g3.fr f10
  have fH : Fr H K10 := (((((((((f1.trans f2).trans f3).trans f4).trans f5).trans f6).trans f7).trans f8).trans f9).trans f10)
  have hr2 : (ranksRes l).2 = t := by
    unfold ranksRes
    split
    · rename_i h; simp [e2.2 h]
    · rename_i h
      cases t with
      | true => exact absurd (e2.1 rfl) h
      | false => rfl
  simp [-post_sq, tab, hr2]
  simp only [post_sq, W_seq]
  refine W_cut (fun ts K => K = K10 ∧ ts 1 = w ∧ ts 5 = x ∧ ts 6 = r1 ∧ ts 7 = .bool t ∧ ts 10 = r3 ∧ ts 14 = .int .i64 (cres l).1 ∧ ts 18 = .int .i64 (wres l).1) (by simp) ?_
  rintro ts K ⟨rfl, t1, t5, t6, t7, t10, t14, t18⟩
  simp only [post_sq, W_seq]
  refine W_cut (fun ts' K' => K' = K ∧ ts' 1 = w ∧ ts' 5 = x ∧ ts' 6 = r1 ∧ ts' 127 = .bool t ∧ ts' 10 = r3 ∧ ts' 14 = .int .i64 (cres l).1 ∧ ts' 18 = .int .i64 (wres l).1) (by simp [t1, t5, t6, t7, t10, t14, t18]) ?_
  rintro ts K' ⟨rfl, t1, t5, t6, t7, t10, t14, t18⟩
  simp only [post_sq, W_seq]
  refine W_cut (fun ts' K => ts' 1 = w ∧ Fr H K) ?_ ?_
  case refine_2 =>
    rintro ts K ⟨t1, hK⟩
    simp [t1]
    refine (drawLeast_ok w K (hBw.fr hK)).mono fun z K1' ⟨⟨y, n, l', e1, hT'⟩, f1'⟩ => ?_
    subst e1
    obtain ⟨us', hy⟩ := hT'.row
    have hm' : l'.length ≤ 1048576 := by have := hT'.2.1; omega
    have hmm' : ∀ t ∈ l', t.after.length ≤ 1048576 := fun t ht => by have := hT'.2.2 t ht; omega
    simp
    refine (implLeast_ok l' n us' y K1' hm' hmm' hy).mono fun z K2' ⟨e1, f2'⟩ => ?_
    subst e1
    simp
    refine (specLeast_ok l' n us' y K2' hm' hmm' (hy.fr f2')).mono fun z K3' ⟨e1, f3'⟩ => ?_
    subst e1
    simp [tab]
  cases t with
  | false =>
    simp [t1, t7]
    exact fH
  | true =>
    have hg := e2.1 rfl
    have hlen := hx10.count 49
    simp [t1, t5, t7, tab, hlen]
    have hR : (ranksRes l).1 = rks 0 l := by simp [ranksRes, hg]
    have hO : (ores l).1 = ord (rks 0 l) l.length := by simp [ores, hg]
    rw [hR] at g5
    rw [hO] at g6
    have hcr : (cres l).1 = chain l := by simp [cres, hg]
    have hwr : (wres l).1 = work l := by simp [wres, hg]
    rw [hcr] at t14
    rw [hwr] at t18
    have hl12 := hg.1
    have hrk : ∀ i, i < l.length → (rks 0 l)[i]? = some (rk l i) := fun i hi => stt_get (by simpa using hi)
    have hrkb : ∀ i, i < l.length → 0 ≤ rk l i ∧ rk l i ≤ 240 := fun i hi => by
      have := rks_bound l 0 hg.longs _ (List.mem_of_getElem? (hrk i hi))
      omega
    refine W_loop _ fun I hI => ?_
    have key : ∀ (r p : List Task) (ts : TS) (K : Hp), l = p ++ r → Fr K' K → (ts 1 = w ∧ ts 5 = x ∧ ts 6 = r1 ∧ ts 10 = r3 ∧ ts 14 = .int .i64 (chain l) ∧ ts 18 = .int .i64 (work l) ∧ ts 128 = x ∧ ts 129 = .int .i64 l.length ∧ ts 130 = .int .i64 p.length) → I ts K := by
      intro r
      induction r with
      | nil =>
        intro p ts K hl hK hts
        apply hI
        simp at hl
        subst hl
        have g7 := g6.fr hK
        have g8 := g5.fr hK
        have hlo := g7.row.len 3
        simp [ord_length] at hlo
        simp [hts, tab]
        refine W_loop _ fun I2 hI2 => ?_
        have key2 : ∀ (r2 p2 : List Int) (ts : TS), ord (rks 0 l) l.length = p2 ++ r2 → 0 < p2.length ∨ r2 = [] → (ts 1 = w ∧ ts 6 = r1 ∧ ts 10 = r3 ∧ ts 26 = .int .i64 (max 1 (p2.length : Int))) → I2 ts K := by
          intro r2
          induction r2 with
          | nil =>
            intro p2 ts e h0 hts
            apply hI2
            have hpl := congrArg List.length e
            simp [ord_length] at hpl
            have hno : ¬ max 1 (p2.length : Int) < l.length := by omega
            simp [hts, tab, hlo, hno]
            exact fH.trans hK
          | cons a r2 ih2 =>
            intro p2 ts e h0 hts
            apply hI2
            have hp0 : 0 < p2.length := h0.elim id fun h => by cases h
            have hpl := congrArg List.length e
            simp [ord_length] at hpl
            have hmx : max 1 (p2.length : Int) = p2.length := by omega
            rw [hmx] at hts
            have hlt : (p2.length : Int) < l.length := by omega
            rcases List.eq_nil_or_concat p2 with rfl | ⟨p3, a0, e3⟩
            · simp at hp0
            rw [List.concat_eq_append] at e3
            subst e3
            have hd := ord_desc (rks 0 l) l.length
            rw [e] at hd
            have hd2 : rkat (rks 0 l) a ≤ rkat (rks 0 l) a0 := (List.pairwise_append.1 hd).2.2 a0 (by simp) a (by simp)
            have ha := (ord_mem (rks 0 l) l.length a).1 (by rw [e]; simp)
            have ha0 := (ord_mem (rks 0 l) l.length a0).1 (by rw [e]; simp)
            obtain ⟨b1, q1, _, x1, x2⟩ := Row.get1 g7.row (tab := tab) (e := 3) (ety := tI) rfl rfl rfl (i := p3.length) (a := a0) (by rw [e]; simp) .i64
            obtain ⟨b2, q2, _, x3, x4⟩ := Row.get1 g7.row (tab := tab) (e := 3) (ety := tI) rfl rfl rfl (i := p3.length + 1) (a := a) (by rw [e]; simp) .i64
            obtain ⟨b3, q3, _, x5, x6⟩ := Row.get1 g8.row (tab := tab) (e := 3) (ety := tI) rfl rfl rfl (rk_get (rks 0 l) a0 ha0.1 (by simp; omega)) .i64
            obtain ⟨b4, q4, _, x7, x8⟩ := Row.get1 g8.row (tab := tab) (e := 3) (ety := tI) rfl rfl rfl (rk_get (rks 0 l) a ha.1 (by simp; omega)) .i64
            rw [Int.toNat_of_nonneg ha0.1] at x5
            rw [Int.toNat_of_nonneg ha.1] at x7
            simp at hts hlt x3
            have hw1 := wrap64 (x := p3.length) (by omega) (by omega)
            have hw2 := wrap64 (x := p3.length + 1 + 1) (by omega) (by omega)
            have hnd : ¬ rkat (rks 0 l) a0 < rkat (rks 0 l) a := by omega
            simp [hts, tab, hlo, hlt]
            refine W_draw mixed (.look 0 (.look 1 (.look 2 (.look 3 (.look 4 (.look 5 (.look 6 (.look 7 (.look 8 (.look 9 (.look 10 (.look 11 (.look 12 (.look 13 (.look 14 (.look 15 .done)))))))))))))))) (by kernel_rfl) ?_
            simp [hts, tab, hw1, x1, x2, x3, x4, x5, x6, x7, x8, hnd, hw2]
            exact ih2 (p3 ++ [a0] ++ [a]) _ (by simp [e]) (.inl (by simp)) (by simp [hts]; omega)
        cases ho : ord (rks 0 l) l.length with
        | nil => exact key2 [] [] _ (by simp [ho]) (.inr rfl) (by simp [hts]; rfl)
        | cons a o => exact key2 o [a] _ (by simp [ho]) (.inl (by simp)) (by simp [hts])
      | cons t r ih =>
        intro p ts K hl hK hts
        apply hI
        have hlt : (p.length : Int) < l.length := by simp [hl]; omega
        have hpl : p.length < l.length := by omega
        have hxK := hx10.fr hK
        obtain ⟨b, q, u, hu, e1, e2, _, _, hr⟩ := hxK.get (e := 49) rfl (i := p.length) (t := t) (by simp [hl])
        have fB := Fr.app K [some ⟨2, true, [.int .i64 t.long, u]⟩]
        have hfr := hK.trans fB
        have g8 := g5.fr hfr
        obtain ⟨b3, q3, _, x5, x6⟩ := Row.get1 g8.row (tab := tab) (e := 3) (ety := tI) rfl rfl rfl (hrk p.length hpl) .i64
        have hlow := rk_low hpl
        have hlg : lng l p.length = t.long := by simp [lng, hl]
        have c1 : ¬ rk l p.length < t.long := by omega
        have c2 : ¬ chain l < rk l p.length := by have := chain_ge hpl; omega
        have c3 : ¬ work l < rk l p.length := by have := rks_work l 0 (fun t ht => (hg.longs t ht).1) _ (List.mem_of_getElem? (hrk p.length hpl)); omega
        have hul := (hr.fr fB).len 3
        have hw2 := wrap64 (x := p.length + 1) (by omega) (by omega)
        simp (maxDischargeDepth := 9) [hts, tab, hlt, e1, e2, hr.one, hr.self]
        refine W_draw mixed (.look 0 (.look 1 (.look 2 (.look 3 (.look 4 (.look 5 (.look 6 (.look 7 (.look 8 (.look 9 (.look 10 (.look 11 (.look 12 (.look 13 (.look 14 (.look 15 (.look 16 (.look 17 (.look 18 (.look 19 (.look 20 (.look 21 (.look 22 .done))))))))))))))))))))))) (by kernel_rfl) ?_
        simp (maxDischargeDepth := 9) [hts, tab, x5, x6, loadB, c1, c2, c3, hul]
        refine W_loop _ fun I2 hI2 => ?_
        have key2 : ∀ (r2 p2 : List Int) (ts : TS), t.after = p2 ++ r2 → (ts 1 = w ∧ ts 5 = x ∧ ts 6 = r1 ∧ ts 10 = r3 ∧ ts 14 = .int .i64 (chain l) ∧ ts 18 = .int .i64 (work l) ∧ ts 128 = x ∧ ts 129 = .int .i64 l.length ∧ ts 130 = .int .i64 p.length ∧ ts 22 = .int .i64 p.length ∧ ts 159 = u ∧ ts 160 = .int .i64 t.after.length ∧ ts 161 = .int .i64 p2.length) → I2 ts (K ++ [some ⟨2, true, [.int .i64 t.long, u]⟩]) := by
          intro r2
          induction r2 with
          | nil =>
            intro p2 ts e hts
            apply hI2
            simp at e
            subst e
            simp [hts, tab, hw2]
            exact ih (p ++ [t]) _ _ (by simp [hl]) hfr (by simp [hts])
          | cons a r2 ih2 =>
            intro p2 ts e hts
            apply hI2
            have hlt2 : (p2.length : Int) < t.after.length := by simp [e]; omega
            have haft : a ∈ aft l p.length := by simp [aft, hl, e]
            have hal := aft_lt hg haft
            obtain ⟨i, rfl⟩ := Int.eq_ofNat_of_zero_le hal.1
            simp only [Int.toNat_natCast] at hal
            have hge := rk_ge (l := l) hal.2.1 hpl haft
            have hil : i < l.length := by omega
            obtain ⟨t', ht', hl', _⟩ := lng_get hil
            obtain ⟨b4, q4, u4, _, y1, _, y3, _, _⟩ := (hxK.fr fB).get (e := 49) rfl (i := i) ht'
            obtain ⟨b5, q5, _, y5, y6⟩ := Row.get1 g8.row (tab := tab) (e := 3) (ety := tI) rfl rfl rfl (hrk i hil) .i64
            obtain ⟨b6, q6, _, y7, y8⟩ := Row.get1 (hr.fr fB) (tab := tab) (e := 3) (ety := tI) rfl rfl rfl (i := p2.length) (a := (i : Int)) (by simp [e]) .i64
            have := hrkb p.length hpl
            have := hrkb i hil
            have hlp := lng_pos hg hil
            have hw1 := wrap64 (x := rk l p.length + t'.long) (by omega) (by omega)
            have hw3 := wrap64 (x := p2.length + 1) (by simp [e] at hlt2; have := hmm t (by simp [hl]); simp [e] at this; omega) (by have := hmm t (by simp [hl]); simp [e] at this; omega)
            have hno : ¬ rk l i < rk l p.length + t'.long := by omega
            simp (maxDischargeDepth := 9) [hts, tab, hlt2, y7, y8]
            refine W_draw mixed (.look 0 (.look 1 (.look 2 (.look 3 (.look 4 (.look 5 (.look 6 (.look 7 (.look 8 (.look 9 (.look 10 (.look 11 (.look 12 (.look 13 (.look 14 .done))))))))))))))) (by kernel_rfl) ?_
            simp (maxDischargeDepth := 9) [hts, tab, y1, y3, y5, y6, x5, x6, hw1, hno, hw3]
            exact ih2 (p2 ++ [(i : Int)]) _ (by simp [e]) (by simp [hts])
        exact key2 t.after [] _ rfl (by simp [hts])
    exact key l [] _ _ rfl (Fr.refl _) (by simp [t1, t5, t6, t10, t14, t18])
theorem law_in (H : Hp) (x0 x1 : AV) (h0 : SSl 1 1 (SInt .u8) H [x0]) (h1 : SSl 1 1 (SInt .u8) H [x1]) : T Try.prog 12 [x0, x1] H (fun r K => r = .bool true) := by
  obtain ⟨bs, a1, a2, a3⟩ := bytes_open H x0 h0
  obtain ⟨cs, b1, b2, b3⟩ := bytes_open H x1 h1
  exact fnRanks_law x0 x1 bs cs H a1 a2 a3 b1 b2 b3
end Go.Proofs.Ytcadaadoodpnmaa.Am
