/- Schedules, the program's way. No condition. -/
import Derived.Test.YtcadaadoodpnmaaLSched
namespace Go.Proofs.Ytcadaadoodpnmaa.Am
open Go Go.RowKit
set_option linter.unusedSimpArgs false
set_option linter.unusedVariables false

def stl (z : Ts) (a : Int) : Int := match z[a.toNat]? with | some q => q.2 + q.1.long | none => 0
abbrev tLT : Ty := ⟨.slice 49, 1, 24, [.nil], false⟩
abbrev tLI : Ty := ⟨.slice 3, 1, 24, [.nil], false⟩
theorem s1_ok (s : List Int) (H : Hp) : Asks 54 [] (fun x => ¬ (0 ≤ x ∧ x ≤ 1000)) s H := by
  intro K x hK hx
  refine T.by tabOk Try.func54 (by kernel_rfl) rfl _ (by simp [Try.f54]) K _ ?_
  simp [Try.f54]
  refine (in_ok x 0 1000 K).mono fun r K' ⟨e1, e2⟩ => ?_
  subst e1 e2
  by_cases h : 0 ≤ x ∧ x ≤ 1000
  · simp [h]
    exact Fr.refl _
  · have h' : x < 0 ∨ 1000 < x := by omega
    simp [h, h']
    exact Fr.refl _
theorem s2_ok (z : Ts) (us : List AV) (v w : AV) (b1 b2 b3 : Nat) (x : Int) (l : List Int) (H : Hp) (hz : Fits z) (hv : TRow H v (z.map (·.1)) us) (hw : Row 1 H w (ints (z.map (·.2))))
    (h1 : loadA tLI H (.ptr b1 0) = some w) (h2 : loadA tLT H (.ptr b2 0) = some v) (h3 : ∃ i : Nat, loadA tI H (.ptr b3 0) = some (.int .i64 i) ∧ (z.map (·.2))[i]? = some x) (hl : ∀ a ∈ l, 0 ≤ a ∧ a < z.length) :
    Asks 55 [.ptr b1 0, .ptr b2 0, .ptr b3 0] (fun a => x < stl z a) l H := by
  intro K a hK ha
  refine T.by tabOk Try.func55 (by kernel_rfl) rfl _ (by simp [Try.f55]) K _ ?_
  simp [Try.f55]
  obtain ⟨i, h3, h4⟩ := h3
  have hga := hl a ha
  obtain ⟨j, rfl⟩ := Int.eq_ofNat_of_zero_le hga.1
  have hj : j < z.length := by omega
  obtain ⟨q, hq⟩ : ∃ q, z[j]? = some q := ⟨_, List.getElem?_eq_getElem hj⟩
  obtain ⟨t2, x2⟩ := q
  obtain ⟨c1, d1, _, j1, j2⟩ := Row.get1 hw (tab := tab) (e := 3) (ety := tI) rfl rfl rfl (i := j) (a := x2) (by simp [hq]) .i64
  obtain ⟨c2, d2, u5, _, k1, _, k3, _, _⟩ := hv.get (e := 49) rfl (i := j) (t := t2) (by simp [hq])
  obtain ⟨c3, d3, _, g1, g2⟩ := Row.get1 hw (tab := tab) (e := 3) (ety := tI) rfl rfl rfl h4 .i64
  have hst := hz.st _ (List.mem_of_getElem? hq)
  have hlo := hz.long _ (List.mem_of_getElem? hq)
  simp only at hst hlo
  have hw2 := wrap64 (x := x2 + t2.long) (by omega) (by omega)
  have hs : stl z j = x2 + t2.long := by simp [stl, hq]
  refine W_draw mixed (.look 0 (.look 1 (.look 2 (.look 3 (.look 4 (.look 5 (.look 6 (.look 7 (.look 8 (.look 9 (.look 10 (.look 11 (.look 12 (.look 13 (.look 14 (.act 15 [] .done .stop)))))))))))))))) (by kernel_rfl) ?_
  by_cases hb : x < x2 + t2.long
  · simp (maxDischargeDepth := 9) [tab, hK.index, hK.load, h1, h2, h3, j1, j2, k1, k3, g1, g2, hw2, hs, hb]
    exact Fr.refl _
  · simp (maxDischargeDepth := 9) [tab, hK.index, hK.load, h1, h2, h3, j1, j2, k1, k3, g1, g2, hw2, hs, hb]
    exact Fr.refl _
set_option maxRecDepth 100000 in
theorem implSched_ok (l : List Task) (n : Int) (s : List Int) (us : List AV) (v w : AV) (H : Hp) (hm : l.length ≤ 1048576) (hmm : ∀ t ∈ l, t.after.length ≤ 1048576) (hms : s.length ≤ 1048576) (hv : TRow H v l us) (hw : Row 1 H w (ints s)) : T Try.prog 24 [v, .int .i64 n, w] H (Tell (SAns l n s) (SOk l n s) H) := by
  refine T.by tabOk Try.func24 (by kernel_rfl) rfl _ (by simp [Try.f24]) H _ ?_
  have hlen := hv.count 49
  have hlw := hw.len 3
  have fB := Fr.app H [some ⟨1, true, [v]⟩, some ⟨1, true, [w]⟩]
  simp [Try.f24, tab, hv.row.one, hv.row.self, hw.one, hw.self]
  refine (implGood0_ok l us v _ hm hmm (hv.fr fB)).mono fun r K ⟨⟨t, h1, h2⟩, hB⟩ => ?_
  subst h1
  have hK : Fr H K := fB.trans hB
  have no : ∀ {K : Hp}, Fr H K → ¬ SOk l n s → Tell (SAns l n s) (SOk l n s) H (.tup [.bool false, .bool false]) K := fun hK h => Tell.of (by simp; exact fun g => h g.1) (by simp; exact h) hK
  cases t with
  | false =>
    simp [tab]
    exact no hK fun h => by simpa using h2.2 h.1
  | true =>
    have hg := h2.1 rfl
    simp [tab]
    refine (in_ok n 1 4 K).mono fun r K1 ⟨e1, e2⟩ => ?_
    subst e1 e2
    by_cases hn : 1 ≤ n ∧ n ≤ 4
    case neg =>
      simp [tab, hn]
      exact no hK fun h => hn ⟨h.2.1, h.2.2.1⟩
    by_cases hsl : s.length = l.length
    case neg =>
      have : ¬ (s.length : Int) = l.length := by omega
      simp (maxDischargeDepth := 9) [tab, hn, hlen, hlw, this, hB.load]
      exact no hK fun h => hsl h.2.2.2.1
    simp (maxDischargeDepth := 9) [tab, hn, hlen, hlw, hsl, hB.load]
    refine (containsFunc_ok s w _ [] (fun x => ¬ (0 ≤ x ∧ x ≤ 1000)) K1 (by omega) (hw.fr hK) (s1_ok s K1)).mono fun r K2 ⟨e1, e2⟩ => ?_
    subst e1
    have hB2 := hB.trans e2
    have hK2 := hK.trans e2
    by_cases hall : ∃ x ∈ s, ¬ (0 ≤ x ∧ x ≤ 1000)
    case pos =>
      obtain ⟨x, hx, hx2⟩ := hall
      have hall : ∃ x ∈ s, ¬ (0 ≤ x ∧ x ≤ 1000) := ⟨x, hx, hx2⟩
      rw [decide_eq_true hall]
      simp [tab]
      exact no hK2 fun h => hx2 (h.2.2.2.2 x hx)
    rw [decide_eq_false hall]
    have hq : ∀ x ∈ s, 0 ≤ x ∧ x ≤ 1000 := fun x hx => Classical.byContradiction fun h => hall ⟨x, hx, h⟩
    have hok : SOk l n s := ⟨hg, hn.1, hn.2, hsl, hq⟩
    have hz := hok.fits
    have hl12 := hg.1
    have hzl : (l.zip s).length = l.length := by simp [hsl]
    have bad : ∀ {K : Hp} {p : Task × Int}, Fr H K → p ∈ l.zip s → BadAt (l.zip s) n p → Tell (SAns l n s) (SOk l n s) H (.tup [.bool false, .bool true]) K := fun hK hp hb => Tell.of (by simp; exact fun g => g.2 _ hp hb) (by simp; exact hok) hK
    simp (maxDischargeDepth := 9) [tab, hlen, hB2.load]
    refine W_loop _ fun I2 hI2 => ?_
    have key2 : ∀ (r2 q2 : Ts) (ts : TS) (K : Hp), l.zip s = q2 ++ r2 → Fr (H ++ [some ⟨1, true, [v]⟩, some ⟨1, true, [w]⟩]) K → (∀ p ∈ q2, ¬ BadAt (l.zip s) n p) → (ts 1 = .int .i64 n ∧ ts 3 = .ptr H.length 0 ∧ ts 5 = .ptr (H.length + 1) 0 ∧ ts 33 = v ∧ ts 34 = .int .i64 l.length ∧ ts 35 = .int .i64 q2.length) → I2 ts K := by
      intro r2
      induction r2 with
      | nil =>
        intro q2 ts K e hB hq2 hts
        apply hI2
        simp at e
        subst e
        have : ¬ ((l.zip s).length : Int) < l.length := by omega
        simp [hts, tab, hsl]
        exact Tell.of (by simp; exact ⟨hok, hq2⟩) (by simp; exact hok) (fB.trans hB)
      | cons p r2 ih2 =>
        intro q2 ts K e hB hq2 hts
        apply hI2
        obtain ⟨t, x⟩ := p
        have hlt : (q2.length : Int) < l.length := by rw [← hzl]; simp [e]; omega
        have hzi : (l.zip s)[q2.length]? = some (t, x) := by simp [e]
        have hti := (List.getElem?_zip_eq_some.1 hzi).1
        have hxi := (List.getElem?_zip_eq_some.1 hzi).2
        have hmem : (t, x) ∈ l.zip s := by simp [e]
        have hgt := hg.2 _ _ hti
        have hx := hq x (List.mem_of_getElem? hxi)
        have hal := hmm t (List.mem_of_getElem? hti)
        have hK : Fr H K := fB.trans hB
        obtain ⟨b, c, _, e1, e2⟩ := Row.get1 hw (tab := tab) (e := 3) (ety := tI) rfl rfl rfl hxi .i64
        obtain ⟨b2, c2, u, _, f1, f2, f3, f4, hr⟩ := hv.get (e := 49) rfl hti
        have fC := Fr.app K [some ⟨1, true, [.int .i64 q2.length]⟩, some ⟨2, true, [.int .i64 t.long, u]⟩]
        simp (maxDischargeDepth := 9) [hts, tab, hlt, hK.index, hK.load, hB.load, f1, f2, hr.one, hr.self, hlen]
        refine W_loop _ fun I3 hI3 => ?_
        have key3 : ∀ (r3 q3 : Ts) (ts : TS) (K2 : Hp), l.zip s = q3 ++ r3 → Fr (K ++ [some ⟨1, true, [.int .i64 q2.length]⟩, some ⟨2, true, [.int .i64 t.long, u]⟩]) K2 → (ts 1 = .int .i64 n ∧ ts 3 = .ptr H.length 0 ∧ ts 5 = .ptr (H.length + 1) 0 ∧ ts 8 = .ptr K.length 0 ∧ ts 9 = .ptr (K.length + 1) 0 ∧ ts 33 = v ∧ ts 34 = .int .i64 l.length ∧ ts 35 = .int .i64 q2.length ∧ ts 10 = .int .i64 (ons q3 x) ∧ ts 40 = v ∧ ts 41 = .int .i64 l.length ∧ ts 42 = .int .i64 q3.length) → I3 ts K2 := by
          intro r3
          induction r3 with
          | nil =>
            intro q3 ts K2 e3 hC hts
            apply hI3
            simp at e3
            subst e3
            have hnl : ¬ ((l.zip s).length : Int) < l.length := by omega
            have hw1 := wrap64 (x := q2.length + 1) (by omega) (by omega)
            have hBK : Fr (H ++ [some ⟨1, true, [v]⟩, some ⟨1, true, [w]⟩]) K2 := (hB.trans fC).trans hC
            have hHK : Fr H K2 := fB.trans hBK
            simp (maxDischargeDepth := 9) [hts, tab, hsl, hC.load]
            have l1 : loadA tLI K2 (.ptr (H.length + 1) 0) = some w := by rw [hBK.load (by simp)]; simp
            have l2 : loadA tLT K2 (.ptr H.length 0) = some v := by rw [hBK.load (by simp)]; simp
            have l3 : loadA tI K2 (.ptr K.length 0) = some (.int .i64 q2.length) := by rw [hC.load (by simp)]; simp
            refine (containsFunc_ok t.after u _ _ (fun a => x < stl (l.zip s) a) K2 (by omega) (hr.fr hHK) (s2_ok (l.zip s) us v w _ _ _ x t.after K2 hz (by rw [fst_zip hsl]; exact hv.fr hHK) (by rw [snd_zip hsl]; exact hw.fr hHK) l1 l2 ⟨q2.length, l3, by rw [snd_zip hsl]; exact hxi⟩ ?_)).mono fun y K3 ⟨y1, y2⟩ => ?_
            · intro a ha
              obtain ⟨j, hj⟩ := List.mem_iff_getElem?.1 ha
              have := hgt.2.2 j a hj
              omega
            subst y1
            have hear : early (l.zip s) t x ↔ ∃ a ∈ t.after, x < stl (l.zip s) a := by
              constructor
              · rintro ⟨a, ha, q, hq, hlt⟩
                exact ⟨a, ha, by simp only [stl, hq]; exact hlt⟩
              · rintro ⟨a, ha, hlt⟩
                obtain ⟨j, hj⟩ := List.mem_iff_getElem?.1 ha
                have hga := hgt.2.2 j a hj
                have hal : a.toNat < (l.zip s).length := by omega
                refine ⟨a, ha, (l.zip s)[a.toNat], List.getElem?_eq_getElem hal, ?_⟩
                simp only [stl, List.getElem?_eq_getElem hal] at hlt
                exact hlt
            have hf3 := hHK.trans y2
            by_cases hb : n < ons (l.zip s) x
            · simp [hts, tab, hb]
              exact bad hf3 hmem (.inr hb)
            · by_cases he : ∃ a ∈ t.after, x < stl (l.zip s) a
              · rw [decide_eq_true he]
                simp [hts, tab, hb]
                exact bad hf3 hmem (.inl (hear.2 he))
              · rw [decide_eq_false he]
                simp [hts, tab, hb, hw1]
                refine ih2 (q2 ++ [(t, x)]) _ _ (by simp [e]) (hBK.trans y2) ?_ (by simp [hts])
                intro p hp
                simp at hp
                rcases hp with hp | rfl
                · exact hq2 p hp
                · rintro (h | h)
                  · exact he (hear.1 h)
                  · exact hb h
          | cons p3 r3 ih3 =>
            intro q3 ts K2 e3 hC hts
            apply hI3
            obtain ⟨t2, x2⟩ := p3
            have hlt3 : (q3.length : Int) < l.length := by rw [← hzl]; simp [e3]; omega
            have hz3 : (l.zip s)[q3.length]? = some (t2, x2) := by simp [e3]
            have ht3 := (List.getElem?_zip_eq_some.1 hz3).1
            have hx3 := (List.getElem?_zip_eq_some.1 hz3).2
            have hx2 := hq x2 (List.mem_of_getElem? hx3)
            have hlo := hz.long _ (List.mem_of_getElem? hz3)
            have hql : ons q3 x ≤ q3.length := List.countP_le_length
            have hBK : Fr (H ++ [some ⟨1, true, [v]⟩, some ⟨1, true, [w]⟩]) K2 := (hB.trans fC).trans hC
            have hHK : Fr H K2 := fB.trans hBK
            obtain ⟨c1, d1, _, j1, j2⟩ := Row.get1 hw (tab := tab) (e := 3) (ety := tI) rfl rfl rfl hx3 .i64
            obtain ⟨c2, d2, u5, _, k1, k2, k3, _, hr5⟩ := hv.get (e := 49) rfl ht3
            have hw1 := wrap64 (x := q3.length + 1) (by omega) (by omega)
            have hw2 := wrap64 (x := ons q3 x + 1) (by omega) (by omega)
            simp only at hlo
            have hw3 := wrap64 (x := x2 + t2.long) (by omega) (by omega)
            have hon : ons (q3 ++ [(t2, x2)]) x = ons q3 x + (if 0 ≤ x2 ∧ x2 ≤ x ∧ x < x2 + t2.long then 1 else 0) := by
              simp [ons, List.countP_append, List.countP_cons]
            simp (maxDischargeDepth := 9) [hts, tab, hlt3, hHK.index, hHK.load, k1, k2, hr5.one, hr5.self]
            refine W_draw mixed (.look 0 (.look 1 (.look 2 (.look 3 (.look 4 (.look 5 (.look 6 (.look 7 (.look 8 (.look 9 (.look 10 (.look 11 (.look 12 (.look 13 (.look 14 (.look 15 (.look 16 (.look 17 (.look 18 (.look 19 (.look 20 (.look 21 (.look 22 .done))))))))))))))))))))))) (by kernel_rfl) ?_
            by_cases d1 : x2 ≤ x
            · by_cases d2 : x < x2 + t2.long
              · rw [if_pos ⟨hx2.1, d1, d2⟩] at hon
                simp (maxDischargeDepth := 9) [hts, tab, hHK.index, hHK.load, hBK.load, hC.load, e1, e2, j1, j2, hw1, hw2, hw3, d1, d2]
                exact ih3 (q3 ++ [(t2, x2)]) _ _ (by simp [e3]) (hC.app' _) (by simp [hts, hon])
              · rw [if_neg (fun h => d2 h.2.2)] at hon
                simp (maxDischargeDepth := 9) [hts, tab, hHK.index, hHK.load, hBK.load, hC.load, e1, e2, j1, j2, hw1, hw2, hw3, d1, d2]
                exact ih3 (q3 ++ [(t2, x2)]) _ _ (by simp [e3]) (hC.app' _) (by simp [hts, hon])
            · rw [if_neg (fun h => d1 h.2.1)] at hon
              simp (maxDischargeDepth := 9) [hts, tab, hHK.index, hHK.load, hBK.load, hC.load, e1, e2, j1, j2, hw1, hw2, hw3, d1]
              exact ih3 (q3 ++ [(t2, x2)]) _ _ (by simp [e3]) (hC.app' _) (by simp [hts, hon])
        exact key3 (l.zip s) [] _ _ rfl (Fr.refl _) (by simp [hts, ons])
    exact key2 (l.zip s) [] _ _ rfl hB2 (by simp) (by simp)
end Go.Proofs.Ytcadaadoodpnmaa.Am
