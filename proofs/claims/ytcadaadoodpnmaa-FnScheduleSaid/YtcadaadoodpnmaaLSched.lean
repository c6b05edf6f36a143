/- Schedules: both ways to ask come to the same. No condition. -/
import Derived.Test.YtcadaadoodpnmaaLGoodTasks
import Derived.Test.YtcadaadoodpnmaaLFuncs
namespace Go.Proofs.Ytcadaadoodpnmaa.Am
open Go Go.RowKit
set_option linter.unusedSimpArgs false
set_option linter.unusedVariables false

abbrev Ts := List (Task × Int)
def ons (z : Ts) (m : Int) : Nat := z.countP fun p => decide (0 ≤ p.2 ∧ p.2 ≤ m ∧ m < p.2 + p.1.long)
def early (z : Ts) (t : Task) (s : Int) : Prop := ∃ a ∈ t.after, ∃ q, z[a.toNat]? = some q ∧ s < q.2 + q.1.long
def BadAt (z : Ts) (n : Int) (p : Task × Int) : Prop := early z p.1 p.2 ∨ n < ons z p.2
structure Fits (z : Ts) : Prop where
  len : z.length ≤ 12
  long : ∀ p ∈ z, 1 ≤ p.1.long ∧ p.1.long ≤ 20
  st : ∀ p ∈ z, -1 ≤ p.2 ∧ p.2 ≤ 100000
set_option maxRecDepth 100000 in
theorem l10Running_ok (z : Ts) (us : List AV) (v w : AV) (m : Int) (H : Hp) (hz : Fits z) (h0 : -100000 ≤ m) (h1 : m ≤ 100000) (hv : TRow H v (z.map (·.1)) us) (hw : Row 1 H w (ints (z.map (·.2)))) : T Try.prog 51 [v, w, .int .i64 m] H (fun r K => r = .int .i64 (ons z m) ∧ K = H) := by
  refine T.by tabOk Try.func51 (by kernel_rfl) rfl _ (by simp [Try.f51]) H _ ?_
  have hlen := hw.len 3
  simp [Try.f51, tab, hlen]
  refine W_loop _ fun I hI => ?_
  have hz12 := hz.len
  have key : ∀ (r q : Ts) (ts : TS), z = q ++ r → (ts 0 = v ∧ ts 2 = .int .i64 m ∧ ts 10 = w ∧ ts 11 = .int .i64 z.length ∧ ts 12 = .int .i64 q.length ∧ ts 7 = .int .i64 (ons q m)) → I ts H := by
    intro r
    induction r with
    | nil =>
      intro q ts e hts
      apply hI
      simp at e
      subst e
      simp [hts, tab]
    | cons a r ih =>
      intro q ts e hts
      apply hI
      obtain ⟨t, x⟩ := a
      have hlt : (q.length : Int) < z.length := by simp [e]; omega
      have hql : ons q m ≤ q.length := List.countP_le_length
      obtain ⟨b, c, _, e1, e2⟩ := Row.get1 hw (tab := tab) (e := 3) (ety := tI) rfl rfl rfl (i := q.length) (a := x) (by simp [e]) .i64
      obtain ⟨b2, c2, u, _, f1, _, f3, _⟩ := hv.get (e := 49) rfl (i := q.length) (t := t) (by simp [e])
      have hw1 := wrap64 (x := q.length + 1) (by omega) (by omega)
      have hw2 := wrap64 (x := ons q m + 1) (by omega) (by omega)
      have hst := hz.st (t, x) (by simp [e])
      have hlo := hz.long (t, x) (by simp [e])
      simp only at hst hlo
      have hw3 := wrap64 (x := x + t.long) (by omega) (by omega)
      have hon : ons (q ++ [(t, x)]) m = ons q m + (if 0 ≤ x ∧ x ≤ m ∧ m < x + t.long then 1 else 0) := by
        simp [ons, List.countP_append, List.countP_cons]
      by_cases c1 : 0 ≤ x
      · by_cases c2 : x ≤ m
        · by_cases c3 : m < x + t.long
          · rw [if_pos ⟨c1, c2, c3⟩] at hon
            simp [hts, tab, hlt, e1, e2, f1, f3, c1, c2, c3, hw1, hw2, hw3]
            exact ih (q ++ [(t, x)]) _ (by simp [e]) (by simp [hts, hon])
          · rw [if_neg (fun h => c3 h.2.2)] at hon
            simp [hts, tab, hlt, e1, e2, f1, f3, c1, c2, c3, hw1, hw2, hw3]
            exact ih (q ++ [(t, x)]) _ (by simp [e]) (by simp [hts, hon])
        · rw [if_neg (fun h => c2 h.2.1)] at hon
          simp [hts, tab, hlt, e1, e2, f1, f3, c1, c2, hw1, hw2, hw3]
          exact ih (q ++ [(t, x)]) _ (by simp [e]) (by simp [hts, hon])
      · rw [if_neg (fun h => c1 h.1)] at hon
        simp [hts, tab, hlt, e1, e2, f1, f3, c1, hw1, hw2, hw3]
        exact ih (q ++ [(t, x)]) _ (by simp [e]) (by simp [hts, hon])
  exact key z [] _ rfl (by simp [ons])
theorem l10Units_ok (n : Int) (H : Hp) : T Try.prog 50 [.int .i64 n] H (fun r H' => r = .bool (decide (1 ≤ n ∧ n ≤ 4)) ∧ H' = H) := by
  refine T.by tabOk Try.func50 (by kernel_rfl) rfl _ (by simp [Try.f50]) H _ ?_
  simp [Try.f50, tab]
  refine (l1In_ok n 1 4 H).mono fun r H' ⟨e, h⟩ => ?_
  subst e h
  simp
/-- A pair of answers. -/
def Tell (a b : Prop) (H : Hp) (r : AV) (K : Hp) : Prop := (∃ s t, r = .tup [.bool s, .bool t] ∧ (s = true ↔ a) ∧ (t = true ↔ b)) ∧ Fr H K
theorem Tell.of {a b : Prop} {H K : Hp} {s t : Bool} (h1 : s = true ↔ a) (h2 : t = true ↔ b) (h : Fr H K) : Tell a b H (.tup [.bool s, .bool t]) K := ⟨⟨s, t, rfl, h1, h2⟩, h⟩
def SOk (l : List Task) (n : Int) (s : List Int) : Prop := GoodT l ∧ 1 ≤ n ∧ n ≤ 4 ∧ s.length = l.length ∧ ∀ x ∈ s, 0 ≤ x ∧ x ≤ 1000
def SAns (l : List Task) (n : Int) (s : List Int) : Prop := SOk l n s ∧ ∀ p ∈ l.zip s, ¬ BadAt (l.zip s) n p
theorem SOk.fits {l : List Task} {n : Int} {s : List Int} (h : SOk l n s) : Fits (l.zip s) := by
  refine ⟨?_, fun p hp => ?_, fun p hp => ?_⟩
  · have := h.1.1
    simp
    omega
  · obtain ⟨t, x⟩ := p
    obtain ⟨i, hi⟩ := List.mem_iff_getElem?.1 (List.of_mem_zip hp).1
    exact ⟨(h.1.2 i t hi).1, (h.1.2 i t hi).2.1⟩
  · obtain ⟨t, x⟩ := p
    have := h.2.2.2.2 x (List.of_mem_zip hp).2
    simp only
    omega
theorem fst_zip {l : List Task} {s : List Int} (h : s.length = l.length) : (l.zip s).map (·.1) = l := List.map_fst_zip (by omega)
theorem snd_zip {l : List Task} {s : List Int} (h : s.length = l.length) : (l.zip s).map (·.2) = s := List.map_snd_zip (by omega)
set_option maxRecDepth 100000 in
theorem specSched_ok (l : List Task) (n : Int) (s : List Int) (us : List AV) (v w : AV) (H : Hp) (hm : l.length ≤ 1048576) (hmm : ∀ t ∈ l, t.after.length ≤ 1048576) (hms : s.length ≤ 1048576) (hv : TRow H v l us) (hw : Row 1 H w (ints s)) : T Try.prog 22 [v, .int .i64 n, w] H (Tell (SAns l n s) (SOk l n s) H) := by
  refine T.by tabOk Try.func22 (by kernel_rfl) rfl _ (by simp [Try.f22]) H _ ?_
  have hlen := hv.count 49
  have hlw := hw.len 3
  simp [Try.f22]
  refine (specGood_ok l us v H hm hmm hv).mono fun r K ⟨⟨t, h1, h2⟩, hK⟩ => ?_
  subst h1
  have no : ∀ {K : Hp}, Fr H K → ¬ SOk l n s → Tell (SAns l n s) (SOk l n s) H (.tup [.bool false, .bool false]) K := fun hK h => Tell.of (by simp; exact fun g => h g.1) (by simp; exact h) hK
  cases t with
  | false =>
    simp [tab]
    exact no hK fun h => by simpa using h2.2 h.1
  | true =>
    have hg := h2.1 rfl
    simp [tab]
    refine (l10Units_ok n K).mono fun r K1 ⟨e1, e2⟩ => ?_
    subst e1 e2
    by_cases hn : 1 ≤ n ∧ n ≤ 4
    case neg =>
      simp [tab, hn]
      exact no hK fun h => hn ⟨h.2.1, h.2.2.1⟩
    by_cases hsl : s.length = l.length
    case neg =>
      have : ¬ (s.length : Int) = l.length := by omega
      simp [tab, hn, hlen, hlw, this]
      exact no hK fun h => hsl h.2.2.2.1
    simp [tab, hn, hlen, hlw, hsl]
    refine W_loop _ fun I hI => ?_
    have key : ∀ (r q : List Int) (ts : TS), s = q ++ r → (∀ x ∈ q, 0 ≤ x ∧ x ≤ 1000) → (ts 0 = v ∧ ts 1 = .int .i64 n ∧ ts 2 = w ∧ ts 29 = w ∧ ts 30 = .int .i64 l.length ∧ ts 31 = .int .i64 q.length) → I ts K1 := by
      intro r
      induction r with
      | cons a r ih =>
        intro q ts e hq hts
        apply hI
        have hlt : (q.length : Int) < l.length := by rw [← hsl]; simp [e]; omega
        obtain ⟨b, c, _, e1, e2⟩ := Row.get1 hw (tab := tab) (e := 3) (ety := tI) rfl rfl rfl (i := q.length) (a := a) (by simp [e]) .i64
        have hw1 := wrap64 (x := q.length + 1) (by omega) (by omega)
        simp (maxDischargeDepth := 9) [hts, tab, hlt, hK.index, hK.load, e1, e2]
        refine (l1In_ok a 0 1000 K1).mono fun y K2 ⟨y1, y2⟩ => ?_
        subst y1 y2
        by_cases ha : 0 ≤ a ∧ a ≤ 1000
        · simp [hts, tab, ha, hw1]
          exact ih (q ++ [a]) _ (by simp [e]) (fun x hx => by simp at hx; rcases hx with hx | rfl; exact hq x hx; exact ha) (by simp [hts])
        · simp [hts, tab, ha]
          exact no hK fun h => ha (h.2.2.2.2 a (by simp [e]))
      | nil =>
        intro q ts e hq hts
        apply hI
        simp at e
        subst e
        have hok : SOk l n s := ⟨hg, hn.1, hn.2, hsl, hq⟩
        have hz := hok.fits
        have hl12 := hg.1
        have bad : ∀ {K : Hp} {p : Task × Int}, Fr H K → p ∈ l.zip s → BadAt (l.zip s) n p → Tell (SAns l n s) (SOk l n s) H (.tup [.bool false, .bool true]) K := fun hK hp hb => Tell.of (by simp; exact fun g => g.2 _ hp hb) (by simp; exact hok) hK
        simp [hts, tab, hlen, hsl]
        refine W_loop _ fun I2 hI2 => ?_
        have key2 : ∀ (r2 q2 : Ts) (ts : TS) (K : Hp), l.zip s = q2 ++ r2 → Fr H K → (∀ p ∈ q2, ¬ BadAt (l.zip s) n p) → (ts 0 = v ∧ ts 1 = .int .i64 n ∧ ts 2 = w ∧ ts 39 = v ∧ ts 40 = .int .i64 l.length ∧ ts 41 = .int .i64 q2.length) → I2 ts K := by
          intro r2
          have hzl : (l.zip s).length = l.length := by simp [hsl]
          induction r2 with
          | nil =>
            intro q2 ts K e hK hq2 hts
            apply hI2
            simp at e
            subst e
            have : ¬ ((l.zip s).length : Int) < l.length := by omega
            simp [hts, tab, hsl]
            exact Tell.of (by simp; exact ⟨hok, hq2⟩) (by simp; exact hok) hK
          | cons p r2 ih2 =>
            intro q2 ts K e hK hq2 hts
            apply hI2
            obtain ⟨t, x⟩ := p
            have hlt : (q2.length : Int) < l.length := by rw [← hzl]; simp [e]; omega
            have hzi : (l.zip s)[q2.length]? = some (t, x) := by simp [e]
            have hti := (List.getElem?_zip_eq_some.1 hzi).1
            have hxi := (List.getElem?_zip_eq_some.1 hzi).2
            have hmem : (t, x) ∈ l.zip s := by simp [e]
            have hgt := hg.2 _ _ hti
            have hx := hq x (List.mem_of_getElem? hxi)
            have hal := hmm t (List.mem_of_getElem? hti)
            obtain ⟨b, c, _, e1, e2⟩ := Row.get1 hw (tab := tab) (e := 3) (ety := tI) rfl rfl rfl hxi .i64
            obtain ⟨b2, c2, u, _, f1, f2, f3, f4, hr⟩ := hv.get (e := 49) rfl hti
            have hul := hr.len 3
            have hfr := hK.app' [some ⟨2, true, [.int .i64 t.long, u]⟩]
            simp (maxDischargeDepth := 9) [hts, tab, hlt, hK.index, hK.load, f1, f2, hr.one, hr.self, hul]
            refine W_loop _ fun I3 hI3 => ?_
            have key3 : ∀ (r3 q3 : List Int) (ts : TS), t.after = q3 ++ r3 → (¬ ∃ a ∈ q3, ∃ q, (l.zip s)[a.toNat]? = some q ∧ x < q.2 + q.1.long) → (ts 0 = v ∧ ts 1 = .int .i64 n ∧ ts 2 = w ∧ ts 39 = v ∧ ts 40 = .int .i64 l.length ∧ ts 41 = .int .i64 q2.length ∧ ts 10 = .int .i64 q2.length ∧ ts 47 = u ∧ ts 48 = .int .i64 t.after.length ∧ ts 49 = .int .i64 q3.length) → I3 ts (K ++ [some ⟨2, true, [.int .i64 t.long, u]⟩]) := by
              intro r3
              induction r3 with
              | nil =>
                intro q3 ts e3 hq3 hts
                apply hI3
                simp at e3
                subst e3
                have hw1 := wrap64 (x := q2.length + 1) (by omega) (by omega)
                simp (maxDischargeDepth := 9) [hts, tab, hfr.index, hfr.load, e1, e2]
                refine (l10Running_ok (l.zip s) us v w x _ hz (by omega) (by omega) (by rw [fst_zip hsl]; exact hv.fr hfr) (by rw [snd_zip hsl]; exact hw.fr hfr)).mono fun y K2 ⟨y1, y2⟩ => ?_
                subst y1 y2
                by_cases hb : n < ons (l.zip s) x
                · simp [hts, tab, hb]
                  exact bad hfr hmem (.inr hb)
                · simp [hts, tab, hb, hw1]
                  refine ih2 (q2 ++ [(t, x)]) _ _ (by simp [e]) hfr ?_ (by simp [hts])
                  intro p hp
                  simp at hp
                  rcases hp with hp | rfl
                  · exact hq2 p hp
                  · rintro (h | h)
                    · exact hq3 h
                    · exact hb h
              | cons a r3 ih3 =>
                intro q3 ts e3 hq3 hts
                apply hI3
                have hai : t.after[q3.length]? = some a := by simp [e3]
                have hga := hgt.2.2 _ a hai
                obtain ⟨i, rfl⟩ := Int.eq_ofNat_of_zero_le hga.1
                have hil : i < l.length := by omega
                have hti2 : l[i]? = some l[i] := List.getElem?_eq_getElem hil
                have hsi2 : s[i]? = some (s[i]'(by omega)) := List.getElem?_eq_getElem (by omega)
                generalize l[i] = t2 at hti2
                generalize s[i]'(by omega) = x2 at hsi2
                have hz2 : (l.zip s)[i]? = some (t2, x2) := List.getElem?_zip_eq_some.2 ⟨hti2, hsi2⟩
                have hlt2 : (q3.length : Int) < t.after.length := by simp [e3]; omega
                obtain ⟨b3, c3, _, g1, g2⟩ := Row.get1 hr (tab := tab) (e := 3) (ety := tI) rfl rfl rfl hai .i64
                obtain ⟨b4, c4, _, j1, j2⟩ := Row.get1 hw (tab := tab) (e := 3) (ety := tI) rfl rfl rfl hsi2 .i64
                obtain ⟨b5, c5, u5, _, k1, _, k3, _, _⟩ := hv.get (e := 49) rfl hti2
                have hx2 := hq x2 (List.mem_of_getElem? hsi2)
                have hg2 := hg.2 _ _ hti2
                have hw2 := wrap64 (x := x2 + t2.long) (by have := hg2.1; omega) (by have := hg2.2.1; omega)
                have hw3 := wrap64 (x := q3.length + 1) (by omega) (by omega)
                simp (maxDischargeDepth := 9) [hts, tab, hlt2, hfr.index, hfr.load, g1, g2]
                refine W_draw mixed (.look 0 (.look 1 (.look 2 (.look 3 (.look 4 (.look 5 (.look 6 (.look 7 (.look 8 (.look 9 (.look 10 (.look 11 (.look 12 (.look 13 (.look 14 .done))))))))))))))) (by kernel_rfl) ?_
                by_cases hb : x < x2 + t2.long
                · simp (maxDischargeDepth := 9) [hts, tab, hfr.index, hfr.load, e1, e2, j1, j2, k1, k3, hw2, hb]
                  exact bad hfr hmem (.inl ⟨i, by simp [e3], (t2, x2), by simpa using hz2, hb⟩)
                · simp (maxDischargeDepth := 9) [hts, tab, hfr.index, hfr.load, e1, e2, j1, j2, k1, k3, hw2, hw3, hb]
                  refine ih3 (q3 ++ [(i : Int)]) _ (by simp [e3]) ?_ (by simp [hts])
                  rintro ⟨a, ha, q, hq, hlt3⟩
                  simp at ha
                  rcases ha with ha | rfl
                  · exact hq3 ⟨a, ha, q, hq, hlt3⟩
                  · simp at hq
                    rw [show (l.zip s)[i]? = some (t2, x2) from hz2] at hq
                    cases hq
                    exact hb hlt3
            exact key3 t.after [] _ rfl (by simp) (by simp [hts])
        exact key2 (l.zip s) [] _ _ rfl hK (by simp) (by simp [hts])
    exact key s [] _ rfl (by simp) (by simp)
end Go.Proofs.Ytcadaadoodpnmaa.Am
