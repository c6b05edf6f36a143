/- Ranks: both ways to reckon them come to the same. No condition. -/
import Derived.Test.YtcadaadoodpnmaaLGoodTasks
namespace Go.Proofs.Ytcadaadoodpnmaa.Am
open Go Go.RowKit
set_option linter.unusedSimpArgs false
set_option linter.unusedVariables false

theorem l1Has_ok (l : List Int) (u : AV) (n : Int) (H : Hp) (hm : l.length ≤ 1048576) (hv : Row 1 H u (ints l)) : T Try.prog 72 [u, .int .i64 n] H (fun r K => r = .bool (decide (n ∈ l)) ∧ K = H) := by
  refine T.by tabOk Try.func72 (by kernel_rfl) rfl _ (by simp [Try.f72]) H _ ?_
  have hlen := hv.len 3
  simp [Try.f72, tab, hlen]
  refine W_loop _ fun I hI => ?_
  have key : ∀ (r p : List Int) (ts : TS), l = p ++ r → n ∉ p → (ts 1 = .int .i64 n ∧ ts 7 = u ∧ ts 8 = .int .i64 l.length ∧ ts 9 = .int .i64 p.length) → I ts H := by
    intro r
    induction r with
    | nil =>
      intro p ts e hn hts
      apply hI
      simp at e
      subst e
      simp [hts, tab, hn]
    | cons a r ih =>
      intro p ts e hn hts
      apply hI
      have hlt : (p.length : Int) < l.length := by simp [e]; omega
      obtain ⟨b, q, _, e1, e2⟩ := Row.get1 hv (tab := tab) (e := 3) (ety := tI) rfl rfl rfl (i := p.length) (a := a) (by simp [e]) .i64
      have hw := wrap64 (x := p.length + 1) (by omega) (by omega)
      by_cases ha : a = n
      · subst ha
        simp [hts, tab, hlt, e1, e2]
        simp [e]
      · simp [hts, tab, hlt, e1, e2, ha, hw]
        exact ih (p ++ [a]) _ (by simp [e]) (by simp [hn]; exact fun h => ha h.symm) (by simp [hts])
  exact key l [] _ rfl (by simp) (by simp)
def most (i : Int) : List Task → List Int → Int
  | t :: r, x :: o => if i ∈ t.after then max x (most i r o) else most i r o
  | _, _ => 0
def rks (i : Nat) : List Task → List Int
  | [] => []
  | t :: r => (t.long + most i r (rks (i + 1) r)) :: rks (i + 1) r
@[simp] theorem rks_length (i : Nat) (r : List Task) : (rks i r).length = r.length := by
  induction r generalizing i with
  | nil => rfl
  | cons t r ih => simp [rks, ih]
theorem most_bound (i : Int) (B : Int) (hB : 0 ≤ B) : ∀ (r : List Task) (o : List Int), (∀ x ∈ o, 0 ≤ x ∧ x ≤ B) → 0 ≤ most i r o ∧ most i r o ≤ B
  | [], _, _ => by simp [most, hB]
  | _ :: _, [], _ => by simp [most, hB]
  | t :: r, x :: o, h => by
    have h1 := h x (by simp)
    have h2 := most_bound i B hB r o fun y hy => h y (by simp [hy])
    unfold most
    split <;> omega
theorem rks_bound : ∀ (r : List Task) (i : Nat), (∀ t ∈ r, 1 ≤ t.long ∧ t.long ≤ 20) → ∀ x ∈ rks i r, 0 ≤ x ∧ x ≤ 20 * r.length
  | [], i, _, x, hx => by simp [rks] at hx
  | t :: r, i, h, x, hx => by
    have ih := rks_bound r (i + 1) fun t ht => h t (by simp [ht])
    have ht := h t (by simp)
    simp only [rks, List.mem_cons] at hx
    rcases hx with rfl | hx
    · have := most_bound i (20 * r.length) (by omega) r (rks (i + 1) r) ih
      simp
      omega
    · have := ih x hx
      simp
      omega
theorem GoodT.longs {l : List Task} (h : GoodT l) : ∀ t ∈ l, 1 ≤ t.long ∧ t.long ≤ 20 := by
  intro t ht
  obtain ⟨i, hi⟩ := List.mem_iff_getElem?.1 ht
  exact ⟨(h.2 i t hi).1, (h.2 i t hi).2.1⟩
set_option maxRecDepth 100000 in
theorem l10Ranks_ok (l : List Task) (us : List AV) (v : AV) (H : Hp) (hg : GoodT l) (hmm : ∀ t ∈ l, t.after.length ≤ 1048576) (hv : TRow H v l us) : T Try.prog 56 [v] H (fun r K => Own 1 K r (ints (rks 0 l)) ∧ Fresh H.length r ∧ Fr H K) := by
  refine T.by tabOk Try.func56 (by kernel_rfl) rfl _ (by simp [Try.f56]) H _ ?_
  have hlen := hv.count 49
  have hl12 := hg.1
  have hlong := hg.longs
  obtain ⟨K0, m1, m2, m3⟩ := make_ok (ety := tI) (K := H) (n := l.length) rfl (by decide) (by simp; omega) (by omega)
  have hw := wrap64 (x := l.length - 1) (by omega) (by omega)
  simp [Try.f56, tab, hlen, m1, hw]
  refine W_loop _ fun I hI => ?_
  have key : ∀ (n : Nat) (p r : List Task) (ts : TS) (K : Hp) (out : AV), p.length = n → l = p ++ r → Fr H K → Fresh H.length out → Own 1 K out (ints (List.replicate n 0 ++ rks n r)) → (ts 0 = v ∧ ts 3 = out ∧ ts 4 = .int .i64 ((n : Int) - 1)) → I ts K := by
    intro n
    induction n with
    | zero =>
      intro p r ts K out hp hl hK hf ho hts
      apply hI
      obtain rfl : p = [] := List.eq_nil_of_length_eq_zero hp
      simp at hl
      subst hl
      simp [hts, tab]
      exact ⟨by simpa using ho, hf, hK⟩
    | succ n ih =>
      intro p r ts K out hp hl hK hf ho hts
      apply hI
      rcases List.eq_nil_or_concat p with rfl | ⟨p', t, e⟩
      · simp at hp
      rw [List.concat_eq_append] at e
      subst e
      simp at hp
      have hnl : n < l.length := by simp [hl]; omega
      have ht : l[n]? = some t := by simp [hl, ← hp]
      have hts4 : ts 4 = .int .i64 n := by rw [hts.2.2]; congr 1; omega
      have hn0 : (0 : Int) ≤ n := by omega
      have hw1 := wrap64 (x := n + 1) (by omega) (by omega)
      have hw2 := wrap64 (x := n - 1) (by omega) (by omega)
      simp [hts, hts4, hn0, hw1, tab]
      refine W_loop _ fun I2 hI2 => ?_
      have hol : (rks (n + 1) r).length = r.length := rks_length _ _
      have hob := rks_bound r (n + 1) (fun t ht => hlong t (by simp [hl, ht]))
      have hrl : r.length ≤ 12 := by simp [hl] at hl12; omega
      have key2 : ∀ (r2 r1 : List Task) (o1 o2 : List Int) (m : Int) (ts : TS), r = r1 ++ r2 → rks (n + 1) r = o1 ++ o2 → o1.length = r1.length → max m (most n r2 o2) = most n r (rks (n + 1) r) → 0 ≤ m → m ≤ 240 → (ts 0 = v ∧ ts 3 = out ∧ ts 4 = .int .i64 n ∧ ts 5 = .int .i64 m ∧ ts 6 = .int .i64 (n + 1 + r1.length)) → I2 ts K := by
        intro r2
        induction r2 with
        | nil =>
          intro r1 o1 o2 m ts er eo elen em hm0 hm1 hts
          apply hI2
          simp at er
          subst er
          have hll : (l.length : Int) = n + 1 + r.length := by simp [hl]; omega
          have hm : m = most n r (rks (n + 1) r) := by
            have : most n ([] : List Task) o2 = 0 := by cases o2 <;> rfl
            rw [this] at em
            omega
          obtain ⟨b, q, u, hu, e1, e2, e3, e4, hr⟩ := hv.get (e := 49) rfl (i := n) (t := t) ht
          obtain ⟨b', hb', f1, f2⟩ := ho.store (tab := tab) (e := 3) (ety := tI) rfl (i := n) (c := [.int .i64 0]) (ints_get (by rw [List.getElem?_append_left (by simp)]; simp [List.getElem?_replicate])) .i64
          obtain ⟨K2, f3, f4, f5, f6⟩ := f2 tI 0 (.int .i64 (t.long + m)) rfl rfl (by decide)
          have htl := hlong t (by simp [hl])
          have hw3 := wrap64 (x := t.long + m) (by omega) (by omega)
          simp at f1 f3
          simp (maxDischargeDepth := 9) [hts, tab, hlen, hll, hK.index, hK.load, e1, e3, hw3, f1, f3, hw2]
          refine ih p' (t :: r) _ _ out hp (by simp [hl]) (Fr.then hK f5 hf) hf ?_ (by simp [hts])
          have e : (ints (List.replicate (n + 1) 0 ++ rks (n + 1) r)).set n (over [.int .i64 0] 0 [.int .i64 (t.long + m)]) = ints (List.replicate n 0 ++ rks n (t :: r)) := by
            rw [List.replicate_succ', List.append_assoc, ints_append, List.set_append_right _ _ (by simp)]
            simp [ints, rks, hm]
          simp only [cells_int, e] at f4
          exact f4
        | cons a r2 ih2 =>
          intro r1 o1 o2 m ts er eo elen em hm0 hm1 hts
          obtain _ | ⟨x, o2⟩ := o2
          · have := hol
            rw [eo, er] at this
            simp at this
            omega
          apply hI2
          have hll : ((n : Int) + 1 + r1.length) < l.length := by simp [hl, er]; omega
          have hia : l[n + 1 + r1.length]? = some a := by
            rw [hl, List.getElem?_append_right (by simp; omega)]
            simp [er, hp]
          obtain ⟨b, q, u, hu, e1, e2, e3, e4, hr⟩ := hv.get (e := 49) rfl (i := n + 1 + r1.length) (t := a) hia
          have hix : (List.replicate (n + 1) 0 ++ rks (n + 1) r)[n + 1 + r1.length]? = some x := by
            rw [List.getElem?_append_right (by simp only [List.length_replicate]; omega), eo]
            simp [← elen]
          obtain ⟨b2, q2, _, g1, g2⟩ := Row.get1 ho.row (tab := tab) (e := 3) (ety := tI) rfl rfl rfl hix .i64
          have hxb := hob x (by simp [eo])
          have hw3 := wrap64 (x := n + 1 + r1.length + 1) (by omega) (by omega)
          simp at e1 g1
          simp (maxDischargeDepth := 9) [hts, tab, hlen, hll, hK.index, hK.load, e1, e4]
          refine (l1Has_ok a.after u n K (hmm a (by simp [hl, er])) (hr.fr hK)).mono fun y K1 ⟨y1, y2⟩ => ?_
          subst y1 y2
          have fin : ∀ m' : Int, m' = (if (n : Int) ∈ a.after then max m x else m) → max m' (most n r2 o2) = most n r (rks (n + 1) r) := by
            intro m' hm'
            rw [← em, hm', most]
            split <;> omega
          by_cases hin : (n : Int) ∈ a.after
          · by_cases hgt : m < x
            · simp (maxDischargeDepth := 9) [hts, tab, hin, hgt, g1, g2, hw3]
              exact ih2 (r1 ++ [a]) (o1 ++ [x]) o2 x _ (by simp [er]) (by simp [eo]) (by simp [elen]) (fin x (by rw [if_pos hin]; omega)) (by omega) (by omega) (by simp [hts]; omega)
            · simp (maxDischargeDepth := 9) [hts, tab, hin, hgt, g1, g2, hw3]
              exact ih2 (r1 ++ [a]) (o1 ++ [x]) o2 m _ (by simp [er]) (by simp [eo]) (by simp [elen]) (fin m (by rw [if_pos hin]; omega)) (by omega) (by omega) (by simp [hts]; omega)
          · simp (maxDischargeDepth := 9) [hts, tab, hin, hw3]
            exact ih2 (r1 ++ [a]) (o1 ++ [x]) o2 m _ (by simp [er]) (by simp [eo]) (by simp [elen]) (fin m (by rw [if_neg hin])) (by omega) (by omega) (by simp [hts]; omega)
      have hmb := most_bound n (20 * r.length) (by omega) r (rks (n + 1) r) hob
      exact key2 r [] [] (rks (n + 1) r) 0 _ rfl rfl rfl (by omega) (by omega) (by omega) (by simp [hts, hts4])
  refine key l.length l [] _ _ (.sl H.length 0 l.length) rfl (by simp) m3 ?_ ?_ (by simp)
  · intro b hb; cases hb; exact Nat.le_refl _
  · simpa [ints, rks] using m2
set_option maxRecDepth 100000 in
theorem ranksOf_ok (l : List Task) (us : List AV) (v : AV) (H : Hp) (hg : GoodT l) (hmm : ∀ t ∈ l, t.after.length ≤ 1048576) (hv : TRow H v l us) : T Try.prog 57 [v] H (fun r K => Own 1 K r (ints (rks 0 l)) ∧ Fresh H.length r ∧ Fr H K) := by
  refine T.by tabOk Try.func57 (by kernel_rfl) rfl _ (by simp [Try.f57]) H _ ?_
  have hlen := hv.count 49
  have hl12 := hg.1
  have hlong := hg.longs
  obtain ⟨K0, m1, m2, m3⟩ := make_ok (ety := tI) (K := H) (n := l.length) rfl (by decide) (by simp; omega) (by omega)
  obtain ⟨K1, n1, n2, n3⟩ := make_ok (ety := tI) (K := K0) (n := l.length) rfl (by decide) (by simp; omega) (by omega)
  have hK0 : H.length < K0.length := m2.lt H.length rfl
  have hw := wrap64 (x := l.length - 1) (by omega) (by omega)
  simp [Try.f57, tab]
  refine W_cut (fun ts K => ∃ b c, ts 0 = v ∧ ts 3 = .sl b 0 l.length ∧ ts 4 = .sl c 0 l.length ∧ b ≠ c ∧ H.length ≤ b ∧ H.length ≤ c ∧ Own 1 K (.sl b 0 l.length) (List.replicate l.length [.int .i64 0]) ∧ Own 1 K (.sl c 0 l.length) (List.replicate l.length [.int .i64 0]) ∧ Fr H K) ?_ ?_
  · refine W_draw mixed (.look 0 (.look 1 (.look 3 (.look 4 (.act 2 [] (.act 5 [] (.act 6 [] (.act 7 [] .done .stop) .stop) (.act 6 [] (.act 5 [] (.act 7 [] .done .stop) .stop) .stop)) (.act 5 [] (.act 2 [] (.act 6 [] (.act 7 [] .done .stop) .stop) .stop) .stop)))))) (by kernel_rfl) ?_
    simp [tab, hlen, m1, n1]
    have h1 := m2.fr n3
    simp at h1 n2
    exact ⟨⟨by omega, by omega, h1, n2, m3.trans n3⟩, by omega, by omega, n2, h1, m3.trans n3⟩
  rintro ts K ⟨b, c, t0, t3, t4, hbc, hb, hc, ob, oc, hK⟩
  simp [t0, t3, t4, tab, hlen, hw]
  refine W_loop _ fun I hI => ?_
  have key : ∀ (n : Nat) (p r : List Task) (bs : List Int) (ts : TS) (K : Hp), p.length = n → l = p ++ r → bs.length = l.length → (∀ j : Nat, j < n → bs[j]? = some (most j r (rks n r))) → Fr H K → Own 1 K (.sl b 0 l.length) (ints bs) → Own 1 K (.sl c 0 l.length) (ints (List.replicate n 0 ++ rks n r)) → (ts 0 = v ∧ ts 3 = .sl b 0 l.length ∧ ts 4 = .sl c 0 l.length ∧ ts 5 = .int .i64 ((n : Int) - 1)) → I ts K := by
    intro n
    induction n with
    | zero =>
      intro p r bs ts K hp hl hbl hbs hK hob hoc hts
      apply hI
      obtain rfl : p = [] := List.eq_nil_of_length_eq_zero hp
      simp at hl
      subst hl
      simp [hts, tab]
      exact ⟨by simpa using hoc, fun x hx => by cases hx; exact hc, hK⟩
    | succ n ih =>
      intro p r bs ts K hp hl hbl hbs hK hob hoc hts
      apply hI
      rcases List.eq_nil_or_concat p with rfl | ⟨p', t, e⟩
      · simp at hp
      rw [List.concat_eq_append] at e
      subst e
      simp at hp
      have hnl : n < l.length := by simp [hl]; omega
      have ht : l[n]? = some t := by simp [hl, ← hp]
      have hts5 : ts 5 = .int .i64 n := by rw [hts.2.2.2]; congr 1; omega
      have hn0 : (0 : Int) ≤ n := by omega
      have hw2 := wrap64 (x := n - 1) (by omega) (by omega)
      have hol : (rks (n + 1) r).length = r.length := rks_length _ _
      have hob2 := rks_bound r (n + 1) (fun t ht => hlong t (by simp [hl, ht]))
      have hrl : r.length ≤ 12 := by simp [hl] at hl12; omega
      have hmb := most_bound n (20 * r.length) (by omega) r (rks (n + 1) r) hob2
      have htl := hlong t (by simp [hl])
      have htg := hg.2 n t ht
      have hal := hmm t (by simp [hl])
      obtain ⟨b1, q, u, hu, e1, e2, e3, e4, hr⟩ := hv.get (e := 49) rfl (i := n) (t := t) ht
      obtain ⟨b2, q2, _, g1, g2⟩ := Row.get1 hob.row (tab := tab) (e := 3) (ety := tI) rfl rfl rfl (hbs n (by omega)) .i64
      obtain ⟨b', hb', f1, f2⟩ := hoc.store (tab := tab) (e := 3) (ety := tI) rfl (i := n) (c := [.int .i64 0]) (ints_get (by rw [List.getElem?_append_left (by simp)]; simp [List.getElem?_replicate])) .i64
      obtain ⟨K2, f3, f4, f5, f6⟩ := f2 tI 0 (.int .i64 (t.long + most n r (rks (n + 1) r))) rfl rfl (by decide)
      have e : (ints (List.replicate (n + 1) 0 ++ rks (n + 1) r)).set n (over [.int .i64 0] 0 [.int .i64 (t.long + most n r (rks (n + 1) r))]) = ints (List.replicate n 0 ++ rks n (t :: r)) := by
        rw [List.replicate_succ', List.append_assoc, ints_append, List.set_append_right _ _ (by simp)]
        simp [ints, rks]
      simp only [cells_int, e] at f4
      have hw3 := wrap64 (x := t.long + most n r (rks (n + 1) r)) (by omega) (by omega)
      simp at f1 f3
      have hK2 : Fr H K2 := Fr.then hK f5 (fun x hx => by cases hx; exact hc)
      have hul := hr.len 3
      simp [hts, hts5, hn0, tab]
      refine W_draw mixed (.look 0 (.look 1 (.look 2 (.look 3 (.look 4 (.look 5 (.look 6 (.look 7 (.look 8 (.look 9 (.look 10 (.look 11 (.look 12 (.act 13 [] .done .stop)))))))))))))) (by kernel_rfl) ?_
      simp (maxDischargeDepth := 9) [hts, hts5, tab, hK.index, hK.load, e1, e3, g1, g2, f1, f3, hw3, hK2.index, hK2.load, e4, hul]
      refine W_loop _ fun I2 hI2 => ?_
      have hob3 : Own 1 K2 (.sl b 0 l.length) (ints bs) := hob.keeps f5 (fun x hx hx2 => by cases hx; cases hx2; exact hbc rfl)
      have key2 : ∀ (r2 r1 : List Int) (bs' : List Int) (ts : TS) (K : Hp), t.after = r1 ++ r2 → bs'.length = l.length → (∀ j : Nat, j < n → bs'[j]? = some (if (j : Int) ∈ r1 then max (t.long + most n r (rks (n + 1) r)) (most j r (rks (n + 1) r)) else most j r (rks (n + 1) r))) → Fr H K → Own 1 K (.sl b 0 l.length) (ints bs') → Own 1 K (.sl c 0 l.length) (ints (List.replicate n 0 ++ rks n (t :: r))) →
          (ts 0 = v ∧ ts 3 = .sl b 0 l.length ∧ ts 4 = .sl c 0 l.length ∧ ts 5 = .int .i64 n ∧ ts 38 = u ∧ ts 39 = .int .i64 t.after.length ∧ ts 40 = .int .i64 r1.length) → I2 ts K := by
        intro r2
        induction r2 with
        | nil =>
          intro r1 bs' ts K er hbl' hbs' hK hob hoc hts
          apply hI2
          simp at er
          subst er
          simp [hts, tab, hw2]
          refine ih p' (t :: r) bs' _ _ hp (by simp [hl]) hbl' (fun j hj => ?_) hK hob hoc (by simp [hts])
          rw [hbs' j hj, rks, most]
        | cons a r2 ih2 =>
          intro r1 bs' ts K er hbl' hbs' hK hob hoc hts
          apply hI2
          have hx : t.after[r1.length]? = some a := by simp [er]
          have hga := htg.2.2 r1.length a hx
          obtain ⟨i, rfl⟩ := Int.eq_ofNat_of_zero_le hga.1
          have hin : i < n := by omega
          have hlt2 : (r1.length : Int) < t.after.length := by simp [er]; omega
          obtain ⟨b3, q3, _, j1, j2⟩ := Row.get1 hr (tab := tab) (e := 3) (ety := tI) rfl rfl rfl hx .i64
          obtain ⟨b4, q4, _, k1, k2⟩ := Row.get1 hob.row (tab := tab) (e := 3) (ety := tI) rfl rfl rfl (hbs' i hin) .i64
          obtain ⟨b5, q5, _, o1, o2⟩ := Row.get1 hoc.row (tab := tab) (e := 3) (ety := tI) rfl rfl rfl (i := n) (a := t.long + most n r (rks (n + 1) r)) (by rw [List.getElem?_append_right (by simp)]; simp [rks]) .i64
          generalize hyd : (if (i : Int) ∈ r1 then max (t.long + most n r (rks (n + 1) r)) (most i r (rks (n + 1) r)) else most i r (rks (n + 1) r)) = y at *
          obtain ⟨b', hb', f1, f2⟩ := hob.store (tab := tab) (e := 3) (ety := tI) rfl (i := i) (c := [.int .i64 y]) (ints_get (hbs' i hin ▸ hyd ▸ rfl)) .i64
          obtain ⟨K3, f3, f4, f5, f6⟩ := f2 tI 0 (.int .i64 (if y < t.long + most n r (rks (n + 1) r) then t.long + most n r (rks (n + 1) r) else y)) rfl rfl (by decide)
          have hw4 := wrap64 (x := r1.length + 1) (by omega) (by omega)
          have hK3 : Fr H K3 := Fr.then hK f5 (fun x hx => by cases hx; exact hb)
          simp at f1 f3
          rw [k1] at f1
          cases f1
          simp (maxDischargeDepth := 9) [hts, tab, hlt2, hK.index, hK.load, j1, j2]
          refine W_draw mixed (.look 0 (.look 1 (.look 2 (.look 3 (.look 4 (.look 5 (.look 6 (.look 7 (.look 8 (.look 9 (.look 10 (.look 11 (.act 12 [] .done .stop))))))))))))) (by kernel_rfl) ?_
          simp (maxDischargeDepth := 9) [hts, tab, k1, k2, o1, o2, f3, hw4]
          refine ih2 (r1 ++ [(i : Int)]) (bs'.set i (if y < t.long + most n r (rks (n + 1) r) then t.long + most n r (rks (n + 1) r) else y)) _ _ (by simp [er]) (by simpa using hbl') (fun j hj => ?_) hK3 ?_ (hoc.keeps f5 (fun x hx hx2 => by cases hx; cases hx2; exact hbc rfl)) (by simp [hts])
          · rw [List.getElem?_set]
            by_cases ej : i = j
            · subst ej
              rw [if_pos rfl, if_pos (by omega)]
              simp only [List.mem_append, List.mem_singleton, or_true, if_true]
              congr 1
              rw [← hyd]
              split <;> split <;> omega
            · rw [if_neg ej, hbs' j hj]
              have : ¬ (j : Int) = i := by omega
              simp [this]
          · have e : (ints bs').set i (over [.int .i64 y] 0 [.int .i64 (if y < t.long + most n r (rks (n + 1) r) then t.long + most n r (rks (n + 1) r) else y)]) = ints (bs'.set i (if y < t.long + most n r (rks (n + 1) r) then t.long + most n r (rks (n + 1) r) else y)) := by
              simp [ints, List.map_set]
            simp only [cells_int, e] at f4
            exact f4
      exact key2 t.after [] bs _ _ rfl hbl (fun j hj => by simp; exact hbs j (by omega)) hK2 hob3 f4 (by simp [hts, hts5])
  refine key l.length l [] (List.replicate l.length 0) _ _ rfl (by simp) (by simp) (fun j hj => by simp [List.getElem?_replicate, hj, most]) hK ?_ ?_ (by simp [t0, t3, t4])
  · simpa [ints] using ob
  · simpa [ints, rks] using oc
end Go.Proofs.Ytcadaadoodpnmaa.Am
