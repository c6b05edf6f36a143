/- The list schedule, the reference's way. No condition. -/
import Derived.Test.YtcadaadoodpnmaaLSimMath
namespace Go.Proofs.Ytcadaadoodpnmaa.Am
open Go Go.RowKit
set_option linter.unusedSimpArgs false
set_option linter.unusedVariables false

theorem stt_get {s : List Int} {i : Nat} (h : i < s.length) : s[i]? = some (stt s i) := by
  simp [stt, List.getElem?_eq_getElem h]
theorem lng_get {l : List Task} {i : Nat} (h : i < l.length) : ∃ t, l[i]? = some t ∧ lng l i = t.long ∧ aft l i = t.after := by
  refine ⟨l[i], List.getElem?_eq_getElem h, ?_, ?_⟩ <;> simp [lng, aft, List.getElem?_eq_getElem h]
set_option maxRecDepth 100000 in
theorem l10Ready_ok (l : List Task) (s : List Int) (us : List AV) (v w : AV) (k : Nat) (m : Int) (H : Hp) (hg : GoodT l) (hmm : ∀ t ∈ l, t.after.length ≤ 1048576) (hs : s.length = l.length) (hk : k < l.length) (hm0 : 0 ≤ m) (hm1 : m ≤ 100000) (hb : ∀ x ∈ s, -1 ≤ x ∧ x ≤ 100000) (hv : TRow H v l us) (hw : Row 1 H w (ints s)) : T Try.prog 59 [v, w, .int .i64 k, .int .i64 m] H (fun r K => r = .bool (decide (Ready l s k m)) ∧ K = H) := by
  refine T.by tabOk Try.func59 (by kernel_rfl) rfl _ (by simp [Try.f59]) H _ ?_
  obtain ⟨t, ht, hlt, hat⟩ := lng_get hk
  obtain ⟨b, c, u, _, f1, f2, f3, f4, hr⟩ := hv.get (e := 49) rfl ht
  have hul := hr.len 3
  have hal := hmm t (List.mem_of_getElem? ht)
  have hgt := hg.2 k t ht
  simp [Try.f59, tab, f1, f4, hul]
  refine W_loop _ fun I hI => ?_
  have key : ∀ (r q : List Int) (ts : TS), t.after = q ++ r → (∀ a ∈ q, 0 ≤ stt s a.toNat ∧ stt s a.toNat + lng l a.toNat ≤ m) → (ts 0 = v ∧ ts 1 = w ∧ ts 2 = .int .i64 k ∧ ts 3 = .int .i64 m ∧ ts 15 = u ∧ ts 16 = .int .i64 t.after.length ∧ ts 17 = .int .i64 q.length) → I ts H := by
    intro r
    induction r with
    | nil =>
      intro q ts e hq hts
      apply hI
      simp at e
      subst e
      obtain ⟨b2, c2, _, e1, e2⟩ := Row.get1 hw (tab := tab) (e := 3) (ety := tI) rfl rfl rfl (stt_get (by omega : k < s.length)) .i64
      simp [hts, tab, e1, e2, Ready, hat]
      exact fun _ => hq
    | cons a r ih =>
      intro q ts e hq hts
      apply hI
      have hai : t.after[q.length]? = some a := by simp [e]
      have hga := hgt.2.2 _ a hai
      obtain ⟨i, rfl⟩ := Int.eq_ofNat_of_zero_le hga.1
      have hil : i < l.length := by omega
      obtain ⟨t2, ht2, hl2, _⟩ := lng_get hil
      have hx := stt_get (s := s) (by omega : i < s.length)
      have hxb := hb _ (List.mem_of_getElem? hx)
      have hlb := lng_le hg i
      have hltq : (q.length : Int) < t.after.length := by simp [e]; omega
      obtain ⟨b3, c3, _, g1, g2⟩ := Row.get1 hr (tab := tab) (e := 3) (ety := tI) rfl rfl rfl hai .i64
      obtain ⟨b4, c4, _, j1, j2⟩ := Row.get1 hw (tab := tab) (e := 3) (ety := tI) rfl rfl rfl hx .i64
      obtain ⟨b5, c5, u5, _, k1, _, k3, _, _⟩ := hv.get (e := 49) rfl ht2
      have hw1 := wrap64 (x := q.length + 1) (by omega) (by omega)
      have hw2 := wrap64 (x := stt s i + t2.long) (by omega) (by omega)
      have hno : ¬ (0 ≤ stt s i ∧ stt s i + t2.long ≤ m) → ¬ Ready l s k m := fun h g => h (by
        have := g.2 i (by rw [hat, e]; simp)
        simpa [hl2] using this)
      simp [hts, tab, hltq, g1, g2]
      refine W_draw mixed (.look 0 (.look 1 (.look 2 (.look 3 (.look 4 (.look 5 (.look 6 (.look 7 (.look 8 (.look 9 (.look 10 (.look 11 (.look 12 (.look 13 (.look 14 (.look 15 (.look 16 (.look 17 (.look 18 .done))))))))))))))))))) (by kernel_rfl) ?_
      by_cases c1 : stt s i < 0
      · have := hno (by omega)
        simp [hts, tab, j1, j2, c1, this]
      by_cases c2 : m < stt s i + t2.long
      · have := hno (by omega)
        simp [hts, tab, j1, j2, k1, k3, c1, hw2, c2, this]
      simp [hts, tab, j1, j2, k1, k3, c1, hw2, c2, hw1]
      refine ih (q ++ [(i : Int)]) _ (by simp [e]) ?_ (by simp [hts])
      intro a ha
      simp at ha
      rcases ha with ha | rfl
      · exact hq a ha
      · simp [hl2]
        omega
  exact key t.after [] _ rfl (by simp) (by simp)
theorem fits_of {l : List Task} {s : List Int} (hg : GoodT l) (hb : ∀ x ∈ s, -1 ≤ x ∧ x ≤ 100000) : Fits (l.zip s) := by
  refine ⟨?_, fun p hp => ?_, fun p hp => ?_⟩
  · have := hg.1
    simp
    omega
  · obtain ⟨t, x⟩ := p
    obtain ⟨i, hi⟩ := List.mem_iff_getElem?.1 (List.of_mem_zip hp).1
    exact ⟨(hg.2 i t hi).1, (hg.2 i t hi).2.1⟩
  · obtain ⟨t, x⟩ := p
    exact hb x (List.of_mem_zip hp).2
theorem unb_le (s : List Int) : unb s ≤ s.length := List.countP_le_length
def LOk (l : List Task) (n : Int) (o : List Int) : Prop := GoodT l ∧ (1 ≤ n ∧ n ≤ 4) ∧ OrderT l.length o
/-- What a list schedule answers. -/
def LAns (l : List Task) (n : Int) (o : List Int) (q : List Int × Int) (H : Hp) (r : AV) (K : Hp) : Prop :=
  Fr H K ∧ ((LOk l n o ∧ ∃ out, r = .tup [out, .int .i64 q.2, .bool true] ∧ Own 1 K out (ints q.1) ∧ Fresh H.length out) ∨ (¬ LOk l n o ∧ r = .tup [.nil, .int .i64 0, .bool false]))
set_option maxRecDepth 100000 in
theorem specList_ok (l : List Task) (n : Int) (o : List Int) (q : List Int × Int) (us : List AV) (v w : AV) (H : Hp) (hm : l.length ≤ 1048576) (hmm : ∀ t ∈ l, t.after.length ≤ 1048576) (hmo : o.length ≤ 1048576) (hq : LOk l n o → Sim l n o 0 (List.replicate l.length (-1), 0) q) (hv : TRow H v l us) (hw : Row 1 H w (ints o)) : T Try.prog 33 [v, .int .i64 n, w] H (LAns l n o q H) := by
  refine T.by tabOk Try.func33 (by kernel_rfl) rfl _ (by simp [Try.f33]) H _ ?_
  have hlen := hv.count 49
  have hlw := hw.len 3
  simp [Try.f33]
  refine (specGood_ok l us v H hm hmm hv).mono fun r K ⟨⟨t, h1, h2⟩, hK⟩ => ?_
  subst h1
  have no : ∀ {K : Hp}, Fr H K → ¬ LOk l n o → LAns l n o q H (.tup [.nil, .int .i64 0, .bool false]) K := fun hK h => ⟨hK, .inr ⟨h, rfl⟩⟩
  cases t with
  | false =>
    simp [tab]
    exact no hK fun h => by simpa using h2.2 h.1
  | true =>
    have hg := h2.1 rfl
    simp [tab]
    refine (l10Units_ok n K).mono fun r K1 ⟨e1, e2⟩ => ?_
    subst e1 e2
    by_cases hn : 1 ≤ n ∧ n ≤ 4
    case neg =>
      simp [tab, hn]
      exact no hK fun h => hn h.2.1
    simp [tab, hn, hlen]
    refine (l10Order_ok l.length o w K1 hm hmo (hw.fr hK)).mono fun r K2 ⟨⟨t, e1, e2⟩, e3⟩ => ?_
    subst e1 e3
    cases t with
    | false =>
      simp [tab]
      exact no hK fun h => by simpa using e2.2 h.2.2
    | true =>
      have ho := e2.1 rfl
      have hl12 := hg.1
      have hsim := hq ⟨hg, hn, ho⟩
      simp [tab, hlen]
      refine W_loop _ fun I hI => ?_
      have key : ∀ (j i : Nat) (ts : TS) (K : Hp) (out : AV), i + j = l.length → Fr H K → Fresh H.length out → Own 1 K out (ints (List.replicate i (-1))) → (ts 0 = v ∧ ts 1 = .int .i64 n ∧ ts 2 = w ∧ ts 9 = out ∧ ts 31 = .int .i64 l.length ∧ ts 32 = .int .i64 i) → I ts K := by
        intro j
        induction j with
        | succ j ih =>
          intro i ts K out e hK hf hout hts
          apply hI
          have hlt : (i : Int) < l.length := by omega
          have hw1 := wrap64 (x := i + 1) (by omega) (by omega)
          obtain ⟨u, K', a1, a2, a3, a4⟩ := (hout.fr (Fr.app K [some ⟨1, true, [.int .i64 (-1)]⟩])).append (bytes := 8) (x := .sl K.length 0 1) (new := [[.int .i64 (-1)]]) (by decide) (by simp [rowOf]) (by simp) (by simp; omega) (by simp; omega)
          simp [hts, tab, hlt, buildSliceA, zerosA, a1, hw1]
          refine ih (i + 1) _ _ u (by omega) (Fr.then (hK.app' _) a3 hf) ?_ ?_ (by simp [hts])
          · intro b hb
            rcases a4 b hb with h | h
            · exact hf b h
            · have := hK.1; simp at h; omega
          · rw [List.replicate_succ', ints_append]
            exact a2
        | zero =>
          intro i ts K out e hK hf hout hts
          apply hI
          obtain rfl : i = l.length := by omega
          simp [hts, tab, hlen]
          refine W_loop _ fun I2 hI2 => ?_
          have key2 : ∀ (m : Nat) (p q' : List Int × Int), Sim l n o m p q' → q' = q → Inv1 l m p.1 → 0 ≤ p.2 → p.2 ≤ 20000 → ∀ (ts : TS) (K : Hp) (out : AV), Fr H K → Fresh H.length out → Own 1 K out (ints p.1) → (ts 0 = v ∧ ts 1 = .int .i64 n ∧ ts 2 = w ∧ ts 9 = out ∧ ts 10 = .int .i64 p.2 ∧ ts 11 = .int .i64 (unb p.1) ∧ ts 12 = .int .i64 m) → I2 ts K := by
            intro m p q' hs
            induction hs with
            | @stop m p h0 =>
              intro hqq hinv he0 he1 ts K out hK hf hout hts
              apply hI2
              subst hqq
              simp [hts, tab, h0]
              exact ⟨hK, .inl ⟨⟨hg, hn, ho⟩, out, rfl, hout, hf⟩⟩
            | @go m p q' hm1 hu hs ih2 =>
              intro hqq hinv he0 he1 ts K out hK hf hout hts
              apply hI2
              have hu' : (0 : Int) < unb p.1 := by omega
              simp [hts, tab, hu, hlw]
              refine W_loop _ fun I3 hI3 => ?_
              have key3 : ∀ (r o1 : List Int) (p' : List Int × Int) (ts : TS) (K : Hp) (out : AV), o = o1 ++ r → pass l n m r p' = pass l n m o p → Inv1 l ((m : Int) + 1) p'.1 → 0 ≤ p'.2 → p'.2 ≤ 20000 → Fr H K → Fresh H.length out → Own 1 K out (ints p'.1) → (ts 0 = v ∧ ts 1 = .int .i64 n ∧ ts 2 = w ∧ ts 9 = out ∧ ts 10 = .int .i64 p'.2 ∧ ts 11 = .int .i64 (unb p'.1) ∧ ts 12 = .int .i64 m ∧ ts 44 = w ∧ ts 45 = .int .i64 o.length ∧ ts 46 = .int .i64 o1.length) → I3 ts K := by
                intro r
                induction r with
                | nil =>
                  intro o1 p' ts K out eo ep hinv he0 he1 hK hf hout hts
                  apply hI3
                  simp at eo
                  subst eo
                  have ep : p' = pass l n m o p := ep
                  subst ep
                  have hw1 := wrap64 (x := m + 1) (by omega) (by omega)
                  simp [hts, tab, hw1]
                  exact ih2 hqq (by exact_mod_cast hinv) he0 he1 _ _ out hK hf hout (by simp [hts])
                | cons k r ih3 =>
                  intro o1 p' ts K out eo ep hinv he0 he1 hK hf hout hts
                  apply hI3
                  have hk := ho.2.1 k (by simp [eo])
                  obtain ⟨i, rfl⟩ := Int.eq_ofNat_of_zero_le hk.1
                  have hil : i < l.length := by omega
                  have hlt : (o1.length : Int) < o.length := by simp [eo]; omega
                  have hsl := hinv.len
                  have hbs : ∀ x ∈ p'.1, -1 ≤ x ∧ x ≤ 100000 := fun x hx => ⟨hinv.lo x hx, by have := hinv.hi x hx; omega⟩
                  obtain ⟨b1, c1, _, e1, e2⟩ := Row.get1 hw (tab := tab) (e := 3) (ety := tI) rfl rfl rfl (i := o1.length) (a := (i : Int)) (by simp [eo]) .i64
                  obtain ⟨t, ht, hlg, _⟩ := lng_get hil
                  obtain ⟨b2, c2, u, _, f1, _, f3, _⟩ := hv.get (e := 49) rfl ht
                  have hlb := lng_le hg i
                  have hw1 := wrap64 (x := o1.length + 1) (by omega) (by omega)
                  have ep : pass l n m r (stepS l n m p' i) = pass l n m o p := ep
                  have hstep := hinv.step (l := l) (n := n) (m := m) (by omega) (i : Int)
                  simp (maxDischargeDepth := 9) [hts, tab, hlt, hK.index, hK.load, e1, e2]
                  refine (l10Running_ok (l.zip p'.1) us v out m K (fits_of hg hbs) (by omega) (by omega) (by rw [fst_zip hsl]; exact hv.fr hK) (by rw [snd_zip hsl]; exact hout.row)).mono fun y K' ⟨y1, y2⟩ => ?_
                  subst y1 y2
                  by_cases d1 : (ons (l.zip p'.1) m : Int) < n
                  case neg =>
                    have hc : ¬ Can l n p'.1 i m := fun h => d1 h.1
                    have hst : stepS l n m p' i = p' := by simp only [stepS, Int.toNat_natCast, if_neg hc]
                    simp [hts, tab, d1, hw1]
                    exact ih3 (o1 ++ [(i : Int)]) p' _ _ out (by simp [eo]) (by rw [hst] at ep; exact ep) hinv he0 he1 hK hf hout (by simp [hts])
                  simp [hts, tab, d1]
                  refine (l10Ready_ok l p'.1 us v out i m K' hg hmm hsl hil (by omega) (by omega) hbs (hv.fr hK) hout.row).mono fun y K' ⟨y1, y2⟩ => ?_
                  subst y1 y2
                  by_cases d2 : Ready l p'.1 i m
                  case neg =>
                    have hc : ¬ Can l n p'.1 i m := fun h => d2 h.2
                    have hst : stepS l n m p' i = p' := by simp only [stepS, Int.toNat_natCast, if_neg hc]
                    simp [hts, tab, d2, hw1]
                    exact ih3 (o1 ++ [(i : Int)]) p' _ _ out (by simp [eo]) (by rw [hst] at ep; exact ep) hinv he0 he1 hK hf hout (by simp [hts])
                  have hc : Can l n p'.1 i m := ⟨d1, d2⟩
                  have hst : stepS l n m p' i = (p'.1.set i m, max p'.2 (m + lng l i)) := by simp only [stepS, Int.toNat_natCast, if_pos hc]
                  rw [hst] at ep hstep
                  obtain ⟨x, hx, hx0⟩ := hc.at
                  have hun := unb_set hx hx0 (by omega : (0 : Int) ≤ m)
                  obtain ⟨b', hb', g1, g2⟩ := hout.store (tab := tab) (e := 3) (ety := tI) rfl (i := i) (c := [.int .i64 x]) (ints_get hx) .i64
                  obtain ⟨K2, g3, g4, g5, g6⟩ := g2 tI 0 (.int .i64 m) rfl rfl (by decide)
                  have e : (ints p'.1).set i (over [.int .i64 x] 0 [.int .i64 m]) = ints (p'.1.set i m) := by simp [ints, List.map_set]
                  simp only [cells_int, e] at g4
                  have hul := unb_le p'.1
                  have hw2 := wrap64 (x := (unb p'.1 : Int) - 1) (by omega) (by omega)
                  have hw3 := wrap64 (x := m + t.long) (by omega) (by omega)
                  have hK2 : Fr H K2 := Fr.then hK g5 hf
                  simp at g1 g3
                  by_cases d3 : p'.2 < m + t.long
                  · simp (maxDischargeDepth := 9) [hts, tab, d2, hw1, hw2, hw3, g1, g3, hK2.index, hK2.load, f1, f3, d3]
                    exact ih3 (o1 ++ [(i : Int)]) _ _ _ out (by simp [eo]) ep hstep (by simp only; omega) (by simp only; omega) hK2 hf g4 (by simp [hts]; omega)
                  · simp (maxDischargeDepth := 9) [hts, tab, d2, hw1, hw2, hw3, g1, g3, hK2.index, hK2.load, f1, f3, d3]
                    exact ih3 (o1 ++ [(i : Int)]) _ _ _ out (by simp [eo]) ep hstep (by simp only; omega) (by simp only; omega) hK2 hf g4 (by simp [hts]; omega)
              exact key3 o [] p _ _ out rfl rfl ⟨hinv.len, hinv.lo, fun x hx => by have := hinv.hi x hx; omega⟩ he0 he1 hK hf hout (by simp [hts])
          have h0 : unb (List.replicate l.length (-1)) = l.length := by simp [unb, List.countP_replicate]
          exact key2 0 _ q hsim rfl ⟨by simp, fun x hx => by rw [List.eq_of_mem_replicate hx]; omega, fun x hx => by rw [List.eq_of_mem_replicate hx]; omega⟩ (by simp) (by simp) _ _ out hK hf hout (by simp [hts, h0])
      exact key l.length 0 _ _ .nil (by omega) hK (Fresh.nil _) (Own.nil 1 _) (by simp)
end Go.Proofs.Ytcadaadoodpnmaa.Am
