/- The law FnFits. No condition. -/
import Derived.Test.YtmmohcledhenfaaLTreeDraw
namespace Go.Proofs.Ytmmohcledhenfaa.Am
open Go Go.RowKit
set_option linter.unusedSimpArgs false
set_option linter.unusedVariables false

theorem sameInts_ok (L : List Int) (v v' : AV) (H : Hp) (hm : L.length ≤ 1048576) (hv : Row 1 H v (ints L)) (hv' : Row 1 H v' (ints L)) : T Try.prog 36 [v, v'] H (fun r K => r = .bool true ∧ K = H) := by
  refine T.by tabOk Try.func36 (by kernel_rfl) rfl _ (by simp [Try.f36]) H _ ?_
  have hlen := hv.len 3
  have hlen' := hv'.len 3
  simp only [ints_length] at hlen hlen'
  simp [Try.f36, tab, hlen, hlen']
  refine W_loop _ fun I hI => ?_
  have key : ∀ (r p : List Int) (ts : TS), L = p ++ r → (ts 0 = v ∧ ts 1 = v' ∧ ts 12 = .int .i64 L.length ∧ ts 13 = .int .i64 p.length) → I ts H := by
    intro r
    induction r with
    | nil =>
      intro p ts e hts
      apply hI
      simp at e
      subst e
      simp [hts, tab]
    | cons a r ih =>
      intro p ts e hts
      apply hI
      have hlt : (p.length : Int) < L.length := by simp [e]; omega
      obtain ⟨b, q, _, e1, e2⟩ := Row.get1 hv (tab := tab) (e := 3) (ety := tI) rfl rfl rfl (i := p.length) (a := a) (by simp [e]) .i64
      obtain ⟨b', q', _, e1', e2'⟩ := Row.get1 hv' (tab := tab) (e := 3) (ety := tI) rfl rfl rfl (i := p.length) (a := a) (by simp [e]) .i64
      have hw := wrap64 (x := (p.length : Int) + 1) (by omega) (by omega)
      simp [hts, tab, hlt]
      refine W_draw mixed (.look 0 (.look 1 (.look 2 (.look 3 (.look 4 (.look 5 (.look 6 (.look 7 (.look 8 .done))))))))) (by kernel_rfl) ?_
      simp [hts, tab, e1, e2, e1', e2', hw]
      exact ih (p ++ [a]) _ (by simp [e]) (by simp [hts])
  exact key L [] _ rfl (by simp)
theorem fits3_few (t : List Int) (i : Int) (ks : List Int) (c : Int) : (fits3 t i ks c).2.1.length ≤ 1048576 := by
  unfold fits3
  split
  · rename_i h
    simp only
    cases hf : fitsF t i.toNat ks with
    | none => simp [fitsR]
    | some l =>
      have := fitsF_len t ks _ l hf
      have := h.2.2.2.1
      simp [fitsR]
      omega
  · simp
theorem fits3_no {t : List Int} {i : Int} {ks : List Int} {c : Int} (h : (fits3 t i ks c).2.2 = false ∨ (fits3 t i ks c).1 = false) : (fits3 t i ks c).2.1 = [] := by
  unfold fits3 at h ⊢
  split at h
  · rename_i hg
    rw [if_pos hg]
    simp only at h ⊢
    cases hf : fitsF t i.toNat ks with
    | none => simp [fitsR]
    | some l => rw [hf] at h; simp [fitsR] at h
  · rename_i hg
    rw [if_neg hg]
theorem fits3_yes {t : List Int} {i : Int} {ks : List Int} {c : Int} (h2 : (fits3 t i ks c).2.2 = true) (h1 : (fits3 t i ks c).1 = true) : (GT t ∧ (0 ≤ i ∧ i < (t.length : Int)) ∧ GP ks c) ∧ fitsF t i.toNat ks = some (fits3 t i ks c).2.1 := by
  unfold fits3 at h1 h2 ⊢
  split at h2
  · rename_i hg
    rw [if_pos hg] at h1
    rw [if_pos hg]
    refine ⟨hg, ?_⟩
    simp only at h1 ⊢
    cases hf : fitsF t i.toNat ks with
    | none => rw [hf] at h1; simp [fitsR] at h1
    | some l => simp [fitsR]
  · cases h2
set_option maxHeartbeats 1000000 in
set_option maxRecDepth 100000 in
theorem fnFits_law (v : AV) (bs : List Int) (H : Hp) (hv : Row 1 H v (bytesA bs)) (hb : ∀ y ∈ bs, 0 ≤ y ∧ y ≤ 255) (hbl : bs.length ≤ 140737488355328) : T Try.prog 8 [v] H (fun r K => r = .bool true) := by
  refine T.by tabOk Try.func8 (by kernel_rfl) rfl _ (by simp [Try.f8]) H _ ?_
  have hlv := hv.len 5
  have hlv : lenA (.slice 5) v = some (.int .i64 bs.length) := by simpa [bytesA] using hlv
  by_cases hbig : 1048576 < (bs.length : Int)
  · simp [Try.f8, tab, hlv, hbig]
  simp [Try.f8, tab, hlv, hbig]
  refine (drawFits_ok v H ⟨bs, hv, hb, by omega⟩).mono fun r K0 ⟨⟨t, ks, tv, kv, i, c, e1, ht0, htl, hk0, hkl⟩, f0⟩ => ?_
  subst e1
  have kv1 := hk0.one
  have kv2 := cells_of_one kv1
  obtain ⟨K1, hK1, f1⟩ : ∃ K1, K0 ++ [some ⟨2, true, [kv, .int .i64 c]⟩] = K1 ∧ Fr K0 K1 := ⟨_, rfl, Fr.app _ _⟩
  have hb1 : K1[K0.length]? = some (some ⟨2, true, [kv, .int .i64 c]⟩) := by rw [← hK1]; simp
  have q : ∀ K : Hp, Fr K1 K → loadA tP K (.ptr K0.length 0) = some (.agg [kv, .int .i64 c]) := fun K h => by simp [loadA, h.2 _ _ hb1 id]
  have q1 := q K1 (Fr.refl _)
  have ht1 := ht0.fr f1
  have hk1 := hk0.fr f1
  simp [tab, kv1, kv2, storeB, over, hK1, q1]
  refine (implFits_ok t tv i ks c kv K1 (by omega) (by omega) ht1 hk1).mono fun r K2 ⟨u, e1, a1, f2⟩ => ?_
  subst e1
  have q2 := q K2 f2
  simp [tab, q2]
  refine (specFits_ok t tv i ks c kv K2 (by omega) (by omega) (ht1.fr f2) (hk1.fr f2)).mono fun r K3 ⟨u', e1, a2, f3⟩ => ?_
  subst e1
  simp [tab]
  refine (sameInts_ok _ u u' K3 (fits3_few t i ks c) (a1.fr f3).row a2.row).mono fun r K ⟨e1, e2⟩ => ?_
  subst e1 e2
  have hlu := a1.row.len 3
  simp only [ints_length] at hlu
  cases hok : (fits3 t i ks c).2.2 with
  | false =>
    have hn := fits3_no (.inl hok)
    rw [hn] at hlu
    simp [tab, hok, hlu]
  | true =>
  cases hfi : (fits3 t i ks c).1 with
  | false =>
    have hn := fits3_no (.inr hfi)
    rw [hn] at hlu
    simp [tab, hok, hfi, hlu]
  | true =>
  obtain ⟨⟨hT, hi, hP⟩, hfit⟩ := fits3_yes hok hfi
  obtain ⟨j, rfl⟩ : ∃ j : Nat, i = (j : Int) := ⟨i.toNat, by omega⟩
  simp only [Int.toNat_natCast] at hfit
  have a3 := (a1.fr f3).row
  generalize (fits3 t (j : Int) ks c).2.1 = l at *
  have hjl : j < t.length := by omega
  obtain ⟨g1, g2, g3, g4⟩ := fits_tells hT hjl hP hfit
  have F3 := f2.trans f3
  have htK := ht1.fr F3
  have hkK := hk1.fr F3
  have hlt := htK.len 3
  have hlk := hkK.len 3
  simp only [ints_length] at hlt hlk
  have hb3 := F3.2 _ _ hb1 id
  have qk : loadA tL K (.ptr K0.length 0) = some kv := load_at hb3 rfl rfl rfl
  have hkl1 := hP.1
  have hkl2 := hP.2.1
  have htl2 := hT.2.1
  simp [-W_block, tab, hok, hfi, qk, hlk]
  refine W_cut (fun ts K' => K' = K ∧ (ts 3 = tv ∧ ts 4 = .int .i64 j ∧ ts 5 = .ptr K0.length 0 ∧ ts 7 = u ∧ ts 12 = .int .i64 (ks.count 0))) ?_ ?_
  · simp only [W_block]
    refine W_loop _ fun I hI => ?_
    have key : ∀ (r p : List Int) (ts : TS), ks = p ++ r → (ts 3 = tv ∧ ts 4 = .int .i64 j ∧ ts 5 = .ptr K0.length 0 ∧ ts 7 = u ∧ ts 12 = .int .i64 (p.count 0) ∧ ts 66 = kv ∧ ts 67 = .int .i64 ks.length ∧ ts 68 = .int .i64 p.length) → I ts K := by
      intro r
      induction r with
      | nil =>
        intro p ts e hts
        apply hI
        simp at e
        subst e
        simp [hts, tab]
      | cons a r ih =>
        intro p ts e hts
        apply hI
        have hpl : p.length < ks.length := by rw [e]; simp
        have hlt1 : (p.length : Int) < ks.length := by omega
        have hcp : p.count 0 ≤ p.length := List.count_le_length
        have hwp := wrap64 (x := (p.length : Int) + 1) (by omega) (by omega)
        have hwc := wrap64 (x := (p.count 0 : Int) + 1) (by omega) (by omega)
        obtain ⟨b, q, _, e1, e2⟩ := Row.get1 hkK (tab := tab) (e := 3) (ety := tI) rfl rfl rfl (i := p.length) (a := a) (by rw [e]; simp) .i64
        by_cases h0 : a = 0
        · subst h0
          simp [hts, tab, hlt1, e1, e2, hwc, hwp]
          exact ih (p ++ [0]) _ (by simp [e]) (by simp [hts])
        · simp [hts, tab, hlt1, e1, e2, h0, hwp]
          exact ih (p ++ [a]) _ (by simp [e]) (by simp [hts, List.count_append, List.count_cons_of_ne h0])
    exact key ks [] _ rfl (by simp)
  rintro ts K' ⟨rfl, hts⟩
  simp only [post_sq]
  obtain ⟨b1, p1, _, x1, x2⟩ := Row.get1 htK (tab := tab) (e := 3) (ety := tI) rfl rfl rfl (List.getElem?_eq_getElem hjl) .i64
  have hk0' : ks[0]? = some t[j] := by rw [← g2]; exact List.getElem?_eq_getElem hjl
  obtain ⟨b2, p2, _, y1, y2⟩ := Row.get1 hkK (tab := tab) (e := 3) (ety := tI) rfl rfl rfl hk0' .i64
  simp only [Int.natCast_zero] at y1
  rw [← g1] at hts
  simp only [W_seq]
  refine W_draw mixed (.look 0 (.look 1 (.look 2 (.look 3 (.look 4 (.look 5 (.look 6 (.look 7 (.look 8 (.look 9 (.look 10 (.look 11 (.look 12 (.look 13 (.look 14 .done))))))))))))))) (by kernel_rfl) ?_
  simp (maxDischargeDepth := 9) [hts, tab, hlu, x1, x2, qk, y1, y2]
  refine W_loop _ fun I hI => ?_
  have key : ∀ (r p : List Int) (ts : TS), l = p ++ r → (ts 3 = tv ∧ ts 4 = .int .i64 j ∧ ts 7 = u ∧ ts 92 = u ∧ ts 93 = .int .i64 l.length ∧ ts 94 = .int .i64 p.length) → I ts K' := by
    intro r
    induction r with
    | nil =>
      intro p ts e hts
      apply hI
      simp at e
      subst e
      simp [hts, tab]
    | cons a r ih =>
      intro p ts e hts
      apply hI
      have hll : l.length ≤ 1000 := by have : ks.count 0 ≤ ks.length := List.count_le_length; omega
      have hpl : p.length < l.length := by rw [e]; simp
      have hlt1 : (p.length : Int) < l.length := by omega
      have hwp := wrap64 (x := (p.length : Int) + 1) (by omega) (by omega)
      obtain ⟨b, q, _, e1, e2⟩ := Row.get1 a3 (tab := tab) (e := 3) (ety := tI) rfl rfl rfl (i := p.length) (a := a) (by rw [e]; simp) .i64
      obtain ⟨m1, m2⟩ := g3 a (by rw [e]; simp)
      have n1 : ¬ a ≤ (j : Int) := by omega
      have n2 : ¬ (t.length : Int) ≤ a := by omega
      by_cases h0 : p.length = 0
      · have h0' : ¬ 0 < p.length := by omega
        simp (maxDischargeDepth := 9) [hts, tab, hlt1, e1, e2, n1, n2, hlt, h0', hwp]
        exact ih (p ++ [a]) _ (by simp [e]) (by simp [hts])
      · have h0' : 0 < p.length := by omega
        have hpr : (p.length : Int) - 1 = ((p.length - 1 : Nat) : Int) := by omega
        have hwm := wrap64 (x := (p.length : Int) - 1) (by omega) (by omega)
        have hprev : l[p.length - 1]? = some p[p.length - 1] := by rw [e, List.getElem?_append_left (by omega)]; exact List.getElem?_eq_getElem (by omega)
        obtain ⟨b', q', _, e1', e2'⟩ := Row.get1 a3 (tab := tab) (e := 3) (ety := tI) rfl rfl rfl hprev .i64
        rw [← hpr] at e1'
        have hup : p[p.length - 1] < a := by
          rw [e] at g4
          exact (List.pairwise_append.1 g4).2.2 _ (List.getElem_mem _) a (by simp)
        have n3 : ¬ a ≤ p[p.length - 1] := by omega
        simp (maxDischargeDepth := 9) [hts, tab, hlt1, e1, e2, n1, n2, hlt, h0', hwm, e1', e2', n3, hwp]
        exact ih (p ++ [a]) _ (by simp [e]) (by simp [hts])
  exact key l [] _ rfl (by simp [hts])
theorem law_in (H : Hp) (x0 : AV) (h0 : SSl 1 1 (SInt .u8) H [x0]) : T Try.prog 8 [x0] H (fun r K => r = .bool true) := by
  obtain ⟨bs, a1, a2, a3⟩ := bytes_open H x0 h0
  exact fnFits_law x0 bs H a1 a2 a3
end Go.Proofs.Ytmmohcledhenfaa.Am
