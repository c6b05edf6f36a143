/- Where a pattern fits: both ways walked. No condition. -/
import Derived.Test.YtmmohcledhenfaaLTreePats
import Derived.Test.YtmmohcledhenfaaLCur
namespace Go.Proofs.Ytmmohcledhenfaa.Am
open Go Go.RowKit
set_option linter.unusedSimpArgs false
set_option linter.unusedVariables false

def FitAt (R : List Int × Bool) (H : Hp) (r : AV) (K : Hp) : Prop := ∃ u, r = .tup [u, .bool R.2] ∧ Own 1 K u (ints R.1) ∧ Fresh H.length u ∧ Fr H K
theorem endS_at {t : List Int} {i c : Nat} (h : scan false (t.drop i) 1 = some c) : endS false t i = ((i + c : Nat) : Int) := by
  unfold endS
  rw [h]
theorem endI_at {t : List Int} {i c : Nat} (h : scan false (t.drop i) 1 = some c) : endI t i = ((i + c : Nat) : Int) := by
  unfold endI
  rw [((scan_both _ 1 c).1 h).1]
set_option maxHeartbeats 1000000 in
set_option maxRecDepth 100000 in
theorem l9Fits_ok (t : List Int) (tv : AV) (i : Nat) (ks : List Int) (c : Int) (kv : AV) (H : Hp) (ht : GT t) (hi : i < t.length) (hK : GP ks c) (hv : Row 1 H tv (ints t)) (hk : Row 1 H kv (ints ks)) : T Try.prog 56 [tv, .int .i64 i, .agg [kv, .int .i64 c]] H (FitAt (fitsR [] (fitsF t i ks)) H) := by
  refine T.by tabOk Try.func56 (by kernel_rfl) rfl _ (by simp [Try.f56]) H _ ?_
  have hlt := hv.len 3
  have hlk := hk.len 3
  simp only [ints_length] at hlt hlk
  have ht40 := ht.2.1
  have hk10 := hK.2.1
  have hv1 := hk.one
  have hv2 := cells_of_one hv1
  obtain ⟨H1, hH1, f1⟩ : ∃ K, H ++ [some ⟨2, true, [kv, .int .i64 c]⟩] = K ∧ Fr H K := ⟨_, rfl, Fr.app _ _⟩
  have hb1 : H1[H.length]? = some (some ⟨2, true, [kv, .int .i64 c]⟩) := by rw [← hH1]; simp
  have hb := hb1
  have q0 : loadA tL H1 (.ptr H.length 0) = some kv := load_at hb rfl rfl rfl
  obtain ⟨c1, h1⟩ := scan_at t ht.2.2 i hi
  simp [Try.f56, tab, hv1, hv2, over, hH1, q0, hlk]
  refine W_loop _ fun I hI => ?_
  have key : ∀ (r p : List Int) (j n c : Nat) (hs : List Int) (ts : TS) (K : Hp) (u : AV), ks = p ++ r → j ≤ t.length → scan true r n = some r.length → scan false (t.drop j) n = some c → hs.length ≤ p.length → fitsR hs (fitsF t j r) = fitsR [] (fitsF t i ks) → Own 1 K u (ints hs) → Fresh H.length u → Fr H K → (ts 0 = tv ∧ ts 1 = .int .i64 j ∧ ts 8 = u ∧ ts 12 = kv ∧ ts 13 = .int .i64 ks.length ∧ ts 14 = .int .i64 p.length) → I ts K := by
    intro r
    induction r with
    | nil =>
      intro p j n c hs ts K u e hj s1 s2 hh hres ho hf hF hts
      apply hI
      simp at e
      subst e
      rw [← hres]
      simp [hts, tab, fitsF, fitsR]
      exact ⟨u, rfl, by simpa using ho, hf, hF⟩
    | cons a r ih =>
      intro p j n c hs ts K u e hj s1 s2 hh hres ho hf hF hts
      apply hI
      have hpl : p.length < ks.length := by rw [e]; simp
      have hlt1 : (p.length : Int) < ks.length := by omega
      have hwp := wrap64 (x := (p.length : Int) + 1) (by omega) (by omega)
      obtain ⟨b, q, _, e1, e2⟩ := Row.get1 (hk.fr hF) (tab := tab) (e := 3) (ety := tI) rfl rfl rfl (i := p.length) (a := a) (by rw [e]; simp) .i64
      cases n with
      | zero => simp [scan] at s1
      | succ n =>
        have hjl : j < t.length := by
          have h3 := scan_pos false _ n c s2
          have h4 := scan_le false _ _ c s2
          simp at h4
          omega
        have hjl' : (j : Int) < t.length := by omega
        have hjl'' : ¬ (t.length : Int) ≤ j := by omega
        have hwj := wrap64 (x := (j : Int) + 1) (by omega) (by omega)
        simp only [List.length_cons, scan] at s1
        split at s1
        · cases s1
        rename_i hg
        obtain ⟨d, h3, h4⟩ := Option.map_eq_some_iff.1 s1
        have hd : d = r.length := by simpa using h4
        subst hd
        by_cases h0 : a = 0
        · subst h0
          have h5 : scan false (t.drop j) (1 + n) = some c := by rw [Nat.add_comm]; exact s2
          obtain ⟨c1, c2, h6, h7, _⟩ := scan_split false _ 1 n c h5
          have h8 := scan_le false _ _ c1 h6
          simp at h8
          obtain ⟨u', K', a1, a2, a3, a4⟩ := ho.push (j : Int) (by omega)
          have har : ar 0 = 0 := rfl
          rw [har] at h3
          have hf' : fitsF t j (0 :: r) = (fitsF t (j + c1) r).map ((j : Int) :: ·) := by
            simp only [fitsF]
            rw [if_pos trivial, h6]
          have hF' : Fr H K' := Fr.then hF a3 hf
          simp (maxDischargeDepth := 9) [hts, tab, hlt1, e1, e2, buildSliceA, zerosA, fillA, over, a1]
          refine (l9End_ok false t j tv K' (by omega) hj (hv.fr hF')).mono fun x K2 ⟨x1, x2⟩ => ?_
          rw [endS_at h6] at x1
          subst x1 x2
          simp [hts, tab, hwp]
          refine ih (p ++ [0]) (j + c1) n c2 (hs ++ [(j : Int)]) _ K2 u' (by simp [e]) (by omega) (by simpa using h3) (by rw [← List.drop_drop]; exact h7) (by simp; omega) ?_ a2 (fun b hb => (a4 b hb).elim (hf b) fun h => Nat.le_trans hF.1 h) hF' (by simp [hts])
          rw [← hres, hf']
          cases fitsF t (j + c1) r <;> simp [fitsR]
        · obtain ⟨b', q', _, y1, y2⟩ := Row.get1 (hv.fr hF) (tab := tab) (e := 3) (ety := tI) rfl rfl rfl (List.getElem?_eq_getElem hjl) .i64
          by_cases h9 : t[j] = a
          · have hsc : scan false (t.drop (j + 1)) (n + (ar a).toNat) = some (c - 1) := by
              rw [List.drop_eq_getElem_cons hjl, h9] at s2
              simp only [scan] at s2
              split at s2
              · cases s2
              · obtain ⟨d, h9, h10⟩ := Option.map_eq_some_iff.1 s2
                rw [h9, ← h10]
                simp
            have hf' : fitsF t j (a :: r) = fitsF t (j + 1) r := by
              simp only [fitsF]
              rw [if_neg h0, if_pos (by rw [List.getElem?_eq_getElem hjl, h9])]
            rw [h9] at y2
            simp (maxDischargeDepth := 9) [hts, tab, hlt1, e1, e2, h0, hlt, hjl', hjl'', y1, y2, hwj, hwp]
            exact ih (p ++ [a]) (j + 1) (n + (ar a).toNat) (c - 1) hs _ K u (by simp [e]) (by omega) h3 hsc (by simp; omega) (by rw [← hres, hf']) ho hf hF (by simp [hts])
          · have hf' : fitsF t j (a :: r) = none := by
              simp only [fitsF]
              rw [if_neg h0, if_neg (by rw [List.getElem?_eq_getElem hjl]; simpa using h9)]
            rw [← hres, hf']
            simp (maxDischargeDepth := 9) [hts, tab, hlt1, e1, e2, h0, hlt, hjl', hjl'', y1, y2, h9, fitsR]
            exact ⟨.nil, rfl, by simpa [ints] using Own.nil 1 K, Fresh.nil _, hF⟩
  exact key ks [] i 1 c1 [] _ H1 .nil rfl (by omega) hK.2.2.2.1 h1 (by simp) rfl (by simpa [ints] using Own.nil 1 H1) (Fresh.nil _) f1 (by simp)
set_option maxHeartbeats 1000000 in
set_option maxRecDepth 100000 in
theorem fits_ok (t : List Int) (tv : AV) (i : Nat) (ks : List Int) (c : Int) (kv : AV) (H : Hp) (ht : GT t) (hi : i < t.length) (hK : GP ks c) (hv : Row 1 H tv (ints t)) (hk : Row 1 H kv (ints ks)) : T Try.prog 59 [tv, .int .i64 i, .agg [kv, .int .i64 c]] H (FitAt (fitsR [] (fitsF t i ks)) H) := by
  refine T.by tabOk Try.func59 (by kernel_rfl) rfl _ (by simp [Try.f59]) H _ ?_
  have hlt := hv.len 3
  have hlk := hk.len 3
  simp only [ints_length] at hlt hlk
  have ht40 := ht.2.1
  have hk10 := hK.2.1
  have hv1 := hk.one
  have hv2 := cells_of_one hv1
  obtain ⟨H1, hH1, f1⟩ : ∃ K, H ++ [some ⟨2, true, [kv, .int .i64 c]⟩] = K ∧ Fr H K := ⟨_, rfl, Fr.app _ _⟩
  have hb1 : H1[H.length]? = some (some ⟨2, true, [kv, .int .i64 c]⟩) := by rw [← hH1]; simp
  obtain ⟨H2, hH2, f2⟩ : ∃ K, H1 ++ [some ⟨1, true, []⟩] = K ∧ Fr H1 K := ⟨_, rfl, Fr.app _ _⟩
  have hb := f2.2 _ _ hb1 id
  have ownT : Own 1 H2 (.sl H1.length 0 0) (ints []) := by
    have := Own.new (sz := 1) (K := H1) (es := []) (by simp)
    simp at this
    rw [hH2] at this
    simpa [ints] using this
  have q0 : loadA tL H2 (.ptr H.length 0) = some kv := load_at hb rfl rfl rfl
  obtain ⟨c1, h1⟩ := scan_at t ht.2.2 i hi
  simp [Try.f59, tab, hv1, hv2, over, hH1, buildSliceA, zerosA, fillA, hH2, q0, hlk]
  refine W_loop _ fun I hI => ?_
  have key : ∀ (r p : List Int) (j n c : Nat) (hs : List Int) (ts : TS) (K : Hp) (u : AV), ks = p ++ r → j ≤ t.length → scan true r n = some r.length → scan false (t.drop j) n = some c → hs.length ≤ p.length → fitsR hs (fitsF t j r) = fitsR [] (fitsF t i ks) → Own 1 K u (ints hs) → Fresh H.length u → Fr H K → (ts 0 = tv ∧ ts 1 = .int .i64 j ∧ ts 8 = u ∧ ts 13 = kv ∧ ts 14 = .int .i64 ks.length ∧ ts 15 = .int .i64 p.length) → I ts K := by
    intro r
    induction r with
    | nil =>
      intro p j n c hs ts K u e hj s1 s2 hh hres ho hf hF hts
      apply hI
      simp at e
      subst e
      rw [← hres]
      simp [hts, tab, fitsF, fitsR]
      exact ⟨u, rfl, by simpa using ho, hf, hF⟩
    | cons a r ih =>
      intro p j n c hs ts K u e hj s1 s2 hh hres ho hf hF hts
      apply hI
      have hpl : p.length < ks.length := by rw [e]; simp
      have hlt1 : (p.length : Int) < ks.length := by omega
      have hwp := wrap64 (x := (p.length : Int) + 1) (by omega) (by omega)
      obtain ⟨b, q, _, e1, e2⟩ := Row.get1 (hk.fr hF) (tab := tab) (e := 3) (ety := tI) rfl rfl rfl (i := p.length) (a := a) (by rw [e]; simp) .i64
      cases n with
      | zero => simp [scan] at s1
      | succ n =>
        have hjl : j < t.length := by
          have h3 := scan_pos false _ n c s2
          have h4 := scan_le false _ _ c s2
          simp at h4
          omega
        have hjl' : (j : Int) < t.length := by omega
        have hjl'' : ¬ (t.length : Int) ≤ j := by omega
        have hwj := wrap64 (x := (j : Int) + 1) (by omega) (by omega)
        simp only [List.length_cons, scan] at s1
        split at s1
        · cases s1
        rename_i hg
        obtain ⟨d, h3, h4⟩ := Option.map_eq_some_iff.1 s1
        have hd : d = r.length := by simpa using h4
        subst hd
        by_cases h0 : a = 0
        · subst h0
          have h5 : scan false (t.drop j) (1 + n) = some c := by rw [Nat.add_comm]; exact s2
          obtain ⟨c1, c2, h6, h7, _⟩ := scan_split false _ 1 n c h5
          have h8 := scan_le false _ _ c1 h6
          simp at h8
          obtain ⟨u', K', a1, a2, a3, a4⟩ := ho.push (j : Int) (by omega)
          have har : ar 0 = 0 := rfl
          rw [har] at h3
          have hf' : fitsF t j (0 :: r) = (fitsF t (j + c1) r).map ((j : Int) :: ·) := by
            simp only [fitsF]
            rw [if_pos trivial, h6]
          have hF' : Fr H K' := Fr.then hF a3 hf
          simp (maxDischargeDepth := 9) [hts, tab, hlt1, e1, e2, buildSliceA, zerosA, fillA, over, a1]
          refine (endOf_ok t j tv K' (by omega) hj (hv.fr hF')).mono fun x K2 ⟨x1, x2⟩ => ?_
          rw [endI_at h6] at x1
          subst x1 x2
          simp [hts, tab, hwp]
          refine ih (p ++ [0]) (j + c1) n c2 (hs ++ [(j : Int)]) _ K2 u' (by simp [e]) (by omega) (by simpa using h3) (by rw [← List.drop_drop]; exact h7) (by simp; omega) ?_ a2 (fun b hb => (a4 b hb).elim (hf b) fun h => Nat.le_trans hF.1 h) hF' (by simp [hts])
          rw [← hres, hf']
          cases fitsF t (j + c1) r <;> simp [fitsR]
        · obtain ⟨b', q', _, y1, y2⟩ := Row.get1 (hv.fr hF) (tab := tab) (e := 3) (ety := tI) rfl rfl rfl (List.getElem?_eq_getElem hjl) .i64
          by_cases h9 : t[j] = a
          · have hsc : scan false (t.drop (j + 1)) (n + (ar a).toNat) = some (c - 1) := by
              rw [List.drop_eq_getElem_cons hjl, h9] at s2
              simp only [scan] at s2
              split at s2
              · cases s2
              · obtain ⟨d, h9, h10⟩ := Option.map_eq_some_iff.1 s2
                rw [h9, ← h10]
                simp
            have hf' : fitsF t j (a :: r) = fitsF t (j + 1) r := by
              simp only [fitsF]
              rw [if_neg h0, if_pos (by rw [List.getElem?_eq_getElem hjl, h9])]
            rw [h9] at y2
            simp (maxDischargeDepth := 9) [hts, tab, hlt1, e1, e2, h0, hlt, hjl', hjl'', y1, y2, hwj, hwp]
            exact ih (p ++ [a]) (j + 1) (n + (ar a).toNat) (c - 1) hs _ K u (by simp [e]) (by omega) h3 hsc (by simp; omega) (by rw [← hres, hf']) ho hf hF (by simp [hts])
          · have hf' : fitsF t j (a :: r) = none := by
              simp only [fitsF]
              rw [if_neg h0, if_neg (by rw [List.getElem?_eq_getElem hjl]; simpa using h9)]
            rw [← hres, hf']
            simp (maxDischargeDepth := 9) [hts, tab, hlt1, e1, e2, h0, hlt, hjl', hjl'', y1, y2, h9, fitsR]
            exact ⟨.nil, rfl, by simpa [ints] using Own.nil 1 K, Fresh.nil _, hF⟩
  exact key ks [] i 1 c1 [] _ H2 (.sl H1.length 0 0) rfl (by omega) hK.2.2.2.1 h1 (by simp) rfl ownT (fun b hb => by cases hb; exact f1.1) (f1.trans f2) (by simp)
noncomputable def fits3 (t : List Int) (i : Int) (ks : List Int) (c : Int) : Bool × List Int × Bool := if GT t ∧ (0 ≤ i ∧ i < (t.length : Int)) ∧ GP ks c then ((fitsR [] (fitsF t i.toNat ks)).2, (fitsR [] (fitsF t i.toNat ks)).1, true) else (false, [], false)
def FitsAt3 (t : List Int) (i : Int) (ks : List Int) (c : Int) (H : Hp) (r : AV) (K : Hp) : Prop := ∃ u, r = .tup [.bool (fits3 t i ks c).1, u, .bool (fits3 t i ks c).2.2] ∧ Own 1 K u (ints (fits3 t i ks c).2.1) ∧ Fr H K
theorem FitsAt3.no {t : List Int} {i : Int} {ks : List Int} {c : Int} {H K : Hp} (h : ¬ (GT t ∧ (0 ≤ i ∧ i < (t.length : Int)) ∧ GP ks c)) (hK : Fr H K) : FitsAt3 t i ks c H (.tup [.bool false, .nil, .bool false]) K := by
  have e : fits3 t i ks c = (false, [], false) := by unfold fits3; rw [if_neg h]
  unfold FitsAt3
  rw [e]
  exact ⟨.nil, rfl, by simpa [ints] using Own.nil 1 K, hK⟩
theorem specFits_ok (t : List Int) (tv : AV) (i : Int) (ks : List Int) (c : Int) (kv : AV) (H : Hp) (hm : t.length ≤ 1048576) (hmk : ks.length ≤ 1048576) (hv : Row 1 H tv (ints t)) (hk : Row 1 H kv (ints ks)) : T Try.prog 28 [tv, .int .i64 i, .agg [kv, .int .i64 c]] H (FitsAt3 t i ks c H) := by
  refine T.by tabOk Try.func28 (by kernel_rfl) rfl _ (by simp [Try.f28]) H _ ?_
  have hlt := hv.len 3
  simp only [ints_length] at hlt
  have hv1 := hk.one
  have hv2 := cells_of_one hv1
  obtain ⟨H1, hH1, f1⟩ : ∃ K, H ++ [some ⟨2, true, [kv, .int .i64 c]⟩] = K ∧ Fr H K := ⟨_, rfl, Fr.app _ _⟩
  have hb1 : H1[H.length]? = some (some ⟨2, true, [kv, .int .i64 c]⟩) := by rw [← hH1]; simp
  have q1 : loadA tP H1 (.ptr H.length 0) = some (.agg [kv, .int .i64 c]) := by simp [loadA, hb1]
  simp [Try.f28, tab, hv1, hv2, over, hH1]
  refine (specTree_ok t tv H1 hm (hv.fr f1)).mono fun x K ⟨x1, x2⟩ => ?_
  subst x1 x2
  by_cases h1 : GT t
  case neg =>
    have hr := FitsAt3.no (c := c) (ks := ks) (i := i) (t := t) (fun h => h1 h.1) f1
    simp [tab, h1]
    exact hr
  by_cases h2 : 0 ≤ i ∧ i < (t.length : Int)
  case neg =>
    have hr := FitsAt3.no (c := c) (ks := ks) (i := i) (t := t) (fun h => h2 h.2.1) f1
    by_cases h4 : i < 0
    · simp [tab, h1, h4]
      exact hr
    · have h5 : (t.length : Int) ≤ i := by omega
      simp [tab, h1, h4, hlt, h5]
      exact hr
  have h4 : ¬ i < 0 := by omega
  have h5 : ¬ (t.length : Int) ≤ i := by omega
  simp [tab, h1, h4, hlt, h5, q1]
  refine (specPat_ok ks c kv K hmk (hk.fr f1)).mono fun x K1 ⟨x1, x2⟩ => ?_
  subst x1
  by_cases h3 : GP ks c
  case neg =>
    have hr := FitsAt3.no (c := c) (ks := ks) (i := i) (t := t) (fun h => h3 h.2.2) (f1.trans x2)
    simp [tab, h3]
    exact hr
  have q2 : loadA tP K1 (.ptr H.length 0) = some (.agg [kv, .int .i64 c]) := by simp [loadA, x2.2 _ _ hb1 id]
  simp [tab, h3, q2]
  obtain ⟨j, rfl⟩ : ∃ j : Nat, i = (j : Int) := ⟨i.toNat, by omega⟩
  refine (l9Fits_ok t tv j ks c kv K1 h1 (by omega) h3 (hv.fr (f1.trans x2)) (hk.fr (f1.trans x2))).mono fun x K2 ⟨u, y1, y2, y3, y4⟩ => ?_
  subst y1
  simp [tab]
  have hres : fits3 t (j : Int) ks c = ((fitsR [] (fitsF t j ks)).2, (fitsR [] (fitsF t j ks)).1, true) := by
    unfold fits3
    rw [if_pos ⟨h1, h2, h3⟩]
    rfl
  unfold FitsAt3
  rw [hres]
  exact ⟨u, rfl, y2, (f1.trans x2).trans y4⟩
theorem implFits_ok (t : List Int) (tv : AV) (i : Int) (ks : List Int) (c : Int) (kv : AV) (H : Hp) (hm : t.length ≤ 1048576) (hmk : ks.length ≤ 1048576) (hv : Row 1 H tv (ints t)) (hk : Row 1 H kv (ints ks)) : T Try.prog 30 [tv, .int .i64 i, .agg [kv, .int .i64 c]] H (FitsAt3 t i ks c H) := by
  refine T.by tabOk Try.func30 (by kernel_rfl) rfl _ (by simp [Try.f30]) H _ ?_
  have hlt := hv.len 3
  simp only [ints_length] at hlt
  have hv1 := hk.one
  have hv2 := cells_of_one hv1
  obtain ⟨H1, hH1, f1⟩ : ∃ K, H ++ [some ⟨2, true, [kv, .int .i64 c]⟩] = K ∧ Fr H K := ⟨_, rfl, Fr.app _ _⟩
  have hb1 : H1[H.length]? = some (some ⟨2, true, [kv, .int .i64 c]⟩) := by rw [← hH1]; simp
  have q1 : loadA tP H1 (.ptr H.length 0) = some (.agg [kv, .int .i64 c]) := by simp [loadA, hb1]
  simp [Try.f30, tab, hv1, hv2, over, hH1]
  refine (implTree_ok t tv H1 hm (hv.fr f1)).mono fun x K ⟨x1, x2⟩ => ?_
  subst x1 x2
  by_cases h1 : GT t
  case neg =>
    have hr := FitsAt3.no (c := c) (ks := ks) (i := i) (t := t) (fun h => h1 h.1) f1
    simp [tab, h1]
    exact hr
  have hwl := wrap64 (x := (t.length : Int) - 1) (by omega) (by omega)
  simp [tab, h1, hlt, hwl]
  refine (in_ok i 0 ((t.length : Int) - 1) K).mono fun x K' ⟨x1, x2⟩ => ?_
  rw [x2]
  subst x1
  clear x2
  by_cases h2 : 0 ≤ i ∧ i < (t.length : Int)
  case neg =>
    have hr := FitsAt3.no (c := c) (ks := ks) (i := i) (t := t) (fun h => h2 h.2.1) f1
    have h4 : ¬ (0 ≤ i ∧ i ≤ (t.length : Int) - 1) := by omega
    simp [tab, h4]
    exact hr
  have h4 : 0 ≤ i ∧ i ≤ (t.length : Int) - 1 := by omega
  simp [tab, h4, q1]
  refine (implPat_ok ks c kv K hmk (hk.fr f1)).mono fun x K1 ⟨x1, x2⟩ => ?_
  subst x1
  by_cases h3 : GP ks c
  case neg =>
    have hr := FitsAt3.no (c := c) (ks := ks) (i := i) (t := t) (fun h => h3 h.2.2) (f1.trans x2)
    simp [tab, h3]
    exact hr
  have q2 : loadA tP K1 (.ptr H.length 0) = some (.agg [kv, .int .i64 c]) := by simp [loadA, x2.2 _ _ hb1 id]
  simp [tab, h3, q2]
  obtain ⟨j, rfl⟩ : ∃ j : Nat, i = (j : Int) := ⟨i.toNat, by omega⟩
  refine (fits_ok t tv j ks c kv K1 h1 (by omega) h3 (hv.fr (f1.trans x2)) (hk.fr (f1.trans x2))).mono fun x K2 ⟨u, y1, y2, y3, y4⟩ => ?_
  subst y1
  simp [tab]
  have hres : fits3 t (j : Int) ks c = ((fitsR [] (fitsF t j ks)).2, (fitsR [] (fitsF t j ks)).1, true) := by
    unfold fits3
    rw [if_pos ⟨h1, h2, h3⟩]
    rfl
  unfold FitsAt3
  rw [hres]
  exact ⟨u, rfl, y2, (f1.trans x2).trans y4⟩
end Go.Proofs.Ytmmohcledhenfaa.Am
