/- The laws' own helpers for flows. No condition. -/
import Derived.Test.YtdbnokeegocpbaaLInstrs
import Derived.Test.YtdbnokeegocpbaaLFlowOwn
namespace Go.Proofs.Ytdbnokeegocpbaa.Am
open Go Go.RowKit
set_option linter.unusedSimpArgs false
set_option linter.unusedVariables false

abbrev tKL : Ty := ⟨.struct [(0, 34), (1, 3), (2, 3), (3, 3)], 4, 48, [.nil, .int .i64 0, .int .i64 0, .int .i64 0], false⟩
abbrev tLNL : Ty := ⟨.slice 104, 1, 24, [.nil], false⟩
theorem FRow.getL {K : Hp} {v : AV} {l : List Bk} {us : List AV} (h : FRow K v l us) {e : Nat} (he : tab e = some tKL) {i : Nat} {t : Bk} (hi : l[i]? = some t) :
    ∃ b q u, us[i]? = some u ∧ indexAddrA tab (.slice e) K v (.int .i64 i) = some (.ptr b q) ∧ loadA tKL K (.ptr b q) = some (.agg (cellsB t u)) ∧ Row 5 K u (t.code.map Ins.enc) := by
  have hlt : i < us.length := by rw [h.len]; exact (List.getElem?_eq_some_iff.1 hi).1
  have hu : us[i]? = some us[i] := List.getElem?_eq_getElem hlt
  have hz : (l.zip us)[i]? = some (t, us[i]) := by rw [List.getElem?_zip_eq_some]; exact ⟨hi, hu⟩
  have hr : Row 4 K v ((l.zip us).map fun p => cellsB p.1 p.2) := by
    have := h.row
    rwa [← List.map_uncurry_zip_eq_zipWith] at this
  obtain ⟨b, q, _, h1, h2, -⟩ := Row.get (ety := tKL) hr he hz .i64
  exact ⟨b, q, us[i], hu, h1, h2 rfl, h.inner i t _ hi hu⟩
theorem szInstrSL_ok (l : List Ins) (v : AV) (left : Int) (H : Hp) (h1 : -1 ≤ left) (h2 : left ≤ 1048576) (hm : l.length ≤ 140737488355328) (hv : Row 5 H v (inss l)) : T Try.prog 23 [v, .int .i64 left] H (fun r K => r = .int .i64 (if left < l.length then -1 else left - l.length) ∧ K = H) := by
  refine T.by tabOk Try.func23 (by kernel_rfl) rfl _ (by simp [Try.f23]) H _ ?_
  have hlen := hv.len 104
  have hw := wrap64 (x := left - l.length) (by omega) (by omega)
  by_cases h : left < l.length
  · have h' : left - (l.length : Int) < 0 := by omega
    simp [Try.f23, tab, hlen, hw, h, h']
  · have h' : ¬ left - (l.length : Int) < 0 := by omega
    simp [Try.f23, tab, hlen, hw, h, h']
theorem szBlock_ok (t : Bk) (u : AV) (left : Int) (H : Hp) (h1 : -1 ≤ left) (h2 : left ≤ 1048576) (hm : t.code.length ≤ 140737488355328) (hv : Row 5 H u (inss t.code)) : T Try.prog 75 [.agg (cellsB t u), .int .i64 left] H (fun r K => r = .int .i64 (if left < t.code.length then -1 else left - t.code.length) ∧ Fr H K) := by
  refine T.by tabOk Try.func75 (by kernel_rfl) rfl _ (by simp [Try.f75]) H _ ?_
  simp [Try.f75, tab, cellsB, loadB, hv.one, hv.self]
  refine (szInstrSL_ok t.code u left _ h1 h2 hm (hv.fr (Fr.app H _))).mono fun r K ⟨e1, e2⟩ => ?_
  subst e1 e2
  by_cases h : left < t.code.length
  · simp [h, tab]
    exact Fr.app _ _
  · have h' : ¬ left - (t.code.length : Int) < 0 := by omega
    simp [h, h', tab]
    exact Fr.app _ _
theorem szBlockS_le (l : List Bk) (us : List AV) (v : AV) (H : Hp) (hm : l.length ≤ 140737488355328) (hmm : ∀ t ∈ l, t.code.length ≤ 140737488355328) (hv : FRow H v l us) : T Try.prog 13 [v, .int .i64 1048576] H (fun r K => ∃ z, r = .int .i64 z ∧ Fr H K ∧ (0 ≤ z → l.length ≤ 1048576 ∧ ∀ t ∈ l, t.code.length ≤ 1048576) ∧ -1 ≤ z ∧ z ≤ 1048576) := by
  refine T.by tabOk Try.func13 (by kernel_rfl) rfl _ (by simp [Try.f13]) H _ ?_
  have hlen := hv.count 93
  have hw := wrap64 (x := 1048576 - l.length) (by omega) (by omega)
  by_cases h : 1048576 < l.length
  · have h' : (1048576 : Int) - l.length < 0 := by omega
    simp [Try.f13, tab, hlen, hw, h']
    exact Fr.refl H
  have h' : ¬ (1048576 : Int) - l.length < 0 := by omega
  simp [Try.f13, tab, hlen, hw, h']
  refine W_loop _ fun I hI => ?_
  have key : ∀ (r p : List Bk) (ts : TS) (K : Hp) (left : Int), l = p ++ r → Fr H K → 0 ≤ left → left ≤ 1048576 → (∀ t ∈ p, t.code.length ≤ 1048576) → (ts 0 = v ∧ ts 1 = .int .i64 left ∧ ts 5 = .int .i64 p.length) → I ts K := by
    intro r
    induction r with
    | nil =>
      intro p ts K left hl hK h0 h1 hp hts
      apply hI
      simp at hl
      subst hl
      simp [hts, hlen, tab]
      exact ⟨hK, fun _ => ⟨by omega, hp⟩, by omega, by omega⟩
    | cons a r ih =>
      intro p ts K left hl hK h0 h1 hp hts
      apply hI
      have hlt : (p.length : Int) < l.length := by simp [hl]; omega
      obtain ⟨b, q, u, hu, e1, e2, hr⟩ := hv.getL (e := 93) rfl (i := p.length) (t := a) (by simp [hl])
      simp (maxDischargeDepth := 9) [hts, hlen, tab, hlt, hK.index, hK.load, e1, e2]
      refine (szBlock_ok a u left K (by omega) h1 (hmm a (by simp [hl])) (hr.fr hK)).mono fun x K1 ⟨x1, x2⟩ => ?_
      subst x1
      by_cases hb : left < a.code.length
      · simp [hts, hb, tab]
        exact hK.trans x2
      · have hb' : ¬ left - (a.code.length : Int) < 0 := by omega
        have hw := wrap64 (x := p.length + 1) (by omega) (by omega)
        simp [hts, hb, hb', tab, hw]
        refine ih (p ++ [a]) _ _ (left - a.code.length) (by simp [hl]) (hK.trans x2) (by omega) (by omega) ?_ (by simp [hts])
        intro t ht
        simp at ht
        rcases ht with ht | rfl
        · exact hp t ht
        · omega
  exact key l [] _ _ (1048576 - l.length) rfl (Fr.refl H) (by omega) (by omega) (by simp) (by simp)
theorem szBlockS_ok (l : List Bk) (us : List AV) (v : AV) (H : Hp) (hm : l.length ≤ 140737488355328) (hmm : ∀ t ∈ l, t.code.length ≤ 140737488355328) (hv : FRow H v l us) : T Try.prog 13 [v, .int .i64 1048576] H (fun r K => ∃ z, r = .int .i64 z ∧ Fr H K ∧ (0 ≤ z → l.length ≤ 1048576 ∧ ∀ t ∈ l, t.code.length ≤ 1048576)) := (szBlockS_le l us v H hm hmm hv).mono fun r K ⟨z, h1, h2, h3, _⟩ => ⟨z, h1, h2, h3⟩
theorem toBlock_ok (t : Bk) (u : AV) (H : Hp) (hm : t.code.length ≤ 1048576) (hv : Row 5 H u (inss t.code)) : T Try.prog 77 [.agg (cellsB t u)] H (fun r K => ∃ u', r = .agg (cellsB t u') ∧ Own 5 K u' (inss t.code) ∧ Fresh H.length u' ∧ Fr H K) := by
  refine T.by tabOk Try.func77 (by kernel_rfl) rfl _ (by simp [Try.f77]) H _ ?_
  obtain ⟨K0, hK0, f0⟩ : ∃ K0, H ++ [some ⟨4, true, cellsB t u⟩, some ⟨4, true, [.nil, .int .i64 0, .int .i64 0, .int .i64 0]⟩, some ⟨4, true, [.nil, .int .i64 0, .int .i64 0, .int .i64 0]⟩] = K0 ∧ Fr H K0 := ⟨_, rfl, Fr.app _ _⟩
  have b0 : K0[H.length]? = some (some ⟨4, true, cellsB t u⟩) := by rw [← hK0]; simp
  have b1 : K0[H.length + 1]? = some (some ⟨4, true, [.nil, .int .i64 0, .int .i64 0, .int .i64 0]⟩) := by rw [← hK0]; simp
  have b2 : K0[H.length + 2]? = some (some ⟨4, true, [.nil, .int .i64 0, .int .i64 0, .int .i64 0]⟩) := by rw [← hK0]; simp
  have hK0l : K0.length = H.length + 3 := by rw [← hK0]; simp
  have q0 : loadA tLNL K0 (.ptr H.length 0) = some u := load_at b0 rfl rfl rfl
  simp only [cellsB] at hK0
  simp [Try.f77, tab, cellsB, hv.one, hv.self, hK0, q0]
  refine (toInstrS_ok t.code u K0 hm (hv.fr f0)).mono fun u' K ⟨e1, e2, e3⟩ => ?_
  have hu1 := e1.row.one
  have hu2 := e1.row.self
  have c0 := e3.2 _ _ b0 id
  have c1 := e3.2 _ _ b1 id
  have c2 := e3.2 _ _ b2 id
  obtain ⟨K1, s1, s2, s3, s4⟩ := store_at c2 rfl (ty := tLN) (o := 0) (v := u') (by rw [hu2]; rfl) (by simp [hu2, hu1]) (by simp)
  have d0 := s3.2 _ _ c0 (by omega)
  have q1 : loadA tI K1 (.ptr H.length 1) = some (.int .i64 t.test) := load_at d0 rfl rfl rfl
  obtain ⟨K2, t1, t2, t3, t4⟩ := store_at s2 rfl (ty := tI) (o := 1) (v := .int .i64 t.test) rfl rfl (by simp [over, hu2])
  have d0 := t3.2 _ _ d0 (by omega)
  have q2 : loadA tI K2 (.ptr H.length 2) = some (.int .i64 t.thn) := load_at d0 rfl rfl rfl
  obtain ⟨K3, x1, x2, x3, x4⟩ := store_at t2 rfl (ty := tI) (o := 2) (v := .int .i64 t.thn) rfl rfl (by simp [over, hu2])
  have d0 := x3.2 _ _ d0 (by omega)
  have q3 : loadA tI K3 (.ptr H.length 3) = some (.int .i64 t.els) := load_at d0 rfl rfl rfl
  obtain ⟨K4, y1, y2, y3, y4⟩ := store_at x2 rfl (ty := tI) (o := 3) (v := .int .i64 t.els) rfl rfl (by simp [over, hu2])
  have hl4 : loadA tK K4 (.ptr (H.length + 2) 0) = some (.agg [u', .int .i64 t.test, .int .i64 t.thn, .int .i64 t.els]) := by
    rw [loadA_eq, y2]
    simp [over, hu2]
  have d1 := y3.2 _ _ (x3.2 _ _ (t3.2 _ _ (s3.2 _ _ c1 (by omega)) (by omega)) (by omega)) (by omega)
  obtain ⟨K5, z1, z2, z3, z4⟩ := store_at d1 rfl (ty := tK) (o := 0) (v := .agg [u', .int .i64 t.test, .int .i64 t.thn, .int .i64 t.els]) rfl (by simp [hu1]) (by simp)
  have hl5 : loadA tK K5 (.ptr (H.length + 1) 0) = some (.agg [u', .int .i64 t.test, .int .i64 t.thn, .int .i64 t.els]) := by
    rw [loadA_eq, z2]
    simp [over]
  simp [tab, s1, q1, t1, q2, x1, q3, y1, hl4, z1, hl5]
  have hf : ∀ b, u'.at b → H.length + 3 ≤ b := fun b hb => by have := e2 b hb; omega
  refine ⟨((((e1.keeps s3 ?_).keeps t3 ?_).keeps x3 ?_).keeps y3 ?_).keeps z3 ?_, e2.mono f0.1, Fr.then (Fr.then (Fr.then (Fr.then (Fr.then (f0.trans e3) s3 ?_) t3 ?_) x3 ?_) y3 ?_) z3 ?_⟩
  all_goals first | (intro b hb hx; have := hf b hb; omega) | (intro b hb; omega)
theorem toBlockS_ok (l : List Bk) (ws : List AV) (v : AV) (H : Hp) (hm : l.length ≤ 1048576) (hmm : ∀ t ∈ l, t.code.length ≤ 1048576) (hv : FRow H v l ws) : T Try.prog 15 [v] H (fun r K => (∃ us, FOwn K r l us ∧ ∀ u ∈ us, Fresh H.length u) ∧ Fresh H.length r ∧ Fr H K) := by
  refine T.by tabOk Try.func15 (by kernel_rfl) rfl _ (by simp [Try.f15]) H _ ?_
  have hlen := hv.count 93
  obtain ⟨K0, m1, m2, m3⟩ := make_ok (ety := tK) (K := H) (n := l.length) rfl (by decide) (by simp; omega) (by omega)
  simp [Try.f15, tab, hlen, m1]
  refine W_loop _ fun I hI => ?_
  have key : ∀ (r p : List Bk) (us : List AV) (ts : TS) (K : Hp), l = p ++ r → Fr H K → us.length = p.length → Own 4 K (.sl H.length 0 l.length) (List.zipWith cellsB p us ++ List.replicate r.length tK.zero) →
      (∀ (i : Nat) (t : Bk) (u : AV), p[i]? = some t → us[i]? = some u → Own 5 K u (inss t.code)) → (∀ (i j : Nat) (u u' : AV) (b : Nat), us[i]? = some u → us[j]? = some u' → i ≠ j → u.at b → ¬ u'.at b) → (∀ u ∈ us, Fresh (H.length + 1) u) →
      (ts 0 = v ∧ ts 3 = .sl H.length 0 l.length ∧ ts 4 = .int .i64 p.length) → I ts K := by
    intro r
    induction r with
    | nil =>
      intro p us ts K hl hK hlu ho hin hap hfr hts
      apply hI
      simp at hl
      subst hl
      simp [hts, hlen, tab]
      refine ⟨⟨us, ⟨by simpa using ho, hlu, hin, hap, fun u hu b hb hx => ?_⟩, fun u hu => (hfr u hu).mono (by omega)⟩, fun b hb => by cases hb; exact Nat.le_refl _, hK⟩
      have := hfr u hu b hb
      cases hx
      omega
    | cons a r ih =>
      intro p us ts K hl hK hlu ho hin hap hfr hts
      apply hI
      have hlt : (p.length : Int) < l.length := by simp [hl]; omega
      obtain ⟨b, q, u, hu, e1, e2, hr⟩ := hv.getL (e := 93) rfl (i := p.length) (t := a) (by simp [hl])
      simp (maxDischargeDepth := 9) [hts, hlen, tab, hlt, hK.index, hK.load, e1, e2]
      refine (toBlock_ok a u K (hmm a (by simp [hl])) (hr.fr hK)).mono fun x K1 ⟨u', x1, x2, x3, x4⟩ => ?_
      subst x1
      obtain ⟨b', hb', f1, f2⟩ := (ho.fr x4).store (tab := tab) (e := 67) (ety := tK) rfl (i := p.length) (c := tK.zero) (by rw [List.getElem?_append_right (by simp [hlu])]; simp [hlu]) .i64
      obtain ⟨K2, f3, f4, f5, f6⟩ := f2 tK 0 (.agg (cellsB a u')) rfl (by simp [cellsB, x2.row.one]) (by decide)
      have hw := wrap64 (x := p.length + 1) (by omega) (by omega)
      have hbe : b' = H.length := by simp only [AV.sl.injEq] at hb'; exact hb'.1.symm
      subst hbe
      simp at f1 f3
      simp (maxDischargeDepth := 9) [hts, tab, f1, f3, hw]
      have hKl : H.length + 1 ≤ K.length := by
        have := ho.lt H.length rfl
        omega
      have hne : ∀ u ∈ us, ∀ b, u.at b → ¬ (AV.sl H.length 0 l.length).at b := fun u hu b hb hx => by
        have := hfr u hu b hb
        cases hx
        omega
      have hold : ∀ u ∈ us, ∀ b, u.at b → b < K.length := fun u hu b hb => by
        obtain ⟨i, hi⟩ := List.mem_iff_getElem?.1 hu
        have hil : i < p.length := by rw [← hlu]; exact (List.getElem?_eq_some_iff.1 hi).1
        exact (hin i p[i] u (List.getElem?_eq_getElem hil) hi).lt b hb
      refine ih (p ++ [a]) (us ++ [u']) _ _ (by simp [hl]) (Fr.then (hK.trans x4) f5 (fun b hb => by cases hb; exact Nat.le_refl _)) (by simp [hlu]) ?_ ?_ ?_ ?_ (by simp [hts])
      · have e : (List.zipWith cellsB p us ++ List.replicate (a :: r).length tK.zero).set p.length (over tK.zero 0 (cellsB a u')) = List.zipWith cellsB (p ++ [a]) (us ++ [u']) ++ List.replicate r.length tK.zero := by
          rw [zip_snoc _ _ _ _ hlu, List.set_append_right _ _ (by simp [hlu])]
          simp [hlu, List.replicate_succ, cellsB]
        simp only [AV.cells, e] at f4
        exact f4
      · intro i t w hi hw
        rw [List.getElem?_append] at hi hw
        rw [hlu] at hw
        split at hi
        · rename_i hlt2
          rw [if_pos hlt2] at hw
          exact ((hin i t w hi hw).fr x4).keeps f5 (hne w (List.mem_of_getElem? hw))
        · rename_i hge
          rw [if_neg hge] at hw
          have hz : i - p.length = 0 := by
            have := (List.getElem?_eq_some_iff.1 hi).1
            simp at this
            omega
          rw [hz] at hi hw
          simp at hi hw
          subst hi hw
          exact x2.keeps f5 fun b hb hx => by
            have := x3 b hb
            cases hx
            omega
      · intro i j w w' b hi hj hij hw
        rcases get_snoc hi with hi | ⟨ei, rfl⟩
        · rcases get_snoc hj with hj | ⟨ej, rfl⟩
          · exact hap i j w w' b hi hj hij hw
          · intro hb
            have h1 := x3 b hb
            have h2 := hold w (List.mem_of_getElem? hi) b hw
            omega
        · rcases get_snoc hj with hj | ⟨ej, rfl⟩
          · intro hb
            have h1 := x3 b hw
            have h2 := hold w' (List.mem_of_getElem? hj) b hb
            omega
          · omega
      · intro w hw
        rcases List.mem_append.1 hw with hw | hw
        · exact hfr w hw
        · simp at hw
          subst hw
          exact x3.mono hKl
  refine key l [] [] _ _ rfl m3 rfl ?_ (by simp) (by simp) (by simp) ⟨rfl, rfl, rfl⟩
  simpa using m2
theorem eqBlock_ok (a b : Bk) (u w : AV) (H : Hp) (hm : a.code.length ≤ 1048576) (hu : Row 5 H u (inss a.code)) (hw : Row 5 H w (inss b.code)) : T Try.prog 83 [.agg (cellsB a u), .agg (cellsB b w)] H (fun r K => r = .bool (decide (a = b)) ∧ Fr H K) := by
  refine T.by tabOk Try.func83 (by kernel_rfl) rfl _ (by simp [Try.f83]) H _ ?_
  obtain ⟨K0, hK0, f0⟩ : ∃ K0, H ++ [some ⟨4, true, cellsB a u⟩, some ⟨4, true, cellsB b w⟩] = K0 ∧ Fr H K0 := ⟨_, rfl, Fr.app _ _⟩
  have b0 : K0[H.length]? = some (some ⟨4, true, cellsB a u⟩) := by rw [← hK0]; simp
  have b1 : K0[H.length + 1]? = some (some ⟨4, true, cellsB b w⟩) := by rw [← hK0]; simp
  have q0 : loadA tLN K0 (.ptr H.length 0) = some u := load_at b0 rfl rfl rfl
  have q1 : loadA tLN K0 (.ptr (H.length + 1) 0) = some w := load_at b1 rfl rfl rfl
  simp only [cellsB] at hK0
  simp [Try.f83, tab, cellsB, hu.one, hu.self, hw.one, hw.self, hK0, q0, q1]
  refine (eqInstrS_ok a.code b.code u w K0 hm (hu.fr f0) (hw.fr f0)).mono fun r K ⟨e1, e2⟩ => ?_
  subst e1
  have f2 := f0.trans e2
  have c0 := e2.2 _ _ b0 id
  have c1 := e2.2 _ _ b1 id
  have p1 : loadA tI K (.ptr H.length 1) = some (.int .i64 a.test) := load_at c0 rfl rfl rfl
  have p2 : loadA tI K (.ptr H.length 2) = some (.int .i64 a.thn) := load_at c0 rfl rfl rfl
  have p3 : loadA tI K (.ptr H.length 3) = some (.int .i64 a.els) := load_at c0 rfl rfl rfl
  have r1 : loadA tI K (.ptr (H.length + 1) 1) = some (.int .i64 b.test) := load_at c1 rfl rfl rfl
  have r2 : loadA tI K (.ptr (H.length + 1) 2) = some (.int .i64 b.thn) := load_at c1 rfl rfl rfl
  have r3 : loadA tI K (.ptr (H.length + 1) 3) = some (.int .i64 b.els) := load_at c1 rfl rfl rfl
  obtain ⟨a0, a1, a2, a3⟩ := a
  obtain ⟨b0', b1', b2', b3'⟩ := b
  simp only at p1 p2 p3 r1 r2 r3
  by_cases h0 : a0 = b0'
  case neg =>
    simp [h0, tab]
    exact f2
  by_cases h1 : a1 = b1'
  case neg =>
    simp [h0, h1, tab, p1, r1]
    exact f2
  by_cases h2 : a2 = b2'
  case neg =>
    simp [h0, h1, h2, tab, p1, r1, p2, r2]
    exact f2
  by_cases h3 : a3 = b3' <;> (simp [h0, h1, h2, h3, tab, p1, r1, p2, r2, p3, r3]; exact f2)
theorem eqBlockS_ok (l l' : List Bk) (us us' : List AV) (v v' : AV) (H : Hp) (hm : l.length ≤ 1048576) (hmm : ∀ t ∈ l, t.code.length ≤ 1048576) (hv : FRow H v l us) (hv' : FRow H v' l' us') : T Try.prog 17 [v, v'] H (fun r H' => r = .bool (decide (l = l')) ∧ Fr H H') := by
  refine T.by tabOk Try.func17 (by kernel_rfl) rfl _ (by simp [Try.f17]) H _ ?_
  have hlen := hv.count 67
  have hlen' := hv'.count 67
  by_cases hl : l.length = l'.length
  case neg =>
    have hne : (l.length : Int) ≠ l'.length := by omega
    have hne2 : l ≠ l' := fun e => hl (by rw [e])
    simp [Try.f17, tab, hlen, hlen', hne, hne2]
    exact Fr.refl H
  simp [Try.f17, tab, hlen, hlen', hl]
  refine W_loop _ fun I hI => ?_
  have key : ∀ (r p r' : List Bk) (ts : TS) (K : Hp), l = p ++ r → l' = p ++ r' → Fr H K → (ts 0 = v ∧ ts 1 = v' ∧ ts 5 = .int .i64 p.length) → I ts K := by
    intro r
    induction r with
    | nil =>
      intro p r' ts K e e' hK hts
      apply hI
      obtain _ | ⟨a', r'⟩ := r'
      case cons => simp [e, e'] at hl
      simp at e e'
      subst e e'
      simp [hts, hlen, tab, hK]
    | cons a r ih =>
      intro p r' ts K e e' hK hts
      obtain _ | ⟨a', r'⟩ := r'
      · simp [e, e'] at hl
      apply hI
      have hlt : (p.length : Int) < l.length := by simp [e]; omega
      obtain ⟨b, q, u, hu, e1, e2, hr⟩ := hv.get (e := 67) rfl (i := p.length) (t := a) (by simp [e])
      obtain ⟨b', q', u', hu', e1', e2', hr'⟩ := hv'.get (e := 67) rfl (i := p.length) (t := a') (by simp [e'])
      simp [hts, hlen, tab, hlt]
      refine W_draw mixed (.look 0 (.look 1 (.look 2 (.look 3 (.look 4 (.look 5 (.look 6 (.look 7 (.act 8 [] (.look 9 .done) .stop))))))))) (by kernel_rfl) ?_
      simp (maxDischargeDepth := 9) [hts, hlen, tab, hlt, hK.index, hK.load, e1, e2, e1', e2']
      refine (eqBlock_ok a a' u u' K (hmm a (by simp [e])) (hr.fr hK) (hr'.fr hK)).mono fun x K1 ⟨hx, h1⟩ => ?_
      subst hx
      by_cases ha : a = a'
      · subst ha
        have hw := wrap64 (x := p.length + 1) (by omega) (by omega)
        simp [hts, hw, tab]
        exact ih (p ++ [a]) r' _ _ (by simp [e]) (by simp [e']) (hK.trans h1) (by simp [hts])
      · simp [ha, hts, e, e', tab]
        exact hK.trans h1
  exact key l [] l' _ _ rfl rfl (Fr.refl H) (by simp)
/-! ### marks -/
def Ins.put (y : Ins) : Nat → Int → Ins
  | 0, x => ⟨x, y.dst, y.a, y.b, y.n⟩
  | 1, x => ⟨y.op, x, y.a, y.b, y.n⟩
  | 2, x => ⟨y.op, y.dst, x, y.b, y.n⟩
  | 3, x => ⟨y.op, y.dst, y.a, x, y.n⟩
  | _, x => ⟨y.op, y.dst, y.a, y.b, x⟩
theorem Ins.put_enc (y : Ins) {j : Nat} (hj : j < 5) (x : Int) : over y.enc j [.int .i64 x] = (y.put j x).enc := by
  match j, hj with
  | 0, _ => rfl
  | 1, _ => rfl
  | 2, _ => rfl
  | 3, _ => rfl
  | 4, _ => rfl
theorem Own.putIns {K : Hp} {v : AV} {q r : List Ins} {a : Ins} (h : Own 5 K v (inss (q ++ a :: r))) {j : Nat} (hj : j < 5) (x : Int) : ∃ b, indexAddrA tab (.slice 102) K v (.int .i64 q.length) = some (.ptr b (q.length * 5)) ∧ ∃ K', storeA tI K (.ptr b (q.length * 5 + j)) (.int .i64 x) = some K' ∧ Own 5 K' v (inss (q ++ a.put j x :: r)) ∧ Keeps v.at K K' := by
  obtain ⟨b, hb, f1, f2⟩ := h.store (tab := tab) (e := 102) (ety := tN) rfl (i := q.length) (c := a.enc) (by simp) .i64
  obtain ⟨K', f3, f4, f5, f6⟩ := f2 tI j (.int .i64 x) rfl rfl (by show j + 1 ≤ 5; omega)
  refine ⟨b, by simpa using f1, K', by simpa using f3, ?_, f5⟩
  have e : (inss (q ++ a :: r)).set q.length (over a.enc j (AV.int .i64 x).cells) = inss (q ++ a.put j x :: r) := by
    show (inss (q ++ a :: r)).set q.length (over a.enc j [.int .i64 x]) = _
    rw [Ins.put_enc a hj]
    have : q.length = (inss q).length := by simp [inss]
    rw [this]
    simp [inss]
  rw [e] at f4
  exact f4
def upI (k : Int) : Nat → List Ins
  | 0 => []
  | n + 1 => ⟨k, k + 1, k + 1 + 1, k + 1 + 1 + 1, k + 1 + 1 + 1 + 1⟩ :: upI (k + 5) n
theorem upI_length (k : Int) (n : Nat) : (upI k n).length = n := by
  induction n generalizing k with
  | zero => rfl
  | succ n ih => simp [upI, ih]
set_option maxRecDepth 100000 in
theorem markInstrX_ok (l : List Ins) (v : AV) (k0 : Int) (H : Hp) (hm : l.length ≤ 1048576) (h0 : 0 ≤ k0) (h1 : k0 ≤ 1099511627776000) (hv : Own 5 H v (inss l)) : T Try.prog 29 [v, .int .i64 k0] H (fun r K => r = .int .i64 (k0 + 5 * l.length) ∧ Own 5 K v (inss (upI k0 l.length)) ∧ Keeps v.at H K) := by
  refine T.by tabOk Try.func29 (by kernel_rfl) rfl _ (by simp [Try.f29]) H _ ?_
  simp [Try.f29]
  refine W_loop _ fun I hI => ?_
  have key : ∀ (r q : List Ins) (k : Int) (ts : TS) (K : Hp), q.length + r.length = l.length → k = k0 + 5 * q.length → upI k0 l.length = q ++ upI k r.length → Own 5 K v (inss (q ++ r)) → Keeps v.at H K → (ts 0 = v ∧ ts 1 = .int .i64 k ∧ ts 5 = .int .i64 q.length) → I ts K := by
    intro r
    induction r with
    | nil =>
      intro q k ts K e hk hu ho hK hts
      apply hI
      have hlen := ho.row.len 102
      simp at e hlen
      rw [e] at hk
      simp [upI] at hu
      simp [hts, tab, hlen, e, hk, hu]
      simp at ho
      exact ⟨ho, hK⟩
    | cons a r ih =>
      intro q k ts K e hk hu ho hK hts
      apply hI
      have hlen := ho.row.len 102
      simp at e hlen
      have hlt : (q.length : Int) < q.length + (r.length + 1) := by omega
      obtain ⟨b0, p0, K0, q0, o0, r0⟩ := ho.putIns (j := 0) (by omega) k
      obtain ⟨b1, p1, K1, q1, o1, r1⟩ := o0.putIns (j := 1) (by omega) (k + 1)
      obtain ⟨b2, p2, K2, q2, o2, r2⟩ := o1.putIns (j := 2) (by omega) (k + 1 + 1)
      obtain ⟨b3, p3, K3, q3, o3, r3⟩ := o2.putIns (j := 3) (by omega) (k + 1 + 1 + 1)
      obtain ⟨b4, p4, K4, q4, o4, r4⟩ := o3.putIns (j := 4) (by omega) (k + 1 + 1 + 1 + 1)
      have hw1 := wrap64 (x := k + 1) (by omega) (by omega)
      have hw2 := wrap64 (x := k + 1 + 1) (by omega) (by omega)
      have hw3 := wrap64 (x := k + 1 + 1 + 1) (by omega) (by omega)
      have hw4 := wrap64 (x := k + 1 + 1 + 1 + 1) (by omega) (by omega)
      have hw5 := wrap64 (x := k + 1 + 1 + 1 + 1 + 1) (by omega) (by omega)
      have hw6 := wrap64 (x := q.length + 1) (by omega) (by omega)
      simp at q0
      simp (maxDischargeDepth := 9) [hts, tab, hlen, hlt, p0, q0, p1, q1, p2, q2, p3, q3, p4, q4, hw1, hw2, hw3, hw4, hw5, hw6]
      refine ih (q ++ [⟨k, k + 1, k + 1 + 1, k + 1 + 1 + 1, k + 1 + 1 + 1 + 1⟩]) (k + 5) _ K4 (by simp; omega) (by simp; omega) (by rw [hu]; simp [upI]) (by simpa [Ins.put] using o4) (((((hK.trans r0).trans r1).trans r2).trans r3).trans r4) (by simp [hts]; omega)
  exact key l [] k0 _ H (by simp) (by simp) (by simp) (by simpa using hv) (Keeps.refl _ _) (by simp)
def upB (k : Int) : List Nat → List Bk
  | [] => []
  | n :: ns => ⟨upI k n, k + 5 * n, k + 5 * n + 1, k + 5 * n + 1 + 1⟩ :: upB (k + 5 * n + 3) ns
theorem upB_length (k : Int) (ns : List Nat) : (upB k ns).length = ns.length := by
  induction ns generalizing k with
  | nil => rfl
  | cons n r ih => simp [upB, ih]
def wB : List Nat → Nat
  | [] => 0
  | n :: ns => 5 * n + 3 + wB ns
theorem wB_app (a b : List Nat) : wB (a ++ b) = wB a + wB b := by
  induction a with
  | nil => simp [wB]
  | cons n a ih => simp [wB, ih]; omega
theorem wB_le (ns : List Nat) (h : ∀ n ∈ ns, n ≤ 1048576) : wB ns ≤ 5242883 * ns.length := by
  induction ns with
  | nil => simp [wB]
  | cons n ns ih =>
    have := ih fun m hm => h m (by simp [hm])
    have := h n (by simp)
    simp [wB]
    omega
set_option maxRecDepth 100000 in
theorem markBlockS_ok (l : List Bk) (us : List AV) (v : AV) (H : Hp) (hm : l.length ≤ 1048576) (hmm : ∀ t ∈ l, t.code.length ≤ 1048576) (hv : FOwn H v l us) : T Try.prog 19 [v, .int .i64 1] H (fun r K => r = .int .i64 (1 + (wB (l.map fun t => t.code.length) : Nat)) ∧ FOwn K v (upB 1 (l.map fun t => t.code.length)) us ∧ Keeps (fun b => v.at b ∨ ∃ u ∈ us, u.at b) H K) := by
  refine T.by tabOk Try.func19 (by kernel_rfl) rfl _ (by simp [Try.f19]) H _ ?_
  have hbig := wB_le (l.map fun t => t.code.length) (by simpa using hmm)
  simp at hbig
  simp [Try.f19, tab]
  refine W_loop _ fun I hI => ?_
  have key : ∀ (r q : List Bk) (k : Nat) (ts : TS) (K : Hp), q.length + r.length = l.length → (∀ t ∈ r, t.code.length ≤ 1048576) → k + wB (r.map fun t => t.code.length) = 1 + wB (l.map fun t => t.code.length) → upB 1 (l.map fun t => t.code.length) = q ++ upB k (r.map fun t => t.code.length) → FOwn K v (q ++ r) us → Keeps (fun b => v.at b ∨ ∃ u ∈ us, u.at b) H K → (ts 0 = v ∧ ts 1 = .int .i64 k ∧ ts 5 = .int .i64 q.length) → I ts K := by
    intro r
    induction r with
    | nil =>
      intro q k ts K e hr hk hu ho hK hts
      apply hI
      simp [upB] at hu
      simp [wB] at hk e
      simp at ho
      have hlen := ho.look.count 67
      simp [hts, tab, hlen, hu, hk]
      exact ⟨ho, hK⟩
    | cons a r ih =>
      intro q k ts K e hr hk hu ho hK hts
      apply hI
      have hlen := ho.look.count 67
      simp at e hlen
      simp [wB] at hk
      have hlt : (q.length : Int) < q.length + (r.length + 1) := by omega
      have hul : q.length < us.length := by have := ho.len; simp at this; omega
      obtain ⟨u, huu⟩ : ∃ u, us[q.length]? = some u := ⟨_, List.getElem?_eq_getElem hul⟩
      have hum : u ∈ us := List.mem_of_getElem? huu
      obtain ⟨b0, p0, p1, -⟩ := ho.put huu (j := 1) (by omega) 0
      simp (maxDischargeDepth := 9) [hts, tab, hlen, hlt, p0, p1]
      have hac := hr a (by simp)
      refine (markInstrX_ok a.code u k K hac (by omega) (by omega) (ho.inner q.length a u (by simp) huu)).mono fun x K1 ⟨x1, x2, x3⟩ => ?_
      subst x1
      have o1 := ho.recode huu (upI k a.code.length) x2 x3 fun _ h => h
      obtain ⟨b1, c1, -, K2, d1, o2, r2⟩ := o1.put huu (j := 1) (by omega) (k + 5 * a.code.length)
      obtain ⟨b2, c2, -, K3, d2, o3, r3⟩ := o2.put huu (j := 2) (by omega) (k + 5 * a.code.length + 1)
      obtain ⟨b3, c3, -, K4, d3, o4, r4⟩ := o3.put huu (j := 3) (by omega) (k + 5 * a.code.length + 1 + 1)
      have hw1 := wrap64 (x := k + 5 * a.code.length + 1) (by omega) (by omega)
      have hw2 := wrap64 (x := k + 5 * a.code.length + 1 + 1) (by omega) (by omega)
      have hw3 := wrap64 (x := k + 5 * a.code.length + 1 + 1 + 1) (by omega) (by omega)
      have hw6 := wrap64 (x := q.length + 1) (by omega) (by omega)
      simp (maxDischargeDepth := 9) [hts, tab, c1, d1, c2, d2, c3, d3, hw1, hw2, hw3, hw6]
      refine ih (q ++ [⟨upI k a.code.length, k + 5 * a.code.length, k + 5 * a.code.length + 1, k + 5 * a.code.length + 1 + 1⟩]) (k + 5 * a.code.length + 3) _ K4 (by simp; omega) (fun t ht => hr t (by simp [ht])) (by omega) (by rw [hu]; simp [upB]) (by simpa [Bk.put] using o4) ((((hK.trans (x3.mono fun b h => .inr ⟨u, hum, h⟩)).trans (r2.mono fun b h => .inl h)).trans (r3.mono fun b h => .inl h)).trans (r4.mono fun b h => .inl h)) (by simp [hts]; omega)
  exact key l [] 1 _ H (by simp) hmm (by simp) (by simp) (by simpa using hv) (Keeps.refl _ _) (by simp)
set_option maxRecDepth 100000 in
theorem heldInstrS_ok (n : Nat) (v : AV) (k0 : Int) (H : Hp) (hn : n ≤ 1048576) (h0 : 0 ≤ k0) (h1 : k0 ≤ 1099511627776000) (hv : Row 5 H v (inss (upI k0 n))) : T Try.prog 84 [v, .int .i64 k0] H (fun r K => r = .int .i64 (k0 + 5 * n) ∧ K = H) := by
  refine T.by tabOk Try.func84 (by kernel_rfl) rfl _ (by simp [Try.f84]) H _ ?_
  have hlen := hv.len 102
  simp [upI_length] at hlen
  simp [Try.f84]
  refine W_loop _ fun I hI => ?_
  have key : ∀ (r : Nat) (q : List Ins) (k : Int) (ts : TS), q.length + r = n → k = k0 + 5 * q.length → upI k0 n = q ++ upI k r → (ts 0 = v ∧ ts 1 = .int .i64 k ∧ ts 5 = .int .i64 q.length) → I ts H := by
    intro r
    induction r with
    | zero =>
      intro q k ts e hk hu hts
      apply hI
      simp at e
      subst e
      simp [hts, tab, hlen, hk]
    | succ r ih =>
      intro q k ts e hk hu hts
      apply hI
      have hlt : (q.length : Int) < n := by omega
      obtain ⟨b, o, _, e1, -, e3⟩ := hv.get (tab := tab) (e := 102) (ety := tN) rfl (i := q.length) (a := ⟨k, k + 1, k + 1 + 1, k + 1 + 1 + 1, k + 1 + 1 + 1 + 1⟩) (by rw [hu]; simp [upI]) .i64
      have g0 : loadA tI H (.ptr b o) = some (.int .i64 k) := by simpa [Ins.enc] using e3 tI 0 rfl rfl (by decide)
      have g1 : loadA tI H (.ptr b (o + 1)) = some (.int .i64 (k + 1)) := by simpa [Ins.enc] using e3 tI 1 rfl rfl (by decide)
      have g2 : loadA tI H (.ptr b (o + 2)) = some (.int .i64 (k + 1 + 1)) := by simpa [Ins.enc] using e3 tI 2 rfl rfl (by decide)
      have g3 : loadA tI H (.ptr b (o + 3)) = some (.int .i64 (k + 1 + 1 + 1)) := by simpa [Ins.enc] using e3 tI 3 rfl rfl (by decide)
      have g4 : loadA tI H (.ptr b (o + 4)) = some (.int .i64 (k + 1 + 1 + 1 + 1)) := by simpa [Ins.enc] using e3 tI 4 rfl rfl (by decide)
      have hw1 := wrap64 (x := k + 1) (by omega) (by omega)
      have hw2 := wrap64 (x := k + 1 + 1) (by omega) (by omega)
      have hw3 := wrap64 (x := k + 1 + 1 + 1) (by omega) (by omega)
      have hw4 := wrap64 (x := k + 1 + 1 + 1 + 1) (by omega) (by omega)
      have hw5 := wrap64 (x := k + 1 + 1 + 1 + 1 + 1) (by omega) (by omega)
      have hw6 := wrap64 (x := q.length + 1) (by omega) (by omega)
      simp (maxDischargeDepth := 9) [hts, tab, hlen, hlt, e1, g0, g1, g2, g3, g4, hw1, hw2, hw3, hw4, hw5, hw6]
      exact ih (q ++ [⟨k, k + 1, k + 1 + 1, k + 1 + 1 + 1, k + 1 + 1 + 1 + 1⟩]) (k + 5) _ (by simp; omega) (by simp; omega) (by rw [hu]; simp [upI]) (by simp [hts]; omega)
  exact key n [] k0 _ (by simp) (by simp) (by simp) (by simp)
set_option maxRecDepth 100000 in
theorem heldBlockS_ok (ns : List Nat) (us : List AV) (v : AV) (H : Hp) (hm : ns.length ≤ 1048576) (hmm : ∀ n ∈ ns, n ≤ 1048576) (hv : FRow H v (upB 1 ns) us) : T Try.prog 21 [v, .int .i64 1] H (fun r K => r = .int .i64 (1 + (wB ns : Nat)) ∧ K = H) := by
  refine T.by tabOk Try.func21 (by kernel_rfl) rfl _ (by simp [Try.f21]) H _ ?_
  have hlen := hv.count 67
  rw [upB_length] at hlen
  have hbig := wB_le ns hmm
  simp [Try.f21, tab]
  refine W_loop _ fun I hI => ?_
  have key : ∀ (r : List Nat) (q : List Bk) (k : Nat) (ts : TS), q.length + r.length = ns.length → (∀ n ∈ r, n ≤ 1048576) → k + wB r = 1 + wB ns → upB 1 ns = q ++ upB k r → (ts 0 = v ∧ ts 1 = .int .i64 k ∧ ts 5 = .int .i64 q.length) → I ts H := by
    intro r
    induction r with
    | nil =>
      intro q k ts e hr hk hu hts
      apply hI
      simp [wB] at hk e
      simp [hts, tab, hlen, e, hk]
    | cons a r ih =>
      intro q k ts e hr hk hu hts
      apply hI
      simp [wB] at hk
      simp at e
      have hlt : (q.length : Int) < ns.length := by omega
      have hq : (upB 1 ns)[q.length]? = some ⟨upI k a, k + 5 * a, k + 5 * a + 1, k + 5 * a + 1 + 1⟩ := by rw [hu]; simp [upB]
      obtain ⟨b, o, u, hu1, e1, e2, e3⟩ := hv.get (e := 67) rfl hq
      have hz : (List.zipWith cellsB (upB 1 ns) us)[q.length]? = some (cellsB ⟨upI k a, k + 5 * a, k + 5 * a + 1, k + 5 * a + 1 + 1⟩ u) := by rw [List.getElem?_zipWith, hu1, hq]
      have hrow : Row 4 H v ((List.zipWith cellsB (upB 1 ns) us).map id) := by simpa using hv.row
      obtain ⟨b2, o2, _, d1, _, d2⟩ := Row.get (enc := id) (ety := tK) hrow (show tab 67 = some tK from rfl) hz .i64
      rw [d1] at e1
      obtain ⟨rfl, rfl⟩ : b2 = b ∧ o2 = o := by simpa using e1
      have g0 : loadA tLN H (.ptr b2 o2) = some u := by simpa [cellsB] using d2 tLN 0 rfl rfl (by decide)
      have g1 : loadA tI H (.ptr b2 (o2 + 1)) = some (.int .i64 (k + 5 * a)) := by simpa [cellsB] using d2 tI 1 rfl rfl (by decide)
      have g2 : loadA tI H (.ptr b2 (o2 + 2)) = some (.int .i64 (k + 5 * a + 1)) := by simpa [cellsB] using d2 tI 2 rfl rfl (by decide)
      have g3 : loadA tI H (.ptr b2 (o2 + 3)) = some (.int .i64 (k + 5 * a + 1 + 1)) := by simpa [cellsB] using d2 tI 3 rfl rfl (by decide)
      have ha := hr a (by simp)
      simp (maxDischargeDepth := 9) [hts, tab, hlen, hlt, d1, g0]
      refine (heldInstrS_ok a u k H ha (by omega) (by omega) e3).mono fun x K ⟨x1, x2⟩ => ?_
      subst x1 x2
      have hno : ¬ (k : Int) + 5 * a < 0 := by omega
      have hw1 := wrap64 (x := k + 5 * a + 1) (by omega) (by omega)
      have hw2 := wrap64 (x := k + 5 * a + 1 + 1) (by omega) (by omega)
      have hw3 := wrap64 (x := k + 5 * a + 1 + 1 + 1) (by omega) (by omega)
      have hw6 := wrap64 (x := q.length + 1) (by omega) (by omega)
      simp (maxDischargeDepth := 9) [hts, tab, hno, d1, g1, g2, g3, hw1, hw2, hw3, hw6]
      exact ih (q ++ [⟨upI k a, k + 5 * a, k + 5 * a + 1, k + 5 * a + 1 + 1⟩]) (k + 5 * a + 3) _ (by simp; omega) (fun n hn => hr n (by simp [hn])) (by omega) (by rw [hu]; simp [upB]) (by simp [hts]; omega)
  exact key ns [] 1 _ (by simp) hmm (by simp) (by simp) (by simp)
/-- A flow that was read as an argument. -/
theorem blocks_open (H : Hp) (x : AV) (h : SSl 4 48 (SPair (SSl 5 40 (SPair (SInt .i64) (SPair (SInt .i64) (SPair (SInt .i64) (SPair (SInt .i64) (SInt .i64)))))) (SPair (SInt .i64) (SPair (SInt .i64) (SInt .i64)))) H [x]) : ∃ l us, FRow H x l us ∧ l.length ≤ 140737488355328 ∧ ∀ t ∈ l, t.code.length ≤ 140737488355328 := by
  obtain ⟨v, es, e1, h1, h2, h3, h4⟩ := h
  cases e1
  have hx : ∀ e ∈ es, ∃ p : Bk × AV, e = cellsB p.1 p.2 ∧ Row 5 H p.2 (inss p.1.code) ∧ p.1.code.length ≤ 140737488355328 := fun e he => by
    obtain ⟨_, _, rfl, hs, _, _, rfl, ⟨a, rfl, _⟩, _, _, rfl, ⟨b, rfl, _⟩, ⟨c, rfl, _⟩⟩ := h4 e he
    have hs' := hs
    obtain ⟨u, _, e2, _⟩ := hs'
    cases e2
    obtain ⟨xs, r1, r2⟩ := inss_open H u hs
    exact ⟨(⟨xs, a, b, c⟩, u), rfl, r1, r2⟩
  obtain ⟨ps, rfl, hps⟩ := map_of_all (enc := fun p : Bk × AV => cellsB p.1 p.2) hx
  refine ⟨ps.map (·.1), ps.map (·.2), ⟨?_, by simp, fun i t u hi hu => ?_⟩, by simp at h3; simp; omega, fun t ht => ?_⟩
  · have : List.zipWith cellsB (ps.map (·.1)) (ps.map (·.2)) = ps.map fun p => cellsB p.1 p.2 := by
      induction ps with
      | nil => rfl
      | cons p ps ih => simp [List.zipWith_map]
    rw [this]
    exact h1
  · rw [List.getElem?_map, Option.map_eq_some_iff] at hi hu
    obtain ⟨p, hp, rfl⟩ := hi
    obtain ⟨p', hp', rfl⟩ := hu
    rw [hp] at hp'
    obtain rfl := Option.some.inj hp'
    exact (hps p (List.mem_of_getElem? hp)).1
  · simp at ht
    obtain ⟨u, hp⟩ := ht
    exact (hps _ hp).2
end Go.Proofs.Ytdbnokeegocpbaa.Am
