/- Tasks, and the laws' own helpers for them. No condition. -/
import Derived.Test.YtcadaadoodpnmaaLInts
namespace Go.Proofs.Ytcadaadoodpnmaa.Am
open Go Go.RowKit
set_option linter.unusedSimpArgs false
set_option linter.unusedVariables false

structure Task where
  long : Int
  after : List Int
  deriving DecidableEq
abbrev tT : Ty := ⟨.struct [(0, 3), (1, 31)], 2, 32, [.int .i64 0, .nil], false⟩
def cellsOf (t : Task) (u : AV) : List AV := [.int .i64 t.long, u]
/-- A row of tasks, looked at. -/
structure TRow (K : Hp) (v : AV) (l : List Task) (us : List AV) : Prop where
  row : Row 2 K v (List.zipWith cellsOf l us)
  len : us.length = l.length
  inner : ∀ (i : Nat) (t : Task) (u : AV), l[i]? = some t → us[i]? = some u → Row 1 K u (ints t.after)
theorem TRow.fr {K K' : Hp} {v : AV} {l : List Task} {us : List AV} (h : TRow K v l us) (k : Fr K K') : TRow K' v l us := ⟨h.row.fr k, h.len, fun i t u a b => (h.inner i t u a b).fr k⟩
theorem TRow.count {K : Hp} {v : AV} {l : List Task} {us : List AV} (h : TRow K v l us) (e : Nat) : lenA (.slice e) v = some (.int .i64 l.length) := by
  have := h.row.len e
  rw [this]
  simp [h.len]
theorem TRow.get {K : Hp} {v : AV} {l : List Task} {us : List AV} (h : TRow K v l us) {e : Nat} (he : tab e = some tT) {i : Nat} {t : Task} (hi : l[i]? = some t) :
    ∃ b q u, us[i]? = some u ∧ indexAddrA tab (.slice e) K v (.int .i64 i) = some (.ptr b q) ∧ loadA tT K (.ptr b q) = some (.agg [.int .i64 t.long, u]) ∧ loadA tI K (.ptr b q) = some (.int .i64 t.long) ∧ loadA ⟨.slice 3, 1, 24, [.nil], false⟩ K (.ptr b (q + 1)) = some u ∧ Row 1 K u (ints t.after) := by
  have hlt : i < us.length := by rw [h.len]; exact (List.getElem?_eq_some_iff.1 hi).1
  have hu : us[i]? = some us[i] := List.getElem?_eq_getElem hlt
  have hz : (l.zip us)[i]? = some (t, us[i]) := by rw [List.getElem?_zip_eq_some]; exact ⟨hi, hu⟩
  have hr : Row 2 K v ((l.zip us).map fun p => cellsOf p.1 p.2) := by
    have := h.row
    rwa [← List.map_uncurry_zip_eq_zipWith] at this
  obtain ⟨b, q, _, h1, h2, h3⟩ := Row.get (ety := tT) hr he hz .i64
  exact ⟨b, q, us[i], hu, h1, h2 rfl, by simpa [cellsOf] using h3 tI 0 rfl rfl (by decide), by simpa [cellsOf] using h3 ⟨.slice 3, 1, 24, [.nil], false⟩ 1 rfl rfl (by decide), h.inner i t _ hi hu⟩
/-- A row of tasks that was made. -/
structure TOwn (K : Hp) (v : AV) (l : List Task) (us : List AV) : Prop where
  row : Own 2 K v (List.zipWith cellsOf l us)
  len : us.length = l.length
  inner : ∀ (i : Nat) (t : Task) (u : AV), l[i]? = some t → us[i]? = some u → Own 1 K u (ints t.after)
  apart : ∀ (i j : Nat) (u u' : AV) (b : Nat), us[i]? = some u → us[j]? = some u' → i ≠ j → u.at b → ¬ u'.at b
  off : ∀ u ∈ us, ∀ b, u.at b → ¬ v.at b
theorem TOwn.look {K : Hp} {v : AV} {l : List Task} {us : List AV} (h : TOwn K v l us) : TRow K v l us := ⟨h.row.row, h.len, fun i t u a b => (h.inner i t u a b).row⟩
theorem TOwn.fr {K K' : Hp} {v : AV} {l : List Task} {us : List AV} (h : TOwn K v l us) (k : Fr K K') : TOwn K' v l us := ⟨h.row.fr k, h.len, fun i t u a b => (h.inner i t u a b).fr k, h.apart, h.off⟩
def size (l : List Task) : Nat := (l.map fun t => t.after.length).sum
theorem szTask_ok (t : Task) (u : AV) (left : Int) (H : Hp) (h1 : -1 ≤ left) (h2 : left ≤ 1048576) (hm : t.after.length ≤ 140737488355328) (hv : Row 1 H u (ints t.after)) : T Try.prog 42 [.agg (cellsOf t u), .int .i64 left] H (fun r K => r = .int .i64 (if left < t.after.length then -1 else left - t.after.length) ∧ Fr H K) := by
  refine T.by tabOk Try.func42 (by kernel_rfl) rfl _ (by simp [Try.f42]) H _ ?_
  simp [Try.f42, tab, cellsOf, hv.one, hv.self]
  refine (szIntS_ok t.after u left _ h1 h2 hm (hv.fr (Fr.app H _))).mono fun r K ⟨e1, e2⟩ => ?_
  subst e1 e2
  by_cases h : left < t.after.length
  · simp [h, tab]
    exact Fr.app _ _
  · have h' : ¬ left - (t.after.length : Int) < 0 := by omega
    simp [h, h', tab]
    exact Fr.app _ _
theorem szTaskS_ok (l : List Task) (us : List AV) (v : AV) (H : Hp) (hm : l.length ≤ 140737488355328) (hmm : ∀ t ∈ l, t.after.length ≤ 140737488355328) (hv : TRow H v l us) : T Try.prog 13 [v, .int .i64 1048576] H (fun r K => ∃ z, r = .int .i64 z ∧ Fr H K ∧ (0 ≤ z → l.length ≤ 1048576 ∧ ∀ t ∈ l, t.after.length ≤ 1048576)) := by
  refine T.by tabOk Try.func13 (by kernel_rfl) rfl _ (by simp [Try.f13]) H _ ?_
  have hlen := hv.count 55
  have hw := wrap64 (x := 1048576 - l.length) (by omega) (by omega)
  by_cases h : 1048576 < l.length
  · have h' : (1048576 : Int) - l.length < 0 := by omega
    simp [Try.f13, tab, hlen, hw, h']
    exact Fr.refl H
  have h' : ¬ (1048576 : Int) - l.length < 0 := by omega
  simp [Try.f13, tab, hlen, hw, h']
  refine W_loop _ fun I hI => ?_
  have key : ∀ (r p : List Task) (ts : TS) (K : Hp) (left : Int), l = p ++ r → Fr H K → 0 ≤ left → left ≤ 1048576 → (∀ t ∈ p, t.after.length ≤ 1048576) → (ts 0 = v ∧ ts 1 = .int .i64 left ∧ ts 5 = .int .i64 p.length) → I ts K := by
    intro r
    induction r with
    | nil =>
      intro p ts K left hl hK h0 h1 hp hts
      apply hI
      simp at hl
      subst hl
      simp [hts, hlen, tab]
      exact ⟨hK, fun _ => ⟨by omega, hp⟩⟩
    | cons a r ih =>
      intro p ts K left hl hK h0 h1 hp hts
      apply hI
      have hlt : (p.length : Int) < l.length := by simp [hl]; omega
      obtain ⟨b, q, u, hu, e1, e2, _, _, hr⟩ := hv.get (e := 55) rfl (i := p.length) (t := a) (by simp [hl])
      simp (maxDischargeDepth := 9) [hts, hlen, tab, hlt, hK.index, hK.load, e1, e2]
      refine (szTask_ok a u left K (by omega) h1 (hmm a (by simp [hl])) (hr.fr hK)).mono fun x K1 ⟨x1, x2⟩ => ?_
      subst x1
      by_cases hb : left < a.after.length
      · simp [hts, hb, tab]
        exact hK.trans x2
      · have hb' : ¬ left - (a.after.length : Int) < 0 := by omega
        have hw := wrap64 (x := p.length + 1) (by omega) (by omega)
        simp [hts, hb, hb', tab, hw]
        refine ih (p ++ [a]) _ _ (left - a.after.length) (by simp [hl]) (hK.trans x2) (by omega) (by omega) ?_ (by simp [hts])
        intro t ht
        simp at ht
        rcases ht with ht | rfl
        · exact hp t ht
        · omega
  exact key l [] _ _ (1048576 - l.length) rfl (Fr.refl H) (by omega) (by omega) (by simp) (by simp)
theorem toTask_ok (t : Task) (u : AV) (H : Hp) (hm : t.after.length ≤ 1048576) (hv : Row 1 H u (ints t.after)) : T Try.prog 44 [.agg (cellsOf t u)] H (fun r K => ∃ u', r = .agg (cellsOf t u') ∧ Own 1 K u' (ints t.after) ∧ Fresh H.length u' ∧ Fr H K) := by
  refine T.by tabOk Try.func44 (by kernel_rfl) rfl _ (by simp [Try.f44]) H _ ?_
  simp [Try.f44, tab, cellsOf, hv.one, hv.self]
  refine (toIntS_ok t.after u _ hm (hv.fr (Fr.app H _))).mono fun u' K ⟨e1, e2, e3⟩ => ?_
  have hb := e3.2 (H.length + 2) ⟨2, true, [.int .i64 t.long, .nil]⟩ (by simp) id
  have hb2 := e3.2 (H.length + 1) ⟨2, true, [.int .i64 0, .nil]⟩ (by simp) id
  obtain ⟨K1, s1, s2, s3, s4⟩ := store_at hb rfl (ty := ⟨.slice 3, 1, 24, [.nil], false⟩) (o := 1) (v := u') (by rw [e1.row.self]; rfl) (by simp [e1.row.self, e1.row.one]) (by simp)
  have hb3 := s3.2 _ _ hb2 (by omega)
  obtain ⟨K2, t1, t2, t3, t4⟩ := store_at hb3 rfl (ty := tT) (o := 0) (v := .agg [.int .i64 t.long, u']) rfl (by simp [e1.row.one]) (by simp)
  have l1 : loadA tT K1 (.ptr (H.length + 2) 0) = some (.agg [.int .i64 t.long, u']) := by
    rw [loadA_eq, s2]
    simp [over, e1.row.self]
  have l2 : loadA tT K2 (.ptr (H.length + 1) 0) = some (.agg [.int .i64 t.long, u']) := by
    rw [loadA_eq, t2]
    simp [over]
  simp [tab, s1, l1, t1, l2]
  have f1 := e2.mono (a' := H.length + 3) (by simp)
  refine ⟨(e1.keeps s3 fun b hb hx => ?_).keeps t3 fun b hb hx => ?_, e2.mono (by simp), Fr.then (Fr.then ((Fr.app H _).trans e3) s3 ?_) t3 ?_⟩
  · have := f1 b hb; omega
  · have := f1 b hb; omega
  · intro b hb; omega
  · intro b hb; omega
theorem zip_snoc (l : List Task) (us : List AV) (t : Task) (u : AV) (h : us.length = l.length) : List.zipWith cellsOf (l ++ [t]) (us ++ [u]) = List.zipWith cellsOf l us ++ [cellsOf t u] := by
  rw [List.zipWith_append (by omega)]
  rfl
theorem toTaskS_ok (l : List Task) (ws : List AV) (v : AV) (H : Hp) (hm : l.length ≤ 1048576) (hmm : ∀ t ∈ l, t.after.length ≤ 1048576) (hv : TRow H v l ws) : T Try.prog 15 [v] H (fun r K => (∃ us, TOwn K r l us ∧ ∀ u ∈ us, Fresh H.length u) ∧ Fresh H.length r ∧ Fr H K) := by
  refine T.by tabOk Try.func15 (by kernel_rfl) rfl _ (by simp [Try.f15]) H _ ?_
  have hlen := hv.count 55
  obtain ⟨K0, m1, m2, m3⟩ := make_ok (ety := tT) (K := H) (n := l.length) rfl (by decide) (by simp; omega) (by omega)
  simp [Try.f15, tab, hlen, m1]
  refine W_loop _ fun I hI => ?_
  have key : ∀ (r p : List Task) (us : List AV) (ts : TS) (K : Hp), l = p ++ r → Fr H K → us.length = p.length → Own 2 K (.sl H.length 0 l.length) (List.zipWith cellsOf p us ++ List.replicate r.length tT.zero) →
      (∀ (i : Nat) (t : Task) (u : AV), p[i]? = some t → us[i]? = some u → Own 1 K u (ints t.after)) → (∀ (i j : Nat) (u u' : AV) (b : Nat), us[i]? = some u → us[j]? = some u' → i ≠ j → u.at b → ¬ u'.at b) → (∀ u ∈ us, Fresh (H.length + 1) u) →
      (ts 0 = v ∧ ts 3 = .sl H.length 0 l.length ∧ ts 4 = .int .i64 p.length) → I ts K := by
    intro r
    induction r with
    | nil =>
      intro p us ts K hl hK hlu ho hin hap hfr hts
      apply hI
      simp at hl
      subst hl
      simp [hts, hlen, tab]
      refine ⟨⟨us, ⟨by simpa using ho, hlu, hin, hap, fun u hu b hb hx => ?_⟩, fun u hu => (hfr u hu).mono (by omega)⟩, fun b hb => by cases hb; exact Nat.le_refl _, hK⟩
      have := hfr u hu b hb
      cases hx
      omega
    | cons a r ih =>
      intro p us ts K hl hK hlu ho hin hap hfr hts
      apply hI
      have hlt : (p.length : Int) < l.length := by simp [hl]; omega
      obtain ⟨b, q, u, hu, e1, e2, _, _, hr⟩ := hv.get (e := 55) rfl (i := p.length) (t := a) (by simp [hl])
      simp (maxDischargeDepth := 9) [hts, hlen, tab, hlt, hK.index, hK.load, e1, e2]
      refine (toTask_ok a u K (hmm a (by simp [hl])) (hr.fr hK)).mono fun x K1 ⟨u', x1, x2, x3, x4⟩ => ?_
      subst x1
      obtain ⟨b', hb', f1, f2⟩ := (ho.fr x4).store (tab := tab) (e := 49) (ety := tT) rfl (i := p.length) (c := tT.zero) (by rw [List.getElem?_append_right (by simp [hlu])]; simp [hlu]) .i64
      obtain ⟨K2, f3, f4, f5, f6⟩ := f2 tT 0 (.agg (cellsOf a u')) rfl (by simp [cellsOf, x2.row.one]) (by decide)
      have hw := wrap64 (x := p.length + 1) (by omega) (by omega)
      have hbe : b' = H.length := by simp only [AV.sl.injEq] at hb'; exact hb'.1.symm
      subst hbe
      simp at f1 f3
      simp (maxDischargeDepth := 9) [hts, tab, f1, f3, hw]
      have hKl : H.length + 1 ≤ K.length := by
        have := ho.lt H.length rfl
        omega
      have hne : ∀ u ∈ us, ∀ b, u.at b → ¬ (AV.sl H.length 0 l.length).at b := fun u hu b hb hx => by
        have := hfr u hu b hb
        cases hx
        omega
      have hold : ∀ u ∈ us, ∀ b, u.at b → b < K.length := fun u hu b hb => by
        obtain ⟨i, hi⟩ := List.mem_iff_getElem?.1 hu
        have hil : i < p.length := by rw [← hlu]; exact (List.getElem?_eq_some_iff.1 hi).1
        exact (hin i p[i] u (List.getElem?_eq_getElem hil) hi).lt b hb
      refine ih (p ++ [a]) (us ++ [u']) _ _ (by simp [hl]) (Fr.then (hK.trans x4) f5 (fun b hb => by cases hb; exact Nat.le_refl _)) (by simp [hlu]) ?_ ?_ ?_ ?_ (by simp [hts])
      · have e : (List.zipWith cellsOf p us ++ List.replicate (a :: r).length tT.zero).set p.length (over tT.zero 0 (cellsOf a u')) = List.zipWith cellsOf (p ++ [a]) (us ++ [u']) ++ List.replicate r.length tT.zero := by
          rw [zip_snoc _ _ _ _ hlu, List.set_append_right _ _ (by simp [hlu])]
          simp [hlu, List.replicate_succ, cellsOf]
        simp only [AV.cells, e] at f4
        exact f4
      · intro i t w hi hw
        rw [List.getElem?_append] at hi hw
        rw [hlu] at hw
        split at hi
        · rename_i hlt2
          rw [if_pos hlt2] at hw
          exact ((hin i t w hi hw).fr x4).keeps f5 (hne w (List.mem_of_getElem? hw))
        · rename_i hge
          rw [if_neg hge] at hw
          have hz : i - p.length = 0 := by
            have := (List.getElem?_eq_some_iff.1 hi).1
            simp at this
            omega
          rw [hz] at hi hw
          simp at hi hw
          subst hi hw
          exact x2.keeps f5 fun b hb hx => by
            have := x3 b hb
            cases hx
            omega
      · intro i j w w' b hi hj hij hw
        rcases get_snoc hi with hi | ⟨ei, rfl⟩
        · rcases get_snoc hj with hj | ⟨ej, rfl⟩
          · exact hap i j w w' b hi hj hij hw
          · intro hb
            have h1 := x3 b hb
            have h2 := hold w (List.mem_of_getElem? hi) b hw
            omega
        · rcases get_snoc hj with hj | ⟨ej, rfl⟩
          · intro hb
            have h1 := x3 b hw
            have h2 := hold w' (List.mem_of_getElem? hj) b hb
            omega
          · omega
      · intro w hw
        rcases List.mem_append.1 hw with hw | hw
        · exact hfr w hw
        · simp at hw
          subst hw
          exact x3.mono hKl
  refine key l [] [] _ _ rfl m3 rfl ?_ (by simp) (by simp) (by simp) ⟨rfl, rfl, rfl⟩
  simpa using m2
theorem eqTask_ok (a b : Task) (u w : AV) (H : Hp) (hm : a.after.length ≤ 1048576) (hu : Row 1 H u (ints a.after)) (hw : Row 1 H w (ints b.after)) : T Try.prog 46 [.agg (cellsOf a u), .agg (cellsOf b w)] H (fun r K => r = .bool (decide (a = b)) ∧ Fr H K) := by
  refine T.by tabOk Try.func46 (by kernel_rfl) rfl _ (by simp [Try.f46]) H _ ?_
  obtain ⟨a1, a2⟩ := a
  obtain ⟨b1, b2⟩ := b
  by_cases h1 : a1 = b1
  case neg =>
    simp [Try.f46, tab, cellsOf, h1, hu.one, hu.self, hw.one, hw.self]
    exact Fr.app _ _
  subst h1
  simp [Try.f46, tab, cellsOf, hu.one, hu.self, hw.one, hw.self]
  refine (eqIntS_ok a2 b2 u w _ (by simp at hm; omega) (hu.fr (Fr.app _ _)) (hw.fr (Fr.app _ _))).mono fun r K ⟨e1, e2⟩ => ?_
  subst e1 e2
  by_cases h : a2 = b2 <;> simp [h, tab] <;> exact Fr.app _ _
theorem eqTaskS_ok (l l' : List Task) (us us' : List AV) (v v' : AV) (H : Hp) (hm : l.length ≤ 1048576) (hmm : ∀ t ∈ l, t.after.length ≤ 1048576) (hv : TRow H v l us) (hv' : TRow H v' l' us') : T Try.prog 17 [v, v'] H (fun r H' => r = .bool (decide (l = l')) ∧ Fr H H') := by
  refine T.by tabOk Try.func17 (by kernel_rfl) rfl _ (by simp [Try.f17]) H _ ?_
  have hlen := hv.count 49
  have hlen' := hv'.count 49
  by_cases hl : l.length = l'.length
  case neg =>
    have hne : (l.length : Int) ≠ l'.length := by omega
    have hne2 : l ≠ l' := fun e => hl (by rw [e])
    simp [Try.f17, tab, hlen, hlen', hne, hne2]
    exact Fr.refl H
  simp [Try.f17, tab, hlen, hlen', hl]
  refine W_loop _ fun I hI => ?_
  have key : ∀ (r p r' : List Task) (ts : TS) (K : Hp), l = p ++ r → l' = p ++ r' → Fr H K → (ts 0 = v ∧ ts 1 = v' ∧ ts 5 = .int .i64 p.length) → I ts K := by
    intro r
    induction r with
    | nil =>
      intro p r' ts K e e' hK hts
      apply hI
      obtain _ | ⟨a', r'⟩ := r'
      case cons => simp [e, e'] at hl
      simp at e e'
      subst e e'
      simp [hts, hlen, tab, hK]
    | cons a r ih =>
      intro p r' ts K e e' hK hts
      obtain _ | ⟨a', r'⟩ := r'
      · simp [e, e'] at hl
      apply hI
      have hlt : (p.length : Int) < l.length := by simp [e]; omega
      obtain ⟨b, q, u, hu, e1, e2, _, _, hr⟩ := hv.get (e := 49) rfl (i := p.length) (t := a) (by simp [e])
      obtain ⟨b', q', u', hu', e1', e2', _, _, hr'⟩ := hv'.get (e := 49) rfl (i := p.length) (t := a') (by simp [e'])
      simp [hts, hlen, tab, hlt]
      refine W_draw mixed (.look 0 (.look 1 (.look 2 (.look 3 (.look 4 (.look 5 (.look 6 (.look 7 (.act 8 [] (.look 9 .done) .stop))))))))) (by kernel_rfl) ?_
      simp (maxDischargeDepth := 9) [hts, hlen, tab, hlt, hK.index, hK.load, e1, e2, e1', e2']
      refine (eqTask_ok a a' u u' K (hmm a (by simp [e])) (hr.fr hK) (hr'.fr hK)).mono fun x K1 ⟨hx, h1⟩ => ?_
      subst hx
      by_cases ha : a = a'
      · subst ha
        have hw := wrap64 (x := p.length + 1) (by omega) (by omega)
        simp [hts, hw, tab]
        exact ih (p ++ [a]) r' _ _ (by simp [e]) (by simp [e']) (hK.trans h1) (by simp [hts])
      · simp [ha, hts, e, e', tab]
        exact hK.trans h1
  exact key l [] l' _ _ rfl rfl (Fr.refl H) (by simp)
theorem markTaskS_ok (l : List Task) (us : List AV) (v : AV) (H : Hp) (hm : l.length ≤ 1048576) (hmm : ∀ t ∈ l, t.after.length ≤ 1048576) (hv : TOwn H v l us) : T Try.prog 28 [v, .int .i64 1] H (fun r K => (∃ z, r = .int .i64 z ∧ 0 ≤ z ∧ z ≤ 1099512676353) ∧ Keeps (fun b => v.at b ∨ ∃ u ∈ us, u.at b) H K) := by
  refine T.by tabOk Try.func28 (by kernel_rfl) rfl _ (by simp [Try.f28]) H _ ?_
  have hlen := hv.look.count 49
  simp [Try.f28, tab]
  refine W_loop _ fun I hI => ?_
  have key : ∀ (r p : List Task) (wr ur : List AV) (es : List (List AV)) (k : Int) (ts : TS) (K : Hp), l = p ++ r → us = wr ++ ur → es.length = p.length → ur.length = r.length → 0 ≤ k → k ≤ 1 + 1048577 * p.length → Own 2 K v (es ++ List.zipWith cellsOf r ur) →
      (∀ (i : Nat) (t : Task) (u : AV), r[i]? = some t → ur[i]? = some u → Own 1 K u (ints t.after)) → Keeps (fun b => v.at b ∨ ∃ u ∈ us, u.at b) H K →
      (ts 0 = v ∧ ts 1 = .int .i64 k ∧ ts 5 = .int .i64 p.length) → I ts K := by
    intro r
    induction r with
    | nil =>
      intro p wr ur es k ts K hl hu he hur h0 h1 ho hin hK hts
      apply hI
      simp at hl
      subst hl
      have h2 : k ≤ 1099512676353 := by omega
      simp [hts, hlen, tab, h0, h2]
      exact hK
    | cons a r ih =>
      intro p wr ur es k ts K hl hu he hur h0 h1 ho hin hK hts
      obtain _ | ⟨u, ur⟩ := ur
      · simp at hur
      apply hI
      have hpl : p.length + 1 ≤ 1048576 := by simp [hl] at hm; omega
      have hlt : (p.length : Int) < l.length := by simp [hl]; omega
      obtain ⟨b', hb', f1, f2⟩ := ho.store (tab := tab) (e := 49) (ety := tT) rfl (i := p.length) (c := cellsOf a u) (by rw [List.getElem?_append_right (by omega)]; simp [he]) .i64
      obtain ⟨K2, f3, f4, f5, f6⟩ := f2 tI 0 (.int .i64 k) rfl rfl (by decide)
      have hw := wrap64 (x := p.length + 1) (by omega) (by omega)
      have hw2 := wrap64 (x := k + 1) (by omega) (by omega)
      have hov : es ++ List.zipWith cellsOf (a :: r) (u :: ur) = es ++ cellsOf a u :: List.zipWith cellsOf r ur := rfl
      have e2 : (es ++ List.zipWith cellsOf (a :: r) (u :: ur)).set p.length (over (cellsOf a u) 0 [.int .i64 k]) = (es ++ [[.int .i64 k, u]]) ++ List.zipWith cellsOf r ur := by
        rw [hov, ← he]
        simp [cellsOf]
      rw [show (AV.int .i64 k).cells = [.int .i64 k] from rfl, e2] at f4
      have hrow : Row 2 K2 v ((es ++ [[.int .i64 k, u]]) ++ List.zipWith cellsOf r ur) := f4.row
      have hg : (((es ++ [[.int .i64 k, u]]) ++ List.zipWith cellsOf r ur).map id)[p.length]? = some [.int .i64 k, u] := by
        simp [← he]
      obtain ⟨b2, q2, _, g1, _, g2⟩ := Row.get (enc := id) (ety := tT) (by simpa using hrow) (show tab 49 = some tT from rfl) (by simp [← he] : (es ++ [[AV.int .i64 k, u]] ++ List.zipWith cellsOf r ur)[p.length]? = some [AV.int .i64 k, u]) .i64
      have g3 := g2 ⟨.slice 3, 1, 24, [.nil], false⟩ 1 rfl rfl (by decide)
      simp at g3
      simp at f1 f3
      simp (maxDischargeDepth := 9) [hts, hlen, tab, hlt, f1, f3, hw2, g1, g3]
      have huu : u ∈ us := by simp [hu]
      have hoff : ∀ w ∈ us, ∀ b, w.at b → ¬ v.at b := hv.off
      have hi0 := (hin 0 a u rfl rfl).keeps f5 (hoff u huu)
      have hal := hmm a (by simp [hl])
      refine (markIntS_ok _ u (k + 1) K2 (by omega) (by simp; omega) hi0).mono fun x K3 ⟨x1, x2, x3, x4⟩ => ?_
      subst x1
      simp [hts, tab, hw]
      refine ih (p ++ [a]) (wr ++ [u]) ur (es ++ [[.int .i64 k, u]]) (k + 1 + a.after.length) _ _ (by simp [hl]) (by simp [hu]) (by simp [he]) (by simpa using hur) (by omega) (by simp; omega) (f4.keeps x3 fun b h1 h2 => hoff u huu b h2 h1) ?_ ?_ (by simp [hts])
      · intro i t w hi hw'
        have h1 := hin (i + 1) t w (by simpa using hi) (by simpa using hw')
        have hwu : w ∈ us := by rw [hu]; simp; exact .inr (.inr (List.mem_of_getElem? hw'))
        refine (h1.keeps f5 (hoff w hwu)).keeps x3 fun b hb hb2 => ?_
        have hwi : us[wr.length + (i + 1)]? = some w := by
          rw [hu, List.getElem?_append_right (by omega), Nat.add_sub_cancel_left]
          simpa using hw'
        exact hv.apart wr.length (wr.length + (i + 1)) u w b (by simp [hu]) hwi (by omega) hb2 hb
      · exact (hK.trans (f5.mono fun b h => .inl h)).trans (x3.mono fun b h => .inr ⟨u, huu, h⟩)
  exact key l [] [] us [] 1 _ _ rfl rfl rfl hv.len (by omega) (by simp) (by simpa using hv.row) hv.inner (Keeps.refl _ _) (by simp)
/-- A row of tasks that was read as an argument. -/
theorem tasks_open (H : Hp) (x : AV) (h : SSl 2 32 (SPair (SInt .i64) (SSl 1 8 (SInt .i64))) H [x]) : ∃ l us, TRow H x l us ∧ l.length ≤ 140737488355328 ∧ ∀ t ∈ l, t.after.length ≤ 140737488355328 := by
  obtain ⟨v, es, e1, h1, h2, h3, h4⟩ := h
  cases e1
  have hx : ∀ e ∈ es, ∃ p : Task × AV, e = cellsOf p.1 p.2 ∧ Row 1 H p.2 (ints p.1.after) ∧ p.1.after.length ≤ 140737488355328 := fun e he => by
    obtain ⟨_, _, rfl, ⟨a, rfl, _⟩, u, es2, rfl, r1, r2, r3, r4⟩ := h4 e he
    obtain ⟨xs, rfl, _⟩ := map_of_all (enc := fun x : Int => [AV.int .i64 x]) (q := fun _ => True) (es := es2) (fun e he => by
      obtain ⟨n, rfl, _⟩ := r4 e he
      exact ⟨n, rfl, trivial⟩)
    exact ⟨(⟨a, xs⟩, u), rfl, r1, by simp at r3; simp; omega⟩
  obtain ⟨ps, rfl, hps⟩ := map_of_all (enc := fun p : Task × AV => cellsOf p.1 p.2) hx
  refine ⟨ps.map (·.1), ps.map (·.2), ⟨?_, by simp, fun i t u hi hu => ?_⟩, by simp at h3; simp; omega, fun t ht => ?_⟩
  · have : List.zipWith cellsOf (ps.map (·.1)) (ps.map (·.2)) = ps.map fun p => cellsOf p.1 p.2 := by
      induction ps with
      | nil => rfl
      | cons p ps ih => simp [List.zipWith_map]
    rw [this]
    exact h1
  · rw [List.getElem?_map, Option.map_eq_some_iff] at hi hu
    obtain ⟨p, hp, rfl⟩ := hi
    obtain ⟨p', hp', rfl⟩ := hu
    rw [hp] at hp'
    obtain rfl := Option.some.inj hp'
    exact (hps p (List.mem_of_getElem? hp)).1
  · simp at ht
    obtain ⟨u, hp⟩ := ht
    exact (hps _ hp).2
/-- A row of numbers that was read as an argument. -/
theorem ints_open (H : Hp) (x : AV) (h : SSl 1 8 (SInt .i64) H [x]) : ∃ l, Row 1 H x (ints l) ∧ l.length ≤ 140737488355328 := by
  obtain ⟨v, es, e1, h1, h2, h3, h4⟩ := h
  cases e1
  obtain ⟨xs, rfl, _⟩ := map_of_all (enc := fun x : Int => [AV.int .i64 x]) (q := fun _ => True) (es := es) (fun e he => by
    obtain ⟨n, rfl, _⟩ := h4 e he
    exact ⟨n, rfl, trivial⟩)
  exact ⟨xs, h1, by simp at h3; omega⟩
end Go.Proofs.Ytcadaadoodpnmaa.Am
