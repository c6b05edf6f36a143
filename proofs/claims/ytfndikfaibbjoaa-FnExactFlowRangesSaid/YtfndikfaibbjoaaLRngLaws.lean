/- The laws' own helpers for ranges. No condition. -/
import Derived.Test.YtfndikfaibbjoaaLRngFlow
namespace Go.Proofs.Ytfndikfaibbjoaa.Am
open Go Go.RowKit
set_option linter.unusedSimpArgs false
set_option linter.unusedVariables false

theorem toRange_ok (e : Rng) (H : Hp) : T Try.prog 11 [.agg e.enc] H (fun r H' => r = .agg e.enc ∧ Fr H H') := by
  refine T.by tabOk Try.func11 (by kernel_rfl) rfl _ (by simp [Try.f11]) H _ ?_
  simp [Try.f11, tab, Rng.enc]
  exact Fr.app _ _
theorem eqRange_ok (a b : Rng) (H : Hp) : T Try.prog 13 [.agg a.enc, .agg b.enc] H (fun r H' => r = .bool (decide (a = b)) ∧ Fr H H') := by
  refine T.by tabOk Try.func13 (by kernel_rfl) rfl _ (by simp [Try.f13]) H _ ?_
  obtain ⟨a1, a2, a3⟩ := a
  obtain ⟨b1, b2, b3⟩ := b
  by_cases h1 : a1 = b1
  case neg => cases a1 <;> cases b1 <;> simp at h1 <;> simp [Try.f13, tab, Rng.enc] <;> exact Fr.app _ _
  subst h1
  by_cases h2 : a2 = b2
  case neg => cases a1 <;> simp [Try.f13, tab, Rng.enc, h2] <;> exact Fr.app _ _
  subst h2
  by_cases h3 : a3 = b3 <;> cases a1 <;> simp [Try.f13, tab, Rng.enc, h3] <;> exact Fr.app _ _
theorem toRangeS_ok (l : List Rng) (v : AV) (H : Hp) (hm : l.length ≤ 1048576) (hv : Row 3 H v (l.map Rng.enc)) : T Try.prog 18 [v] H (fun r H' => Own 3 H' r (l.map Rng.enc) ∧ Fresh H.length r ∧ Fr H H') := by
  refine T.by tabOk Try.func18 (by kernel_rfl) rfl _ (by simp [Try.f18]) H _ ?_
  have hlen := hv.len 23
  obtain ⟨K0, m1, m2, m3⟩ := make_ok (ety := tR) (K := H) (n := l.length) rfl (by decide) (by simp; omega) (by omega)
  simp [Try.f18, tab, hlen, m1]
  refine W_loop _ fun I hI => ?_
  have key : ∀ (r p : List Rng) (ts : TS) (K : Hp) (out : AV), l = p ++ r → Fr H K → Fresh H.length out → Own 3 K out (p.map Rng.enc ++ List.replicate r.length tR.zero) → (ts 0 = v ∧ ts 3 = out ∧ ts 4 = .int .i64 p.length) → I ts K := by
    intro r
    induction r with
    | nil =>
      intro p ts K out hl hK hf ho hts
      apply hI
      simp at hl
      subst hl
      simp (maxDischargeDepth := 9) [hts, hlen, tab]
      exact ⟨by simpa using ho, hf, hK⟩
    | cons a r ih =>
      intro p ts K out hl hK hf ho hts
      apply hI
      have hlt : (p.length : Int) < l.length := by simp [hl]; omega
      obtain ⟨b, q, hb, e1, e2, -⟩ := hv.get (tab := tab) (e := 23) (ety := tR) rfl (i := p.length) (a := a) (by simp [hl]) .i64
      have e2 := e2 rfl
      simp (maxDischargeDepth := 9) [hts, hlen, tab, hlt, hK.index, hK.load, e1, e2]
      refine (toRange_ok a K).mono fun x K1 ⟨hx, h1⟩ => ?_
      subst hx
      obtain ⟨b', rfl, f1, f2⟩ := (ho.fr h1).store (tab := tab) (e := 24) (ety := tR) rfl (i := p.length) (c := tR.zero) (by simp) .i64
      obtain ⟨K2, f3, f4, f5, f6⟩ := f2 tR 0 (.agg a.enc) rfl rfl (by decide)
      have hw := wrap64 (x := p.length + 1) (by omega) (by omega)
      simp at f1 f3
      simp (maxDischargeDepth := 9) [hts, tab, f1, f3, hw]
      refine ih (p ++ [a]) _ _ _ (by simp [hl]) (Fr.then (hK.trans h1) f5 hf) hf ?_ (by simp (maxDischargeDepth := 9) [hts])
      have e : (List.map Rng.enc p ++ List.replicate (a :: r).length tR.zero).set p.length (over tR.zero 0 a.enc) = List.map Rng.enc (p ++ [a]) ++ List.replicate r.length tR.zero := by
        simp [List.replicate_succ, Rng.enc]
      simp only [AV.cells, e] at f4
      exact f4
  refine key l [] _ _ _ rfl m3 ?_ ?_ ⟨rfl, rfl, rfl⟩
  · intro b hb; cases hb; exact Nat.le_refl _
  · simpa using m2
theorem eqRangeS_ok (l l' : List Rng) (v v' : AV) (H : Hp) (hm : l.length ≤ 1048576) (hv : Row 3 H v (l.map Rng.enc)) (hv' : Row 3 H v' (l'.map Rng.enc)) : T Try.prog 22 [v, v'] H (fun r H' => r = .bool (decide (l = l')) ∧ Fr H H') := by
  refine T.by tabOk Try.func22 (by kernel_rfl) rfl _ (by simp [Try.f22]) H _ ?_
  have hlen := hv.len 24
  have hlen' := hv'.len 24
  by_cases hl : l.length = l'.length
  case neg =>
    have hne : (l.length : Int) ≠ l'.length := by omega
    have hne2 : l ≠ l' := fun e => hl (by rw [e])
    simp [Try.f22, tab, hlen, hlen', hne, hne2]
    exact Fr.refl H
  simp [Try.f22, tab, hlen, hlen', hl]
  refine W_loop _ fun I hI => ?_
  have key : ∀ (r p r' : List Rng) (ts : TS) (K : Hp), l = p ++ r → l' = p ++ r' → Fr H K → (ts 0 = v ∧ ts 1 = v' ∧ ts 5 = .int .i64 p.length) → I ts K := by
    intro r
    induction r with
    | nil =>
      intro p r' ts K e e' hK hts
      apply hI
      obtain _ | ⟨a', r'⟩ := r'
      case cons => simp [e, e'] at hl
      simp at e e'
      subst e e'
      simp (maxDischargeDepth := 9) [hts, hlen, tab, hK]
    | cons a r ih =>
      intro p r' ts K e e' hK hts
      obtain _ | ⟨a', r'⟩ := r'
      · simp [e, e'] at hl
      apply hI
      have hlt : (p.length : Int) < l.length := by simp [e]; omega
      obtain ⟨b, q, hb, e1, e2, -⟩ := hv.get (tab := tab) (e := 24) (ety := tR) rfl (i := p.length) (a := a) (by simp [e]) .i64
      have e2 := e2 rfl
      obtain ⟨b', q', hb', e1', e2', -⟩ := hv'.get (tab := tab) (e := 24) (ety := tR) rfl (i := p.length) (a := a') (by simp [e']) .i64
      have e2' := e2' rfl
      simp (maxDischargeDepth := 9) [hts, hlen, tab, hlt]
      refine W_draw mixed (.look 0 (.look 1 (.look 2 (.look 3 (.look 4 (.look 5 (.look 6 (.look 7 (.act 8 [] (.look 9 .done) .stop))))))))) (by kernel_rfl) ?_
      simp (maxDischargeDepth := 9) [hts, hlen, tab, hlt, hK.index, hK.load, e1, e2, e1', e2']
      refine (eqRange_ok a a' K).mono fun x K1 ⟨hx, h1⟩ => ?_
      subst hx
      by_cases ha : a = a'
      · subst ha
        have hw := wrap64 (x := p.length + 1) (by omega) (by omega)
        simp (maxDischargeDepth := 9) [hts, hw]
        exact ih (p ++ [a]) r' _ _ (by simp [e]) (by simp [e']) (hK.trans h1) (by simp (maxDischargeDepth := 9) [hts])
      · simp [ha, hts, e, e']
        exact hK.trans h1
  exact key l [] l' _ _ rfl rfl (Fr.refl H) (by simp)
theorem szRangeS_ok (l : List Rng) (v : AV) (left : Int) (H : Hp) (h1 : -1 ≤ left) (h2 : left ≤ 1048576) (hm : l.length ≤ 140737488355328) (hv : Row 3 H v (l.map Rng.enc)) : T Try.prog 15 [v, .int .i64 left] H (fun r K => r = .int .i64 (if left < l.length then -1 else left - l.length) ∧ K = H) := by
  refine T.by tabOk Try.func15 (by kernel_rfl) rfl _ (by simp [Try.f15]) H _ ?_
  have hlen := hv.len 23
  have hw := wrap64 (x := left - l.length) (by omega) (by omega)
  by_cases h : left < l.length
  · have h' : left - (l.length : Int) < 0 := by omega
    simp [Try.f15, tab, hlen, hw, h, h']
  · have h' : ¬ left - (l.length : Int) < 0 := by omega
    simp [Try.f15, tab, hlen, hw, h, h']
/-- The range that is marked with k. -/
def mkR (k : Int) : Rng := ⟨decide (k.tmod 3 = 0), k + 1, k + 2⟩
def mkRs (k : Int) : Nat → List Rng
  | 0 => []
  | n + 1 => mkRs k n ++ [mkR (k + 3 * n)]
theorem mkRs_len (k : Int) (n : Nat) : (mkRs k n).length = n := by induction n <;> simp [mkRs, *]
theorem mkRs_get (k : Int) : ∀ {n j : Nat}, j < n → (mkRs k n)[j]? = some (mkR (k + 3 * j))
  | n + 1, j, h => by
    by_cases e : j < n
    · rw [mkRs, List.getElem?_append_left (by rw [mkRs_len]; exact e)]
      exact mkRs_get k e
    · obtain rfl : j = n := by omega
      rw [mkRs, List.getElem?_append_right (by rw [mkRs_len]; exact Nat.le_refl _), mkRs_len]
      simp
/-- A field is put into a row of ranges. -/
theorem Own.setRng {K : Hp} {v : AV} {A B : List Rng} {y : Rng} (h : Own 3 K v (rngs (A ++ y :: B))) :
    ∃ b, indexAddrA tab (.slice 24) K v (.int .i64 A.length) = some (.ptr b (A.length * 3)) ∧ (∀ x : Bool, ∃ K', storeA tB K (.ptr b (A.length * 3)) (.bool x) = some K' ∧ Own 3 K' v (rngs (A ++ ⟨x, y.lo, y.hi⟩ :: B)) ∧ Keeps v.at K K') ∧ (∀ x : Int, ∃ K', storeA tI K (.ptr b (A.length * 3 + 1)) (.int .i64 x) = some K' ∧ Own 3 K' v (rngs (A ++ ⟨y.em, x, y.hi⟩ :: B)) ∧ Keeps v.at K K') ∧
      ∀ x : Int, ∃ K', storeA tI K (.ptr b (A.length * 3 + 2)) (.int .i64 x) = some K' ∧ Own 3 K' v (rngs (A ++ ⟨y.em, y.lo, x⟩ :: B)) ∧ Keeps v.at K K' := by
  obtain ⟨b, hb, f1, f2⟩ := h.store (tab := tab) (e := 24) (ety := tR) rfl (i := A.length) (c := y.enc) (by simp) .i64
  have fin : ∀ (z : Rng) (o : Nat) (c : List AV), over y.enc o c = z.enc → (rngs (A ++ y :: B)).set A.length (over y.enc o c) = rngs (A ++ z :: B) := by
    intro z o c e
    rw [e]
    simp [rngs]
  refine ⟨b, by simpa using f1, fun x => ?_, fun x => ?_, fun x => ?_⟩
  · obtain ⟨K', f3, f4, f5, f6⟩ := f2 tB 0 (.bool x) rfl rfl (by decide)
    refine ⟨K', by simpa using f3, ?_, f5⟩
    rw [← fin ⟨x, y.lo, y.hi⟩ 0 [.bool x] rfl]
    exact f4
  · obtain ⟨K', f3, f4, f5, f6⟩ := f2 tI 1 (.int .i64 x) rfl rfl (by decide)
    refine ⟨K', by simpa using f3, ?_, f5⟩
    rw [← fin ⟨y.em, x, y.hi⟩ 1 [.int .i64 x] rfl]
    exact f4
  · obtain ⟨K', f3, f4, f5, f6⟩ := f2 tI 2 (.int .i64 x) rfl rfl (by decide)
    refine ⟨K', by simpa using f3, ?_, f5⟩
    rw [← fin ⟨y.em, y.lo, x⟩ 2 [.int .i64 x] rfl]
    exact f4
set_option maxRecDepth 100000 in
theorem markRangeS_ok (l : List Rng) (v : AV) (k0 : Int) (H : Hp) (hk0 : 0 ≤ k0) (hk1 : k0 ≤ 1099511627776000) (hm : l.length ≤ 1048576) (hv : Own 3 H v (rngs l)) : T Try.prog 24 [v, .int .i64 k0] H (fun r K => r = .int .i64 (k0 + 3 * l.length) ∧ Own 3 K v (rngs (mkRs k0 l.length)) ∧ Keeps v.at H K) := by
  refine T.by tabOk Try.func24 (by kernel_rfl) rfl _ (by simp [Try.f24]) H _ ?_
  simp [Try.f24]
  refine W_loop _ fun I hI => ?_
  have key : ∀ (r p : List Rng) (ts : TS) (K : Hp), l = p ++ r → Own 3 K v (rngs (mkRs k0 p.length ++ r)) → Keeps v.at H K → (ts 0 = v ∧ ts 1 = .int .i64 (k0 + 3 * p.length) ∧ ts 5 = .int .i64 p.length) → I ts K := by
    intro r
    induction r with
    | nil =>
      intro p ts K e ho hK hts
      apply hI
      simp at e
      subst e
      have hlen := ho.row.len 24
      simp [mkRs_len] at hlen ho
      simp [hts, tab, hlen]
      exact ⟨ho, hK⟩
    | cons y r ih =>
      intro p ts K e ho hK hts
      apply hI
      have hlen := ho.row.len 24
      have hll : l.length = p.length + (r.length + 1) := by rw [e]; simp
      simp [mkRs_len] at hlen
      have hlt : (p.length : Int) < p.length + ((r.length : Int) + 1) := by omega
      obtain ⟨b0, p0, c0, -, -⟩ := ho.setRng
      obtain ⟨K0, q0, o0, r0⟩ := c0 (decide ((k0 + 3 * p.length).tmod 3 = 0))
      obtain ⟨b1, p1, -, c1, -⟩ := o0.setRng
      obtain ⟨K1, q1, o1, r1⟩ := c1 (k0 + 3 * p.length + 1)
      obtain ⟨b2, p2, -, -, c2⟩ := o1.setRng
      obtain ⟨K2, q2, o2, r2⟩ := c2 (k0 + 3 * p.length + 1 + 1)
      simp only [mkRs_len] at p0 q0 p1 q1 p2 q2
      have hw1 := wrap64 (x := k0 + 3 * p.length + 1) (by omega) (by omega)
      have hw2 := wrap64 (x := k0 + 3 * p.length + 1 + 1) (by omega) (by omega)
      have hw3 := wrap64 (x := k0 + 3 * p.length + 1 + 1 + 1) (by omega) (by omega)
      have hw6 := wrap64 (x := (p.length : Int) + 1) (by omega) (by omega)
      have d0 : ((k0 + 3 * p.length).tmod 3 == 0) = decide ((k0 + 3 * p.length).tmod 3 = 0) := rfl
      simp (maxDischargeDepth := 9) [hts, tab, hlen, hlt, d0, p0, q0, p1, q1, p2, q2, hw1, hw2, hw3, hw6]
      refine ih (p ++ [y]) _ K2 (by simp [e]) ?_ (((hK.trans r0).trans r1).trans r2) (by simp [hts]; omega)
      have e2 : mkRs k0 (p ++ [y]).length ++ r = mkRs k0 p.length ++ ⟨decide ((k0 + 3 * p.length).tmod 3 = 0), k0 + 3 * p.length + 1, k0 + 3 * p.length + 1 + 1⟩ :: r := by
        simp [mkRs, mkR]
        omega
      rw [e2]
      exact o2
  exact key l [] _ H rfl (by simpa [mkRs] using hv) (Keeps.refl _ _) (by simp)
set_option maxRecDepth 100000 in
theorem heldRangeS_ok (n : Nat) (v : AV) (k0 : Int) (H : Hp) (hk0 : 0 ≤ k0) (hk1 : k0 ≤ 1099511627776000) (hm : n ≤ 1048576) (hv : Row 3 H v (rngs (mkRs k0 n))) : T Try.prog 37 [v, .int .i64 k0] H (fun r K => r = .int .i64 (k0 + 3 * n) ∧ K = H) := by
  refine T.by tabOk Try.func37 (by kernel_rfl) rfl _ (by simp [Try.f37]) H _ ?_
  have hlen := hv.len 24
  simp only [List.length_map, mkRs_len] at hlen
  simp [Try.f37]
  refine W_loop _ fun I hI => ?_
  have key : ∀ (d j : Nat) (ts : TS), j + d = n → (ts 0 = v ∧ ts 1 = .int .i64 (k0 + 3 * j) ∧ ts 5 = .int .i64 j) → I ts H := by
    intro d
    induction d with
    | zero =>
      intro j ts e hts
      apply hI
      obtain rfl : j = n := by omega
      simp [hts, tab, hlen]
    | succ d ih =>
      intro j ts e hts
      apply hI
      have hlt : (j : Int) < n := by omega
      obtain ⟨b, q, _, e1, -, e3⟩ := hv.get (tab := tab) (e := 24) (ety := tR) rfl (i := j) (a := mkR (k0 + 3 * j)) (by exact mkRs_get k0 (by omega)) .i64
      have j0 := e3 tB 0 rfl rfl (by decide)
      have j1 := e3 tI 1 rfl rfl (by decide)
      have j2 := e3 tI 2 rfl rfl (by decide)
      simp only [mkR, Rng.enc, Nat.add_zero, List.getElem?_cons_zero, List.getElem?_cons_succ] at j0 j1 j2
      have hw1 := wrap64 (x := k0 + 3 * j + 1) (by omega) (by omega)
      have hw2 := wrap64 (x := k0 + 3 * j + 1 + 1) (by omega) (by omega)
      have hw3 := wrap64 (x := k0 + 3 * j + 1 + 1 + 1) (by omega) (by omega)
      have hw6 := wrap64 (x := (j : Int) + 1) (by omega) (by omega)
      have d0 : ((k0 + 3 * j).tmod 3 == 0) = decide ((k0 + 3 * j).tmod 3 = 0) := rfl
      have d2 : k0 + 3 * (j : Int) + 2 = k0 + 3 * j + 1 + 1 := by omega
      rw [d2] at j2
      simp (maxDischargeDepth := 9) [hts, tab, hlen, hlt, d0, e1, j0, j1, j2, hw1, hw2, hw3, hw6]
      exact ih (j + 1) _ (by omega) (by simp [hts]; omega)
  exact key n 0 _ (by omega) (by simp)
/-- The grid of the marks. -/
def mkG (k : Int) : Nat → List (List Rng)
  | 0 => []
  | n + 1 => mkG k n ++ [mkRs (k + 24 * n) 8]
theorem mkG_len (k : Int) (n : Nat) : (mkG k n).length = n := by induction n <;> simp [mkG, *]
theorem mkG_get (k : Int) : ∀ {n j : Nat}, j < n → (mkG k n)[j]? = some (mkRs (k + 24 * j) 8)
  | n + 1, j, h => by
    by_cases e : j < n
    · rw [mkG, List.getElem?_append_left (by rw [mkG_len]; exact e)]
      exact mkG_get k e
    · obtain rfl : j = n := by omega
      rw [mkG, List.getElem?_append_right (by rw [mkG_len]; exact Nat.le_refl _), mkG_len]
      simp
set_option maxRecDepth 100000 in
theorem eqRangeSS_ok (n : Nat) (S : List (List Rng)) (us us' : List AV) (v v' : AV) (H : Hp) (hn : n ≤ 1048576) (hS : Wide n S) (hv : GOwn Rng.enc H v S us) (hv' : GOwn Rng.enc H v' S us') : T Try.prog 20 [v, v'] H (fun r H' => r = .bool true ∧ Fr H H') := by
  refine T.by tabOk Try.func20 (by kernel_rfl) rfl _ (by simp [Try.f20]) H _ ?_
  have hlen := hv.count 39
  have hlen' := hv'.count 39
  have hSn := hS.1
  rw [hSn] at hlen hlen'
  have hlen := hv.count
  have hlen' := hv'.count
  simp only [hSn] at hlen hlen'
  simp [Try.f20, tab, hlen, hlen']
  refine W_loop _ fun I hI => ?_
  have key : ∀ (d j : Nat) (ts : TS) (K : Hp), j + d = n → Fr H K → (ts 0 = v ∧ ts 1 = v' ∧ ts 5 = .int .i64 j) → I ts K := by
    intro d
    induction d with
    | zero =>
      intro j ts K e hK hts
      apply hI
      obtain rfl : j = n := by omega
      simp [hts, tab, hlen, hlen', hK]
    | succ d ih =>
      intro j ts K e hK hts
      apply hI
      have hlt : (j : Int) < n := by omega
      obtain ⟨b, q, u, hu, i1, i2, i3, -⟩ := (hv.fr hK).get (e := 39) (ety := tLR) rfl rfl rfl (i := j) (by omega)
      obtain ⟨b', q', u', hu', i1', i2', i3', -⟩ := (hv'.fr hK).get (e := 39) (ety := tLR) rfl rfl rfl (i := j) (by omega)
      have hr := (hS.row (i := j) (by omega)).1
      have hw6 := wrap64 (x := (j : Int) + 1) (by omega) (by omega)
      simp (maxDischargeDepth := 9) [hts, tab, hlen, hlen', hlt]
      refine W_draw mixed (.look 0 (.look 1 (.look 2 (.look 3 (.look 4 (.look 5 (.look 6 (.look 7 (.act 8 [] (.look 9 .done) .stop))))))))) (by kernel_rfl) ?_
      simp (maxDischargeDepth := 9) [hts, tab, i1, i2, i1', i2']
      refine (eqRangeS_ok (rowG S j) (rowG S j) u u' K (by omega) i3.row i3'.row).mono fun y K1 ⟨y1, y2⟩ => ?_
      subst y1
      simp (maxDischargeDepth := 9) [hts, tab, hw6]
      exact ih (j + 1) _ K1 (by omega) (hK.trans y2) (by simp [hts])
  exact key n 0 _ H (by omega) (Fr.refl _) (by simp)
set_option maxRecDepth 100000 in
theorem markRangeSS_ok (n : Nat) (S : List (List Rng)) (us : List AV) (v : AV) (H : Hp) (hn : n ≤ 1048576) (hS : Wide n S) (hv : GOwn Rng.enc H v S us) : T Try.prog 25 [v, .int .i64 1] H (fun r K => r = .int .i64 (1 + 24 * n) ∧ GOwn Rng.enc K v (mkG 1 n) us ∧ Keeps (fun b => ∃ u ∈ us, u.at b) H K) := by
  refine T.by tabOk Try.func25 (by kernel_rfl) rfl _ (by simp [Try.f25]) H _ ?_
  have hSn := hS.1
  have hlen := hv.count
  simp only [hSn] at hlen
  simp [Try.f25]
  refine W_loop _ fun I hI => ?_
  have key : ∀ (r p : List (List Rng)) (ts : TS) (K : Hp), S = p ++ r → GOwn Rng.enc K v (mkG 1 p.length ++ r) us → Keeps (fun b => ∃ u ∈ us, u.at b) H K → (ts 0 = v ∧ ts 1 = .int .i64 (1 + 24 * p.length) ∧ ts 5 = .int .i64 p.length) → I ts K := by
    intro r
    induction r with
    | nil =>
      intro p ts K e ho hK hts
      apply hI
      simp at e
      subst e
      simp only [List.append_nil, hSn] at ho
      simp [hts, tab, hlen, hSn]
      exact ⟨ho, hK⟩
    | cons y r ih =>
      intro p ts K e ho hK hts
      apply hI
      have hlt : (p.length : Int) < n := by rw [← hSn, e]; simp; omega
      have hy : y.length = 8 := hS.2 y (by rw [e]; simp)
      obtain ⟨b, q, u, hu, i1, i2, i3, -⟩ := ho.get (e := 39) (ety := tLR) rfl rfl rfl (i := p.length) (by simp [mkG_len])
      have hr : rowG (mkG 1 p.length ++ y :: r) p.length = y := by
        unfold rowG
        rw [List.getD_eq_getElem?_getD, List.getElem?_append_right (by rw [mkG_len]; exact Nat.le_refl _), mkG_len]
        simp
      rw [hr] at i3
      have hw6 := wrap64 (x := (p.length : Int) + 1) (by omega) (by omega)
      simp (maxDischargeDepth := 9) [hts, tab, hlen, hlt, i1, i2]
      refine (markRangeS_ok y u (1 + 24 * p.length) K (by omega) (by omega) (by omega) i3).mono fun x K1 ⟨x1, x2, x3⟩ => ?_
      subst x1
      simp (maxDischargeDepth := 9) [hts, tab, hw6]
      refine ih (p ++ [y]) _ K1 (by simp [e]) ?_ (hK.trans (x3.mono fun b hb => ⟨u, List.mem_of_getElem? hu, hb⟩)) (by simp [hts, hy]; omega)
      have e2 : mkG 1 (p ++ [y]).length ++ r = (mkG 1 p.length ++ y :: r).set p.length (mkRs (1 + 24 * p.length) y.length) := by
        rw [hy]
        simp [mkG, List.set_append, mkG_len]
      rw [e2]
      exact ho.inRow hu x2 x3
  exact key S [] _ H rfl (by simpa [mkG] using hv) (Keeps.refl _ _) (by simp)
set_option maxRecDepth 100000 in
theorem heldRangeSS_ok (n : Nat) (us : List AV) (v : AV) (H : Hp) (hn : n ≤ 1048576) (hv : GOwn Rng.enc H v (mkG 1 n) us) : T Try.prog 26 [v, .int .i64 1] H (fun r K => r = .int .i64 (1 + 24 * n) ∧ K = H) := by
  refine T.by tabOk Try.func26 (by kernel_rfl) rfl _ (by simp [Try.f26]) H _ ?_
  have hlen := hv.count
  simp only [mkG_len] at hlen
  simp [Try.f26]
  refine W_loop _ fun I hI => ?_
  have key : ∀ (d j : Nat) (ts : TS), j + d = n → (ts 0 = v ∧ ts 1 = .int .i64 (1 + 24 * j) ∧ ts 5 = .int .i64 j) → I ts H := by
    intro d
    induction d with
    | zero =>
      intro j ts e hts
      apply hI
      obtain rfl : j = n := by omega
      simp [hts, tab, hlen]
    | succ d ih =>
      intro j ts e hts
      apply hI
      have hlt : (j : Int) < n := by omega
      obtain ⟨b, q, u, hu, i1, i2, i3, -⟩ := hv.get (e := 39) (ety := tLR) rfl rfl rfl (i := j) (by rw [mkG_len]; omega)
      have hr : rowG (mkG 1 n) j = mkRs (1 + 24 * j) 8 := by
        unfold rowG
        rw [List.getD_eq_getElem?_getD, mkG_get 1 (by omega)]
        rfl
      rw [hr] at i3
      have hw6 := wrap64 (x := (j : Int) + 1) (by omega) (by omega)
      have hneg : ¬ (1 : Int) + 24 * j + 3 * 8 < 0 := by omega
      have hneg2 : ¬ (1 : Int) + 24 * j + 24 < 0 := by omega
      simp (maxDischargeDepth := 9) [hts, tab, hlen, hlt, i1, i2]
      refine (heldRangeS_ok 8 u (1 + 24 * j) H (by omega) (by omega) (by decide) i3.row).mono fun x K1 ⟨x1, x2⟩ => ?_
      subst x1 x2
      simp (maxDischargeDepth := 9) [hts, tab, hw6, hneg, hneg2]
      exact ih (j + 1) _ (by omega) (by simp [hts]; omega)
  exact key n 0 _ (by omega) (by simp)
theorem rngs_open (H : Hp) (x : AV) (h : SSl 3 24 (SPair SBool (SPair (SInt .i64) (SInt .i64))) H [x]) : ∃ l, Row 3 H x (rngs l) ∧ l.length ≤ 140737488355328 := by
  obtain ⟨v, es, e1, h1, h2, h3, h4⟩ := h
  cases e1
  obtain ⟨l, rfl, hl⟩ := map_of_all (enc := Rng.enc) (q := fun _ => True) (es := es) (fun e he => by
    obtain ⟨_, _, rfl, ⟨a, rfl⟩, _, _, rfl, ⟨b, rfl, _⟩, ⟨c, rfl, _⟩⟩ := h4 e he
    exact ⟨⟨a, b, c⟩, rfl, trivial⟩)
  exact ⟨l, h1, by simp at h3; omega⟩
end Go.Proofs.Ytfndikfaibbjoaa.Am
