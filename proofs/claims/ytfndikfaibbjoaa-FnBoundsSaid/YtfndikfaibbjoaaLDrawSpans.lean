/- Drawn ranges and code; what has a word. No condition. -/
import Derived.Test.YtfndikfaibbjoaaLSteps
import Derived.Test.YtfndikfaibbjoaaLCur
namespace Go.Proofs.Ytfndikfaibbjoaa.Am
open Go Go.RowKit
set_option linter.unusedSimpArgs false
set_option linter.unusedVariables false

def okW (a : Rng) (w : Int) : Bool := decide (GoodR a ∧ 0 ≤ w ∧ w ≤ 65535)
def hasW (a : Rng) (w : Int) : Bool := okW a w && decide (a.em = false ∧ a.lo ≤ w ∧ w ≤ a.hi)
theorem specHas_ok (a : Rng) (w : Int) (H : Hp) : T Try.prog 47 [.agg a.enc, .int .i64 w] H (fun r K => r = .tup [.bool (hasW a w), .bool (okW a w)] ∧ Fr H K) := by
  refine T.by tabOk Try.func47 (by kernel_rfl) rfl _ (by simp [Try.f47]) H _ ?_
  have f0 := Fr.app H [some ⟨3, true, a.enc⟩]
  simp [Try.f47, tab, Rng.enc, loadB]
  refine (goodRange_ok a _).mono fun r K ⟨e1, f1⟩ => ?_
  subst e1
  have hl0 : loadA tB K (.ptr H.length 0) = some (.bool a.em) := by rw [f1.load (by simp [loadB])]; simp [loadB]
  have hl1 : loadA tI K (.ptr H.length 1) = some (.int .i64 a.lo) := by rw [f1.load (by simp [loadB])]; simp [loadB]
  have hl2 : loadA tI K (.ptr H.length 2) = some (.int .i64 a.hi) := by rw [f1.load (by simp [loadB])]; simp [loadB]
  have f01 := f0.trans f1
  by_cases ga : GoodR a
  case neg =>
    have hn : okW a w = false := decide_eq_false fun h => ga h.1
    simp [tab, ga, hn, hasW]
    exact f01
  simp [tab, ga]
  refine (l1Word_ok w _).mono fun r K' ⟨e1, e2⟩ => ?_
  subst e1 e2
  by_cases gw : 0 ≤ w ∧ w ≤ 65535
  case neg =>
    have hn : okW a w = false := decide_eq_false fun h => gw h.2
    simp [tab, gw, hn, hasW]
    exact f01
  have hy : okW a w = true := decide_eq_true ⟨ga, gw⟩
  cases hem : a.em with
  | true =>
    simp [tab, gw, hl0, hem, hasW, hy]
    exact f01
  | false =>
    simp [tab, gw, hl0, hl1, hl2, hem, hasW, hy]
    refine (l1In_ok w a.lo a.hi _).mono fun r K' ⟨e1, e2⟩ => ?_
    subst e1 e2
    simp
    exact f01
theorem implHas_ok (a : Rng) (w : Int) (H : Hp) : T Try.prog 46 [.agg a.enc, .int .i64 w] H (fun r K => r = .tup [.bool (hasW a w), .bool (okW a w)] ∧ Fr H K) := by
  refine T.by tabOk Try.func46 (by kernel_rfl) rfl _ (by simp [Try.f46]) H _ ?_
  have f0 := Fr.app H [some ⟨3, true, a.enc⟩]
  simp [Try.f46, tab, Rng.enc, loadB]
  refine (isSpan_ok a _).mono fun r K ⟨e1, f1⟩ => ?_
  subst e1
  have hl0 : loadA tB K (.ptr H.length 0) = some (.bool a.em) := by rw [f1.load (by simp [loadB])]; simp [loadB]
  have hl1 : loadA tI K (.ptr H.length 1) = some (.int .i64 a.lo) := by rw [f1.load (by simp [loadB])]; simp [loadB]
  have hl2 : loadA tI K (.ptr H.length 2) = some (.int .i64 a.hi) := by rw [f1.load (by simp [loadB])]; simp [loadB]
  have f01 := f0.trans f1
  by_cases ga : GoodR a
  case neg =>
    have hn : okW a w = false := decide_eq_false fun h => ga h.1
    simp [tab, ga, hn, hasW]
    exact f01
  simp [tab, ga]
  refine (isWord_ok w _).mono fun r K' ⟨e1, e2⟩ => ?_
  subst e1 e2
  by_cases gw : 0 ≤ w ∧ w ≤ 65535
  case neg =>
    have hn : okW a w = false := decide_eq_false fun h => gw h.2
    simp [tab, gw, hn, hasW]
    exact f01
  have hy : okW a w = true := decide_eq_true ⟨ga, gw⟩
  cases hem : a.em with
  | true =>
    simp [tab, gw, hl0, hem, hasW, hy]
    exact f01
  | false =>
    simp [tab, gw, hl0, hl1, hl2, hem, hasW, hy]
    refine (in_ok w a.lo a.hi _).mono fun r K' ⟨e1, e2⟩ => ?_
    subst e1 e2
    simp
    exact f01
theorem inRange_ok (a : Rng) (w : Int) (H : Hp) : T Try.prog 49 [.agg a.enc, .int .i64 w] H (fun r K => r = .bool (hasW a w) ∧ Fr H K) := by
  refine T.by tabOk Try.func49 (by kernel_rfl) rfl _ (by simp [Try.f49]) H _ ?_
  have f0 := Fr.app H [some ⟨3, true, a.enc⟩]
  simp [Try.f49, tab, Rng.enc, loadB]
  refine (implHas_ok a w _).mono fun r K ⟨e1, f1⟩ => ?_
  subst e1
  cases ho : okW a w with
  | true =>
    simp [tab]
    exact f0.trans f1
  | false =>
    have : hasW a w = false := by rw [hasW, ho]; rfl
    simp [tab, this]
    exact f0.trans f1
theorem numberOf_ok (bs : List Int) (v : AV) (H : Hp) (hm : bs.length ≤ 1048576) (hv : Row 1 H v (bytesA bs)) (hb : ∀ x ∈ bs, 0 ≤ x ∧ x ≤ 255) : T Try.prog 48 [v] H (fun r K => (∃ n, r = .int .i64 n ∧ 0 ≤ n ∧ n < 1000003) ∧ K = H) := by
  refine T.by tabOk Try.func48 (by kernel_rfl) rfl _ (by simp [Try.f48]) H _ ?_
  have hlen := hv.len 5
  have hlen : lenA (.slice 5) v = some (.int .i64 bs.length) := by simpa [bytesA] using hlen
  simp [Try.f48, tab, hlen]
  refine W_loop _ fun I hI => ?_
  have key : ∀ (r p : List Int) (n : Int) (ts : TS), bs = p ++ r → 0 ≤ n → n < 1000003 → (ts 3 = .int .i64 n ∧ ts 6 = v ∧ ts 7 = .int .i64 bs.length ∧ ts 8 = .int .i64 p.length) → I ts H := by
    intro r
    induction r with
    | nil =>
      intro p n ts e h0 h1 hts
      apply hI
      simp at e
      subst e
      simp [hts, tab, h0, h1]
    | cons a r ih =>
      intro p n ts e h0 h1 hts
      apply hI
      have hlt : (p.length : Int) < bs.length := by simp [e]; omega
      obtain ⟨b, q, _, e1, e2⟩ := Row.get1 hv (tab := tab) (e := 5) (ety := tU8) rfl rfl rfl (i := p.length) (a := a) (by simp [e]) .i64
      have ha := hb a (by simp [e])
      have w1 := wrap64 (x := 31 * n) (by omega) (by omega)
      have w2 := wrap64 (x := a) (by omega) (by omega)
      have w3 := wrap64 (x := 31 * n + a) (by omega) (by omega)
      have w4 := wrap64 (x := p.length + 1) (by omega) (by omega)
      simp [hts, tab, hlt, e1, e2, w1, w2, w3, w4]
      exact ih (p ++ [a]) ((31 * n + a).tmod 1000003) _ (by simp [e]) (Int.tmod_nonneg _ (by omega)) (Int.tmod_lt_of_pos _ (by omega)) (by simp [hts])
  exact key bs [] 0 _ rfl (by omega) (by omega) (by simp)
theorem Moves.of {c : Nat} {H K : Hp} (h : Fr H K) : Moves c H K := Fr.keeps h
theorem ints_row (K : Hp) (L : List Int) : Row 1 (K ++ [some ⟨1, true, L.map (AV.int .i64)⟩]) (.sl K.length 0 L.length) (ints L) := by
  have := (Own.new (sz := 1) (K := K) (es := ints L) (ints_one _)).row
  rw [ints_flatten] at this
  simpa [ints] using this
set_option maxRecDepth 100000 in
theorem drawRng_ok (c : Nat) (n : Int) (H : Hp) (hn : n ≤ 100000) (hc : Cur H c n) : T Try.prog 76 [.ptr c 0] H (fun r K => (∃ x : Rng, r = .agg x.enc) ∧ Cur K c (n + 20) ∧ Moves c H K) := by
  refine T.by tabOk Try.func76 (by kernel_rfl) rfl _ (by simp [Try.f76]) H _ ?_
  have hcl := hc.lt
  obtain ⟨H1, hH1⟩ : ∃ H1, H1 = H ++ [some ⟨3, true, [.bool false, .int .i64 0, .int .i64 0]⟩] := ⟨_, rfl⟩
  have f1 : Fr H H1 := hH1 ▸ Fr.app H _
  have hz : H1[H.length]? = some (some ⟨3, true, [.bool false, .int .i64 0, .int .i64 0]⟩) := by rw [hH1]; simp
  simp [Try.f76, tab]
  rw [← hH1]
  refine (one_ok c 6 n H1 (by omega) (hc.fr f1)).mono fun r K1 ⟨⟨y, e1⟩, c1, m1⟩ => ?_
  subst e1
  have hz1 := m1.2 _ _ hz fun h => by omega
  have M1 : Moves c H K1 := (Moves.of f1).trans m1
  have endAll : ∀ (K K' : Hp), Moves c H K → Keeps (fun b => b = H.length) K K' → Moves c H K' := fun K K' h k => ⟨Nat.le_trans h.1 k.1, fun b blk hb hn => k.2 b blk (h.2 b blk hb hn) fun e => by have := lt_of_get hb; omega⟩
  cases y with
  | true =>
    obtain ⟨K', s1, s2, s3, _⟩ := put_range hz1 rfl ⟨true, 0, 0⟩
    simp only [Rng.enc] at s1 s2
    simp [tab, fillA, over, s1, s2]
    exact ⟨⟨⟨true, 0, 0⟩, rfl⟩, (c1.keeps s3 fun b hb => by omega).mono (by omega), endAll _ _ M1 s3⟩
  | false =>
    have r1 := ints_row K1 [0, 0, 1, 3, 200, 65535]
    simp at r1
    have fB := Fr.app K1 [some ⟨1, true, [.int .i64 0, .int .i64 0, .int .i64 1, .int .i64 3, .int .i64 200, .int .i64 65535]⟩]
    have hl1 := c1.lt
    simp [tab, buildSliceA, zerosA, fillA, over]
    refine (among_ok c _ _ _ _ (by omega) (by simp) (by simp) (c1.fr fB) r1 (fun b hb => by cases hb; omega)).mono fun r K2 ⟨⟨x, e1, hx⟩, c2, m2⟩ => ?_
    subst e1
    have M2 : Moves c H K2 := (M1.trans (Moves.of fB)).trans m2
    have hz2 := m2.2 _ _ (fB.2 _ _ hz1 id) fun h => by omega
    have r2 := ints_row K2 [0, 0, 1, 5, 300]
    simp at r2
    have fC := Fr.app K2 [some ⟨1, true, [.int .i64 0, .int .i64 0, .int .i64 1, .int .i64 5, .int .i64 300]⟩]
    have hl2 := c2.lt
    simp [tab, buildSliceA, zerosA, fillA, over]
    refine (among_ok c _ _ _ _ (by omega) (by simp) (by simp) (c2.fr fC) r2 (fun b hb => by cases hb; omega)).mono fun r K3 ⟨⟨y, e1, hy⟩, c3, m3⟩ => ?_
    subst e1
    have M3 : Moves c H K3 := (M2.trans (Moves.of fC)).trans m3
    have hz3 := m3.2 _ _ (fC.2 _ _ hz2 id) fun h => by omega
    simp [tab]
    refine (least_ok _ 65535 K3).mono fun r K' ⟨e1, e2⟩ => ?_
    subst e1 e2
    generalize hmv : min (IntKind.i64.wrap (x + y)) 65535 = hi
    have fD := Fr.app K' [some ⟨3, true, [.bool false, .int .i64 x, .int .i64 hi]⟩]
    simp [tab, fillA, over, storeB]
    refine (one_ok c 30 _ _ (by omega) (c3.fr fD)).mono fun r K4 ⟨⟨z, e1⟩, c4, m4⟩ => ?_
    subst e1
    have hl3 := c3.lt
    have M4 : Moves c H K4 := (M3.trans (Moves.of fD)).trans m4
    have hz4 := m4.2 _ _ (fD.2 _ _ hz3 id) fun h => by omega
    have hr4 : K4[K'.length]? = some (some ⟨3, true, [.bool false, .int .i64 x, .int .i64 hi]⟩) := m4.2 _ _ (by simp) fun h => by omega
    have hHK := M3.1
    cases z with
    | false =>
      have hld : loadA tR K4 (.ptr K'.length 0) = some (.agg (Rng.enc ⟨false, x, hi⟩)) := by simp [loadA, hr4, Rng.enc]
      obtain ⟨K5, s1, s2, s3, _⟩ := put_range hz4 rfl ⟨false, x, hi⟩
      simp [tab, hld, s1, s2]
      exact ⟨⟨_, rfl⟩, (c4.keeps s3 fun b hb => by omega).mono (by omega), endAll _ _ M4 s3⟩
    | true =>
      simp [tab]
      refine (one_ok c 2 _ K4 (by omega) c4).mono fun r K5 ⟨⟨z1, e1⟩, c5, m5⟩ => ?_
      subst e1
      simp [tab]
      refine (pick_ok c 3 _ K5 (by omega) c5).mono fun r K6 ⟨⟨z2, e1, _⟩, c6, m6⟩ => ?_
      subst e1
      have r3 := ints_row K6 [0, 65535, 65536]
      simp at r3
      have fE := Fr.app K6 [some ⟨1, true, [.int .i64 0, .int .i64 65535, .int .i64 65536]⟩]
      have hl6 := c6.lt
      simp [tab, buildSliceA, zerosA, fillA, over]
      refine (among_ok c _ _ _ _ (by omega) (by simp) (by simp) (c6.fr fE) r3 (fun b hb => by cases hb; omega)).mono fun r K7 ⟨⟨z3, e1, _⟩, c7, m7⟩ => ?_
      subst e1
      have M7 : Moves c H K7 := (((M4.trans m5).trans m6).trans (Moves.of fE)).trans m7
      have hz7 := m7.2 _ _ (fE.2 _ _ (m6.2 _ _ (m5.2 _ _ hz4 fun h => by omega) fun h => by omega) id) fun h => by omega
      have hr7 := m7.2 _ _ (fE.2 _ _ (m6.2 _ _ (m5.2 _ _ hr4 fun h => by omega) fun h => by omega) id) fun h => by omega
      obtain ⟨K8, t1, t2, t3, t4⟩ := put_range hr7 rfl ⟨z1, IntKind.i64.wrap (z2 - 1), z3⟩
      have hz8 := t3.2 _ _ hz7 fun h => by have := lt_of_get hz3; omega
      obtain ⟨K9, s1, s2, s3, _⟩ := put_range hz8 rfl ⟨z1, IntKind.i64.wrap (z2 - 1), z3⟩
      simp only [Rng.enc] at t1 t2 s1 s2
      simp [tab, fillA, over, t1, t2, s1, s2]
      refine ⟨⟨⟨z1, IntKind.i64.wrap (z2 - 1), z3⟩, rfl⟩, ((c7.keeps t3 fun b hb => by omega).keeps s3 fun b hb => by omega).mono (by omega), endAll _ _ ?_ s3⟩
      exact ⟨Nat.le_trans M7.1 t3.1, fun b blk hb hn => t3.2 b blk (M7.2 b blk hb hn) fun e => by have := lt_of_get hb; omega⟩
/-- A row of structs behind which one is put. -/
theorem Own.pushX {sz bytes : Nat} {K : Hp} {v : AV} {es : List (List AV)} {e : List AV} (h : Own sz K v es) (he : e.length = sz) (hsz : 0 < sz) (hb : bytes ≤ 100) (hl : es.length ≤ 1048576) :
    ∃ u K', appendA sz bytes (K ++ [some ⟨sz, true, e⟩]) v (.sl K.length 0 1) = some (u, K') ∧ Own sz K' u (es ++ [e]) ∧ Keeps v.at K K' ∧ ∀ b, u.at b → v.at b ∨ K.length ≤ b := by
  have hmul : (es.length + 1) * bytes ≤ 1048577 * 100 := Nat.mul_le_mul (by omega) hb
  obtain ⟨u, K', a1, a2, a3, a4⟩ := (h.fr (Fr.app K [some ⟨sz, true, e⟩])).append (bytes := bytes) (x := .sl K.length 0 1) (new := [e]) hsz (by subst he; simp [rowOf]) (by simp [he]) (by simp; omega) (by simp; omega)
  refine ⟨u, K', a1, a2, (Fr.keeps (Fr.app K _)).trans a3, fun b hb => ?_⟩
  rcases a4 b hb with h | h
  · exact .inl h
  · simp at h
    exact .inr (by omega)
theorem Moves.up {c : Nat} {H K K' : Hp} {X : Nat → Prop} (h : Moves c H K) (k : Keeps X K K') (hX : ∀ b, X b → H.length ≤ b) : Moves c H K' := ⟨Nat.le_trans h.1 k.1, fun b blk hb hn => k.2 b blk (h.2 b blk hb hn) fun e => by have := hX b e; have := lt_of_get hb; omega⟩
set_option maxRecDepth 100000 in
theorem drawRngs_ok (c : Nat) (n : Int) (H : Hp) (hn : n ≤ 50000) (hc : Cur H c n) : T Try.prog 87 [.ptr c 0] H (fun r K => (∃ R, Own 3 K r (rngs R) ∧ R.length = 8) ∧ Fresh H.length r ∧ Cur K c (n + 200) ∧ Moves c H K) := by
  refine T.by tabOk Try.func87 (by kernel_rfl) rfl _ (by simp [Try.f87]) H _ ?_
  have hcl := hc.lt
  simp [Try.f87]
  refine W_loop _ fun I hI => ?_
  have key : ∀ (d k : Nat) (ts : TS) (K : Hp) (u : AV) (R : List Rng), k + d = 8 → R.length = k → Own 3 K u (rngs R) → Fresh H.length u → Cur K c (n + 22 * k) → Moves c H K → (ts 0 = .ptr c 0 ∧ ts 3 = u ∧ ts 4 = .int .i64 k) → I ts K := by
    intro d
    induction d with
    | zero =>
      intro k ts K u R e hR ho hf hcc hM hts
      apply hI
      obtain rfl : k = 8 := by omega
      simp [hts, tab]
      exact ⟨⟨R, ho, hR⟩, hf, hcc.mono (by omega), hM⟩
    | succ d ih =>
      intro k ts K u R e hR ho hf hcc hM hts
      apply hI
      have hlt : (k : Int) < 8 := by omega
      have hw := wrap64 (x := k + 1) (by omega) (by omega)
      simp [hts, tab, hlt]
      refine (drawRng_ok c _ K (by omega) hcc).mono fun r K1 ⟨⟨x, e1⟩, c1, m1⟩ => ?_
      subst e1
      have ho1 := ho.keeps m1 fun b hb e => by have := hf b hb; omega
      have M1 := hM.trans m1
      have hcl1 := c1.lt
      -- what is put behind
      have next : ∀ (y : Rng) (ts : TS) (K2 : Hp), Own 3 K2 u (rngs R) → Cur K2 c (n + 22 * (k + 1 : Nat)) → Moves c H K2 → (ts 0 = .ptr c 0 ∧ ts 4 = .int .i64 k) → ∃ u' K3, appendA 3 24 (K2 ++ [some ⟨3, true, [.bool y.em, .int .i64 y.lo, .int .i64 y.hi]⟩]) u (.sl K2.length 0 1) = some (u', K3) ∧ ∀ ts' : TS, (ts' 0 = .ptr c 0 ∧ ts' 3 = u' ∧ ts' 4 = .int .i64 (k + 1 : Nat)) → I ts' K3 := by
        intro y ts K2 h2 h3 h4 _
        obtain ⟨u', K3, a1, a2, a3, a4⟩ := h2.pushX (bytes := 24) (e := y.enc) rfl (by decide) (by decide) (by simp; omega)
        refine ⟨u', K3, a1, fun ts' hts' => ih (k + 1) ts' K3 u' (R ++ [y]) (by omega) (by simp [hR]) (by simpa [rngs] using a2) (fun b hb => (a4 b hb).elim (hf b) fun h => Nat.le_trans h4.1 h) (h3.keeps a3 fun b hb => by have := hf b hb; omega) (h4.up a3 hf) hts'⟩
      have fB := Fr.app K1 [some ⟨3, true, [.bool x.em, .int .i64 x.lo, .int .i64 x.hi]⟩]
      have hb1 : (K1 ++ [some ⟨3, true, [.bool x.em, .int .i64 x.lo, .int .i64 x.hi]⟩])[K1.length]? = some (some ⟨3, true, x.enc⟩) := by simp [Rng.enc]
      -- keep it, or take all words in its place
      have keep : ∀ (ts : TS) (K2 : Hp), K2[K1.length]? = some (some ⟨3, true, x.enc⟩) → Own 3 K2 u (rngs R) → Cur K2 c (n + 22 * (k + 1 : Nat)) → Moves c H K2 → True := fun _ _ _ _ _ _ => trivial
      obtain ⟨em, lo, hi⟩ := x
      simp only [Rng.enc] at hb1
      cases em with
      | true =>
        simp (maxDischargeDepth := 9) [hts, tab, Rng.enc, loadB, storeB, over]
        refine (one_ok c 20 _ _ (by omega) (c1.fr fB)).mono fun r K2 ⟨⟨z, e1⟩, c2, m2⟩ => ?_
        subst e1
        have hb2 := m2.2 _ _ hb1 fun h => by omega
        have ho2 := (ho1.fr fB).keeps m2 fun b hb e => by have := hf b hb; omega
        have M2 := (M1.trans (Moves.of fB)).trans m2
        cases z with
        | true =>
          obtain ⟨u', K3, a1, a2⟩ := next ⟨true, lo, hi⟩ ts K2 ho2 (c2.mono (by omega)) M2 ⟨hts.1, hts.2.2⟩
          have hld : loadA tR K2 (.ptr K1.length 0) = some (.agg [.bool true, .int .i64 lo, .int .i64 hi]) := by simp [loadA, hb2]
          simp (maxDischargeDepth := 9) [hts, tab, hld, buildSliceA, zerosA, fillA, over, a1, hw]
          exact a2 _ (by simp [hts])
        | false =>
          obtain ⟨K3, s1, s2, s3, s4⟩ := put_range hb2 rfl ⟨false, 0, 65535⟩
          simp only [Rng.enc] at s1 s2 s4
          obtain ⟨u', K4, a1, a2⟩ := next ⟨false, 0, 65535⟩ ts K3 (ho2.keeps s3 fun b hb e => by have := ho1.lt b hb; omega) ((c2.keeps s3 fun b hb => by omega).mono (by omega)) (Moves.up M2 s3 fun b hb => by have := M1.1; omega) ⟨hts.1, hts.2.2⟩
          simp (maxDischargeDepth := 9) [hts, tab, fillA, over, s1, s2, buildSliceA, zerosA, a1, hw]
          exact a2 _ (by simp [hts])
      | false =>
        simp (maxDischargeDepth := 9) [hts, tab, Rng.enc, loadB, storeB, over]
        refine (goodRange_ok ⟨false, lo, hi⟩ _).mono fun r K2 ⟨e1, f2⟩ => ?_
        subst e1
        have hb2 := f2.2 _ _ hb1 id
        have ho2 := (ho1.fr fB).fr f2
        have c2 := (c1.fr fB).fr f2
        have M2 := (M1.trans (Moves.of fB)).trans (Moves.of f2)
        by_cases hg : GoodR ⟨false, lo, hi⟩
        · obtain ⟨u', K3, a1, a2⟩ := next ⟨false, lo, hi⟩ ts K2 ho2 (c2.mono (by omega)) M2 ⟨hts.1, hts.2.2⟩
          have hld : loadA tR K2 (.ptr K1.length 0) = some (.agg [.bool false, .int .i64 lo, .int .i64 hi]) := by simp [loadA, hb2]
          simp (maxDischargeDepth := 9) [hts, tab, hg, hld, buildSliceA, zerosA, fillA, over, a1, hw]
          exact a2 _ (by simp [hts])
        · simp (maxDischargeDepth := 9) [hts, tab, hg]
          refine (one_ok c 20 _ _ (by omega) c2).mono fun r K3 ⟨⟨z, e1⟩, c3, m3⟩ => ?_
          subst e1
          have hb3 := m3.2 _ _ hb2 fun h => by omega
          have ho3 := ho2.keeps m3 fun b hb e => by have := hf b hb; omega
          have M3 := M2.trans m3
          cases z with
          | true =>
            obtain ⟨u', K4, a1, a2⟩ := next ⟨false, lo, hi⟩ ts K3 ho3 (c3.mono (by omega)) M3 ⟨hts.1, hts.2.2⟩
            have hld : loadA tR K3 (.ptr K1.length 0) = some (.agg [.bool false, .int .i64 lo, .int .i64 hi]) := by simp [loadA, hb3]
            simp (maxDischargeDepth := 9) [hts, tab, hld, buildSliceA, zerosA, fillA, over, a1, hw]
            exact a2 _ (by simp [hts])
          | false =>
            obtain ⟨K4, s1, s2, s3, s4⟩ := put_range hb3 rfl ⟨false, 0, 65535⟩
            simp only [Rng.enc] at s1 s2 s4
            obtain ⟨u', K5, a1, a2⟩ := next ⟨false, 0, 65535⟩ ts K4 (ho3.keeps s3 fun b hb e => by have := ho1.lt b hb; omega) ((c3.keeps s3 fun b hb => by omega).mono (by omega)) (Moves.up M3 s3 fun b hb => by have := M1.1; omega) ⟨hts.1, hts.2.2⟩
            simp (maxDischargeDepth := 9) [hts, tab, fillA, over, s1, s2, buildSliceA, zerosA, a1, hw]
            exact a2 _ (by simp [hts])
  exact key 8 0 _ H .nil [] rfl rfl (by simpa [rngs] using Own.nil 3 H) (Fresh.nil _) (hc.mono (by omega)) (Keeps.refl _ _) (by simp)
/-- A field of a word of code is put. -/
theorem put_ins {K : Hp} {c : Nat} {x : Ins} (h : K[c]? = some (some ⟨5, true, x.enc⟩)) {j : Nat} (hj : j < 5) (v : Int) : ∃ K', storeA tI K (.ptr c j) (.int .i64 v) = some K' ∧ (∃ y : Ins, K'[c]? = some (some ⟨5, true, y.enc⟩)) ∧ Keeps (fun b => b = c) K K' := by
  obtain ⟨K', s1, s2, s3, s4⟩ := store_at h rfl (ty := tI) (o := j) (v := .int .i64 v) rfl rfl (by simp [Ins.enc]; omega)
  refine ⟨K', s1, ?_, s3⟩
  obtain ⟨a, b, d, e, f⟩ := x
  match j, hj with
  | 0, _ => exact ⟨⟨v, b, d, e, f⟩, by simpa [Ins.enc, over] using s2⟩
  | 1, _ => exact ⟨⟨a, v, d, e, f⟩, by simpa [Ins.enc, over] using s2⟩
  | 2, _ => exact ⟨⟨a, b, v, e, f⟩, by simpa [Ins.enc, over] using s2⟩
  | 3, _ => exact ⟨⟨a, b, d, v, f⟩, by simpa [Ins.enc, over] using s2⟩
  | 4, _ => exact ⟨⟨a, b, d, e, v⟩, by simpa [Ins.enc, over] using s2⟩
theorem put_all {K : Hp} {c : Nat} {l : List AV} (h : K[c]? = some (some ⟨5, true, l⟩)) (hl : l.length = 5) (x : Ins) : ∃ K', storeA tN K (.ptr c 0) (.agg x.enc) = some K' ∧ loadA tN K' (.ptr c 0) = some (.agg x.enc) ∧ Keeps (fun b => b = c) K K' ∧ K'[c]? = some (some ⟨5, true, x.enc⟩) := by
  obtain ⟨K', s1, s2, s3, s4⟩ := store_at h rfl (ty := tN) (o := 0) (v := .agg x.enc) rfl rfl (by simp [hl])
  have e : over l 0 x.enc = x.enc := by
    unfold over
    simp [Ins.enc, hl]
  simp only [AV.cells, e] at s2
  exact ⟨K', s1, by simp [loadA, s2, Ins.enc], s3, s2⟩
/-- What holds while a word of code is drawn. -/
structure InsAt (c : Nat) (n : Int) (H : Hp) (d : Nat) (K : Hp) : Prop where
  cell : K[H.length]? = some (some ⟨5, true, [.int .i64 0, .int .i64 0, .int .i64 0, .int .i64 0, .int .i64 0]⟩)
  ins : ∃ x : Ins, K[d]? = some (some ⟨5, true, x.enc⟩)
  cur : Cur K c n
  mov : Moves c H K
theorem InsAt.go {c d : Nat} {n m : Int} {H K K' : Hp} (h : InsAt c n H d K) (hd : H.length < d) (hc : c < H.length) (k : Moves c K K') (hcur : Cur K' c m) : InsAt c m H d K' :=
  ⟨k.2 _ _ h.cell fun e => by omega, h.ins.elim fun x hx => ⟨x, k.2 _ _ hx fun e => by omega⟩, hcur, h.mov.trans k⟩
theorem InsAt.fr {c d : Nat} {n : Int} {H K K' : Hp} (h : InsAt c n H d K) (k : Fr K K') : InsAt c n H d K' :=
  ⟨k.2 _ _ h.cell id, h.ins.elim fun x hx => ⟨x, k.2 _ _ hx id⟩, h.cur.fr k, h.mov.trans (Moves.of k)⟩
theorem InsAt.put {c d : Nat} {n : Int} {H K : Hp} (h : InsAt c n H d K) (hd : H.length < d) (hc : c < H.length) {j : Nat} (hj : j < 5) (v : Int) : ∃ K', storeA tI K (.ptr d j) (.int .i64 v) = some K' ∧ InsAt c n H d K' := by
  obtain ⟨x, hx⟩ := h.ins
  obtain ⟨K', s1, s2, s3⟩ := put_ins hx hj v
  exact ⟨K', s1, s3.2 _ _ h.cell fun e => by omega, s2, h.cur.keeps s3 fun b hb => by omega, Moves.up h.mov s3 fun b hb => by omega⟩
theorem InsAt.op {c d : Nat} {n : Int} {H K : Hp} (h : InsAt c n H d K) : ∃ v : Int, loadA tI K (.ptr d 0) = some (.int .i64 v) := by
  obtain ⟨x, hx⟩ := h.ins
  exact ⟨x.op, load_at hx rfl rfl rfl⟩
theorem InsAt.more {c d : Nat} {n m : Int} {H K : Hp} (h : InsAt c n H d K) (hm : n ≤ m) : InsAt c m H d K := ⟨h.cell, h.ins, h.cur.mono hm, h.mov⟩
set_option maxRecDepth 100000 in
theorem instr_ok (c : Nat) (n : Int) (H : Hp) (hn : n ≤ 100000) (hc : Cur H c n) : T Try.prog 112 [.ptr c 0] H (fun r K => (∃ x : Ins, r = .agg x.enc) ∧ Cur K c (n + 40) ∧ Moves c H K) := by
  refine T.by tabOk Try.func112 (by kernel_rfl) rfl _ (by simp [Try.f112]) H _ ?_
  have hcl := hc.lt
  obtain ⟨H1, hH1⟩ : ∃ H1, H1 = H ++ [some ⟨5, true, [.int .i64 0, .int .i64 0, .int .i64 0, .int .i64 0, .int .i64 0]⟩] := ⟨_, rfl⟩
  have f1 : Fr H H1 := hH1 ▸ Fr.app H _
  have hz : H1[H.length]? = some (some ⟨5, true, [.int .i64 0, .int .i64 0, .int .i64 0, .int .i64 0, .int .i64 0]⟩) := by rw [hH1]; simp
  have r1 := ints_row H1 [1, 2, 3, 3, 4, 5, 6, 7, 8]
  simp at r1
  have fB := Fr.app H1 [some ⟨1, true, [.int .i64 1, .int .i64 2, .int .i64 3, .int .i64 3, .int .i64 4, .int .i64 5, .int .i64 6, .int .i64 7, .int .i64 8]⟩]
  have hlH1 : H1.length = H.length + 1 := by rw [hH1]; simp
  simp [Try.f112, tab]
  rw [← hH1]
  simp [tab, buildSliceA, zerosA, fillA, over]
  refine (among_ok c _ _ _ _ (by omega) (by simp) (by simp) ((hc.fr f1).fr fB) r1 (fun b hb => by cases hb; omega)).mono fun r K1 ⟨⟨x, e1, hx⟩, c1, m1⟩ => ?_
  subst e1
  have hz1 := m1.2 _ _ (fB.2 _ _ hz id) fun h => by omega
  have M1 : Moves c H K1 := (Moves.of (f1.trans fB)).trans m1
  have hlK1 : H.length < K1.length := lt_of_get hz1
  obtain ⟨d, hd⟩ : ∃ d, d = K1.length := ⟨_, rfl⟩
  have fD := Fr.app K1 [some ⟨5, true, [.int .i64 x, .int .i64 0, .int .i64 0, .int .i64 0, .int .i64 0]⟩]
  have A0 : InsAt c (n + 2) H d (K1 ++ [some ⟨5, true, [.int .i64 x, .int .i64 0, .int .i64 0, .int .i64 0, .int .i64 0]⟩]) := ⟨fD.2 _ _ hz1 id, ⟨⟨x, 0, 0, 0, 0⟩, by rw [hd]; simp [Ins.enc]⟩, c1.fr fD, M1.trans (Moves.of fD)⟩
  have hdl : H.length < d := by omega
  simp [-post_sq, tab, buildSliceA, zerosA, fillA, over, storeB]
  rw [← hd]
  obtain ⟨K2, hK2⟩ : ∃ K2, K2 = K1 ++ [some ⟨5, true, [.int .i64 x, .int .i64 0, .int .i64 0, .int .i64 0, .int .i64 0]⟩] := ⟨_, rfl⟩
  rw [← hK2] at A0 ⊢
  clear hK2 fD M1 hz1 m1 c1 r1 fB
  obtain ⟨v1, l1⟩ := A0.op
  simp only [post_sq, W_seq]
  refine W_cut (fun ts K => K = K2 ∧ ts 0 = .ptr c 0 ∧ ts 2 = .ptr H.length 0 ∧ ts 3 = .ptr d 0 ∧ ∃ b, ts 10 = .bool b) (by simp [tab, l1]; omega) ?_
  rintro ts K ⟨rfl, t0, t2, t3, b10, t10⟩
  simp only [post_sq, W_seq]
  refine W_cut (fun ts K => ts 0 = .ptr c 0 ∧ ts 2 = .ptr H.length 0 ∧ ts 3 = .ptr d 0 ∧ InsAt c (n + 4) H d K) ?_ ?_
  · cases b10 with
    | false => simp [t10, t0, t2, t3]; exact A0.more (by omega)
    | true =>
      simp [t10, t0, t2, t3]
      refine (pick_ok c 4 _ _ (by omega) A0.cur).mono fun r K3 ⟨⟨y, e1, _⟩, c3, m3⟩ => ?_
      subst e1
      obtain ⟨K4, s1, s2⟩ := (A0.go hdl hcl m3 c3).put hdl hcl (j := 1) (by omega) y
      simp [t0, t2, t3, tab, s1]
      exact s2.more (by omega)
  clear A0 l1 t0 t2 t3 t10
  rintro ts K ⟨t0, t2, t3, A0⟩
  obtain ⟨v1, l1⟩ := A0.op
  simp only [post_sq, W_seq]
  refine W_cut (fun ts K => ts 0 = .ptr c 0 ∧ ts 2 = .ptr H.length 0 ∧ ts 3 = .ptr d 0 ∧ InsAt c (n + 10) H d K) ?_ ?_
  · by_cases o1 : v1 = 1
    · subst o1
      have r2 := ints_row K [0, 1, 2, 3, 5, 65535]
      simp at r2
      have fB := Fr.app K [some ⟨1, true, [.int .i64 0, .int .i64 1, .int .i64 2, .int .i64 3, .int .i64 5, .int .i64 65535]⟩]
      have hlc := A0.cur.lt
      simp [t0, t2, t3, tab, l1, buildSliceA, zerosA, fillA, over]
      refine (among_ok c _ _ _ _ (by omega) (by simp) (by simp) (A0.cur.fr fB) r2 (fun b hb => by cases hb; omega)).mono fun r K3 ⟨⟨y, e1, _⟩, c3, m3⟩ => ?_
      subst e1
      obtain ⟨K4, s1, s2⟩ := ((A0.fr fB).go hdl hcl m3 c3).put hdl hcl (j := 4) (by omega) y
      simp [t0, t2, t3, tab, s1]
      exact s2.more (by omega)
    simp [t0, t2, t3, tab, l1, o1]
    refine (l3Two_ok v1 _).mono fun r K' ⟨e1, e2⟩ => ?_
    subst e1 e2
    by_cases o2 : 3 ≤ v1 ∧ v1 ≤ 7
    · simp [t0, t2, t3, o2]
      refine (pick_ok c 4 _ _ (by omega) A0.cur).mono fun r K3 ⟨⟨y, e1, _⟩, c3, m3⟩ => ?_
      subst e1
      obtain ⟨K4, s1, s2⟩ := (A0.go hdl hcl m3 c3).put hdl hcl (j := 2) (by omega) y
      simp [t0, t2, t3, tab, s1]
      refine (pick_ok c 4 _ _ (by omega) s2.cur).mono fun r K5 ⟨⟨y2, e1, _⟩, c5, m5⟩ => ?_
      subst e1
      obtain ⟨K6, s3, s4⟩ := (s2.go hdl hcl m5 c5).put hdl hcl (j := 3) (by omega) y2
      simp [t0, t2, t3, tab, s3]
      exact s4.more (by omega)
    · simp [t0, t2, t3, o2]
      refine (pick_ok c 4 _ _ (by omega) A0.cur).mono fun r K3 ⟨⟨y, e1, _⟩, c3, m3⟩ => ?_
      subst e1
      obtain ⟨K4, s1, s2⟩ := (A0.go hdl hcl m3 c3).put hdl hcl (j := 2) (by omega) y
      simp [t0, t2, t3, tab, s1]
      exact s2.more (by omega)
  clear A0 l1 t0 t2 t3
  rintro ts K ⟨t0, t2, t3, A0⟩
  simp [t0]
  refine (one_ok c 60 _ K (by omega) A0.cur).mono fun r K3 ⟨⟨y, e1⟩, c3, m3⟩ => ?_
  subst e1
  have A1 := A0.go hdl hcl m3 c3
  have fin : ∀ (K : Hp) (x : Ins), K[d]? = some (some ⟨5, true, x.enc⟩) → InsAt c (n + 40) H d K → ∃ K', loadA tN K (.ptr d 0) = some (.agg x.enc) ∧ storeA tN K (.ptr H.length 0) (.agg x.enc) = some K' ∧ loadA tN K' (.ptr H.length 0) = some (.agg x.enc) ∧ Cur K' c (n + 40) ∧ Moves c H K' := by
    intro K x hx A
    obtain ⟨K', s1, s2, s3, s4⟩ := put_all A.cell rfl x
    exact ⟨K', by simp [loadA, hx, Ins.enc], s1, s2, A.cur.keeps s3 fun b hb => by omega, Moves.up A.mov s3 fun b hb => by omega⟩
  cases y with
  | false =>
    obtain ⟨x, hx⟩ := A1.ins
    obtain ⟨K', s1, s2, s3, s4, s5⟩ := fin K3 x hx (A1.more (by omega))
    simp [t2, t3, tab, s1, s2, s3]
    exact ⟨⟨x, rfl⟩, s4, s5⟩
  | true =>
    simp [t0, t2, t3]
    refine (pick_ok c 10 _ _ (by omega) A1.cur).mono fun r K4 ⟨⟨y1, e1, _⟩, c4, m4⟩ => ?_
    subst e1
    have A2 := A1.go hdl hcl m4 c4
    simp [t0, t2, t3]
    refine (pick_ok c 10 _ _ (by omega) A2.cur).mono fun r K5 ⟨⟨y2, e1, _⟩, c5, m5⟩ => ?_
    subst e1
    have A3 := A2.go hdl hcl m5 c5
    simp [t0, t2, t3, tab]
    refine (pick_ok c 3 _ _ (by omega) A3.cur).mono fun r K6 ⟨⟨y3, e1, _⟩, c6, m6⟩ => ?_
    subst e1
    have A4 := A3.go hdl hcl m6 c6
    have r2 := ints_row K6 [0, 1, 65536]
    simp at r2
    have fB := Fr.app K6 [some ⟨1, true, [.int .i64 0, .int .i64 1, .int .i64 65536]⟩]
    have hlc := A4.cur.lt
    simp [t0, t2, t3, tab, buildSliceA, zerosA, fillA, over]
    refine (among_ok c _ _ _ _ (by omega) (by simp) (by simp) (A4.cur.fr fB) r2 (fun b hb => by cases hb; omega)).mono fun r K7 ⟨⟨y4, e1, _⟩, c7, m7⟩ => ?_
    subst e1
    have A5 := (A4.fr fB).go hdl hcl m7 c7
    obtain ⟨x0, hx0⟩ := A5.ins
    obtain ⟨K8, p1, p2, p3, p4⟩ := put_all hx0 rfl ⟨y1, IntKind.i64.wrap (y2 - 1), y3, 0, y4⟩
    have A6 : InsAt c (n + 40) H d K8 := ⟨p3.2 _ _ A5.cell fun e => by omega, ⟨_, p4⟩, (A5.cur.keeps p3 fun b hb => by omega).mono (by omega), Moves.up A5.mov p3 fun b hb => by omega⟩
    obtain ⟨K', s1, s2, s3, s4, s5⟩ := fin K8 _ p4 A6
    simp only [Ins.enc] at p1 s1 s2 s3
    simp [t0, t2, t3, tab, fillA, over, p1, s1, s2, s3]
    exact ⟨⟨⟨y1, IntKind.i64.wrap (y2 - 1), y3, 0, y4⟩, rfl⟩, s4, s5⟩
abbrev inss (l : List Ins) : List (List AV) := l.map Ins.enc
set_option maxRecDepth 100000 in
theorem code3_ok (c : Nat) (n : Int) (H : Hp) (hn : n ≤ 50000) (hc : Cur H c n) : T Try.prog 86 [.ptr c 0] H (fun r K => (∃ l, Own 5 K r (inss l) ∧ l.length ≤ 31) ∧ Fresh H.length r ∧ Cur K c (n + 2000) ∧ Moves c H K) := by
  refine T.by tabOk Try.func86 (by kernel_rfl) rfl _ (by simp [Try.f86]) H _ ?_
  have hcl := hc.lt
  simp [Try.f86]
  refine (pick_ok c 10 n H (by omega) hc).mono fun r K0 ⟨⟨x, e1, x0, x1⟩, c0, m0⟩ => ?_
  subst e1
  simp
  refine (one_ok c 20 _ K0 (by omega) c0).mono fun r K1 ⟨⟨y, e1⟩, c1, m1⟩ => ?_
  subst e1
  simp only [After_eq, Rg_nil, post_sq, W_seq]
  refine W_cut (fun ts K => ts 0 = .ptr c 0 ∧ ts 3 = .nil ∧ (∃ x, ts 4 = .int .i64 x ∧ 0 ≤ x ∧ x ≤ 31) ∧ Cur K c (n + 6) ∧ Moves c H K) ?_ ?_
  · cases y with
    | false =>
      simp
      exact ⟨by omega, c1.mono (by omega), m0.trans m1⟩
    | true =>
      simp
      refine (pick_ok c 2 _ K1 (by omega) c1).mono fun r K2 ⟨⟨x, e1, x0, x1⟩, c2, m2⟩ => ?_
      subst e1
      have hw := wrap64 (x := 30 + x) (by omega) (by omega)
      simp [tab, hw]
      exact ⟨by omega, c2.mono (by omega), (m0.trans m1).trans m2⟩
  rintro ts K ⟨t0, t3, ⟨x, t4, x0, x1⟩, cc, hm⟩
  obtain ⟨m, rfl⟩ := Int.eq_ofNat_of_zero_le x0
  clear x0 c0 c1 m0 m1
  simp
  refine W_loop _ fun I hI => ?_
  have key : ∀ (d : Nat) (ts : TS) (K : Hp) (v : AV) (l : List Ins), l.length + d ≤ 31 → Own 5 K v (inss l) → Fresh H.length v → Cur K c (n + 6 + 42 * l.length) → Moves c H K → (ts 0 = .ptr c 0 ∧ ts 3 = v ∧ ts 4 = .int .i64 d) → I ts K := by
    intro d
    induction d with
    | zero =>
      intro ts K v l hl ho hf hcc hK hts
      apply hI
      simp [hts, tab]
      exact ⟨⟨l, ho, by omega⟩, hf, hcc.mono (by omega), hK⟩
    | succ d ih =>
      intro ts K v l hl ho hf hcc hK hts
      apply hI
      have hpos : (0 : Int) < (d : Int) + 1 := by omega
      have hw := wrap64 (x := (d : Int)) (by omega) (by omega)
      simp [hts, tab, hpos]
      refine (instr_ok c _ K (by omega) hcc).mono fun r K1 ⟨⟨x, e1⟩, c1, m1⟩ => ?_
      subst e1
      have ho1 := ho.keeps m1 fun b hb e => by have := hf b hb; omega
      obtain ⟨u', K3, a1, a2, a3, a4⟩ := ho1.pushX (bytes := 40) (e := x.enc) rfl (by decide) (by decide) (by simp; omega)
      have M1 := hK.trans m1
      simp only [Ins.enc] at a1
      simp [hts, tab, hw, Ins.enc, buildSliceA, zerosA, fillA, over, a1]
      exact ih _ K3 u' (l ++ [x]) (by simp; omega) (by simpa [inss] using a2) (fun b hb => (a4 b hb).elim (hf b) fun h => Nat.le_trans M1.1 h) ((c1.keeps a3 fun b hb => by have := hf b hb; omega).mono (by simp; omega)) (Moves.up M1 a3 hf) (by simp [hts])
  exact key m _ K .nil [] (by simp; omega) (by simpa [inss] using Own.nil 5 K) (Fresh.nil _) (cc.mono (by simp)) hm (by simp [t0, t3, t4])
theorem Moves.free {H K : Hp} {x : Option Blk} (h : Moves H.length (H ++ [x]) K) : Fr H K := Fr.then (Fr.app H [x]) h fun b hb => by omega
def DStep (H : Hp) (r : AV) (K : Hp) : Prop := (∃ v w l R, r = .tup [v, w] ∧ Own 5 K v (inss l) ∧ l.length ≤ 31 ∧ Own 3 K w (rngs R) ∧ R.length = 8) ∧ Fr H K
theorem drawStep_ok (v : AV) (H : Hp) (hv : Bytes H v) : T Try.prog 50 [v] H (DStep H) := by
  refine T.by tabOk Try.func50 (by kernel_rfl) rfl _ (by simp [Try.f50]) H _ ?_
  have h1 := hv.one
  have h2 := cells_of_one h1
  simp [Try.f50, tab, fillA, over, h1, h2]
  refine (code3_ok H.length 0 _ (by omega) (cur_new hv)).mono fun u K ⟨⟨l, hl, hll⟩, hf, c1, m1⟩ => ?_
  simp
  refine (drawRngs_ok H.length _ K (by omega) c1).mono fun w K2 ⟨⟨R, hR, hRl⟩, hf2, c2, m2⟩ => ?_
  simp
  exact ⟨⟨u, w, l, R, rfl, hl.keeps m2 fun b hb e => by have := hf b hb; simp at this; omega, hll, hR, hRl⟩, Moves.free (m1.trans m2)⟩
def DTwo (H : Hp) (r : AV) (K : Hp) : Prop := (∃ a b : Rng, r = .tup [.agg a.enc, .agg b.enc]) ∧ Fr H K
theorem drawJoin_ok (v : AV) (H : Hp) (hv : Bytes H v) : T Try.prog 38 [v] H (DTwo H) := by
  refine T.by tabOk Try.func38 (by kernel_rfl) rfl _ (by simp [Try.f38]) H _ ?_
  have h1 := hv.one
  have h2 := cells_of_one h1
  obtain ⟨H1, hH1⟩ : ∃ H1, H1 = H ++ [some ⟨3, true, [.bool false, .int .i64 0, .int .i64 0]⟩, some ⟨3, true, [.bool false, .int .i64 0, .int .i64 0]⟩] := ⟨_, rfl⟩
  have f1 : Fr H H1 := hH1 ▸ Fr.app H _
  have hlH : H1.length = H.length + 2 := by rw [hH1]; simp
  obtain ⟨H2, hH2⟩ : ∃ H2, H2 = H1 ++ [some ⟨3, true, [v, .int .i64 0, .int .u64 0]⟩] := ⟨_, rfl⟩
  have f2 : Fr H1 H2 := hH2 ▸ Fr.app H1 _
  have hc : Cur H2 H1.length 0 := hH2 ▸ cur_new (hv.fr f1)
  have hE : H ++ [some ⟨3, true, [.bool false, .int .i64 0, .int .i64 0]⟩, some ⟨3, true, [.bool false, .int .i64 0, .int .i64 0]⟩, some ⟨3, true, [v, .int .i64 0, .int .u64 0]⟩] = H2 := by rw [hH2, hH1]; simp
  have hza : H2[H.length]? = some (some ⟨3, true, [.bool false, .int .i64 0, .int .i64 0]⟩) := f2.2 _ _ (by rw [hH1]; simp) id
  have hzb : H2[H.length + 1]? = some (some ⟨3, true, [.bool false, .int .i64 0, .int .i64 0]⟩) := f2.2 _ _ (by rw [hH1]; simp) id
  simp [Try.f38, tab, fillA, over, h1, h2]
  rw [hE, ← hlH]
  refine (drawRng_ok H1.length 0 _ (by omega) hc).mono fun r K ⟨⟨x, e1⟩, c1, m1⟩ => ?_
  subst e1
  simp
  refine (drawRng_ok H1.length _ _ (by omega) c1).mono fun r K2 ⟨⟨y, e1⟩, c2, m2⟩ => ?_
  subst e1
  have M2 := m1.trans m2
  have hza2 := M2.2 _ _ hza fun e => by omega
  obtain ⟨K3, s1, s2, s3, s4⟩ := put_range hza2 rfl x
  have hzb3 := s3.2 _ _ (M2.2 _ _ hzb fun e => by omega) fun e => by omega
  obtain ⟨K4, q1, q2, q3, q4⟩ := put_range hzb3 rfl y
  have s2' : loadA tR K4 (.ptr H.length 0) = some (.agg x.enc) := by rw [Keeps.load q3 (by rw [s2]; rfl) (fun b hb => by cases hb; omega)]; exact s2
  simp [tab, s1, q1, s2', q2]
  have F2 : Fr H K2 := Fr.then (f1.trans f2) M2 fun b hb => by omega
  exact ⟨⟨x, y, rfl⟩, Fr.then (Fr.then F2 s3 fun b hb => by omega) q3 fun b hb => by omega⟩
def DHas (H : Hp) (r : AV) (K : Hp) : Prop := (∃ (a : Rng) (w : Int), r = .tup [.agg a.enc, .int .i64 w]) ∧ Fr H K
theorem drawHas_ok (v : AV) (H : Hp) (hv : Bytes H v) : T Try.prog 45 [v] H (DHas H) := by
  refine T.by tabOk Try.func45 (by kernel_rfl) rfl _ (by simp [Try.f45]) H _ ?_
  have h1 := hv.one
  have h2 := cells_of_one h1
  obtain ⟨H1, hH1⟩ : ∃ H1, H1 = H ++ [some ⟨3, true, [.bool false, .int .i64 0, .int .i64 0]⟩] := ⟨_, rfl⟩
  have f1 : Fr H H1 := hH1 ▸ Fr.app H _
  have hlH : H1.length = H.length + 1 := by rw [hH1]; simp
  obtain ⟨H2, hH2⟩ : ∃ H2, H2 = H1 ++ [some ⟨3, true, [v, .int .i64 0, .int .u64 0]⟩] := ⟨_, rfl⟩
  have f2 : Fr H1 H2 := hH2 ▸ Fr.app H1 _
  have hc : Cur H2 H1.length 0 := hH2 ▸ cur_new (hv.fr f1)
  have hE : H ++ [some ⟨3, true, [.bool false, .int .i64 0, .int .i64 0]⟩, some ⟨3, true, [v, .int .i64 0, .int .u64 0]⟩] = H2 := by rw [hH2, hH1]; simp
  have hza : H2[H.length]? = some (some ⟨3, true, [.bool false, .int .i64 0, .int .i64 0]⟩) := f2.2 _ _ (by rw [hH1]; simp) id
  simp [Try.f45, tab, fillA, over, h1, h2]
  rw [hE, ← hlH]
  refine (drawRng_ok H1.length 0 _ (by omega) hc).mono fun r K ⟨⟨x, e1⟩, c1, m1⟩ => ?_
  subst e1
  have r2 := ints_row K [-1, 0, 1, 4, 200, 65535, 65536]
  simp at r2
  have fB := Fr.app K [some ⟨1, true, [.int .i64 (-1), .int .i64 0, .int .i64 1, .int .i64 4, .int .i64 200, .int .i64 65535, .int .i64 65536]⟩]
  have hlc := c1.lt
  simp [tab, buildSliceA, zerosA, fillA, over]
  refine (among_ok H1.length _ _ _ _ (by omega) (by simp) (by simp) (c1.fr fB) r2 (fun b hb => by cases hb; omega)).mono fun r K2 ⟨⟨y, e1, _⟩, c2, m2⟩ => ?_
  subst e1
  have M2 : Moves H1.length H2 K2 := (m1.trans (Moves.of fB)).trans m2
  obtain ⟨K3, s1, s2, s3, s4⟩ := put_range (M2.2 _ _ hza fun e => by omega) rfl x
  simp [tab, s1, s2]
  have F2 : Fr H K2 := Fr.then (f1.trans f2) M2 fun b hb => by omega
  exact ⟨⟨x, y, rfl⟩, Fr.then F2 s3 fun b hb => by omega⟩
end Go.Proofs.Ytfndikfaibbjoaa.Am
