/- The ranges ahead of every block: the reference's way. No condition. -/
import Derived.Test.YtfndikfaibbjoaaLRngAll
namespace Go.Proofs.Ytfndikfaibbjoaa.Am
open Go Go.RowKit
set_option linter.unusedSimpArgs false
set_option linter.unusedVariables false

set_option maxHeartbeats 1000000 in
set_option maxRecDepth 100000 in
theorem specFR_ok (f : List Bk) (ws : List AV) (fv : AV) (R : List Rng) (rv : AV) (H : Hp) (hm : f.length ≤ 1048576) (hmm : ∀ t ∈ f, t.code.length ≤ 1048576) (hmv : R.length ≤ 1048576) (hv : FRow H fv f ws) (hw : Row 3 H rv (rngs R)) : T Try.prog 16 [fv, rv] H (FrAt f R H) := by
  refine T.by tabOk Try.func16 (by kernel_rfl) rfl _ (by simp [Try.f16]) H _ ?_
  simp [-W_block, Try.f16]
  refine (goodFlow_ok f ws fv H hm hmm hv).mono fun r K ⟨⟨t, h1, h2⟩, h3⟩ => ?_
  subst h1
  cases t with
  | false =>
    simp [-W_block, tab]
    exact FrAt.no (fun h => by cases h2.2 h.1) h3
  | true =>
  have hg := h2.1 rfl
  simp [-W_block, tab]
  refine (l6Ranges_ok R rv K hmv (hw.fr h3)).mono fun r K1 ⟨⟨t, g1, g2⟩, g3⟩ => ?_
  subst g1
  have F1 := h3.trans g3
  cases t with
  | false =>
    simp [-W_block, tab]
    exact FrAt.no (fun h => by cases g2.2 h.2.1) F1
  | true =>
  have hgR := g2.1 rfl
  have hR8 := hgR.1
  have hlr := (hw.fr F1).len 24
  have hlr : lenA (.slice 24) rv = some (.int .i64 8) := by rw [hlr]; simp [hR8]
  simp [-W_block, tab, hlr]
  refine W_cut (fun ts K => FullR R ∧ Fr H K ∧ ts 0 = fv ∧ ts 1 = rv) ?_ ?_
  · simp only [W_block]
    refine W_loop _ fun I hI => ?_
    have key : ∀ (r p : List Rng) (ts : TS) (K : Hp), R = p ++ r → (∀ x ∈ p, x.em = false) → Fr H K → (ts 0 = fv ∧ ts 1 = rv ∧ ts 26 = rv ∧ ts 27 = .int .i64 8 ∧ ts 28 = .int .i64 p.length) → I ts K := by
      intro r
      induction r with
      | nil =>
        intro p ts K e hp hK hts
        apply hI
        simp at e
        subst e
        simp [hts, tab, hR8]
        exact ⟨⟨hgR, hp⟩, hK⟩
      | cons x r ih =>
        intro p ts K e hp hK hts
        apply hI
        have hlt : (p.length : Int) < 8 := by rw [e] at hR8; simp at hR8; omega
        have hwp := wrap64 (x := (p.length : Int) + 1) (by omega) (by omega)
        obtain ⟨b, q, _, e1, e2, -⟩ := (hw.fr hK).get (tab := tab) (e := 24) (ety := tR) rfl (i := p.length) (a := x) (by simp [e]) .i64
        have e2 := e2 rfl
        cases hx : x.em with
        | true =>
          simp only [Rng.enc, hx] at e2
          simp (maxDischargeDepth := 9) [hts, tab, hlt, e1, e2, storeB, over]
          refine FrAt.no (fun h => ?_) (hK.trans (Fr.app _ _))
          have := h.2.2 x (by simp [e])
          rw [hx] at this
          cases this
        | false =>
          simp only [Rng.enc, hx] at e2
          simp (maxDischargeDepth := 9) [hts, tab, hlt, e1, e2, storeB, over, hwp]
          exact ih (p ++ [x]) _ _ (by simp [e]) (fun y hy => by
            rcases List.mem_append.1 hy with hy | hy
            · exact hp y hy
            · simp at hy; rw [hy]; exact hx) (hK.trans (Fr.app _ _)) (by simp [hts])
    exact key R [] _ K1 rfl (by simp) F1 (by simp)
  rintro ts K2 ⟨hfull, F2, hts⟩
  simp only [post_sq, W_seq]
  have h1 := hg.1.1
  have h8 := hg.1.2
  have hlen := hv.count 78
  simp [-W_block, hts, tab, hlen]
  refine W_cut (fun ts K => (∃ us, GOwn Rng.enc K (ts 9) (List.replicate f.length (List.replicate 8 emR)) us ∧ ∀ u ∈ us, Fresh H.length u) ∧ Fresh H.length (ts 9) ∧ Fr H K ∧ ts 0 = fv ∧ ts 1 = rv) ?_ ?_
  · simp only [W_block]
    refine W_loop _ fun I hI => ?_
    have key : ∀ (m p : Nat) (ts : TS) (K : Hp) (o : AV) (us : List AV), p + m = f.length → GOwn Rng.enc K o (List.replicate p (List.replicate 8 emR)) us → (∀ u ∈ us, Fresh H.length u) → Fresh H.length o → Fr H K → (ts 0 = fv ∧ ts 1 = rv ∧ ts 9 = o ∧ ts 36 = .int .i64 f.length ∧ ts 37 = .int .i64 p) → I ts K := by
      intro m
      induction m with
      | zero =>
        intro p ts K o us e ho hf hfo hK hts
        apply hI
        obtain rfl : p = f.length := by omega
        simp [hts, tab]
        exact ⟨⟨us, ho, hf⟩, hfo, hK⟩
      | succ m ih =>
        intro p ts K o us e ho hf hfo hK hts
        apply hI
        have hlt : (p : Int) < f.length := by omega
        simp [hts, tab, hlt]
        refine W_loop _ fun I2 hI2 => ?_
        have key2 : ∀ (m2 j : Nat) (ts : TS) (K2 : Hp) (w : AV), j + m2 = 8 → Own 3 K2 w (rngs (List.replicate j emR)) → Fresh K.length w → Fr K K2 → (ts 0 = fv ∧ ts 1 = rv ∧ ts 9 = o ∧ ts 36 = .int .i64 f.length ∧ ts 37 = .int .i64 p ∧ ts 10 = w ∧ ts 11 = .int .i64 j) → I2 ts K2 := by
          intro m2
          induction m2 with
          | zero =>
            intro j ts K2 w e2 hw hfw hK2 hts
            apply hI2
            obtain rfl : j = 8 := by omega
            have hw1 := hw.row.one
            have hw2 := hw.row.self
            have holt := ho.lt
            obtain ⟨o', K4, g1, g2, g3, g4⟩ := (ho.fr hK2).push hw (by intro b hb hx; have := hfw b hb; have := holt b hx; omega) (by simp; omega)
            have hwp := wrap64 (x := (p : Int) + 1) (by omega) (by omega)
            simp (maxDischargeDepth := 9) [hts, tab, hwp, buildSliceA, zerosA, fillA, over, hw1, hw2, g1]
            refine ih (p + 1) _ K4 o' (us ++ [w]) (by omega) (by rw [List.replicate_succ']; exact g2) (fun u hu => ?_) (fun b hb => (g4 b hb).elim (hfo b) fun h => ?_) (Fr.then (hK.trans hK2) g3 hfo) (by simp [hts])
            · rcases List.mem_append.1 hu with hu | hu
              · exact hf u hu
              · simp at hu; subst hu; exact hfw.mono hK.1
            · have := hK.1; have := hK2.1; omega
          | succ m2 ih2 =>
            intro j ts K2 w e2 hw hfw hK2 hts
            apply hI2
            have hj : (j : Int) < 8 := by omega
            have hwj := wrap64 (x := (j : Int) + 1) (by omega) (by omega)
            obtain ⟨w', K3, a1, a2, a3, a4⟩ := em_push hw (by omega)
            simp [hts, tab, hj, hwj, buildSliceA, zerosA, fillA, over, a1]
            exact ih2 (j + 1) _ K3 w' (by omega) a2 (fun b hb => (a4 b hb).elim (hfw b) fun h => Nat.le_trans hK2.1 h) (Fr.then hK2 a3 hfw) (by simp [hts])
        exact key2 8 0 _ K .nil rfl (by simpa [rngs] using Own.nil 3 K) (Fresh.nil _) (Fr.refl _) (by simp [hts])
    exact key f.length 0 _ K2 .nil [] (by omega) (by simpa using GOwn.nil (enc := Rng.enc) K2) (by simp) (Fresh.nil _) F2 (by simp [hts])
  rintro ts K ⟨⟨us, ho, hf⟩, hfo, hK, hts⟩
  simp only [post_sq, W_seq]
  generalize ho' : ts 9 = o at *
  obtain ⟨u0, Ka, c1, c2, c3, c4⟩ := copyR (hw.fr hK) (by omega)
  have hoa := ho.fr c4
  have holt := ho.lt
  obtain ⟨b0, q0, i1, K1, i2, ho1, i4, i5⟩ := hoa.slot (i := 0) (by simp; omega) c2 (fun b hb hx => by have := c3 b hb; have := holt b hx; omega) (e := 39) (ety := tLR) rfl rfl
  have hf' : ∀ u ∈ us.set 0 u0, Fresh H.length u := fun u hu => by
    rcases List.mem_or_eq_of_mem_set hu with hu | rfl
    · exact hf u hu
    · exact c3.mono hK.1
  have hK1 : Fr H K1 := Fr.then (hK.trans c4) i4 hfo
  have hu01 := c2.row.one
  have hu02 := c2.row.self
  generalize us.set 0 u0 = us at *
  clear hf
  rename _ => hf
  simp only [Int.natCast_zero] at i1
  simp [hts, ho', tab, buildSliceA, zerosA, fillA, over, c1, i1, i2]
  obtain ⟨sw, sp⟩ := startR_wide (f := f) hfull
  have hS0 : (List.replicate f.length (List.replicate 8 emR)).set 0 R = startR f R := rfl
  rw [hS0] at ho1
  have hsum := sumG_le updR 3 muR_le sw
  obtain ⟨FIN, hFIN⟩ : ∃ X, X = iterG updR nxR f (24 * f.length + 1) 0 (startR f R) := ⟨_, rfl⟩
  refine W_loop _ fun I hI => ?_
  have hfx : ∀ b, (∃ u ∈ us, u.at b) → H.length ≤ b := fun b ⟨u, hu, hb⟩ => hf u hu b hb
  have key : ∀ (m c : Nat) (S0 : List (List Rng)) (ts : TS) (K : Hp), c + m ≤ 24 * f.length + 1 → iterG updR nxR f m c S0 = FIN → sumG updR S0 < m → Wide f.length S0 → AllG RowR S0 → GOwn Rng.enc K o S0 us → Fr H K → (ts 0 = fv ∧ ts 9 = o ∧ ts 12 = .int .i64 c) → I ts K := by
    intro m
    induction m with
    | zero => intro c S0 ts K _ _ h; omega
    | succ m ihm =>
      intro c S0 ts K hcm hit hsm hw0 hp0 hG hK hts
      apply hI
      have hwc := wrap64 (x := (c : Int) + 1) (by omega) (by omega)
      simp [hts, tab, hlen]
      refine W_loop _ fun I2 hI2 => ?_
      have key2 : ∀ (r p : List Bk) (ts : TS) (K : Hp) (S : List (List Rng)) (t : Bool), f = p ++ r → Wide f.length S → AllG RowR S → GrownG updR S0 S t → roundG updR nxR r p.length S = roundG updR nxR f 0 S0 → GOwn Rng.enc K o S us → Fr H K → (ts 0 = fv ∧ ts 9 = o ∧ ts 12 = .int .i64 c ∧ ts 13 = .bool t ∧ ts 59 = fv ∧ ts 60 = .int .i64 f.length ∧ ts 61 = .int .i64 p.length) → I2 ts K := by
        intro r
        induction r with
        | nil =>
          intro p ts K S t e hw hp hgr hgo hG hK hts
          apply hI2
          simp at e
          subst e
          simp only [roundG] at hgo
          cases t with
          | false =>
            simp [hts, tab]
            rw [iterG_same m c hgr hgo.symm] at hit
            rcases hgr with ⟨_, e⟩ | ⟨h, _⟩
            · have hres : flowRR f R = (S0, c) := by
                show iterG updR nxR f (24 * f.length + 1) 0 (startR f R) = _
                rw [← hFIN, ← hit]
              rw [e] at hG
              exact FrAt.yes ⟨hg, hfull⟩ (by rw [hres]) (by rw [hres]; exact hG) hf hfo hK
            · cases h
          | true =>
            simp [hts, tab, hwc]
            rw [iterG_more m c hgr hgo.symm] at hit
            refine ihm (c + 1) S _ K (by omega) hit ?_ hw hp hG hK (by simp [hts])
            rcases hgr with ⟨h, _⟩ | ⟨_, h⟩
            · cases h
            · omega
        | cons b r ih =>
          intro p ts K S t e hw hp hgr hgo hG hK hts
          apply hI2
          have hlt : (p.length : Int) < f.length := by simp [e]; omega
          have hpl : p.length < f.length := by omega
          have hbf : f[p.length]? = some b := by simp [e]
          have hgb := hg.2 b (by simp [e])
          obtain ⟨b1, q, u, hu, e1, e2, e3⟩ := (hv.fr hK).get (e := 78) rfl hbf
          have hu1 := e3.one
          have hu2 := cells_of_one hu1
          obtain ⟨K', hK', fB⟩ : ∃ K', K ++ [some ⟨4, true, [u, .int .i64 b.test, .int .i64 b.thn, .int .i64 b.els]⟩] = K' ∧ Fr K K' := ⟨_, rfl, Fr.app K _⟩
          have hb : K'[K.length]? = some (some ⟨4, true, [u, .int .i64 b.test, .int .i64 b.thn, .int .i64 b.els]⟩) := by rw [← hK']; simp
          have q0 : loadA tLN K' (.ptr K.length 0) = some u := load_at hb rfl rfl rfl
          simp only [cellsB] at e2
          have hG' := hG.fr fB
          obtain ⟨b2, q2, uk, huk, i1, i2, i3, i4⟩ := hG'.get (e := 39) (ety := tLR) rfl rfl rfl (i := p.length) (by rw [hw.1]; exact hpl)
          have hrow := hw.row hpl
          have hRow := hp _ (List.mem_of_getElem? hrow.2)
          obtain ⟨b3, q3, _, j1, -, j3⟩ := i3.row.get (tab := tab) (e := 24) (ety := tR) rfl (i := 0) (a := rg (rowG S p.length) 0) (by simpa using rg_get hrow.1 (i := 0) (by decide)) .i64
          have j3 := j3 tB 0 rfl rfl (by decide)
          simp only [Int.natCast_zero, Nat.add_zero, Rng.enc, List.getElem?_cons_zero] at j1 j3
          have hwp := wrap64 (x := (p.length : Int) + 1) (by omega) (by omega)
          rcases hRow.first with ⟨h0, hrep⟩ | ⟨h0, hGR⟩
          · rw [h0] at j3
            simp (maxDischargeDepth := 9) [hts, tab, hlt, e1, e2, hu1, hu2, storeB, over, hK', i1, i2, j1, j3, hwp]
            have hnx : nxR b (rowG S p.length) = [] := by unfold nxR; rw [if_pos h0]
            refine ih (p ++ [b]) _ K' S t (by simp [e]) hw hp hgr ?_ hG' (hK.trans fB) (by simp [hts])
            rw [← hgo]
            simp [roundG, hnx, comesG]
          rw [h0] at j3
          simp (maxDischargeDepth := 9) [hts, tab, hlt, e1, e2, hu1, hu2, storeB, over, hK', i1, i2, j1, j3]
          refine W_draw mixed (.look 0 (.look 1 (.look 2 (.look 3 (.look 4 (.look 5 (.act 6 [] (.act 7 [] .done .stop) .stop))))))) (by kernel_rfl) ?_
          simp (maxDischargeDepth := 9) [hts, tab, q0, i1, i2]
          refine (l6Step_ok b.code (rowG S p.length) u uk K' hgb.1 hGR.1 (e3.fr fB) i3.row).mono fun w K2 ⟨w1, w2, w3⟩ => ?_
          have hfl := stepR_full b.code hgb.1.2 hGR
          have hfit := fitsR hg b (by simp [e]) _ hrow.1 hRow
          have hkeep := keepsR hg b (by simp [e]) S p.length hpl hw hp
          have hnx : nxR b (rowG S p.length) = (if 0 < (rg (stepR b.code (rowG S p.length)) b.test).hi then [(b.thn, stepR b.code (rowG S p.length))] else []) ++ (if (rg (stepR b.code (rowG S p.length)) b.test).lo = 0 then [(b.els, (stepR b.code (rowG S p.length)).set b.test.toNat zeroR)] else []) := by
            unfold nxR
            rw [if_neg (by simp [h0])]
          generalize stepR b.code (rowG S p.length) = out at *
          obtain ⟨T, hT⟩ : ∃ T, T = rg out b.test := ⟨_, rfl⟩
          rw [← hT] at hnx
          obtain ⟨bt, qt, y1, y2'⟩ := getR w1.row hfl.1.1 hgb.2.1
          rw [← hT] at y2'
          simp only [Rng.enc] at y2'
          have hb2 := w3.2 _ _ hb id
          have g1 : loadA tI K2 (.ptr K.length 1) = some (.int .i64 b.test) := load_at hb2 rfl rfl rfl
          obtain ⟨K3, hK3, f3⟩ : ∃ K3, K2 ++ [some ⟨3, true, [.bool T.em, .int .i64 T.lo, .int .i64 T.hi]⟩] = K3 ∧ Fr K2 K3 := ⟨_, rfl, Fr.app _ _⟩
          have ht3 : K3[K2.length]? = some (some ⟨3, true, T.enc⟩) := by rw [← hK3]; simp [Rng.enc]
          have hb3 := f3.2 _ _ hb2 id
          have g2 : loadA tI K3 (.ptr K.length 2) = some (.int .i64 b.thn) := load_at hb3 rfl rfl rfl
          have ghi : loadA tI K3 (.ptr K2.length 2) = some (.int .i64 T.hi) := load_at ht3 rfl rfl rfl
          have l1 := fB.1
          have l2 := w3.1
          have l3 := f3.1
          obtain ⟨X, hX⟩ : ∃ X : Nat → Prop, X = fun b => ∃ u ∈ us, u.at b := ⟨_, rfl⟩
          have hXl : ∀ b, X b → b < K.length := fun b hb => hG.lt b (.inr (by rw [hX] at hb; exact hb))
          have hXH : ∀ b, X b → H.length ≤ b := fun b hb => hfx b (by rw [hX] at hb; exact hb)
          have hwX : ∀ c, w.at c → ¬ X c := fun c hc hx => by have := w2 c hc; have := hXl c hx; omega
          have hwn : ∀ c, w.at c → ¬ ∃ u ∈ us, u.at c := fun c hc hx => hwX c hc (by rw [hX]; exact hx)
          have hG3 := hG'.fr (w3.trans f3)
          have FK3 : Fr H K3 := hK.trans (fB.trans (w3.trans f3))
          have hbX : ¬ X K.length := fun hx => by have := hXl _ hx; omega
          have htX : ¬ X K2.length := fun hx => by have := hXl _ hx; have := lt_of_get hb2; omega
          simp (maxDischargeDepth := 9) [-W_seq, hts, tab]
          rw [W_seq]
          simp (maxDischargeDepth := 9) [-W_seq, hts, tab, g1, y1, y2', storeB, over, hK3]
          rw [W_seq]
          refine W_cut (fun ts' Kx => ToldG S0 (comesG updR (if 0 < T.hi then [(b.thn, out)] else []) S) us o K3 (ts' 13) Kx ∧ (ts' 0 = fv ∧ ts' 9 = o ∧ ts' 12 = .int .i64 c ∧ ts' 59 = fv ∧ ts' 60 = .int .i64 f.length ∧ ts' 61 = .int .i64 p.length ∧ ts' 15 = .ptr K.length 0 ∧ ts' 16 = w ∧ ts' 17 = .ptr K2.length 0)) ?_ ?_
          · by_cases hn : 0 ≤ b.thn
            · by_cases hz : 0 < T.hi
              · simp (maxDischargeDepth := 9) [hts, tab, g2, ghi, hn, hz]
                refine (l6Go_ok f.length S us o b.thn out w K3 hn hgb.2.2.1.2 hfl hw hG3 (w1.row.fr f3) hwn).mono fun y K4 ⟨⟨t1, z1, z2⟩, z3, z4⟩ => ?_
                subst z1
                have e5 : comesG updR [(b.thn, out)] S = comeG updR b.thn.toNat out 0 S := by
                  simp only [comesG]
                  rw [if_neg (by omega)]
                rw [e5]
                cases t1 with
                | true =>
                  simp [hts, tab]
                  exact ⟨⟨true, rfl, by simpa using grown_trans hgr z2⟩, z3, z4⟩
                | false =>
                  simp [hts, tab]
                  exact ⟨⟨t, rfl, by simpa using grown_trans hgr z2⟩, z3, z4⟩
              · simp (maxDischargeDepth := 9) [hts, tab, g2, ghi, hn, hz, comesG]
                exact ⟨⟨t, rfl, hgr⟩, hG3, Keeps.refl _ _⟩
            · have e5 : comesG updR (if 0 < T.hi then [(b.thn, out)] else []) S = S := by
                split
                · simp only [comesG]; rw [if_pos (by omega)]
                · rfl
              simp (maxDischargeDepth := 9) [hts, tab, g2, ghi, hn]
              rw [e5]
              exact ⟨⟨t, rfl, hgr⟩, hG3, Keeps.refl _ _⟩
          rintro ts K4 ⟨⟨⟨t1, t13, hgr1⟩, hG4, hk4⟩, hts⟩
          rw [← hX] at hk4
          have hS1w : Wide f.length (comesG updR (if 0 < T.hi then [(b.thn, out)] else []) S) := comesG_wide updR _ S (fun q hq => hfit q (by rw [hnx]; exact List.mem_append.2 (.inl hq))) hw
          have hb4 := hk4.2 _ _ hb3 hbX
          have ht4 := hk4.2 _ _ ht3 htX
          have hw4 := (w1.fr f3).keeps hk4 hwX
          have F4 : Fr H K4 := Fr.then FK3 hk4 hXH
          have k1 : loadA tI K4 (.ptr K.length 1) = some (.int .i64 b.test) := load_at hb4 rfl rfl rfl
          have k3 : loadA tI K4 (.ptr K.length 3) = some (.int .i64 b.els) := load_at hb4 rfl rfl rfl
          have klo : loadA tI K4 (.ptr K2.length 1) = some (.int .i64 T.lo) := load_at ht4 rfl rfl rfl
          have hnx2 : comesG updR (nxR b (rowG S p.length)) S = comesG updR (if T.lo = 0 then [(b.els, out.set b.test.toNat zeroR)] else []) (comesG updR (if 0 < T.hi then [(b.thn, out)] else []) S) := by rw [hnx, comesG_two]
          have hgo2 : roundG updR nxR r (p ++ [b]).length (comesG updR (nxR b (rowG S p.length)) S) = roundG updR nxR f 0 S0 := by rw [← hgo]; simp [roundG]
          have hwS := comesG_wide updR _ S hfit hw
          rw [hnx2] at hgo2 hwS hkeep
          generalize hS1 : comesG updR (if 0 < T.hi then [(b.thn, out)] else []) S = S1 at *
          have next : ∀ (ts' : TS) (K' : Hp) (t' : Bool), GrownG updR S0 (comesG updR (if T.lo = 0 then [(b.els, out.set b.test.toNat zeroR)] else []) S1) t' → GOwn Rng.enc K' o (comesG updR (if T.lo = 0 then [(b.els, out.set b.test.toNat zeroR)] else []) S1) us → Fr H K' → (ts' 0 = fv ∧ ts' 9 = o ∧ ts' 12 = .int .i64 c ∧ ts' 13 = .bool t' ∧ ts' 59 = fv ∧ ts' 60 = .int .i64 f.length ∧ ts' 61 = .int .i64 (p.length + 1)) → I2 ts' K' := fun ts' K' t' a1 a2 a3 a5 => ih (p ++ [b]) ts' K' _ t' (by simp [e]) hwS hkeep a1 hgo2 a2 a3 (by simp [a5])
          by_cases hn : 0 ≤ b.els
          · by_cases hlo : T.lo = 0
            · simp only [hlo, if_true] at next
              rw [hlo] at klo
              obtain ⟨cc, w2', K5, w3', w4', w5', w6'⟩ := hw4.putR hgb.2.1.1 (by have := hgb.2.1; have := hfl.1.1; unfold Nm at *; omega) zeroR
              simp only [Rng.enc] at w3'
              have hGlt := hG4.lt
              have hGw : GOwn Rng.enc K5 o S1 us := hG4.keeps w5' fun c hc hx => by
                have := w2 c hx
                have := holt
                rcases hc with hc | hc
                · have h9 := hG.lt c (.inl hc); omega
                · have h9 := hG.lt c (.inr hc); omega
              have F5 : Fr H K5 := Fr.then F4 w5' fun b hb => by have := w2 b hb; have := hK.1; omega
              have hb5 := w5'.2 _ _ hb4 fun hx => by have := w2 _ hx; have := lt_of_get hb; omega
              have g3 : loadA tI K5 (.ptr K.length 3) = some (.int .i64 b.els) := load_at hb5 rfl rfl rfl
              simp (maxDischargeDepth := 9) [hts, t13, tab, k3, hn, klo, k1, fillA, over, w2', w3', g3]
              refine (l6Go_ok f.length S1 us o b.els (out.set b.test.toNat zeroR) w K5 hn hgb.2.2.2.2 (hfl.set _ zeroR_good rfl) hS1w hGw w4'.row hwn).mono fun y K6 ⟨⟨t2, z1, z2⟩, z3, z4⟩ => ?_
              subst z1
              have e5 : comesG updR [(b.els, out.set b.test.toNat zeroR)] S1 = comeG updR b.els.toNat (out.set b.test.toNat zeroR) 0 S1 := by
                simp only [comesG]
                rw [if_neg (by omega)]
              rw [← e5] at z2 z3
              have F6 : Fr H K6 := Fr.then F5 z4 hfx
              cases t2 with
              | true =>
                simp [hts, t13, tab, hwp]
                exact next _ K6 true (by simpa using grown_trans hgr1 z2) z3 F6 (by simp [hts])
              | false =>
                simp [hts, t13, tab, hwp]
                exact next _ K6 t1 (by simpa using grown_trans hgr1 z2) z3 F6 (by simp [hts, t13])
            · simp only [hlo, if_false, comesG] at next
              simp (maxDischargeDepth := 9) [hts, t13, tab, k3, hn, klo, hlo, hwp]
              exact next _ K4 t1 hgr1 hG4 F4 (by simp [hts, t13])
          · have e5 : comesG updR (if T.lo = 0 then [(b.els, out.set b.test.toNat zeroR)] else []) S1 = S1 := by
              split
              · simp only [comesG]; rw [if_pos (by omega)]
              · rfl
            rw [e5] at next
            simp (maxDischargeDepth := 9) [hts, t13, tab, k3, hn, hwp]
            exact next _ K4 t1 hgr1 hG4 F4 (by simp [hts, t13])
      exact key2 f [] _ K S0 false rfl hw0 hp0 (.inl ⟨rfl, rfl⟩) rfl hG hK (by simp [hts])
  exact key (24 * f.length + 1) 0 (startR f R) _ K1 (by omega) hFIN.symm (by omega) sw sp ho1 hK1 (by simp [hts, ho'])
end Go.Proofs.Ytfndikfaibbjoaa.Am
