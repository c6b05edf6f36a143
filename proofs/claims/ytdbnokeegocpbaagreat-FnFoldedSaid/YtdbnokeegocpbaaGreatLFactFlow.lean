/- What is known ahead of every block: both ways to reckon it. No condition. -/
import Derived.Test.YtdbnokeegocpbaaGreatLFactSteps
import Derived.Test.YtdbnokeegocpbaaGreatLGrid
namespace Go.Proofs.YtdbnokeegocpbaaGreat.Am
open Go Go.RowKit
set_option linter.unusedSimpArgs false
set_option linter.unusedVariables false

abbrev tLF : Ty := ⟨.slice 35, 1, 24, [.nil], false⟩
theorem Own.pushG {sz bytes : Nat} {K : Hp} {v : AV} {es : List (List AV)} {e : List AV} (h : Own sz K v es) (he : e.length = sz) (hsz : 0 < sz) (hb : bytes ≤ 100) (hl : es.length ≤ 1048576) :
    ∃ u K', appendA sz bytes (K ++ [some ⟨sz, true, e⟩]) v (.sl K.length 0 1) = some (u, K') ∧ Own sz K' u (es ++ [e]) ∧ Keeps v.at K K' ∧ ∀ b, u.at b → v.at b ∨ K.length ≤ b := by
  have hmul : (es.length + 1) * bytes ≤ 1048577 * 100 := Nat.mul_le_mul (by omega) hb
  obtain ⟨u, K', a1, a2, a3, a4⟩ := (h.fr (Fr.app K [some ⟨sz, true, e⟩])).append (bytes := bytes) (x := .sl K.length 0 1) (new := [e]) hsz (by subst he; simp [rowOf]) (by simp [he]) (by simp; omega) (by simp; omega)
  refine ⟨u, K', a1, a2, (Fr.keeps (Fr.app K _)).trans a3, fun b hb => ?_⟩
  rcases a4 b hb with h | h
  · exact .inl h
  · simp at h
    exact .inr (by omega)
/-- The grid of what is known, made from a heap on. -/
def FGrid (H0 : Hp) (S : List (List Fct)) (v : AV) (K : Hp) : Prop := (∃ us, GOwn Fct.enc K v S us ∧ ∀ u ∈ us, Fresh H0.length u) ∧ Fresh H0.length v ∧ Fr H0 K
theorem enc_three (x : Fct) : x.enc.length = 3 := rfl
theorem enc_one (x : Fct) : x.enc.all AV.one = true := rfl
def selF (ways : Bool) (b : Bk) (t : Fct) (to : Int) : Bool := !(ways && (t.known && ((decide (t.n = 0) && decide (to ≠ b.els)) || (decide (t.n ≠ 0) && decide (to ≠ b.thn)))))
theorem comesG_append {α : Type} (U : Upd α) : ∀ (l m : List (Int × List α)) (S : List (List α)), comesG U (l ++ m) S = comesG U m (comesG U l S)
  | [], m, S => rfl
  | (to, out) :: l, m, S => by
    show comesG U (l ++ m) _ = comesG U m (comesG U l _)
    exact comesG_append U l m _
theorem up_again (a b : Fct) : updF.up (updF.up a b) b = updF.up a b := by
  unfold updF
  simp only
  by_cases hb : b.top = true
  · simp only [hb, if_true]
  · simp only [if_neg hb]
    unfold joinF
    by_cases ha : a.top = true
    · simp [ha, hb]
    · by_cases hab : a = b
      · subst hab; simp [ha]
      · simp [ha, hb, hab]
theorem comes_twice {n : Nat} {to : Int} {out : List Fct} (hto : to ≤ (n : Int) - 1) (ho : out.length = 8) {S : List (List Fct)} (h : Wide n S) : comesG updF [(to, out), (to, out)] S = comesG updF [(to, out)] S := by
  simp only [comesG]
  by_cases hn : to < 0
  · simp [hn]
  · simp only [if_neg hn]
    have ht : to.toNat < n := by omega
    refine comeG_still updF ht ho (comeG_wide updF ht out 0 S h) fun v x hx => ?_
    have hv : v < 8 := by rw [← ho]; exact (List.getElem?_eq_some_iff.1 hx).1
    rw [comeG_get updF ht out 0 S (by omega) h, if_pos ⟨rfl, by omega, by omega⟩]
    have : out.getD (v - 0) updF.z = x := by rw [Nat.sub_zero, List.getD_eq_getElem?_getD, hx]; rfl
    rw [this, up_again]
/-- Passing the ways that are not gone comes to the same. -/
theorem comes_sel {n : Nat} {ways : Bool} {b : Bk} {R : List Fct} (h0 : (fc R 0).top = false) (hb1 : b.thn ≤ (n : Int) - 1) (hb2 : b.els ≤ (n : Int) - 1) (ho : (stepF b.code R).length = 8) {S : List (List Fct)} (h : Wide n S) :
    comesG updF (([b.thn, b.els].filter (selF ways b (fc (stepF b.code R) b.test))).map fun to => (to, stepF b.code R)) S = comesG updF (nxF ways b R) S := by
  unfold nxF
  rw [if_neg (by simp [h0])]
  simp only
  generalize fc (stepF b.code R) b.test = t
  by_cases hw : ways = true ∧ t.known = true
  · rw [if_pos hw]
    obtain ⟨rfl, hk⟩ := hw
    by_cases hn : t.n = 0
    · rw [if_neg (by simp [hn])]
      by_cases e : b.thn = b.els
      · have e1 : [b.thn, b.els].filter (selF true b t) = [b.els, b.els] := by simp [selF, hk, hn, e]
        rw [e1]
        exact comes_twice hb2 ho h
      · have e1 : [b.thn, b.els].filter (selF true b t) = [b.els] := by simp [selF, hk, hn, e, List.filter]
        rw [e1]
        rfl
    · rw [if_pos hn]
      by_cases e : b.thn = b.els
      · have e1 : [b.thn, b.els].filter (selF true b t) = [b.thn, b.thn] := by simp [selF, hk, hn, e]
        rw [e1]
        exact comes_twice hb1 ho h
      · have e' : ¬ b.els = b.thn := fun h => e h.symm
        have e1 : [b.thn, b.els].filter (selF true b t) = [b.thn] := by simp [selF, hk, hn, e', List.filter]
        rw [e1]
        rfl
  · rw [if_neg hw]
    have e1 : [b.thn, b.els].filter (selF ways b t) = [b.thn, b.els] := by
      have : ∀ to, selF ways b t to = true := fun to => by
        unfold selF
        cases ways with
        | false => simp
        | true => cases hk : t.known with
          | false => simp
          | true => exact absurd ⟨rfl, hk⟩ hw
      simp [this]
    rw [e1]
    rfl
/-- A row of facts that are still to come, one longer. -/
theorem top_push {K : Hp} {w : AV} {j : Nat} (h : Own 3 K w (fcts (List.replicate j topF))) (hj : j ≤ 8) : ∃ u K', appendA 3 16 (K ++ [some ⟨3, true, [.bool true, .bool false, .int .i64 0]⟩]) w (.sl K.length 0 1) = some (u, K') ∧ Own 3 K' u (fcts (List.replicate (j + 1) topF)) ∧ Keeps w.at K K' ∧ ∀ b, u.at b → w.at b ∨ K.length ≤ b := by
  obtain ⟨u, K', a1, a2, a3, a4⟩ := h.pushG (bytes := 16) (e := [.bool true, .bool false, .int .i64 0]) rfl (by decide) (by decide) (by simp; omega)
  refine ⟨u, K', a1, ?_, a3, a4⟩
  have : fcts (List.replicate (j + 1) topF) = fcts (List.replicate j topF) ++ [[.bool true, .bool false, .int .i64 0]] := by
    rw [List.replicate_succ']
    simp [fcts, Fct.enc]
  rw [this]
  exact a2
set_option maxHeartbeats 1000000 in
set_option maxRecDepth 100000 in
theorem flowFacts_ok (f : List Bk) (ws : List AV) (fv : AV) (vars : List Fct) (vv : AV) (ways : Bool) (H : Hp) (hg : GoodF f) (hV : GoodFs vars) (hv : FRow H fv f ws) (hvv : Row 3 H vv (fcts vars)) : T Tryz.prog 19 [fv, vv, .bool ways] H (FGrid H (flowF ways f vars)) := by
  refine T.by tabOk Tryz.func19 (by kernel_rfl) rfl _ (by simp [Tryz.f19]) H _ ?_
  have hlen := hv.count 51
  have h8 := hg.1.2
  have h1 := hg.1.1
  obtain ⟨K0, hK0, f0⟩ : ∃ K0, H ++ [some ⟨1, true, []⟩] = K0 ∧ Fr H K0 := ⟨_, rfl, Fr.app _ _⟩
  have own0 : Own 1 K0 (.sl H.length 0 0) [] := by
    have := Own.new (sz := 1) (K := H) (es := []) (by simp)
    simp at this
    rw [hK0] at this
    exact this
  simp [-W_block, Tryz.f19, tab, hlen, buildSliceA, zerosA, fillA, over, hK0]
  refine W_cut (fun ts K => (∃ us, GOwn Fct.enc K (ts 7) (List.replicate f.length (List.replicate 8 topF)) us ∧ ∀ u ∈ us, Fresh H.length u) ∧ Fresh H.length (ts 7) ∧ Fr H K ∧ ts 0 = fv ∧ ts 1 = vv ∧ ts 2 = .bool ways) ?_ ?_
  · simp only [W_block]
    refine W_loop _ fun I hI => ?_
    have key : ∀ (m p : Nat) (ts : TS) (K : Hp) (o : AV) (us : List AV), p + m = f.length → GOwn Fct.enc K o (List.replicate p (List.replicate 8 topF)) us → (∀ u ∈ us, Fresh H.length u) → Fresh H.length o → Fr H K → (ts 0 = fv ∧ ts 1 = vv ∧ ts 2 = .bool ways ∧ ts 7 = o ∧ ts 22 = .int .i64 f.length ∧ ts 23 = .int .i64 p) → I ts K := by
      intro m
      induction m with
      | zero =>
        intro p ts K o us e ho hf hfo hK hts
        apply hI
        obtain rfl : p = f.length := by omega
        simp [hts, tab]
        exact ⟨⟨us, ho, hf⟩, hfo, hK⟩
      | succ m ih =>
        intro p ts K o us e ho hf hfo hK hts
        apply hI
        have hlt : (p : Int) < f.length := by omega
        obtain ⟨K1, hK1, f1⟩ : ∃ K1, K ++ [some ⟨3, true, []⟩] = K1 ∧ Fr K K1 := ⟨_, rfl, Fr.app _ _⟩
        have ownT : Own 3 K1 (.sl K.length 0 0) (fcts (List.replicate 0 topF)) := by
          have := Own.new (sz := 3) (K := K) (es := []) (by simp)
          simp at this
          rw [hK1] at this
          simpa [fcts] using this
        simp [hts, tab, hlt, buildSliceA, zerosA, fillA, over, hK1]
        refine W_loop _ fun I2 hI2 => ?_
        have key2 : ∀ (m2 j : Nat) (ts : TS) (K2 : Hp) (w : AV), j + m2 = 8 → Own 3 K2 w (fcts (List.replicate j topF)) → Fresh K.length w → Fr K K2 → (ts 0 = fv ∧ ts 1 = vv ∧ ts 2 = .bool ways ∧ ts 7 = o ∧ ts 22 = .int .i64 f.length ∧ ts 23 = .int .i64 p ∧ ts 8 = w ∧ ts 26 = .int .i64 j) → I2 ts K2 := by
          intro m2
          induction m2 with
          | zero =>
            intro j ts K2 w e2 hw hfw hK2 hts
            apply hI2
            obtain rfl : j = 8 := by omega
            have hw1 := hw.row.one
            have hw2 := hw.row.self
            have holt := ho.lt
            obtain ⟨o', K4, g1, g2, g3, g4⟩ := (ho.fr hK2).push hw (by intro b hb hx; have := hfw b hb; have := holt b hx; omega) (by simp; omega)
            have hwp := wrap64 (x := (p : Int) + 1) (by omega) (by omega)
            simp (maxDischargeDepth := 9) [hts, tab, hwp, buildSliceA, zerosA, fillA, over, hw1, hw2, g1]
            refine ih (p + 1) _ K4 o' (us ++ [w]) (by omega) (by rw [List.replicate_succ']; exact g2) (fun u hu => ?_) (fun b hb => (g4 b hb).elim (hfo b) fun h => ?_) (Fr.then (hK.trans hK2) g3 hfo) (by simp [hts])
            · rcases List.mem_append.1 hu with hu | hu
              · exact hf u hu
              · simp at hu; subst hu; exact hfw.mono hK.1
            · have := hK.1; have := hK2.1; omega
          | succ m2 ih2 =>
            intro j ts K2 w e2 hw hfw hK2 hts
            apply hI2
            have hj : (j : Int) < 8 := by omega
            have hwj := wrap64 (x := (j : Int) + 1) (by omega) (by omega)
            obtain ⟨w', K3, a1, a2, a3, a4⟩ := top_push hw (by omega)
            simp [hts, tab, hj, hwj, buildSliceA, zerosA, fillA, over, a1]
            exact ih2 (j + 1) _ K3 w' (by omega) a2 (fun b hb => (a4 b hb).elim (hfw b) fun h => Nat.le_trans hK2.1 h) (Fr.then hK2 a3 hfw) (by simp [hts])
        exact key2 8 0 _ K1 _ rfl ownT (fun b hb => by cases hb; exact Nat.le_refl _) f1 (by simp [hts])
    exact key f.length 0 _ K0 _ [] (by omega) ⟨own0, rfl, by simp, by simp, by simp⟩ (by simp) (fun b hb => by cases hb; exact Nat.le_refl _) f0 (by simp)
  rintro ts K ⟨⟨us, ho, hf⟩, hfo, hK, hts⟩
  generalize ho' : ts 7 = o at *
  obtain ⟨b0, q0, u0, hu0, i1, i2, i3, i4⟩ := ho.get (e := 24) (ety := tLF) rfl rfl rfl (i := 0) (by simp; omega)
  have hrow0 : rowG (List.replicate f.length (List.replicate 8 topF)) 0 = List.replicate 8 topF := by
    unfold rowG
    rw [List.getD_eq_getElem?_getD, List.getElem?_replicate, if_pos (by omega)]
    rfl
  rw [hrow0] at i3
  obtain ⟨K1, c1, c2, c3⟩ := i3.copied (hvv.fr hK) (by simp [hV.1])
  have ho1 := ho.inRow hu0 c2 c3
  have hfu0 : Fresh H.length u0 := hf u0 (List.mem_of_getElem? hu0)
  have hK1 : Fr H K1 := Fr.then hK c3 hfu0
  simp only [Int.natCast_zero] at i1
  simp [hts, ho', tab, i1, i2, c1]
  obtain ⟨sw, sp⟩ := startF_wide (f := f) hV
  have hS0 : (List.replicate f.length (List.replicate 8 topF)).set 0 vars = startF f vars := rfl
  rw [hS0] at ho1
  have hsum := sumG_le updF 2 muF_le sw
  have hfinal : flowF ways f vars = (iterG updF (nxF ways) f (16 * f.length + 1) 0 (startF f vars)).1 := rfl
  obtain ⟨FIN, hFIN⟩ : ∃ X, X = iterG updF (nxF ways) f (16 * f.length + 1) 0 (startF f vars) := ⟨_, rfl⟩
  rw [hfinal, ← hFIN]
  refine W_loop _ fun I hI => ?_
  have keyF : ∀ (ts : TS) (K : Hp), GOwn Fct.enc K o FIN.1 us → Fr H K → (ts 7 = o ∧ ts 9 = .bool false) → I ts K := by
    intro ts K hG hK hts
    apply hI
    simp [hts, tab]
    exact ⟨⟨us, hG, hf⟩, hfo, hK⟩
  have hfx : ∀ b, (∃ u ∈ us, u.at b) → H.length ≤ b := fun b ⟨u, hu, hb⟩ => hf u hu b hb
  have key : ∀ (m c : Nat) (S0 : List (List Fct)) (ts : TS) (K : Hp), iterG updF (nxF ways) f m c S0 = FIN → sumG updF S0 < m → Wide f.length S0 → AllG RowF S0 → GOwn Fct.enc K o S0 us → Fr H K → (ts 0 = fv ∧ ts 2 = .bool ways ∧ ts 7 = o ∧ ts 9 = .bool true) → I ts K := by
    intro m
    induction m with
    | zero => intro c S0 ts K _ h; omega
    | succ m ihm =>
      intro c S0 ts K hit hsm hw0 hp0 hG hK hts
      apply hI
      simp [hts, tab, hlen]
      refine W_loop _ fun I2 hI2 => ?_
      have key2 : ∀ (r p : List Bk) (ts : TS) (K : Hp) (S : List (List Fct)) (t : Bool), f = p ++ r → Wide f.length S → AllG RowF S → GrownG updF S0 S t → roundG updF (nxF ways) r p.length S = roundG updF (nxF ways) f 0 S0 → GOwn Fct.enc K o S us → Fr H K → (ts 0 = fv ∧ ts 2 = .bool ways ∧ ts 7 = o ∧ ts 9 = .bool t ∧ ts 44 = fv ∧ ts 45 = .int .i64 f.length ∧ ts 46 = .int .i64 p.length) → I2 ts K := by
        intro r
        induction r with
        | nil =>
          intro p ts K S t e hw hp hgr hgo hG hK hts
          apply hI2
          simp at e
          subst e
          simp only [roundG] at hgo
          cases t with
          | false =>
            simp [hts, tab]
            refine keyF _ K ?_ hK (by simp [hts])
            rw [iterG_same m c hgr hgo.symm] at hit
            rcases hgr with ⟨_, e⟩ | ⟨h, _⟩
            · rw [← hit]
              simp only
              rw [← e]
              exact hG
            · cases h
          | true =>
            simp [hts, tab]
            rw [iterG_more m c hgr hgo.symm] at hit
            refine ihm (c + 1) S _ K hit ?_ hw hp hG hK (by simp [hts])
            rcases hgr with ⟨h, _⟩ | ⟨_, h⟩
            · cases h
            · omega
        | cons b r ih =>
          intro p ts K S t e hw hp hgr hgo hG hK hts
          apply hI2
          have hlt : (p.length : Int) < f.length := by simp [e]; omega
          have hpl : p.length < f.length := by omega
          have hbf : f[p.length]? = some b := by simp [e]
          have hgb := hg.2 b (by simp [e])
          obtain ⟨b1, q, u, hu, e1, e2, e3⟩ := (hv.fr hK).get (e := 51) rfl hbf
          have hu1 := e3.one
          have hu2 := cells_of_one hu1
          obtain ⟨K', hK', fB⟩ : ∃ K', K ++ [some ⟨4, true, [u, .int .i64 b.test, .int .i64 b.thn, .int .i64 b.els]⟩] = K' ∧ Fr K K' := ⟨_, rfl, Fr.app K _⟩
          have hb : K'[K.length]? = some (some ⟨4, true, [u, .int .i64 b.test, .int .i64 b.thn, .int .i64 b.els]⟩) := by rw [← hK']; simp
          have q0 : loadA tLN K' (.ptr K.length 0) = some u := load_at hb rfl rfl rfl
          simp only [cellsB] at e2
          have hG' := hG.fr fB
          obtain ⟨b2, q2, uk, huk, i1, i2, i3, i4⟩ := hG'.get (e := 24) (ety := tLF) rfl rfl rfl (i := p.length) (by rw [hw.1]; exact hpl)
          have hrow := hw.row hpl
          have hRow := hp _ (List.mem_of_getElem? hrow.2)
          obtain ⟨b3, q3, _, j1, -, j3⟩ := i3.row.get (tab := tab) (e := 35) (ety := tF) rfl (i := 0) (a := fc (rowG S p.length) 0) (by simpa using fc_get hrow.1 (i := 0) (by decide)) .i64
          have j3 := j3 tFB 0 rfl rfl (by decide)
          simp only [Int.natCast_zero, Nat.add_zero, Fct.enc, List.getElem?_cons_zero] at j1 j3
          have hwp := wrap64 (x := (p.length : Int) + 1) (by omega) (by omega)
          rcases hRow.top with ⟨h0, _⟩ | ⟨h0, hGR⟩
          · rw [h0] at j3
            simp (maxDischargeDepth := 9) [hts, tab, hlt, e1, e2, hu1, hu2, storeB, over, hK', i1, i2, j1, j3, hwp]
            have hnx : nxF ways b (rowG S p.length) = [] := by unfold nxF; rw [if_pos h0]
            refine ih (p ++ [b]) _ K' S t (by simp [e]) hw hp hgr ?_ hG' (hK.trans fB) (by simp [hts])
            rw [← hgo]
            simp [roundG, hnx, comesG]
          rw [h0] at j3
          simp (maxDischargeDepth := 9) [hts, tab, hlt, e1, e2, hu1, hu2, storeB, over, hK', i1, i2, j1, j3]
          refine W_draw mixed (.look 0 (.look 1 (.look 2 (.look 3 (.look 4 (.look 5 (.act 6 [] (.act 7 [] .done .stop) .stop))))))) (by kernel_rfl) ?_
          simp (maxDischargeDepth := 9) [hts, tab, q0, i1, i2]
          refine (stepFacts_ok b.code (rowG S p.length) u uk K' hgb.1 hGR (e3.fr fB) i3.row).mono fun w K2 ⟨w1, w2, w3⟩ => ?_
          have hout := stepF_good b.code hgb.1.2 hGR
          have hfit := fitsF hg ways b (by simp [e]) _ hrow.1 hRow
          have hsel := fun (S' : List (List Fct)) (h : Wide f.length S') => comes_sel (n := f.length) (ways := ways) (b := b) (R := rowG S p.length) h0 hgb.2.2.1.2 hgb.2.2.2.2 hout.1 h
          have hkeep := keepsF hg ways b (by simp [e]) S p.length hpl hw hp
          have hSend := comesG_wide updF _ S hfit hw
          generalize hOut : stepF b.code (rowG S p.length) = out at *
          have hb2 := w3.2 _ _ hb id
          obtain ⟨bt, qt, y1, y2⟩ := getF w1.row hout.1 hgb.2.1
          have g1 : loadA tI K2 (.ptr K.length 1) = some (.int .i64 b.test) := load_at hb2 rfl rfl rfl
          have g2 : loadA tI K2 (.ptr K.length 2) = some (.int .i64 b.thn) := load_at hb2 rfl rfl rfl
          have g3 : loadA tI K2 (.ptr K.length 3) = some (.int .i64 b.els) := load_at hb2 rfl rfl rfl
          obtain ⟨T, hT⟩ : ∃ T, T = fc out b.test := ⟨_, rfl⟩
          rw [← hT] at y2 hsel
          simp only [Fct.enc] at y2
          obtain ⟨K3, hK3, f3⟩ : ∃ K3, K2 ++ [some ⟨3, true, [.bool T.top, .bool T.known, .int .i64 T.n]⟩] = K3 ∧ Fr K2 K3 := ⟨_, rfl, Fr.app _ _⟩
          have ht3 : K3[K2.length]? = some (some ⟨3, true, [.bool T.top, .bool T.known, .int .i64 T.n]⟩) := by rw [← hK3]; simp
          have g2' := f3.load (ty := tI) (a := .ptr K.length 2) (by rw [g2]; rfl)
          have g3' := f3.load (ty := tI) (a := .ptr K.length 3) (by rw [g3]; rfl)
          rw [g2] at g2'
          rw [g3] at g3'
          obtain ⟨K4, hK4, f4⟩ : ∃ K4, K3 ++ [some ⟨1, true, [.int .i64 b.thn, .int .i64 b.els]⟩] = K4 ∧ Fr K3 K4 := ⟨_, rfl, Fr.app _ _⟩
          have h74 : Row 1 K4 (.sl K3.length 0 2) (ints [b.thn, b.els]) := by
            have := (Own.new (sz := 1) (K := K3) (es := ints [b.thn, b.els]) (ints_one _)).row
            rw [← hK4]
            simpa [ints] using this
          have hb4 := f4.2 _ _ (f3.2 _ _ hb2 id) id
          have ht4 := f4.2 _ _ ht3 id
          have w4 := w1.fr (f3.trans f4)
          have hG4 := hG'.fr (w3.trans (f3.trans f4))
          have FK4 : Fr K K4 := fB.trans (w3.trans (f3.trans f4))
          have l1 := fB.1
          have l2 := w3.1
          have l3 := f3.1
          have hbl : K.length < K'.length := lt_of_get hb
          obtain ⟨X, hX⟩ : ∃ X : Nat → Prop, X = fun b => ∃ u ∈ us, u.at b := ⟨_, rfl⟩
          have hXl : ∀ b, X b → b < K.length := fun b hb => hG.lt b (.inr (by rw [hX] at hb; exact hb))
          have hXH : ∀ b, X b → H.length ≤ b := fun b hb => hfx b (by rw [hX] at hb; exact hb)
          clear hb hb2 ht3 q0 e1 e2 e3 j1 j3 i1 i2 i3 w1 hG hG'
          simp (maxDischargeDepth := 9) [hts, tab, g1, y1, y2, storeB, over, hK3, g2', g3', buildSliceA, zerosA, fillA, hK4]
          refine W_loop _ fun I3 hI3 => ?_
          have key3 : ∀ (rt pt : List Int) (ts : TS) (K5 : Hp) (S5 : List (List Fct)) (t5 : Bool), [b.thn, b.els] = pt ++ rt → Wide f.length S5 → GrownG updF S0 S5 t5 → comesG updF ((rt.filter (selF ways b T)).map fun to => (to, out)) S5 = comesG updF (nxF ways b (rowG S p.length)) S → GOwn Fct.enc K5 o S5 us → Keeps X K4 K5 →
              (ts 0 = fv ∧ ts 2 = .bool ways ∧ ts 7 = o ∧ ts 9 = .bool t5 ∧ ts 44 = fv ∧ ts 45 = .int .i64 f.length ∧ ts 46 = .int .i64 p.length ∧ ts 11 = .ptr K.length 0 ∧ ts 12 = w ∧ ts 13 = .ptr K2.length 0 ∧ ts 74 = .sl K3.length 0 2 ∧ ts 75 = .int .i64 2 ∧ ts 76 = .int .i64 pt.length) → I3 ts K5 := by
            intro rt
            induction rt with
            | nil =>
              intro pt ts K5 S5 t5 e5 hw5 hgr5 hcs hG5 hK5 hts
              apply hI3
              simp at e5
              subst e5
              simp only [List.filter_nil, List.map_nil, comesG] at hcs
              simp [hts, tab, hwp]
              refine ih (p ++ [b]) _ K5 S5 t5 (by simp [e]) hw5 (by rw [hcs]; exact hkeep) hgr5 ?_ hG5 (Fr.then (hK.trans FK4) hK5 hXH) (by simp [hts])
              rw [← hgo, hcs]
              simp [roundG]
            | cons to rt ih3 =>
              intro pt ts K5 S5 t5 e5 hw5 hgr5 hcs hG5 hK5 hts
              apply hI3
              have hplt : (pt.length : Int) < 2 := by
                have := congrArg List.length e5
                simp at this
                omega
              have hto : to = b.thn ∨ to = b.els := by
                have : to ∈ [b.thn, b.els] := by rw [e5]; simp
                simpa using this
              obtain ⟨b5, q5, _, e6, e7⟩ := Row.get1 (h74.keeps hK5 fun b hb hx => by cases hb; have := hXl _ hx; omega) (tab := tab) (e := 3) (ety := tI) rfl rfl rfl (i := pt.length) (a := to) (by rw [e5]; simp) .i64
              have hb5 := hK5.2 _ _ hb4 fun hx => by have := hXl _ hx; omega
              have ht5 := hK5.2 _ _ ht4 fun hx => by have := hXl _ hx; omega
              have k2 : loadA tI K5 (.ptr K.length 2) = some (.int .i64 b.thn) := load_at hb5 rfl rfl rfl
              have k3 : loadA tI K5 (.ptr K.length 3) = some (.int .i64 b.els) := load_at hb5 rfl rfl rfl
              have t1 : loadA tFB K5 (.ptr K2.length 1) = some (.bool T.known) := load_at ht5 rfl rfl rfl
              have t2 : loadA tI K5 (.ptr K2.length 2) = some (.int .i64 T.n) := load_at ht5 rfl rfl rfl
              have hw76 := wrap64 (x := (pt.length : Int) + 1) (by omega) (by omega)
              simp only [W_seq]
              refine W_cut (fun ts' K9 => K9 = K5 ∧ ts' 77 = .bool true ∧ (ts' 0 = fv ∧ ts' 2 = .bool ways ∧ ts' 7 = o ∧ ts' 9 = .bool t5 ∧ ts' 44 = fv ∧ ts' 45 = .int .i64 f.length ∧ ts' 46 = .int .i64 p.length ∧ ts' 11 = .ptr K.length 0 ∧ ts' 12 = w ∧ ts' 13 = .ptr K2.length 0 ∧ ts' 74 = .sl K3.length 0 2 ∧ ts' 75 = .int .i64 2 ∧ ts' 76 = .int .i64 pt.length)) ?_ ?_
              · simp [hts, tab, hplt]
              rintro ts K9 ⟨rfl, t77, hts⟩
              simp only [post_sq, W_seq, W_cond, evA, t77, W_skip, W_block, if_true]
              refine W_cut (fun ts' K8 => K8 = K9 ∧ (ts' 0 = fv ∧ ts' 2 = .bool ways ∧ ts' 7 = o ∧ ts' 9 = .bool t5 ∧ ts' 44 = fv ∧ ts' 45 = .int .i64 f.length ∧ ts' 46 = .int .i64 p.length ∧ ts' 11 = .ptr K.length 0 ∧ ts' 12 = w ∧ ts' 13 = .ptr K2.length 0 ∧ ts' 74 = .sl K3.length 0 2 ∧ ts' 75 = .int .i64 2 ∧ ts' 76 = .int .i64 pt.length ∧ ts' 15 = .int .i64 to)) ?_ ?_
              · simp [hts, tab, e6, e7]
              rintro ts K8 ⟨rfl, hts⟩
              simp only [post_sq, W_seq]
              refine W_cut (fun ts' K9 => K9 = K8 ∧ ts' 16 = .bool (!(selF ways b T to)) ∧ (ts' 0 = fv ∧ ts' 2 = .bool ways ∧ ts' 7 = o ∧ ts' 9 = .bool t5 ∧ ts' 44 = fv ∧ ts' 45 = .int .i64 f.length ∧ ts' 46 = .int .i64 p.length ∧ ts' 11 = .ptr K.length 0 ∧ ts' 12 = w ∧ ts' 13 = .ptr K2.length 0 ∧ ts' 74 = .sl K3.length 0 2 ∧ ts' 75 = .int .i64 2 ∧ ts' 76 = .int .i64 pt.length ∧ ts' 15 = .int .i64 to)) ?_ ?_
              · cases ways with
                | false => simp [hts, tab, selF]
                | true =>
                  cases hk : T.known with
                  | false =>
                    rw [hk] at t1
                    simp [hts, tab, selF, t1, hk]
                  | true =>
                    rw [hk] at t1
                    by_cases hn : T.n = 0
                    · rw [hn] at t2
                      rcases hto with rfl | rfl <;> by_cases h4 : b.thn = b.els <;> simp [hts, tab, selF, t1, t2, k2, k3, hk, hn, h4, eq_comm (a := b.els) (b := b.thn)]
                    · rcases hto with rfl | rfl <;> by_cases h4 : b.thn = b.els <;> simp [hts, tab, selF, t1, t2, k2, k3, hk, hn, h4, eq_comm (a := b.els) (b := b.thn)]
              rintro ts K9 ⟨rfl, t16, hts⟩
              have hnext : ∀ (ts' : TS) (K9' : Hp) (S9 : List (List Fct)) (t9 : Bool), Wide f.length S9 → GrownG updF S0 S9 t9 → comesG updF ((rt.filter (selF ways b T)).map fun to => (to, out)) S9 = comesG updF (nxF ways b (rowG S p.length)) S → GOwn Fct.enc K9' o S9 us → Keeps X K4 K9' →
                  (ts' 0 = fv ∧ ts' 2 = .bool ways ∧ ts' 7 = o ∧ ts' 9 = .bool t9 ∧ ts' 44 = fv ∧ ts' 45 = .int .i64 f.length ∧ ts' 46 = .int .i64 p.length ∧ ts' 11 = .ptr K.length 0 ∧ ts' 12 = w ∧ ts' 13 = .ptr K2.length 0 ∧ ts' 74 = .sl K3.length 0 2 ∧ ts' 75 = .int .i64 2 ∧ ts' 76 = .int .i64 (pt.length + 1)) → I3 ts' K9' := fun ts' K9' S9 t9 a1 a2 a3 a4 a5 a6 => ih3 (pt ++ [to]) ts' K9' S9 t9 (by simp [e5]) a1 a2 a3 a4 a5 (by simp [a6])
              rw [List.filter_cons] at hcs
              by_cases hneg : to < 0
              · simp [hts, tab, t16, hneg, hw76]
                refine hnext _ K9 S5 t5 hw5 hgr5 ?_ hG5 hK5 (by simp [hts])
                rw [← hcs]
                split
                · simp [comesG, hneg]
                · rfl
              cases hse : selF ways b T to with
              | false =>
                rw [hse] at t16 hcs
                simp [hts, tab, t16, hneg, hw76]
                exact hnext _ K9 S5 t5 hw5 hgr5 (by simpa using hcs) hG5 hK5 (by simp [hts])
              | true =>
                rw [hse] at t16 hcs
                simp only [if_true, List.map_cons, comesG, if_neg hneg] at hcs
                have hwl := w4.row.len 35
                have hwl : lenA (.slice 35) w = some (.int .i64 8) := by rw [hwl]; simp [hout.1]
                have htof : to.toNat < f.length := by
                  have h1 := hgb.2.2.1.2
                  have h2 := hgb.2.2.2.2
                  rcases hto with rfl | rfl <;> omega
                have htoc : (to.toNat : Int) = to := Int.toNat_of_nonneg (by omega)
                simp [hts, tab, t16, hneg, hwl]
                refine W_loop _ fun I4 hI4 => ?_
                have key4 : ∀ (rd pd : List Fct) (ts : TS) (K6 : Hp) (S6 : List (List Fct)) (t6 : Bool), out = pd ++ rd → Wide f.length S6 → GrownG updF S0 S6 t6 → comeG updF to.toNat rd pd.length S6 = comeG updF to.toNat out 0 S5 → GOwn Fct.enc K6 o S6 us → Keeps X K4 K6 →
                    (ts 0 = fv ∧ ts 2 = .bool ways ∧ ts 7 = o ∧ ts 9 = .bool t6 ∧ ts 44 = fv ∧ ts 45 = .int .i64 f.length ∧ ts 46 = .int .i64 p.length ∧ ts 11 = .ptr K.length 0 ∧ ts 12 = w ∧ ts 13 = .ptr K2.length 0 ∧ ts 74 = .sl K3.length 0 2 ∧ ts 75 = .int .i64 2 ∧ ts 76 = .int .i64 pt.length ∧ ts 15 = .int .i64 to ∧ ts 112 = w ∧ ts 113 = .int .i64 8 ∧ ts 114 = .int .i64 pd.length) → I4 ts K6 := by
                  intro rd
                  induction rd with
                  | nil =>
                    intro pd ts K6 S6 t6 e6' hw6 hgr6 hc6 hG6 hK6 hts
                    apply hI4
                    simp at e6'
                    have hl8 : pd.length = 8 := by rw [← e6']; exact hout.1
                    simp only [comeG] at hc6
                    simp [hts, tab, hl8, hw76]
                    exact hnext _ K6 S6 t6 hw6 hgr6 (by rw [hc6]; exact hcs) hG6 hK6 (by simp [hts])
                  | cons x rd ih4 =>
                    intro pd ts K6 S6 t6 e6' hw6 hgr6 hc6 hG6 hK6 hts
                    apply hI4
                    have hpd : pd.length < 8 := by rw [← hout.1, e6']; simp
                    have hpd' : (pd.length : Int) < 8 := by omega
                    have hwpd := wrap64 (x := (pd.length : Int) + 1) (by omega) (by omega)
                    have hx := hout.2 x (by rw [e6']; simp)
                    have w6 := w4.keeps hK6 fun b hb hx => by have := hXl _ hx; have := w2 _ hb; omega
                    obtain ⟨bx, qx, _, x1, x2, -⟩ := w6.row.get (tab := tab) (e := 35) (ety := tF) rfl (i := pd.length) (a := x) (by rw [e6']; simp) .i64
                    have x2 := x2 rfl
                    simp only [Fct.enc] at x2
                    obtain ⟨K7, hK7, f7⟩ : ∃ K7, K6 ++ [some ⟨3, true, [.bool x.top, .bool x.known, .int .i64 x.n]⟩] = K7 ∧ Fr K6 K7 := ⟨_, rfl, Fr.app _ _⟩
                    have hx7 : K7[K6.length]? = some (some ⟨3, true, [.bool x.top, .bool x.known, .int .i64 x.n]⟩) := by rw [← hK7]; simp
                    have xl : loadA tF K7 (.ptr K6.length 0) = some (.agg x.enc) := by simp [loadA, hx7, Fct.enc]
                    have hG7 := hG6.fr f7
                    obtain ⟨b7, q7, ut, hut, i1, i2, i3, i4⟩ := hG7.get (e := 24) (ety := tLF) rfl rfl rfl (i := to.toNat) (by rw [hw6.1]; exact htof)
                    rw [htoc] at i1
                    have hrw := (hw6.row htof).1
                    obtain ⟨z, hz⟩ : ∃ z, z = joinF (cellG topF S6 to.toNat pd.length) x := ⟨_, rfl⟩
                    obtain ⟨b8, q8, m1, m2, -⟩ := hG7.cell hut (j := pd.length) (by rw [hrw]; exact hpd) (e := 35) (ety := tF) rfl rfl enc_three enc_one z
                    have m2 := m2 rfl topF
                    simp (maxDischargeDepth := 9) [hts, tab, hpd', x1, x2, storeB, over, hK7]
                    refine W_cut (fun ts' K8 => (∃ p19, ts' 19 = .ptr p19 0 ∧ K8[p19]? = some (some ⟨3, true, [.bool z.top, .bool z.known, .int .i64 z.n]⟩)) ∧ Fr K7 K8 ∧ (ts' 0 = fv ∧ ts' 2 = .bool ways ∧ ts' 7 = o ∧ ts' 9 = .bool t6 ∧ ts' 44 = fv ∧ ts' 45 = .int .i64 f.length ∧ ts' 46 = .int .i64 p.length ∧ ts' 11 = .ptr K.length 0 ∧ ts' 12 = w ∧ ts' 13 = .ptr K2.length 0 ∧ ts' 74 = .sl K3.length 0 2 ∧ ts' 75 = .int .i64 2 ∧ ts' 76 = .int .i64 pt.length ∧ ts' 15 = .int .i64 to ∧ ts' 112 = w ∧ ts' 113 = .int .i64 8 ∧ ts' 114 = .int .i64 pd.length ∧ ts' 17 = .int .i64 pd.length)) ?_ ?_
                    · refine W_draw mixed (.look 0 (.look 1 (.look 2 (.look 3 (.look 4 (.look 5 (.look 6 (.look 7 (.act 8 [] (.act 9 [] (.act 10 [] .done .stop) .stop) (.act 9 [2, 3, 5, 6, 7] (.act 8 [] (.act 10 [] .done .stop) .stop) .stop)))))))))) (by kernel_rfl) ?_
                      simp (maxDischargeDepth := 9) [hts, tab, i1, i2, m1, m2, xl]
                      refine ⟨?_, ?_⟩
                      · refine (joinFacts_ok (cellG topF S6 to.toNat pd.length) x K7).mono fun y K8 ⟨y1, f8⟩ => ?_
                        subst y1
                        rw [← hz]
                        simp [hts, tab, Fct.enc, storeB, over]
                        exact Fr.app' f8 _
                      · refine (joinFacts_ok (cellG topF S6 to.toNat pd.length) x _).mono fun y K8 ⟨y1, f8⟩ => ?_
                        subst y1
                        rw [← hz]
                        obtain ⟨Kz, s1, s2, s3, s4⟩ := store_at (f8.2 K7.length _ (by simp : _ = some (some (⟨3, true, [.bool false, .bool false, .int .i64 0]⟩ : Blk))) id) rfl (ty := tF) (o := 0) (v := .agg [.bool z.top, .bool z.known, .int .i64 z.n]) rfl rfl (by simp)
                        simp [over] at s2
                        simp [hts, tab, Fct.enc, s1]
                        exact ⟨s2, Fr.then (Keeps.trans (Fr.app K7 _) f8) s3 fun b hb => by omega⟩
                    rintro ts K8 ⟨⟨p19, t19, h19⟩, f8, hts⟩
                    have hG8 := hG7.fr f8
                    obtain ⟨b7', q7', ut', hut', i1', i2', _, _⟩ := hG8.get (e := 24) (ety := tLF) rfl rfl rfl (i := to.toNat) (by rw [hw6.1]; exact htof)
                    rw [hut] at hut'
                    cases hut'
                    rw [htoc] at i1'
                    obtain ⟨b8', q8', m1', m2', K9', m3', m4', m5', m6'⟩ := hG8.cell hut (j := pd.length) (by rw [hrw]; exact hpd) (e := 35) (ety := tF) rfl rfl enc_three enc_one z
                    have m2' := m2' rfl topF
                    have z0 : loadA tF K8 (.ptr p19 0) = some (.agg z.enc) := by simp [loadA, h19, Fct.enc]
                    have heq := fact_eql z (cellG topF S6 to.toNat pd.length)
                    obtain ⟨d, hd⟩ : ∃ d, d = decide (z = cellG topF S6 to.toNat pd.length) := ⟨_, rfl⟩
                    rw [← hd] at heq
                    have hcell : (rowG S6 to.toNat)[pd.length]? = some (cellG topF S6 to.toNat pd.length) := hw6.cell topF htof hpd
                    have hup : updF.up (cellG updF.z S6 to.toNat pd.length) x = z := by rw [updF_up hx.2, hz]; rfl
                    have hset : setG S6 to.toNat pd.length (updF.up (cellG updF.z S6 to.toNat pd.length) x) = setG S6 to.toNat pd.length z := by rw [hup]
                    have hgr7 := grown_cell updF hw6 htof hpd x hgr6
                    rw [hset, hup] at hgr7
                    have hc7 : comeG updF to.toNat rd (pd.length + 1) (setG S6 to.toNat pd.length z) = comeG updF to.toNat out 0 S5 := by rw [← hc6, comeG, hset]
                    have hw7 := hw6.set htof pd.length z
                    have hgr8 : GrownG updF S0 (setG S6 to.toNat pd.length z) (t6 || !d) := by
                      have : (!d) = decide (z ≠ cellG updF.z S6 to.toNat pd.length) := by rw [hd, decide_not]; rfl
                      rw [this]
                      exact hgr7
                    simp only [post_sq, W_seq]
                    refine W_cut (fun ts' K9 => K9 = K8 ∧ ts' 136 = .bool (!d) ∧ (ts' 19 = .ptr p19 0 ∧ ts' 0 = fv ∧ ts' 2 = .bool ways ∧ ts' 7 = o ∧ ts' 9 = .bool t6 ∧ ts' 44 = fv ∧ ts' 45 = .int .i64 f.length ∧ ts' 46 = .int .i64 p.length ∧ ts' 11 = .ptr K.length 0 ∧ ts' 12 = w ∧ ts' 13 = .ptr K2.length 0 ∧ ts' 74 = .sl K3.length 0 2 ∧ ts' 75 = .int .i64 2 ∧ ts' 76 = .int .i64 pt.length ∧ ts' 15 = .int .i64 to ∧ ts' 112 = w ∧ ts' 113 = .int .i64 8 ∧ ts' 114 = .int .i64 pd.length ∧ ts' 17 = .int .i64 pd.length)) ?_ ?_
                    · refine W_draw mixed (.look 0 (.look 1 (.look 2 (.look 3 (.look 4 (.look 5 (.look 6 (.look 7 (.look 8 .done))))))))) (by kernel_rfl) ?_
                      simp (maxDischargeDepth := 9) [-eqlA, hts, t19, tab, i1', i2', m1', m2', z0, heq]
                    rintro ts K9 ⟨rfl, t136, hts⟩
                    have fin : ∀ (ts' : TS) (Kx : Hp), GOwn Fct.enc Kx o (setG S6 to.toNat pd.length z) us → Keeps X K4 Kx → (ts' 0 = fv ∧ ts' 2 = .bool ways ∧ ts' 7 = o ∧ ts' 9 = .bool (t6 || !d) ∧ ts' 44 = fv ∧ ts' 45 = .int .i64 f.length ∧ ts' 46 = .int .i64 p.length ∧ ts' 11 = .ptr K.length 0 ∧ ts' 12 = w ∧ ts' 13 = .ptr K2.length 0 ∧ ts' 74 = .sl K3.length 0 2 ∧ ts' 75 = .int .i64 2 ∧ ts' 76 = .int .i64 pt.length ∧ ts' 15 = .int .i64 to ∧ ts' 112 = w ∧ ts' 113 = .int .i64 8 ∧ ts' 114 = .int .i64 (pd.length + 1)) → I4 ts' Kx := fun ts' Kx a1 a2 a3 => ih4 (pd ++ [x]) ts' Kx _ (t6 || !d) (by simp [e6']) hw7 hgr8 (by simpa using hc7) a1 a2 (by simp [a3])
                    cases d with
                    | true =>
                      have hzz : z = cellG topF S6 to.toNat pd.length := of_decide_eq_true hd.symm
                      have hG9 : GOwn Fct.enc K9 o (setG S6 to.toNat pd.length z) us := by
                        rw [hzz, setG_same hw6 topF htof hpd]
                        exact hG8
                      simp at t136
                      simp [hts, tab, t136, hwpd]
                      exact fin _ K9 hG9 (hK6.trans ((Fr.keeps f7).trans (Fr.keeps f8))) (by simp [hts])
                    | false =>
                      simp at t136
                      simp [hts, tab, t136]
                      refine W_draw mixed (.look 0 (.look 1 (.look 2 (.look 3 (.look 4 (.look 5 (.look 6 (.act 7 [] .done .stop)))))))) (by kernel_rfl) ?_
                      simp only [Fct.enc] at z0 m3'
                      simp (maxDischargeDepth := 9) [hts, tab, i1', i2', m1', z0, m3', hwpd]
                      exact fin _ K9' m4' ((hK6.trans ((Fr.keeps f7).trans (Fr.keeps f8))).trans (m5'.mono fun b hb => by rw [hX]; exact ⟨ut, List.mem_of_getElem? hut, hb⟩)) (by simp [hts])
                exact key4 out [] _ K9 S5 t5 rfl hw5 hgr5 rfl hG5 hK5 (by simp [hts])
          exact key3 [b.thn, b.els] [] _ K4 S t rfl hw hgr (hsel S hw) hG4 (Keeps.refl _ _) (by simp [hts])
      exact key2 f [] _ K S0 false rfl hw0 hp0 (.inl ⟨rfl, rfl⟩) rfl hG hK (by simp [hts])
  exact key (16 * f.length + 1) 0 (startF f vars) _ K1 hFIN.symm (by omega) sw sp ho1 hK1 (by simp [hts, ho'])
end Go.Proofs.YtdbnokeegocpbaaGreat.Am
