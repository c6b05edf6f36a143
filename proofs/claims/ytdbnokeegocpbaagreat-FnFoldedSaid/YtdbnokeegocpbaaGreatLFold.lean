/- Flows in which what is known is told: both ways. No condition. -/
import Derived.Test.YtdbnokeegocpbaaGreatLFactAll
import Derived.Test.YtdbnokeegocpbaaGreatLFoldMath
import Derived.Test.YtdbnokeegocpbaaGreatLCopyFlow
namespace Go.Proofs.YtdbnokeegocpbaaGreat.Am
open Go Go.RowKit
set_option linter.unusedSimpArgs false
set_option linter.unusedVariables false

open Classical in
noncomputable def foldRes (f : List Bk) (vars : List Fct) : List Bk × Bool := if GoodF f ∧ GoodFs vars then (foldAll f vars, true) else ([], false)
theorem flow_wide {f : List Bk} (hg : GoodF f) {vars : List Fct} (hv : GoodFs vars) (ways : Bool) : Wide f.length (flowF ways f vars) ∧ AllG RowF (flowF ways f vars) := by
  have := (flowF_end hg ways hv (fun _ => True) trivial fun _ _ _ _ => trivial).1
  exact ⟨this.wide, this.rows⟩
theorem foldB_code (R : List Fct) (b : Bk) (h : (fc R 0).top = false) : foldB R b = ⟨foldC b.code R, b.test, if (fc (stepF b.code R) b.test).known = true ∧ (fc (stepF b.code R) b.test).n = 0 then b.els else b.thn, if (fc (stepF b.code R) b.test).known = true ∧ (fc (stepF b.code R) b.test).n ≠ 0 then b.thn else b.els⟩ := by
  unfold foldB
  rw [if_neg (by simp [h])]
  simp only
  generalize fc (stepF b.code R) b.test = t
  by_cases hk : t.known = true
  · by_cases hn : t.n = 0 <;> simp [hk, hn]
  · simp [hk]
theorem foldB_top (R : List Fct) (b : Bk) (h : (fc R 0).top = true) : foldB R b = b := by
  unfold foldB
  rw [if_pos h]
theorem foldRes_few (f : List Bk) (vars : List Fct) : (foldRes f vars).1.length ≤ 8 ∧ ∀ b ∈ (foldRes f vars).1, b.code.length ≤ 30 := by
  unfold foldRes
  split
  · rename_i h
    obtain ⟨w1, w2⟩ := flow_wide h.1 h.2 true
    refine ⟨by rw [foldAll_len w1]; exact h.1.1.2, fun c hc => ?_⟩
    obtain ⟨i, hi⟩ := List.mem_iff_getElem?.1 hc
    have hil : i < f.length := by rw [← foldAll_len w1]; exact (List.getElem?_eq_some_iff.1 hi).1
    rw [foldAll_get w1 (List.getElem?_eq_getElem hil)] at hi
    cases hi
    have hb := (h.1.2 f[i] (List.getElem_mem hil)).1.1
    unfold foldB
    split
    · exact hb
    · simp only
      split
      · split <;> simpa [foldC_len] using hb
      · simpa [foldC_len] using hb
  · simp
theorem foldAll_snoc {f : List Bk} {vars : List Fct} (p : List Bk) (b : Bk) (r : List Bk) (e : f = p ++ b :: r) (hw : Wide f.length (flowF true f vars)) : List.zipWith foldB ((flowF true f vars).take (p.length + 1)) (p ++ [b]) = List.zipWith foldB ((flowF true f vars).take p.length) p ++ [foldB (rowG (flowF true f vars) p.length) b] := by
  have hpl : p.length < (flowF true f vars).length := by rw [hw.1, e]; simp
  have hr : (flowF true f vars)[p.length] = rowG (flowF true f vars) p.length := by
    unfold rowG
    rw [List.getD_eq_getElem?_getD, List.getElem?_eq_getElem hpl]
    rfl
  rw [List.take_succ_eq_append_getElem hpl, hr, List.zipWith_append (by simp; omega)]
  rfl
set_option maxHeartbeats 1000000 in
set_option maxRecDepth 100000 in
theorem specFold_ok (f : List Bk) (ws : List AV) (fv : AV) (vars : List Fct) (vv : AV) (H : Hp) (hm : f.length ≤ 1048576) (hmm : ∀ t ∈ f, t.code.length ≤ 1048576) (hmv : vars.length ≤ 1048576) (hv0 : FRow H fv f ws) (hvv : Row 3 H vv (fcts vars)) : T Tryz.prog 6 [fv, vv] H (fun r K => ∃ out, r = .tup [out, .bool (foldRes f vars).2] ∧ (∃ us, FRow K out (foldRes f vars).1 us) ∧ Fr H K) := by
  refine T.by tabOk Tryz.func6 (by kernel_rfl) rfl _ (by simp [Tryz.f6]) H _ ?_
  simp [Tryz.f6]
  refine (goodFlow_ok f ws fv H hm hmm hv0).mono fun r K00 ⟨⟨t, h1, h2⟩, h3⟩ => ?_
  subst h1
  cases t with
  | false =>
    have hg : ¬ (GoodF f ∧ GoodFs vars) := fun h => by cases h2.2 h.1
    simp [tab, foldRes, hg]
    exact ⟨⟨[], (FOwn.nil K00).look⟩, h3⟩
  | true =>
  have hg := h2.1 rfl
  simp [tab]
  refine (l5Facts_ok vars vv K00 hmv (hvv.fr h3)).mono fun r K01 ⟨⟨t, g1, g2⟩, g3⟩ => ?_
  subst g1
  cases t with
  | false =>
    have hn : ¬ (GoodF f ∧ GoodFs vars) := fun h => by cases g2.2 h.2
    simp [tab, foldRes, hn]
    exact ⟨⟨[], (FOwn.nil K01).look⟩, h3.trans g3⟩
  | true =>
  have hgv := g2.1 rfl
  simp [tab]
  refine (l5All_ok f ws fv vars vv true K01 hg hgv (hv0.fr (h3.trans g3)) (hvv.fr (h3.trans g3))).mono fun o K0 ⟨⟨us0, x1, x2⟩, x3, x4⟩ => ?_
  have F0 : Fr H K0 := (h3.trans g3).trans x4
  have hv := hv0.fr F0
  have hlen := hv.count 51
  have hres : foldRes f vars = (foldAll f vars, true) := by simp [foldRes, hg, hgv]
  obtain ⟨hw, hR⟩ := flow_wide hg hgv true
  rw [hres]
  simp [tab, hlen]
  refine W_loop _ fun I hI => ?_
  have key : ∀ (r p : List Bk) (ts : TS) (K : Hp) (out : AV) (us : List AV), f = p ++ r → FOwn K out (List.zipWith foldB ((flowF true f vars).take p.length) p) us → (∀ u ∈ us, Fresh K0.length u) → Fresh K0.length out → Fr K0 K → (ts 6 = o ∧ ts 7 = out ∧ ts 27 = fv ∧ ts 28 = .int .i64 f.length ∧ ts 29 = .int .i64 p.length) → I ts K := by
    intro r
    induction r with
    | nil =>
      intro p ts K out us e ho hf hfo hK hts
      apply hI
      simp at e
      subst e
      rw [List.take_of_length_le (by rw [hw.1]; omega)] at ho
      simp [hts, tab]
      exact ⟨⟨us, ho.look⟩, F0.trans hK⟩
    | cons b r ih =>
      intro p ts K out us e ho hf hfo hK hts
      apply hI
      have hlt : (p.length : Int) < f.length := by simp [e]; omega
      have hpl : p.length < f.length := by omega
      have hbf : f[p.length]? = some b := by simp [e]
      have hgb := hg.2 b (by simp [e])
      have h30 := hgb.1.1
      obtain ⟨b1, q, u, hu, e1, e2, e3⟩ := (hv.fr hK).get (e := 51) rfl hbf
      have hu1 := e3.one
      have hu2 := cells_of_one hu1
      have hul := e3.len 53
      obtain ⟨K', hK', fB⟩ : ∃ K', K ++ [some ⟨4, true, [u, .int .i64 b.test, .int .i64 b.thn, .int .i64 b.els]⟩, some ⟨4, true, [.nil, .int .i64 b.test, .int .i64 b.thn, .int .i64 b.els]⟩] = K' ∧ Fr K K' := ⟨_, rfl, Fr.app K _⟩
      have hb : K'[K.length]? = some (some ⟨4, true, [u, .int .i64 b.test, .int .i64 b.thn, .int .i64 b.els]⟩) := by rw [← hK']; simp
      have hs : K'[K.length + 1]? = some (some ⟨4, true, [.nil, .int .i64 b.test, .int .i64 b.thn, .int .i64 b.els]⟩) := by rw [← hK']; simp
      have hK'l : K'.length = K.length + 2 := by rw [← hK']; simp
      have q0 : loadA tLN K' (.ptr K.length 0) = some u := load_at hb rfl rfl rfl
      have hx1 := x1.fr (hK.trans fB)
      obtain ⟨b3, q3, uk, huk, j1, j2, j3, -⟩ := hx1.get (e := 24) (ety := tLF) rfl rfl rfl (i := p.length) (by rw [hw.1]; exact hpl)
      have hrow := hw.row hpl
      have hRow := hR _ (List.mem_of_getElem? hrow.2)
      have hxlt := x1.lt
      have hukl : ∀ c, uk.at c → c < K0.length := fun c hc => hxlt c (.inr ⟨uk, List.mem_of_getElem? huk, hc⟩)
      have hK0K := hK.1
      simp only [cellsB] at e2
      simp (maxDischargeDepth := 9) [hts, tab, hlt, e1, e2, hu1, hu2, storeB, over, fillA, hK', j1, j2, q0, hul]
      obtain ⟨R, hRR⟩ : ∃ R, R = rowG (flowF true f vars) p.length := ⟨_, rfl⟩
      rw [← hRR] at j3 hrow hRow
      obtain ⟨tp, htp⟩ : ∃ tp, tp = (fc R 0).top := ⟨_, rfl⟩
      obtain ⟨FF, hFF⟩ : ∃ FF : List Ins → List Fct, FF = fun pc => if tp = true then R else stepF pc R := ⟨_, rfl⟩
      obtain ⟨CC, hCC⟩ : ∃ CC : List Ins → List Ins, CC = fun pc => if tp = true then pc else foldC pc R := ⟨_, rfl⟩
      have hCl : ∀ pc, (CC pc).length = pc.length := fun pc => by
        rw [hCC]
        simp only
        split
        · rfl
        · exact foldC_len _ _
      have hFg : tp = false → ∀ pc rc, b.code = pc ++ rc → GoodFs (FF pc) := fun h pc rc e => by
        rw [hFF]
        simp only [h]
        refine stepF_good pc (fun x hx => hgb.1.2 x (by rw [e]; simp [hx])) ?_
        rcases hRow.top with ⟨h1, _⟩ | ⟨_, h1⟩
        · rw [← htp, h] at h1; cases h1
        · exact h1
      have hF8 : ∀ pc rc, b.code = pc ++ rc → (FF pc).length = 8 := fun pc rc e => by
        cases h : tp with
        | false => exact (hFg h pc rc e).1
        | true => rw [hFF]; simp only [h, if_true]; exact hrow.1
      have hB : foldB R b = ⟨CC b.code, b.test, if (fc (FF b.code) b.test).known = true ∧ (fc (FF b.code) b.test).n = 0 then b.els else b.thn, if (fc (FF b.code) b.test).known = true ∧ (fc (FF b.code) b.test).n ≠ 0 then b.thn else b.els⟩ := by
        cases h : tp with
        | false =>
          rw [foldB_code R b (by rw [← htp, h]), hFF, hCC]
          simp [h]
        | true =>
          have h1 : (fc R 0).top = true := by rw [← htp, h]
          rw [foldB_top R b h1, hFF, hCC]
          rcases hRow.top with ⟨_, h2⟩ | ⟨h2, _⟩
          · have : fc R b.test = topF := by
              rw [h2]
              have := hgb.2.1
              unfold Nm at this
              unfold fc
              rw [List.getD_eq_getElem?_getD, List.getElem?_replicate, if_pos (by omega)]
              rfl
            simp [h, this]
          · rw [h1] at h2; cases h2
      have hsnoc := foldAll_snoc (vars := vars) p b r e hw
      rw [← hRR] at hsnoc
      have holt := ho.lt
      refine W_loop _ fun I2 hI2 => ?_
      have key2 : ∀ (rc pc : List Ins) (ts : TS) (Ki : Hp) (w fs : AV), b.code = pc ++ rc → Own 5 Ki w (inss (CC pc)) → Fresh K'.length w → Ki[K.length + 1]? = some (some ⟨4, true, [w, .int .i64 b.test, .int .i64 b.thn, .int .i64 b.els]⟩) → Row 3 Ki fs (fcts (FF pc)) → (∀ c, fs.at c → c ≠ K.length + 1 ∧ ¬ w.at c) → Keeps (fun c => c = K.length + 1) K' Ki →
          (ts 6 = o ∧ ts 7 = out ∧ ts 27 = fv ∧ ts 28 = .int .i64 f.length ∧ ts 29 = .int .i64 p.length ∧ ts 8 = .int .i64 p.length ∧ ts 9 = .ptr K.length 0 ∧ ts 10 = .ptr (K.length + 1) 0 ∧ ts 11 = fs ∧ ts 46 = u ∧ ts 47 = .int .i64 b.code.length ∧ ts 48 = .int .i64 pc.length) → I2 ts Ki := by
        intro rc
        induction rc with
        | nil =>
          intro pc ts Ki w fs ec ho2 hfw hsb hfs hfn hKi hts
          apply hI2
          simp at ec
          have hF8' := hF8 pc [] (by simpa using ec)
          rw [← ec] at hfs ho2 hF8'
          obtain ⟨bt, qt, y1, y2⟩ := getF hfs hF8' hgb.2.1
          obtain ⟨T, hT⟩ : ∃ T, T = fc (FF b.code) b.test := ⟨_, rfl⟩
          rw [← hT] at y2 hB
          simp only [Fct.enc] at y2
          have hbi := hKi.2 _ _ hb (by omega)
          have g1 : loadA tI Ki (.ptr K.length 1) = some (.int .i64 b.test) := load_at hbi rfl rfl rfl
          obtain ⟨K3, hK3, f3⟩ : ∃ K3, Ki ++ [some ⟨3, true, [.bool T.top, .bool T.known, .int .i64 T.n]⟩] = K3 ∧ Fr Ki K3 := ⟨_, rfl, Fr.app _ _⟩
          have ht3 : K3[Ki.length]? = some (some ⟨3, true, [.bool T.top, .bool T.known, .int .i64 T.n]⟩) := by rw [← hK3]; simp
          have t1 : loadA tFB K3 (.ptr Ki.length 1) = some (.bool T.known) := load_at ht3 rfl rfl rfl
          have t2 : loadA tI K3 (.ptr Ki.length 2) = some (.int .i64 T.n) := load_at ht3 rfl rfl rfl
          have hs3 := f3.2 _ _ hsb id
          have s2 : loadA tI K3 (.ptr (K.length + 1) 2) = some (.int .i64 b.thn) := load_at hs3 rfl rfl rfl
          have s3 : loadA tI K3 (.ptr (K.length + 1) 3) = some (.int .i64 b.els) := load_at hs3 rfl rfl rfl
          have hcl : (b.code.length : Int) = pc.length := by rw [ec]
          obtain ⟨Ka, a1, a2, a3, a4⟩ := store_at hs3 rfl (ty := tI) (o := 3) (v := .int .i64 b.thn) rfl rfl (by simp)
          obtain ⟨Kb, c1, c2, c3, c4⟩ := store_at hs3 rfl (ty := tI) (o := 2) (v := .int .i64 b.els) rfl rfl (by simp)
          simp [over] at a2 c2
          have hwp := wrap64 (x := (p.length : Int) + 1) (by omega) (by omega)
          have fin : ∀ (Kx : Hp), Keeps (fun c => c = K.length + 1) Ki Kx → Kx[K.length + 1]? = some (some ⟨4, true, [w, .int .i64 (foldB R b).test, .int .i64 (foldB R b).thn, .int .i64 (foldB R b).els]⟩) →
              loadA tK Kx (.ptr (K.length + 1) 0) = some (.agg [w, .int .i64 (foldB R b).test, .int .i64 (foldB R b).thn, .int .i64 (foldB R b).els]) ∧ ∃ o' K4, appendA 4 48 (Kx ++ [some ⟨4, true, [w, .int .i64 (foldB R b).test, .int .i64 (foldB R b).thn, .int .i64 (foldB R b).els]⟩]) out (.sl Kx.length 0 1) = some (o', K4) ∧ ∀ ts', (ts' 6 = o ∧ ts' 7 = o' ∧ ts' 27 = fv ∧ ts' 28 = .int .i64 f.length ∧ ts' 29 = .int .i64 (p.length + 1)) → I ts' K4 := by
            intro Kx hkx hxx
            have FK : Fr K Kx := Fr.then fB (hKi.trans hkx) (by rintro c rfl; omega)
            obtain ⟨o', K4, g1, g2, g3, g4⟩ := (ho.fr FK).push (t := foldB R b) (u := w) (by rw [hB]; exact ho2.keeps hkx fun c hc hx => by have := hfw c hc; omega) (by intro c hc hx; have := hfw c hc; have := holt c hx; omega) (by simp; omega)
            refine ⟨by simp [loadA, hxx], o', K4, by simpa only [cellsB] using g1, fun ts' hts' => ?_⟩
            refine ih (p ++ [b]) ts' K4 o' (us ++ [w]) (by simp [e]) (by simp only [List.length_append, List.length_singleton]; rw [hsnoc]; exact g2) (fun x hx => ?_) (fun c hc => (g4 c hc).elim (hfo c) fun h => ?_) (Fr.then (hK.trans FK) g3 hfo) (by simp [hts'])
            · rcases List.mem_append.1 hx with hx | hx
              · exact hf x hx
              · simp at hx; subst hx; exact hfw.mono (by omega)
            · have := FK.1; omega
          have hw1 := ho2.row.one
          have hw2 := ho2.row.self
          simp only [W_seq]
          simp (maxDischargeDepth := 9) [hts, tab, hcl, g1, y1, y2, storeB, over, hK3]
          cases hk : T.known with
          | false =>
            rw [hk] at t1
            obtain ⟨z1, o', K4, z2, z3⟩ := fin K3 (Fr.keeps f3) (by rw [hB]; simpa [hk] using hs3)
            rw [hB] at z1 z2
            simp [hk] at z1 z2
            simp (maxDischargeDepth := 9) [hts, tab, t1, t2, z1, buildSliceA, zerosA, fillA, over, hw1, hw2, z2, hwp]
            exact z3 _ (by simp [hts])
          | true =>
            rw [hk] at t1
            by_cases hn : T.n = 0
            · rw [hn] at t2
              obtain ⟨z1, o', K4, z2, z3⟩ := fin Kb ((Fr.keeps f3).trans c3) (by rw [hB]; simpa [hk, hn] using c2)
              rw [hB] at z1 z2
              simp [hk, hn] at z1 z2
              simp (maxDischargeDepth := 9) [hts, tab, t1, t2, s3, c1, z1, buildSliceA, zerosA, fillA, over, hw1, hw2, z2, hwp]
              exact z3 _ (by simp [hts])
            · obtain ⟨z1, o', K4, z2, z3⟩ := fin Ka ((Fr.keeps f3).trans a3) (by rw [hB]; simpa [hk, hn] using a2)
              rw [hB] at z1 z2
              simp [hk, hn] at z1 z2
              simp (maxDischargeDepth := 9) [hts, tab, t1, t2, s2, a1, hn, z1, buildSliceA, zerosA, fillA, over, hw1, hw2, z2, hwp]
              exact z3 _ (by simp [hts])
        | cons a rc ih2 =>
          intro pc ts Ki w fs ec ho2 hfw hsb hfs hfn hKi hts
          apply hI2
          have hltc : (pc.length : Int) < b.code.length := by simp [ec]; omega
          have hget : b.code[pc.length]? = some a := by rw [ec]; simp
          have hga := hgb.1.2 a (by rw [ec]; simp)
          have hnm := hga.names
          have FK : Fr K Ki := Fr.then fB hKi (by rintro c rfl; omega)
          have e3i := e3.fr FK
          obtain ⟨b2, q2, _, d1, d2, -⟩ := e3i.get (tab := tab) (e := 53) (ety := tN) rfl (i := pc.length) (a := a) hget .i64
          have d2 := d2 rfl
          obtain ⟨Kx, hKx, fx⟩ : ∃ Kx, Ki ++ [some ⟨5, true, a.enc⟩] = Kx ∧ Fr Ki Kx := ⟨_, rfl, Fr.app _ _⟩
          have hx0 : Kx[Ki.length]? = some (some ⟨5, true, a.enc⟩) := by rw [← hKx]; simp
          have hla : loadA tN Kx (.ptr Ki.length 0) = some (.agg a.enc) := by simp [loadA, hx0, Ins.enc]
          have hpKi : K.length + 1 < Ki.length := lt_of_get hsb
          have hwk := wrap64 (x := (pc.length : Int) + 1) (by omega) (by omega)
          have hGx : GOwn Fct.enc Kx o (flowF true f vars) us0 := (x1.fr ((hK.trans FK).trans fx))
          obtain ⟨b5, q5, uk', huk', i1, i2, i3, -⟩ := hGx.get (e := 24) (ety := tLF) rfl rfl rfl (i := p.length) (by rw [hw.1]; exact hpl)
          rw [← hRR] at i3
          obtain ⟨b6, q6, _, k1, -, k3⟩ := i3.row.get (tab := tab) (e := 35) (ety := tF) rfl (i := 0) (a := fc R 0) (by simpa using fc_get hrow.1 (i := 0) (by decide)) .i64
          have k3 := k3 tFB 0 rfl rfl (by decide)
          simp only [Int.natCast_zero, Nat.add_zero, Fct.enc, List.getElem?_cons_zero] at k1 k3
          rw [← htp] at k3
          have hsx := fx.2 _ _ hsb id
          -- what is put behind, once it is told
          have fin : ∀ (y : Ins) (fs' : AV) (Ky : Hp), CC (pc ++ [a]) = CC pc ++ [y] → Row 3 Ky fs' (fcts (FF (pc ++ [a]))) → (∀ c, fs'.at c → c < Ky.length ∧ c ≠ K.length + 1 ∧ ¬ w.at c) → Fr Ki Ky →
              loadA tLN Ky (.ptr (K.length + 1) 0) = some w ∧ ∃ w' K5, appendA 5 40 (Ky ++ [some ⟨5, true, y.enc⟩]) w (.sl Ky.length 0 1) = some (w', K5) ∧ ∃ K6, storeA tLN K5 (.ptr (K.length + 1) 0) w' = some K6 ∧ ∀ ts', (ts' 6 = o ∧ ts' 7 = out ∧ ts' 27 = fv ∧ ts' 28 = .int .i64 f.length ∧ ts' 29 = .int .i64 p.length ∧ ts' 8 = .int .i64 p.length ∧ ts' 9 = .ptr K.length 0 ∧ ts' 10 = .ptr (K.length + 1) 0 ∧ ts' 11 = fs' ∧ ts' 46 = u ∧ ts' 47 = .int .i64 b.code.length ∧ ts' 48 = .int .i64 (pc.length + 1)) → I2 ts' K6 := by
            intro y fs' Ky hcc hfs' hfn' fy
            have hsy := fy.2 _ _ hsb id
            obtain ⟨w', K5, p1, p2, p3, p4⟩ := (ho2.fr fy).pushI y (by rw [hCl]; simp [ec] at h30; omega)
            have hs5 := p3.2 _ _ hsy (fun h => by have := hfw _ h; omega)
            have hw1 := p2.row.one
            have hw2 := p2.row.self
            obtain ⟨K6, s1, s2, s3, s4⟩ := store_at hs5 rfl (ty := tLN) (o := 0) (v := w') (by rw [hw2]; rfl) (by simp [hw2, hw1]) (by simp)
            have hwf' : ∀ c, w'.at c → K'.length ≤ c := fun c hc => (p4 c hc).elim (hfw c) fun h => by have := hKi.1; have := fy.1; omega
            refine ⟨load_at hsy rfl rfl rfl, w', K5, p1, K6, s1, fun ts' hts' => ?_⟩
            refine ih2 (pc ++ [a]) ts' K6 w' fs' (by simp [ec]) (by rw [hcc]; exact p2.keeps s3 fun c hc hx => by have := hwf' c hc; omega) hwf' ?_ ((hfs'.keeps p3 fun c hc hx => (hfn' c hc).2.2 hx).keeps s3 fun c hc hx => (hfn' c hc).2.1 hx) (fun c hc => ⟨(hfn' c hc).2.1, fun hx => (p4 c hx).elim (hfn' c hc).2.2 fun h => by have := (hfn' c hc).1; omega⟩) ?_ (by simp [hts'])
            · rw [s2]
              simp [over, hw2]
            · refine ((hKi.trans (Fr.keeps fy)).after p3 fun c hc => .inr (hfw c hc)).trans s3
          simp only [Ins.enc] at hKx d2 hla
          cases htp' : tp with
          | true =>
            have e1 : CC (pc ++ [a]) = CC pc ++ [a] := by rw [hCC]; simp [htp']
            have e2 : FF (pc ++ [a]) = FF pc := by rw [hFF]; simp [htp']
            obtain ⟨z1, w', K5, z2, K6, z3, z4⟩ := fin a fs Kx e1 (by rw [e2]; exact hfs.fr fx) (fun c hc => ⟨by have := hfs.lt c hc; have := fx.1; omega, hfn c hc⟩) fx
            rw [htp'] at k3
            simp only [Ins.enc] at z2
            simp (maxDischargeDepth := 9) [hts, tab, hltc, d1, d2, storeB, over, hKx, i1, i2, k1, k3, z1, hla, buildSliceA, zerosA, fillA, z2, z3, hwk]
            exact z4 _ (by simp [hts])
          | false =>
            rw [htp'] at k3
            have hFgp := hFg htp' pc _ ec
            have e1 : CC (pc ++ [a]) = CC pc ++ [foldI (FF pc) a] := by rw [hCC, hFF]; simp [htp', foldC_snoc]
            have e2 : FF (pc ++ [a]) = stepF1 (FF pc) a := by rw [hFF]; simp [htp', stepF_snoc]
            have hFgn : GoodFs (stepF1 (FF pc) a) := stepF1_good hFgp hga
            obtain ⟨Ky, hKy, fy⟩ : ∃ Ky, Kx ++ [some ⟨5, true, [.int .i64 a.op, .int .i64 a.dst, .int .i64 a.a, .int .i64 a.b, .int .i64 a.n]⟩] = Ky ∧ Fr Kx Ky := ⟨_, rfl, Fr.app _ _⟩
            have own1 : Own 5 Ky (.sl Kx.length 0 1) (inss [a]) := by
              have := Own.new (sz := 5) (K := Kx) (es := inss [a]) (by simp [Ins.enc])
              simp [inss, Ins.enc] at this
              rw [hKy] at this
              simpa [inss, Ins.enc] using this
            simp (maxDischargeDepth := 9) [hts, tab, hltc, d1, d2, storeB, over, hKx, i1, i2, k1, k3, hla, buildSliceA, zerosA, fillA, hKy]
            refine (l5Step_ok [a] (FF pc) (.sl Kx.length 0 1) fs Ky ⟨by simp, by simpa using hga⟩ hFgp own1.row (hfs.fr (fx.trans fy))).mono fun fs' K7 ⟨n1, n2, n3⟩ => ?_
            have n1 : Own 3 K7 fs' (fcts (stepF1 (FF pc) a)) := n1
            have hx7 := n3.2 _ _ (fy.2 _ _ hx0 id) id
            have g1 : loadA tI K7 (.ptr Ki.length 1) = some (.int .i64 a.dst) := load_at hx7 rfl rfl rfl
            obtain ⟨b7, q7, y1, y2⟩ := getF n1.row hFgn.1 hnm.1
            obtain ⟨T, hT⟩ : ∃ T, T = fc (stepF1 (FF pc) a) a.dst := ⟨_, rfl⟩
            have hfold : foldI (FF pc) a = if a.op ≠ 8 ∧ T.known = true then ⟨1, a.dst, 0, 0, T.n⟩ else a := by rw [hT]; rfl
            rw [← hT] at y2
            simp only [Fct.enc] at y2
            obtain ⟨K8, hK8, f8⟩ : ∃ K8, K7 ++ [some ⟨3, true, [.bool T.top, .bool T.known, .int .i64 T.n]⟩] = K8 ∧ Fr K7 K8 := ⟨_, rfl, Fr.app _ _⟩
            have ht8 : K8[K7.length]? = some (some ⟨3, true, [.bool T.top, .bool T.known, .int .i64 T.n]⟩) := by rw [← hK8]; simp
            have t1 : loadA tFB K8 (.ptr K7.length 1) = some (.bool T.known) := load_at ht8 rfl rfl rfl
            have t2 : loadA tI K8 (.ptr K7.length 2) = some (.int .i64 T.n) := load_at ht8 rfl rfl rfl
            have hx8 := f8.2 _ _ hx7 id
            have g0 : loadA tI K8 (.ptr Ki.length 0) = some (.int .i64 a.op) := load_at hx8 rfl rfl rfl
            have g1' : loadA tI K8 (.ptr Ki.length 1) = some (.int .i64 a.dst) := load_at hx8 rfl rfl rfl
            have hla8 : loadA tN K8 (.ptr Ki.length 0) = some (.agg [.int .i64 a.op, .int .i64 a.dst, .int .i64 a.a, .int .i64 a.b, .int .i64 a.n]) := by simp [loadA, hx8, Ins.enc]
            have F8 : Fr Ki K8 := fx.trans (fy.trans (n3.trans f8))
            have hfs' : ∀ c, fs'.at c → c < K8.length ∧ c ≠ K.length + 1 ∧ ¬ w.at c := fun c hc => by
              have h1 := n2 c hc
              have h2 := n1.lt c hc
              have h3 := f8.1
              have h4 := fx.1
              have h5 := fy.1
              exact ⟨by omega, by omega, fun hx => by have := ho2.lt c hx; omega⟩
            simp (maxDischargeDepth := 9) [hts, tab, g1, y1, y2, storeB, over, hK8]
            by_cases hc : a.op ≠ 8 ∧ T.known = true
            · obtain ⟨K9, s1, s2, s3, s4⟩ := store_at hx8 rfl (ty := tN) (o := 0) (v := .agg [.int .i64 1, .int .i64 a.dst, .int .i64 0, .int .i64 0, .int .i64 T.n]) rfl rfl (by simp [Ins.enc])
              simp [over, Ins.enc] at s2
              have F9 : Fr Ki K9 := Fr.then F8 s3 fun c hc => by omega
              have hl9 : loadA tN K9 (.ptr Ki.length 0) = some (.agg [.int .i64 1, .int .i64 a.dst, .int .i64 0, .int .i64 0, .int .i64 T.n]) := by simp [loadA, s2]
              rw [if_pos hc] at hfold
              obtain ⟨z1, w', K5, z2, K6, z3, z4⟩ := fin _ fs' K9 e1 (by rw [e2]; exact (n1.row.fr f8).keeps s3 fun c hc hx => by have := n2 c hc; have := fx.1; have := fy.1; have := lt_of_get hx0; omega) (fun c hc => by rw [s4]; exact hfs' c hc) F9
              rw [hfold] at z2
              simp only [Ins.enc] at z2
              obtain ⟨c1, c2⟩ := hc
              rw [c2] at t1
              simp (maxDischargeDepth := 9) [hts, tab, g0, c1, t1, g1', t2, fillA, over, s1, z1, hl9, buildSliceA, zerosA, z2, z3, hwk]
              exact z4 _ (by simp [hts])
            · rw [if_neg hc] at hfold
              obtain ⟨z1, w', K5, z2, K6, z3, z4⟩ := fin _ fs' K8 e1 (by rw [e2]; exact n1.row.fr f8) hfs' F8
              rw [hfold] at z2
              simp only [Ins.enc] at z2
              by_cases c1 : a.op = 8
              · simp (maxDischargeDepth := 9) [hts, tab, g0, c1, fillA, over, z1, hla8, buildSliceA, zerosA, hwk]
                rw [c1] at z2
                simp [z2, z3, tab, hts, hwk]
                exact z4 _ (by simp [hts])
              · have c2 : T.known = false := by
                  cases h : T.known with
                  | false => rfl
                  | true => exact absurd ⟨c1, h⟩ hc
                rw [c2] at t1
                simp (maxDischargeDepth := 9) [hts, tab, g0, c1, t1, fillA, over, z1, hla8, buildSliceA, zerosA, z2, z3, hwk]
                exact z4 _ (by simp [hts])
      exact key2 b.code [] _ K' .nil uk rfl (by rw [hCC]; cases tp <;> simpa [foldC, inss] using Own.nil 5 K') (Fresh.nil _) hs (by rw [hFF]; cases tp <;> simpa [stepF] using j3.row) (fun c hc => ⟨by have := hukl c hc; omega, fun h => h⟩) (Keeps.refl _ _) (by simp [hts])
  exact key f [] _ K0 .nil [] rfl (by simpa using FOwn.nil K0) (by simp) (Fresh.nil _) (Fr.refl _) (by simp)
set_option maxHeartbeats 1000000 in
set_option maxRecDepth 100000 in
theorem implFold_ok (f : List Bk) (ws : List AV) (fv : AV) (vars : List Fct) (vv : AV) (H : Hp) (hm : f.length ≤ 1048576) (hmm : ∀ t ∈ f, t.code.length ≤ 1048576) (hmv : vars.length ≤ 1048576) (hv0 : FRow H fv f ws) (hvv : Row 3 H vv (fcts vars)) : T Tryz.prog 5 [fv, vv] H (fun r K => ∃ out, r = .tup [out, .bool (foldRes f vars).2] ∧ (∃ us, FOwn K out (foldRes f vars).1 us ∧ ∀ u ∈ us, Fresh H.length u) ∧ Fresh H.length out ∧ Fr H K) := by
  refine T.by tabOk Tryz.func5 (by kernel_rfl) rfl _ (by simp [Tryz.f5]) H _ ?_
  simp [Tryz.f5]
  refine (isFlow_ok f ws fv H hm hmm hv0).mono fun r K00 ⟨⟨t, h1, h2⟩, h3⟩ => ?_
  subst h1
  cases t with
  | false =>
    have hg : ¬ (GoodF f ∧ GoodFs vars) := fun h => by cases h2.2 h.1
    simp [tab, foldRes, hg]
    exact ⟨⟨[], FOwn.nil K00, by simp⟩, Fresh.nil _, h3⟩
  | true =>
  have hg := h2.1 rfl
  simp [tab]
  refine (areFacts_ok vars vv K00 hmv (hvv.fr h3)).mono fun r K01 ⟨⟨t, g1, g2⟩, g3⟩ => ?_
  subst g1
  cases t with
  | false =>
    have hn : ¬ (GoodF f ∧ GoodFs vars) := fun h => by cases g2.2 h.2
    simp [tab, foldRes, hn]
    exact ⟨⟨[], FOwn.nil K01, by simp⟩, Fresh.nil _, h3.trans g3⟩
  | true =>
  have hgv := g2.1 rfl
  have hres : foldRes f vars = (foldAll f vars, true) := by simp [foldRes, hg, hgv]
  obtain ⟨hw, hR⟩ := flow_wide hg hgv true
  rw [hres]
  simp [tab]
  refine (copyFlow_ok f ws fv K01 hm hmm (hv0.fr (h3.trans g3))).mono fun out K1 ⟨⟨us, c1, c2⟩, c3, c4⟩ => ?_
  have F1 : Fr H K1 := (h3.trans g3).trans c4
  simp
  refine (flowFacts_ok f ws fv vars vv true K1 hg hgv (hv0.fr F1) (hvv.fr F1)).mono fun o K0 ⟨⟨us0, x1, x2⟩, x3, x4⟩ => ?_
  have F0 : Fr H K0 := F1.trans x4
  have hcnt := x1.count 24
  rw [hw.1] at hcnt
  have l01 := (h3.trans g3).1
  obtain ⟨X, hX⟩ : ∃ X : Nat → Prop, X = fun b => out.at b ∨ ∃ u ∈ us, u.at b := ⟨_, rfl⟩
  have hXl : ∀ b, X b → b < K1.length := fun b hb => c1.lt b (by rw [hX] at hb; exact hb)
  have hXH : ∀ b, X b → H.length ≤ b := fun b hb => by
    rw [hX] at hb
    rcases hb with hb | ⟨u, hu, hb⟩
    · exact Nat.le_trans l01 (c3 b hb)
    · exact Nat.le_trans l01 (c2 u hu b hb)
  have hgl : ∀ b, (o.at b ∨ ∃ u ∈ us0, u.at b) → K1.length ≤ b := fun b hb => hb.elim (x3 b) fun ⟨u, hu, h⟩ => x2 u hu b h
  simp [tab, hcnt]
  refine W_loop _ fun I hI => ?_
  have key : ∀ (r p : List Bk) (ts : TS) (K : Hp), f = p ++ r → FOwn K out (List.zipWith foldB ((flowF true f vars).take p.length) p ++ r) us → Keeps X K0 K → (ts 0 = fv ∧ ts 6 = out ∧ ts 25 = o ∧ ts 26 = .int .i64 f.length ∧ ts 27 = .int .i64 p.length) → I ts K := by
    intro r
    induction r with
    | nil =>
      intro p ts K e ho hK hts
      apply hI
      simp at e
      subst e
      rw [List.take_of_length_le (by rw [hw.1]; omega), List.append_nil] at ho
      simp [hts, tab]
      exact ⟨⟨us, ho, fun u hu => (c2 u hu).mono l01⟩, c3.mono l01, Fr.then F0 hK hXH⟩
    | cons b r ih =>
      intro p ts K e ho hK hts
      apply hI
      have hlt : (p.length : Int) < f.length := by simp [e]; omega
      have hpl : p.length < f.length := by omega
      have hbf : f[p.length]? = some b := by simp [e]
      have hgb := hg.2 b (by simp [e])
      have h30 := hgb.1.1
      have hwp := wrap64 (x := (p.length : Int) + 1) (by omega) (by omega)
      have hGK : GOwn Fct.enc K o (flowF true f vars) us0 := x1.keeps hK fun c hc hx => by have := hgl c hc; have := hXl c hx; omega
      obtain ⟨b3, q3, uk, huk, j1, j2, j3, -⟩ := hGK.get (e := 24) (ety := tLF) rfl rfl rfl (i := p.length) (by rw [hw.1]; exact hpl)
      have hrow := hw.row hpl
      have hRow := hR _ (List.mem_of_getElem? hrow.2)
      have hsnoc := foldAll_snoc (vars := vars) p b r e hw
      obtain ⟨R, hRR⟩ : ∃ R, R = rowG (flowF true f vars) p.length := ⟨_, rfl⟩
      rw [← hRR] at j3 hrow hRow hsnoc
      obtain ⟨b6, q6, _, k1, -, k3⟩ := j3.row.get (tab := tab) (e := 35) (ety := tF) rfl (i := 0) (a := fc R 0) (by simpa using fc_get hrow.1 (i := 0) (by decide)) .i64
      have k3 := k3 tFB 0 rfl rfl (by decide)
      simp only [Int.natCast_zero, Nat.add_zero, Fct.enc, List.getElem?_cons_zero] at k1 k3
      have hpz : (List.zipWith foldB ((flowF true f vars).take p.length) p).length = p.length := by simp [hw.1]; omega
      obtain ⟨A, hA⟩ : ∃ A, A = List.zipWith foldB ((flowF true f vars).take p.length) p := ⟨_, rfl⟩
      rw [← hA] at ho hsnoc hpz
      have next : ∀ (ts' : TS) (K' : Hp), FOwn K' out (A ++ foldB R b :: r) us → Keeps X K0 K' → (ts' 0 = fv ∧ ts' 6 = out ∧ ts' 25 = o ∧ ts' 26 = .int .i64 f.length ∧ ts' 27 = .int .i64 (p.length + 1)) → I ts' K' := fun ts' K' a1 a2 a3 => ih (p ++ [b]) ts' K' (by simp [e]) (by simp only [List.length_append, List.length_singleton]; rw [hsnoc]; simpa using a1) a2 (by simp [a3])
      rcases hRow.top with ⟨h0, _⟩ | ⟨h0, hGR⟩
      · rw [h0] at k3
        simp (maxDischargeDepth := 9) [hts, tab, hlt, j1, j2, k1, k3, hwp]
        exact next _ K (by rw [foldB_top R b h0]; exact ho) hK (by simp [hts])
      rw [h0] at k3
      obtain ⟨bo, u, hout, hu, i1, i2, i3, i4, i5, i6, -, -⟩ := ho.spot
      rw [hpz] at hu i1 i2 i3 i4 i5
      have hul := i6.row.len 53
      have hum : u ∈ us := List.mem_of_getElem? hu
      have huX : ∀ c, u.at c → X c := fun c hc => by rw [hX]; exact .inr ⟨u, hum, hc⟩
      have houtX : ∀ c, out.at c → X c := fun c hc => by rw [hX]; exact .inl hc
      simp (maxDischargeDepth := 9) [hts, tab, hlt, j1, j2, k1, k3, i1, i2, hul]
      refine W_loop _ fun I2 hI2 => ?_
      have hXK : ∀ c, X c → c < K.length := fun c hc => by have := hXl c hc; have := x4.1; have := hK.1; omega
      have hukX : ∀ c, uk.at c → ¬ X c := fun c hc hx => by have := hXl c hx; have := hgl c (.inr ⟨uk, List.mem_of_getElem? huk, hc⟩); omega
      have key2 : ∀ (rc pc : List Ins) (ts : TS) (Ki : Hp) (fs : AV), b.code = pc ++ rc → FOwn Ki out (A ++ ⟨foldC pc R ++ rc, b.test, b.thn, b.els⟩ :: r) us → Row 3 Ki fs (fcts (stepF pc R)) → (∀ c, fs.at c → ¬ X c) → Keeps X K Ki →
          (ts 0 = fv ∧ ts 6 = out ∧ ts 25 = o ∧ ts 26 = .int .i64 f.length ∧ ts 27 = .int .i64 p.length ∧ ts 7 = .int .i64 p.length ∧ ts 8 = fs ∧ ts 9 = .ptr bo (p.length * 4) ∧ ts 42 = u ∧ ts 43 = .int .i64 b.code.length ∧ ts 44 = .int .i64 pc.length) → I2 ts Ki := by
        intro rc
        induction rc with
        | nil =>
          intro pc ts Ki fs ec ho2 hfs hfn hKi hts
          apply hI2
          simp at ec
          rw [← ec] at hfs ho2
          simp only [List.append_nil] at ho2
          have hGF := stepF_good b.code hgb.1.2 hGR
          obtain ⟨bt, qt, y1, y2⟩ := getF hfs hGF.1 hgb.2.1
          have hB := foldB_code R b h0
          obtain ⟨T, hT⟩ : ∃ T, T = fc (stepF b.code R) b.test := ⟨_, rfl⟩
          rw [← hT] at y2 hB
          simp only [Fct.enc] at y2
          obtain ⟨K3, hK3, f3⟩ : ∃ K3, Ki ++ [some ⟨3, true, [.bool T.top, .bool T.known, .int .i64 T.n]⟩] = K3 ∧ Fr Ki K3 := ⟨_, rfl, Fr.app _ _⟩
          have ht3 : K3[Ki.length]? = some (some ⟨3, true, [.bool T.top, .bool T.known, .int .i64 T.n]⟩) := by rw [← hK3]; simp
          have t1 : loadA tFB K3 (.ptr Ki.length 1) = some (.bool T.known) := load_at ht3 rfl rfl rfl
          have t2 : loadA tI K3 (.ptr Ki.length 2) = some (.int .i64 T.n) := load_at ht3 rfl rfl rfl
          obtain ⟨bo2, u2, hout2, _, _, _, g1, _⟩ := ho2.spot
          obtain ⟨bo3, u3, hout3, _, _, _, _, g2, g3, _, g4, g5⟩ := (ho2.fr f3).spot
          have hb2 : bo2 = bo := by have h := hout.symm.trans hout2; injection h with h1 _ _; exact h1.symm
          have hb3 : bo3 = bo := by have h := hout.symm.trans hout3; injection h with h1 _ _; exact h1.symm
          subst hb2 hb3
          rw [hpz] at g1 g2 g3
          simp only [hpz] at g4 g5
          obtain ⟨Ka, a1, a2, a3⟩ := g4 b.els
          obtain ⟨Kb, c1', c2', c3'⟩ := g5 b.thn
          have hcl : (b.code.length : Int) = pc.length := by rw [ec]
          have hkk : Keeps X K0 K3 := hK.trans (hKi.trans (Fr.keeps f3))
          simp (maxDischargeDepth := 9) [hts, tab, hcl, g1, y1, y2, storeB, over, hK3]
          cases hk : T.known with
          | false =>
            rw [hk] at t1 hB
            simp at hB
            simp (maxDischargeDepth := 9) [hts, tab, t1, t2, hwp]
            exact next _ K3 (by rw [hB]; exact ho2.fr f3) hkk (by simp [hts])
          | true =>
            rw [hk] at t1 hB
            by_cases hn : T.n = 0
            · rw [hn] at t2 hB
              simp at hB
              simp (maxDischargeDepth := 9) [hts, tab, t1, t2, g3, a1, hwp]
              exact next _ Ka (by rw [hB]; exact a2) (hkk.trans (a3.mono houtX)) (by simp [hts])
            · simp [hn] at hB
              simp (maxDischargeDepth := 9) [hts, tab, t1, t2, g2, c1', hn, hwp]
              exact next _ Kb (by rw [hB]; exact c2') (hkk.trans (c3'.mono houtX)) (by simp [hts])
        | cons a rc ih2 =>
          intro pc ts Ki fs ec ho2 hfs hfn hKi hts
          apply hI2
          have hltc : (pc.length : Int) < b.code.length := by simp [ec]; omega
          have hget : b.code[pc.length]? = some a := by rw [ec]; simp
          have hga := hgb.1.2 a (by rw [ec]; simp)
          have hnm := hga.names
          have hGF := stepF_good pc (fun x hx => hgb.1.2 x (by rw [ec]; simp [hx])) hGR
          have hGn := stepF1_good hGF hga
          have FH : Fr H Ki := Fr.then F0 (hK.trans hKi) hXH
          obtain ⟨bo2, u2, hout2, hu2', s1, s2, _, _, _, s6, -, -⟩ := ho2.spot
          have hb2 : bo2 = bo := by have h := hout.symm.trans hout2; injection h with h1 _ _; exact h1.symm
          subst hb2
          rw [hpz] at hu2'
          rw [hu] at hu2'
          cases hu2'
          obtain ⟨b2, q2, _, d1, d2, -⟩ := s6.row.get (tab := tab) (e := 53) (ety := tN) rfl (i := pc.length) (a := a) (by rw [List.getElem?_append_right (by rw [foldC_len]; omega), foldC_len]; simp) .i64
          have d2 := d2 rfl
          obtain ⟨Kx, hKx, fx⟩ : ∃ Kx, Ki ++ [some ⟨5, true, a.enc⟩] = Kx ∧ Fr Ki Kx := ⟨_, rfl, Fr.app _ _⟩
          have hx0 : Kx[Ki.length]? = some (some ⟨5, true, a.enc⟩) := by rw [← hKx]; simp
          have hwk := wrap64 (x := (pc.length : Int) + 1) (by omega) (by omega)
          -- the step of the flow itself
          obtain ⟨bf, qf, uf, huf, e1, e2, e3⟩ := (hv0.fr (FH.trans fx)).get (e := 51) rfl hbf
          have hzf : (List.zipWith cellsB f ws)[p.length]? = some (cellsB b uf) := by rw [List.getElem?_zipWith, huf, hbf]
          have hrowf : Row 4 Kx fv ((List.zipWith cellsB f ws).map id) := by simpa using (hv0.fr (FH.trans fx)).row
          obtain ⟨b9, o9, _, f1, _, f2⟩ := Row.get (enc := id) (ety := tK) hrowf (show tab 51 = some tK from rfl) hzf .i64
          rw [e1] at f1
          obtain ⟨rfl, rfl⟩ : bf = b9 ∧ qf = o9 := by simpa using f1
          have f3 : loadA tLN Kx (.ptr bf qf) = some uf := by simpa [cellsB] using f2 tLN 0 rfl rfl (by decide)
          obtain ⟨up, v1, v2, -⟩ := e3.part pc.length (pc.length + 1) (by omega) (by rw [List.length_map]; omega) (some (.int .i64 pc.length)) (some (.int .i64 ((pc.length : Int) + 1))) (by simp) (by simp)
          have hone : ((b.code.map Ins.enc).drop pc.length).take (pc.length + 1 - pc.length) = inss [a] := by
            rw [ec]
            simp [inss]
          rw [hone] at v2
          have hlv := e3.live
          simp only [Ins.enc] at hKx d2
          simp (maxDischargeDepth := 9) [hts, tab, hltc, d1, d2, storeB, over, hKx, e1, f3, hwk, v1, hlv]
          refine (stepFacts_ok [a] (stepF pc R) up fs Kx ⟨by simp, by simpa using hga⟩ hGF v2 (hfs.fr fx)).mono fun fs' K7 ⟨n1, n2, n3⟩ => ?_
          have n1 : Own 3 K7 fs' (fcts (stepF1 (stepF pc R) a)) := n1
          have hx7 := n3.2 _ _ hx0 id
          have g0 : loadA tI K7 (.ptr Ki.length 0) = some (.int .i64 a.op) := load_at hx7 rfl rfl rfl
          have g1 : loadA tI K7 (.ptr Ki.length 1) = some (.int .i64 a.dst) := load_at hx7 rfl rfl rfl
          obtain ⟨T, hT⟩ : ∃ T, T = fc (stepF1 (stepF pc R) a) a.dst := ⟨_, rfl⟩
          obtain ⟨b7, q7, _, y1, -, y3⟩ := n1.row.get (tab := tab) (e := 35) (ety := tF) rfl (i := a.dst.toNat) (a := T) (by rw [hT]; exact fc_get hGn.1 hnm.1) .i64
          have hdst : (a.dst.toNat : Int) = a.dst := Int.toNat_of_nonneg (by have := hnm.1; unfold Nm at this; omega)
          rw [hdst] at y1
          have y4 := y3 tFB 1 rfl rfl (by decide)
          have y5 := y3 tI 2 rfl rfl (by decide)
          simp only [Fct.enc] at y4 y5
          have y4 : loadA tFB K7 (.ptr b7 (q7 + 1)) = some (.bool T.known) := y4
          have y5 : loadA tI K7 (.ptr b7 (q7 + 2)) = some (.int .i64 T.n) := y5
          have hfold : foldI (stepF pc R) a = if a.op ≠ 8 ∧ T.known = true then ⟨1, a.dst, 0, 0, T.n⟩ else a := by rw [hT]; rfl
          have e1' : foldC (pc ++ [a]) R = foldC pc R ++ [foldI (stepF pc R) a] := foldC_snoc _ _ _
          have e2' : stepF (pc ++ [a]) R = stepF1 (stepF pc R) a := stepF_snoc _ _ _
          have ho7 := ho2.fr (fx.trans n3)
          have hKi7 : Keeps X K K7 := hKi.trans (Fr.keeps (fx.trans n3))
          have hlx := fx.1
          have hfs' : ∀ c, fs'.at c → ¬ X c := fun c hc hx => by have := n2 c hc; have := hXK c hx; have := hKi.1; omega
          obtain ⟨bo3, u3, hout3, hu3', r1, r2, _, _, _, r6, -, -⟩ := ho7.spot
          have hb3 : bo3 = bo2 := by have h := hout.symm.trans hout3; injection h with h1 _ _; exact h1.symm
          subst hb3
          rw [hpz] at hu3'
          rw [hu] at hu3'
          cases hu3'
          rw [hpz] at r2
          simp (maxDischargeDepth := 9) [hts, tab]
          by_cases hc : a.op ≠ 8 ∧ T.known = true
          · rw [if_pos hc] at hfold
            obtain ⟨bu, hbu, w1, w2⟩ := r6.store (tab := tab) (e := 53) (ety := tN) rfl (i := pc.length) (c := a.enc) (by simp only [inss, List.map_append, List.map_cons]; rw [List.getElem?_append_right (by simp [foldC_len])]; simp [foldC_len]) .i64
            obtain ⟨K9, w3, w4, w5, w6⟩ := w2 tN 0 (.agg [.int .i64 1, .int .i64 a.dst, .int .i64 0, .int .i64 0, .int .i64 T.n]) rfl rfl (by decide)
            have hset : (inss (foldC pc R ++ a :: rc)).set pc.length (over a.enc 0 (AV.agg [.int .i64 1, .int .i64 a.dst, .int .i64 0, .int .i64 0, .int .i64 T.n]).cells) = inss (foldC (pc ++ [a]) R ++ rc) := by
              rw [e1', hfold]
              simp only [inss, List.map_append, List.map_cons, List.map_nil, List.append_assoc, List.singleton_append, List.nil_append, List.cons_append]
              rw [List.set_append_right _ _ (by simp [foldC_len])]
              simp [foldC_len, Ins.enc, over]
            rw [hset] at w4
            have ho9 := ho7.recode (q := A) (by rw [hpz]; exact hu) (foldC (pc ++ [a]) R ++ rc) w4 w5 (fun c hc => hc)
            obtain ⟨c1, c2⟩ := hc
            rw [c2] at y4
            simp at w3
            simp (maxDischargeDepth := 9) [hts, tab, g0, c1, g1, y1, y4]
            refine W_draw mixed (.look 0 (.look 1 (.look 2 (.look 3 (.look 4 (.look 5 (.look 6 (.look 7 (.look 8 (.look 9 (.look 10 (.look 11 (.look 12 (.look 13 (.look 14 (.act 15 [] .done .stop)))))))))))))))) (by kernel_rfl) ?_
            simp (maxDischargeDepth := 9) [hts, tab, g1, y1, y5, r2, fillA, over, w1, w3, hwk]
            refine ih2 (pc ++ [a]) _ K9 fs' (by simp [ec]) ho9 (by rw [e2']; exact n1.row.keeps w5 fun c hc hx => hfs' c hc (huX c hx)) hfs' (hKi7.trans (w5.mono huX)) (by simp [hts])
          · rw [if_neg hc] at hfold
            have ho9 : FOwn K7 out (A ++ ⟨foldC (pc ++ [a]) R ++ rc, b.test, b.thn, b.els⟩ :: r) us := by
              rw [e1', hfold]
              simpa using ho7
            by_cases c1 : a.op = 8
            · simp (maxDischargeDepth := 9) [hts, tab, g0, c1, hwk]
              exact ih2 (pc ++ [a]) _ K7 fs' (by simp [ec]) ho9 (by rw [e2']; exact n1.row) hfs' hKi7 (by simp [hts])
            · have c2 : T.known = false := by
                cases h : T.known with
                | false => rfl
                | true => exact absurd ⟨c1, h⟩ hc
              rw [c2] at y4
              simp (maxDischargeDepth := 9) [hts, tab, g0, c1, g1, y1, y4, hwk]
              exact ih2 (pc ++ [a]) _ K7 fs' (by simp [ec]) ho9 (by rw [e2']; exact n1.row) hfs' hKi7 (by simp [hts])
      exact key2 b.code [] _ K uk rfl (by simpa [foldC] using ho) (by simpa [stepF] using j3.row) hukX (Keeps.refl _ _) (by simp [hts])
  exact key f [] _ K0 rfl (by simpa using c1.fr x4) (Keeps.refl _ _) (by simp)
end Go.Proofs.YtdbnokeegocpbaaGreat.Am
