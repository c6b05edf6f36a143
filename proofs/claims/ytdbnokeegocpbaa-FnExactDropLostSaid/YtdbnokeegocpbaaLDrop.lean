/- Flows that lose what is not needed. No condition. -/
import Derived.Test.YtdbnokeegocpbaaLDead
namespace Go.Proofs.Ytdbnokeegocpbaa.Am
open Go Go.RowKit
set_option linter.unusedSimpArgs false
set_option linter.unusedVariables false

theorem containsI_ok (L : List Int) (v : AV) (n : Int) (H : Hp) (hm : L.length ≤ 1048576) (hv : Row 1 H v (ints L)) : T Try.prog 79 [v, .int .i64 n] H (fun r K => r = .bool (decide (n ∈ L)) ∧ K = H) := by
  have hidx : T Try.prog 81 [v, .int .i64 n] H (fun r K => (∃ i : Int, r = .int .i64 i ∧ (0 ≤ i ↔ n ∈ L)) ∧ K = H) := by
    refine T.by tabOk Try.func81 (by kernel_rfl) rfl _ (by simp [Try.f81]) H _ ?_
    have hlen := hv.len 3
    simp [Try.f81, tab, hlen]
    refine W_loop _ fun I hI => ?_
    have key : ∀ (r p : List Int) (ts : TS), L = p ++ r → n ∉ p → (ts 0 = v ∧ ts 1 = .int .i64 n ∧ ts 7 = .int .i64 L.length ∧ ts 8 = .int .i64 p.length) → I ts H := by
      intro r
      induction r with
      | nil =>
        intro p ts e hn hts
        apply hI
        simp at e
        subst e
        simp [hts, tab, hn]
      | cons a r ih =>
        intro p ts e hn hts
        apply hI
        have hlt : (p.length : Int) < L.length := by simp [e]; omega
        obtain ⟨b, q, _, e1, e2⟩ := Row.get1 hv (tab := tab) (e := 3) (ety := tI) rfl rfl rfl (i := p.length) (a := a) (by simp [e]) .i64
        have hw := wrap64 (x := p.length + 1) (by omega) (by omega)
        by_cases ha : n = a
        · subst ha
          simp [hts, tab, hlt, e1, e2]
          simp [e]
        · simp [hts, tab, hlt, e1, e2, ha, hw]
          exact ih (p ++ [a]) _ (by simp [e]) (by simp [hn, ha]) (by simp [hts])
    exact key L [] _ rfl (by simp) (by simp)
  refine T.by tabOk Try.func79 (by kernel_rfl) rfl _ (by simp [Try.f79]) H _ ?_
  simp [Try.f79]
  refine hidx.mono fun r K ⟨⟨i, h1, h2⟩, h3⟩ => ?_
  subst h1 h3
  simp [tab, h2]
set_option maxRecDepth 100000 in
theorem copyFlow_ok (f : List Bk) (ws : List AV) (fv : AV) (H : Hp) (hm : f.length ≤ 1048576) (hmm : ∀ t ∈ f, t.code.length ≤ 1048576) (hv : FRow H fv f ws) : T Try.prog 82 [fv] H (fun r K => (∃ us, FOwn K r f us ∧ ∀ u ∈ us, Fresh H.length u) ∧ Fresh H.length r ∧ Fr H K) := by
  refine T.by tabOk Try.func82 (by kernel_rfl) rfl _ (by simp [Try.f82]) H _ ?_
  have hlen := hv.count 67
  obtain ⟨K0, hK0, f0⟩ : ∃ K0, H ++ [some ⟨4, true, []⟩] = K0 ∧ Fr H K0 := ⟨_, rfl, Fr.app _ _⟩
  have own0 : Own 4 K0 (.sl H.length 0 0) [] := by
    have := Own.new (sz := 4) (K := H) (es := []) (by simp)
    simp at this
    rw [hK0] at this
    exact this
  simp [Try.f82, tab, hlen, buildSliceA, zerosA, fillA, over, hK0]
  refine W_loop _ fun I hI => ?_
  have key : ∀ (r p : List Bk) (ts : TS) (K : Hp) (o : AV) (us : List AV), f = p ++ r → FOwn K o p us → (∀ u ∈ us, Fresh H.length u) → Fresh H.length o → Fr H K → (ts 3 = o ∧ ts 7 = fv ∧ ts 8 = .int .i64 f.length ∧ ts 9 = .int .i64 p.length) → I ts K := by
    intro r
    induction r with
    | nil =>
      intro p ts K o us e ho hf hfo hK hts
      apply hI
      simp at e
      subst e
      simp [hts, tab]
      exact ⟨⟨us, ho, hf⟩, hfo, hK⟩
    | cons b r ih =>
      intro p ts K o us e ho hf hfo hK hts
      apply hI
      have hlt : (p.length : Int) < f.length := by simp [e]; omega
      have hbf : f[p.length]? = some b := by simp [e]
      have hcl := hmm b (by simp [e])
      obtain ⟨b1, q, u, hu, e1, e2, e3⟩ := (hv.fr hK).get (e := 67) rfl hbf
      have hu1 := e3.one
      have hu2 := cells_of_one hu1
      obtain ⟨K', hK', fB⟩ : ∃ K', K ++ [some ⟨4, true, [u, .int .i64 b.test, .int .i64 b.thn, .int .i64 b.els]⟩, some ⟨5, true, []⟩] = K' ∧ Fr K K' := ⟨_, rfl, Fr.app K _⟩
      have hb : K'[K.length]? = some (some ⟨4, true, [u, .int .i64 b.test, .int .i64 b.thn, .int .i64 b.els]⟩) := by rw [← hK']; simp
      have hK'l : K'.length = K.length + 2 := by rw [← hK']; simp
      have q0 : loadA tLN K' (.ptr K.length 0) = some u := load_at hb rfl rfl rfl
      have ownC : Own 5 K' (.sl (K.length + 1) 0 0) (inss []) := by
        have := Own.new (sz := 5) (K := K ++ [some ⟨4, true, [u, .int .i64 b.test, .int .i64 b.thn, .int .i64 b.els]⟩]) (es := []) (by simp)
        simp at this
        rw [hK'] at this
        exact this
      have e3' : Row 5 K' u (inss b.code) := e3.fr fB
      obtain ⟨w, K2, g1, g2, g3, g4⟩ := ownC.append (bytes := 40) (x := u) (new := inss b.code) (by decide) (by have := e3'.whole; simpa using this) (fun e he => by simp at he; obtain ⟨y, _, rfl⟩ := he; rfl) (by simp; omega) (by simp; omega)
      simp at g2
      have hw1 := g2.row.one
      have hw2 := g2.row.self
      have hb2 := g3.2 _ _ hb (by intro h; have : K.length + 1 = K.length := h; omega)
      obtain ⟨K3, s1, s2, s3, s4⟩ := store_at hb2 rfl (ty := tLN) (o := 0) (v := w) (by rw [hw2]; rfl) (by simp [hw2, hw1]) (by simp)
      have hld : loadA tK K3 (.ptr K.length 0) = some (.agg (cellsB b w)) := by simp [loadA, s2, over, hw2, cellsB]
      have hwf : ∀ b, w.at b → K.length + 1 ≤ b := fun b hb => (g4 b hb).elim (fun h => by have : K.length + 1 = b := h; omega) fun h => by omega
      have f23 : Fr K K3 := Fr.then (Fr.then fB g3 (by intro b hb; have : K.length + 1 = b := hb; omega)) s3 (by rintro b rfl; exact Nat.le_refl _)
      have holt := ho.lt
      have hw3 : Own 5 K3 w (inss b.code) := g2.keeps s3 fun c hc hx => by have := hwf c hc; omega
      have hpl : p.length ≤ 1048576 := by simp [e] at hm; omega
      obtain ⟨o', K4, p1, p2, p3, p4⟩ := (ho.fr f23).push (t := b) hw3 (by intro c hc hx; have := hwf c hc; have := holt c hx; omega) hpl
      have hwp := wrap64 (x := p.length + 1) (by omega) (by omega)
      simp only [cellsB] at e2 hld p1
      simp (maxDischargeDepth := 9) [hts, tab, hlt, e1, e2, hu1, hu2, storeB, over, hK', q0, g1, s1, hld, hw1, hw2, p1, hwp, buildSliceA, zerosA, fillA]
      refine ih (p ++ [b]) _ K4 o' (us ++ [w]) (by simp [e]) p2 (fun u hu => ?_) (fun c hc => (p4 c hc).elim (hfo c) fun h => ?_) (Fr.then (hK.trans f23) p3 hfo) (by simp [hts])
      · rcases List.mem_append.1 hu with hu | hu
        · exact hf u hu
        · simp at hu; subst hu; exact fun c hc => by have := hwf c hc; have := hK.1; omega
      · have := f23.1; have := hK.1; omega
  exact key f [] _ K0 (.sl H.length 0 0) [] rfl ⟨by simpa using own0, rfl, by simp, by simp, by simp⟩ (by simp) (fun b hb => by cases hb; exact Nat.le_refl _) f0 (by simp)
def keepF (D : List Int) : Nat → List Ins → List Ins
  | _, [] => []
  | k, x :: r => if (k : Int) ∈ D then keepF D (k + 1) r else x :: keepF D (k + 1) r
theorem keepF_len (D : List Int) : ∀ (k : Nat) (r : List Ins), (keepF D k r).length ≤ r.length
  | _, [] => by simp [keepF]
  | k, x :: r => by
    have := keepF_len D (k + 1) r
    unfold keepF
    split
    · simp; omega
    · simp; omega
def dropB (b : Bk) (D : List Int) : Bk := ⟨keepF D 0 b.code, b.test, b.thn, b.els⟩
noncomputable def dropAll (f : List Bk) : List Bk := f.map fun b => dropB b (deadL b.code (behS b (alive false f)))
open Classical in
noncomputable def dropRes (f : List Bk) : List Bk × Bool := if GoodF f then (dropAll f, true) else ([], false)
theorem dropRes_few (f : List Bk) : (dropRes f).1.length ≤ 8 ∧ ∀ b ∈ (dropRes f).1, b.code.length ≤ 30 := by
  unfold dropRes
  split
  · rename_i h
    refine ⟨by simp [dropAll]; exact h.1.2, fun L hL => ?_⟩
    simp [dropAll] at hL
    obtain ⟨b, hb, rfl⟩ := hL
    exact Nat.le_trans (keepF_len _ _ _) (h.2 b hb).1.1
  · simp
set_option maxRecDepth 100000 in
theorem specDropDead_ok (f : List Bk) (ws : List AV) (fv : AV) (H : Hp) (hm : f.length ≤ 1048576) (hmm : ∀ t ∈ f, t.code.length ≤ 1048576) (hv0 : FRow H fv f ws) : T Try.prog 39 [fv] H (fun r K => ∃ out, r = .tup [out, .bool (dropRes f).2] ∧ (∃ us, FRow K out (dropRes f).1 us) ∧ Fr H K) := by
  refine T.by tabOk Try.func39 (by kernel_rfl) rfl _ (by simp [Try.f39]) H _ ?_
  simp [Try.f39]
  refine (goodFlow_ok f ws fv H hm hmm hv0).mono fun r K00 ⟨⟨t, h1, h2⟩, h3⟩ => ?_
  subst h1
  cases t with
  | false =>
    have hg : ¬ GoodF f := fun h => by cases h2.2 h
    simp [tab, dropRes, hg]
    exact ⟨⟨[], (FOwn.nil K00).look⟩, h3⟩
  | true =>
  have hg := h2.1 rfl
  simp [tab]
  refine (l7DeadAt_ok f ws fv K00 hg (hv0.fr h3)).mono fun dd K0 ⟨⟨ds, x1⟩, x2⟩ => ?_
  have hv := hv0.fr (h3.trans x2)
  have hlen := hv.count 67
  simp [tab, hlen]
  refine W_loop _ fun I hI => ?_
  have key : ∀ (r p : List Bk) (ts : TS) (K : Hp) (o : AV) (us : List AV), f = p ++ r → FOwn K o (p.map fun b => dropB b (deadL b.code (behS b (alive false f)))) us → (∀ u ∈ us, Fresh K0.length u) → Fresh K0.length o → Fr K0 K → (ts 4 = dd ∧ ts 5 = o ∧ ts 16 = fv ∧ ts 17 = .int .i64 f.length ∧ ts 18 = .int .i64 p.length) → I ts K := by
    intro r
    induction r with
    | nil =>
      intro p ts K o us e ho hf hfo hK hts
      apply hI
      simp at e
      subst e
      simp [hts, tab, dropRes, hg]
      exact ⟨⟨us, ho.look⟩, (h3.trans x2).trans hK⟩
    | cons b r ih =>
      intro p ts K o us e ho hf hfo hK hts
      apply hI
      have hlt : (p.length : Int) < f.length := by simp [e]; omega
      have hpn : p.length < f.length := by omega
      have hbf : f[p.length]? = some b := by simp [e]
      have hgb := hg.2 b (by simp [e])
      have h30 := hgb.1.1
      obtain ⟨b1, q, u, hu, e1, e2, e3⟩ := (hv.fr hK).get (e := 67) rfl hbf
      have hu1 := e3.one
      have hu2 := cells_of_one hu1
      have hul := e3.len 102
      obtain ⟨K', hK', fB⟩ : ∃ K', K ++ [some ⟨4, true, [u, .int .i64 b.test, .int .i64 b.thn, .int .i64 b.els]⟩, some ⟨4, true, [.nil, .int .i64 b.test, .int .i64 b.thn, .int .i64 b.els]⟩] = K' ∧ Fr K K' := ⟨_, rfl, Fr.app K _⟩
      have hb : K'[K.length]? = some (some ⟨4, true, [u, .int .i64 b.test, .int .i64 b.thn, .int .i64 b.els]⟩) := by rw [← hK']; simp
      have hs : K'[K.length + 1]? = some (some ⟨4, true, [.nil, .int .i64 b.test, .int .i64 b.thn, .int .i64 b.els]⟩) := by rw [← hK']; simp
      have hK'l : K'.length = K.length + 2 := by rw [← hK']; simp
      have q0 : loadA tLN K' (.ptr K.length 0) = some u := load_at hb rfl rfl rfl
      simp only [cellsB] at e2
      simp (maxDischargeDepth := 9) [hts, tab, hlt, e1, e2, hu1, hu2, loadB, storeB, over, buildA, placesA, fillA, hK', q0, hul]
      obtain ⟨D, hD⟩ : ∃ D, D = deadL b.code (behS b (alive false f)) := ⟨_, rfl⟩
      have hDlen : D.length ≤ 30 := by rw [hD]; exact Nat.le_trans (deadL_len _ _) h30
      have hdl : (deadAll f).length = f.length := by simp [deadAll]
      have hgetD : (deadAll f).getD ((p.length : Int)).toNat [] = D := by
        rw [List.getD_eq_getElem?_getD]
        simp [deadAll, hbf, hD]
      refine W_loop _ fun I2 hI2 => ?_
      have key2 : ∀ (rc pc : List Ins) (ts : TS) (Ki : Hp) (w : AV) (C : List Ins), b.code = pc ++ rc → keepF D 0 b.code = C ++ keepF D pc.length rc → Own 5 Ki w (inss C) → C.length ≤ pc.length → Fresh K'.length w → Ki[K.length + 1]? = some (some ⟨4, true, [w, .int .i64 b.test, .int .i64 b.thn, .int .i64 b.els]⟩) → Keeps (fun c => c = K.length + 1) K' Ki → (ts 4 = dd ∧ ts 5 = o ∧ ts 16 = fv ∧ ts 17 = .int .i64 f.length ∧ ts 18 = .int .i64 p.length ∧ ts 6 = .int .i64 p.length ∧ ts 8 = .ptr (K.length + 1) 0 ∧ ts 31 = u ∧ ts 32 = .int .i64 b.code.length ∧ ts 33 = .int .i64 pc.length) → I2 ts Ki := by
        intro rc
        induction rc with
        | nil =>
          intro pc ts Ki w C ec hC ho2 hCl hfw hsb hKi hts
          apply hI2
          simp at ec
          simp [keepF] at hC
          have hw1 := ho2.row.one
          have hw2 := ho2.row.self
          have holt := ho.lt
          have hld : loadA tK Ki (.ptr (K.length + 1) 0) = some (.agg [w, .int .i64 b.test, .int .i64 b.thn, .int .i64 b.els]) := by simp [loadA, hsb]
          have FK : Fr K Ki := Fr.then fB hKi (by rintro c rfl; omega)
          have hpl : p.length ≤ 1048576 := by have := hg.1.2; omega
          obtain ⟨o', K4, g1, g2, g3, g4⟩ := (ho.fr FK).push (t := dropB b D) (by show Own 5 Ki w (inss (keepF D 0 b.code)); rw [hC]; exact ho2) (by intro c hc hx; have := hfw c hc; have := holt c hx; omega) (by simpa using hpl)
          have hwp := wrap64 (x := p.length + 1) (by omega) (by omega)
          have hcl : (b.code.length : Int) = pc.length := by rw [ec]
          simp only [cellsB, dropB] at g1
          simp (maxDischargeDepth := 9) [hts, tab, hcl, hwp, hld, buildSliceA, zerosA, fillA, over, hw1, hw2, g1]
          refine ih (p ++ [b]) _ K4 o' (us ++ [w]) (by simp [e]) (by rw [hD] at g2; simpa [dropB] using g2) (fun u hu => ?_) (fun c hc => (g4 c hc).elim (hfo c) fun h => ?_) (Fr.then (hK.trans FK) g3 hfo) (by simp [hts])
          · rcases List.mem_append.1 hu with hu | hu
            · exact hf u hu
            · simp at hu; subst hu; exact hfw.mono (by have := hK.1; omega)
          · have := FK.1; have := hK.1; omega
        | cons a rc ih2 =>
          intro pc ts Ki w C ec hC ho2 hCl hfw hsb hKi hts
          apply hI2
          have hltc : (pc.length : Int) < b.code.length := by simp [ec]; omega
          have hget : b.code[pc.length]? = some a := by rw [ec]; simp
          have FK : Fr K Ki := Fr.then fB hKi (by rintro c rfl; omega)
          have F0 : Fr K0 Ki := hK.trans FK
          have e3i := e3.fr FK
          obtain ⟨b2, q2, _, d1, d2, -⟩ := e3i.get (tab := tab) (e := 102) (ety := tN) rfl (i := pc.length) (a := a) hget .i64
          have d2 := d2 rfl
          obtain ⟨Kx, hKx, fx⟩ : ∃ Kx, Ki ++ [some ⟨5, true, a.enc⟩] = Kx ∧ Fr Ki Kx := ⟨_, rfl, Fr.app _ _⟩
          have hx0 : Kx[Ki.length]? = some (some ⟨5, true, a.enc⟩) := by rw [← hKx]; simp
          have hla : loadA tN Kx (.ptr Ki.length 0) = some (.agg a.enc) := by simp [loadA, hx0, Ins.enc]
          have hsx := fx.2 _ _ hsb id
          have hls : loadA tLN Kx (.ptr (K.length + 1) 0) = some w := load_at hsx rfl rfl rfl
          obtain ⟨b3, q3, u3, j1, j2, j3⟩ := (x1.fr (F0.trans fx)).getD (e := 25) rfl (x := p.length) (by omega) (by rw [hdl]; exact hlt)
          rw [hgetD] at j3
          have hwk := wrap64 (x := pc.length + 1) (by omega) (by omega)
          have hx1 : a.enc.all AV.one = true := rfl
          simp only [Ins.enc] at hKx d2 hla
          simp (maxDischargeDepth := 9) [hts, tab, hltc, d1, d2, storeB, over, hKx, j1, j2]
          refine (l1Has_ok D u3 pc.length Kx (by omega) j3).mono fun y K9 ⟨y1, y2⟩ => ?_
          subst y1 y2
          by_cases hin : (pc.length : Int) ∈ D
          · simp [hts, tab, hin, hwk]
            have hC2 : keepF D 0 b.code = C ++ keepF D (pc ++ [a]).length rc := by rw [hC]; simp [keepF, hin]
            exact ih2 (pc ++ [a]) _ K9 w C (by simp [ec]) hC2 (ho2.fr fx) (by simp; omega) hfw hsx (hKi.trans (Fr.keeps fx)) (by simp [hts])
          · have hcl30 : C.length ≤ 1048576 := by simp [ec] at h30; omega
            obtain ⟨w', K5, p1, p2, p3, p4⟩ := (ho2.fr fx).pushI a hcl30
            have hs5 := p3.2 _ _ hsx (fun h => by have := hfw _ h; omega)
            have hw1 := p2.row.one
            have hw2 := p2.row.self
            obtain ⟨K6, s1, s2, s3, s4⟩ := store_at hs5 rfl (ty := tLN) (o := 0) (v := w') (by rw [hw2]; rfl) (by simp [hw2, hw1]) (by simp)
            have hC2 : keepF D 0 b.code = (C ++ [a]) ++ keepF D (pc ++ [a]).length rc := by rw [hC]; simp [keepF, hin]
            have hwf' : ∀ c, w'.at c → K'.length ≤ c := fun c hc => (p4 c hc).elim (hfw c) fun h => by have := hKi.1; have := fx.1; omega
            simp only [Ins.enc] at p1
            simp (maxDischargeDepth := 9) [hts, tab, hin, hwk, hls, hla, buildSliceA, zerosA, fillA, over, p1, s1]
            refine ih2 (pc ++ [a]) _ K6 w' (C ++ [a]) (by simp [ec]) hC2 (p2.keeps s3 fun c hc hx => by have := hwf' c hc; omega) (by simp; omega) hwf' ?_ ?_ (by simp [hts])
            · rw [s2]
              simp [over, hw2]
            · refine ((hKi.trans (Fr.keeps fx)).after p3 fun c hc => .inr (hfw c hc)).trans s3
      exact key2 b.code [] _ K' .nil [] rfl (by simp) (by simpa using Own.nil 5 K') (by simp) (Fresh.nil _) hs (Keeps.refl _ _) (by simp [hts])
  exact key f [] _ K0 .nil [] rfl (FOwn.nil K0) (by simp) (Fresh.nil _) (Fr.refl _) (by simp)
set_option maxRecDepth 100000 in
theorem implDropDead_ok (f : List Bk) (ws : List AV) (fv : AV) (H : Hp) (hm : f.length ≤ 1048576) (hmm : ∀ t ∈ f, t.code.length ≤ 1048576) (hv0 : FRow H fv f ws) : T Try.prog 40 [fv] H (fun r K => ∃ out, r = .tup [out, .bool (dropRes f).2] ∧ (∃ us, FOwn K out (dropRes f).1 us ∧ ∀ u ∈ us, Fresh H.length u) ∧ Fresh H.length out ∧ Fr H K) := by
  refine T.by tabOk Try.func40 (by kernel_rfl) rfl _ (by simp [Try.f40]) H _ ?_
  simp [Try.f40]
  refine (isFlow_ok f ws fv H hm hmm hv0).mono fun r K00 ⟨⟨t, h1, h2⟩, h3⟩ => ?_
  subst h1
  cases t with
  | false =>
    have hg : ¬ GoodF f := fun h => by cases h2.2 h
    simp [tab, dropRes, hg]
    exact ⟨⟨[], FOwn.nil K00, by simp⟩, Fresh.nil _, h3⟩
  | true =>
  have hg := h2.1 rfl
  simp [tab]
  refine (copyFlow_ok f ws fv K00 hm hmm (hv0.fr h3)).mono fun o K1 ⟨⟨us0, c1, c2⟩, c3, c4⟩ => ?_
  simp
  refine (deadAt_ok f ws fv K1 hg (hv0.fr (h3.trans c4))).mono fun dd K2 ⟨⟨ds, x1, x2⟩, x3, x4⟩ => ?_
  have hlo : ∀ b, (o.at b ∨ ∃ u ∈ us0, u.at b) → b < K1.length := c1.lt
  have hdl : (deadAll f).length = f.length := by simp [deadAll]
  have hdc := x1.look.count 25
  rw [hdl] at hdc
  simp [tab, hdc]
  refine W_loop _ fun I hI => ?_
  have key : ∀ (r p : List Bk) (ts : TS) (K : Hp) (us : List AV), f = p ++ r → FOwn K o ((p.map fun b => dropB b (deadL b.code (behS b (alive false f)))) ++ r) us → (∀ u ∈ us, Fresh H.length u) → Keeps o.at K2 K → (ts 0 = fv ∧ ts 4 = o ∧ ts 16 = dd ∧ ts 17 = .int .i64 f.length ∧ ts 18 = .int .i64 p.length) → I ts K := by
    intro r
    induction r with
    | nil =>
      intro p ts K us e ho hf hK hts
      apply hI
      simp at e
      subst e
      simp [hts, tab, dropRes, hg]
      simp at ho
      exact ⟨⟨us, ho, hf⟩, c3.mono h3.1, Fr.then (h3.trans (c4.trans x4)) hK fun b hb => Nat.le_trans h3.1 (c3 b hb)⟩
    | cons b r ih =>
      intro p ts K us e ho hf hK hts
      apply hI
      have hlt : (p.length : Int) < f.length := by simp [e]; omega
      have hpn : p.length < f.length := by omega
      have hbf : f[p.length]? = some b := by simp [e]
      have hgb := hg.2 b (by simp [e])
      have h30 := hgb.1.1
      have FH : Fr H K := Fr.then (h3.trans (c4.trans x4)) hK fun b hb => Nat.le_trans h3.1 (c3 b hb)
      obtain ⟨b1, q, u, hu, e1, e2, e3⟩ := (hv0.fr FH).get (e := 67) rfl hbf
      have hzf : (List.zipWith cellsB f ws)[p.length]? = some (cellsB b u) := by rw [List.getElem?_zipWith, hu, hbf]
      have hrowf : Row 4 K fv ((List.zipWith cellsB f ws).map id) := by simpa using (hv0.fr FH).row
      obtain ⟨b9, o9, _, f1, _, f2⟩ := Row.get (enc := id) (ety := tK) hrowf (show tab 67 = some tK from rfl) hzf .i64
      rw [e1] at f1
      obtain ⟨rfl, rfl⟩ : b1 = b9 ∧ q = o9 := by simpa using f1
      have q0 : loadA tLN K (.ptr b1 q) = some u := by simpa [cellsB] using f2 tLN 0 rfl rfl (by decide)
      have hul := e3.len 102
      obtain ⟨D, hD⟩ : ∃ D, D = deadL b.code (behS b (alive false f)) := ⟨_, rfl⟩
      have hDlen : D.length ≤ 30 := by rw [hD]; exact Nat.le_trans (deadL_len _ _) h30
      have hgetD : (deadAll f).getD ((p.length : Int)).toNat [] = D := by
        rw [List.getD_eq_getElem?_getD]
        simp [deadAll, hbf, hD]
      have hxK : LRow K dd (deadAll f) ds := x1.look.keeps hK fun c hc hx => by
        have := hlo c (.inl hx)
        rcases hc with hc | ⟨w, hw, hc⟩
        · have := x3 c hc; omega
        · have := x2 w hw c hc; omega
      obtain ⟨b3, q3, u3, j1, j2, j3⟩ := hxK.getD (e := 25) rfl (x := p.length) (by omega) (by rw [hdl]; exact hlt)
      rw [hgetD] at j3
      obtain ⟨K', hK', fB⟩ : ∃ K', K ++ [some ⟨5, true, []⟩] = K' ∧ Fr K K' := ⟨_, rfl, Fr.app K _⟩
      have ownC : Own 5 K' (.sl K.length 0 0) (inss []) := by
        have := Own.new (sz := 5) (K := K) (es := []) (by simp)
        simp at this
        rw [hK'] at this
        exact this
      have q0' : loadA tLN K' (.ptr b1 q) = some u := by rw [fB.load (by rw [q0]; rfl)]; exact q0
      have e1' : indexAddrA tab (.slice 67) K' fv (.int .i64 p.length) = some (.ptr b1 q) := by rw [fB.index (by rw [e1]; rfl)]; exact e1
      simp (maxDischargeDepth := 9) [hts, tab, hlt, j1, j2, hK', buildSliceA, zerosA, fillA, over, e1', q0', hul]
      refine W_loop _ fun I2 hI2 => ?_
      have key2 : ∀ (rc pc : List Ins) (ts : TS) (Ki : Hp) (w : AV) (C : List Ins), b.code = pc ++ rc → keepF D 0 b.code = C ++ keepF D pc.length rc → Own 5 Ki w (inss C) → C.length ≤ pc.length → Fresh K.length w → Fr K Ki → (ts 0 = fv ∧ ts 4 = o ∧ ts 16 = dd ∧ ts 17 = .int .i64 f.length ∧ ts 18 = .int .i64 p.length ∧ ts 5 = .int .i64 p.length ∧ ts 6 = u3 ∧ ts 7 = w ∧ ts 28 = u ∧ ts 29 = .int .i64 b.code.length ∧ ts 30 = .int .i64 pc.length) → I2 ts Ki := by
        intro rc
        induction rc with
        | nil =>
          intro pc ts Ki w C ec hC ho2 hCl hfw hKi hts
          apply hI2
          simp at ec
          simp [keepF] at hC
          have holt := ho.lt
          obtain ⟨b4, g1, K4, g2, g3, g4⟩ := (ho.fr hKi).setCode (c := keepF D 0 b.code) (w := w) (by rw [hC]; exact ho2) (by intro c hc hx; have := hfw c hc; have := holt c hx; omega)
          have hpl : (p.map fun b => dropB b (deadL b.code (behS b (alive false f)))).length = p.length := by simp
          rw [hpl] at g1 g2 g3
          have hwp := wrap64 (x := p.length + 1) (by omega) (by omega)
          have hcl : (b.code.length : Int) = pc.length := by rw [ec]
          simp (maxDischargeDepth := 9) [hts, tab, hcl, hwp, g1, g2]
          refine ih (p ++ [b]) _ K4 _ (by simp [e]) (by rw [hD] at g3; simpa [dropB] using g3) (fun u hu => ?_) (hK.trans ((Fr.keeps hKi).trans g4)) (by simp [hts])
          rcases List.mem_or_eq_of_mem_set hu with hu | rfl
          · exact hf u hu
          · exact hfw.mono FH.1
        | cons a rc ih2 =>
          intro pc ts Ki w C ec hC ho2 hCl hfw hKi hts
          apply hI2
          have hltc : (pc.length : Int) < b.code.length := by simp [ec]; omega
          have hget : b.code[pc.length]? = some a := by rw [ec]; simp
          have e3i := e3.fr hKi
          obtain ⟨b2, q2, _, d1, d2, -⟩ := e3i.get (tab := tab) (e := 102) (ety := tN) rfl (i := pc.length) (a := a) hget .i64
          have d2 := d2 rfl
          obtain ⟨Kx, hKx, fx⟩ : ∃ Kx, Ki ++ [some ⟨5, true, a.enc⟩] = Kx ∧ Fr Ki Kx := ⟨_, rfl, Fr.app _ _⟩
          have hx0 : Kx[Ki.length]? = some (some ⟨5, true, a.enc⟩) := by rw [← hKx]; simp
          have hla : loadA tN Kx (.ptr Ki.length 0) = some (.agg a.enc) := by simp [loadA, hx0, Ins.enc]
          have hwk := wrap64 (x := pc.length + 1) (by omega) (by omega)
          simp only [Ins.enc] at hKx d2 hla
          simp (maxDischargeDepth := 9) [hts, tab, hltc, d1, d2, storeB, over, hKx]
          refine (containsI_ok D u3 pc.length Kx (by omega) (j3.fr (hKi.trans fx))).mono fun y K9 ⟨y1, y2⟩ => ?_
          subst y1 y2
          by_cases hin : (pc.length : Int) ∈ D
          · simp [hts, tab, hin, hwk]
            have hC2 : keepF D 0 b.code = C ++ keepF D (pc ++ [a]).length rc := by rw [hC]; simp [keepF, hin]
            exact ih2 (pc ++ [a]) _ K9 w C (by simp [ec]) hC2 (ho2.fr fx) (by simp; omega) hfw (hKi.trans fx) (by simp [hts])
          · have hcl30 : C.length ≤ 1048576 := by simp [ec] at h30; omega
            obtain ⟨w', K5, p1, p2, p3, p4⟩ := (ho2.fr fx).pushI a hcl30
            have hC2 : keepF D 0 b.code = (C ++ [a]) ++ keepF D (pc ++ [a]).length rc := by rw [hC]; simp [keepF, hin]
            have hwf' : ∀ c, w'.at c → K.length ≤ c := fun c hc => (p4 c hc).elim (hfw c) fun h => by have := hKi.1; have := fx.1; omega
            simp only [Ins.enc] at p1
            simp (maxDischargeDepth := 9) [hts, tab, hin, hwk, hla, buildSliceA, zerosA, fillA, over, p1]
            exact ih2 (pc ++ [a]) _ K5 w' (C ++ [a]) (by simp [ec]) hC2 p2 (by simp; omega) hwf' (Fr.then (hKi.trans fx) p3 hfw) (by simp [hts])
      exact key2 b.code [] _ K' (.sl K.length 0 0) [] rfl (by simp) (by simpa using ownC) (by simp) (fun b hb => by cases hb; exact Nat.le_refl _) fB (by simp [hts])
  exact key f [] _ K2 us0 rfl (by simpa using c1.fr x4) (fun u hu => (c2 u hu).mono h3.1) (Keeps.refl _ _) (by simp)
end Go.Proofs.Ytdbnokeegocpbaa.Am
