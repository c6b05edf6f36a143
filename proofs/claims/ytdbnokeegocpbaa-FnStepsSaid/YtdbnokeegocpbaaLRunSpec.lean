/- Code and flows that run: the reference's. No condition. -/
import Derived.Test.YtdbnokeegocpbaaLRun
namespace Go.Proofs.Ytdbnokeegocpbaa.Am
open Go Go.RowKit
set_option linter.unusedSimpArgs false
set_option linter.unusedVariables false

theorem l3Words_ok (V : List Int) (w : AV) (H : Hp) (hm : V.length ≤ 1048576) (hw : Row 1 H w (ints V)) : T Try.prog 125 [w] H (fun r K => (∃ t, r = .bool t ∧ (t = true ↔ GoodV V)) ∧ K = H) := by
  refine T.by tabOk Try.func125 (by kernel_rfl) rfl _ (by simp [Try.f125]) H _ ?_
  have hlen := hw.len 3
  simp [Try.f125, tab, hlen]
  refine W_loop _ fun I hI => ?_
  have key : ∀ (r p : List Int) (ts : TS), V = p ++ r → (∀ x ∈ p, 0 ≤ x ∧ x ≤ 65535) → (ts 0 = w ∧ ts 5 = w ∧ ts 6 = .int .i64 V.length ∧ ts 7 = .int .i64 p.length) → I ts H := by
    intro r
    induction r with
    | nil =>
      intro p ts e hp hts
      apply hI
      simp at e
      subst e
      by_cases h8 : V.length = 8
      · have h8' : (V.length : Int) = 8 := by omega
        simp [hts, tab, hlen, h8']
        exact ⟨h8, hp⟩
      · have h8' : ¬ (V.length : Int) = 8 := by omega
        simp [hts, tab, hlen, h8']
        exact fun h => h8 h.1
    | cons a r ih =>
      intro p ts e hp hts
      apply hI
      have hlt : (p.length : Int) < V.length := by simp [e]; omega
      obtain ⟨b, q, _, e1, e2⟩ := Row.get1 hw (tab := tab) (e := 3) (ety := tI) rfl rfl rfl (i := p.length) (a := a) (by simp [e]) .i64
      have hw1 := wrap64 (x := p.length + 1) (by omega) (by omega)
      simp [hts, tab, hlt, e1, e2]
      refine (l1Word_ok a H).mono fun y K ⟨y1, y2⟩ => ?_
      subst y1 y2
      by_cases ha : 0 ≤ a ∧ a ≤ 65535
      · simp only [decide_eq_true ha]
        simp [hts, tab, hw1]
        exact ih (p ++ [a]) _ (by simp [e]) (fun x hx => by
          rcases List.mem_append.1 hx with hx | hx
          · exact hp x hx
          · simp at hx; subst hx; exact ha) (by simp [hts])
      · simp only [decide_eq_false ha]
        simp [hts, tab]
        exact fun h => ha (h.2 a (by simp [e]))
  exact key V [] _ rfl (by simp) (by simp)
set_option maxRecDepth 100000 in
theorem l3Run_ok (l : List Ins) (V T0 : List Int) (v u s0 : AV) (H : Hp) (hg : GoodC l) (hV : GoodV V) (hT : T0.length ≤ 9000) (hv : Row 5 H v (l.map Ins.enc)) (hu0 : Own 1 H u (ints V)) (hs0 : Own 1 H s0 (ints T0)) (hne0 : ∀ b, s0.at b → ¬ u.at b) (hvu : ∀ b, v.at b → ¬ u.at b ∧ ¬ s0.at b) : T Try.prog 158 [v, u, s0] H (fun s K => Own 1 K u (ints (runC l V).2) ∧ Own 1 K s (ints (T0 ++ (runC l V).1)) ∧ (∀ b, s.at b → s0.at b ∨ H.length ≤ b) ∧ Keeps (fun b => u.at b ∨ s0.at b) H K) := by
  refine T.by tabOk Try.func158 (by kernel_rfl) rfl _ (by simp [Try.f158]) H _ ?_
  have hlen := hv.len 102
  have hl30 := hg.1
  have hV8 := hV.1
  obtain ⟨X, hX⟩ : ∃ X : Nat → Prop, X = fun b => u.at b ∨ s0.at b := ⟨_, rfl⟩
  have huX : ∀ b, u.at b → X b := fun b h => by rw [hX]; exact .inl h
  have hs0X : ∀ b, s0.at b → X b := fun b h => by rw [hX]; exact .inr h
  have hvl := hv.lt
  have hul := hu0.lt
  rw [← hX]
  simp [Try.f158, tab, hlen]
  refine W_loop _ fun I hI => ?_
  have key : ∀ (r p : List Ins) (W : List Int) (S : List Int) (ts : TS) (K : Hp) (s : AV), l = p ++ r → (runC l V) = (S ++ (runC r W).1, (runC r W).2) → GoodV W → S.length ≤ p.length → Own 1 K u (ints W) → Own 1 K s (ints (T0 ++ S)) → (∀ b, s.at b → s0.at b ∨ H.length ≤ b) → (∀ b, s.at b → b < K.length) → Keeps X H K → (ts 1 = u ∧ ts 2 = s ∧ ts 9 = v ∧ ts 10 = .int .i64 l.length ∧ ts 11 = .int .i64 p.length) → I ts K := by
    intro r
    induction r with
    | nil =>
      intro p W S ts K s e hR hW hSl hu hs hfs hsl hK hts
      apply hI
      simp at e
      subst e
      simp only [runC, List.append_nil] at hR
      simp [hts, tab]
      rw [hR]
      exact ⟨hu, hs, hfs, hK⟩
    | cons x r ih =>
      intro p W S ts K s e hR hW hSl hu hs hfs hsl hK hts
      apply hI
      have hlt : (p.length : Int) < l.length := by simp [e]; omega
      have hvK : Row 5 K v (l.map Ins.enc) := hv.keeps hK fun b hb hx => by rw [hX] at hx; exact hx.elim (hvu b hb).1 (hvu b hb).2
      obtain ⟨b, q, _, e1, e2, -⟩ := hvK.get (tab := tab) (e := 102) (ety := tN) rfl (i := p.length) (a := x) (by simp [e]) .i64
      have e2 := e2 rfl
      have hw1 := wrap64 (x := p.length + 1) (by simp [e] at hl30; omega) (by simp [e] at hl30; omega)
      have hx := hg.2 x (by simp [e])
      have hnm := hx.names
      have hval := valI_good hW hx
      have hW8 := hW.1
      have hplen : p.length ≤ 30 := by simp [e] at hl30; omega
      have hsu : ∀ b, s.at b → ¬ u.at b := fun b hb hx => (hfs b hb).elim (fun h => hne0 b h hx) fun h => by have := hul b hx; omega
      have hlK := hK.1
      obtain ⟨Kx, hKx, fB⟩ : ∃ Kx, K ++ [some ⟨5, true, x.enc⟩] = Kx ∧ Fr K Kx := ⟨_, rfl, Fr.app _ _⟩
      have hx0 : Kx[K.length]? = some (some ⟨5, true, x.enc⟩) := by rw [← hKx]; simp
      have g0 : loadA tI Kx (.ptr K.length 0) = some (.int .i64 x.op) := load_at hx0 rfl rfl rfl
      have g1 : loadA tI Kx (.ptr K.length 1) = some (.int .i64 x.dst) := load_at hx0 rfl rfl rfl
      have g2 : loadA tI Kx (.ptr K.length 2) = some (.int .i64 x.a) := load_at hx0 rfl rfl rfl
      have g3 : loadA tI Kx (.ptr K.length 3) = some (.int .i64 x.b) := load_at hx0 rfl rfl rfl
      have g4 : loadA tI Kx (.ptr K.length 4) = some (.int .i64 x.n) := load_at hx0 rfl rfl rfl
      have hu1 := hu.fr fB
      have hs1 := hs.fr fB
      have hKx1 : Keeps X H Kx := hK.trans (Fr.keeps fB)
      have nextW : ∀ (y : Int) (ts : TS) (K' : Hp), x.op ≠ 8 → y = valI x W → Own 1 K' u (ints (W.set x.dst.toNat y)) → Own 1 K' s (ints (T0 ++ S)) → Keeps X H K' → K'.length = Kx.length → (ts 1 = u ∧ ts 2 = s ∧ ts 9 = v ∧ ts 10 = .int .i64 l.length ∧ ts 11 = .int .i64 (p.length + 1)) → I ts K' := fun y ts K' h8 hy a b c d0 d => ih (p ++ [x]) (W.set x.dst.toNat y) S ts K' s (by simp [e]) (by rw [hR, runC, if_neg h8, hy]) (hW.set _ (by rw [hy]; exact hval)) (by simp; omega) a b hfs (fun b hb => by have := hsl b hb; have := fB.1; omega) c (by simp [d])
      obtain ⟨cw, w1, w2⟩ : ∃ c, indexAddrA tab (.slice 3) Kx u (.int .i64 x.dst) = some (.ptr c x.dst.toNat) ∧ ∀ y : Int, ∃ K', storeA tI Kx (.ptr c x.dst.toNat) (.int .i64 y) = some K' ∧ Own 1 K' u (ints (W.set x.dst.toNat y)) ∧ Keeps u.at Kx K' ∧ K'.length = Kx.length := by
        have hput := fun y => hu1.putW hnm.1.1 (by have := hnm.1; unfold Nm at this; omega) y
        obtain ⟨c, q1, _⟩ := hput 0
        refine ⟨c, q1, fun y => ?_⟩
        obtain ⟨c', q1', K', q2, q3, q4, q5⟩ := hput y
        rw [q1] at q1'
        obtain rfl : c = c' := by simpa using q1'
        exact ⟨K', q2, q3, q4, q5⟩
      obtain ⟨b2, q0, x1, x2⟩ := getW hu1.row hW8 hnm.2.1
      obtain ⟨b3, q3', x3, x4⟩ := getW hu1.row hW8 hnm.2.2
      simp only [Ins.enc] at e2 hKx
      by_cases o8 : x.op = 8
      · rw [o8] at g0
        obtain ⟨s', K4, y1, y2, y3, y4⟩ := hs1.push (wd W x.a) (by simp; omega)
        simp (maxDischargeDepth := 9) [hts, tab, hlt, e1, e2, storeB, over, hKx, g0, g2, hw1, x1, x2, buildSliceA, zerosA, fillA, y1]
        have hslx : ∀ c, s.at c → c < Kx.length := hs1.lt
        have hulx : ∀ c, u.at c → c < Kx.length := hu1.lt
        refine ih (p ++ [x]) W (S ++ [wd W x.a]) _ K4 s' (by simp [e]) (by rw [hR, runC, if_pos o8]; simp) hW (by simp; omega) (hu1.keeps y3 fun c h1 h2 => hsu c h2 h1) (by simpa using y2) (fun c hc => (y4 c hc).elim (hfs c) fun h => .inr (by have := hKx1.1; omega)) y2.lt ?_ (by simp [hts])
        exact hKx1.behind y3 fun c hc => (hfs c hc).elim (fun h => .inl (hs0X c h)) .inr
      by_cases o1 : x.op = 1
      · rw [o1] at g0
        obtain ⟨K', q2, q3, q4, q5⟩ := w2 x.n
        simp (maxDischargeDepth := 9) [hts, tab, hlt, e1, e2, storeB, over, hKx, g0, g1, g4, hw1, w1, q2]
        exact nextW x.n _ _ o8 (by simp [valI, o1]) q3 (hs1.keeps q4 hsu) (hKx1.trans (q4.mono huX)) q5 (by simp [hts])
      by_cases o2 : x.op = 2
      · rw [o2] at g0
        obtain ⟨K', q2, q3, q4, q5⟩ := w2 (wd W x.a)
        simp (maxDischargeDepth := 9) [hts, tab, hlt, e1, e2, storeB, over, hKx, g0]
        refine W_draw mixed (.look 0 (.look 1 (.look 2 (.look 3 (.look 4 (.look 5 (.look 6 (.look 7 (.look 8 (.act 9 [] .done .stop)))))))))) (by kernel_rfl) ?_
        simp (maxDischargeDepth := 9) [hts, tab, g1, g2, hw1, x1, x2, w1, q2]
        exact nextW _ _ _ o8 (by simp [valI, o1, o2]) q3 (hs1.keeps q4 hsu) (hKx1.trans (q4.mono huX)) q5 (by simp [hts])
      have h4 : 3 ≤ x.op ∧ x.op ≤ 7 := by
        rcases hx with g | g | g | g
        · exact absurd g.1 o1
        · exact absurd g.1 o2
        · exact absurd g.1 o8
        · exact ⟨g.1, g.2.1⟩
      simp (maxDischargeDepth := 9) [hts, tab, hlt, e1, e2, storeB, over, hKx, g0, o1, o2, o8]
      refine W_draw mixed (.look 0 (.look 1 (.look 2 (.look 3 (.look 4 (.look 5 (.look 6 (.look 7 (.look 8 (.look 9 (.look 10 (.look 11 (.look 12 (.look 13 (.look 14 (.act 15 [2] (.look 16 (.act 17 [] .done .stop)) .stop)))))))))))))))) (by kernel_rfl) ?_
      simp (maxDischargeDepth := 9) [hts, tab, g0, g1, g2, g3, x1, x2, x3, x4]
      refine (l3Do_ok x.op (wd W x.a) (wd W x.b) _ h4).mono fun y K1 ⟨y1, f1⟩ => ?_
      subst y1 f1
      obtain ⟨K', q2, q3, q4, q5⟩ := w2 (doI x.op (wd W x.a) (wd W x.b))
      simp (maxDischargeDepth := 9) [hts, tab, hw1, g1, w1, q2]
      exact nextW _ _ _ o8 (by simp [valI, o1, o2]) q3 (hs1.keeps q4 hsu) (hKx1.trans (q4.mono huX)) q5 (by simp [hts])
  exact key l [] V [] _ H s0 rfl (by simp) hV (by simp) hu0 (by simpa using hs0) (fun b hb => .inl hb) hs0.lt (Keeps.refl _ _) (by simp)
set_option maxRecDepth 100000 in
theorem l5Run_ok (f : List Bk) (ws : List AV) (fv : AV) (V : List Int) (w : AV) (fuel : Nat) (H : Hp) (hg : GoodF f) (hV : GoodV V) (hfu : fuel ≤ 300) (hv : FRow H fv f ws) (hw : Row 1 H w (ints V)) : T Try.prog 126 [fv, w, .int .i64 fuel] H (RunAt f fuel V H) := by
  refine T.by tabOk Try.func126 (by kernel_rfl) rfl _ (by simp [Try.f126]) H _ ?_
  have h8 := hg.1.2
  have h1 := hg.1.1
  obtain ⟨u, K0, c1, c2, c3, f0⟩ := copyW hw (by rw [hV.1]; decide)
  simp [Try.f126, tab, buildSliceA, zerosA, fillA, over, c1]
  refine W_loop _ fun I hI => ?_
  have key : ∀ (m : Nat) (i : Int) (W S P : List Int) (ts : TS) (K : Hp) (s p : AV), P.length + m = fuel → i ≤ (f.length : Int) - 1 → GoodV W → S.length ≤ 30 * P.length → runFl f fuel 0 V = (S ++ (runFl f m i W).1, (runFl f m i W).2.1, P ++ (runFl f m i W).2.2.1, (runFl f m i W).2.2.2) → Own 1 K s (ints S) → Own 1 K p (ints P) → Own 1 K u (ints W) →
      (∀ b, s.at b → ¬ p.at b) → (∀ b, u.at b → ¬ p.at b) → (∀ b, s.at b → ¬ u.at b) → Fresh H.length s → Fresh H.length p → Fr H K → (ts 0 = fv ∧ ts 10 = u ∧ ts 2 = .int .i64 fuel ∧ ts 11 = s ∧ ts 12 = p ∧ ts 13 = .int .i64 i) → I ts K := by
    intro m
    induction m with
    | zero =>
      intro i W S P ts K s p hm hi hW hSl hR hs hp hu hsp hup hsu hfs hfp hK hts
      apply hI
      have hlp := hp.row.len 3
      by_cases hneg : i < 0
      · rw [runFl_neg f 0 hneg] at hR
        have hni : ¬ 0 ≤ i := by omega
        simp [hts, tab, hni]
        simp at hR
        unfold RunAt
        rw [hR]
        exact ⟨s, u, p, rfl, hs.row, hu.row, hp.row, hK⟩
      · rw [runFl_none f hneg] at hR
        have hni : 0 ≤ i := by omega
        have hmm : (P.length : Int) = fuel := by omega
        simp [hts, tab, hni, hlp, hmm]
        simp at hR
        unfold RunAt
        rw [hR]
        exact ⟨s, u, p, rfl, hs.row, hu.row, hp.row, hK⟩
    | succ m ih =>
      intro i W S P ts K s p hm hi hW hSl hR hs hp hu hsp hup hsu hfs hfp hK hts
      apply hI
      have hlp := hp.row.len 3
      by_cases hneg : i < 0
      · rw [runFl_neg f (m + 1) hneg] at hR
        have hni : ¬ 0 ≤ i := by omega
        simp [hts, tab, hni]
        simp at hR
        unfold RunAt
        rw [hR]
        exact ⟨s, u, p, rfl, hs.row, hu.row, hp.row, hK⟩
      have hni : 0 ≤ i := by omega
      have hmm : ¬ (P.length : Int) = fuel := by omega
      obtain ⟨g1, g2⟩ := blk_get (f := f) hni hi
      have hgb := hg.2 _ g2
      rw [runFl_more f m hneg] at hR
      generalize hb : blkAt f i = b at *
      obtain ⟨p', K1, a1, a2, a3, a4⟩ := hp.push i (by omega)
      have f1 : Fr H K1 := Fr.then hK a3 hfp
      have hs1 := hs.keeps a3 hsp
      have hu1 := hu.keeps a3 hup
      obtain ⟨b1, q, ub, hub, e1, e2, e3⟩ := (hv.fr f1).get (e := 67) rfl g1
      rw [Int.toNat_of_nonneg hni] at e1
      have hu1' := e3.one
      have hu2' := cells_of_one hu1'
      obtain ⟨K2, hK2, f2⟩ : ∃ K2, K1 ++ [some ⟨4, true, [ub, .int .i64 b.test, .int .i64 b.thn, .int .i64 b.els]⟩] = K2 ∧ Fr K1 K2 := ⟨_, rfl, Fr.app K1 _⟩
      have hb2 : K2[K1.length]? = some (some ⟨4, true, [ub, .int .i64 b.test, .int .i64 b.thn, .int .i64 b.els]⟩) := by rw [← hK2]; simp
      have q0 : loadA tLN K2 (.ptr K1.length 0) = some ub := load_at hb2 rfl rfl rfl
      have hvlt : ∀ b, ub.at b → b < H.length := fun b hb => by
        obtain ⟨b9, q9, u9, hu9, _, _, e9⟩ := hv.get (e := 67) rfl g1
        rw [hub] at hu9
        cases hu9
        exact e9.lt b hb
      simp only [cellsB] at e2
      simp (maxDischargeDepth := 9) [hts, tab, hni, hlp, hmm, buildSliceA, zerosA, fillA, over, a1, e1, e2, hu1', hu2', storeB, hK2, q0]
      refine (l3Run_ok b.code W S ub u s K2 hgb.1 hW (by omega) (e3.fr f2) (hu1.fr f2) (hs1.fr f2) hsu (fun b hb => by
        have := hvlt b hb
        exact ⟨fun hx => by have := c3 b hx; omega, fun hx => by have := hfs b hx; omega⟩)).mono fun s' K4 ⟨x2, x1, x3, x4⟩ => ?_
      have hrc := runC_good b.code hgb.1.2 hW
      have hfit := goOn_fit hg g2 (runC b.code W).2
      have h30 := hgb.1.1
      generalize hc : runC b.code W = c at *
      have l2 := f2.1
      have l3 := x4.1
      have l1 := a3.1
      have hslt := hs1.lt
      have hult := hu1.lt
      have hplt := a2.lt
      have hslt0 := hs.lt
      have hult0 := hu.lt
      have hps : ∀ b, p'.at b → ¬ s.at b := fun b hb hx => (a4 b hb).elim (fun h => hsp b hx h) fun h => by have := hslt0 b hx; omega
      have hpu : ∀ b, p'.at b → ¬ u.at b := fun b hb hx => (a4 b hb).elim (fun h => hup b hx h) fun h => by have := hult0 b hx; omega
      have hp4 := (a2.fr f2).keeps x4 fun b hb hx => hx.elim (hpu b hb) (hps b hb)
      have hb4 := x4.2 _ _ hb2 fun hx => hx.elim (fun h => by have := hult _ h; omega) fun h => by have := hslt _ h; omega
      have k1 : loadA tI K4 (.ptr K1.length 1) = some (.int .i64 b.test) := load_at hb4 rfl rfl rfl
      have k2 : loadA tI K4 (.ptr K1.length 2) = some (.int .i64 b.thn) := load_at hb4 rfl rfl rfl
      have k3 : loadA tI K4 (.ptr K1.length 3) = some (.int .i64 b.els) := load_at hb4 rfl rfl rfl
      obtain ⟨bt, qt, t1, t2⟩ := getW x2.row hrc.1.1 hgb.2.1
      have f4 : Fr H K4 := Fr.then (f1.trans f2) x4 fun b hb => hb.elim (c3 b) (hfs b)
      have next : ∀ ts' : TS, (ts' 0 = fv ∧ ts' 10 = u ∧ ts' 2 = .int .i64 fuel ∧ ts' 11 = s' ∧ ts' 12 = p' ∧ ts' 13 = .int .i64 (goOn b c.2)) → I ts' K4 := fun ts' h => ih (goOn b c.2) c.2 (S ++ c.1) (P ++ [i]) ts' K4 s' p' (by simp; omega) hfit.2 hrc.1 (by simp; omega) (by rw [hR]; simp) x1 hp4 x2
        (fun b hb hx => (x3 b hb).elim (fun h => hps b hx h) fun h => by have := hplt b hx; omega) (fun b hb hx => hpu b hx hb) (fun b hb hx => (x3 b hb).elim (fun h => hsu b h hx) fun h => by have := hult b hx; omega) (fun b hb => (x3 b hb).elim (hfs b) fun h => by have := f1.1; omega) (fun b hb => (a4 b hb).elim (hfp b) fun h => by have := hK.1; omega) f4 h
      simp (maxDischargeDepth := 9) [hts, tab, k1, k3, t1, t2]
      by_cases ht : wd c.2 b.test = 0
      · simp [hts, tab, ht]
        exact next _ (by simp [hts, goOn, ht])
      · simp [hts, tab, ht, k2]
        exact next _ (by simp [hts, goOn, ht])
  exact key fuel 0 V [] [] _ K0 .nil .nil (by simp) (by omega) hV (by simp) (by simp) (by simpa [ints] using Own.nil 1 K0) (by simpa [ints] using Own.nil 1 K0) c2 (fun b hb => hb.elim) (fun b hb hx => hx.elim) (fun b hb => hb.elim) (Fresh.nil _) (Fresh.nil _) f0 (by simp)
set_option maxRecDepth 100000 in
theorem specPath_ok (f : List Bk) (ws : List AV) (fv : AV) (V : List Int) (w : AV) (fuel : Int) (H : Hp) (hm : f.length ≤ 1048576) (hmm : ∀ t ∈ f, t.code.length ≤ 1048576) (hmv : V.length ≤ 1048576) (hv : FRow H fv f ws) (hw : Row 1 H w (ints V)) : T Try.prog 64 [fv, w, .int .i64 fuel] H (PathAt f V fuel H) := by
  refine T.by tabOk Try.func64 (by kernel_rfl) rfl _ (by simp [Try.f64]) H _ ?_
  simp [Try.f64]
  refine (goodFlow_ok f ws fv H hm hmm hv).mono fun r K ⟨⟨t, h1, h2⟩, h3⟩ => ?_
  subst h1
  cases t with
  | false =>
    have hn : ¬ GoodF f := fun h => by cases h2.2 h
    simp [tab]
    exact ⟨.nil, by simp [pathRes, hn], by simpa [pathRes, hn, ints] using nil_row 1 _, h3⟩
  | true =>
  have hg := h2.1 rfl
  simp [tab]
  refine (l3Words_ok V w K hmv (hw.fr h3)).mono fun r K1 ⟨⟨t, g1, g2⟩, g3⟩ => ?_
  subst g1 g3
  cases t with
  | false =>
    have hn : ¬ GoodV V := fun h => by cases g2.2 h
    simp [tab]
    exact ⟨.nil, by simp [pathRes, hn], by simpa [pathRes, hn, ints] using nil_row 1 _, h3⟩
  | true =>
  have hV := g2.1 rfl
  simp [tab]
  refine (l1In_ok fuel 0 300 K1).mono fun r K2 ⟨e1, e2⟩ => ?_
  subst e1 e2
  by_cases hf : 0 ≤ fuel ∧ fuel ≤ 300
  case neg =>
    have hn : ¬ (0 ≤ fuel ∧ fuel ≤ 300) := hf
    simp only [decide_eq_false hf]
    simp [tab]
    exact ⟨.nil, by simp [pathRes, hn], by simpa [pathRes, hn, ints] using nil_row 1 _, h3⟩
  simp only [decide_eq_true hf]
  obtain ⟨n, rfl⟩ := Int.eq_ofNat_of_zero_le hf.1
  simp [tab]
  refine (l5Run_ok f ws fv V w n K2 hg hV (by omega) (hv.fr h3) (hw.fr h3)).mono fun r K3 ⟨s, u, p, x1, x2, x3, x4, x5⟩ => ?_
  subst x1
  simp [tab]
  refine ⟨p, by simp [pathRes, hg, hV, hf], ?_, h3.trans x5⟩
  simpa [pathRes, hg, hV, hf] using x4
set_option maxRecDepth 100000 in
theorem specRun_ok (f : List Bk) (ws : List AV) (fv : AV) (V : List Int) (w : AV) (fuel : Int) (H : Hp) (hm : f.length ≤ 1048576) (hmm : ∀ t ∈ f, t.code.length ≤ 1048576) (hmv : V.length ≤ 1048576) (hv : FRow H fv f ws) (hw : Row 1 H w (ints V)) : T Try.prog 63 [fv, w, .int .i64 fuel] H (RunsAt f V fuel H) := by
  refine T.by tabOk Try.func63 (by kernel_rfl) rfl _ (by simp [Try.f63]) H _ ?_
  simp [Try.f63]
  refine (goodFlow_ok f ws fv H hm hmm hv).mono fun r K ⟨⟨t, h1, h2⟩, h3⟩ => ?_
  subst h1
  cases t with
  | false =>
    have hn : ¬ GoodF f := fun h => by cases h2.2 h
    simp [tab]
    exact ⟨.nil, .nil, by simp [runRes, hn], by simpa [runRes, hn, ints] using nil_row 1 _, by simpa [runRes, hn, ints] using nil_row 1 _, h3⟩
  | true =>
  have hg := h2.1 rfl
  simp [tab]
  refine (l3Words_ok V w K hmv (hw.fr h3)).mono fun r K1 ⟨⟨t, g1, g2⟩, g3⟩ => ?_
  subst g1 g3
  cases t with
  | false =>
    have hn : ¬ GoodV V := fun h => by cases g2.2 h
    simp [tab]
    exact ⟨.nil, .nil, by simp [runRes, hn], by simpa [runRes, hn, ints] using nil_row 1 _, by simpa [runRes, hn, ints] using nil_row 1 _, h3⟩
  | true =>
  have hV := g2.1 rfl
  simp [tab]
  refine (l1In_ok fuel 0 300 K1).mono fun r K2 ⟨e1, e2⟩ => ?_
  subst e1 e2
  by_cases hf : 0 ≤ fuel ∧ fuel ≤ 300
  case neg =>
    have hn : ¬ (0 ≤ fuel ∧ fuel ≤ 300) := hf
    simp only [decide_eq_false hf]
    simp [tab]
    exact ⟨.nil, .nil, by simp [runRes, hn], by simpa [runRes, hn, ints] using nil_row 1 _, by simpa [runRes, hn, ints] using nil_row 1 _, h3⟩
  simp only [decide_eq_true hf]
  obtain ⟨n, rfl⟩ := Int.eq_ofNat_of_zero_le hf.1
  simp [tab]
  refine (l5Run_ok f ws fv V w n K2 hg hV (by omega) (hv.fr h3) (hw.fr h3)).mono fun r K3 ⟨s, u, p, x1, x2, x3, x4, x5⟩ => ?_
  subst x1
  have hlp := x4.len 3
  have hgood : GoodF f ∧ GoodV V ∧ 0 ≤ (n : Int) ∧ (n : Int) ≤ 300 := ⟨hg, hV, hf⟩
  cases he : (runFl f n 0 V).2.2.2 with
  | false =>
    have hres : runRes f V n = ([], [], 0, false) := by
      unfold runRes
      rw [if_neg (fun h => by have := h.2; rw [Int.toNat_natCast, he] at this; cases this)]
    simp [tab]
    unfold RunsAt
    rw [hres]
    exact ⟨.nil, .nil, rfl, nil_row 1 _, nil_row 1 _, h3.trans x5⟩
  | true =>
    have hres : runRes f V n = ((runFl f n 0 V).1, (runFl f n 0 V).2.1, (((runFl f n 0 V).2.2.1.length : Nat) : Int), true) := by
      unfold runRes
      rw [if_pos ⟨hgood, by rw [Int.toNat_natCast]; exact he⟩, Int.toNat_natCast]
    simp [tab, hlp]
    unfold RunsAt
    rw [hres]
    exact ⟨s, u, rfl, x2, x3, h3.trans x5⟩
end Go.Proofs.Ytdbnokeegocpbaa.Am
