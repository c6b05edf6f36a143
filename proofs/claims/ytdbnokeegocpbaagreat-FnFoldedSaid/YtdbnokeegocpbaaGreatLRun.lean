/- Code and flows that run: the program's and the reference's. No condition. -/
import Derived.Test.YtdbnokeegocpbaaGreatLReckon
import Derived.Test.YtdbnokeegocpbaaGreatLCur
namespace Go.Proofs.YtdbnokeegocpbaaGreat.Am
open Go Go.RowKit
set_option linter.unusedSimpArgs false
set_option linter.unusedVariables false

theorem Keeps.behind {X Y : Nat → Prop} {A B C : Hp} (h : Keeps X A B) (k : Keeps Y B C) (hY : ∀ b, Y b → X b ∨ A.length ≤ b) : Keeps X A C := ⟨Nat.le_trans h.1 k.1, fun b blk hb hn => k.2 b blk (h.2 b blk hb hn) fun hy => (hY b hy).elim hn fun hl => by have := lt_of_get hb; omega⟩
theorem getW {K : Hp} {u : AV} {V : List Int} (h : Row 1 K u (ints V)) (hl : V.length = 8) {i : Int} (hi : Nm i) : ∃ b q, indexAddrA tab (.slice 3) K u (.int .i64 i) = some (.ptr b q) ∧ loadA tI K (.ptr b q) = some (.int .i64 (wd V i)) := by
  obtain ⟨b, q, _, e1, e2⟩ := Row.get1 h (tab := tab) (e := 3) (ety := tI) rfl rfl rfl (wd_get hl hi) .i64
  unfold Nm at hi
  rw [Int.toNat_of_nonneg hi.1] at e1
  exact ⟨b, q, e1, e2⟩
theorem Own.putW {K : Hp} {u : AV} {V : List Int} (h : Own 1 K u (ints V)) {i : Int} (h0 : 0 ≤ i) (h1 : i < V.length) (x : Int) : ∃ b, indexAddrA tab (.slice 3) K u (.int .i64 i) = some (.ptr b i.toNat) ∧ ∃ K', storeA tI K (.ptr b i.toNat) (.int .i64 x) = some K' ∧ Own 1 K' u (ints (V.set i.toNat x)) ∧ Keeps u.at K K' ∧ K'.length = K.length := by
  obtain ⟨k, rfl⟩ := Int.eq_ofNat_of_zero_le h0
  have hk : k < V.length := by omega
  obtain ⟨b, hb, f1, f2⟩ := h.store (tab := tab) (e := 3) (ety := tI) rfl (i := k) (c := [.int .i64 V[k]]) (by simp [ints, hk]) .i64
  obtain ⟨K', f3, f4, f5, f6⟩ := f2 tI 0 (.int .i64 x) rfl rfl (by decide)
  refine ⟨b, by simpa using f1, K', by simpa using f3, ?_, f5, f6⟩
  have e : (ints V).set k (over [.int .i64 V[k]] 0 (AV.int .i64 x).cells) = ints (V.set k x) := by simp [ints, List.map_set, over]
  rw [e] at f4
  simpa using f4
/-- A copy of a row of numbers. -/
theorem copyW {H : Hp} {w : AV} {V : List Int} (hw : Row 1 H w (ints V)) (hl : V.length ≤ 1000) :
    ∃ u K', appendA 1 8 (H ++ [some ⟨1, true, []⟩]) (.sl H.length 0 0) w = some (u, K') ∧ Own 1 K' u (ints V) ∧ Fresh H.length u ∧ Fr H K' := by
  have o0 : Own 1 (H ++ [some ⟨1, true, []⟩]) (.sl H.length 0 0) (ints []) := by
    have := Own.new (sz := 1) (K := H) (es := ints []) (ints_one _)
    simpa [ints] using this
  have f0 := Fr.app H [some ⟨1, true, []⟩]
  obtain ⟨u, K', a1, a2, a3, a4⟩ := o0.join (hw.fr f0) (by simp; omega)
  refine ⟨u, K', a1, by simpa using a2, fun b hb => ?_, Fr.then f0 a3 fun b hb => by cases hb; exact Nat.le_refl _⟩
  rcases a4 b hb with h | h
  · cases h; exact Nat.le_refl _
  · simp at h; omega
def AsksI (g : FuncId) (caps : List AV) (p : Int → Bool) (H : Hp) : Prop := ∀ (m : Int), T Tryz.prog g (.int .i64 m :: caps) H (fun r K' => r = .bool (p m) ∧ K' = H)
theorem indexI_ok (l : List Int) (v : AV) (g : FuncId) (caps : List AV) (p : Int → Bool) (H : Hp) (hm : l.length ≤ 1048576) (hv : Row 1 H v (ints l)) (hf : AsksI g caps p H) : T Tryz.prog 94 [v, .fn g caps] H (fun r K => (∃ i : Int, r = .int .i64 i ∧ (0 ≤ i ↔ ∃ m ∈ l, p m = true)) ∧ K = H) := by
  refine T.by tabOk Tryz.func94 (by kernel_rfl) rfl _ (by simp [Tryz.f94]) H _ ?_
  have hlen := hv.len 3
  simp [Tryz.f94, tab, hlen]
  refine W_loop _ fun I hI => ?_
  have key : ∀ (r q : List Int) (ts : TS), l = q ++ r → (∀ m ∈ q, p m = false) → (ts 0 = v ∧ ts 1 = .fn g caps ∧ ts 7 = .int .i64 l.length ∧ ts 8 = .int .i64 q.length) → I ts H := by
    intro r
    induction r with
    | nil =>
      intro q ts e hq hts
      apply hI
      simp at e
      subst e
      simp [hts, tab]
      exact fun m hm => by simp [hq m hm]
    | cons a r ih =>
      intro q ts e hq hts
      apply hI
      have hlt : (q.length : Int) < l.length := by simp [e]; omega
      obtain ⟨b, o, _, e1, e2⟩ := Row.get1 hv (tab := tab) (e := 3) (ety := tI) rfl rfl rfl (i := q.length) (a := a) (by simp [e]) .i64
      have hw := wrap64 (x := q.length + 1) (by omega) (by omega)
      simp (maxDischargeDepth := 9) [hts, tab, hlt, e1, e2]
      refine (hf a).mono fun y K1 ⟨y1, f1⟩ => ?_
      subst y1 f1
      cases hp : p a with
      | true =>
        simp [hts, hp]
        exact ⟨a, by simp [e], hp⟩
      | false =>
        simp [hts, hp, hw]
        exact ih (q ++ [a]) _ (by simp [e]) (fun m hm => by
          rcases List.mem_append.1 hm with hm | hm
          · exact hq m hm
          · simp at hm; subst hm; exact hp) (by simp [hts])
  exact key l [] _ rfl (by simp) (by simp)
theorem anyI_ok (l : List Int) (v : AV) (g : FuncId) (caps : List AV) (p : Int → Bool) (H : Hp) (hm : l.length ≤ 1048576) (hv : Row 1 H v (ints l)) (hf : AsksI g caps p H) : T Tryz.prog 63 [v, .fn g caps] H (fun r K => (∃ t, r = .bool t ∧ (t = true ↔ ∃ m ∈ l, p m = true)) ∧ K = H) := by
  refine T.by tabOk Tryz.func63 (by kernel_rfl) rfl _ (by simp [Tryz.f63]) H _ ?_
  simp [Tryz.f63]
  refine (indexI_ok l v g caps p H hm hv hf).mono fun r K ⟨⟨i, e1, e2⟩, e3⟩ => ?_
  subst e1 e3
  by_cases h0 : 0 ≤ i
  · simp [tab, h0]
    exact e2.1 h0
  · simp [tab, h0]
    refine fun x hx => ?_
    cases hp : p x with
    | false => rfl
    | true => exact absurd (e2.2 ⟨x, hx, hp⟩) h0
theorem badW_ok (H : Hp) : AsksI 95 [] (fun x => decide (¬ (0 ≤ x ∧ x ≤ 65535))) H := by
  intro m
  refine T.by tabOk Tryz.func95 (by kernel_rfl) rfl _ (by simp [Tryz.f95]) H _ ?_
  simp [Tryz.f95]
  refine (isWord_ok m _).mono fun r K1 ⟨y1, f1⟩ => ?_
  subst y1 f1
  by_cases h : 0 ≤ m ∧ m ≤ 65535
  · simp [h]
  · simp only [decide_eq_false h, decide_eq_true h]
    simp
    omega
theorem badW2_ok (H : Hp) : AsksI 64 [] (fun x => decide (¬ (0 ≤ x ∧ x ≤ 65535))) H := by
  intro m
  refine T.by tabOk Tryz.func64 (by kernel_rfl) rfl _ (by simp [Tryz.f64]) H _ ?_
  simp [Tryz.f64]
  refine (isWord_ok m _).mono fun r K1 ⟨y1, f1⟩ => ?_
  subst y1 f1
  by_cases h : 0 ≤ m ∧ m ≤ 65535
  · simp [h]
  · simp only [decide_eq_false h, decide_eq_true h]
    simp
    omega
theorem areWords_ok (V : List Int) (w : AV) (H : Hp) (hm : V.length ≤ 1048576) (hw : Row 1 H w (ints V)) : T Tryz.prog 30 [w] H (fun r K => (∃ t, r = .bool t ∧ (t = true ↔ GoodV V)) ∧ K = H) := by
  refine T.by tabOk Tryz.func30 (by kernel_rfl) rfl _ (by simp [Tryz.f30]) H _ ?_
  have hlen := hw.len 3
  by_cases h8 : V.length = 8
  case neg =>
    have h8' : ¬ (V.length : Int) = 8 := by omega
    simp [Tryz.f30, tab, hlen, h8']
    exact fun h => h8 h.1
  simp [Tryz.f30, tab, hlen, h8]
  refine (anyI_ok V w _ [] _ H hm hw (badW2_ok H)).mono fun r K ⟨⟨t, e1, e2⟩, e3⟩ => ?_
  subst e1 e3
  cases t with
  | true =>
    simp
    intro h
    obtain ⟨m, hm1, hm2⟩ := e2.1 rfl
    exact (of_decide_eq_true hm2) (h.2 m hm1)
  | false =>
    simp
    refine ⟨h8, fun x hx => ?_⟩
    refine Classical.byContradiction fun hn => ?_
    have := e2.2 ⟨x, hx, decide_eq_true hn⟩
    cases this
set_option maxRecDepth 100000 in
theorem runCode_ok (l : List Ins) (V : List Int) (v w : AV) (H : Hp) (hg : GoodC l) (hV : GoodV V) (hv : Row 5 H v (l.map Ins.enc)) (hw : Row 1 H w (ints V)) : T Tryz.prog 66 [v, w] H (fun r K => ∃ s u, r = .tup [s, u, .bool true] ∧ Own 1 K s (ints (runC l V).1) ∧ Own 1 K u (ints (runC l V).2) ∧ Fresh H.length s ∧ Fresh H.length u ∧ Fr H K) := by
  refine T.by tabOk Tryz.func66 (by kernel_rfl) rfl _ (by simp [Tryz.f66]) H _ ?_
  have hlen := hv.len 53
  have hlw := hw.len 3
  have hl30 := hg.1
  have hV8 := hV.1
  simp [Tryz.f66]
  refine (isCode_ok l v H (by omega) hv).mono fun r K0 ⟨⟨t, h1, h2⟩, h3⟩ => ?_
  subst h1
  obtain rfl : t = true := h2.2 hg
  simp [tab, hlw, hV8]
  refine (anyI_ok V w _ [] _ K0 (by omega) (hw.fr h3) (badW_ok K0)).mono fun r K1 ⟨⟨t, e1, e2⟩, e3⟩ => ?_
  subst e1 e3
  obtain rfl : t = false := by
    cases t with
    | false => rfl
    | true =>
      obtain ⟨m, hm1, hm2⟩ := e2.1 rfl
      exact absurd (hV.2 m hm1) (of_decide_eq_true hm2)
  obtain ⟨u, K2, a1, a2, a3, a4⟩ := copyW (hw.fr h3) (by omega)
  obtain ⟨K3, hK3, f3⟩ : ∃ K3, K2 ++ [some ⟨1, true, []⟩] = K3 ∧ Fr K2 K3 := ⟨_, rfl, Fr.app _ _⟩
  have own0 : Own 1 K3 (.sl K2.length 0 0) (ints []) := by
    have := Own.new (sz := 1) (K := K2) (es := ints []) (ints_one _)
    rw [← hK3]
    simpa [ints] using this
  have hult := a2.lt
  simp [tab, hlen, buildSliceA, zerosA, fillA, over, a1, hK3]
  refine W_loop _ fun I hI => ?_
  have key : ∀ (r p : List Ins) (W : List Int) (S : List Int) (ts : TS) (K : Hp) (s : AV), l = p ++ r → (runC l V) = (S ++ (runC r W).1, (runC r W).2) → GoodV W → S.length ≤ p.length → Own 1 K u (ints W) → Own 1 K s (ints S) → (∀ b, s.at b → ¬ u.at b) → Fresh H.length s → Fr H K → (ts 1 = u ∧ ts 7 = s ∧ ts 26 = v ∧ ts 27 = .int .i64 l.length ∧ ts 28 = .int .i64 p.length) → I ts K := by
    intro r
    induction r with
    | nil =>
      intro p W S ts K s e hR hW hSl hu hs hne hfs hK hts
      apply hI
      simp at e
      subst e
      simp only [runC, List.append_nil] at hR
      simp [hts, tab]
      rw [hR]
      exact ⟨s, u, ⟨rfl, rfl⟩, hs, hu, hfs, a3.mono h3.1, hK⟩
    | cons x r ih =>
      intro p W S ts K s e hR hW hSl hu hs hne hfs hK hts
      apply hI
      have hlt : (p.length : Int) < l.length := by simp [e]; omega
      obtain ⟨b, q, _, e1, e2, -⟩ := (hv.fr hK).get (tab := tab) (e := 53) (ety := tN) rfl (i := p.length) (a := x) (by simp [e]) .i64
      have e2 := e2 rfl
      have hw1 := wrap64 (x := p.length + 1) (by simp [e] at hl30; omega) (by simp [e] at hl30; omega)
      have hx := hg.2 x (by simp [e])
      have hnm := hx.names
      have hval := valI_good hW hx
      have hW8 := hW.1
      have fB := Fr.app K [some ⟨5, true, x.enc⟩]
      have hu1 := hu.fr fB
      have hs1 := hs.fr fB
      have hplen : p.length ≤ 30 := by simp [e] at hl30; omega
      have hufr : Fresh H.length u := a3.mono h3.1
      have nextW : ∀ (y : Int) (ts : TS) (K' : Hp), x.op ≠ 8 → y = valI x W → Own 1 K' u (ints (W.set x.dst.toNat y)) → Own 1 K' s (ints S) → Fr H K' → (ts 1 = u ∧ ts 7 = s ∧ ts 26 = v ∧ ts 27 = .int .i64 l.length ∧ ts 28 = .int .i64 (p.length + 1)) → I ts K' := fun y ts K' h8 hy a b c d => ih (p ++ [x]) (W.set x.dst.toNat y) S ts K' s (by simp [e]) (by rw [hR, runC, if_neg h8, hy]) (hW.set _ (by rw [hy]; exact hval)) (by simp; omega) a b hne hfs c (by simp [d])
      have hputW := fun (K' : Hp) (h : Own 1 K' u (ints W)) (y : Int) => h.putW hnm.1.1 (by have := hnm.1; unfold Nm at this; omega) y
      obtain ⟨op, dst, a, b', n⟩ := x
      simp only [Ins.enc] at e2 fB hu1 hs1
      simp only at hnm nextW hputW
      by_cases o8 : op = 8
      · subst o8
        obtain ⟨Kx, hKx⟩ : ∃ Kx, K ++ [some ⟨5, true, [.int .i64 8, .int .i64 dst, .int .i64 a, .int .i64 b', .int .i64 n]⟩] = Kx := ⟨_, rfl⟩
        rw [hKx] at hu1 hs1 fB
        have hx0 : Kx[K.length]? = some (some ⟨5, true, [.int .i64 8, .int .i64 dst, .int .i64 a, .int .i64 b', .int .i64 n]⟩) := by rw [← hKx]; simp
        have g0 : loadA tI Kx (.ptr K.length 0) = some (.int .i64 8) := load_at hx0 rfl rfl rfl
        have g2 : loadA tI Kx (.ptr K.length 2) = some (.int .i64 a) := load_at hx0 rfl rfl rfl
        obtain ⟨b2, q0, x1, x2⟩ := getW hu1.row hW8 hnm.2.1
        obtain ⟨s', K4, y1, y2, y3, y4⟩ := hs1.push (wd W a) (by omega)
        simp (maxDischargeDepth := 9) [hts, tab, hlt, e1, e2, Ins.enc, hKx, g0, g2, hw1, x1, x2, buildSliceA, zerosA, fillA, over, y1]
        have hsl : ∀ c, s.at c → c < Kx.length := hs1.lt
        have hul : ∀ c, u.at c → c < Kx.length := hu1.lt
        exact ih (p ++ [⟨8, dst, a, b', n⟩]) W (S ++ [wd W a]) _ K4 s' (by simp [e]) (by rw [hR, runC]; simp) hW (by simp; omega) (hu1.keeps y3 fun c h1 h2 => hne c h2 h1) y2 (fun c hc hx => (y4 c hc).elim (fun h => hne c h hx) fun h => by have := hul c hx; omega) (fun c hc => (y4 c hc).elim (hfs c) fun h => by have := hK.1; have := fB.1; omega) (Fr.then (hK.trans fB) y3 hfs) (by simp [hts])
      by_cases o1 : op = 1
      · subst o1
        obtain ⟨c, q1, K', q2, q3, q4, q5⟩ := hputW _ hu1 n
        simp (maxDischargeDepth := 9) [hts, tab, hlt, e1, e2, Ins.enc, loadB, hw1, q1, q2]
        exact nextW n _ _ (by decide) (by simp [valI]) q3 (hs1.keeps q4 hne) (Fr.then (hK.trans fB) q4 hufr) (by simp [hts])
      by_cases o2 : op = 2
      · subst o2
        obtain ⟨b2, q0, x1, x2⟩ := getW hu1.row hW8 hnm.2.1
        obtain ⟨c, q1, K', q2, q3, q4, q5⟩ := hputW _ hu1 (wd W a)
        simp (maxDischargeDepth := 9) [hts, tab, hlt, e1, e2, Ins.enc, loadB, hw1]
        refine W_draw mixed (.look 0 (.look 1 (.look 2 (.look 3 (.look 4 (.look 5 (.look 6 (.look 7 (.look 8 (.act 9 [] .done .stop)))))))))) (by kernel_rfl) ?_
        simp (maxDischargeDepth := 9) [hts, tab, loadB, hw1, x1, x2, q1, q2]
        exact nextW _ _ _ (by decide) (by simp [valI]) q3 (hs1.keeps q4 hne) (Fr.then (hK.trans fB) q4 hufr) (by simp [hts])
      have h4 : 3 ≤ op ∧ op ≤ 7 := by
        rcases hx with g | g | g | g
        · exact absurd g.1 o1
        · exact absurd g.1 o2
        · exact absurd g.1 o8
        · exact ⟨g.1, g.2.1⟩
      obtain ⟨b2, q0, x1, x2⟩ := getW hu1.row hW8 hnm.2.1
      obtain ⟨b3, q3', x3, x4⟩ := getW hu1.row hW8 hnm.2.2
      simp (maxDischargeDepth := 9) [hts, tab, hlt, e1, e2, Ins.enc, loadB, hw1, o1, o2, o8]
      refine W_draw mixed (.look 0 (.look 1 (.look 2 (.look 3 (.look 4 (.look 5 (.look 6 (.look 7 (.look 8 (.look 9 (.look 10 (.look 11 (.look 12 (.look 13 (.look 14 (.act 15 [2] (.look 16 (.act 17 [] .done .stop)) .stop)))))))))))))))) (by kernel_rfl) ?_
      simp (maxDischargeDepth := 9) [hts, tab, loadB, hw1, x1, x2, x3, x4]
      refine (reckon_ok op (wd W a) (wd W b') _ h4).mono fun y K1 ⟨y1, f1⟩ => ?_
      subst y1 f1
      obtain ⟨c, q1, K', q2, q3, q4, q5⟩ := hputW _ hu1 (doI op (wd W a) (wd W b'))
      simp (maxDischargeDepth := 9) [hts, tab, loadB, hw1, q1, q2]
      exact nextW _ _ _ o8 (by simp [valI, o1, o2]) q3 (hs1.keeps q4 hne) (Fr.then (hK.trans fB) q4 hufr) (by simp [hts])
  exact key l [] V [] _ K3 _ rfl (by simp) hV (by simp) (a2.fr f3) own0 (fun b hb hx => by cases hb; have := hult _ hx; omega) (fun b hb => by cases hb; exact Nat.le_trans h3.1 a4.1) ((h3.trans a4).trans f3) (by simp)
/-- What a run of a flow comes to. -/
def RunAt (f : List Bk) (fuel : Nat) (V : List Int) (H : Hp) (r : AV) (K : Hp) : Prop := ∃ s u p, r = .tup [s, u, p, .bool (runFl f fuel 0 V).2.2.2] ∧ Row 1 K s (ints (runFl f fuel 0 V).1) ∧ Row 1 K u (ints (runFl f fuel 0 V).2.1) ∧ Row 1 K p (ints (runFl f fuel 0 V).2.2.1) ∧ Fr H K
set_option maxRecDepth 100000 in
theorem runFlow_ok (f : List Bk) (ws : List AV) (fv : AV) (V : List Int) (w : AV) (fuel : Nat) (H : Hp) (hg : GoodF f) (hV : GoodV V) (hfu : fuel ≤ 300) (hv : FRow H fv f ws) (hw : Row 1 H w (ints V)) : T Tryz.prog 32 [fv, w, .int .i64 fuel] H (RunAt f fuel V H) := by
  refine T.by tabOk Tryz.func32 (by kernel_rfl) rfl _ (by simp [Tryz.f32]) H _ ?_
  have h8 := hg.1.2
  have h1 := hg.1.1
  obtain ⟨K0, hK0, f0⟩ : ∃ K0, H ++ [some ⟨1, true, []⟩, some ⟨1, true, []⟩] = K0 ∧ Fr H K0 := ⟨_, rfl, Fr.app _ _⟩
  have own0 : Own 1 K0 (.sl H.length 0 0) (ints []) := ⟨by simp [ints], .inr ⟨H.length, rfl, by rw [← hK0]; simp [ints]⟩⟩
  have own1 : Own 1 K0 (.sl (H.length + 1) 0 0) (ints []) := ⟨by simp [ints], .inr ⟨H.length + 1, rfl, by rw [← hK0]; simp [ints]⟩⟩
  simp [Tryz.f32, tab, buildSliceA, zerosA, fillA, over, hK0]
  refine W_loop _ fun I hI => ?_
  have key : ∀ (m : Nat) (i : Int) (W S P : List Int) (ts : TS) (K : Hp) (s p u : AV), P.length + m = fuel → i ≤ (f.length : Int) - 1 → GoodV W → S.length ≤ 30 * P.length → runFl f fuel 0 V = (S ++ (runFl f m i W).1, (runFl f m i W).2.1, P ++ (runFl f m i W).2.2.1, (runFl f m i W).2.2.2) → Own 1 K s (ints S) → Own 1 K p (ints P) → Row 1 K u (ints W) →
      (∀ b, s.at b → ¬ p.at b) → (∀ b, u.at b → ¬ p.at b) → Fresh H.length s → Fresh H.length p → Fr H K → (ts 0 = fv ∧ ts 1 = u ∧ ts 2 = .int .i64 fuel ∧ ts 10 = s ∧ ts 11 = p ∧ ts 12 = .int .i64 i) → I ts K := by
    intro m
    induction m with
    | zero =>
      intro i W S P ts K s p u hm hi hW hSl hR hs hp hu hsp hup hfs hfp hK hts
      apply hI
      have hlp := hp.row.len 3
      by_cases hneg : i < 0
      · rw [runFl_neg f 0 hneg] at hR
        obtain ⟨u', K2, a1, a2, a3, a4⟩ := copyW hu (by rw [hW.1]; decide)
        have hni : ¬ 0 ≤ i := by omega
        simp [hts, tab, hni, buildSliceA, zerosA, fillA, over, a1]
        simp at hR
        unfold RunAt
        rw [hR]
        exact ⟨s, u', p, rfl, hs.row.fr a4, a2.row, hp.row.fr a4, hK.trans a4⟩
      · rw [runFl_none f hneg] at hR
        have hni : 0 ≤ i := by omega
        have hmm : (P.length : Int) = fuel := by omega
        simp [hts, tab, hni, hlp, hmm]
        simp at hR
        unfold RunAt
        rw [hR]
        exact ⟨s, u, p, rfl, hs.row, hu, hp.row, hK⟩
    | succ m ih =>
      intro i W S P ts K s p u hm hi hW hSl hR hs hp hu hsp hup hfs hfp hK hts
      apply hI
      have hlp := hp.row.len 3
      by_cases hneg : i < 0
      · rw [runFl_neg f (m + 1) hneg] at hR
        obtain ⟨u', K2, a1, a2, a3, a4⟩ := copyW hu (by rw [hW.1]; decide)
        have hni : ¬ 0 ≤ i := by omega
        simp [hts, tab, hni, buildSliceA, zerosA, fillA, over, a1]
        simp at hR
        unfold RunAt
        rw [hR]
        exact ⟨s, u', p, rfl, hs.row.fr a4, a2.row, hp.row.fr a4, hK.trans a4⟩
      have hni : 0 ≤ i := by omega
      have hmm : ¬ (P.length : Int) = fuel := by omega
      obtain ⟨g1, g2⟩ := blk_get (f := f) hni hi
      have hgb := hg.2 _ g2
      rw [runFl_more f m hneg] at hR
      generalize hb : blkAt f i = b at *
      obtain ⟨p', K1, a1, a2, a3, a4⟩ := hp.push i (by omega)
      have f1 : Fr H K1 := Fr.then hK a3 hfp
      have hs1 := hs.keeps a3 hsp
      have hu1 := hu.keeps a3 hup
      obtain ⟨b1, q, ub, hub, e1, e2, e3⟩ := (hv.fr f1).get (e := 51) rfl g1
      rw [Int.toNat_of_nonneg hni] at e1
      have hu1' := e3.one
      have hu2' := cells_of_one hu1'
      obtain ⟨K2, hK2, f2⟩ : ∃ K2, K1 ++ [some ⟨4, true, [ub, .int .i64 b.test, .int .i64 b.thn, .int .i64 b.els]⟩] = K2 ∧ Fr K1 K2 := ⟨_, rfl, Fr.app K1 _⟩
      have hb2 : K2[K1.length]? = some (some ⟨4, true, [ub, .int .i64 b.test, .int .i64 b.thn, .int .i64 b.els]⟩) := by rw [← hK2]; simp
      have q0 : loadA tLN K2 (.ptr K1.length 0) = some ub := load_at hb2 rfl rfl rfl
      simp only [cellsB] at e2
      simp (maxDischargeDepth := 9) [hts, tab, hni, hlp, hmm, buildSliceA, zerosA, fillA, over, a1, e1, e2, hu1', hu2', storeB, hK2, q0]
      refine (runCode_ok b.code W ub u K2 hgb.1 hW (e3.fr f2) (hu1.fr f2)).mono fun x K3 ⟨o, u', x1, x2, x3, x4, x5, x6⟩ => ?_
      subst x1
      have hrc := runC_good b.code hgb.1.2 hW
      have hfit := goOn_fit hg g2 (runC b.code W).2
      have h30 := hgb.1.1
      generalize hc : runC b.code W = c at *
      have hs3 := hs1.fr (f2.trans x6)
      have hp3 := a2.fr (f2.trans x6)
      have l2 := f2.1
      have l3 := x6.1
      have l1 := a3.1
      have hslt := hs1.lt
      have hplt := a2.lt
      have hslt0 := hs.lt
      obtain ⟨s', K4, y1, y2, y3, y4⟩ := hs3.join x2.row (by omega)
      have hps : ∀ b, p'.at b → ¬ s.at b := fun b hb hx => (a4 b hb).elim (fun h => hsp b hx h) fun h => by have := hslt0 b hx; omega
      have hp4 := hp3.keeps y3 hps
      have hu4 := x3.keeps y3 fun b hb hx => by have := x5 b hb; have := hslt b hx; omega
      have hb4 := y3.2 _ _ (x6.2 _ _ hb2 id) fun hx => by have := hslt _ hx; omega
      have k1 : loadA tI K4 (.ptr K1.length 1) = some (.int .i64 b.test) := load_at hb4 rfl rfl rfl
      have k2 : loadA tI K4 (.ptr K1.length 2) = some (.int .i64 b.thn) := load_at hb4 rfl rfl rfl
      have k3 : loadA tI K4 (.ptr K1.length 3) = some (.int .i64 b.els) := load_at hb4 rfl rfl rfl
      obtain ⟨bt, qt, t1, t2⟩ := getW hu4.row hrc.1.1 hgb.2.1
      have f4 : Fr H K4 := Fr.then (f1.trans (f2.trans x6)) y3 hfs
      have hx3lt := x3.lt
      have next : ∀ ts' : TS, (ts' 0 = fv ∧ ts' 1 = u' ∧ ts' 2 = .int .i64 fuel ∧ ts' 10 = s' ∧ ts' 11 = p' ∧ ts' 12 = .int .i64 (goOn b c.2)) → I ts' K4 := fun ts' h => ih (goOn b c.2) c.2 (S ++ c.1) (P ++ [i]) ts' K4 s' p' u' (by simp; omega) hfit.2 hrc.1 (by simp; omega) (by rw [hR]; simp) y2 hp4 hu4.row
        (fun b hb hx => (y4 b hb).elim (fun h => hps b hx h) fun h => by have := hplt b hx; omega) (fun b hb hx => by have := x5 b hb; have := hplt b hx; omega) (fun b hb => (y4 b hb).elim (hfs b) fun h => by have := f1.1; omega) (fun b hb => (a4 b hb).elim (hfp b) fun h => by have := hK.1; omega) f4 h
      simp (maxDischargeDepth := 9) [hts, tab, y1, k1, k3, t1, t2]
      by_cases ht : wd c.2 b.test = 0
      · simp [hts, tab, ht]
        exact next _ (by simp [hts, goOn, ht])
      · simp [hts, tab, ht, k2]
        exact next _ (by simp [hts, goOn, ht])
  exact key fuel 0 V [] [] _ K0 _ _ w (by simp) (by omega) hV (by simp) (by simp) own0 own1 (hw.fr f0) (fun b hb hx => by have h1 : H.length = b := hb; have h2 : H.length + 1 = b := hx; omega) (fun b hb hx => by have h2 : H.length + 1 = b := hx; have := hw.lt _ hb; omega) (fun b hb => by cases hb; exact Nat.le_refl _) (fun b hb => by cases hb; omega) f0 (by simp)
open Classical in
noncomputable def pathRes (f : List Bk) (V : List Int) (fuel : Int) : List Int × Bool := if GoodF f ∧ GoodV V ∧ 0 ≤ fuel ∧ fuel ≤ 300 then ((runFl f fuel.toNat 0 V).2.2.1, true) else ([], false)
open Classical in
noncomputable def runRes (f : List Bk) (V : List Int) (fuel : Int) : List Int × List Int × Int × Bool := if (GoodF f ∧ GoodV V ∧ 0 ≤ fuel ∧ fuel ≤ 300) ∧ (runFl f fuel.toNat 0 V).2.2.2 = true then ((runFl f fuel.toNat 0 V).1, (runFl f fuel.toNat 0 V).2.1, (runFl f fuel.toNat 0 V).2.2.1.length, true) else ([], [], 0, false)
def PathAt (f : List Bk) (V : List Int) (fuel : Int) (H : Hp) (r : AV) (K : Hp) : Prop := ∃ p, r = .tup [p, .bool (pathRes f V fuel).2] ∧ Row 1 K p (ints (pathRes f V fuel).1) ∧ Fr H K
def RunsAt (f : List Bk) (V : List Int) (fuel : Int) (H : Hp) (r : AV) (K : Hp) : Prop := ∃ s u, r = .tup [s, u, .int .i64 (runRes f V fuel).2.2.1, .bool (runRes f V fuel).2.2.2] ∧ Row 1 K s (ints (runRes f V fuel).1) ∧ Row 1 K u (ints (runRes f V fuel).2.1) ∧ Fr H K
theorem nil_row (sz : Nat) (K : Hp) : Row sz K .nil [] := ⟨by simp, .inl ⟨rfl, rfl⟩⟩
set_option maxRecDepth 100000 in
theorem implRun_ok (f : List Bk) (ws : List AV) (fv : AV) (V : List Int) (w : AV) (fuel : Int) (H : Hp) (hm : f.length ≤ 1048576) (hmm : ∀ t ∈ f, t.code.length ≤ 1048576) (hmv : V.length ≤ 1048576) (hv : FRow H fv f ws) (hw : Row 1 H w (ints V)) : T Tryz.prog 11 [fv, w, .int .i64 fuel] H (RunsAt f V fuel H) := by
  refine T.by tabOk Tryz.func11 (by kernel_rfl) rfl _ (by simp [Tryz.f11]) H _ ?_
  simp [Tryz.f11]
  refine (isFlow_ok f ws fv H hm hmm hv).mono fun r K ⟨⟨t, h1, h2⟩, h3⟩ => ?_
  subst h1
  cases t with
  | false =>
    have hn : ¬ GoodF f := fun h => by cases h2.2 h
    simp [tab]
    exact ⟨.nil, .nil, by simp [runRes, hn], by simpa [runRes, hn, ints] using nil_row 1 _, by simpa [runRes, hn, ints] using nil_row 1 _, h3⟩
  | true =>
  have hg := h2.1 rfl
  simp [tab]
  refine (areWords_ok V w K hmv (hw.fr h3)).mono fun r K1 ⟨⟨t, g1, g2⟩, g3⟩ => ?_
  subst g1 g3
  cases t with
  | false =>
    have hn : ¬ GoodV V := fun h => by cases g2.2 h
    simp [tab]
    exact ⟨.nil, .nil, by simp [runRes, hn], by simpa [runRes, hn, ints] using nil_row 1 _, by simpa [runRes, hn, ints] using nil_row 1 _, h3⟩
  | true =>
  have hV := g2.1 rfl
  simp [tab]
  refine (in_ok fuel 0 300 K1).mono fun r K2 ⟨e1, e2⟩ => ?_
  subst e1 e2
  by_cases hf : 0 ≤ fuel ∧ fuel ≤ 300
  case neg =>
    have hn : ¬ (0 ≤ fuel ∧ fuel ≤ 300) := hf
    simp only [decide_eq_false hf]
    simp [tab]
    exact ⟨.nil, .nil, by simp [runRes, hn], by simpa [runRes, hn, ints] using nil_row 1 _, by simpa [runRes, hn, ints] using nil_row 1 _, h3⟩
  simp only [decide_eq_true hf]
  obtain ⟨n, rfl⟩ := Int.eq_ofNat_of_zero_le hf.1
  simp [tab]
  refine (runFlow_ok f ws fv V w n K2 hg hV (by omega) (hv.fr h3) (hw.fr h3)).mono fun r K3 ⟨s, u, p, x1, x2, x3, x4, x5⟩ => ?_
  subst x1
  have hlp := x4.len 3
  have hgood : GoodF f ∧ GoodV V ∧ 0 ≤ (n : Int) ∧ (n : Int) ≤ 300 := ⟨hg, hV, hf⟩
  cases he : (runFl f n 0 V).2.2.2 with
  | false =>
    have hres : runRes f V n = ([], [], 0, false) := by
      unfold runRes
      rw [if_neg (fun h => by have := h.2; rw [Int.toNat_natCast, he] at this; cases this)]
    simp [tab]
    unfold RunsAt
    rw [hres]
    exact ⟨.nil, .nil, rfl, nil_row 1 _, nil_row 1 _, h3.trans x5⟩
  | true =>
    have hres : runRes f V n = ((runFl f n 0 V).1, (runFl f n 0 V).2.1, (((runFl f n 0 V).2.2.1.length : Nat) : Int), true) := by
      unfold runRes
      rw [if_pos ⟨hgood, by rw [Int.toNat_natCast]; exact he⟩, Int.toNat_natCast]
    simp [tab, hlp]
    unfold RunsAt
    rw [hres]
    exact ⟨s, u, rfl, x2, x3, h3.trans x5⟩
end Go.Proofs.YtdbnokeegocpbaaGreat.Am
