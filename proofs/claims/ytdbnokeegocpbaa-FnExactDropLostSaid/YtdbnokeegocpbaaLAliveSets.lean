/- What is needed ahead of every block: both ways to reckon it. No condition. -/
import Derived.Test.YtdbnokeegocpbaaLBehind
namespace Go.Proofs.Ytdbnokeegocpbaa.Am
open Go Go.RowKit
set_option linter.unusedSimpArgs false
set_option linter.unusedVariables false

theorem ptr_at {v : AV} {b o n : Nat} (h : v = .sl b o n) : v.at b := by subst h; rfl
/-- A row of lists that was made, the lists themselves but looked at. -/
structure SRow (K : Hp) (v : AV) (Ls : List (List Int)) (us : List AV) : Prop where
  own : Own 1 K v (slots us)
  look : LRow K v Ls us
  off : ∀ u ∈ us, ∀ b, u.at b → ¬ v.at b
theorem SRow.fr {K K' : Hp} {v : AV} {l : List (List Int)} {us : List AV} (h : SRow K v l us) (k : Fr K K') : SRow K' v l us := ⟨h.own.fr k, h.look.fr k, h.off⟩
theorem SRow.put {K : Hp} {v : AV} {l : List (List Int)} {us : List AV} (h : SRow K v l us) {k : Nat} (hk : k < l.length) {u : AV} {L : List Int} (hu : Row 1 K u (ints L)) (hne : ∀ b, u.at b → ¬ v.at b) :
    ∃ b, indexAddrA tab (.slice 25) K v (.int .i64 k) = some (.ptr b k) ∧ ∃ K', storeA tL K (.ptr b k) u = some K' ∧ SRow K' v (l.set k L) (us.set k u) ∧ Keeps v.at K K' := by
  have hk2 : k < us.length := by rw [h.look.len]; exact hk
  have he : (slots us)[k]? = some [us[k]] := by simp [slots, hk2]
  obtain ⟨b, hb, f1, f2⟩ := h.own.store (tab := tab) (e := 25) (ety := tL) rfl he .i64
  obtain ⟨K', f3, f4, f5, f6⟩ := f2 tL 0 u (by rw [hu.self]; rfl) (by simp [hu.self, hu.one]) (by decide)
  have e1 : (slots us).set k (over [us[k]] 0 u.cells) = slots (us.set k u) := by
    rw [hu.self]
    simp [slots, over, List.map_set]
  rw [e1] at f4
  refine ⟨b, by simpa using f1, K', by simpa using f3, ⟨f4, ⟨f4.row, by simp [h.look.len], fun i t w hi hw => ?_⟩, fun w hw b hb => ?_⟩, f5⟩
  · rw [List.getElem?_set] at hi hw
    by_cases e : k = i
    · subst e
      rw [if_pos rfl, if_pos hk] at hi
      rw [if_pos rfl, if_pos hk2] at hw
      cases hi
      cases hw
      exact hu.keeps f5 hne
    · rw [if_neg e] at hi hw
      exact (h.look.inner i t w hi hw).keeps f5 (h.off w (List.mem_of_getElem? hw))
  · rcases List.mem_or_eq_of_mem_set hw with hw | rfl
    · exact h.off w hw b hb
    · exact hne b hb
theorem next_of {plain : Bool} {b : Bk} {Ls : List (List Int)} {L1 L2 : List Int} (h1 : ∀ n, n ∈ L1 ↔ behS b Ls n) (hg : GoodN L2) (h2 : ∀ n, n ∈ L2 ↔ codeS b.code plain (· ∈ L1) n) : L2 = nextN plain b Ls := by
  refine setN_eq' hg fun n => ?_
  rw [h2 n]
  have : (fun n => n ∈ L1) = behS b Ls := funext fun n => propext (h1 n)
  rw [this]
set_option maxRecDepth 100000 in
theorem l7All_ok (f : List Bk) (ws : List AV) (fv : AV) (plain : Bool) (H : Hp) (hg : GoodF f) (hv : FRow H fv f ws) : T Try.prog 95 [fv, .bool plain] H (fun r K => (∃ us, LRow K r (alive plain f) us) ∧ Fr H K) := by
  refine T.by tabOk Try.func95 (by kernel_rfl) rfl _ (by simp [Try.f95]) H _ ?_
  have hlen := hv.count 67
  have h8 := hg.1.2
  obtain ⟨K0, m1, m2, m3⟩ := make_ok (ety := tL) (K := H) (n := f.length) rfl (by decide) (by simp; omega) (by omega)
  simp [Try.f95, tab, hlen, m1]
  refine W_loop _ fun I hI => ?_
  have key : ∀ (m : Nat) (Ls0 : List (List Int)) (ts : TS) (K : Hp) (us : List AV), Upp plain f Ls0 → 8 * f.length - total Ls0 < m → iter plain f m Ls0 = alive plain f → SRow K (.sl H.length 0 f.length) Ls0 us → Fr H K → (ts 0 = fv ∧ ts 1 = .bool plain ∧ ts 5 = .sl H.length 0 f.length) → I ts K := by
    intro m
    induction m with
    | zero => intro Ls0 ts K us _ h; omega
    | succ m ihm =>
      intro Ls0 ts K us hup hm hit hs hK hts
      apply hI
      simp [hts, tab, hlen]
      refine W_loop _ fun I2 hI2 => ?_
      have key2 : ∀ (r p : List Bk) (ts : TS) (K : Hp) (us : List AV) (cur : List (List Int)) (t : Bool), f = p ++ r → Upp plain f cur → Grown Ls0 cur t → goR plain r p.length cur = goR plain f 0 Ls0 → SRow K (.sl H.length 0 f.length) cur us → Fr H K → (ts 0 = fv ∧ ts 1 = .bool plain ∧ ts 5 = .sl H.length 0 f.length ∧ ts 6 = .bool t ∧ ts 13 = fv ∧ ts 14 = .int .i64 f.length ∧ ts 15 = .int .i64 p.length) → I2 ts K := by
        intro r
        induction r with
        | nil =>
          intro p ts K us cur t e hup2 hgr hgo hs2 hK2 hts
          apply hI2
          simp at e
          subst e
          simp only [goR] at hgo
          cases t with
          | false =>
            simp [hts, tab]
            have hit2 := iter_same m hgr hgo.symm
            rw [hit] at hit2
            rcases hgr with ⟨_, rfl⟩ | ⟨h, _⟩
            · rw [hit2]
              exact ⟨⟨us, hs2.look⟩, hK2⟩
            · cases h
          | true =>
            simp [hts, tab]
            rw [iter_more m hgr hgo.symm] at hit
            refine ihm cur _ K us hup2 ?_ hit hs2 hK2 (by simp [hts])
            rcases hgr with ⟨h, _⟩ | ⟨_, h⟩
            · cases h
            · have := total_le cur hup2.good
              rw [hup2.len] at this
              omega
        | cons b r ih =>
          intro p ts K us cur t e hup2 hgr hgo hs2 hK2 hts
          apply hI2
          have hlt : (p.length : Int) < f.length := by simp [e]; omega
          have hbf : f[p.length]? = some b := by simp [e]
          have hgb := hg.2 b (by simp [e])
          obtain ⟨b1, q, u, hu, e1, e2, e3⟩ := (hv.fr hK2).get (e := 67) rfl hbf
          have hu1 := e3.one
          have hu2 := cells_of_one hu1
          obtain ⟨K', hK', fB⟩ : ∃ K', K ++ [some ⟨4, true, [u, .int .i64 b.test, .int .i64 b.thn, .int .i64 b.els]⟩] = K' ∧ Fr K K' := ⟨_, rfl, Fr.app K _⟩
          have hb : K'[K.length]? = some (some ⟨4, true, [u, .int .i64 b.test, .int .i64 b.thn, .int .i64 b.els]⟩) := by rw [← hK']; simp
          have q0 : loadA tLN K' (.ptr K.length 0) = some u := load_at hb rfl rfl rfl
          have q9 : loadA tK K' (.ptr K.length 0) = some (.agg (cellsB b u)) := by simp [loadA, hb, cellsB]
          simp only [cellsB] at e2 q9
          simp (maxDischargeDepth := 9) [hts, tab, hlt, e1, e2, hu1, hu2, storeB, over, hK']
          refine W_draw mixed (.look 0 (.look 1 (.look 2 (.look 3 (.look 5 (.act 4 [1] (.act 6 [] (.act 7 [] .done .stop) .stop) .stop)))))) (by kernel_rfl) ?_
          simp (maxDischargeDepth := 9) [hts, tab, q0, q9]
          refine (l7Behind_ok b u cur us (.sl H.length 0 f.length) K' (by rw [hup2.len]; exact hgb) hu1 (by rw [hup2.len]; omega) hup2.good (hs2.look.fr fB)).mono fun y K1 ⟨L1, y1, y2, y3, y4, y5⟩ => ?_
          simp [hts, tab]
          refine ⟨load_at (y5.2 _ _ hb id) rfl rfl rfl, ?_⟩
          refine (l7Code_ok b.code u L1 y plain K1 hgb.1.2 (by have := hgb.1.1; omega) (e3.fr (fB.trans y5)) y2 y1).mono fun w K2 ⟨L2, z1, z2, z3, z4, z5⟩ => ?_
          have hL2 := next_of y3 z2 z3
          subst hL2
          have FK : Fr K K2 := fB.trans (y5.trans z5)
          have hs3 := hs2.fr FK
          obtain ⟨st1, st2, st3⟩ := hup2.step hbf
          have hkl : p.length < cur.length := by rw [hup2.len]; omega
          have hwf : ∀ b, w.at b → K.length ≤ b := fun b hb => (z4 b hb).elim (fun h => Nat.le_trans fB.1 (y4 b h)) fun h => by have := fB.1; have := y5.1; omega
          have hKl : H.length < K.length := hs2.own.lt H.length rfl
          obtain ⟨b3, i1, K3, i2, i3, i4⟩ := hs3.put (k := p.length) hkl z1 (by intro b hb hx; have := hwf b hb; have : H.length = b := hx; omega)
          obtain ⟨b4, o4, u4, j1, j2, j3⟩ := hs3.look.getD (e := 25) rfl (x := p.length) (by omega) (by omega)
          rw [i1] at j1
          obtain ⟨rfl, rfl⟩ : b3 = b4 ∧ p.length = o4 := by simpa using j1
          have hlw := z1.len 3
          have hl4 := j3.len 3
          simp only [Int.toNat_natCast, ints_length] at hl4 hlw
          have hwp := wrap64 (x := p.length + 1) (by omega) (by omega)
          have fin := st3 Ls0 t hgr
          have hs4 := i3
          have fK3 : Fr H K3 := Fr.then (hK2.trans FK) i4 (by intro b hb; cases hb; exact Nat.le_refl _)
          have hgo2 : goR plain r (p ++ [b]).length (cur.set p.length (nextN plain b cur)) = goR plain f 0 Ls0 := by
            rw [← hgo]
            simp [goR]
          cases t with
          | true =>
            simp [hts, tab, i1, i2, hwp]
            exact ih (p ++ [b]) _ K3 _ _ true (by simp [e]) st1 (by simpa using fin) hgo2 hs4 fK3 (by simp [hts])
          | false =>
            generalize hX : nextN plain b cur = X at *
            generalize hY : cur.getD p.length [] = Y at *
            have hdec : decide (X ≠ Y) = !decide ((X.length : Int) = Y.length) := by
              by_cases hh : X.length = Y.length
              · have h2 := st2 hh; simp [h2]
              · have h3 : X ≠ Y := fun h => hh (by rw [h])
                have h4 : ¬ (X.length : Int) = Y.length := by omega
                simp [h3, h4]
            rw [hdec, Bool.false_or] at fin
            simp (maxDischargeDepth := 9) [hts, tab, j2, hl4, hlw, i1, i2, hwp]
            refine ih (p ++ [b]) _ K3 _ _ _ (by simp [e]) st1 fin hgo2 hs4 fK3 (by simp [hts, bne, BEq.beq])
      exact key2 f [] _ K us Ls0 false rfl hup (.inl ⟨rfl, rfl⟩) rfl hs hK (by simp [hts])
  have hz : (List.replicate f.length tL.zero) = slots (List.replicate f.length .nil) := by simp [slots]
  rw [hz] at m2
  refine key (8 * f.length + 1) (List.replicate f.length []) _ K0 (List.replicate f.length .nil) (post_zero plain f) (by omega) rfl ⟨m2, ⟨m2.row, by simp, fun i t u hi hu => ?_⟩, fun u hu b hb => ?_⟩ m3 (by simp)
  · rw [List.getElem?_replicate] at hi hu
    split at hi
    · rename_i h
      rw [if_pos h] at hu
      cases hi
      cases hu
      simpa [ints] using (Own.nil 1 K0).row
    · cases hi
  · rw [List.eq_of_mem_replicate hu] at hb
    exact hb.elim
theorem over_all {c0 c : List AV} (h : c0.length = c.length) : over c0 0 c = c := by
  apply List.ext_getElem?
  intro i
  rw [over_get _ _ _ (by omega)]
  by_cases hi : i < c.length
  · rw [if_pos (by omega)]; simp
  · rw [if_neg (by omega), List.getElem?_eq_none (by omega), List.getElem?_eq_none (by omega)]
theorem ARow.put {K : Hp} {v : AV} {l : List (List Int)} {es : List (List AV)} (h : ARow K v l es) {k : Nat} (hk : k < l.length) {c : List AV} {L : List Int} (hc : Set8 c (· ∈ L)) :
    ∃ b, indexAddrA tab (.slice 106) K v (.int .i64 k) = some (.ptr b (k * 8)) ∧ ∃ K', storeA tS8 K (.ptr b (k * 8)) (.agg c) = some K' ∧ ARow K' v (l.set k L) (es.set k c) ∧ Keeps v.at K K' := by
  have hk2 : k < es.length := by rw [h.len]; exact hk
  have he : es[k]? = some es[k] := List.getElem?_eq_getElem hk2
  obtain ⟨b, hb, f1, f2⟩ := h.own.store (tab := tab) (e := 106) (ety := tS8) rfl he .i64
  obtain ⟨K', f3, f4, f5, f6⟩ := f2 tS8 0 (.agg c) (by simp [hc.1]) hc.one (by decide)
  have h8 : es[k].length = 8 := (h.sets k l[k] es[k] (List.getElem?_eq_getElem hk) he).1
  have e1 : over es[k] 0 (AV.agg c).cells = c := over_all (by rw [h8]; exact hc.1.symm)
  rw [e1] at f4
  refine ⟨b, by simpa using f1, K', by simpa using f3, ⟨f4, by simp [h.len], fun i L' c' hi hw => ?_⟩, f5⟩
  rw [List.getElem?_set] at hi hw
  by_cases e : k = i
  · subst e
    rw [if_pos rfl, if_pos hk] at hi
    rw [if_pos rfl, if_pos hk2] at hw
    cases hi
    cases hw
    exact hc
  · rw [if_neg e] at hi hw
    exact h.sets i L' c' hi hw
theorem set8_eq {c c' : List AV} {L L' : List Int} (h : Set8 c (· ∈ L)) (h' : Set8 c' (· ∈ L')) (hg : GoodN L) (hg' : GoodN L') : eqCells c c' = decide (L = L') := by
  by_cases e : L = L'
  · subst e
    have : c = c' := by
      apply List.ext_getElem?
      intro i
      by_cases hi : i < 8
      · obtain ⟨t, a1, a2⟩ := h.2 i hi
        obtain ⟨t', b1, b2⟩ := h'.2 i hi
        rw [a1, b1]
        have : t = t' := Bool.eq_iff_iff.2 (a2.trans b2.symm)
        rw [this]
      · rw [List.getElem?_eq_none (by rw [h.1]; omega), List.getElem?_eq_none (by rw [h'.1]; omega)]
    subst this
    rw [eqCells_same c h.fit]
    simp
  · rw [decide_eq_false e]
    cases he : eqCells c c' with
    | false => rfl
    | true =>
      exfalso
      have hcc := eqCells_eq c c' (by rw [h.1, h'.1]) h.fit h'.fit he
      subst hcc
      refine e (srt_ext hg.2 hg'.2 fun n => ?_)
      have : ∀ n, Nm n → (n ∈ L ↔ n ∈ L') := fun n hn => by
        unfold Nm at hn
        obtain ⟨j, rfl⟩ := Int.eq_ofNat_of_zero_le hn.1
        obtain ⟨t, a1, a2⟩ := h.2 j (by omega)
        obtain ⟨t', b1, b2⟩ := h'.2 j (by omega)
        rw [a1] at b1
        cases b1
        exact a2.symm.trans b2
      exact ⟨fun hn => (this n (hg.1 n hn)).1 hn, fun hn => (this n (hg'.1 n hn)).2 hn⟩
theorem eql8 {c c' : List AV} {S S' : Int → Prop} (h : Set8 c S) (h' : Set8 c' S') : eqlA tab 106 c c' = some (eqCells c c') := by
  have h1 := h.fit
  have h2 := h'.fit
  have h3 := h.1
  have h4 := h'.1
  unfold eqlA
  show (if _ then _ else _) = _
  rw [if_pos ⟨rfl, rfl, h3, h4, h1, h2⟩]
theorem next8 {plain : Bool} {b : Bk} {Ls : List (List Int)} {c : List AV} (h : Set8 c (codeS b.code plain (behS b Ls))) : Set8 c (· ∈ nextN plain b Ls) := h.congr fun n hn => by
  unfold nextN
  rw [mem_setN]
  exact ⟨fun h => ⟨hn, h⟩, fun h => h.2⟩
/-- A set that was put into a fresh array. -/
def NextAt (S : Int → Prop) (K : Hp) (v : AV) (K4 : Hp) : Prop := ∃ nb c2, v = .ptr nb 0 ∧ K4[nb]? = some (some ⟨8, true, c2⟩) ∧ Set8 c2 S ∧ K.length ≤ nb ∧ Fr K K4
theorem next_put {S : Int → Prop} {K K3 : Hp} {nb : Nat} {c2 : List AV} (h : Set8 c2 S) (hb : K3[nb]? = some (some ⟨8, true, List.replicate 8 (.bool false)⟩)) (hn : K.length ≤ nb) (hK : Fr K K3) : ∃ K4, storeA tS8 K3 (.ptr nb 0) (.agg c2) = some K4 ∧ NextAt S K (.ptr nb 0) K4 := by
  obtain ⟨K4, s1, s2, s3, s4⟩ := h.over hb (by simp)
  exact ⟨K4, s1, nb, c2, rfl, s2, h, hn, Fr.then hK s3 (by rintro b rfl; exact hn)⟩
set_option maxRecDepth 100000 in
theorem liveSets_ok (f : List Bk) (ws : List AV) (fv : AV) (strong : Bool) (H : Hp) (hg : GoodF f) (hv : FRow H fv f ws) : T Try.prog 142 [fv, .bool strong] H (fun r K => (∃ es, ARow K r (alive (!strong) f) es) ∧ Fresh H.length r ∧ Fr H K) := by
  refine T.by tabOk Try.func142 (by kernel_rfl) rfl _ (by simp [Try.f142]) H _ ?_
  have hlen := hv.count 67
  have h8 := hg.1.2
  obtain ⟨K0, m1, m2, m3⟩ := make_ok (ety := tS8) (K := H) (n := f.length) (by simp) (by decide) (by simp; omega) (by omega)
  obtain ⟨plain, hpl⟩ : ∃ plain, plain = !strong := ⟨_, rfl⟩
  rw [← hpl]
  simp [Try.f142, tab, hlen, m1, -List.reduceReplicate]
  refine W_loop _ fun I hI => ?_
  have keyF : ∀ (ts : TS) (K : Hp) (es : List (List AV)), ARow K (.sl H.length 0 f.length) (alive plain f) es → Fr H K → (ts 0 = fv ∧ ts 1 = .bool strong ∧ ts 5 = .sl H.length 0 f.length ∧ ts 6 = .bool false) → I ts K := by
    intro ts K es hs hK hts
    apply hI
    simp [hts, tab]
    exact ⟨⟨es, hs⟩, fun b hb => by cases hb; exact Nat.le_refl _, hK⟩
  have key : ∀ (m : Nat) (Ls0 : List (List Int)) (ts : TS) (K : Hp) (es : List (List AV)), Upp plain f Ls0 → 8 * f.length - total Ls0 < m → iter plain f m Ls0 = alive plain f → ARow K (.sl H.length 0 f.length) Ls0 es → Fr H K → (ts 0 = fv ∧ ts 1 = .bool strong ∧ ts 5 = .sl H.length 0 f.length ∧ ts 6 = .bool true) → I ts K := by
    intro m
    induction m with
    | zero => intro Ls0 ts K es _ h; omega
    | succ m ihm =>
      intro Ls0 ts K es hup hm hit hs hK hts
      apply hI
      simp [hts, tab, hlen, -List.reduceReplicate]
      refine W_loop _ fun I2 hI2 => ?_
      have key2 : ∀ (r p : List Bk) (ts : TS) (K : Hp) (es : List (List AV)) (cur : List (List Int)) (t : Bool), f = p ++ r → Upp plain f cur → Grown Ls0 cur t → goR plain r p.length cur = goR plain f 0 Ls0 → ARow K (.sl H.length 0 f.length) cur es → Fr H K → (ts 0 = fv ∧ ts 1 = .bool strong ∧ ts 5 = .sl H.length 0 f.length ∧ ts 6 = .bool t ∧ ts 14 = fv ∧ ts 15 = .int .i64 f.length ∧ ts 16 = .int .i64 p.length) → I2 ts K := by
        intro r
        induction r with
        | nil =>
          intro p ts K es cur t e hup2 hgr hgo hs2 hK2 hts
          apply hI2
          simp at e
          subst e
          simp only [goR] at hgo
          cases t with
          | false =>
            simp [hts, tab]
            have hit2 := iter_same m hgr hgo.symm
            rw [hit] at hit2
            rcases hgr with ⟨_, rfl⟩ | ⟨h, _⟩
            · exact keyF _ K es (by rw [hit2]; exact hs2) hK2 (by simp [hts])
            · cases h
          | true =>
            simp [hts, tab]
            rw [iter_more m hgr hgo.symm] at hit
            refine ihm cur _ K es hup2 ?_ hit hs2 hK2 (by simp [hts])
            rcases hgr with ⟨h, _⟩ | ⟨_, h⟩
            · cases h
            · have := total_le cur hup2.good
              rw [hup2.len] at this
              omega
        | cons b r ih =>
          intro p ts K es cur t e hup2 hgr hgo hs2 hK2 hts
          apply hI2
          have hlt : (p.length : Int) < f.length := by simp [e]; omega
          have hbf : f[p.length]? = some b := by simp [e]
          have hgb := hg.2 b (by simp [e])
          obtain ⟨b1, q, u, hu, e1, e2, e3⟩ := (hv.fr hK2).get (e := 67) rfl hbf
          have hu1 := e3.one
          have hu2 := cells_of_one hu1
          obtain ⟨K', hK', fB⟩ : ∃ K', K ++ [some ⟨4, true, [u, .int .i64 b.test, .int .i64 b.thn, .int .i64 b.els]⟩] = K' ∧ Fr K K' := ⟨_, rfl, Fr.app K _⟩
          have hb : K'[K.length]? = some (some ⟨4, true, [u, .int .i64 b.test, .int .i64 b.thn, .int .i64 b.els]⟩) := by rw [← hK']; simp
          have q0 : loadA tLN K' (.ptr K.length 0) = some u := load_at hb rfl rfl rfl
          have q9 : loadA tK K' (.ptr K.length 0) = some (.agg (cellsB b u)) := by simp [loadA, hb, cellsB]
          simp only [cellsB] at e2 q9
          simp (maxDischargeDepth := 9) [hts, tab, hlt, e1, e2, hu1, hu2, storeB, over, hK', -List.reduceReplicate]
          refine W_cut (fun ts K4 => NextAt (codeS b.code plain (behS b cur)) K' (ts 9) K4 ∧ ts 0 = fv ∧ ts 1 = .bool strong ∧ ts 5 = .sl H.length 0 f.length ∧ ts 6 = .bool t ∧ ts 7 = .int .i64 p.length ∧ ts 14 = fv ∧ ts 15 = .int .i64 f.length ∧ ts 16 = .int .i64 p.length) ?_ ?_
          · refine W_draw mixed (.look 0 (.look 1 (.look 2 (.look 3 (.look 5 (.act 4 [1] (.act 6 [] (.act 7 [] (.act 8 [] .done .stop) .stop) (.act 7 [1] (.act 6 [] (.act 8 [] .done .stop) .stop) .stop)) (.act 7 [1, 2] (.act 4 [1] (.act 6 [] (.act 8 [] .done .stop) .stop) .stop) .stop))))))) (by kernel_rfl) ?_
            have hgb' : GoodB cur.length b := by rw [hup2.len]; exact hgb
            have hc8 : cur.length ≤ 1048576 := by rw [hup2.len]; omega
            have hcl : b.code.length ≤ 1048576 := by have := hgb.1.1; omega
            have fZ : ∀ K : Hp, Fr K (K ++ [some ⟨8, true, List.replicate 8 (.bool false)⟩]) := fun K => Fr.app K _
            simp (maxDischargeDepth := 9) [hts, tab, q0, q9, -List.reduceReplicate]
            refine ⟨?_, ?_⟩
            · refine (liveBehind_ok b u cur es (.sl H.length 0 f.length) K' hgb' hu1 hc8 (hs2.fr fB)).mono fun y K1 ⟨⟨c1, y1, y2⟩, y3⟩ => ?_
              subst y1
              have q0' : loadA tLN K1 (.ptr K.length 0) = some u := load_at (y3.2 _ _ hb id) rfl rfl rfl
              simp [hts, tab, q0', -List.reduceReplicate]
              refine ⟨?_, ?_⟩
              · refine (backStep_ok b.code u c1 _ strong K1 hgb.1.2 hcl (e3.fr (fB.trans y3)) y2).mono fun w K2 ⟨⟨c2, z1, z2⟩, z3⟩ => ?_
                subst z1
                rw [← hpl] at z2
                obtain ⟨K3, hK3, f3⟩ : ∃ K3, K2 ++ [some ⟨8, true, List.replicate 8 (.bool false)⟩] = K3 ∧ Fr K2 K3 := ⟨_, rfl, fZ K2⟩
                obtain ⟨K4, s1, s2⟩ := next_put (K := K') z2 (by rw [← hK3]; simp [-List.reduceReplicate] : K3[K2.length]? = _) (Nat.le_trans y3.1 z3.1) (y3.trans (z3.trans f3))
                simp [hts, tab, hK3, s1, -List.reduceReplicate]
                exact s2
              · obtain ⟨K2, hK2, f2⟩ : ∃ K2, K1 ++ [some ⟨8, true, List.replicate 8 (.bool false)⟩] = K2 ∧ Fr K1 K2 := ⟨_, rfl, fZ K1⟩
                have q0'' : loadA tLN K2 (.ptr K.length 0) = some u := load_at (f2.2 _ _ (y3.2 _ _ hb id) id) rfl rfl rfl
                have hz : K2[K1.length]? = some (some ⟨8, true, List.replicate 8 (.bool false)⟩) := by rw [← hK2]; simp [-List.reduceReplicate]
                simp [hts, tab, hK2, q0'', -List.reduceReplicate]
                refine (backStep_ok b.code u c1 _ strong K2 hgb.1.2 hcl (e3.fr (fB.trans (y3.trans f2))) y2).mono fun w K3 ⟨⟨c2, z1, z2⟩, z3⟩ => ?_
                subst z1
                rw [← hpl] at z2
                obtain ⟨K4, s1, s2⟩ := next_put (K := K') z2 (z3.2 _ _ hz id) y3.1 (y3.trans (f2.trans z3))
                simp [hts, tab, s1, -List.reduceReplicate]
                exact s2
            · obtain ⟨K1, hK1, f1⟩ : ∃ K1, K' ++ [some ⟨8, true, List.replicate 8 (.bool false)⟩] = K1 ∧ Fr K' K1 := ⟨_, rfl, fZ K'⟩
              have hb1 := f1.2 _ _ hb id
              have q0' : loadA tLN K1 (.ptr K.length 0) = some u := load_at hb1 rfl rfl rfl
              have q9' : loadA tK K1 (.ptr K.length 0) = some (.agg (cellsB b u)) := by simp [loadA, hb1, cellsB]
              have hz : K1[K'.length]? = some (some ⟨8, true, List.replicate 8 (.bool false)⟩) := by rw [← hK1]; simp [-List.reduceReplicate]
              simp only [cellsB] at q9'
              simp [hts, tab, hK1, q0', q9', -List.reduceReplicate]
              refine (liveBehind_ok b u cur es (.sl H.length 0 f.length) K1 hgb' hu1 hc8 (hs2.fr (fB.trans f1))).mono fun y K2 ⟨⟨c1, y1, y2⟩, y3⟩ => ?_
              subst y1
              have q0'' : loadA tLN K2 (.ptr K.length 0) = some u := load_at (y3.2 _ _ hb1 id) rfl rfl rfl
              simp [hts, tab, q0'', -List.reduceReplicate]
              refine (backStep_ok b.code u c1 _ strong K2 hgb.1.2 hcl (e3.fr (fB.trans (f1.trans y3))) y2).mono fun w K3 ⟨⟨c2, z1, z2⟩, z3⟩ => ?_
              subst z1
              rw [← hpl] at z2
              obtain ⟨K4, s1, s2⟩ := next_put (K := K') z2 (z3.2 _ _ (y3.2 _ _ hz id) id) (Nat.le_refl _) (f1.trans (y3.trans z3))
              simp [hts, tab, s1, -List.reduceReplicate]
              exact s2
          rintro ts K4 ⟨⟨nb, c2, hnb, s2, z2, _, f4⟩, hts⟩
          have z4 := next8 z2
          have hld := z4.load s2
          rw [post_sq, W_seq]
          refine W_draw mixed (.look 0 (.look 1 (.look 2 (.look 3 (.look 4 (.look 5 (.look 6 (.look 7 (.look 8 (.act 9 [] .done .stop)))))))))) (by kernel_rfl) ?_
          have FK : Fr K K4 := fB.trans f4
          have hs3 := hs2.fr FK
          obtain ⟨st1, st2, st3⟩ := hup2.step hbf
          have hkl : p.length < cur.length := by rw [hup2.len]; omega
          obtain ⟨b4, c4, a1, a2, a3, a4, a5⟩ := hs3.get hkl
          obtain ⟨b5, i1, K5, i2, i3, i4⟩ := hs3.put hkl z4
          rw [i1] at a3
          obtain rfl : b5 = b4 := by simpa using a3
          have heq := set8_eq z4 a1 (setN_good _) (getD_good hup2.good _)
          have heql := eql8 z4 a1
          rw [heq] at heql
          have hwp := wrap64 (x := p.length + 1) (by omega) (by omega)
          have fin := st3 Ls0 t hgr
          have fK5 : Fr H K5 := Fr.then (hK2.trans FK) i4 (by intro b hb; cases hb; exact Nat.le_refl _)
          have hgo2 : goR plain r (p ++ [b]).length (cur.set p.length (nextN plain b cur)) = goR plain f 0 Ls0 := by
            rw [← hgo]
            simp [goR]
          generalize hX : nextN plain b cur = X at *
          generalize hY : cur.getD p.length [] = Y at *
          cases t with
          | true =>
            simp [hts, hnb, tab, i1, i2, hld, hwp, -List.reduceReplicate]
            exact ih (p ++ [b]) _ K5 _ _ true (by simp [e]) st1 (by simpa using fin) hgo2 i3 fK5 (by simp [hts])
          | false =>
            have hdec : decide (X ≠ Y) = !decide (X = Y) := by simp
            rw [hdec, Bool.false_or] at fin
            simp (maxDischargeDepth := 9) [hts, hnb, tab, i1, i2, hld, a4, heql, hwp, -List.reduceReplicate, -eqlA]
            exact ih (p ++ [b]) _ K5 _ _ _ (by simp [e]) st1 fin hgo2 i3 fK5 (by simp [hts])
      exact key2 f [] _ K es Ls0 false rfl hup (.inl ⟨rfl, rfl⟩) rfl hs hK (by simp [hts])
  refine key (8 * f.length + 1) (List.replicate f.length []) _ K0 (List.replicate f.length tS8.zero) (post_zero plain f) (by omega) rfl ⟨m2, by simp, fun k L c hk hc => ?_⟩ m3 (by simp)
  rw [List.getElem?_replicate] at hk hc
  split at hk
  · rename_i h
    rw [if_pos h] at hc
    cases hk
    cases hc
    exact Set8.none.congr (by simp)
  · cases hk
end Go.Proofs.Ytdbnokeegocpbaa.Am
