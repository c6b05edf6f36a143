/- Ranges that come to a block: both ways. No condition. -/
import Derived.Test.YtfndikfaibbjoaaLRngMath
import Derived.Test.YtfndikfaibbjoaaLGrid
import Derived.Test.YtfndikfaibbjoaaLFlowOwn
namespace Go.Proofs.Ytfndikfaibbjoaa.Am
open Go Go.RowKit
set_option linter.unusedSimpArgs false
set_option linter.unusedVariables false

abbrev tLR : Ty := ⟨.slice 24, 1, 24, [.nil], false⟩
abbrev tLLR : Ty := ⟨.slice 39, 1, 24, [.nil], false⟩
theorem renc_three (x : Rng) : x.enc.length = 3 := rfl
theorem renc_one (x : Rng) : x.enc.all AV.one = true := rfl
theorem rng_eql (a b : Rng) : eqlA tab 24 a.enc b.enc = some (decide (a = b)) := by
  obtain ⟨t, k, n⟩ := a
  obtain ⟨t', k', n'⟩ := b
  have h : ∀ x y : Bool, (x == y) = decide (x = y) := by decide
  have h' : ∀ x y : Int, (x == y) = decide (x = y) := fun _ _ => rfl
  simp [eqlA, tab, Rng.enc, fitCell, fitsA, eqCells, h, h']
theorem grown_trans {α : Type} {U : Upd α} {S0 S S' : List (List α)} {t t' : Bool} (h : GrownG U S0 S t) (h' : GrownG U S S' t') : GrownG U S0 S' (t || t') := by
  rcases h with ⟨rfl, rfl⟩ | ⟨rfl, h⟩
  · simpa using h'
  · rcases h' with ⟨rfl, rfl⟩ | ⟨rfl, h'⟩
    · exact .inr ⟨rfl, h⟩
    · exact .inr ⟨rfl, by omega⟩
/-- What a change of the grid answers. -/
def ToldG (S1 S2 : List (List Rng)) (us : List AV) (o : AV) (H : Hp) (r : AV) (K : Hp) : Prop := (∃ t, r = .bool t ∧ GrownG updR S1 S2 t) ∧ GOwn Rng.enc K o S2 us ∧ Keeps (fun b => ∃ u ∈ us, u.at b) H K
set_option maxHeartbeats 1000000 in
set_option maxRecDepth 100000 in
theorem l6Go_ok (n : Nat) (S1 : List (List Rng)) (us : List AV) (o : AV) (to : Int) (out : List Rng) (w : AV) (H : Hp) (h0 : 0 ≤ to) (hto : to ≤ (n : Int) - 1) (hout : FullR out) (hw1 : Wide n S1) (hG : GOwn Rng.enc H o S1 us) (hw : Row 3 H w (rngs out)) (hwn : ∀ b, w.at b → ¬ ∃ u ∈ us, u.at b) :
    T Try.prog 61 [o, .int .i64 to, w] H (ToldG S1 (comeG updR to.toNat out 0 S1) us o H) := by
  refine T.by tabOk Try.func61 (by kernel_rfl) rfl _ (by simp [Try.f61]) H _ ?_
  have hwl := hw.len 24
  have hwl : lenA (.slice 24) w = some (.int .i64 8) := by rw [hwl]; simp [hout.1.1]
  obtain ⟨X, hX⟩ : ∃ X : Nat → Prop, X = fun b => ∃ u ∈ us, u.at b := ⟨_, rfl⟩
  have hXl : ∀ b, X b → b < H.length := fun b hb => hG.lt b (.inr (by rw [hX] at hb; exact hb))
  have htof : to.toNat < n := by omega
  have htoc : (to.toNat : Int) = to := Int.toNat_of_nonneg h0
  simp [Try.f61, tab, hwl]
  refine W_loop _ fun I hI => ?_
  have key : ∀ (rd pd : List Rng) (ts : TS) (K6 : Hp) (S6 : List (List Rng)) (t6 : Bool), out = pd ++ rd → Wide n S6 → GrownG updR S1 S6 t6 → comeG updR to.toNat rd pd.length S6 = comeG updR to.toNat out 0 S1 → GOwn Rng.enc K6 o S6 us → Keeps X H K6 →
      (ts 0 = o ∧ ts 1 = .int .i64 to ∧ ts 2 = w ∧ ts 7 = .bool t6 ∧ ts 10 = w ∧ ts 11 = .int .i64 8 ∧ ts 12 = .int .i64 pd.length) → I ts K6 := by
    intro rd
    induction rd with
    | nil =>
      intro pd ts K6 S6 t6 e6' hw6 hgr6 hc6 hG6 hK6 hts
      apply hI
      simp at e6'
      have hl8 : pd.length = 8 := by rw [← e6']; exact hout.1.1
      simp only [comeG] at hc6
      simp [hts, tab, hl8]
      rw [hc6] at hgr6 hG6
      exact ⟨⟨t6, rfl, hgr6⟩, hG6, by rw [hX] at hK6; exact hK6⟩
    | cons x rd ih4 =>
      intro pd ts K6 S6 t6 e6' hw6 hgr6 hc6 hG6 hK6 hts
      apply hI
      have hpd : pd.length < 8 := by rw [← hout.1.1, e6']; simp
      have hpd' : (pd.length : Int) < 8 := by omega
      have hwpd := wrap64 (x := (pd.length : Int) + 1) (by omega) (by omega)
      have hx := hout.2 x (by rw [e6']; simp)
      have w6 := hw.keeps hK6 fun b hb hx => hwn b hb (by rw [hX] at hx; exact hx)
      obtain ⟨bx, qx, _, x1, x2, -⟩ := w6.get (tab := tab) (e := 24) (ety := tR) rfl (i := pd.length) (a := x) (by rw [e6']; simp) .i64
      have x2 := x2 rfl
      obtain ⟨b7, q7, ut, hut, i1, i2, i3, i4⟩ := hG6.get (e := 39) (ety := tLR) rfl rfl rfl (i := to.toNat) (by rw [hw6.1]; exact htof)
      rw [htoc] at i1
      have hrw := (hw6.row htof).1
      obtain ⟨c, hcc⟩ : ∃ c, c = cellG zeroR S6 to.toNat pd.length := ⟨_, rfl⟩
      obtain ⟨z, hz⟩ : ∃ z, z = widenR c (joinR c x) := ⟨_, rfl⟩
      obtain ⟨b8, q8, m1, m2, -⟩ := hG6.cell hut (j := pd.length) (by rw [hrw]; exact hpd) (e := 24) (ety := tR) rfl rfl renc_three renc_one z
      have m2 := m2 rfl zeroR
      rw [← hcc] at m2
      simp (maxDischargeDepth := 9) [hts, tab, hpd']
      refine W_cut (fun ts' K8 => (∃ p9, ts' 9 = .ptr p9 0 ∧ K8[p9]? = some (some ⟨3, true, [.bool z.em, .int .i64 z.lo, .int .i64 z.hi]⟩)) ∧ Fr K6 K8 ∧ (ts' 0 = o ∧ ts' 1 = .int .i64 to ∧ ts' 2 = w ∧ ts' 7 = .bool t6 ∧ ts' 10 = w ∧ ts' 11 = .int .i64 8 ∧ ts' 12 = .int .i64 pd.length ∧ ts' 8 = .int .i64 pd.length)) ?_ ?_
      · have put9 : ∀ (Kq K' : Hp), Fr (Kq ++ [some ⟨3, true, [.bool false, .int .i64 0, .int .i64 0]⟩]) K' → ∃ Kz, storeA tR K' (.ptr Kq.length 0) (.agg [.bool z.em, .int .i64 z.lo, .int .i64 z.hi]) = some Kz ∧ Kz[Kq.length]? = some (some ⟨3, true, [.bool z.em, .int .i64 z.lo, .int .i64 z.hi]⟩) ∧ Fr Kq Kz := by
          intro Kq K' hf
          obtain ⟨Kz, s1, s2, s3, s4⟩ := store_at (hf.2 Kq.length _ (by simp : _ = some (some (⟨3, true, [.bool false, .int .i64 0, .int .i64 0]⟩ : Blk))) id) rfl (ty := tR) (o := 0) (v := .agg [.bool z.em, .int .i64 z.lo, .int .i64 z.hi]) rfl rfl (by simp)
          simp [over] at s2
          exact ⟨Kz, s1, s2, Fr.then (Keeps.trans (Fr.app Kq _) hf) s3 fun b hb => by omega⟩
        refine W_draw mixed (.look 0 (.look 1 (.look 2 (.look 3 (.look 4 (.look 5 (.look 6 (.look 7 (.look 8 (.look 9 (.look 10 (.look 11 (.look 12 (.look 13 (.look 14 (.look 15 (.look 16 (.look 17 (.act 18 [2, 3, 5, 6] (.act 19 [] (.act 20 [] (.act 21 [] .done .stop) .stop) (.act 20 [2, 3, 5, 6] (.act 19 [] (.act 21 [] .done .stop) .stop) .stop)) (.act 20 [2, 3, 5, 6, 9, 10, 12, 13, 16, 17] (.act 18 [2, 3, 5, 6] (.act 19 [] (.act 21 [] .done .stop) .stop) .stop) .stop)))))))))))))))))))) (by kernel_rfl) ?_
        simp (maxDischargeDepth := 9) [hts, tab, i1, i2, m1, m2, x1, x2]
        refine ⟨?_, ?_⟩
        · refine (l6Join_ok c x K6).mono fun y K8 ⟨y1, f8⟩ => ?_
          subst y1
          simp (maxDischargeDepth := 9) [hts, tab, f8.index, f8.load, i1, i2, m1, m2, x1, x2]
          refine ⟨?_, ?_⟩
          · refine (l6Widen_ok c (joinR c x) K8).mono fun y K9 ⟨y1, f9⟩ => ?_
            subst y1
            rw [← hz]
            simp [hts, tab, Rng.enc, storeB, over]
            exact Fr.app' (f8.trans f9) _
          · refine (l6Widen_ok c (joinR c x) _).mono fun y K9 ⟨y1, f9⟩ => ?_
            subst y1
            rw [← hz]
            obtain ⟨Kz, s1, s2, s3⟩ := put9 K8 K9 f9
            simp [hts, tab, Rng.enc, s1]
            exact ⟨s2, f8.trans s3⟩
        · refine (l6Join_ok c x _).mono fun y K8 ⟨y1, f8⟩ => ?_
          subst y1
          have f8' : Fr K6 K8 := Keeps.trans (Fr.app K6 _) f8
          simp (maxDischargeDepth := 9) [hts, tab, f8'.index, f8'.load, i1, i2, m1, m2, x1, x2]
          refine (l6Widen_ok c (joinR c x) _).mono fun y K9 ⟨y1, f9⟩ => ?_
          subst y1
          rw [← hz]
          obtain ⟨Kz, s1, s2, s3⟩ := put9 K6 K9 (f8.trans f9)
          simp [hts, tab, Rng.enc, s1]
          exact ⟨s2, s3⟩
      rintro ts K8 ⟨⟨p9, t9, h9⟩, f8, hts⟩
      have hG8 := hG6.fr f8
      obtain ⟨b7', q7', ut', hut', i1', i2', _, _⟩ := hG8.get (e := 39) (ety := tLR) rfl rfl rfl (i := to.toNat) (by rw [hw6.1]; exact htof)
      rw [hut] at hut'
      cases hut'
      rw [htoc] at i1'
      obtain ⟨b8', q8', m1', m2', K9', m3', m4', m5', m6'⟩ := hG8.cell hut (j := pd.length) (by rw [hrw]; exact hpd) (e := 24) (ety := tR) rfl rfl renc_three renc_one z
      have m2' := m2' rfl zeroR
      rw [← hcc] at m2'
      have z0 : loadA tR K8 (.ptr p9 0) = some (.agg z.enc) := by simp [loadA, h9, Rng.enc]
      have heq := rng_eql z c
      obtain ⟨d, hd⟩ : ∃ d, d = decide (z = c) := ⟨_, rfl⟩
      rw [← hd] at heq
      have hup : updR.up (cellG updR.z S6 to.toNat pd.length) x = z := by rw [updR_up hx, hz, hcc]; rfl
      have hset : setG S6 to.toNat pd.length (updR.up (cellG updR.z S6 to.toNat pd.length) x) = setG S6 to.toNat pd.length z := by rw [hup]
      have hgr7 := grown_cell updR hw6 htof hpd x hgr6
      rw [hset, hup] at hgr7
      have hc7 : comeG updR to.toNat rd (pd.length + 1) (setG S6 to.toNat pd.length z) = comeG updR to.toNat out 0 S1 := by rw [← hc6, comeG, hset]
      have hw7 := hw6.set htof pd.length z
      have hgr8 : GrownG updR S1 (setG S6 to.toNat pd.length z) (t6 || !d) := by
        have : (!d) = decide (z ≠ cellG updR.z S6 to.toNat pd.length) := by rw [hd, decide_not, hcc]; rfl
        rw [this]
        exact hgr7
      simp only [post_sq, W_seq]
      refine W_cut (fun ts' K9 => K9 = K8 ∧ ts' 9 = .ptr p9 0 ∧ (ts' 0 = o ∧ ts' 1 = .int .i64 to ∧ ts' 2 = w ∧ ts' 7 = .bool (t6 || !d) ∧ ts' 10 = w ∧ ts' 11 = .int .i64 8 ∧ ts' 12 = .int .i64 pd.length ∧ ts' 8 = .int .i64 pd.length)) ?_ ?_
      · refine W_draw mixed (.look 0 (.look 1 (.look 2 (.look 3 (.look 4 (.look 5 (.look 6 (.look 7 (.look 8 (.look 9 (.look 10 (.look 11 (.act 12 [] .done .stop))))))))))))) (by kernel_rfl) ?_
        cases t6 with
        | true => simp (maxDischargeDepth := 9) [-eqlA, hts, t9, tab]
        | false => simp (maxDischargeDepth := 9) [-eqlA, hts, t9, tab, i1', i2', m1', m2', z0, heq]
      rintro ts K9 ⟨rfl, t9, hts⟩
      simp only [post_sq, W_seq]
      simp only [Rng.enc] at z0 m3'
      refine W_draw mixed (.look 0 (.look 1 (.look 2 (.look 3 (.look 4 (.look 5 (.look 6 (.act 7 [] .done .stop)))))))) (by kernel_rfl) ?_
      simp (maxDischargeDepth := 9) [hts, t9, tab, i1', i2', m1', z0, m3', hwpd]
      exact ih4 (pd ++ [x]) _ K9' _ _ (by simp [e6']) hw7 hgr8 (by simpa using hc7) m4' ((hK6.trans (Fr.keeps f8)).trans (m5'.mono fun b hb => by rw [hX]; exact ⟨ut, List.mem_of_getElem? hut, hb⟩)) (by simp [hts])
  exact key out [] _ H S1 false rfl hw1 (.inl ⟨rfl, rfl⟩) rfl hG (Keeps.refl _ _) (by simp)
def GridT (S0 S1 : List (List Rng)) (us : List AV) (o : AV) (pc : Nat) (K : Hp) : Prop := ∃ t, GrownG updR S0 S1 t ∧ GOwn Rng.enc K o S1 us ∧ K[pc]? = some (some ⟨1, true, [.bool t]⟩)
/-- What the program's closure does. -/
def ComeAt (S1 S2 : List (List Rng)) (us : List AV) (o : AV) (pc : Nat) (t0 : Bool) (H : Hp) (r : AV) (K : Hp) : Prop := ∃ t, K[pc]? = some (some ⟨1, true, [.bool (t0 || t)]⟩) ∧ GrownG updR S1 S2 t ∧ GOwn Rng.enc K o S2 us ∧ Keeps (fun b => (∃ u ∈ us, u.at b) ∨ b = pc) H K
set_option maxHeartbeats 1000000 in
set_option maxRecDepth 100000 in
theorem come_ok (n : Nat) (S1 : List (List Rng)) (us : List AV) (o : AV) (to : Int) (out : List Rng) (w : AV) (pa pc : Nat) (t0 : Bool) (H : Hp) (hto : to ≤ (n : Int) - 1) (hout : FullR out) (hw1 : Wide n S1) (hG : GOwn Rng.enc H o S1 us) (hw : Row 3 H w (rngs out)) (hwn : ∀ b, w.at b → ¬ ((∃ u ∈ us, u.at b) ∨ b = pc))
    (hpa : H[pa]? = some (some ⟨1, true, [o]⟩)) (hpc : H[pc]? = some (some ⟨1, true, [.bool t0]⟩)) (hac : pa ≠ pc) (hup : ∀ b, (o.at b ∨ ∃ u ∈ us, u.at b) → b ≠ pa ∧ b ≠ pc) :
    T Try.prog 101 [.int .i64 to, w, .ptr pa 0, .ptr pc 0] H (ComeAt S1 (if to < 0 then S1 else comeG updR to.toNat out 0 S1) us o pc t0 H) := by
  refine T.by tabOk Try.func101 (by kernel_rfl) rfl _ (by simp [Try.f101]) H _ ?_
  have hwl := hw.len 24
  have hwl : lenA (.slice 24) w = some (.int .i64 8) := by rw [hwl]; simp [hout.1.1]
  by_cases hneg : to < 0
  · simp [Try.f101, tab, hneg]
    exact ⟨false, by simpa using hpc, .inl ⟨rfl, rfl⟩, hG, Keeps.refl _ _⟩
  rw [if_neg hneg]
  obtain ⟨X, hX⟩ : ∃ X : Nat → Prop, X = fun b => (∃ u ∈ us, u.at b) ∨ b = pc := ⟨_, rfl⟩
  have hXl : ∀ b, X b → b < H.length := fun b hb => by
    rw [hX] at hb
    rcases hb with hb | rfl
    · exact hG.lt b (.inr hb)
    · exact lt_of_get hpc
  have hXa : ¬ X pa := fun h => by
    rw [hX] at h
    rcases h with h | h
    · exact (hup pa (.inr h)).1 rfl
    · exact hac h
  have htof : to.toNat < n := by omega
  have htoc : (to.toNat : Int) = to := Int.toNat_of_nonneg (by omega)
  simp [Try.f101, tab, hneg, hwl]
  refine W_loop _ fun I hI => ?_
  have key : ∀ (rd pd : List Rng) (ts : TS) (K6 : Hp) (S6 : List (List Rng)) (t6 : Bool), out = pd ++ rd → Wide n S6 → GrownG updR S1 S6 t6 → comeG updR to.toNat rd pd.length S6 = comeG updR to.toNat out 0 S1 → GOwn Rng.enc K6 o S6 us → K6[pc]? = some (some ⟨1, true, [.bool (t0 || t6)]⟩) → Keeps X H K6 →
      (ts 0 = .int .i64 to ∧ ts 2 = .ptr pa 0 ∧ ts 3 = .ptr pc 0 ∧ ts 11 = w ∧ ts 12 = .int .i64 8 ∧ ts 13 = .int .i64 pd.length) → I ts K6 := by
    intro rd
    induction rd with
    | nil =>
      intro pd ts K6 S6 t6 e6' hw6 hgr6 hc6 hG6 hpc6 hK6 hts
      apply hI
      simp at e6'
      have hl8 : pd.length = 8 := by rw [← e6']; exact hout.1.1
      simp only [comeG] at hc6
      simp [hts, tab, hl8]
      rw [hc6] at hgr6 hG6
      exact ⟨t6, hpc6, hgr6, hG6, by rw [hX] at hK6; exact hK6⟩
    | cons x rd ih4 =>
      intro pd ts K6 S6 t6 e6' hw6 hgr6 hc6 hG6 hpc6 hK6 hts
      apply hI
      have hpd : pd.length < 8 := by rw [← hout.1.1, e6']; simp
      have hpd' : (pd.length : Int) < 8 := by omega
      have hwpd := wrap64 (x := (pd.length : Int) + 1) (by omega) (by omega)
      have hx := hout.2 x (by rw [e6']; simp)
      have w6 := hw.keeps hK6 fun b hb hx => hwn b hb (by rw [hX] at hx; exact hx)
      have hpa6 := hK6.2 _ _ hpa hXa
      obtain ⟨bx, qx, _, x1, x2, -⟩ := w6.get (tab := tab) (e := 24) (ety := tR) rfl (i := pd.length) (a := x) (by rw [e6']; simp) .i64
      have x2 := x2 rfl
      simp only [Rng.enc] at x2
      obtain ⟨K7, hK7, f7⟩ : ∃ K7, K6 ++ [some ⟨3, true, [.bool x.em, .int .i64 x.lo, .int .i64 x.hi]⟩] = K7 ∧ Fr K6 K7 := ⟨_, rfl, Fr.app _ _⟩
      have hx7 : K7[K6.length]? = some (some ⟨3, true, x.enc⟩) := by rw [← hK7]; simp [Rng.enc]
      obtain ⟨c, hcc⟩ : ∃ c, c = cellG zeroR S6 to.toNat pd.length := ⟨_, rfl⟩
      obtain ⟨z, hz⟩ : ∃ z, z = widenR c (joinR c x) := ⟨_, rfl⟩
      have hrw := (hw6.row htof).1
      have cells : ∀ K', GOwn Rng.enc K' o S6 us → ∃ b7 q7 ut b8 q8, us[to.toNat]? = some ut ∧ indexAddrA tab (.slice 39) K' o (.int .i64 to) = some (.ptr b7 q7) ∧ loadA tLR K' (.ptr b7 q7) = some ut ∧ indexAddrA tab (.slice 24) K' ut (.int .i64 pd.length) = some (.ptr b8 q8) ∧ loadA tR K' (.ptr b8 q8) = some (.agg c.enc) ∧ ∃ K9, storeA tR K' (.ptr b8 q8) (.agg z.enc) = some K9 ∧ GOwn Rng.enc K9 o (setG S6 to.toNat pd.length z) us ∧ Keeps ut.at K' K9 := by
        intro K' hG'
        obtain ⟨b7, q7, ut, hut, i1, i2, i3, i4⟩ := hG'.get (e := 39) (ety := tLR) rfl rfl rfl (i := to.toNat) (by rw [hw6.1]; exact htof)
        rw [htoc] at i1
        obtain ⟨b8, q8, m1, m2, K9, m3, m4, m5, m6⟩ := hG'.cell hut (j := pd.length) (by rw [hrw]; exact hpd) (e := 24) (ety := tR) rfl rfl renc_three renc_one z
        have m2 := m2 rfl zeroR
        rw [← hcc] at m2
        exact ⟨b7, q7, ut, b8, q8, hut, i1, i2, m1, m2, K9, m3, m4, m5⟩
      obtain ⟨b7, q7, ut, b8, q8, hut, i1, i2, m1, m2, -⟩ := cells K7 (hG6.fr f7)
      have hpa7 := f7.2 _ _ hpa6 id
      have a7 : loadA tLLR K7 (.ptr pa 0) = some o := load_at hpa7 rfl rfl rfl
      simp only [Rng.enc] at m2
      obtain ⟨K8, hK8, f8⟩ : ∃ K8, K7 ++ [some ⟨3, true, [.bool c.em, .int .i64 c.lo, .int .i64 c.hi]⟩] = K8 ∧ Fr K7 K8 := ⟨_, rfl, Fr.app _ _⟩
      have hc8 : K8[K7.length]? = some (some ⟨3, true, c.enc⟩) := by rw [← hK8]; simp [Rng.enc]
      obtain ⟨b7', q7', ut', b8', q8', hut', i1', i2', m1', m2', -⟩ := cells K8 (hG6.fr (f7.trans f8))
      have hx8 := f8.2 _ _ hx7 id
      have lx : loadA tR K8 (.ptr K6.length 0) = some (.agg x.enc) := by simp [loadA, hx8, Rng.enc]
      have lc : loadA tR K8 (.ptr K7.length 0) = some (.agg c.enc) := by simp [loadA, hc8, Rng.enc]
      have hpa8 := f8.2 _ _ hpa7 id
      have a8 : loadA tLLR K8 (.ptr pa 0) = some o := load_at hpa8 rfl rfl rfl
      simp (maxDischargeDepth := 9) [hts, tab, hpd', x1, x2, storeB, over, hK7, a7, i1, i2, m1, m2, hK8]
      have hdec : ∃ d, d = decide (z = c) := ⟨_, rfl⟩
      obtain ⟨d, hd⟩ := hdec
      refine W_cut (fun ts' K9 => GOwn Rng.enc K9 o (setG S6 to.toNat pd.length z) us ∧ Keeps X K6 K9 ∧ K9[pc]? = some (some ⟨1, true, [.bool (t0 || t6)]⟩) ∧ K9[K7.length]? = some (some ⟨3, true, c.enc⟩) ∧ (ts' 0 = .int .i64 to ∧ ts' 2 = .ptr pa 0 ∧ ts' 3 = .ptr pc 0 ∧ ts' 11 = w ∧ ts' 12 = .int .i64 8 ∧ ts' 13 = .int .i64 pd.length ∧ ts' 6 = .int .i64 pd.length ∧ ts' 8 = .ptr K7.length 0)) ?_ ?_
      · refine W_draw mixed (.look 0 (.look 1 (.look 2 (.look 3 (.look 4 (.look 5 (.look 6 (.look 7 (.act 8 [0, 2, 3, 5] (.act 9 [0, 2, 3] (.look 10 (.act 11 [] .done .stop)) .stop) .stop))))))))) (by kernel_rfl) ?_
        simp (maxDischargeDepth := 9) [hts, tab, a8, i1', i2', lx, lc]
        refine (joinRanges_ok c x K8).mono fun y K9 ⟨y1, f9⟩ => ?_
        subst y1
        simp (maxDischargeDepth := 9) [hts, tab, f9.index, f9.load, a8, i1', i2', lx, lc]
        refine (widen_ok c (joinR c x) K9).mono fun y Ka ⟨y1, fa⟩ => ?_
        subst y1
        rw [← hz]
        have F : Fr K6 Ka := f7.trans (f8.trans (f9.trans fa))
        obtain ⟨p7, r7, ut2, p8, r8, hut2, j1, j2, j3, j4, Kb, j5, j6, j7⟩ := cells Ka (hG6.fr F)
        have utX : ∀ b, ut2.at b → X b := fun b hb => by rw [hX]; exact .inl ⟨ut2, List.mem_of_getElem? hut2, hb⟩
        have hpaa := (f9.trans fa).2 _ _ hpa8 id
        have aa : loadA tLLR Ka (.ptr pa 0) = some o := load_at hpaa rfl rfl rfl
        rw [hut'] at hut2
        cases hut2
        have j0 : indexAddrA tab (.slice 39) Ka o (.int .i64 to) = some (.ptr b7' q7') := (Fr.index (f9.trans fa) (by rw [i1']; rfl)).trans i1'
        rw [j0] at j1
        obtain ⟨rfl, rfl⟩ : b7' = p7 ∧ q7' = r7 := by simpa using j1
        clear j1
        have j1 := j0
        have hpcb := j7.2 _ _ (F.2 _ _ hpc6 id) fun h => (hup pc (.inr ⟨_, List.mem_of_getElem? hut', h⟩)).2 rfl
        have hccb := j7.2 _ _ ((f9.trans fa).2 _ _ hc8 id) fun h => by
          have h1 := hXl _ (utX _ h)
          have h2 := f7.1
          have h3 := hK6.1
          omega
        simp (maxDischargeDepth := 9) [hts, tab, aa, j1, j2, j3, j5]
        exact ⟨j6, (Fr.keeps F).trans (j7.mono utX), hpcb, hccb⟩
      rintro ts K9 ⟨hG9, hk9, hpc9, hc9, hts⟩
      have hpa9 := hk9.2 _ _ hpa6 hXa
      have a9 : loadA tLLR K9 (.ptr pa 0) = some o := load_at hpa9 rfl rfl rfl
      have c9 : loadA tB K9 (.ptr pc 0) = some (.bool (t0 || t6)) := load_at hpc9 rfl rfl rfl
      have l9 : loadA tR K9 (.ptr K7.length 0) = some (.agg c.enc) := by simp [loadA, hc9, Rng.enc]
      have hw7 := hw6.set htof pd.length z
      obtain ⟨g7, e7, ug, hug, n1, n2, n3, n4⟩ := hG9.get (e := 39) (ety := tLR) rfl rfl rfl (i := to.toNat) (by rw [hw7.1]; exact htof)
      rw [htoc] at n1
      obtain ⟨g8, e8, o1, o2, -⟩ := hG9.cell hug (j := pd.length) (by rw [(hw7.row htof).1]; exact hpd) (e := 24) (ety := tR) rfl rfl renc_three renc_one z
      have o2 := o2 rfl zeroR
      rw [setG_get hw6 zeroR htof hpd, if_pos ⟨rfl, rfl⟩] at o2
      have heq := rng_eql z c
      rw [← hd] at heq
      have hup' : updR.up (cellG updR.z S6 to.toNat pd.length) x = z := by rw [updR_up hx, hz, hcc]; rfl
      have hset : setG S6 to.toNat pd.length (updR.up (cellG updR.z S6 to.toNat pd.length) x) = setG S6 to.toNat pd.length z := by rw [hup']
      have hgr7 := grown_cell updR hw6 htof hpd x hgr6
      rw [hset, hup'] at hgr7
      have hc7 : comeG updR to.toNat rd (pd.length + 1) (setG S6 to.toNat pd.length z) = comeG updR to.toNat out 0 S1 := by rw [← hc6, comeG, hset]
      have hgr8 : GrownG updR S1 (setG S6 to.toNat pd.length z) (t6 || !d) := by
        have : (!d) = decide (z ≠ cellG updR.z S6 to.toNat pd.length) := by rw [hd, decide_not, hcc]; rfl
        rw [this]
        exact hgr7
      obtain ⟨Kc, s1, s2, s3, s4⟩ := store_at hpc9 rfl (ty := tB) (o := 0) (v := .bool (t0 || (t6 || !d))) rfl rfl (by simp)
      simp [over] at s2
      have pcX : ∀ b, b = pc → X b := fun b hb => by rw [hX]; exact .inr hb
      have fin : ∀ ts', (ts' 0 = .int .i64 to ∧ ts' 2 = .ptr pa 0 ∧ ts' 3 = .ptr pc 0 ∧ ts' 11 = w ∧ ts' 12 = .int .i64 8 ∧ ts' 13 = .int .i64 (pd.length + 1)) → I ts' Kc := fun ts' h => ih4 (pd ++ [x]) ts' Kc _ (t6 || !d) (by simp [e6']) hw7 hgr8 (by simpa using hc7) (hG9.keeps s3 fun b hb hx => (hup b hb).2 hx) (by rw [s2]) ((hK6.trans hk9).trans (s3.mono pcX)) (by simp [h])
      simp only [post_sq, W_seq]
      refine W_draw mixed (.look 0 (.look 1 (.look 2 (.look 3 (.look 4 (.look 5 (.look 6 (.look 7 (.look 8 (.look 9 (.look 10 (.look 11 (.act 12 [] .done .stop))))))))))))) (by kernel_rfl) ?_
      cases ht : (t0 || t6) with
      | true =>
        rw [ht] at c9
        have ht2 : (t0 || (t6 || !d)) = true := by rw [← Bool.or_assoc, ht]; rfl
        rw [ht2] at s1
        simp (maxDischargeDepth := 9) [-eqlA, hts, tab, c9, s1, hwpd]
        exact fin _ (by simp [hts])
      | false =>
        rw [ht] at c9
        have ht2 : (t0 || (t6 || !d)) = !d := by rw [← Bool.or_assoc, ht]; rfl
        rw [ht2] at s1
        simp (maxDischargeDepth := 9) [-eqlA, hts, tab, c9, a9, n1, n2, o1, o2, l9, heq, s1, hwpd]
        exact fin _ (by simp [hts])
  exact key out [] _ H S1 false rfl hw1 (.inl ⟨rfl, rfl⟩) rfl hG (by simpa using hpc) (Keeps.refl _ _) (by simp)
theorem emptyAsk_ok (H : Hp) : AsksRng 102 [] (fun x => x.em) H := by
  intro K m hK
  refine T.by tabOk Try.func102 (by kernel_rfl) rfl _ (by simp [Try.f102]) K _ ?_
  simp [Try.f102, tab, Rng.enc, loadB]
  exact Fr.app _ _
theorem comesG_two {α : Type} (U : Upd α) (l m : List (Int × List α)) (S : List (List α)) : comesG U (l ++ m) S = comesG U m (comesG U l S) := by
  induction l generalizing S with
  | nil => rfl
  | cons p l ih =>
    obtain ⟨to, out⟩ := p
    show comesG U (l ++ m) _ = comesG U m (comesG U l _)
    exact ih _
theorem full_zero {T : Rng} (hg : GoodR T) (he : T.em = false) : T = zeroR ↔ ¬ 0 < T.hi := by
  obtain ⟨em, lo, hi⟩ := T
  simp only at he
  subst he
  have : 0 ≤ lo ∧ lo ≤ hi := by
    rcases hg with h | h
    · cases h.1
    · exact ⟨h.2.1, h.2.2.1⟩
  constructor
  · intro h
    injection h with _ _ h3
    simp [h3]
  · intro h
    simp only at h
    have h1 : hi = 0 := by omega
    have h2 : lo = 0 := by omega
    rw [h1, h2]
set_option maxHeartbeats 1000000 in
set_option maxRecDepth 100000 in
theorem flowRound_ok (f : List Bk) (ws : List AV) (fv : AV) (S0 : List (List Rng)) (us : List AV) (o : AV) (H : Hp) (hg : GoodF f) (hv : FRow H fv f ws) (hw0 : Wide f.length S0) (hp0 : AllG RowR S0) (hG0 : GOwn Rng.enc H o S0 us) (hvx : ∀ b, (fv.at b ∨ ∃ u ∈ ws, u.at b) → ¬ ∃ u ∈ us, u.at b) :
    T Try.prog 67 [fv, o] H (ToldG S0 (roundG updR nxR f 0 S0) us o H) := by
  refine T.by tabOk Try.func67 (by kernel_rfl) rfl _ (by simp [Try.f67]) H _ ?_
  have hlen := hv.count 78
  have h8 := hg.1.2
  have ho1 := hG0.row.row.one
  have ho2 := hG0.row.row.self
  obtain ⟨pa, hpa⟩ : ∃ pa, pa = H.length := ⟨_, rfl⟩
  obtain ⟨pc, hpc⟩ : ∃ pc, pc = H.length + 1 := ⟨_, rfl⟩
  obtain ⟨Hz, hHz, fz⟩ : ∃ Hz, H ++ [some ⟨1, true, [o]⟩, some ⟨1, true, [.bool false]⟩] = Hz ∧ Fr H Hz := ⟨_, rfl, Fr.app _ _⟩
  have hpaz : Hz[pa]? = some (some ⟨1, true, [o]⟩) := by rw [← hHz, hpa]; simp
  have hpcz : Hz[pc]? = some (some ⟨1, true, [.bool false]⟩) := by rw [← hHz, hpc]; simp
  have hlz : Hz.length = H.length + 2 := by rw [← hHz]; simp
  obtain ⟨H1, sz1, hpc1, sz3, hl1⟩ := store_at hpcz rfl (ty := tB) (o := 0) (v := .bool false) rfl rfl (by simp)
  simp [over] at hpc1
  rw [hlz] at hl1
  have hpa1 := sz3.2 _ _ hpaz (by omega)
  have f1 : Fr H H1 := Fr.then fz sz3 fun b hb => by omega
  have hGlt := hG0.lt
  have hup : ∀ b, (o.at b ∨ ∃ u ∈ us, u.at b) → b ≠ pa ∧ b ≠ pc := fun b hb => by have := hGlt b hb; omega
  obtain ⟨X, hX⟩ : ∃ X : Nat → Prop, X = fun b => (∃ u ∈ us, u.at b) ∨ b = pc := ⟨_, rfl⟩
  have hXl : ∀ b, X b → b < H1.length := fun b hb => by
    rw [hX] at hb
    rcases hb with hb | rfl
    · have := hGlt b (.inr hb); omega
    · omega
  have hXa : ¬ X pa := fun h => by
    rw [hX] at h
    rcases h with h | h
    · exact (hup pa (.inr h)).1 rfl
    · omega
  have hvlt := hv.lt
  have hv1 := hv.fr f1
  have hvX : ∀ b, (fv.at b ∨ ∃ u ∈ ws, u.at b) → ¬ X b := fun b hb hx => by
    rw [hX] at hx
    rcases hx with hx | rfl
    · exact hvx b hb hx
    · have := hvlt _ hb; omega
  simp [Try.f67, tab, hlen, ho1, ho2, over, hHz]
  rw [← hpc, ← hpa]
  simp [sz1, tab, hlen]
  refine W_loop _ fun I hI => ?_
  have key : ∀ (r p : List Bk) (ts : TS) (K : Hp) (S : List (List Rng)) (t : Bool), f = p ++ r → Wide f.length S → AllG RowR S → GrownG updR S0 S t → roundG updR nxR r p.length S = roundG updR nxR f 0 S0 → GOwn Rng.enc K o S us → K[pc]? = some (some ⟨1, true, [.bool t]⟩) → Keeps X H1 K → (ts 3 = .ptr pa 0 ∧ ts 5 = .ptr pc 0 ∧ ts 6 = .fn 101 [.ptr pa 0, .ptr pc 0] ∧ ts 12 = fv ∧ ts 13 = .int .i64 f.length ∧ ts 14 = .int .i64 p.length) → I ts K := by
    intro r
    induction r with
    | nil =>
      intro p ts K S t e hw hp hgr hgo hG hkc hK hts
      apply hI
      simp at e
      subst e
      simp only [roundG] at hgo
      have c9 : loadA tB K (.ptr pc 0) = some (.bool t) := load_at hkc rfl rfl rfl
      simp [hts, tab, c9]
      rw [← hgo]
      refine ⟨⟨t, rfl, hgr⟩, hG, ?_⟩
      refine ⟨Nat.le_trans f1.1 hK.1, fun b blk hb hn => hK.2 b blk (f1.2 b blk hb id) fun hx => ?_⟩
      rw [hX] at hx
      rcases hx with hx | hx
      · exact hn hx
      · have := lt_of_get hb; omega
    | cons b r ih =>
      intro p ts K S t e hw hp hgr hgo hG hkc hK hts
      apply hI
      have hlt : (p.length : Int) < f.length := by simp [e]; omega
      have hpl : p.length < f.length := by omega
      have hbf : f[p.length]? = some b := by simp [e]
      have hgb := hg.2 b (by simp [e])
      have hvK := hv1.keeps hK hvX
      obtain ⟨b1, q, u, hu, e1, e2, e3⟩ := hvK.get (e := 78) rfl hbf
      have hu1 := e3.one
      have hu2 := cells_of_one hu1
      obtain ⟨K', hK', fB⟩ : ∃ K', K ++ [some ⟨4, true, [u, .int .i64 b.test, .int .i64 b.thn, .int .i64 b.els]⟩] = K' ∧ Fr K K' := ⟨_, rfl, Fr.app K _⟩
      have hb : K'[K.length]? = some (some ⟨4, true, [u, .int .i64 b.test, .int .i64 b.thn, .int .i64 b.els]⟩) := by rw [← hK']; simp
      have hKl := hK.1
      simp only [cellsB] at e2
      have hG' := hG.fr fB
      have hpaK := fB.2 _ _ (hK.2 _ _ hpa1 hXa) id
      have aK : loadA tLLR K' (.ptr pa 0) = some o := load_at hpaK rfl rfl rfl
      obtain ⟨b2, q2, uk, huk, i1, i2, i3, i4⟩ := hG'.get (e := 39) (ety := tLR) rfl rfl rfl (i := p.length) (by rw [hw.1]; exact hpl)
      have hrow := hw.row hpl
      have hRow := hp _ (List.mem_of_getElem? hrow.2)
      have hwp := wrap64 (x := (p.length : Int) + 1) (by omega) (by omega)
      simp (maxDischargeDepth := 9) [hts, tab, hlt, e1, e2, hu1, hu2, storeB, over, hK', aK, i1, i2]
      refine (containsRng_ok (rowG S p.length) uk _ [] _ K' (by rw [hrow.1]; decide) i3.row (emptyAsk_ok K')).mono fun y K1 ⟨⟨te, y1, y2⟩, f2⟩ => ?_
      subst y1
      rcases hRow.first with ⟨h0, hrep⟩ | ⟨h0, hGR⟩
      · obtain rfl : te = true := y2.2 ⟨emR, by rw [hrep]; simp, rfl⟩
        have hnx : nxR b (rowG S p.length) = [] := by unfold nxR; rw [if_pos h0]
        simp (maxDischargeDepth := 9) [hts, tab, hwp]
        refine ih (p ++ [b]) _ K1 S t (by simp [e]) hw hp hgr ?_ (hG'.fr f2) (f2.2 _ _ (fB.2 _ _ hkc id) id) (hK.trans ((Fr.keeps fB).trans (Fr.keeps f2))) (by simp [hts])
        rw [← hgo]
        simp [roundG, hnx, comesG]
      obtain rfl : te = false := by
        cases te with
        | false => rfl
        | true =>
          obtain ⟨m, hm1, hm2⟩ := y2.1 rfl
          rw [hGR.2 m hm1] at hm2
          cases hm2
      have hb1 := f2.2 _ _ hb id
      have q0 : loadA tLN K1 (.ptr K.length 0) = some u := load_at hb1 rfl rfl rfl
      have hpa2 := f2.2 _ _ hpaK id
      have aK1 : loadA tLLR K1 (.ptr pa 0) = some o := load_at hpa2 rfl rfl rfl
      obtain ⟨b2', q2', uk', huk', i1', i2', i3', i4'⟩ := (hG'.fr f2).get (e := 39) (ety := tLR) rfl rfl rfl (i := p.length) (by rw [hw.1]; exact hpl)
      simp (maxDischargeDepth := 9) [hts, tab]
      refine W_draw mixed (.look 0 (.look 1 (.look 2 (.look 3 (.look 4 (.look 5 (.act 6 [] (.act 7 [] .done .stop) .stop))))))) (by kernel_rfl) ?_
      simp (maxDischargeDepth := 9) [hts, tab, q0, aK1, i1', i2']
      refine (stepRanges_ok b.code (rowG S p.length) u uk' K1 hgb.1 hGR.1 (e3.fr (fB.trans f2)) i3'.row).mono fun w K2 ⟨w1, w2, w3⟩ => ?_
      have hfull := stepR_full b.code hgb.1.2 hGR
      have hfit := fitsR hg b (by simp [e]) _ hrow.1 hRow
      have hkeep := keepsR hg b (by simp [e]) S p.length hpl hw hp
      have hnx : nxR b (rowG S p.length) = (if 0 < (rg (stepR b.code (rowG S p.length)) b.test).hi then [(b.thn, stepR b.code (rowG S p.length))] else []) ++ (if (rg (stepR b.code (rowG S p.length)) b.test).lo = 0 then [(b.els, (stepR b.code (rowG S p.length)).set b.test.toNat zeroR)] else []) := by
        unfold nxR
        rw [if_neg (by simp [h0])]
      generalize stepR b.code (rowG S p.length) = out at *
      have htg := rg_full hfull hgb.2.1
      obtain ⟨T, hT⟩ : ∃ T, T = rg out b.test := ⟨_, rfl⟩
      rw [← hT] at hnx htg
      obtain ⟨bt, qt, y1, y2'⟩ := getR w1.row hfull.1.1 hgb.2.1
      rw [← hT] at y2'
      simp only [Rng.enc] at y2'
      have hb2 := w3.2 _ _ hb1 id
      have g1 : loadA tI K2 (.ptr K.length 1) = some (.int .i64 b.test) := load_at hb2 rfl rfl rfl
      obtain ⟨K3, hK3, f3⟩ : ∃ K3, K2 ++ [some ⟨3, true, [.bool T.em, .int .i64 T.lo, .int .i64 T.hi]⟩] = K3 ∧ Fr K2 K3 := ⟨_, rfl, Fr.app _ _⟩
      have ht3 : K3[K2.length]? = some (some ⟨3, true, T.enc⟩) := by rw [← hK3]; simp [Rng.enc]
      have lt3 : loadA tR K3 (.ptr K2.length 0) = some (.agg T.enc) := by simp [loadA, ht3, Rng.enc]
      have hb3 := f3.2 _ _ hb2 id
      have g2 : loadA tI K3 (.ptr K.length 2) = some (.int .i64 b.thn) := load_at hb3 rfl rfl rfl
      have heq := rng_eql T zeroR
      have heq : eqlA tab 24 T.enc [.bool false, .int .i64 0, .int .i64 0] = some (decide (T = zeroR)) := heq
      have l1 := fB.1
      have l2 := f2.1
      have l3 := w3.1
      have hwlt := w1.lt
      have hwX : ∀ c, w.at c → ¬ X c := fun c hc hx => by have := w2 c hc; have := hXl c hx; omega
      have hG3 := hG'.fr (f2.trans (w3.trans f3))
      have hk3 : Keeps X H1 K3 := hK.trans (Fr.keeps (fB.trans (f2.trans (w3.trans f3))))
      have hpc3 : K3[pc]? = some (some ⟨1, true, [.bool t]⟩) := (fB.trans (f2.trans (w3.trans f3))).2 _ _ hkc id
      have hbX : ¬ X K.length := fun hx => by have := hXl _ hx; omega
      have htX : ¬ X K2.length := fun hx => by have := hXl _ hx; have := lt_of_get hb2; omega
      have hwn : ∀ c, w.at c → ¬ ((∃ u ∈ us, u.at c) ∨ c = pc) := fun c hc hx => hwX c hc (by rw [hX]; exact hx)
      simp (maxDischargeDepth := 9) [-W_seq, hts, tab]
      rw [W_seq]
      simp (maxDischargeDepth := 9) [-W_seq, -eqlA, hts, tab, g1, y1, y2', storeB, over, hK3]
      rw [W_seq]
      refine W_cut (fun ts' Kx => GridT S0 (comesG updR (if 0 < T.hi then [(b.thn, out)] else []) S) us o pc Kx ∧ Keeps X K3 Kx ∧ (ts' 3 = .ptr pa 0 ∧ ts' 5 = .ptr pc 0 ∧ ts' 6 = .fn 101 [.ptr pa 0, .ptr pc 0] ∧ ts' 12 = fv ∧ ts' 13 = .int .i64 f.length ∧ ts' 14 = .int .i64 p.length ∧ ts' 8 = .ptr K.length 0 ∧ ts' 9 = w ∧ ts' 10 = .ptr K2.length 0)) ?_ ?_
      · by_cases hz : 0 < T.hi
        · have hne : ¬ T = zeroR := fun h => (full_zero htg.1 htg.2).1 h hz
          rw [decide_eq_false hne] at heq
          simp (maxDischargeDepth := 9) [-eqlA, hts, tab, lt3, fillA, over, heq, g2]
          refine (come_ok f.length S us o b.thn out w pa pc t K3 hgb.2.2.1.2 hfull hw hG3 (w1.row.fr f3) hwn (f3.2 _ _ (w3.2 _ _ hpa2 id) id) hpc3 (by omega) hup).mono fun y K4 ⟨t1, z1, z2, z3, z4⟩ => ?_
          have e5 : comesG updR [(b.thn, out)] S = if b.thn < 0 then S else comeG updR b.thn.toNat out 0 S := by
            simp only [comesG]
          simp only [hz, if_true]
          simp [hts, e5]
          exact ⟨⟨t || t1, grown_trans hgr z2, z3, by simpa using z1⟩, by rw [hX]; exact z4⟩
        · have heq0 : T = zeroR := (full_zero htg.1 htg.2).2 hz
          rw [decide_eq_true heq0] at heq
          simp (maxDischargeDepth := 9) [-eqlA, hts, tab, lt3, fillA, over, heq]
          simp only [hz, if_false, comesG]
          exact ⟨⟨t, hgr, hG3, hpc3⟩, Keeps.refl _ _⟩
      rintro ts K4 ⟨⟨t1, hgr1, hG4, hpc4⟩, hk4, hts⟩
      have hS1w : Wide f.length (comesG updR (if 0 < T.hi then [(b.thn, out)] else []) S) := comesG_wide updR _ S (fun q hq => hfit q (by rw [hnx]; exact List.mem_append.2 (.inl hq))) hw
      have hb4 := hk4.2 _ _ hb3 hbX
      have ht4 := hk4.2 _ _ ht3 htX
      have hw4 := (w1.fr f3).keeps hk4 hwX
      have k1 : loadA tI K4 (.ptr K.length 1) = some (.int .i64 b.test) := load_at hb4 rfl rfl rfl
      have klo : loadA tI K4 (.ptr K2.length 1) = some (.int .i64 T.lo) := load_at ht4 rfl rfl rfl
      have hnx2 : comesG updR (nxR b (rowG S p.length)) S = comesG updR (if T.lo = 0 then [(b.els, out.set b.test.toNat zeroR)] else []) (comesG updR (if 0 < T.hi then [(b.thn, out)] else []) S) := by rw [hnx, comesG_two]
      have hgo2 : roundG updR nxR r (p ++ [b]).length (comesG updR (nxR b (rowG S p.length)) S) = roundG updR nxR f 0 S0 := by rw [← hgo]; simp [roundG]
      have hwS := comesG_wide updR _ S hfit hw
      rw [hnx2] at hgo2 hwS hkeep
      generalize hS1 : comesG updR (if 0 < T.hi then [(b.thn, out)] else []) S = S1 at *
      have next : ∀ (ts' : TS) (K' : Hp) (t' : Bool), GrownG updR S0 (comesG updR (if T.lo = 0 then [(b.els, out.set b.test.toNat zeroR)] else []) S1) t' → GOwn Rng.enc K' o (comesG updR (if T.lo = 0 then [(b.els, out.set b.test.toNat zeroR)] else []) S1) us → K'[pc]? = some (some ⟨1, true, [.bool t']⟩) → Keeps X H1 K' → (ts' 3 = .ptr pa 0 ∧ ts' 5 = .ptr pc 0 ∧ ts' 6 = .fn 101 [.ptr pa 0, .ptr pc 0] ∧ ts' 12 = fv ∧ ts' 13 = .int .i64 f.length ∧ ts' 14 = .int .i64 (p.length + 1)) → I ts' K' := fun ts' K' t' a1 a2 a3 a4 a5 => ih (p ++ [b]) ts' K' _ t' (by simp [e]) hwS hkeep a1 hgo2 a2 a3 a4 (by simp [a5])
      by_cases hlo : T.lo = 0
      · rw [hlo] at klo
        simp only [hlo, if_true] at next
        obtain ⟨c, w2', K5, w3', w4', w5', w6'⟩ := hw4.putR hgb.2.1.1 (by have := hgb.2.1; have := hfull.1.1; unfold Nm at *; omega) zeroR
        simp only [Rng.enc] at w3'
        have hGw : GOwn Rng.enc K5 o S1 us := hG4.keeps w5' fun c hc hx => by have := w2 c hx; have := hGlt c hc; omega
        have hne5 : ∀ q, q < K1.length → ¬ w.at q := fun q hq hx => by have := w2 q hx; omega
        have hpc5 := w5'.2 _ _ hpc4 (hne5 pc (by omega))
        have hpa5 := w5'.2 _ _ (hk4.2 _ _ (f3.2 _ _ (w3.2 _ _ hpa2 id) id) hXa) (hne5 pa (by omega))
        have hb5 := w5'.2 _ _ hb4 (hne5 _ (lt_of_get hb1))
        have g3 : loadA tI K5 (.ptr K.length 3) = some (.int .i64 b.els) := load_at hb5 rfl rfl rfl
        simp (maxDischargeDepth := 9) [hts, tab, klo, k1, fillA, over, w2', w3', g3]
        refine (come_ok f.length S1 us o b.els (out.set b.test.toNat zeroR) w pa pc t1 K5 hgb.2.2.2.2 (hfull.set _ zeroR_good rfl) hS1w hGw w4'.row hwn hpa5 hpc5 (by omega) hup).mono fun y K6 ⟨t2, z1, z2, z3, z4⟩ => ?_
        have e5 : comesG updR [(b.els, out.set b.test.toNat zeroR)] S1 = if b.els < 0 then S1 else comeG updR b.els.toNat (out.set b.test.toNat zeroR) 0 S1 := by
          simp only [comesG]
        rw [← e5] at z2 z3
        simp [hts, tab, hwp]
        refine next _ K6 (t1 || t2) (grown_trans hgr1 z2) z3 (by simpa using z1) ?_ (by simp [hts])
        have h45 : Keeps X H1 K5 := ⟨Nat.le_trans (hk3.trans hk4).1 w5'.1, fun q blk hq hn => w5'.2 q blk ((hk3.trans hk4).2 q blk hq hn) fun hx => by have := w2 q hx; have := lt_of_get hq; omega⟩
        exact h45.trans (by rw [hX]; exact z4)
      · simp only [hlo, if_false, comesG] at next
        simp (maxDischargeDepth := 9) [hts, tab, klo, hlo, hwp]
        exact next _ K4 t1 hgr1 hG4 hpc4 (hk3.trans hk4) (by simp [hts])
  exact key f [] _ H1 S0 false rfl hw0 hp0 (.inl ⟨rfl, rfl⟩) rfl (hG0.fr f1) hpc1 (Keeps.refl _ _) (by simp)
end Go.Proofs.Ytfndikfaibbjoaa.Am
