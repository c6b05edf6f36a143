/- The law FnFacts. No condition. -/
import Derived.Test.YtdbnokeegocpbaaLFactTops
import Derived.Test.YtdbnokeegocpbaaLDrawFacts
import Derived.Test.YtdbnokeegocpbaaLRun
import Derived.Test.YtdbnokeegocpbaaLBytes
namespace Go.Proofs.Ytdbnokeegocpbaa.Am
open Go Go.RowKit
set_option linter.unusedSimpArgs false
set_option linter.unusedVariables false

/-- The words to begin with: what is known, or a byte, or seven. -/
def wordF (R : List Fct) (cs : List Int) (d : Int) (n : Nat) : Int := if (R.getD n topF).known = true then (R.getD n topF).n else if n < cs.length then cs.getD n 0 else d
def wordsF (R : List Fct) (cs : List Int) (d : Int) : List Int := (List.range 8).map fun n => wordF R cs d n
theorem wordsF_good {R : List Fct} {cs : List Int} {d : Int} (hR : GoodFs R) (hc : ∀ y ∈ cs, 0 ≤ y ∧ y ≤ 255) (hd : 0 ≤ d ∧ d ≤ 65535) : GoodV (wordsF R cs d) ∧ HoldsF R (wordsF R cs d) := by
  have hget : ∀ i : Int, Nm i → wd (wordsF R cs d) i = wordF R cs d i.toNat := fun i hi => by
    unfold Nm at hi
    unfold wd wordsF
    rw [List.getD_eq_getElem?_getD, List.getElem?_map, List.getElem?_range (by omega)]
    rfl
  refine ⟨⟨by simp [wordsF], fun x hx => ?_⟩, fun i hi => ?_⟩
  · obtain ⟨n, hn, rfl⟩ := List.mem_map.1 hx
    have hn8 : n < 8 := List.mem_range.1 hn
    have hf := fc_good hR (i := (n : Int)) (by unfold Nm; omega)
    have e : fc R (n : Int) = R.getD n topF := rfl
    rw [e] at hf
    unfold wordF
    split
    · exact hf.1.1
    · split
      · rename_i h
        have := hc (cs.getD n 0) (by rw [List.getD_eq_getElem?_getD, List.getElem?_eq_getElem h]; exact List.getElem_mem h)
        omega
      · exact hd
  · have hf := fc_good hR hi
    refine ⟨hf.2, fun hk => ?_⟩
    rw [hget i hi]
    have hk' : (R.getD i.toNat topF).known = true := hk
    unfold wordF
    rw [if_pos hk']
    rfl
set_option maxHeartbeats 1000000 in
set_option maxRecDepth 100000 in
theorem fnFacts_law (v w : AV) (bs cs : List Int) (H : Hp) (hv : Row 1 H v (bytesA bs)) (hb : ∀ y ∈ bs, 0 ≤ y ∧ y ≤ 255) (hbl : bs.length ≤ 140737488355328) (hw : Row 1 H w (bytesA cs)) (hc : ∀ y ∈ cs, 0 ≤ y ∧ y ≤ 255) (hcl : cs.length ≤ 140737488355328) : T Try.prog 9 [v, w] H (fun r K => r = .bool true) := by
  refine T.by tabOk Try.func9 (by kernel_rfl) rfl _ (by simp [Try.f9]) H _ ?_
  have hlv := hv.len 5
  have hlw := hw.len 5
  have hlv : lenA (.slice 5) v = some (.int .i64 bs.length) := by simpa [bytesA] using hlv
  have hlw : lenA (.slice 5) w = some (.int .i64 cs.length) := by simpa [bytesA] using hlw
  have hsum := wrap64 (x := (bs.length : Int) + cs.length) (by omega) (by omega)
  by_cases hbig : 1048576 < (bs.length : Int) + cs.length
  · simp [Try.f9, tab, hlv, hlw, hsum, hbig]
  simp [Try.f9, tab, hlv, hlw, hsum, hbig]
  refine (drawWay_ok v H ⟨bs, hv, hb, by omega⟩).mono fun r K0 ⟨⟨fv, rv, f, us, R, e1, hf, hfl, hfc, hR, hRl⟩, f0⟩ => ?_
  subst e1
  have hm : f.length ≤ 1048576 := by omega
  have hmm : ∀ t ∈ f, t.code.length ≤ 1048576 := fun t ht => by have := hfc t ht; omega
  have hmv : R.length ≤ 1048576 := by omega
  simp [tab]
  refine (implWay_ok f us fv R rv K0 hm hmm hmv hf.look hR.row).mono fun r K1 ⟨g1, e1, ⟨u1, a1⟩, f1⟩ => ?_
  subst e1
  simp [tab]
  refine (specWay_ok f us fv R rv K1 hm hmm hmv (hf.look.fr f1) (hR.row.fr f1)).mono fun r K2 ⟨g2, e1, ⟨u2, a2⟩, f2⟩ => ?_
  subst e1
  simp [tab]
  refine (implPlain_ok f us fv R rv K2 hm hmm hmv (hf.look.fr (f1.trans f2)) (hR.row.fr (f1.trans f2))).mono fun r K3 ⟨g3, e1, ⟨u3, a3⟩, f3⟩ => ?_
  subst e1
  simp [tab]
  refine (specPlain_ok f us fv R rv K3 hm hmm hmv (hf.look.fr (f1.trans (f2.trans f3))) (hR.row.fr (f1.trans (f2.trans f3)))).mono fun r K4 ⟨g4, e1, ⟨u4, a4⟩, f4⟩ => ?_
  subst e1
  have F4 : Fr K0 K4 := f1.trans (f2.trans (f3.trans f4))
  have hsmall : ∀ ways, (flowRes ways f R).1.length ≤ 1000 ∧ ∀ r ∈ (flowRes ways f R).1, r.length ≤ 1000 := fun ways => by
    unfold flowRes
    split
    · rename_i h
      have := (flowF_end h.1 ways h.2 (fun _ => True) trivial fun _ _ _ _ => trivial).1.wide
      exact ⟨by simp only; rw [this.1]; omega, fun r hr => by rw [this.2 r hr]; decide⟩
    · simp
  have b1 := a1.fr (f2.trans (f3.trans f4))
  have b3 := a3.fr f4
  simp [tab]
  refine (sameFacts_ok _ u1 u2 g1 g2 K4 (hsmall true).1 (hsmall true).2 b1 (a2.fr (f3.trans f4))).mono fun r K ⟨e1, e2⟩ => ?_
  subst e1 e2
  simp [tab]
  refine (sameFacts_ok _ u3 u4 g3 g4 K (hsmall false).1 (hsmall false).2 b3 a4).mono fun r K5 ⟨e1, e2⟩ => ?_
  subst e1 e2
  simp [tab]
  refine (implGoodFlow_ok f us fv K5 hm hmm (hf.look.fr F4)).mono fun r K6 ⟨⟨t, e1, e2⟩, f6⟩ => ?_
  subst e1
  simp [tab]
  refine (goodFlow_ok f us fv K6 hm hmm ((hf.look.fr F4).fr f6)).mono fun r K7 ⟨⟨t', e1, e3⟩, f7⟩ => ?_
  subst e1
  obtain rfl : t = t' := Bool.eq_iff_iff.2 (e2.trans e3.symm)
  by_cases hg : GoodF f ∧ GoodFs R
  case neg =>
    have hres : flowRes true f R = ([], false) := by unfold flowRes; rw [if_neg hg]
    simp [tab, hres]
  have hres : ∀ ways, flowRes ways f R = (flowF ways f R, true) := fun ways => by unfold flowRes; rw [if_pos hg]
  obtain ⟨hgf, hgR⟩ := hg
  have F7 : Fr K0 K7 := F4.trans (f6.trans f7)
  have c1 := b1.fr (f6.trans f7)
  have c3 := b3.fr (f6.trans f7)
  rw [hres] at c1 c3
  simp only at c1 c3
  obtain ⟨E1, -⟩ := flowF_end hgf true hgR (fun _ => True) trivial fun _ _ _ _ => trivial
  obtain ⟨E3, -⟩ := flowF_end hgf false hgR (fun _ => True) trivial fun _ _ _ _ => trivial
  have hbelow := facts_below hgf hgR
  have hcnt := c1.count 52
  rw [E1.wide.1] at hcnt
  have h8 := hgf.1.2
  have hfK := hf.look.fr F7
  have hRK := hR.row.fr F7
  have hwK := hw.fr (f0.trans F7)
  simp [-W_block, tab, hres, hcnt]
  refine W_cut (fun ts K => (ts 5 = fv ∧ ts 6 = rv ∧ ts 7 = g1 ∧ ts 1 = w) ∧ Fr K7 K) ?_ ?_
  · simp only [W_block]
    refine W_loop _ fun I hI => ?_
    have key : ∀ (d k : Nat) (ts : TS) (K : Hp), k + d = f.length → Fr K7 K → (ts 5 = fv ∧ ts 6 = rv ∧ ts 7 = g1 ∧ ts 1 = w ∧ ts 11 = g3 ∧ ts 92 = .int .i64 f.length ∧ ts 93 = .int .i64 k) → I ts K := by
      intro d
      induction d with
      | zero =>
        intro k ts K e hK hts
        apply hI
        obtain rfl : k = f.length := by omega
        simp [hts, tab]
        exact hK
      | succ d ih =>
        intro k ts K e hK hts
        apply hI
        have hlt : (k : Int) < f.length := by omega
        obtain ⟨b2, q2, uk, huk, i1, i2, i3, -⟩ := (c1.fr hK).get (e := 52) (ety := tLF) rfl rfl rfl (i := k) (by rw [E1.wide.1]; omega)
        have hrl := (E1.wide.row (i := k) (by omega)).1
        have hul := i3.row.len 62
        have hul : lenA (.slice 62) uk = some (.int .i64 8) := by rw [hul]; simp [hrl]
        have hwk := wrap64 (x := (k : Int) + 1) (by omega) (by omega)
        simp [hts, tab, hlt, i1, i2, hul]
        refine W_loop _ fun I2 hI2 => ?_
        have key2 : ∀ (d2 j : Nat) (ts : TS) (K2 : Hp), j + d2 = 8 → Fr K7 K2 → (ts 5 = fv ∧ ts 6 = rv ∧ ts 7 = g1 ∧ ts 1 = w ∧ ts 11 = g3 ∧ ts 92 = .int .i64 f.length ∧ ts 93 = .int .i64 k ∧ ts 15 = .int .i64 k ∧ ts 100 = .int .i64 8 ∧ ts 101 = .int .i64 j) → I2 ts K2 := by
          intro d2
          induction d2 with
          | zero =>
            intro j ts K2 e2 hK2 hts
            apply hI2
            obtain rfl : j = 8 := by omega
            simp [hts, tab, hwk]
            exact ih (k + 1) _ K2 (by omega) hK2 (by simp [hts])
          | succ d2 ih2 =>
            intro j ts K2 e2 hK2 hts
            apply hI2
            have hj : (j : Int) < 8 := by omega
            have hwj := wrap64 (x := (j : Int) + 1) (by omega) (by omega)
            have hN : Nm (j : Int) := by unfold Nm; omega
            obtain ⟨b4, q4, ul, hul4, l1, l2, l3, -⟩ := (c1.fr hK2).get (e := 52) (ety := tLF) rfl rfl rfl (i := k) (by rw [E1.wide.1]; omega)
            obtain ⟨b5, q5, um, hum, m1, m2, m3, -⟩ := (c3.fr hK2).get (e := 52) (ety := tLF) rfl rfl rfl (i := k) (by rw [E3.wide.1]; omega)
            obtain ⟨b6, q6, x1, x2⟩ := getF l3.row (E1.wide.row (i := k) (by omega)).1 hN
            obtain ⟨b7, q7, x3, x4⟩ := getF m3.row (E3.wide.row (i := k) (by omega)).1 hN
            have hbl : belowF (fc (rowG (flowF true f R) k) j) (fc (rowG (flowF false f R) k) j) := hbelow k j (by omega) (by omega)
            simp [hts, tab, hj]
            refine W_draw mixed (.look 0 (.look 1 (.look 2 (.look 3 (.look 4 (.look 5 (.look 6 (.look 7 (.look 8 (.look 9 (.look 10 (.look 11 (.look 12 (.look 13 (.act 14 [] (.look 15 .done) .stop))))))))))))))) (by kernel_rfl) ?_
            simp (maxDischargeDepth := 9) [hts, tab, l1, l2, m1, m2, x1, x2, x3, x4]
            refine (below_ok _ _ K2).mono fun y K3 ⟨y1, y2⟩ => ?_
            subst y1
            simp (maxDischargeDepth := 9) [hts, tab, hbl, y2.index, y2.load, l1, l2, m1, m2, x1, x2, x3, x4, hwj]
            exact ih2 (j + 1) _ K3 (by omega) (hK2.trans y2) (by simp [hts])
        exact key2 8 0 _ K rfl hK (by simp [hts])
    exact key f.length 0 _ K7 (by omega) (Fr.refl _) (by simp)
  rintro ts K8 ⟨hts, f8⟩
  simp only [post_sq, W_seq]
  obtain ⟨K9, mk1, mk2, mk3⟩ := make_ok (ety := tI) (K := K8) (n := 8) rfl (by decide) (by decide) (by decide)
  obtain ⟨u17, hu17⟩ : ∃ u, u = AV.sl K8.length 0 8 := ⟨_, rfl⟩
  have hfu : Fresh K8.length u17 := fun b hb => by rw [hu17] at hb; cases hb; exact Nat.le_refl _
  have mk1 : makeSliceA tI K8 (.int .i64 8) (.int .i64 8) = some (.sl K8.length 0 8, K9) := mk1
  rw [← hu17] at mk1 mk2
  obtain ⟨hgV, hgH⟩ := wordsF_good (cs := cs) (d := 7) hgR hc (by decide)
  have hl17 : lenA (.slice 3) u17 = some (.int .i64 8) := by rw [hu17]; rfl
  simp [-W_block, hts, tab, mk1, hl17]
  refine W_cut (fun ts K => (ts 5 = fv ∧ ts 7 = g1 ∧ ts 17 = u17) ∧ Own 1 K u17 (ints (wordsF R cs 7)) ∧ Fr K8 K) ?_ ?_
  · simp only [W_block]
    refine W_loop _ fun I hI => ?_
    have key : ∀ (d k : Nat) (ts : TS) (K : Hp), k + d = 8 → Own 1 K u17 (ints ((List.range 8).map fun n => if n < k then wordF R cs 7 n else 0)) → Fr K8 K → (ts 5 = fv ∧ ts 6 = rv ∧ ts 7 = g1 ∧ ts 1 = w ∧ ts 17 = u17 ∧ ts 124 = .int .i64 8 ∧ ts 125 = .int .i64 k) → I ts K := by
      intro d
      induction d with
      | zero =>
        intro k ts K e ho hK hts
        apply hI
        obtain rfl : k = 8 := by omega
        have e1 : ((List.range 8).map fun n => if n < 8 then wordF R cs 7 n else 0) = wordsF R cs 7 := by
          unfold wordsF
          refine List.map_congr_left fun n hn => ?_
          rw [if_pos (List.mem_range.1 hn)]
        rw [e1] at ho
        simp [hts, tab]
        exact ⟨ho, hK⟩
      | succ d ih =>
        intro k ts K e ho hK hts
        apply hI
        have hk : (k : Int) < 8 := by omega
        have hN : Nm (k : Int) := by unfold Nm; omega
        have hwk := wrap64 (x := (k : Int) + 1) (by omega) (by omega)
        obtain ⟨L, hL⟩ : ∃ L, L = (List.range 8).map fun n => if n < k then wordF R cs 7 n else 0 := ⟨_, rfl⟩
        have hL8 : L.length = 8 := by rw [hL]; simp
        have hLn : L.set k (wordF R cs 7 k) = (List.range 8).map fun n => if n < k + 1 then wordF R cs 7 n else 0 := by
          rw [hL]
          apply List.ext_getElem?
          intro i
          rw [List.getElem?_set, List.length_map, List.length_range]
          by_cases hik : k = i
          · subst hik
            rw [if_pos rfl, if_pos (by omega), List.getElem?_map, List.getElem?_range (by omega)]
            simp
          · rw [if_neg hik, List.getElem?_map, List.getElem?_map]
            by_cases hi8 : i < 8
            · rw [List.getElem?_range hi8]
              have : i < k ↔ i < k + 1 := by omega
              simp [this]
            · rw [List.getElem?_eq_none (by simp; omega)]
              rfl
        rw [← hL] at ho
        have hput : ∀ (K : Hp) (M : List Int), M.length = 8 → Own 1 K u17 (ints M) → ∀ x : Int, ∃ b, indexAddrA tab (.slice 3) K u17 (.int .i64 k) = some (.ptr b k) ∧ ∃ K', storeA tI K (.ptr b k) (.int .i64 x) = some K' ∧ Own 1 K' u17 (ints (M.set k x)) ∧ Keeps u17.at K K' := by
          intro K M hM h x
          obtain ⟨b, q1, K', q2, q3, q4, q5⟩ := h.putW (i := (k : Int)) (by omega) (by omega) x
          simp only [Int.toNat_natCast] at q1 q2 q3
          exact ⟨b, q1, K', q2, q3, q4⟩
        have fin : ∀ (y : Int) (K' : Hp) (ts' : TS), y = wordF R cs 7 k → Own 1 K' u17 (ints (L.set k y)) → Fr K8 K' → (ts' 5 = fv ∧ ts' 6 = rv ∧ ts' 7 = g1 ∧ ts' 1 = w ∧ ts' 17 = u17 ∧ ts' 124 = .int .i64 8 ∧ ts' 125 = .int .i64 (k + 1)) → I ts' K' := fun y K' ts' hy h1 h2 h3 => ih (k + 1) ts' K' (by omega) (by rw [← hLn, ← hy]; exact h1) h2 (by simp [h3])
        obtain ⟨p1, s1, Ka, s2, s3, s4⟩ := hput K L hL8 ho 7
        have hKa : Fr K8 Ka := Fr.then hK s4 hfu
        have hRa := (hRK.fr f8).fr hKa
        obtain ⟨p2, t1, -, t3, -, t4⟩ := hRa.get (tab := tab) (e := 62) (ety := tF) rfl (fc_get hRl hN) .i64
        simp only [Int.toNat_natCast] at t3
        have t5 := t4 tFB 1 rfl rfl (by decide)
        have t6 := t4 tI 2 rfl rfl (by decide)
        simp only [Fct.enc] at t5 t6
        have t5 : loadA tFB Ka (.ptr p2 (t1 + 1)) = some (.bool (fc R k).known) := t5
        have t6 : loadA tI Ka (.ptr p2 (t1 + 2)) = some (.int .i64 (fc R k).n) := t6
        have hwordk : wordF R cs 7 k = if (fc R k).known = true then (fc R k).n else if k < cs.length then cs.getD k 0 else 7 := rfl
        obtain ⟨p3, s1', Kn, s2', s3', s4'⟩ := hput Ka _ (by simpa using hL8) s3 (fc R k).n
        rw [List.set_set] at s3'
        have hKn : Fr K8 Kn := Fr.then hKa s4' hfu
        by_cases hkc : k < cs.length
        · have hkc' : (k : Int) < cs.length := by omega
          have hge : cs[k]? = some cs[k] := List.getElem?_eq_getElem hkc
          have hby := hc cs[k] (List.getElem_mem hkc)
          have hcd : cs.getD k 0 = cs[k] := by rw [List.getD_eq_getElem?_getD, hge]; rfl
          have hwb := wrap64 (x := cs[k]) (by omega) (by omega)
          obtain ⟨pb, qb, _, y1, y2⟩ := Row.get1 ((hwK.fr f8).fr hKa) (tab := tab) (e := 5) (ety := tU8) rfl rfl rfl hge .i64
          obtain ⟨p4, v1, Kb, v2, v3, v4⟩ := hput Ka _ (by simpa using hL8) s3 cs[k]
          rw [List.set_set] at v3
          have hKb : Fr K8 Kb := Fr.then hKa v4 hfu
          obtain ⟨p5, r1, -, r3, -, r4⟩ := ((hRK.fr f8).fr hKb).get (tab := tab) (e := 62) (ety := tF) rfl (fc_get hRl hN) .i64
          simp only [Int.toNat_natCast] at r3
          have r5 := r4 tFB 1 rfl rfl (by decide)
          have r6 := r4 tI 2 rfl rfl (by decide)
          simp only [Fct.enc] at r5 r6
          have r5 : loadA tFB Kb (.ptr p5 (r1 + 1)) = some (.bool (fc R k).known) := r5
          have r6 : loadA tI Kb (.ptr p5 (r1 + 2)) = some (.int .i64 (fc R k).n) := r6
          obtain ⟨p6, z1, Kz, z2, z3, z4⟩ := hput Kb _ (by simpa using hL8) v3 (fc R k).n
          rw [List.set_set] at z3
          simp (maxDischargeDepth := 9) [hts, tab, hk, s1, s2, hlw, hkc', y1, y2, hwb, v1, v2]
          cases hkn : (fc R k).known with
          | true =>
            rw [hkn] at r5
            simp (maxDischargeDepth := 9) [hts, tab, r3, r5, r6, z1, z2, hwk]
            exact fin _ Kz _ (by rw [hwordk, if_pos hkn]) z3 (Fr.then hKb z4 hfu) (by simp [hts])
          | false =>
            rw [hkn] at r5
            simp (maxDischargeDepth := 9) [hts, tab, r3, r5, hwk]
            exact fin _ Kb _ (by rw [hwordk, if_neg (by simp [hkn]), if_pos hkc, hcd]) v3 hKb (by simp [hts])
        · have hkc' : ¬ (k : Int) < cs.length := by omega
          simp (maxDischargeDepth := 9) [hts, tab, hk, s1, s2, hlw, hkc']
          cases hkn : (fc R k).known with
          | true =>
            rw [hkn] at t5
            simp (maxDischargeDepth := 9) [hts, tab, t3, t5, t6, s1', s2', hwk]
            exact fin _ Kn _ (by rw [hwordk, if_pos hkn]) s3' hKn (by simp [hts])
          | false =>
            rw [hkn] at t5
            simp (maxDischargeDepth := 9) [hts, tab, t3, t5, hwk]
            exact fin _ Ka _ (by rw [hwordk, if_neg (by simp [hkn]), if_neg hkc]) s3 hKa (by simp [hts])
    refine key 8 0 _ K9 rfl ?_ mk3 (by simp [hts])
    have : ints ((List.range 8).map fun n => if n < 0 then wordF R cs 7 n else 0) = List.replicate 8 tI.zero := rfl
    rw [this]
    exact mk2
  clear hts
  rintro ts Ka ⟨hts, ho17, fa⟩
  simp only [post_sq, W_seq]
  have Fa : Fr K7 Ka := f8.trans fa
  simp [-W_block, hts, tab]
  refine (implPath_ok f us fv (wordsF R cs 7) u17 40 Ka hm hmm (by rw [hgV.1]; decide) (hfK.fr Fa) ho17.row).mono fun r Kb ⟨pv, e1, p1, fb⟩ => ?_
  subst e1
  have hpath : pathRes f (wordsF R cs 7) 40 = ((runFl f 40 0 (wordsF R cs 7)).2.2.1, true) := by
    unfold pathRes
    rw [if_pos ⟨hgf, hgV, by decide, by decide⟩]
    rfl
  rw [hpath] at p1 ⊢
  simp only at p1 ⊢
  have hpl := p1.len 3
  have hfew := (runFl_few hgf 40 0 _ (by have := hgf.1.1; omega) hgV).2
  generalize hP : (runFl f 40 0 (wordsF R cs 7)).2.2.1 = P at *
  have Fb : Fr K7 Kb := Fa.trans fb
  simp [-W_block, hts, tab, hpl]
  refine W_cut (fun ts K => True) ?_ (fun ts K _ => by simp)
  simp only [W_block]
  refine W_loop _ fun I hI => ?_
  have key : ∀ (rest pre : List Int) (m : Nat) (i : Int) (V : List Int) (ts : TS) (K : Hp) (u : AV), P = pre ++ rest → rest = (runFl f m i V).2.2.1 → GoodV V → i ≤ (f.length : Int) - 1 → (0 ≤ i → HoldsF (rowG (flowF true f R) i.toNat) V) → Row 1 K u (ints V) → Fr Kb K → (ts 5 = fv ∧ ts 7 = g1 ∧ ts 17 = u ∧ ts 165 = pv ∧ ts 166 = .int .i64 P.length ∧ ts 167 = .int .i64 pre.length) → I ts K := by
    intro rest
    induction rest with
    | nil =>
      intro pre m i V ts K u e hr hV hi hh hu hK hts
      apply hI
      simp at e
      subst e
      simp [hts, tab]
    | cons k rest ih =>
      intro pre m i V ts K u e hr hV hi hh hu hK hts
      apply hI
      have hneg : ¬ i < 0 := fun h => by rw [runFl_neg f m h] at hr; cases hr
      match m, hr with
      | 0, hr => rw [runFl_none f hneg] at hr; cases hr
      | m + 1, hr =>
      rw [runFl_more f m hneg] at hr
      simp only at hr
      obtain ⟨rfl, hr⟩ : k = i ∧ _ := by injection hr with h1 h2; exact ⟨h1, h2⟩
      have hni : 0 ≤ k := by omega
      have hh := hh hni
      obtain ⟨bg1, bg2⟩ := blk_get (f := f) hni hi
      have hgb := hgf.2 _ bg2
      have hgo := E1.goes hgf bg1 hV.1 hh
      have hrc := runC_good (blkAt f k).code hgb.1.2 hV
      have hfit := goOn_fit hgf bg2 (runC (blkAt f k).code V).2
      generalize hbk : blkAt f k = b at *
      have hkl : k.toNat < f.length := by omega
      have hkc : (k.toNat : Int) = k := Int.toNat_of_nonneg hni
      have hlt : (pre.length : Int) < P.length := by rw [e]; simp; omega
      have hwpre := wrap64 (x := (pre.length : Int) + 1) (by have := hfew.1; omega) (by have := hfew.1; omega)
      obtain ⟨b1, q1, _, x1, x2⟩ := Row.get1 (p1.fr hK) (tab := tab) (e := 3) (ety := tI) rfl rfl rfl (i := pre.length) (a := k) (by rw [e]; simp) .i64
      obtain ⟨b2, q2, uk, huk, i1, i2, i3, -⟩ := (c1.fr (Fb.trans hK)).get (e := 52) (ety := tLF) rfl rfl rfl (i := k.toNat) (by rw [E1.wide.1]; exact hkl)
      rw [hkc] at i1
      have hrl := (E1.wide.row hkl).1
      have hul := i3.row.len 62
      have hul : lenA (.slice 62) uk = some (.int .i64 8) := by rw [hul]; simp [hrl]
      simp [hts, tab, hlt, x1, x2, i1, i2, hul]
      refine W_loop _ fun I2 hI2 => ?_
      have key2 : ∀ (d2 j : Nat) (ts : TS) (K2 : Hp), j + d2 = 8 → Fr K K2 → (ts 5 = fv ∧ ts 7 = g1 ∧ ts 17 = u ∧ ts 165 = pv ∧ ts 166 = .int .i64 P.length ∧ ts 167 = .int .i64 pre.length ∧ ts 22 = .int .i64 k ∧ ts 174 = uk ∧ ts 175 = .int .i64 8 ∧ ts 176 = .int .i64 j) → I2 ts K2 := by
        intro d2
        induction d2 with
        | zero =>
          intro j ts K2 e2 hK2 hts
          apply hI2
          obtain rfl : j = 8 := by omega
          obtain ⟨bf, qf, uf, huf, f1, f2, f3⟩ := (hfK.fr (Fb.trans (hK.trans hK2))).get (e := 67) rfl bg1
          rw [hkc] at f1
          have hzf : (List.zipWith cellsB f us)[k.toNat]? = some (cellsB b uf) := by rw [List.getElem?_zipWith, huf, bg1]
          have hrowf : Row 4 K2 fv ((List.zipWith cellsB f us).map id) := by simpa using (hfK.fr (Fb.trans (hK.trans hK2))).row
          obtain ⟨b9, o9, _, g1', _, g2'⟩ := Row.get (enc := id) (ety := tK) hrowf (show tab 67 = some tK from rfl) hzf .i64
          rw [hkc, f1] at g1'
          obtain ⟨rfl, rfl⟩ : bf = b9 ∧ qf = o9 := by simpa using g1'
          have q0 : loadA tLN K2 (.ptr bf qf) = some uf := by simpa [cellsB] using g2' tLN 0 rfl rfl (by decide)
          simp [hts, tab, f1, q0]
          refine (runCode_ok b.code V uf u K2 hgb.1 hV f3 (hu.fr hK2)).mono fun r K3 ⟨o', u', y1, y2, y3, y4, y5, y6⟩ => ?_
          subst y1
          simp [hts, tab, hwpre]
          exact ih (pre ++ [k]) m _ _ _ K3 u' (by simp [e]) hr hrc.1 hfit.2 hgo y3.row (hK.trans (hK2.trans y6)) (by simp [hts])
        | succ d2 ih2 =>
          intro j ts K2 e2 hK2 hts
          apply hI2
          have hj : (j : Int) < 8 := by omega
          have hwj := wrap64 (x := (j : Int) + 1) (by omega) (by omega)
          have hN : Nm (j : Int) := by unfold Nm; omega
          obtain ⟨b6, q6, y1, y2⟩ := getF (i3.row.fr hK2) hrl hN
          obtain ⟨ht1, ht2⟩ := hh j hN
          generalize hT : fc (rowG (flowF true f R) k.toNat) j = T at *
          simp only [Fct.enc] at y2
          rw [ht1] at y2
          obtain ⟨K3, hK3, f3⟩ : ∃ K3, K2 ++ [some ⟨3, true, [.bool false, .bool T.known, .int .i64 T.n]⟩] = K3 ∧ Fr K2 K3 := ⟨_, rfl, Fr.app _ _⟩
          have hb3 : K3[K2.length]? = some (some ⟨3, true, [.bool false, .bool T.known, .int .i64 T.n]⟩) := by rw [← hK3]; simp
          have l0 : loadA tFB K3 (.ptr K2.length 0) = some (.bool false) := load_at hb3 rfl rfl rfl
          have l1 : loadA tFB K3 (.ptr K2.length 1) = some (.bool T.known) := load_at hb3 rfl rfl rfl
          have l2 : loadA tI K3 (.ptr K2.length 2) = some (.int .i64 T.n) := load_at hb3 rfl rfl rfl
          obtain ⟨b7, q7, z1, z2⟩ := getW (hu.fr (hK2.trans f3)) hV.1 hN
          simp [hts, tab, hj, y1, y2, storeB, over, hK3]
          refine W_draw mixed (.look 0 (.look 1 (.look 2 (.look 3 (.look 4 (.look 5 (.look 6 (.look 7 (.look 8 (.look 9 (.look 10 (.look 11 (.look 12 (.look 13 (.look 14 .done))))))))))))))) (by kernel_rfl) ?_
          cases hkn : T.known with
          | false =>
            rw [hkn] at l1
            simp [hts, tab, l0, l1, hwj]
            exact ih2 (j + 1) _ K3 (by omega) (hK2.trans f3) (by simp [hts])
          | true =>
            rw [hkn] at l1
            have hwd := ht2 hkn
            rw [hwd] at z2
            simp [hts, tab, l0, l1, l2, z1, z2, hwj]
            exact ih2 (j + 1) _ K3 (by omega) (hK2.trans f3) (by simp [hts])
      exact key2 8 0 _ K rfl (Fr.refl _) (by simp [hts])
  exact key P [] 40 0 (wordsF R cs 7) _ Kb u17 rfl hP.symm hgV (by have := hgf.1.1; omega) (fun _ => E1.first _ hgH) (ho17.row.fr fb) (Fr.refl _) (by simp [hts])
theorem law_in (H : Hp) (x0 x1 : AV) (h0 : SSl 1 1 (SInt .u8) H [x0]) (h1 : SSl 1 1 (SInt .u8) H [x1]) : T Try.prog 9 [x0, x1] H (fun r K => r = .bool true) := by
  obtain ⟨bs, a1, a2, a3⟩ := bytes_open H x0 h0
  obtain ⟨cs, b1, b2, b3⟩ := bytes_open H x1 h1
  exact fnFacts_law x0 x1 bs cs H a1 a2 a3 b1 b2 b3
end Go.Proofs.Ytdbnokeegocpbaa.Am
