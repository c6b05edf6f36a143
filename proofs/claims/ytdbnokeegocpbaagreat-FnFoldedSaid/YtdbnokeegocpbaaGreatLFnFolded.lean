/- The law FnFolded. No condition. -/
import Derived.Test.YtdbnokeegocpbaaGreatLFoldedMath
import Derived.Test.YtdbnokeegocpbaaGreatLFold
import Derived.Test.YtdbnokeegocpbaaGreatLLostSpec
import Derived.Test.YtdbnokeegocpbaaGreatLLostImpl
import Derived.Test.YtdbnokeegocpbaaGreatLSameFlows
import Derived.Test.YtdbnokeegocpbaaGreatLBackDraw
import Derived.Test.YtdbnokeegocpbaaGreatLBackTop
import Derived.Test.YtdbnokeegocpbaaGreatLBytes
namespace Go.Proofs.YtdbnokeegocpbaaGreat.Am
open Go Go.RowKit
set_option linter.unusedSimpArgs false
set_option linter.unusedVariables false

/-- The words to begin with: what is known, or a byte, or a default. -/
def wordF (R : List Fct) (cs : List Int) (d : Int) (n : Nat) : Int := if (R.getD n topF).known = true then (R.getD n topF).n else if n < cs.length then cs.getD n 0 else d
def wordsF (R : List Fct) (cs : List Int) (d : Int) : List Int := (List.range 8).map fun n => wordF R cs d n
theorem wordsF_good {R : List Fct} {cs : List Int} {d : Int} (hR : GoodFs R) (hc : ∀ y ∈ cs, 0 ≤ y ∧ y ≤ 255) (hd : 0 ≤ d ∧ d ≤ 65535) : GoodV (wordsF R cs d) ∧ HoldsF R (wordsF R cs d) := by
  have hget : ∀ i : Int, Nm i → wd (wordsF R cs d) i = wordF R cs d i.toNat := fun i hi => by
    unfold Nm at hi
    unfold wd wordsF
    rw [List.getD_eq_getElem?_getD, List.getElem?_map, List.getElem?_range (by omega)]
    rfl
  refine ⟨⟨by simp [wordsF], fun x hx => ?_⟩, fun i hi => ?_⟩
  · obtain ⟨n, hn, rfl⟩ := List.mem_map.1 hx
    have hn8 : n < 8 := List.mem_range.1 hn
    have hf := fc_good hR (i := (n : Int)) (by unfold Nm; omega)
    have e : fc R (n : Int) = R.getD n topF := rfl
    rw [e] at hf
    unfold wordF
    split
    · exact hf.1.1
    · split
      · rename_i h
        have := hc (cs.getD n 0) (by rw [List.getD_eq_getElem?_getD, List.getElem?_eq_getElem h]; exact List.getElem_mem h)
        omega
      · exact hd
  · have hf := fc_good hR hi
    refine ⟨hf.2, fun hk => ?_⟩
    rw [hget i hi]
    have hk' : (R.getD i.toNat topF).known = true := hk
    unfold wordF
    rw [if_pos hk']
    rfl
theorem runRes_few (f : List Bk) (V : List Int) (fuel : Int) : (runRes f V fuel).1.length ≤ 1048576 ∧ (runRes f V fuel).2.1.length ≤ 1048576 ∧ (pathRes f V fuel).1.length ≤ 1048576 := by
  have key : GoodF f ∧ GoodV V ∧ 0 ≤ fuel ∧ fuel ≤ 300 → (runFl f fuel.toNat 0 V).1.length ≤ 1048576 ∧ (runFl f fuel.toNat 0 V).2.1.length ≤ 1048576 ∧ (runFl f fuel.toNat 0 V).2.2.1.length ≤ 1048576 := fun ⟨h1, h2, h3, h4⟩ => by
    obtain ⟨a, b, c, -⟩ := runFl_few h1 fuel.toNat 0 V (by have := h1.1.1; omega) h2
    have := c.1
    omega
  refine ⟨?_, ?_, ?_⟩
  · unfold runRes
    split
    · rename_i h; exact (key h.1).1
    · simp
  · unfold runRes
    split
    · rename_i h; exact (key h.1).2.1
    · simp
  · unfold pathRes
    split
    · rename_i h; exact (key h).2.2
    · simp
set_option maxHeartbeats 1000000 in
set_option maxRecDepth 100000 in
theorem fnFolded_law (v w : AV) (bs cs : List Int) (H : Hp) (hv : Row 1 H v (bytesA bs)) (hb : ∀ y ∈ bs, 0 ≤ y ∧ y ≤ 255) (hbl : bs.length ≤ 140737488355328) (hw : Row 1 H w (bytesA cs)) (hc : ∀ y ∈ cs, 0 ≤ y ∧ y ≤ 255) (hcl : cs.length ≤ 140737488355328) : T Tryz.prog 3 [v, w] H (fun r K => r = .bool true) := by
  refine T.by tabOk Tryz.func3 (by kernel_rfl) rfl _ (by simp [Tryz.f3]) H _ ?_
  have hlv := hv.len 5
  have hlw := hw.len 5
  have hlv : lenA (.slice 5) v = some (.int .i64 bs.length) := by simpa [bytesA] using hlv
  have hlw : lenA (.slice 5) w = some (.int .i64 cs.length) := by simpa [bytesA] using hlw
  have hsum := wrap64 (x := (bs.length : Int) + cs.length) (by omega) (by omega)
  by_cases hbig : 1048576 < (bs.length : Int) + cs.length
  · simp [Tryz.f3, tab, hlv, hlw, hsum, hbig]
  simp [Tryz.f3, tab, hlv, hlw, hsum, hbig]
  refine (drawFold_ok v H ⟨bs, hv, hb, by omega⟩).mono fun r K0 ⟨⟨fv, rv, f, us, R, e1, hf, hfl, hfc, hR, hRl⟩, f0⟩ => ?_
  subst e1
  have hm : f.length ≤ 1048576 := by omega
  have hmm : ∀ t ∈ f, t.code.length ≤ 1048576 := fun t ht => by have := hfc t ht; omega
  have hmv : R.length ≤ 1048576 := by omega
  have hfL := hf.look
  simp [tab]
  refine (implFold_ok f us fv R rv K0 hm hmm hmv hfL hR.row).mono fun r K1 ⟨g0, e1, ⟨ug, a1, _⟩, _, f1⟩ => ?_
  subst e1
  simp [tab]
  refine (specFold_ok f us fv R rv K1 hm hmm hmv (hfL.fr f1) (hR.fr f1).row).mono fun r K2 ⟨w0, e1, ⟨uw, a2⟩, f2⟩ => ?_
  subst e1
  simp [tab]
  refine (implLost_ok f us fv K2 hm hmm (hfL.fr (f1.trans f2))).mono fun r K3 ⟨l0, n0, ul, e1, a3, a4, _, _, f3⟩ => ?_
  subst e1
  simp [tab]
  refine (specLost_ok f us fv K3 hm hmm (hfL.fr (f1.trans (f2.trans f3)))).mono fun r K4 ⟨l1, n1, e1, ⟨ul1, a5⟩, a6, f4⟩ => ?_
  subst e1
  obtain ⟨q1, q2⟩ := foldRes_few f R
  obtain ⟨q3, q4, q5⟩ := lostRes_few f
  have dl1 : ∀ t ∈ (foldRes f R).1, t.code.length ≤ 1048576 := fun t ht => by have := q2 t ht; omega
  have dl2 : ∀ t ∈ (lostRes f).1, t.code.length ≤ 1048576 := fun t ht => by have := q4 t ht; omega
  have b1 := a1.fr (f2.trans (f3.trans f4))
  have b3 := a3.fr f4
  simp [tab]
  refine (sameFlows_ok _ ug uw g0 w0 K4 (by omega) dl1 b1.look (a2.fr (f3.trans f4))).mono fun r K ⟨e1, e2⟩ => ?_
  subst e1 e2
  simp [tab]
  refine (sameFlows_ok _ ul ul1 l0 l1 K (by omega) dl2 b3.look a5).mono fun r K' ⟨e1, e2⟩ => ?_
  subst e1 e2
  simp [tab]
  refine (sameInts_ok _ n0 n1 K' (by omega) (a4.fr f4).row a6).mono fun r K ⟨e1, e2⟩ => ?_
  subst e1 e2
  have F2 : Fr K0 K := f1.trans (f2.trans (f3.trans f4))
  simp [-W_seq, tab]
  rw [W_seq]
  refine W_cut (fun ts K' => (ts 1 = w) ∧ Fr K K') ?_ ?_
  · by_cases hg : GoodF f ∧ GoodFs R
    case neg =>
      have hres : foldRes f R = ([], false) := by unfold foldRes; rw [if_neg hg]
      simp [hres, tab]
      exact Fr.refl _
    have hres : foldRes f R = (foldAll f R, true) := by unfold foldRes; rw [if_pos hg]
    have hresF : (foldRes f R).2 = true := by rw [hres]
    have hresL : (lostRes f).1 = lostAll f := by unfold lostRes; rw [if_pos hg.1]
    obtain ⟨hgf, hgR⟩ := hg
    rw [hres] at b1 dl1 q1
    simp only at b1 dl1 q1
    rw [hresL] at b3 dl2 q3
    obtain ⟨E1, -⟩ := flowF_end hgf true hgR (fun _ => True) trivial fun _ _ _ _ => trivial
    have hwK := hw.fr (f0.trans F2)
    have hRK := hR.row.fr F2
    obtain ⟨K9, mk1, mk2, mk3⟩ := make_ok (ety := tI) (K := K) (n := 8) rfl (by decide) (by decide) (by decide)
    obtain ⟨u17, hu17⟩ : ∃ u, u = AV.sl K.length 0 8 := ⟨_, rfl⟩
    have hfu : Fresh K.length u17 := fun b hb => by rw [hu17] at hb; cases hb; exact Nat.le_refl _
    have mk1 : makeSliceA tI K (.int .i64 8) (.int .i64 8) = some (.sl K.length 0 8, K9) := mk1
    rw [← hu17] at mk1 mk2
    obtain ⟨hgV, hgH⟩ := wordsF_good (cs := cs) (d := 0) hgR hc (by decide)
    have hl17 : lenA (.slice 3) u17 = some (.int .i64 8) := by rw [hu17]; rfl
    simp [-W_block, hresF, tab, mk1, hl17]
    refine W_cut (fun ts K' => (ts 5 = fv ∧ ts 7 = g0 ∧ ts 17 = u17 ∧ ts 11 = l0 ∧ ts 1 = w) ∧ Own 1 K' u17 (ints (wordsF R cs 0)) ∧ Fr K K') ?_ ?_
    · simp only [W_block]
      refine W_loop _ fun I hI => ?_
      have key : ∀ (d k : Nat) (ts : TS) (K' : Hp), k + d = 8 → Own 1 K' u17 (ints ((List.range 8).map fun n => if n < k then wordF R cs 0 n else 0)) → Fr K K' → (ts 5 = fv ∧ ts 6 = rv ∧ ts 7 = g0 ∧ ts 1 = w ∧ ts 17 = u17 ∧ ts 11 = l0 ∧ ts 101 = .int .i64 8 ∧ ts 102 = .int .i64 k) → I ts K' := by
        intro d
        induction d with
        | zero =>
          intro k ts K' e ho hK hts
          apply hI
          obtain rfl : k = 8 := by omega
          have e1 : ((List.range 8).map fun n => if n < 8 then wordF R cs 0 n else 0) = wordsF R cs 0 := by
            unfold wordsF
            refine List.map_congr_left fun n hn => ?_
            rw [if_pos (List.mem_range.1 hn)]
          rw [e1] at ho
          simp [hts, tab]
          exact ⟨ho, hK⟩
        | succ d ih =>
          intro k ts K' e ho hK hts
          apply hI
          have hk : (k : Int) < 8 := by omega
          have hN : Nm (k : Int) := by unfold Nm; omega
          have hwk := wrap64 (x := (k : Int) + 1) (by omega) (by omega)
          obtain ⟨L, hL⟩ : ∃ L, L = (List.range 8).map fun n => if n < k then wordF R cs 0 n else 0 := ⟨_, rfl⟩
          have hL8 : L.length = 8 := by rw [hL]; simp
          have hLn : L.set k (wordF R cs 0 k) = (List.range 8).map fun n => if n < k + 1 then wordF R cs 0 n else 0 := by
            rw [hL]
            apply List.ext_getElem?
            intro i
            rw [List.getElem?_set, List.length_map, List.length_range]
            by_cases hik : k = i
            · subst hik
              rw [if_pos rfl, if_pos (by omega), List.getElem?_map, List.getElem?_range (by omega)]
              simp
            · rw [if_neg hik, List.getElem?_map, List.getElem?_map]
              by_cases hi8 : i < 8
              · rw [List.getElem?_range hi8]
                have : i < k ↔ i < k + 1 := by omega
                simp [this]
              · rw [List.getElem?_eq_none (by simp; omega)]
                rfl
          have hL0 : L.set k 0 = L := by
            apply List.ext_getElem?
            intro i
            rw [List.getElem?_set]
            by_cases hik : k = i
            · subst hik
              rw [if_pos rfl, if_pos (by omega), hL, List.getElem?_map, List.getElem?_range (by omega)]
              simp
            · rw [if_neg hik]
          rw [← hL] at ho
          have hput : ∀ (K : Hp) (M : List Int), M.length = 8 → Own 1 K u17 (ints M) → ∀ x : Int, ∃ b, indexAddrA tab (.slice 3) K u17 (.int .i64 k) = some (.ptr b k) ∧ ∃ K', storeA tI K (.ptr b k) (.int .i64 x) = some K' ∧ Own 1 K' u17 (ints (M.set k x)) ∧ Keeps u17.at K K' := by
            intro K M hM h x
            obtain ⟨b, q1, K', q2, q3, q4, q5⟩ := h.putW (i := (k : Int)) (by omega) (by omega) x
            simp only [Int.toNat_natCast] at q1 q2 q3
            exact ⟨b, q1, K', q2, q3, q4⟩
          have fin : ∀ (y : Int) (K' : Hp) (ts' : TS), y = wordF R cs 0 k → Own 1 K' u17 (ints (L.set k y)) → Fr K K' → (ts' 5 = fv ∧ ts' 6 = rv ∧ ts' 7 = g0 ∧ ts' 1 = w ∧ ts' 17 = u17 ∧ ts' 11 = l0 ∧ ts' 101 = .int .i64 8 ∧ ts' 102 = .int .i64 (k + 1)) → I ts' K' := fun y K' ts' hy h1 h2 h3 => ih (k + 1) ts' K' (by omega) (by rw [← hLn, ← hy]; exact h1) h2 (by simp [h3])
          have hwordk : wordF R cs 0 k = if (fc R k).known = true then (fc R k).n else if k < cs.length then cs.getD k 0 else 0 := rfl
          have hget : ∀ (K2 : Hp), Fr K K2 → ∃ p q, indexAddrA tab (.slice 35) K2 rv (.int .i64 k) = some (.ptr p q) ∧ loadA tFB K2 (.ptr p (q + 1)) = some (.bool (fc R k).known) ∧ loadA tI K2 (.ptr p (q + 2)) = some (.int .i64 (fc R k).n) := by
            intro K2 h2
            obtain ⟨p2, t1, -, t3, -, t4⟩ := (hRK.fr h2).get (tab := tab) (e := 35) (ety := tF) rfl (fc_get hRl hN) .i64
            simp only [Int.toNat_natCast] at t3
            have t5 := t4 tFB 1 rfl rfl (by decide)
            have t6 := t4 tI 2 rfl rfl (by decide)
            simp only [Fct.enc] at t5 t6
            exact ⟨p2, _, t3, t5, t6⟩
          by_cases hkc : k < cs.length
          · have hkc' : (k : Int) < cs.length := by omega
            have hge : cs[k]? = some cs[k] := List.getElem?_eq_getElem hkc
            have hby := hc cs[k] (List.getElem_mem hkc)
            have hcd : cs.getD k 0 = cs[k] := by rw [List.getD_eq_getElem?_getD, hge]; rfl
            have hwb := wrap64 (x := cs[k]) (by omega) (by omega)
            obtain ⟨pb, qb, _, y1, y2⟩ := Row.get1 (hwK.fr hK) (tab := tab) (e := 5) (ety := tU8) rfl rfl rfl hge .i64
            obtain ⟨p4, v1, Kb, v2, v3, v4⟩ := hput K' _ hL8 ho cs[k]
            have hKb : Fr K Kb := Fr.then hK v4 hfu
            obtain ⟨p5, q5, r3, r5, r6⟩ := hget Kb hKb
            obtain ⟨p6, z1, Kz, z2, z3, z4⟩ := hput Kb _ (by simpa using hL8) v3 (fc R k).n
            rw [List.set_set] at z3
            simp (maxDischargeDepth := 9) [hts, tab, hk, hlw, hkc', y1, y2, hwb, v1, v2]
            cases hkn : (fc R k).known with
            | true =>
              rw [hkn] at r5
              simp (maxDischargeDepth := 9) [hts, tab, r3, r5, r6, z1, z2, hwk]
              exact fin _ Kz _ (by rw [hwordk, if_pos hkn]) z3 (Fr.then hKb z4 hfu) (by simp [hts])
            | false =>
              rw [hkn] at r5
              simp (maxDischargeDepth := 9) [hts, tab, r3, r5, hwk]
              exact fin _ Kb _ (by rw [hwordk, if_neg (by simp [hkn]), if_pos hkc, hcd]) v3 hKb (by simp [hts])
          · have hkc' : ¬ (k : Int) < cs.length := by omega
            obtain ⟨p5, q5, r3, r5, r6⟩ := hget K' hK
            obtain ⟨p6, z1, Kz, z2, z3, z4⟩ := hput K' _ hL8 ho (fc R k).n
            simp (maxDischargeDepth := 9) [hts, tab, hk, hlw, hkc']
            cases hkn : (fc R k).known with
            | true =>
              rw [hkn] at r5
              simp (maxDischargeDepth := 9) [hts, tab, r3, r5, r6, z1, z2, hwk]
              exact fin _ Kz _ (by rw [hwordk, if_pos hkn]) z3 (Fr.then hK z4 hfu) (by simp [hts])
            | false =>
              rw [hkn] at r5
              simp (maxDischargeDepth := 9) [hts, tab, r3, r5, hwk]
              exact fin 0 K' _ (by rw [hwordk, if_neg (by simp [hkn]), if_neg hkc]) (by rw [hL0]; exact ho) hK (by simp [hts])
      refine key 8 0 _ K9 rfl ?_ mk3 (by simp)
      have : ints ((List.range 8).map fun n => if n < 0 then wordF R cs 0 n else 0) = List.replicate 8 tI.zero := rfl
      rw [this]
      exact mk2
    rintro ts Ka ⟨hts, ho17, fa⟩
    simp only [post_sq, W_seq]
    have hfK := (hfL.fr F2).fr fa
    have hVl : (wordsF R cs 0).length ≤ 1048576 := by rw [hgV.1]; decide
    obtain ⟨m1, m2, _⟩ := runRes_few f (wordsF R cs 0) 60
    have r1 := runRes_fold hgf E1 hgV hgH
    obtain ⟨r2, r3, r4⟩ := runRes_lost hgf hgV
    generalize wordsF R cs 0 = V at *
    simp [hts, tab]
    refine (implRun_ok f us fv V u17 60 Ka hm hmm hVl hfK ho17.row).mono fun r Kb ⟨s1, s2, e1, c1, c2, f5⟩ => ?_
    subst e1
    simp [hts, tab]
    refine (implRun_ok (foldAll f R) ug g0 V u17 60 Kb (by omega) dl1 hVl ((b1.look.fr fa).fr f5) (ho17.fr f5).row).mono fun r Kc ⟨s3, s4, e1, c3, c4, f6⟩ => ?_
    subst e1
    simp [hts, tab]
    refine (implRun_ok (lostAll f) ul l0 V u17 60 Kc (by omega) dl2 hVl (((b3.look.fr fa).fr f5).fr f6) ((ho17.fr f5).fr f6).row).mono fun r Kd ⟨s5, s6, e1, c5, c6, f7⟩ => ?_
    subst e1
    rw [r1] at c3 c4 ⊢
    rw [r2] at c5
    rw [r3] at c6
    have c1d := c1.fr (f6.trans f7)
    have c2d := c2.fr (f6.trans f7)
    simp [hts, tab, r4]
    refine (sameInts_ok _ s1 s3 Kd m1 c1d (c3.fr f7)).mono fun r K9 ⟨e1, e2⟩ => ?_
    subst e1 e2
    simp [hts, tab, r4]
    refine (sameInts_ok _ s2 s4 K9 m2 c2d (c4.fr f7)).mono fun r K8 ⟨e1, e2⟩ => ?_
    subst e1 e2
    simp [hts, tab, r4]
    refine (sameInts_ok _ s5 s1 K8 m1 c5 c1d).mono fun r K9 ⟨e1, e2⟩ => ?_
    subst e1 e2
    simp [hts, tab, r4]
    refine (sameInts_ok _ s6 s2 K9 m2 c6 c2d).mono fun r K8 ⟨e1, e2⟩ => ?_
    subst e1 e2
    simp [hts, tab, r4]
    exact fa.trans (f5.trans (f6.trans f7))
  rintro ts K3' ⟨hts, f5⟩
  simp only [post_sq, W_seq]
  have hw5 := hw.fr (f0.trans (F2.trans f5))
  simp [hts, tab]
  refine (drawBack_ok w K3' ⟨cs, hw5, hc, by omega⟩).mono fun r K6 ⟨⟨cv, lv, l, L, e1, d1, d2, d3, d4⟩, f6⟩ => ?_
  subst e1
  simp [hts, tab]
  refine (implBackStep_ok l L cv lv K6 (by omega) (by omega) d1.row d3.row).mono fun r K7 ⟨o1, e1, g1, _, f7⟩ => ?_
  subst e1
  simp [hts, tab]
  refine (specBackStep_ok l L cv lv K7 (by omega) (by omega) (d1.fr f7).row (d3.fr f7).row).mono fun r K8 ⟨o2, e1, g2, _, f8⟩ => ?_
  subst e1
  have h8 := backRes_len l L
  simp [hts, tab]
  refine (sameInts_ok _ o1 o2 K8 (by omega) (g1.fr f8).row g2).mono fun r K9 ⟨e1, e2⟩ => ?_
  subst e1 e2
  simp [hts, tab]
theorem law_in (H : Hp) (x0 x1 : AV) (h0 : SSl 1 1 (SInt .u8) H [x0]) (h1 : SSl 1 1 (SInt .u8) H [x1]) : T Tryz.prog 3 [x0, x1] H (fun r K => r = .bool true) := by
  obtain ⟨bs, a1, a2, a3⟩ := bytes_open H x0 h0
  obtain ⟨cs, b1, b2, b3⟩ := bytes_open H x1 h1
  exact fnFolded_law x0 x1 bs cs H a1 a2 a3 b1 b2 b3
end Go.Proofs.YtdbnokeegocpbaaGreat.Am
