/- The law FnSteps. No condition. -/
import Derived.Test.YtdbnokeegocpbaaLStepTops
import Derived.Test.YtdbnokeegocpbaaLDrawFacts
import Derived.Test.YtdbnokeegocpbaaLRunSpec
import Derived.Test.YtdbnokeegocpbaaLBytes
namespace Go.Proofs.Ytdbnokeegocpbaa.Am
open Go Go.RowKit
set_option linter.unusedSimpArgs false
set_option linter.unusedVariables false

/-- The words to begin with: what is known, or a byte, or a default. -/
def wordF (R : List Fct) (cs : List Int) (d : Int) (n : Nat) : Int := if (R.getD n topF).known = true then (R.getD n topF).n else if n < cs.length then cs.getD n 0 else d
def wordsF (R : List Fct) (cs : List Int) (d : Int) : List Int := (List.range 8).map fun n => wordF R cs d n
theorem wordsF_good {R : List Fct} {cs : List Int} {d : Int} (hR : GoodFs R) (hc : ∀ y ∈ cs, 0 ≤ y ∧ y ≤ 255) (hd : 0 ≤ d ∧ d ≤ 65535) : GoodV (wordsF R cs d) ∧ HoldsF R (wordsF R cs d) := by
  have hget : ∀ i : Int, Nm i → wd (wordsF R cs d) i = wordF R cs d i.toNat := fun i hi => by
    unfold Nm at hi
    unfold wd wordsF
    rw [List.getD_eq_getElem?_getD, List.getElem?_map, List.getElem?_range (by omega)]
    rfl
  refine ⟨⟨by simp [wordsF], fun x hx => ?_⟩, fun i hi => ?_⟩
  · obtain ⟨n, hn, rfl⟩ := List.mem_map.1 hx
    have hn8 : n < 8 := List.mem_range.1 hn
    have hf := fc_good hR (i := (n : Int)) (by unfold Nm; omega)
    have e : fc R (n : Int) = R.getD n topF := rfl
    rw [e] at hf
    unfold wordF
    split
    · exact hf.1.1
    · split
      · rename_i h
        have := hc (cs.getD n 0) (by rw [List.getD_eq_getElem?_getD, List.getElem?_eq_getElem h]; exact List.getElem_mem h)
        omega
      · exact hd
  · have hf := fc_good hR hi
    refine ⟨hf.2, fun hk => ?_⟩
    rw [hget i hi]
    have hk' : (R.getD i.toNat topF).known = true := hk
    unfold wordF
    rw [if_pos hk']
    rfl
theorem runRes_few (f : List Bk) (V : List Int) (fuel : Int) : (runRes f V fuel).1.length ≤ 1048576 ∧ (runRes f V fuel).2.1.length ≤ 1048576 ∧ (pathRes f V fuel).1.length ≤ 1048576 := by
  have key : GoodF f ∧ GoodV V ∧ 0 ≤ fuel ∧ fuel ≤ 300 → (runFl f fuel.toNat 0 V).1.length ≤ 1048576 ∧ (runFl f fuel.toNat 0 V).2.1.length ≤ 1048576 ∧ (runFl f fuel.toNat 0 V).2.2.1.length ≤ 1048576 := fun ⟨h1, h2, h3, h4⟩ => by
    obtain ⟨a, b, c, -⟩ := runFl_few h1 fuel.toNat 0 V (by have := h1.1.1; omega) h2
    have := c.1
    omega
  refine ⟨?_, ?_, ?_⟩
  · unfold runRes
    split
    · rename_i h; exact (key h.1).1
    · simp
  · unfold runRes
    split
    · rename_i h; exact (key h.1).2.1
    · simp
  · unfold pathRes
    split
    · rename_i h; exact (key h).2.2
    · simp
theorem run_path (f : List Bk) (V : List Int) (fuel : Int) : (runRes f V fuel).2.2.2 = true → (runRes f V fuel).2.2.1 = ((pathRes f V fuel).1.length : Int) := by
  unfold runRes pathRes
  split
  · rename_i h
    rw [if_pos h.1]
    simp
  · simp
set_option maxHeartbeats 1000000 in
set_option maxRecDepth 100000 in
theorem fnSteps_law (v w : AV) (bs cs : List Int) (H : Hp) (hv : Row 1 H v (bytesA bs)) (hb : ∀ y ∈ bs, 0 ≤ y ∧ y ≤ 255) (hbl : bs.length ≤ 140737488355328) (hw : Row 1 H w (bytesA cs)) (hc : ∀ y ∈ cs, 0 ≤ y ∧ y ≤ 255) (hcl : cs.length ≤ 140737488355328) : T Try.prog 10 [v, w] H (fun r K => r = .bool true) := by
  refine T.by tabOk Try.func10 (by kernel_rfl) rfl _ (by simp [Try.f10]) H _ ?_
  have hlv := hv.len 5
  have hlw := hw.len 5
  have hlv : lenA (.slice 5) v = some (.int .i64 bs.length) := by simpa [bytesA] using hlv
  have hlw : lenA (.slice 5) w = some (.int .i64 cs.length) := by simpa [bytesA] using hlw
  have hsum := wrap64 (x := (bs.length : Int) + cs.length) (by omega) (by omega)
  by_cases hbig : 1048576 < (bs.length : Int) + cs.length
  · simp [Try.f10, tab, hlv, hlw, hsum, hbig]
  simp [Try.f10, tab, hlv, hlw, hsum, hbig]
  refine (drawStepFacts_ok v H ⟨bs, hv, hb, by omega⟩).mono fun r K0 ⟨⟨lv, rv, l, R, e1, hl, hll, hR, hRl⟩, f0⟩ => ?_
  subst e1
  have hlr : Row 5 K0 lv (l.map Ins.enc) := hl.row
  simp [tab]
  refine (implStepFacts_ok l R lv rv K0 (by omega) (by omega) hlr hR.row).mono fun r K1 ⟨x, e1, a1, _, f1⟩ => ?_
  subst e1
  simp [tab]
  refine (specStepFacts_ok l R lv rv K1 (by omega) (by omega) (hlr.fr f1) (hR.fr f1).row).mono fun r K2 ⟨y, e1, a2, _, f2⟩ => ?_
  subst e1
  have hsmall : (fres l R).1.length ≤ 1048576 := by
    unfold fres
    split
    · rename_i h
      have := (stepF_good l h.1.2 h.2).1
      simp only
      omega
    · simp
  simp [tab]
  refine (sameFact_ok _ x y K2 hsmall (a1.fr f2).row a2.row).mono fun r K ⟨e1, e2⟩ => ?_
  subst e1 e2
  have F2 : Fr K0 K := f1.trans f2
  simp [-W_seq, tab]
  rw [W_seq]
  refine W_cut (fun ts K' => (ts 1 = w) ∧ Fr K K') ?_ ?_
  · by_cases hg : GoodC l ∧ GoodFs R
    case neg =>
      have hres : fres l R = ([], false) := by unfold fres; rw [if_neg hg]
      simp [hres, tab]
      exact Fr.refl _
    obtain ⟨hgC, hgR⟩ := hg
    have hres : fres l R = (stepF l R, true) := by unfold fres; rw [if_pos ⟨hgC, hgR⟩]
    have a1' := a1.fr f2
    rw [hres] at a1'
    simp only at a1'
    have hwK := hw.fr (f0.trans F2)
    have hRK := hR.row.fr F2
    have hlK := hlr.fr F2
    obtain ⟨K9, mk1, mk2, mk3⟩ := make_ok (ety := tI) (K := K) (n := 8) rfl (by decide) (by decide) (by decide)
    obtain ⟨u11, hu11⟩ : ∃ u, u = AV.sl K.length 0 8 := ⟨_, rfl⟩
    have hfu : Fresh K.length u11 := fun b hb => by rw [hu11] at hb; cases hb; exact Nat.le_refl _
    have mk1 : makeSliceA tI K (.int .i64 8) (.int .i64 8) = some (.sl K.length 0 8, K9) := mk1
    rw [← hu11] at mk1 mk2
    obtain ⟨hgV, hgH⟩ := wordsF_good (cs := cs) (d := 0) hgR hc (by decide)
    have hl11 : lenA (.slice 3) u11 = some (.int .i64 8) := by rw [hu11]; rfl
    simp [-W_block, hres, tab, mk1, hl11]
    refine W_cut (fun ts K' => (ts 5 = lv ∧ ts 7 = x ∧ ts 11 = u11 ∧ ts 1 = w) ∧ Own 1 K' u11 (ints (wordsF R cs 0)) ∧ Fr K K') ?_ ?_
    · simp only [W_block]
      refine W_loop _ fun I hI => ?_
      have key : ∀ (d k : Nat) (ts : TS) (K' : Hp), k + d = 8 → Own 1 K' u11 (ints ((List.range 8).map fun n => if n < k then wordF R cs 0 n else 0)) → Fr K K' → (ts 5 = lv ∧ ts 6 = rv ∧ ts 7 = x ∧ ts 1 = w ∧ ts 11 = u11 ∧ ts 73 = .int .i64 8 ∧ ts 74 = .int .i64 k) → I ts K' := by
        intro d
        induction d with
        | zero =>
          intro k ts K' e ho hK hts
          apply hI
          obtain rfl : k = 8 := by omega
          have e1 : ((List.range 8).map fun n => if n < 8 then wordF R cs 0 n else 0) = wordsF R cs 0 := by
            unfold wordsF
            refine List.map_congr_left fun n hn => ?_
            rw [if_pos (List.mem_range.1 hn)]
          rw [e1] at ho
          simp [hts, tab]
          exact ⟨ho, hK⟩
        | succ d ih =>
          intro k ts K' e ho hK hts
          apply hI
          have hk : (k : Int) < 8 := by omega
          have hN : Nm (k : Int) := by unfold Nm; omega
          have hwk := wrap64 (x := (k : Int) + 1) (by omega) (by omega)
          obtain ⟨L, hL⟩ : ∃ L, L = (List.range 8).map fun n => if n < k then wordF R cs 0 n else 0 := ⟨_, rfl⟩
          have hL8 : L.length = 8 := by rw [hL]; simp
          have hLn : L.set k (wordF R cs 0 k) = (List.range 8).map fun n => if n < k + 1 then wordF R cs 0 n else 0 := by
            rw [hL]
            apply List.ext_getElem?
            intro i
            rw [List.getElem?_set, List.length_map, List.length_range]
            by_cases hik : k = i
            · subst hik
              rw [if_pos rfl, if_pos (by omega), List.getElem?_map, List.getElem?_range (by omega)]
              simp
            · rw [if_neg hik, List.getElem?_map, List.getElem?_map]
              by_cases hi8 : i < 8
              · rw [List.getElem?_range hi8]
                have : i < k ↔ i < k + 1 := by omega
                simp [this]
              · rw [List.getElem?_eq_none (by simp; omega)]
                rfl
          have hL0 : L.set k 0 = L := by
            apply List.ext_getElem?
            intro i
            rw [List.getElem?_set]
            by_cases hik : k = i
            · subst hik
              rw [if_pos rfl, if_pos (by omega), hL, List.getElem?_map, List.getElem?_range (by omega)]
              simp
            · rw [if_neg hik]
          rw [← hL] at ho
          have hput : ∀ (K : Hp) (M : List Int), M.length = 8 → Own 1 K u11 (ints M) → ∀ x : Int, ∃ b, indexAddrA tab (.slice 3) K u11 (.int .i64 k) = some (.ptr b k) ∧ ∃ K', storeA tI K (.ptr b k) (.int .i64 x) = some K' ∧ Own 1 K' u11 (ints (M.set k x)) ∧ Keeps u11.at K K' := by
            intro K M hM h x
            obtain ⟨b, q1, K', q2, q3, q4, q5⟩ := h.putW (i := (k : Int)) (by omega) (by omega) x
            simp only [Int.toNat_natCast] at q1 q2 q3
            exact ⟨b, q1, K', q2, q3, q4⟩
          have fin : ∀ (y : Int) (K' : Hp) (ts' : TS), y = wordF R cs 0 k → Own 1 K' u11 (ints (L.set k y)) → Fr K K' → (ts' 5 = lv ∧ ts' 6 = rv ∧ ts' 7 = x ∧ ts' 1 = w ∧ ts' 11 = u11 ∧ ts' 73 = .int .i64 8 ∧ ts' 74 = .int .i64 (k + 1)) → I ts' K' := fun y K' ts' hy h1 h2 h3 => ih (k + 1) ts' K' (by omega) (by rw [← hLn, ← hy]; exact h1) h2 (by simp [h3])
          have hwordk : wordF R cs 0 k = if (fc R k).known = true then (fc R k).n else if k < cs.length then cs.getD k 0 else 0 := rfl
          have hget : ∀ (K2 : Hp), Fr K K2 → ∃ p q, indexAddrA tab (.slice 62) K2 rv (.int .i64 k) = some (.ptr p q) ∧ loadA tFB K2 (.ptr p (q + 1)) = some (.bool (fc R k).known) ∧ loadA tI K2 (.ptr p (q + 2)) = some (.int .i64 (fc R k).n) := by
            intro K2 h2
            obtain ⟨p2, t1, -, t3, -, t4⟩ := (hRK.fr h2).get (tab := tab) (e := 62) (ety := tF) rfl (fc_get hRl hN) .i64
            simp only [Int.toNat_natCast] at t3
            have t5 := t4 tFB 1 rfl rfl (by decide)
            have t6 := t4 tI 2 rfl rfl (by decide)
            simp only [Fct.enc] at t5 t6
            exact ⟨p2, _, t3, t5, t6⟩
          by_cases hkc : k < cs.length
          · have hkc' : (k : Int) < cs.length := by omega
            have hge : cs[k]? = some cs[k] := List.getElem?_eq_getElem hkc
            have hby := hc cs[k] (List.getElem_mem hkc)
            have hcd : cs.getD k 0 = cs[k] := by rw [List.getD_eq_getElem?_getD, hge]; rfl
            have hwb := wrap64 (x := cs[k]) (by omega) (by omega)
            obtain ⟨pb, qb, _, y1, y2⟩ := Row.get1 (hwK.fr hK) (tab := tab) (e := 5) (ety := tU8) rfl rfl rfl hge .i64
            obtain ⟨p4, v1, Kb, v2, v3, v4⟩ := hput K' _ hL8 ho cs[k]
            have hKb : Fr K Kb := Fr.then hK v4 hfu
            obtain ⟨p5, q5, r3, r5, r6⟩ := hget Kb hKb
            obtain ⟨p6, z1, Kz, z2, z3, z4⟩ := hput Kb _ (by simpa using hL8) v3 (fc R k).n
            rw [List.set_set] at z3
            simp (maxDischargeDepth := 9) [hts, tab, hk, hlw, hkc', y1, y2, hwb, v1, v2]
            cases hkn : (fc R k).known with
            | true =>
              rw [hkn] at r5
              simp (maxDischargeDepth := 9) [hts, tab, r3, r5, r6, z1, z2, hwk]
              exact fin _ Kz _ (by rw [hwordk, if_pos hkn]) z3 (Fr.then hKb z4 hfu) (by simp [hts])
            | false =>
              rw [hkn] at r5
              simp (maxDischargeDepth := 9) [hts, tab, r3, r5, hwk]
              exact fin _ Kb _ (by rw [hwordk, if_neg (by simp [hkn]), if_pos hkc, hcd]) v3 hKb (by simp [hts])
          · have hkc' : ¬ (k : Int) < cs.length := by omega
            obtain ⟨p5, q5, r3, r5, r6⟩ := hget K' hK
            obtain ⟨p6, z1, Kz, z2, z3, z4⟩ := hput K' _ hL8 ho (fc R k).n
            simp (maxDischargeDepth := 9) [hts, tab, hk, hlw, hkc']
            cases hkn : (fc R k).known with
            | true =>
              rw [hkn] at r5
              simp (maxDischargeDepth := 9) [hts, tab, r3, r5, r6, z1, z2, hwk]
              exact fin _ Kz _ (by rw [hwordk, if_pos hkn]) z3 (Fr.then hK z4 hfu) (by simp [hts])
            | false =>
              rw [hkn] at r5
              simp (maxDischargeDepth := 9) [hts, tab, r3, r5, hwk]
              exact fin 0 K' _ (by rw [hwordk, if_neg (by simp [hkn]), if_neg hkc]) (by rw [hL0]; exact ho) hK (by simp [hts])
      refine key 8 0 _ K9 rfl ?_ mk3 (by simp)
      have : ints ((List.range 8).map fun n => if n < 0 then wordF R cs 0 n else 0) = List.replicate 8 tI.zero := rfl
      rw [this]
      exact mk2
    rintro ts Ka ⟨hts, ho11, fa⟩
    simp only [post_sq, W_seq]
    simp [-W_block, hts, tab]
    refine (runCode_ok l (wordsF R cs 0) lv u11 Ka hgC hgV (hlK.fr fa) ho11.row).mono fun r Kb ⟨sv, uv, e1, b1, b2, _, _, fb⟩ => ?_
    subst e1
    have hH := stepF_holds l hgC.2 hRl hgV.1 hgH
    have hV8 : (runC l (wordsF R cs 0)).2.length = 8 := by rw [runC_len, hgV.1]
    have hX8 := (stepF_good l hgC.2 hgR).1
    generalize (runC l (wordsF R cs 0)).2 = V at *
    have hlu := b2.row.len 3
    simp only [ints_length, hV8] at hlu
    have Fb := fa.trans fb
    simp [-W_block, hts, tab, hlu]
    simp only [W_block]
    refine W_loop _ fun I hI => ?_
    have key : ∀ (d k : Nat) (ts : TS) (K' : Hp), k + d = 8 → K' = Kb → (ts 7 = x ∧ ts 14 = uv ∧ ts 1 = w ∧ ts 113 = .int .i64 8 ∧ ts 114 = .int .i64 k) → I ts K' := by
      intro d
      induction d with
      | zero =>
        intro k ts K' e hK hts
        apply hI
        subst hK
        obtain rfl : k = 8 := by omega
        simp [hts, tab]
        exact Fb
      | succ d ih =>
        intro k ts K' e hK hts
        apply hI
        subst hK
        have hk : (k : Int) < 8 := by omega
        have hN : Nm (k : Int) := by unfold Nm; omega
        have hwk := wrap64 (x := (k : Int) + 1) (by omega) (by omega)
        obtain ⟨p2, t1, -, t3, -, t4⟩ := (a1'.fr Fb).row.get (tab := tab) (e := 62) (ety := tF) rfl (fc_get hX8 hN) .i64
        simp only [Int.toNat_natCast] at t3
        have t7 := t4 tFB 0 rfl rfl (by decide)
        have t5 := t4 tFB 1 rfl rfl (by decide)
        have t6 := t4 tI 2 rfl rfl (by decide)
        obtain ⟨b7, q7, z1, z2⟩ := getW b2.row hV8 hN
        obtain ⟨ht1, ht2⟩ := hH k hN
        simp only [Fct.enc, Nat.add_zero, List.getElem?_cons_zero, List.getElem?_cons_succ] at t5 t6 t7
        rw [ht1] at t7
        simp [hts, tab, hk]
        refine W_draw mixed (.look 0 (.look 1 (.look 2 (.look 3 (.look 4 (.look 5 (.look 6 (.look 7 (.look 8 (.look 9 (.look 10 (.look 11 (.look 12 (.look 13 (.look 14 (.look 15 (.look 16 (.look 17 (.look 18 (.look 19 (.look 20 (.look 21 (.look 22 (.look 23 .done)))))))))))))))))))))))) (by kernel_rfl) ?_
        cases hkn : (fc (stepF l R) k).known with
        | false =>
          rw [hkn] at t5
          simp [hts, tab, t3, t7, t5, hwk]
          exact ih (k + 1) _ K' (by omega) rfl (by simp [hts])
        | true =>
          rw [hkn] at t5
          rw [ht2 hkn] at z2
          simp [hts, tab, t3, t7, t5, t6, z1, z2, hwk]
          exact ih (k + 1) _ K' (by omega) rfl (by simp [hts])
    exact key 8 0 _ Kb rfl rfl (by simp [hts])
  rintro ts K3 ⟨hts, f3⟩
  simp only [post_sq, W_seq]
  simp [hts, tab]
  have hwK3 := hw.fr (f0.trans (F2.trans f3))
  refine (drawJoinF_ok w K3 ⟨cs, hwK3, hc, by omega⟩).mono fun r K4 ⟨⟨a, b, e1⟩, f4⟩ => ?_
  subst e1
  obtain ⟨K5, hK5, f5⟩ : ∃ K5, K4 ++ [some ⟨3, true, [.bool a.top, .bool a.known, .int .i64 a.n]⟩, some ⟨3, true, [.bool b.top, .bool b.known, .int .i64 b.n]⟩] = K5 ∧ Fr K4 K5 := ⟨_, rfl, Fr.app _ _⟩
  have ha5 : K5[K4.length]? = some (some ⟨3, true, [.bool a.top, .bool a.known, .int .i64 a.n]⟩) := by rw [← hK5]; simp
  have hb5 : K5[K4.length + 1]? = some (some ⟨3, true, [.bool b.top, .bool b.known, .int .i64 b.n]⟩) := by rw [← hK5]; simp
  have la : ∀ K : Hp, Fr K5 K → loadA tF K (.ptr K4.length 0) = some (.agg [.bool a.top, .bool a.known, .int .i64 a.n]) := fun K h => by simp [loadA, h.2 _ _ ha5 id]
  have lb : ∀ K : Hp, Fr K5 K → loadA tF K (.ptr (K4.length + 1) 0) = some (.agg [.bool b.top, .bool b.known, .int .i64 b.n]) := fun K h => by simp [loadA, h.2 _ _ hb5 id]
  have la5 := la K5 (Fr.refl _)
  have lb5 := lb K5 (Fr.refl _)
  simp [Fct.enc, hts, tab, storeB, over, hK5, la5, lb5]
  refine (implJoinF_ok a b K5).mono fun r K6 ⟨e1, f6⟩ => ?_
  subst e1
  obtain ⟨z, hz⟩ : ∃ z, z = (joinRes a b).1 := ⟨_, rfl⟩
  obtain ⟨K7, hK7, f7⟩ : ∃ K7, K6 ++ [some ⟨3, true, [.bool z.top, .bool z.known, .int .i64 z.n]⟩] = K7 ∧ Fr K6 K7 := ⟨_, rfl, Fr.app _ _⟩
  have hz7 : K7[K6.length]? = some (some ⟨3, true, [.bool z.top, .bool z.known, .int .i64 z.n]⟩) := by rw [← hK7]; simp
  have lz : ∀ K : Hp, Fr K7 K → loadA tF K (.ptr K6.length 0) = some (.agg [.bool z.top, .bool z.known, .int .i64 z.n]) := fun K h => by simp [loadA, h.2 _ _ hz7 id]
  have F7 := f6.trans f7
  have la7 := la K7 F7
  have lb7 := lb K7 F7
  rw [← hz]
  simp [Fct.enc, hts, tab, storeB, over, hK7, la7, lb7]
  refine (specJoinF_ok a b K7).mono fun r K8 ⟨e1, f8⟩ => ?_
  subst e1
  obtain ⟨K9, hK9, f9⟩ : ∃ K9, K8 ++ [some ⟨3, true, [.bool z.top, .bool z.known, .int .i64 z.n]⟩] = K9 ∧ Fr K8 K9 := ⟨_, rfl, Fr.app _ _⟩
  have hy9 : K9[K8.length]? = some (some ⟨3, true, [.bool z.top, .bool z.known, .int .i64 z.n]⟩) := by rw [← hK9]; simp
  have ly9 : loadA tF K9 (.ptr K8.length 0) = some (.agg [.bool z.top, .bool z.known, .int .i64 z.n]) := by simp [loadA, hy9]
  have f79 := f8.trans f9
  have F9 := F7.trans f79
  have la9 := la K9 F9
  have lz9 := lz K9 f79
  have heq := fact_eql z z
  simp only [decide_true, Fct.enc] at heq
  rw [← hz]
  simp [Fct.enc, hts, tab, storeB, over, hK9]
  refine W_draw mixed (.look 0 (.look 1 (.look 2 (.look 3 (.look 4 (.look 5 (.look 6 (.look 7 (.look 8 (.look 9 (.look 11 (.act 10 [11] (.act 12 [] (.look 13 (.look 14 .done)) .stop) .stop)))))))))))) (by kernel_rfl) ?_
  simp [-eqlA, hts, tab, la9, lz9, ly9, heq]
  refine (implGoodFact_ok a K9).mono fun r K10 ⟨e1, f10⟩ => ?_
  subst e1
  have la10 := la K10 (F9.trans f10)
  simp [-eqlA, hts, tab, la10]
  refine (goodFact_ok a K10).mono fun r K11 ⟨e1, f11⟩ => ?_
  subst e1
  have F11 := F9.trans (f10.trans f11)
  simp [hts, tab]
  have hw11 := hwK3.fr (f4.trans (f5.trans F11))
  refine (drawRun_ok w K11 ⟨cs, hw11, hc, by omega⟩).mono fun r K12 ⟨⟨fv, wv, f, us, V, fuel, e1, hf, hfl, hfc, hV, hVl⟩, f12⟩ => ?_
  subst e1
  have hm : f.length ≤ 1048576 := by omega
  have hmm : ∀ t ∈ f, t.code.length ≤ 1048576 := fun t ht => by have := hfc t ht; omega
  simp [hts, tab]
  refine (implRun_ok f us fv V wv fuel K12 hm hmm (by omega) hf.look hV.row).mono fun r K13 ⟨s1, s2, e1, c1, c2, f13⟩ => ?_
  subst e1
  simp [hts, tab]
  refine (specRun_ok f us fv V wv fuel K13 hm hmm (by omega) (hf.look.fr f13) (hV.fr f13).row).mono fun r K14 ⟨s3, s4, e1, c3, c4, f14⟩ => ?_
  subst e1
  simp [hts, tab]
  have F14 := f13.trans f14
  refine (implPath_ok f us fv V wv fuel K14 hm hmm (by omega) (hf.look.fr F14) (hV.fr F14).row).mono fun r K15 ⟨p1, e1, c5, f15⟩ => ?_
  subst e1
  simp [hts, tab]
  have F15 := F14.trans f15
  refine (specPath_ok f us fv V wv fuel K15 hm hmm (by omega) (hf.look.fr F15) (hV.fr F15).row).mono fun r K16 ⟨p2, e1, c6, f16⟩ => ?_
  subst e1
  obtain ⟨m1, m2, m3⟩ := runRes_few f V fuel
  have hsame := run_path f V fuel
  have hpl := (c5.fr f16).len 3
  simp only [ints_length] at hpl
  simp [hts, tab]
  refine (sameInts_ok _ s1 s3 K16 m1 (c1.fr (f14.trans (f15.trans f16))) (c3.fr (f15.trans f16))).mono fun r K ⟨e1, e2⟩ => ?_
  subst e1 e2
  simp [hts, tab]
  refine (sameInts_ok _ s2 s4 K m2 (c2.fr (f14.trans (f15.trans f16))) (c4.fr (f15.trans f16))).mono fun r K' ⟨e1, e2⟩ => ?_
  subst e1 e2
  simp [hts, tab]
  refine (sameInts_ok _ p1 p2 K' m3 (c5.fr f16) c6).mono fun r K ⟨e1, e2⟩ => ?_
  subst e1 e2
  have FK := F11.trans (f12.trans (F15.trans f16))
  have laK := la K FK
  have lzK := lz K (f79.trans (f10.trans (f11.trans (f12.trans (F15.trans f16)))))
  have hbel : (joinRes a b).2 = true → belowF a z ∧ belowF b z := by
    rw [hz]
    unfold joinRes
    split
    · intro _; exact below_joinF a b
    · intro h; cases h
  have lbK := lb K FK
  cases hok : (runRes f V fuel).2.2.2 with
  | false =>
    cases hj : (joinRes a b).2 with
    | false => simp [hts, tab, hok, hj]
    | true =>
      obtain ⟨g1, g2⟩ := hbel hj
      simp [hts, tab, hok, hj, laK, lzK]
      refine (below_ok a z K).mono fun r Kx ⟨e1, f17⟩ => ?_
      subst e1
      have lbx := lb Kx (FK.trans f17)
      have lzx := lz Kx ((f79.trans (f10.trans (f11.trans (f12.trans (F15.trans f16))))).trans f17)
      simp [tab, g1, lbx, lzx]
      refine (below_ok b z Kx).mono fun r Ky ⟨e1, f18⟩ => ?_
      subst e1
      simp [tab, g2]
  | true =>
    have hn := hsame hok
    cases hj : (joinRes a b).2 with
    | false => simp [hts, tab, hok, hn, hpl, hj]
    | true =>
      obtain ⟨g1, g2⟩ := hbel hj
      simp [hts, tab, hok, hn, hpl, hj, laK, lzK]
      refine (below_ok a z K).mono fun r Kx ⟨e1, f17⟩ => ?_
      subst e1
      have lbx := lb Kx (FK.trans f17)
      have lzx := lz Kx ((f79.trans (f10.trans (f11.trans (f12.trans (F15.trans f16))))).trans f17)
      simp [tab, g1, lbx, lzx]
      refine (below_ok b z Kx).mono fun r Ky ⟨e1, f18⟩ => ?_
      subst e1
      simp [tab, g2]
theorem law_in (H : Hp) (x0 x1 : AV) (h0 : SSl 1 1 (SInt .u8) H [x0]) (h1 : SSl 1 1 (SInt .u8) H [x1]) : T Try.prog 10 [x0, x1] H (fun r K => r = .bool true) := by
  obtain ⟨bs, a1, a2, a3⟩ := bytes_open H x0 h0
  obtain ⟨cs, b1, b2, b3⟩ := bytes_open H x1 h1
  exact fnSteps_law x0 x1 bs cs H a1 a2 a3 b1 b2 b3
end Go.Proofs.Ytdbnokeegocpbaa.Am
