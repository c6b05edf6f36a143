/- The law FnRanges. No condition. -/
import Derived.Test.YtfndikfaibbjoaaLRngSpec
import Derived.Test.YtfndikfaibbjoaaLRngDraw
import Derived.Test.YtfndikfaibbjoaaLRun
namespace Go.Proofs.Ytfndikfaibbjoaa.Am
open Go Go.RowKit
set_option linter.unusedSimpArgs false
set_option linter.unusedVariables false

theorem frRes_wide (f : List Bk) (R : List Rng) : ∃ n, n ≤ 8 ∧ Wide n (frRes f R).1 := by
  unfold frRes
  split
  next h =>
    exact ⟨f.length, h.1.1.2, (flowRR_end h.1 h.2).1.wide⟩
  next h => exact ⟨0, by omega, rfl, by simp⟩
/-- The words to begin with: the least, and a byte more where there is room. -/
def wordR (R : List Rng) (cs : List Int) (n : Nat) : Int := if n < cs.length ∧ (rg R n).lo + cs.getD n 0 ≤ (rg R n).hi then (rg R n).lo + cs.getD n 0 else (rg R n).lo
def wordsR (R : List Rng) (cs : List Int) : List Int := (List.range 8).map fun n => wordR R cs n
theorem wordsR_good {R : List Rng} {cs : List Int} (hR : FullR R) (hc : ∀ y ∈ cs, 0 ≤ y ∧ y ≤ 255) : GoodV (wordsR R cs) ∧ HoldsR R (wordsR R cs) := by
  have hget : ∀ i : Int, Nm i → wd (wordsR R cs) i = wordR R cs i.toNat := fun i hi => by
    unfold Nm at hi
    unfold wd wordsR
    rw [List.getD_eq_getElem?_getD, List.getElem?_map, List.getElem?_range (by omega)]
    rfl
  have hw : ∀ n : Nat, n < 8 → (rg R n).em = false ∧ (rg R n).lo ≤ wordR R cs n ∧ wordR R cs n ≤ (rg R n).hi ∧ 0 ≤ (rg R n).lo ∧ (rg R n).hi ≤ 65535 := fun n hn => by
    obtain ⟨h1, h2⟩ := rg_full hR (i := (n : Int)) (by unfold Nm; omega)
    have h3 : 0 ≤ (rg R n).lo ∧ (rg R n).lo ≤ (rg R n).hi ∧ (rg R n).hi ≤ 65535 := by
      rcases h1 with h1 | h1
      · rw [h2] at h1; cases h1.1
      · exact h1.2
    refine ⟨h2, ?_⟩
    unfold wordR
    split
    · rename_i h
      have : 0 ≤ cs.getD n 0 := by
        have := hc (cs.getD n 0) (by rw [List.getD_eq_getElem?_getD, List.getElem?_eq_getElem h.1]; exact List.getElem_mem h.1)
        omega
      omega
    · omega
  refine ⟨⟨by simp [wordsR], fun x hx => ?_⟩, fun i hi => ?_⟩
  · obtain ⟨n, hn, rfl⟩ := List.mem_map.1 hx
    have := hw n (List.mem_range.1 hn)
    omega
  · have h := hw i.toNat (by unfold Nm at hi; omega)
    have hi2 : ((i.toNat : Nat) : Int) = i := by unfold Nm at hi; omega
    rw [hget i hi]
    rw [hi2] at h
    exact ⟨h.1, h.2.1, h.2.2.1⟩
set_option maxHeartbeats 1000000 in
set_option maxRecDepth 100000 in
theorem fnRanges_law (v w : AV) (bs cs : List Int) (H : Hp) (hv : Row 1 H v (bytesA bs)) (hb : ∀ y ∈ bs, 0 ≤ y ∧ y ≤ 255) (hbl : bs.length ≤ 140737488355328) (hw : Row 1 H w (bytesA cs)) (hc : ∀ y ∈ cs, 0 ≤ y ∧ y ≤ 255) (hcl : cs.length ≤ 140737488355328) : T Try.prog 9 [v, w] H (fun r K => r = .bool true) := by
  refine T.by tabOk Try.func9 (by kernel_rfl) rfl _ (by simp [Try.f9]) H _ ?_
  have hlv := hv.len 5
  have hlw := hw.len 5
  have hlv : lenA (.slice 5) v = some (.int .i64 bs.length) := by simpa [bytesA] using hlv
  have hlw : lenA (.slice 5) w = some (.int .i64 cs.length) := by simpa [bytesA] using hlw
  have hsum := wrap64 (x := (bs.length : Int) + cs.length) (by omega) (by omega)
  by_cases hbig : 1048576 < (bs.length : Int) + cs.length
  · simp [Try.f9, tab, hlv, hlw, hsum, hbig]
  simp [Try.f9, tab, hlv, hlw, hsum, hbig]
  refine (drawFlowRngs_ok v H ⟨bs, hv, hb, by omega⟩).mono fun r K0 ⟨⟨fv, rv, f, us, R, e1, hf, hfl, hfc, hR, hRl⟩, f0⟩ => ?_
  subst e1
  have hm : f.length ≤ 1048576 := by omega
  have hmm : ∀ t ∈ f, t.code.length ≤ 1048576 := fun t ht => by have := hfc t ht; omega
  have hmv : R.length ≤ 1048576 := by omega
  simp [tab]
  refine (implFR_ok f us fv R rv K0 hm hmm hmv hf.look hR.row).mono fun r K1 ⟨g1, e1, ⟨u1, a1, _⟩, _, f1⟩ => ?_
  subst e1
  simp [tab]
  refine (specFR_ok f us fv R rv K1 hm hmm hmv (hf.look.fr f1) (hR.row.fr f1)).mono fun r K2 ⟨g2, e1, ⟨u2, a2, _⟩, _, f2⟩ => ?_
  subst e1
  obtain ⟨n, hn, hwide⟩ := frRes_wide f R
  have F2 : Fr K0 K2 := f1.trans f2
  have b1 := a1.fr f2
  have hcnt1 := b1.count
  have hcnt2 := a2.count
  simp only [hwide.1] at hcnt1 hcnt2
  simp [-W_block, tab, hcnt1, hcnt2]
  obtain ⟨W, hW⟩ : ∃ W, W = (frRes f R).1 := ⟨_, rfl⟩
  rw [← hW] at b1 a2 hwide
  refine W_cut (fun ts K => (ts 5 = fv ∧ ts 6 = rv ∧ ts 7 = g1 ∧ ts 1 = w ∧ ts 9 = .bool (frRes f R).2.2) ∧ Fr K2 K) ?_ ?_
  · simp only [W_block]
    refine W_loop _ fun I hI => ?_
    have key : ∀ (d k : Nat) (ts : TS) (K : Hp), k + d = n → Fr K2 K → (ts 5 = fv ∧ ts 6 = rv ∧ ts 7 = g1 ∧ ts 1 = w ∧ ts 9 = .bool (frRes f R).2.2 ∧ ts 10 = g2 ∧ ts 66 = .int .i64 n ∧ ts 67 = .int .i64 k) → I ts K := by
      intro d
      induction d with
      | zero =>
        intro k ts K e hK hts
        apply hI
        obtain rfl : k = n := by omega
        simp [hts, tab]
        exact hK
      | succ d ih =>
        intro k ts K e hK hts
        apply hI
        have hlt : (k : Int) < n := by omega
        obtain ⟨b2, q2, uk, huk, i1, i2, i3, -⟩ := (b1.fr hK).get (e := 39) (ety := tLR) rfl rfl rfl (i := k) (by rw [hwide.1]; omega)
        have hrl := (hwide.row (i := k) (by omega)).1
        have hul := i3.row.len 24
        have hul : lenA (.slice 24) uk = some (.int .i64 8) := by rw [hul]; simp [hrl]
        have hwk := wrap64 (x := (k : Int) + 1) (by omega) (by omega)
        simp [hts, tab, hlt, i1, i2, hul]
        refine W_loop _ fun I2 hI2 => ?_
        have key2 : ∀ (d2 j : Nat) (ts : TS) (K2' : Hp), j + d2 = 8 → Fr K2 K2' → (ts 5 = fv ∧ ts 6 = rv ∧ ts 7 = g1 ∧ ts 1 = w ∧ ts 9 = .bool (frRes f R).2.2 ∧ ts 10 = g2 ∧ ts 66 = .int .i64 n ∧ ts 67 = .int .i64 k ∧ ts 13 = .int .i64 k ∧ ts 74 = .int .i64 8 ∧ ts 75 = .int .i64 j) → I2 ts K2' := by
          intro d2
          induction d2 with
          | zero =>
            intro j ts K2' e2 hK2 hts
            apply hI2
            obtain rfl : j = 8 := by omega
            simp [hts, tab, hwk]
            exact ih (k + 1) _ K2' (by omega) hK2 (by simp [hts])
          | succ d2 ih2 =>
            intro j ts K2' e2 hK2 hts
            apply hI2
            have hj : (j : Int) < 8 := by omega
            have hwj := wrap64 (x := (j : Int) + 1) (by omega) (by omega)
            have hN : Nm (j : Int) := by unfold Nm; omega
            obtain ⟨b4, q4, ul, hul4, l1, l2, l3, -⟩ := (b1.fr hK2).get (e := 39) (ety := tLR) rfl rfl rfl (i := k) (by rw [hwide.1]; omega)
            obtain ⟨b5, q5, um, hum, m1, m2, m3, -⟩ := (a2.fr hK2).get (e := 39) (ety := tLR) rfl rfl rfl (i := k) (by rw [hwide.1]; omega)
            obtain ⟨b6, q6, x1, x2⟩ := getR l3.row hrl hN
            obtain ⟨b7, q7, x3, x4⟩ := getR m3.row hrl hN
            have heq := rng_eql (rg (rowG W k) j) (rg (rowG W k) j)
            simp only [decide_true] at heq
            simp [hts, tab, hj]
            refine W_draw mixed (.look 0 (.look 1 (.look 2 (.look 3 (.look 4 (.look 5 (.look 6 (.look 7 (.look 8 (.look 9 (.look 10 (.look 11 (.look 12 (.look 13 (.look 14 .done))))))))))))))) (by kernel_rfl) ?_
            simp (maxDischargeDepth := 9) [-eqlA, hts, tab, l1, l2, m1, m2, x1, x2, x3, x4, heq, hwj]
            exact ih2 (j + 1) _ K2' (by omega) hK2 (by simp [hts])
        exact key2 8 0 _ K rfl hK (by simp [hts])
    exact key n 0 _ K2 (by omega) (Fr.refl _) (by simp)
  rintro ts K8 ⟨hts, f8⟩
  simp only [post_sq, W_seq]
  by_cases hg : GoodF f ∧ FullR R
  case neg =>
    have hres : (frRes f R).2.2 = false := by unfold frRes; rw [if_neg hg]
    simp [hts, tab, hres]
  have hres : (frRes f R).2.2 = true := by unfold frRes; rw [if_pos hg]
  have hWf : W = (flowRR f R).1 := by rw [hW]; unfold frRes; rw [if_pos hg]
  obtain ⟨hgf, hgR⟩ := hg
  obtain ⟨E1, -⟩ := flowRR_end hgf hgR
  rw [← hWf] at E1
  have hnf : n = f.length := by rw [← hwide.1, E1.wide.1]
  subst hnf
  clear hn hcnt1 hcnt2
  have h8 := hgf.1.2
  have F8 := F2.trans f8
  have hfK := hf.look.fr F8
  have hRK := hR.row.fr F8
  have hwK := hw.fr (f0.trans F8)
  have c1 := b1.fr f8
  obtain ⟨K9, mk1, mk2, mk3⟩ := make_ok (ety := tI) (K := K8) (n := 8) rfl (by decide) (by decide) (by decide)
  obtain ⟨u15, hu15⟩ : ∃ u, u = AV.sl K8.length 0 8 := ⟨_, rfl⟩
  have hfu : Fresh K8.length u15 := fun b hb => by rw [hu15] at hb; cases hb; exact Nat.le_refl _
  have mk1 : makeSliceA tI K8 (.int .i64 8) (.int .i64 8) = some (.sl K8.length 0 8, K9) := mk1
  rw [← hu15] at mk1 mk2
  obtain ⟨hgV, hgH⟩ := wordsR_good (cs := cs) hgR hc
  have hl15 : lenA (.slice 3) u15 = some (.int .i64 8) := by rw [hu15]; rfl
  simp [-W_block, hts, tab, hres, mk1, hl15]
  refine W_cut (fun ts K => (ts 5 = fv ∧ ts 7 = g1 ∧ ts 15 = u15) ∧ Own 1 K u15 (ints (wordsR R cs)) ∧ Fr K8 K) ?_ ?_
  · simp only [W_block]
    refine W_loop _ fun I hI => ?_
    have key : ∀ (d k : Nat) (ts : TS) (K : Hp), k + d = 8 → Own 1 K u15 (ints ((List.range 8).map fun n => if n < k then wordR R cs n else 0)) → Fr K8 K → (ts 5 = fv ∧ ts 6 = rv ∧ ts 7 = g1 ∧ ts 1 = w ∧ ts 15 = u15 ∧ ts 98 = .int .i64 8 ∧ ts 99 = .int .i64 k) → I ts K := by
      intro d
      induction d with
      | zero =>
        intro k ts K e ho hK hts
        apply hI
        obtain rfl : k = 8 := by omega
        have e1 : ((List.range 8).map fun n => if n < 8 then wordR R cs n else 0) = wordsR R cs := by
          unfold wordsR
          refine List.map_congr_left fun n hn => ?_
          rw [if_pos (List.mem_range.1 hn)]
        rw [e1] at ho
        simp [hts, tab]
        exact ⟨ho, hK⟩
      | succ d ih =>
        intro k ts K e ho hK hts
        apply hI
        have hk : (k : Int) < 8 := by omega
        have hN : Nm (k : Int) := by unfold Nm; omega
        have hwk := wrap64 (x := (k : Int) + 1) (by omega) (by omega)
        obtain ⟨L, hL⟩ : ∃ L, L = (List.range 8).map fun n => if n < k then wordR R cs n else 0 := ⟨_, rfl⟩
        have hL8 : L.length = 8 := by rw [hL]; simp
        have hLn : L.set k (wordR R cs k) = (List.range 8).map fun n => if n < k + 1 then wordR R cs n else 0 := by
          rw [hL]
          apply List.ext_getElem?
          intro i
          rw [List.getElem?_set, List.length_map, List.length_range]
          by_cases hik : k = i
          · subst hik
            rw [if_pos rfl, if_pos (by omega), List.getElem?_map, List.getElem?_range (by omega)]
            simp
          · rw [if_neg hik, List.getElem?_map, List.getElem?_map]
            by_cases hi8 : i < 8
            · rw [List.getElem?_range hi8]
              have : i < k ↔ i < k + 1 := by omega
              simp [this]
            · rw [List.getElem?_eq_none (by simp; omega)]
              rfl
        rw [← hL] at ho
        have hput : ∀ (K : Hp) (M : List Int), M.length = 8 → Own 1 K u15 (ints M) → ∀ x : Int, ∃ b, indexAddrA tab (.slice 3) K u15 (.int .i64 k) = some (.ptr b k) ∧ ∃ K', storeA tI K (.ptr b k) (.int .i64 x) = some K' ∧ Own 1 K' u15 (ints (M.set k x)) ∧ Keeps u15.at K K' := by
          intro K M hM h x
          obtain ⟨b, q1, K', q2, q3, q4, q5⟩ := h.putW (i := (k : Int)) (by omega) (by omega) x
          simp only [Int.toNat_natCast] at q1 q2 q3
          exact ⟨b, q1, K', q2, q3, q4⟩
        have fin : ∀ (y : Int) (K' : Hp) (ts' : TS), y = wordR R cs k → Own 1 K' u15 (ints (L.set k y)) → Fr K8 K' → (ts' 5 = fv ∧ ts' 6 = rv ∧ ts' 7 = g1 ∧ ts' 1 = w ∧ ts' 15 = u15 ∧ ts' 98 = .int .i64 8 ∧ ts' 99 = .int .i64 (k + 1)) → I ts' K' := fun y K' ts' hy h1 h2 h3 => ih (k + 1) ts' K' (by omega) (by rw [← hLn, ← hy]; exact h1) h2 (by simp [h3])
        have hget : ∀ (K2 : Hp), Fr K8 K2 → ∃ p q, indexAddrA tab (.slice 24) K2 rv (.int .i64 k) = some (.ptr p q) ∧ loadA tI K2 (.ptr p (q + 1)) = some (.int .i64 (rg R k).lo) ∧ loadA tI K2 (.ptr p (q + 2)) = some (.int .i64 (rg R k).hi) := by
          intro K2 h2
          obtain ⟨p2, t1, -, t3, -, t4⟩ := (hRK.fr h2).get (tab := tab) (e := 24) (ety := tR) rfl (rg_get hRl hN) .i64
          simp only [Int.toNat_natCast] at t3
          have t5 := t4 tI 1 rfl rfl (by decide)
          have t6 := t4 tI 2 rfl rfl (by decide)
          simp only [Rng.enc] at t5 t6
          exact ⟨p2, _, t3, t5, t6⟩
        obtain ⟨hg1, hg2⟩ := rg_full hgR hN
        have hrange := good_range hg1
        obtain ⟨p5, q5, r3, r5, r6⟩ := hget K hK
        obtain ⟨p1, s1, Ka, s2, s3, s4⟩ := hput K L hL8 ho (rg R k).lo
        have hKa : Fr K8 Ka := Fr.then hK s4 hfu
        obtain ⟨p6, q6, y3, y5, y6⟩ := hget Ka hKa
        simp (maxDischargeDepth := 9) [hts, tab, hk, r3, r5, s1, s2]
        refine W_draw mixed (.look 0 (.look 1 (.look 2 (.look 3 (.look 4 (.look 5 (.look 6 (.look 7 (.look 8 (.look 9 (.look 10 (.look 11 (.look 12 (.look 13 (.look 14 (.look 15 (.look 16 (.look 17 (.look 18 (.look 19 (.look 20 (.look 21 (.look 22 .done))))))))))))))))))))))) (by kernel_rfl) ?_
        by_cases hkc : k < cs.length
        · have hkc' : (k : Int) < cs.length := by omega
          have hge : cs[k]? = some cs[k] := List.getElem?_eq_getElem hkc
          have hby := hc cs[k] (List.getElem_mem hkc)
          have hcd : cs.getD k 0 = cs[k] := by rw [List.getD_eq_getElem?_getD, hge]; rfl
          have hwb := wrap64 (x := cs[k]) (by omega) (by omega)
          have hws := wrap64 (x := (rg R k).lo + cs[k]) (by omega) (by omega)
          obtain ⟨pb, qb, _, b1', b2'⟩ := Row.get1 ((hwK).fr hKa) (tab := tab) (e := 5) (ety := tU8) rfl rfl rfl hge .i64
          by_cases hle : (rg R k).lo + cs[k] ≤ (rg R k).hi
          · obtain ⟨p4, v1, Kb, v2, v3, v4⟩ := hput Ka _ (by simpa using hL8) s3 ((rg R k).lo + cs[k])
            rw [List.set_set] at v3
            simp (maxDischargeDepth := 9) [hts, tab, hlw, hkc', y3, y5, y6, b1', b2', hwb, hws, hle]
            refine W_draw mixed (.look 0 (.look 1 (.look 2 (.look 3 (.look 4 (.look 5 (.look 6 (.look 7 (.look 8 (.look 9 (.look 10 (.look 11 (.look 12 (.look 13 (.act 14 [] .done .stop))))))))))))))) (by kernel_rfl) ?_
            simp (maxDischargeDepth := 9) [hts, tab, y3, y5, y6, b1', b2', hwb, hws, v1, v2, hwk]
            exact fin _ Kb _ (by unfold wordR; rw [hcd, if_pos ⟨hkc, hle⟩]) v3 (Fr.then hKa v4 hfu) (by simp [hts])
          · simp (maxDischargeDepth := 9) [hts, tab, hlw, hkc', y3, y5, y6, b1', b2', hwb, hws, hle, hwk]
            exact fin _ Ka _ (by unfold wordR; rw [hcd, if_neg (fun h => hle h.2)]) s3 hKa (by simp [hts])
        · have hkc' : ¬ (k : Int) < cs.length := by omega
          simp (maxDischargeDepth := 9) [hts, tab, hlw, hkc', hwk]
          exact fin _ Ka _ (by unfold wordR; rw [if_neg (fun h => hkc h.1)]) s3 hKa (by simp [hts])
    refine key 8 0 _ K9 rfl ?_ mk3 (by simp [hts])
    have : ints ((List.range 8).map fun n => if n < 0 then wordR R cs n else 0) = List.replicate 8 tI.zero := rfl
    rw [this]
    exact mk2
  clear hts
  rintro ts Ka ⟨hts, ho15, fa⟩
  simp only [post_sq, W_seq]
  simp [-W_block, hts, tab]
  refine (implPath_ok f us fv (wordsR R cs) u15 40 Ka hm hmm (by rw [hgV.1]; decide) (hfK.fr fa) ho15.row).mono fun r Kb ⟨pv, e1, p1, fb⟩ => ?_
  subst e1
  have hpath : pathRes f (wordsR R cs) 40 = ((runFl f 40 0 (wordsR R cs)).2.2.1, true) := by
    unfold pathRes
    rw [if_pos ⟨hgf, hgV, by decide, by decide⟩]
    rfl
  rw [hpath] at p1 ⊢
  simp only at p1 ⊢
  have hpl := p1.len 3
  have hfew := (runFl_few hgf 40 0 _ (by have := hgf.1.1; omega) hgV).2
  generalize hP : (runFl f 40 0 (wordsR R cs)).2.2.1 = P at *
  have Fb : Fr K8 Kb := fa.trans fb
  simp [-W_block, hts, tab, hpl]
  refine W_cut (fun ts K => True) ?_ (fun ts K _ => by simp)
  simp only [W_block]
  refine W_loop _ fun I hI => ?_
  have key : ∀ (rest pre : List Int) (m : Nat) (i : Int) (V : List Int) (ts : TS) (K : Hp) (u : AV), P = pre ++ rest → rest = (runFl f m i V).2.2.1 → GoodV V → i ≤ (f.length : Int) - 1 → (0 ≤ i → HoldsR (rowG W i.toNat) V) → Row 1 K u (ints V) → Fr Kb K → (ts 5 = fv ∧ ts 7 = g1 ∧ ts 15 = u ∧ ts 156 = pv ∧ ts 157 = .int .i64 P.length ∧ ts 158 = .int .i64 pre.length) → I ts K := by
    intro rest
    induction rest with
    | nil =>
      intro pre m i V ts K u e hr hV hi hh hu hK hts
      apply hI
      simp at e
      subst e
      simp [hts, tab]
    | cons k rest ih =>
      intro pre m i V ts K u e hr hV hi hh hu hK hts
      apply hI
      have hneg : ¬ i < 0 := fun h => by rw [runFl_neg f m h] at hr; cases hr
      match m, hr with
      | 0, hr => rw [runFl_none f hneg] at hr; cases hr
      | m + 1, hr =>
      rw [runFl_more f m hneg] at hr
      simp only at hr
      obtain ⟨rfl, hr⟩ : k = i ∧ _ := by injection hr with h1 h2; exact ⟨h1, h2⟩
      have hni : 0 ≤ k := by omega
      have hh := hh hni
      obtain ⟨bg1, bg2⟩ := blk_get (f := f) hni hi
      have hgb := hgf.2 _ bg2
      have hgo := E1.goes hgf bg1 hV hh
      have hrc := runC_good (blkAt f k).code hgb.1.2 hV
      have hfit := goOn_fit hgf bg2 (runC (blkAt f k).code V).2
      generalize hbk : blkAt f k = b at *
      have hkl : k.toNat < f.length := by omega
      have hkc : (k.toNat : Int) = k := Int.toNat_of_nonneg hni
      have hlt : (pre.length : Int) < P.length := by rw [e]; simp; omega
      have hwpre := wrap64 (x := (pre.length : Int) + 1) (by have := hfew.1; omega) (by have := hfew.1; omega)
      obtain ⟨b1', q1, _, x1, x2⟩ := Row.get1 (p1.fr hK) (tab := tab) (e := 3) (ety := tI) rfl rfl rfl (i := pre.length) (a := k) (by rw [e]; simp) .i64
      have hrl := E1.wide.row hkl
      have hgRow : GoodRs (rowG W k.toNat) := by
        rcases E1.rows _ (List.mem_of_getElem? hrl.2) with h | h
        · have h9 := (hh 0 (by unfold Nm; omega)).1
          rw [h] at h9
          cases h9
        · exact h.1
      have hul := hu.len 3
      simp only [ints_length, hV.1] at hul
      simp [hts, tab, hlt, x1, x2, hul]
      refine W_loop _ fun I2 hI2 => ?_
      have key2 : ∀ (d2 j : Nat) (ts : TS) (K2 : Hp), j + d2 = 8 → Fr K K2 → (ts 5 = fv ∧ ts 7 = g1 ∧ ts 15 = u ∧ ts 156 = pv ∧ ts 157 = .int .i64 P.length ∧ ts 158 = .int .i64 pre.length ∧ ts 20 = .int .i64 k ∧ ts 163 = .int .i64 8 ∧ ts 164 = .int .i64 j) → I2 ts K2 := by
        intro d2
        induction d2 with
        | zero =>
          intro j ts K2 e2 hK2 hts
          apply hI2
          obtain rfl : j = 8 := by omega
          obtain ⟨bf, qf, uf, huf, f1', f2', f3'⟩ := (hfK.fr (Fb.trans (hK.trans hK2))).get (e := 78) rfl bg1
          rw [hkc] at f1'
          have hzf : (List.zipWith cellsB f us)[k.toNat]? = some (cellsB b uf) := by rw [List.getElem?_zipWith, huf, bg1]
          have hrowf : Row 4 K2 fv ((List.zipWith cellsB f us).map id) := by simpa using (hfK.fr (Fb.trans (hK.trans hK2))).row
          obtain ⟨b9, o9, _, g1', _, g2'⟩ := Row.get (enc := id) (ety := tK) hrowf (show tab 78 = some tK from rfl) hzf .i64
          rw [hkc, f1'] at g1'
          obtain ⟨rfl, rfl⟩ : bf = b9 ∧ qf = o9 := by simpa using g1'
          have q0 : loadA tLN K2 (.ptr bf qf) = some uf := by simpa [cellsB] using g2' tLN 0 rfl rfl (by decide)
          simp [hts, tab, f1', q0]
          refine (runCode_ok b.code V uf u K2 hgb.1 hV f3' (hu.fr hK2)).mono fun r K3 ⟨o', u', y1, y2, y3, y4, y5, y6⟩ => ?_
          subst y1
          simp [hts, tab, hwpre]
          exact ih (pre ++ [k]) m _ _ _ K3 u' (by simp [e]) hr hrc.1 hfit.2 hgo y3.row (hK.trans (hK2.trans y6)) (by simp [hts])
        | succ d2 ih2 =>
          intro j ts K2 e2 hK2 hts
          apply hI2
          have hj : (j : Int) < 8 := by omega
          have hwj := wrap64 (x := (j : Int) + 1) (by omega) (by omega)
          have hN : Nm (j : Int) := by unfold Nm; omega
          obtain ⟨b2, q2, uk, huk, i1, i2, i3, -⟩ := (c1.fr (Fb.trans (hK.trans hK2))).get (e := 39) (ety := tLR) rfl rfl rfl (i := k.toNat) (by rw [E1.wide.1]; exact hkl)
          rw [hkc] at i1
          obtain ⟨b6, q6, y1, y2⟩ := getR i3.row hrl.1 hN
          obtain ⟨b7, q7, z1, z2⟩ := getW (hu.fr hK2) hV.1 hN
          obtain ⟨ht1, ht2, ht3⟩ := hh j hN
          have hgj := rg_good hgRow hN
          have hwdj : 0 ≤ wd V j ∧ wd V j ≤ 65535 := by have := good_range hgj; omega
          have hin : hasW (rg (rowG W k.toNat) j) (wd V j) = true := by
            unfold hasW okW
            simp [hgj, ht1, ht2, ht3, hwdj]
          simp [hts, tab, hj]
          refine W_draw mixed (.look 0 (.look 1 (.look 2 (.look 3 (.look 4 (.look 5 (.look 6 (.look 7 (.look 8 (.look 9 (.look 10 (.act 11 [] (.look 12 .done) .stop)))))))))))) (by kernel_rfl) ?_
          simp (maxDischargeDepth := 9) [hts, tab, i1, i2, y1, y2, z1, z2]
          refine (inRange_ok _ _ K2).mono fun y K3 ⟨e1, f3⟩ => ?_
          subst e1
          simp (maxDischargeDepth := 9) [hts, tab, hin, f3.index, f3.load, i1, i2, y1, y2, z1, z2, hwj]
          exact ih2 (j + 1) _ K3 (by omega) (hK2.trans f3) (by simp [hts])
      exact key2 8 0 _ K rfl (Fr.refl _) (by simp [hts])
  exact key P [] 40 0 (wordsR R cs) _ Kb u15 rfl hP.symm hgV (by have := hgf.1.1; omega) (fun _ => E1.first _ hgV hgH) (ho15.row.fr fb) (Fr.refl _) (by simp [hts])
theorem law_in (H : Hp) (x0 x1 : AV) (h0 : SSl 1 1 (SInt .u8) H [x0]) (h1 : SSl 1 1 (SInt .u8) H [x1]) : T Try.prog 9 [x0, x1] H (fun r K => r = .bool true) := by
  obtain ⟨bs, a1, a2, a3⟩ := bytes_open H x0 h0
  obtain ⟨cs, b1, b2, b3⟩ := bytes_open H x1 h1
  exact fnRanges_law x0 x1 bs cs H a1 a2 a3 b1 b2 b3
end Go.Proofs.Ytfndikfaibbjoaa.Am
