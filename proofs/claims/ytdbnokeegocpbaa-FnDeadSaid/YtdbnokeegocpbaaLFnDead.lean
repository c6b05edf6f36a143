/- The law FnDead. No condition. -/
import Derived.Test.YtdbnokeegocpbaaLDeadTops
import Derived.Test.YtdbnokeegocpbaaLDeadMath
import Derived.Test.YtdbnokeegocpbaaLDrawFacts
import Derived.Test.YtdbnokeegocpbaaLBytes
namespace Go.Proofs.Ytdbnokeegocpbaa.Am
open Go Go.RowKit
set_option linter.unusedSimpArgs false
set_option linter.unusedVariables false

theorem runRes_few' (f : List Bk) (V : List Int) (fuel : Int) : (runRes f V fuel).1.length ≤ 1048576 := by
  unfold runRes
  split
  · rename_i h
    obtain ⟨h1, h2, h3, h4⟩ := h.1
    have := (runFl_few h1 fuel.toNat 0 V (by have := h1.1.1; omega) h2).1
    simp only
    omega
  · simp
theorem runRes_drop {f : List Bk} (hg : GoodF f) (V : List Int) (fuel : Int) : (runRes (dropAll f) V fuel).1 = (runRes f V fuel).1 ∧ (runRes (dropAll f) V fuel).2.2 = (runRes f V fuel).2.2 := by
  have hg2 := thin_good hg
  by_cases h : GoodV V ∧ 0 ≤ fuel ∧ fuel ≤ 300
  case neg =>
    have e : ∀ g : List Bk, runRes g V fuel = ([], [], 0, false) := fun g => by unfold runRes; rw [if_neg (fun h' => h h'.1.2)]
    rw [e, e]
    exact ⟨rfl, rfl⟩
  obtain ⟨r1, r2⟩ := run_thin hg fuel.toNat 0 V V (by have := hg.1.1; omega) h.1.1 h.1.1 (fun _ n _ _ => rfl)
  unfold runRes
  have c : ∀ g : List Bk, GoodF g → ((GoodF g ∧ GoodV V ∧ 0 ≤ fuel ∧ fuel ≤ 300) ∧ (runFl g fuel.toNat 0 V).2.2.2 = true ↔ (runFl g fuel.toNat 0 V).2.2.2 = true) := fun g hg' => ⟨fun h' => h'.2, fun h' => ⟨⟨hg', h⟩, h'⟩⟩
  rw [r2] at *
  by_cases e : (runFl (dropAll f) fuel.toNat 0 V).2.2.2 = true
  · rw [if_pos ((c _ hg2).2 e), if_pos ⟨⟨hg, h⟩, e⟩]
    exact ⟨r1.symm, rfl⟩
  · rw [if_neg (fun h' => e h'.2), if_neg (fun h' => e h'.2)]
    exact ⟨rfl, rfl⟩
set_option maxHeartbeats 1000000 in
set_option maxRecDepth 100000 in
theorem fnDead_law (v : AV) (bs : List Int) (H : Hp) (hv : Row 1 H v (bytesA bs)) (hb : ∀ y ∈ bs, 0 ≤ y ∧ y ≤ 255) (hbl : bs.length ≤ 140737488355328) : T Try.prog 11 [v] H (fun r K => r = .bool true) := by
  refine T.by tabOk Try.func11 (by kernel_rfl) rfl _ (by simp [Try.f11]) H _ ?_
  have hlv := hv.len 5
  have hlv : lenA (.slice 5) v = some (.int .i64 bs.length) := by simpa [bytesA] using hlv
  by_cases hbig : 1048576 < (bs.length : Int)
  · simp [Try.f11, tab, hlv, hbig]
  simp [Try.f11, tab, hlv, hbig]
  refine (drawRun_ok v H ⟨bs, hv, hb, by omega⟩).mono fun r K0 ⟨⟨fv, wv, f, us, V, fuel, e1, hf, hfl, hfc, hV, hVl⟩, f0⟩ => ?_
  subst e1
  have hm : f.length ≤ 1048576 := by omega
  have hmm : ∀ t ∈ f, t.code.length ≤ 1048576 := fun t ht => by have := hfc t ht; omega
  have hfL := hf.look
  simp [tab]
  refine (implDropDead_ok f us fv K0 hm hmm hfL).mono fun r K1 ⟨d, e1, ⟨ud, a1, _⟩, _, f1⟩ => ?_
  subst e1
  simp [tab]
  have hf1 := hfL.fr f1
  refine (specDropDead_ok f us fv K1 hm hmm hf1).mono fun r K2 ⟨g, e1, ⟨ug, a2⟩, f2⟩ => ?_
  subst e1
  simp [tab]
  have hf2 := hf1.fr f2
  refine (implStrongLive_ok f us fv K2 hm hmm hf2).mono fun r K3 ⟨s, e1, ⟨u3, a3, _⟩, _, f3⟩ => ?_
  subst e1
  simp [tab]
  have hf3 := hf2.fr f3
  refine (specStrongLive_ok f us fv K3 hm hmm hf3).mono fun r K4 ⟨s', e1, ⟨u4, a4⟩, f4⟩ => ?_
  subst e1
  simp [tab]
  have hf4 := hf3.fr f4
  refine (implPlainLive_ok f us fv K4 hm hmm hf4).mono fun r K5 ⟨p, e1, ⟨u5, a5, _⟩, _, f5⟩ => ?_
  subst e1
  simp [tab]
  have hf5 := hf4.fr f5
  refine (specPlainLive_ok f us fv K5 hm hmm hf5).mono fun r K6 ⟨p', e1, ⟨u6, a6⟩, f6⟩ => ?_
  subst e1
  simp [tab]
  have hf6 := hf5.fr f6
  refine (implDeadAt_ok f us fv K6 hm hmm hf6).mono fun r K7 ⟨l, e1, ⟨u7, a7, _⟩, _, f7⟩ => ?_
  subst e1
  simp [tab]
  have hf7 := hf6.fr f7
  refine (specDeadAt_ok f us fv K7 hm hmm hf7).mono fun r K8 ⟨l', e1, ⟨u8, a8⟩, f8⟩ => ?_
  subst e1
  have hf8 := hf7.fr f8
  obtain ⟨d1, d2⟩ := dropRes_few f
  obtain ⟨m1, m2⟩ := liveRes_few false f
  obtain ⟨m3, m4⟩ := liveRes_few true f
  obtain ⟨m5, m6⟩ := deadRes_few f
  have F2 := f2.trans (f3.trans (f4.trans (f5.trans (f6.trans (f7.trans f8)))))
  have F4 := f4.trans (f5.trans (f6.trans (f7.trans f8)))
  have F6 := f6.trans (f7.trans f8)
  have b1 := a1.fr F2
  have b3 := a3.fr F4
  have b5 := a5.fr F6
  have b7 := a7.fr f8
  have dl2 : ∀ t ∈ (dropRes f).1, t.code.length ≤ 1048576 := fun t ht => by have := d2 t ht; omega
  simp [tab]
  refine (sameFlows_ok _ ud ug d g K8 (by omega) dl2 b1.look (a2.fr (f3.trans F4))).mono fun r K ⟨e1, e2⟩ => ?_
  subst e1 e2
  simp [tab]
  refine (sameLists_ok _ u3 u4 s s' K (by omega) (fun L hL => by have := m2 L hL; omega) b3.look (a4.fr (f5.trans F6))).mono fun r K' ⟨e1, e2⟩ => ?_
  subst e1 e2
  simp [tab]
  refine (sameLists_ok _ u5 u6 p p' K' (by omega) (fun L hL => by have := m4 L hL; omega) b5.look (a6.fr (f7.trans f8))).mono fun r K ⟨e1, e2⟩ => ?_
  subst e1 e2
  simp [tab]
  refine (sameLists_ok _ u7 u8 l l' K (by omega) (fun L hL => by have := m6 L hL; omega) b7.look a8).mono fun r K' ⟨e1, e2⟩ => ?_
  subst e1 e2
  by_cases hg : GoodF f
  case neg =>
    have hres : dropRes f = ([], false) := by unfold dropRes; rw [if_neg hg]
    simp [tab, hres]
  have hres : dropRes f = (dropAll f, true) := by unfold dropRes; rw [if_pos hg]
  have hs3 : liveRes false f = (alive false f, true) := by unfold liveRes; rw [if_pos hg]
  have hs5 : liveRes true f = (alive true f, true) := by unfold liveRes; rw [if_pos hg]
  have hs7 : deadRes f = (deadAll f, true) := by unfold deadRes; rw [if_pos hg]
  rw [hres] at b1 d1 d2 dl2
  rw [hs3] at b3 m1 m2
  rw [hs5] at b5 m3 m4
  rw [hs7] at b7 m5 m6
  simp only at b1 b3 b5 b7 d1 d2 dl2 m1 m2 m3 m4 m5 m6
  have hl3 := b3.look.count
  simp only [alive_len] at hl3
  have h8 := hg.1.2
  simp [-W_block, tab, hres, hl3]
  refine W_cut (fun ts K => K = K' ∧ (ts 3 = fv ∧ ts 4 = wv ∧ ts 5 = .int .i64 fuel ∧ ts 6 = d)) ?_ ?_
  · simp only [W_block]
    refine W_loop _ fun I hI => ?_
    have key : ∀ (m k : Nat) (ts : TS), k + m = f.length → (ts 3 = fv ∧ ts 4 = wv ∧ ts 5 = .int .i64 fuel ∧ ts 6 = d ∧ ts 10 = s ∧ ts 14 = p ∧ ts 18 = l ∧ ts 128 = .int .i64 f.length ∧ ts 129 = .int .i64 k) → I ts K' := by
      intro m
      induction m with
      | zero =>
        intro k ts e hts
        apply hI
        obtain rfl : k = f.length := by omega
        simp [hts, tab]
      | succ m ih =>
        intro k ts e hts
        apply hI
        have hkl : k < f.length := by omega
        have hlt : (k : Int) < f.length := by omega
        have hwk := wrap64 (x := (k : Int) + 1) (by omega) (by omega)
        obtain ⟨b, hbk⟩ : ∃ b, f[k]? = some b := ⟨_, List.getElem?_eq_getElem hkl⟩
        have g3 : (alive false f)[k]? = some ((alive false f).getD k []) := by
          rw [List.getD_eq_getElem?_getD, List.getElem?_eq_getElem (by rw [alive_len]; exact hkl)]; rfl
        have g5 : (alive true f)[k]? = some ((alive true f).getD k []) := by
          rw [List.getD_eq_getElem?_getD, List.getElem?_eq_getElem (by rw [alive_len]; exact hkl)]; rfl
        have g7 : (deadAll f)[k]? = some (deadL b.code (behS b (alive false f))) := by unfold deadAll; rw [List.getElem?_map, hbk]; rfl
        have g1 : (dropAll f)[k]? = some (dropB b (deadL b.code (behS b (alive false f)))) := by unfold dropAll; rw [List.getElem?_map, hbk]; rfl
        have hsub := strong_plain f k
        have hS8 := m2 _ (List.mem_of_getElem? g3)
        have hP8 := m4 _ (List.mem_of_getElem? g5)
        obtain ⟨q1, q2, uS, -, i1, i2, i3⟩ := b3.look.get (e := 25) rfl g3
        obtain ⟨q3, q4, uP, -, j1, j2, j3⟩ := b5.look.get (e := 25) rfl g5
        obtain ⟨q5, q6, uL, -, l1, l2, l3⟩ := b7.look.get (e := 25) rfl g7
        obtain ⟨q7, q8, uD, -, n1, n2, -, -, -, n3⟩ := b1.look.fields g1
        obtain ⟨q9, q0, uF, -, o1, o2, -, -, -, o3⟩ := hf8.fields hbk
        have hcnt := count_dead b (behS b (alive false f))
        have hcF := hmm b (List.mem_of_getElem? hbk)
        have hlS := i3.len 3
        have hlL := l3.len 3
        have hlD := n3.len 102
        have hlF := o3.len 102
        simp only [ints_length, List.length_map] at hlS hlL hlD hlF
        have hdc : (dropB b (deadL b.code (behS b (alive false f)))).code.length = (keepF (deadL b.code (behS b (alive false f))) 0 b.code).length := rfl
        rw [hdc] at hlD
        generalize (alive false f).getD k [] = LS at *
        generalize (alive true f).getD k [] = LP at *
        generalize hA : (keepF (deadL b.code (behS b (alive false f))) 0 b.code).length = A at *
        generalize hB : (deadL b.code (behS b (alive false f))).length = B at *
        have hwc := wrap64 (x := (b.code.length : Int)) (by omega) (by omega)
        have hcnt' : (A : Int) + B = b.code.length := by omega
        simp [hts, tab, hlt, i1, i2, hlS]
        refine W_loop _ fun I2 hI2 => ?_
        have key2 : ∀ (r pre : List Int) (ts : TS), LS = pre ++ r → (ts 3 = fv ∧ ts 4 = wv ∧ ts 5 = .int .i64 fuel ∧ ts 6 = d ∧ ts 10 = s ∧ ts 14 = p ∧ ts 18 = l ∧ ts 128 = .int .i64 f.length ∧ ts 129 = .int .i64 k ∧ ts 22 = .int .i64 k ∧ ts 135 = uS ∧ ts 136 = .int .i64 LS.length ∧ ts 137 = .int .i64 pre.length) → I2 ts K' := by
          intro r
          induction r with
          | nil =>
            intro pre ts e2 hts
            apply hI2
            simp at e2
            subst e2
            simp [hts, tab]
            refine W_draw mixed (.look 0 (.look 1 (.look 2 (.look 3 (.look 4 (.look 5 (.look 6 (.look 7 (.look 8 (.look 9 (.look 10 (.look 11 (.look 12 (.look 13 (.look 14 (.look 15 (.look 16 (.look 17 (.look 18 .done))))))))))))))))))) (by kernel_rfl) ?_
            simp (maxDischargeDepth := 9) [hts, tab, n1, n2, hlD, l1, l2, hlL, o1, o2, hlF, hwc, hcnt', hwk]
            exact ih (k + 1) _ (by omega) (by simp [hts])
          | cons x r ih2 =>
            intro pre ts e2 hts
            apply hI2
            have hlt2 : (pre.length : Int) < LS.length := by simp [e2]; omega
            have hwp := wrap64 (x := (pre.length : Int) + 1) (by omega) (by omega)
            obtain ⟨b', q', _, x1, x2⟩ := Row.get1 i3 (tab := tab) (e := 3) (ety := tI) rfl rfl rfl (i := pre.length) (a := x) (by simp [e2]) .i64
            simp (maxDischargeDepth := 9) [hts, tab, hlt2, x1, x2, j1, j2]
            refine (hasI_ok LP uP x K' (by omega) (hsub x (by simp [e2])) j3).mono fun y Ky ⟨y1, y2⟩ => ?_
            subst y1 y2
            simp [hts, tab, hwp]
            exact ih2 (pre ++ [x]) _ (by simp [e2]) (by simp [hts])
        exact key2 LS [] _ rfl (by simp [hts])
    exact key f.length 0 _ (by omega) (by simp)
  rintro ts K ⟨rfl, hts⟩
  simp only [post_sq, W_seq]
  simp [hts, tab]
  have hagain := drop_again hg
  refine (implDropDead_ok (dropAll f) ud d K (by omega) dl2 b1.look).mono fun r K9 ⟨d', e1, ⟨ud', c1, _⟩, _, f9⟩ => ?_
  subst e1
  rw [hagain] at c1
  simp only at c1
  simp [hts, tab, hagain]
  have hVK := hV.row.fr (f1.trans F2)
  refine (implRun_ok f us fv V wv fuel K9 hm hmm (by omega) (hf8.fr f9) (hVK.fr f9)).mono fun r K10 ⟨s1, s2, e1, c2, c3, f10⟩ => ?_
  subst e1
  simp [hts, tab]
  refine (implRun_ok (dropAll f) ud d V wv fuel K10 (by omega) dl2 (by omega) (b1.look.fr (f9.trans f10)) (hVK.fr (f9.trans f10))).mono fun r K11 ⟨s3, s4, e1, c4, c5, f11⟩ => ?_
  subst e1
  obtain ⟨q1, q2⟩ := runRes_drop hg V fuel
  rw [q1] at c4
  simp [hts, tab, q2]
  refine (sameFlows_ok _ ud' ud d' d K11 (by omega) dl2 (c1.look.fr (f10.trans f11)) (b1.look.fr (f9.trans (f10.trans f11)))).mono fun r K ⟨e1, e2⟩ => ?_
  subst e1 e2
  simp [hts, tab]
  refine (sameInts_ok _ s1 s3 K (runRes_few' f V fuel) (c2.fr f11) c4).mono fun r K ⟨e1, e2⟩ => ?_
  subst e1 e2
  simp [hts, tab]
theorem law_in (H : Hp) (x0 : AV) (h0 : SSl 1 1 (SInt .u8) H [x0]) : T Try.prog 11 [x0] H (fun r K => r = .bool true) := by
  obtain ⟨bs, a1, a2, a3⟩ := bytes_open H x0 h0
  exact fnDead_law x0 bs H a1 a2 a3
end Go.Proofs.Ytdbnokeegocpbaa.Am
