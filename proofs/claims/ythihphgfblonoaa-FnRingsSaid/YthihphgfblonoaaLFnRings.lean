/- The law FnRings. No condition. -/
import Derived.Test.YthihphgfblonoaaLMovesTops
import Derived.Test.YthihphgfblonoaaLRingMath
import Derived.Test.YthihphgfblonoaaLBytes
namespace Go.Proofs.Ythihphgfblonoaa.Am
open Go Go.RowKit
set_option linter.unusedSimpArgs false
set_option linter.unusedVariables false

def off (l : List Move) : Nat := (left0 l).length
theorem off_app (p r : List Move) : off (p ++ r) = off p + off r := by simp [off, left0]
theorem off_one (m : Move) : off [m] = if m.fr = m.to then 0 else 1 := by
  by_cases h : m.fr = m.to <;> simp [off, left0, h]
set_option maxHeartbeats 1000000 in
set_option maxRecDepth 100000 in
theorem fnRings_law (v : AV) (bs : List Int) (H : Hp) (hv : Row 1 H v (bytesA bs)) (hb : ∀ y ∈ bs, 0 ≤ y ∧ y ≤ 255) (hbl : bs.length ≤ 140737488355328) : T Try.prog 10 [v] H (fun r K => r = .bool true) := by
  refine T.by tabOk Try.func10 (by kernel_rfl) rfl _ (by simp [Try.f10]) H _ ?_
  have hlv : ∀ e, lenA (.slice e) v = some (.int .i64 bs.length) := fun e => by simpa [bytesA] using hv.len e
  by_cases hbig : 1048576 < (bs.length : Int)
  · simp [Try.f10, tab, hlv, hbig]
  simp [Try.f10, tab, hlv, hbig]
  refine (drawRings_ok v H ⟨bs, hv, hb, by omega⟩).mono fun lv K0 ⟨⟨l, hl, hll⟩, f0⟩ => ?_
  have hm : l.length ≤ 1048576 := by omega
  have hr0 := hl.row
  simp [tab]
  refine (implRingsIn_ok l lv K0 hm hr0).mono fun r K1 ⟨g, e1, us, a1, a2, f1⟩ => ?_
  subst e1
  simp [tab]
  refine (specRingsIn_ok l lv K1 hm (hr0.fr f1)).mono fun r K2 ⟨w, e1, us', b1, b2, f2⟩ => ?_
  subst e1
  simp [tab]
  have F2 := f1.trans f2
  refine (implFew_ok l lv K2 hm (hr0.fr F2)).mono fun r K3 ⟨e1, f3⟩ => ?_
  subst e1
  simp [tab]
  have F3 := F2.trans f3
  refine (specFew_ok l lv K3 hm (hr0.fr F3)).mono fun r K4 ⟨e1, f4⟩ => ?_
  subst e1
  simp [tab]
  have F4 := F3.trans f4
  refine (implNeeds_ok l lv K4 hm (hr0.fr F4)).mono fun r K5 ⟨e1, f5⟩ => ?_
  subst e1
  simp [tab]
  have F5 := F4.trans f5
  refine (specNeeds_ok l lv K5 hm (hr0.fr F5)).mono fun r K6 ⟨e1, f6⟩ => ?_
  subst e1
  have F6 := F5.trans f6
  have hg6 := a1.look.fr (f2.trans (f3.trans (f4.trans (f5.trans f6))))
  have hw6 := b1.look.fr (f3.trans (f4.trans (f5.trans f6)))
  obtain ⟨hc1, hc2⟩ := rres_len l
  simp [tab]
  refine (sameLists_ok _ us us' g w K6 (by omega) (fun L hL => by have := hc2 L hL; omega) hg6 hw6).mono fun r K ⟨e1, e2⟩ => ?_
  subst e1 e2
  have hglen := hg6.count
  by_cases hg : GoodM l
  case neg =>
    simp [tab, rres, yres, needRes, hg, hglen]
  have e1 : rres l = (rings l, true) := by unfold rres; rw [if_pos hg]
  have e2 : yres l = (lay l, true) := by unfold yres; rw [if_pos hg]
  have e3 : needRes l = (decide (0 < (rings l).length), true) := by unfold needRes; rw [if_pos hg]
  rw [e1] at hg6 hglen
  rw [e1] at hc1 hc2
  simp only at hg6 hglen hc1 hc2
  have hrow := hr0.fr F6
  have hlen := hrow.len 51
  simp [tab, e1, e2, e3, hglen, hlen]
  have hcount := lay_count hg
  have hoff : off l ≤ l.length := by simp only [off, left0]; exact List.length_filter_le _ _
  refine W_loop _ fun I hI => ?_
  have key : ∀ (r p : List Move) (ts : TS) (K' : Hp), l = p ++ r → Fr K K' → (ts 3 = lv ∧ ts 4 = g ∧ ts 8 = .int .i64 (lay l).length ∧ ts 12 = .bool (decide (0 < (rings l).length)) ∧ ts 16 = .int .i64 ((rings l).length + off p) ∧ ts 97 = lv ∧ ts 98 = .int .i64 l.length ∧ ts 99 = .int .i64 p.length) → I ts K' := by
    intro r
    induction r with
    | cons a r ih =>
      intro p ts K' e hK hts
      apply hI
      have hlt : (p.length : Int) < l.length := by simp [e]; omega
      obtain ⟨b, q, hbv, x1, x2, -⟩ := hrow.get (tab := tab) (e := 51) (ety := tM) rfl (i := p.length) (a := a) (by simp [e]) .i64
      have x2 := x2 rfl
      have hfr := hK.app' [some ⟨2, true, a.enc⟩]
      have hw := wrap64 (x := (p.length : Int) + 1) (by omega) (by omega)
      have hop : off l = off p + off [a] + off r := by rw [e, off_app, show a :: r = [a] ++ r from rfl, off_app]; omega
      have hw2 := wrap64 (x := (rings l).length + (off p : Int) + 1) (by omega) (by omega)
      have ho1 := off_app p [a]
      have ho2 := off_one a
      by_cases ha : a.fr = a.to
      · rw [if_pos ha] at ho2
        simp (maxDischargeDepth := 9) [hts, tab, hlt, hK.index, hK.load, x1, x2, Move.enc, loadB, ha, hw]
        exact ih (p ++ [a]) _ _ (by simp [e]) (by simpa [Move.enc, ha] using hfr) (by simp [hts, ho1, ho2])
      · rw [if_neg ha] at ho2
        simp (maxDischargeDepth := 9) [hts, tab, hlt, hK.index, hK.load, x1, x2, Move.enc, loadB, ha, hw, hw2]
        exact ih (p ++ [a]) _ _ (by simp [e]) hfr (by simp [hts, ho1, ho2]; omega)
    | nil =>
      intro p ts K' e hK hts
      apply hI
      simp at e
      subst e
      have hgK := hg6.fr hK
      have hrowK := hrow.fr hK
      have hglK := hgK.count
      have hlenK := hrowK.len 51
      have hn : ((lay l).length : Int) = (rings l).length + off l := by unfold off; omega
      simp [hts, tab, hglK, hn]
      refine W_loop _ fun I2 hI2 => ?_
      have key2 : ∀ (R P : List (List Int)) (ts : TS) (K2 : Hp), rings l = P ++ R → Fr K' K2 → (ts 3 = lv ∧ ts 121 = g ∧ ts 122 = .int .i64 (rings l).length ∧ ts 123 = .int .i64 P.length) → I2 ts K2 := by
        intro R
        induction R with
        | nil =>
          intro P ts K2 e hK2 hts
          apply hI2
          simp at e
          simp [hts, tab, e]
        | cons c R ih2 =>
          intro P ts K2 e hK2 hts
          apply hI2
          have hlt : (P.length : Int) < (rings l).length := by simp [e]; omega
          obtain ⟨b, q, u, hu, x1, x2, x3⟩ := (hgK.fr hK2).get (e := 29) rfl (i := P.length) (t := c) (by simp [e])
          obtain ⟨p0, hp0, hring⟩ := rings_mem (l := l) (r := c) (by simp [e])
          obtain ⟨h2, h0, hlow, _, _⟩ := ring_src hring
          have hcl := hc2 c (by simp [e])
          have hlu := x3.len 3
          simp only [ints_length] at hlu
          have hwP := wrap64 (x := (P.length : Int) + 1) (by omega) (by omega)
          simp [hts, tab, hlt, x1, x2, hlu]
          refine W_loop _ fun I3 hI3 => ?_
          have key3 : ∀ (d i : Nat) (ts : TS) (K3 : Hp), i + d = c.length → Fr K2 K3 → (ts 3 = lv ∧ ts 121 = g ∧ ts 122 = .int .i64 (rings l).length ∧ ts 123 = .int .i64 P.length ∧ ts 20 = u ∧ ts 128 = .int .i64 c.length ∧ ts 129 = .int .i64 i) → I3 ts K3 := by
            intro d
            induction d with
            | zero =>
              intro i ts K3 hi hK3 hts
              apply hI3
              obtain rfl : i = c.length := by omega
              simp [hts, tab, hwP]
              exact ih2 (P ++ [c]) _ _ (by simp [e]) (hK2.trans hK3) (by simp [hts])
            | succ d ih3 =>
              intro i ts K3 hi hK3 hts
              apply hI3
              have hilt : (i : Int) < c.length := by omega
              have hin : i < c.length := by omega
              have hj : (i + 1) % c.length < c.length := Nat.mod_lt _ (by omega)
              have y3 := x3.fr hK3
              have hwi := wrap64 (x := (i : Int) + 1) (by omega) (by omega)
              have hcne : c ≠ [] := fun h => by rw [h] at h2; simp at h2
              have htm : ((i : Int) + 1).tmod c.length = ((i + 1) % c.length : Nat) := by rw [Int.tmod_eq_emod_of_nonneg (by omega)]; simp
              obtain ⟨_, _, _, z1, z2⟩ := Row.get1 y3 (tab := tab) (e := 3) (ety := tI) rfl rfl rfl (i := (i + 1) % c.length) (a := c[(i + 1) % c.length]) (List.getElem?_eq_getElem hj) .i64
              obtain ⟨m, hml, hm1, hm2⟩ := ring_tells (by omega) hring i c[i] c[(i + 1) % c.length] (List.getElem?_eq_getElem hin) (List.getElem?_eq_getElem hj)
              generalize c[(i + 1) % c.length] = y at *
              generalize hx : c[i] = x at *
              simp at z1
              have hlen3 := (hrowK.fr (hK2.trans hK3)).len 51
              simp [hts, tab, hilt, hlu, hwi, hcne, htm, z1, z2, hlen3]
              refine W_loop _ fun I4 hI4 => ?_
              have key4 : ∀ (r p : List Move) (B : Bool) (ts : TS) (K4 : Hp), l = p ++ r → (B = true ↔ ∃ m ∈ p, m.fr = x ∧ m.to = y) → Fr K3 K4 → (ts 3 = lv ∧ ts 121 = g ∧ ts 122 = .int .i64 (rings l).length ∧ ts 123 = .int .i64 P.length ∧ ts 20 = u ∧ ts 128 = .int .i64 c.length ∧ ts 129 = .int .i64 i ∧ ts 21 = .int .i64 i ∧ ts 22 = .int .i64 y ∧ ts 23 = .bool B ∧ ts 140 = lv ∧ ts 141 = .int .i64 l.length ∧ ts 142 = .int .i64 p.length) → I4 ts K4 := by
                intro r
                induction r with
                | nil =>
                  intro p B ts K4 el hB hK4 hts
                  apply hI4
                  simp at el
                  subst el
                  have hBt : B = true := hB.2 ⟨m, hml, hm1, hm2⟩
                  subst hBt
                  obtain ⟨_, _, _, s1, s2⟩ := Row.get1 (y3.fr hK4) (tab := tab) (e := 3) (ety := tI) rfl rfl rfl (i := i) (a := x) (by rw [← hx]; exact List.getElem?_eq_getElem hin) .i64
                  obtain ⟨_, _, _, w1, w2⟩ := Row.get1 (y3.fr hK4) (tab := tab) (e := 3) (ety := tI) rfl rfl rfl h0 .i64
                  have hxl : ¬ x < (p0 : Int) := by have := hlow x (by rw [← hx]; exact List.getElem_mem _); omega
                  simp at w1
                  simp [hts, tab]
                  refine W_draw mixed (.look 0 (.look 1 (.look 2 (.look 3 (.look 4 (.look 5 (.look 6 (.look 7 (.look 8 (.look 9 (.look 10 (.look 11 .done)))))))))))) (by kernel_rfl) ?_
                  simp [hts, tab, s1, s2, w1, w2, hxl, hwi]
                  exact ih3 (i + 1) _ _ (by omega) (hK3.trans hK4) (by simp [hts])
                | cons a r ih4 =>
                  intro p B ts K4 el hB hK4 hts
                  apply hI4
                  have hltp : (p.length : Int) < l.length := by simp [el]; omega
                  have hwp := wrap64 (x := (p.length : Int) + 1) (by omega) (by omega)
                  obtain ⟨bb, q, hbv, x1, x2, -⟩ := (hrowK.fr ((hK2.trans hK3).trans hK4)).get (tab := tab) (e := 51) (ety := tM) rfl (i := p.length) (a := a) (by simp [el]) .i64
                  have x2 := x2 rfl
                  obtain ⟨_, _, _, s1, s2⟩ := Row.get1 (y3.fr hK4) (tab := tab) (e := 3) (ety := tI) rfl rfl rfl (i := i) (a := x) (by rw [← hx]; exact List.getElem?_eq_getElem hin) .i64
                  have hfr := hK4.app' [some ⟨2, true, a.enc⟩]
                  have fa : Fr K4 (K4 ++ [some ⟨2, true, a.enc⟩]) := Fr.app K4 _
                  obtain ⟨K5, hK5⟩ : ∃ K5, K5 = K4 ++ [some ⟨2, true, [.int .i64 a.fr, .int .i64 a.to]⟩] := ⟨_, rfl⟩
                  have f5 : Fr K4 K5 := hK5 ▸ Fr.app K4 _
                  have g0 : loadA tI K5 (.ptr K4.length 0) = some (.int .i64 a.fr) := by rw [hK5]; simp [loadB]
                  have g1 : loadA tI K5 (.ptr K4.length 1) = some (.int .i64 a.to) := by rw [hK5]; simp [loadB]
                  obtain ⟨_, _, _, s1, s2⟩ := Row.get1 (y3.fr (hK4.trans f5)) (tab := tab) (e := 3) (ety := tI) rfl rfl rfl (i := i) (a := x) (by rw [← hx]; exact List.getElem?_eq_getElem hin) .i64
                  have hor : ∀ B' : Bool, (B' = true ↔ B = true ∨ a.fr = x ∧ a.to = y) → (B' = true ↔ ∃ m ∈ p ++ [a], m.fr = x ∧ m.to = y) := fun B' h => by
                    rw [h, hB]
                    constructor
                    · rintro (⟨m, h1, h2⟩ | h)
                      · exact ⟨m, by simp [h1], h2⟩
                      · exact ⟨a, by simp, h⟩
                    · rintro ⟨m, h1, h2⟩
                      rcases List.mem_append.1 h1 with h1 | h1
                      · exact .inl ⟨m, h1, h2⟩
                      · simp at h1
                        subst h1
                        exact .inr h2
                  simp (maxDischargeDepth := 9) [hts, tab, hltp, x1, x2, Move.enc]
                  rw [← hK5]
                  refine W_draw mixed (.look 0 (.look 1 (.look 2 (.look 3 (.look 4 (.look 5 (.look 6 (.look 7 (.look 8 (.look 9 (.look 10 (.look 11 (.look 12 (.look 13 (.look 14 (.look 15 (.act 16 [] .done .stop))))))))))))))))) (by kernel_rfl) ?_
                  cases B with
                  | true =>
                    simp [hts, tab, hwp]
                    exact ih4 (p ++ [a]) true _ K5 (by simp [el]) (hor true (by simp)) (hK4.trans f5) (by simp [hts])
                  | false =>
                    by_cases ha : a.fr = x
                    case neg =>
                      simp [hts, tab, s1, s2, g0, g1, hwp, ha]
                      exact ih4 (p ++ [a]) false _ K5 (by simp [el]) (hor false (by simp [ha])) (hK4.trans f5) (by simp [hts])
                    by_cases hb : a.to = y
                    · simp [hts, tab, s1, s2, g0, g1, hwp, ha, hb]
                      exact ih4 (p ++ [a]) true _ K5 (by simp [el]) (hor true (by simp [ha, hb])) (hK4.trans f5) (by simp [hts])
                    · simp [hts, tab, s1, s2, g0, g1, hwp, ha, hb]
                      exact ih4 (p ++ [a]) false _ K5 (by simp [el]) (hor false ⟨fun h => (by cases h), fun h => h.elim id fun h => absurd h.2 hb⟩) (hK4.trans f5) (by simp [hts]; exact hb)
              exact key4 l [] false _ K3 rfl (by simp) (Fr.refl _) (by simp [hts])
          exact key3 c.length 0 _ K2 (by omega) (Fr.refl _) (by simp [hts])
      exact key2 (rings l) [] _ K' rfl (Fr.refl _) (by simp [hts])
  exact key l [] _ K rfl (Fr.refl K) (by simp [off, left0])
theorem law_in (H : Hp) (x0 : AV) (h0 : SSl 1 1 (SInt .u8) H [x0]) : T Try.prog 10 [x0] H (fun r K => r = .bool true) := by
  obtain ⟨bs, a1, a2, a3⟩ := bytes_open H x0 h0
  exact fnRings_law x0 bs H a1 a2 a3
end Go.Proofs.Ythihphgfblonoaa.Am
