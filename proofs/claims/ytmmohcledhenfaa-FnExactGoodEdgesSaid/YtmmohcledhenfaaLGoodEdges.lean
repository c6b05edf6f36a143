import Derived.Test.YtmmohcledhenfaaAmT
import Derived.Test.YtmmohcledhenfaaAmOpen
namespace Go.Proofs.Ytmmohcledhenfaa.Am
open Go Go.RowKit
set_option linter.unusedSimpArgs false
set_option linter.unusedVariables false

structure Edge where
  fr : Int
  to : Int
  cn : Int
  deriving DecidableEq
def Edge.enc (m : Edge) : List AV := [.int .i64 m.fr, .int .i64 m.to, .int .i64 m.cn]
abbrev tE : Ty := ⟨.struct [(0, 3), (1, 3), (2, 3)], 3, 24, [.int .i64 0, .int .i64 0, .int .i64 0], false⟩

theorem l1In_ok (x a b : Int) (H : Hp) : T Try.prog 47 [.int .i64 x, .int .i64 a, .int .i64 b] H (fun r H' => r = .bool (decide (a ≤ x ∧ x ≤ b)) ∧ H' = H) := by
  refine T.by tabOk Try.func47 (by kernel_rfl) rfl _ (by simp [Try.f47]) H _ ?_
  by_cases h1 : a ≤ x <;> by_cases h2 : x ≤ b <;> simp [Try.f47, tab, h1, h2]
theorem in_ok (x a b : Int) (H : Hp) : T Try.prog 57 [.int .i64 x, .int .i64 a, .int .i64 b] H (fun r H' => r = .bool (decide (a ≤ x ∧ x ≤ b)) ∧ H' = H) := by
  refine T.by tabOk Try.func57 (by kernel_rfl) rfl _ (by simp [Try.f57]) H _ ?_
  by_cases h1 : a ≤ x <;> by_cases h2 : x ≤ b <;> simp [Try.f57, tab, h1, h2]
theorem toEdge_ok (e : Edge) (H : Hp) : T Try.prog 48 [.agg e.enc] H (fun r H' => r = .agg e.enc ∧ Fr H H') := by
  refine T.by tabOk Try.func48 (by kernel_rfl) rfl _ (by simp [Try.f48]) H _ ?_
  simp [Try.f48, tab, Edge.enc]
  exact Fr.app _ _
theorem eqEdge_ok (a b : Edge) (H : Hp) : T Try.prog 50 [.agg a.enc, .agg b.enc] H (fun r H' => r = .bool (decide (a = b)) ∧ Fr H H') := by
  refine T.by tabOk Try.func50 (by kernel_rfl) rfl _ (by simp [Try.f50]) H _ ?_
  obtain ⟨a1, a2, a3⟩ := a
  obtain ⟨b1, b2, b3⟩ := b
  by_cases h1 : a1 = b1 <;> by_cases h2 : a2 = b2 <;> by_cases h3 : a3 = b3 <;> simp [Try.f50, tab, Edge.enc, h1, h2, h3] <;> exact Fr.app _ _
theorem toEdgeS_ok (l : List Edge) (v : AV) (H : Hp) (hm : l.length ≤ 1048576) (hv : Row 3 H v (l.map Edge.enc)) : T Try.prog 17 [v] H (fun r H' => Own 3 H' r (l.map Edge.enc) ∧ Fresh H.length r ∧ Fr H H') := by
  refine T.by tabOk Try.func17 (by kernel_rfl) rfl _ (by simp [Try.f17]) H _ ?_
  have hlen := hv.len 73
  obtain ⟨K0, m1, m2, m3⟩ := make_ok (ety := tE) (K := H) (n := l.length) rfl (by decide) (by simp; omega) (by omega)
  simp [Try.f17, tab, hlen, m1]
  refine W_loop _ fun I hI => ?_
  have key : ∀ (r p : List Edge) (ts : TS) (K : Hp) (out : AV), l = p ++ r → Fr H K → Fresh H.length out → Own 3 K out (p.map Edge.enc ++ List.replicate r.length tE.zero) → (ts 0 = v ∧ ts 3 = out ∧ ts 4 = .int .i64 p.length) → I ts K := by
    intro r
    induction r with
    | nil =>
      intro p ts K out hl hK hf ho hts
      apply hI
      simp at hl
      subst hl
      simp (maxDischargeDepth := 9) [hts, hlen, tab]
      exact ⟨by simpa using ho, hf, hK⟩
    | cons a r ih =>
      intro p ts K out hl hK hf ho hts
      apply hI
      have hlt : (p.length : Int) < l.length := by simp [hl]; omega
      obtain ⟨b, q, hb, e1, e2, -⟩ := hv.get (tab := tab) (e := 73) (ety := tE) rfl (i := p.length) (a := a) (by simp [hl]) .i64
      have e2 := e2 rfl
      simp (maxDischargeDepth := 9) [hts, hlen, tab, hlt, hK.index, hK.load, e1, e2]
      refine (toEdge_ok a K).mono fun x K1 ⟨hx, h1⟩ => ?_
      subst hx
      obtain ⟨b', rfl, f1, f2⟩ := (ho.fr h1).store (tab := tab) (e := 70) (ety := tE) rfl (i := p.length) (c := tE.zero) (by simp) .i64
      obtain ⟨K2, f3, f4, f5, f6⟩ := f2 tE 0 (.agg a.enc) rfl rfl (by decide)
      have hw := wrap64 (x := p.length + 1) (by omega) (by omega)
      simp at f1 f3
      simp (maxDischargeDepth := 9) [hts, tab, f1, f3, hw]
      refine ih (p ++ [a]) _ _ _ (by simp [hl]) (Fr.then (hK.trans h1) f5 hf) hf ?_ (by simp (maxDischargeDepth := 9) [hts])
      have e : (List.map Edge.enc p ++ List.replicate (a :: r).length tE.zero).set p.length (over tE.zero 0 a.enc) = List.map Edge.enc (p ++ [a]) ++ List.replicate r.length tE.zero := by
        simp [List.replicate_succ, Edge.enc]
      simp only [AV.cells, e] at f4
      exact f4
  refine key l [] _ _ _ rfl m3 ?_ ?_ ⟨rfl, rfl, rfl⟩
  · intro b hb; cases hb; exact Nat.le_refl _
  · simpa using m2
theorem eqEdgeS_ok (l l' : List Edge) (v v' : AV) (H : Hp) (hm : l.length ≤ 1048576) (hv : Row 3 H v (l.map Edge.enc)) (hv' : Row 3 H v' (l'.map Edge.enc)) : T Try.prog 19 [v, v'] H (fun r H' => r = .bool (decide (l = l')) ∧ Fr H H') := by
  refine T.by tabOk Try.func19 (by kernel_rfl) rfl _ (by simp [Try.f19]) H _ ?_
  have hlen := hv.len 70
  have hlen' := hv'.len 70
  by_cases hl : l.length = l'.length
  case neg =>
    have hne : (l.length : Int) ≠ l'.length := by omega
    have hne2 : l ≠ l' := fun e => hl (by rw [e])
    simp [Try.f19, tab, hlen, hlen', hne, hne2]
    exact Fr.refl H
  simp [Try.f19, tab, hlen, hlen', hl]
  refine W_loop _ fun I hI => ?_
  have key : ∀ (r p r' : List Edge) (ts : TS) (K : Hp), l = p ++ r → l' = p ++ r' → Fr H K → (ts 0 = v ∧ ts 1 = v' ∧ ts 5 = .int .i64 p.length) → I ts K := by
    intro r
    induction r with
    | nil =>
      intro p r' ts K e e' hK hts
      apply hI
      obtain _ | ⟨a', r'⟩ := r'
      case cons => simp [e, e'] at hl
      simp at e e'
      subst e e'
      simp (maxDischargeDepth := 9) [hts, hlen, tab, hK]
    | cons a r ih =>
      intro p r' ts K e e' hK hts
      obtain _ | ⟨a', r'⟩ := r'
      · simp [e, e'] at hl
      apply hI
      have hlt : (p.length : Int) < l.length := by simp [e]; omega
      obtain ⟨b, q, hb, e1, e2, -⟩ := hv.get (tab := tab) (e := 70) (ety := tE) rfl (i := p.length) (a := a) (by simp [e]) .i64
      have e2 := e2 rfl
      obtain ⟨b', q', hb', e1', e2', -⟩ := hv'.get (tab := tab) (e := 70) (ety := tE) rfl (i := p.length) (a := a') (by simp [e']) .i64
      have e2' := e2' rfl
      simp (maxDischargeDepth := 9) [hts, hlen, tab, hlt]
      refine W_draw mixed (.look 0 (.look 1 (.look 2 (.look 3 (.look 4 (.look 5 (.look 6 (.look 7 (.act 8 [] (.look 9 .done) .stop))))))))) (by kernel_rfl) ?_
      simp (maxDischargeDepth := 9) [hts, hlen, tab, hlt, hK.index, hK.load, e1, e2, e1', e2']
      refine (eqEdge_ok a a' K).mono fun x K1 ⟨hx, h1⟩ => ?_
      subst hx
      by_cases ha : a = a'
      · subst ha
        have hw := wrap64 (x := p.length + 1) (by omega) (by omega)
        simp (maxDischargeDepth := 9) [hts, hw]
        exact ih (p ++ [a]) r' _ _ (by simp [e]) (by simp [e']) (hK.trans h1) (by simp (maxDischargeDepth := 9) [hts])
      · simp [ha, hts, e, e']
        exact hK.trans h1
  exact key l [] l' _ _ rfl rfl (Fr.refl H) (by simp)
def OkE (n : Int) (a : Edge) : Prop := 0 ≤ a.fr ∧ a.fr < n ∧ 0 ≤ a.to ∧ a.to < n ∧ 0 ≤ a.cn ∧ a.cn ≤ 100000
def Same (a b : Edge) : Prop := a.fr = b.fr ∧ a.to = b.to
def Good (n : Int) (l : List Edge) : Prop := 1 ≤ n ∧ n ≤ 8 ∧ l.length ≤ 20 ∧ (∀ a ∈ l, OkE n a) ∧ l.Pairwise fun a b => ¬ Same a b
theorem l11Blocks_ok (n : Int) (H : Hp) : T Try.prog 44 [.int .i64 n] H (fun r H' => r = .bool (decide (1 ≤ n ∧ n ≤ 8)) ∧ H' = H) := by
  refine T.by tabOk Try.func44 (by kernel_rfl) rfl _ (by simp [Try.f44]) H _ ?_
  simp [Try.f44, tab]
  refine (l1In_ok n 1 8 H).mono fun r H' ⟨e, h⟩ => ?_
  subst e h
  simp
set_option maxRecDepth 100000 in
theorem spec_ok (n : Int) (l : List Edge) (v : AV) (H : Hp) (hm : l.length ≤ 1048576) (hv : Row 3 H v (l.map Edge.enc)) : T Try.prog 16 [.int .i64 n, v] H (Told (Good n l) H) := by
  refine T.by tabOk Try.func16 (by kernel_rfl) rfl _ (by simp [Try.f16]) H _ ?_
  have hlen := hv.len 70
  have hlive := hv.live
  simp [Try.f16, tab, hlen]
  refine W_loop _ fun I hI => ?_
  have key : ∀ (r p : List Edge) (ts : TS) (K : Hp), l = p ++ r → Fr H K → (∀ a ∈ p, OkE n a) → (p.Pairwise fun a b => ¬ Same a b) → (ts 0 = .int .i64 n ∧ ts 1 = v ∧ ts 9 = v ∧ ts 10 = .int .i64 l.length ∧ ts 11 = .int .i64 p.length) → I ts K := by
    intro r
    induction r with
    | nil =>
      intro p ts K e hK h1 h2 hts
      apply hI
      simp at e
      subst e
      simp (maxDischargeDepth := 9) [hts, hlen, tab]
      refine (l11Blocks_ok n K).mono fun x K1 ⟨hx, hk⟩ => ?_
      subst hx hk
      by_cases hn : 1 ≤ n ∧ n ≤ 8
      · simp [hn, hts, hlen, tab]
        refine Told.of ?_ hK
        simp
        constructor
        · intro h; exact ⟨hn.1, hn.2, by omega, h1, h2⟩
        · intro h; have := h.2.2.1; omega
      · simp [hn, hts, hlen, tab]
        exact Told.no (fun h => hn ⟨h.1, h.2.1⟩) hK
    | cons a r ih =>
      intro p ts K e hK h1 h2 hts
      apply hI
      have hlt : (p.length : Int) < l.length := by simp [e]; omega
      obtain ⟨b, q, hb, e1, e2, -⟩ := hv.get (tab := tab) (e := 70) (ety := tE) rfl (i := p.length) (a := a) (by simp [e]) .i64
      have e2 := e2 rfl
      have bad : ¬ OkE n a → ¬ Good n l := fun h g => h (g.2.2.2.1 a (by simp [e]))
      have hfr := hK.app' [some ⟨3, true, a.enc⟩]
      by_cases c1 : a.fr < 0
      · have := bad (by unfold OkE; omega)
        simp (maxDischargeDepth := 9) [hts, hlen, tab, hlt, hK.index, hK.load, e1, e2, Edge.enc, c1]
        exact Told.no this hfr
      by_cases c2 : n ≤ a.fr
      · have := bad (by unfold OkE; omega)
        simp (maxDischargeDepth := 9) [hts, hlen, tab, hlt, hK.index, hK.load, e1, e2, Edge.enc, c1, c2]
        exact Told.no this hfr
      by_cases c3 : a.to < 0
      · have := bad (by unfold OkE; omega)
        simp (maxDischargeDepth := 9) [hts, hlen, tab, hlt, hK.index, hK.load, e1, e2, Edge.enc, c1, c2, c3]
        exact Told.no this hfr
      by_cases c4 : n ≤ a.to
      · have := bad (by unfold OkE; omega)
        simp (maxDischargeDepth := 9) [hts, hlen, tab, hlt, hK.index, hK.load, e1, e2, Edge.enc, c1, c2, c3, c4]
        exact Told.no this hfr
      simp (maxDischargeDepth := 9) [hts, hlen, tab, hlt, hK.index, hK.load, e1, e2, Edge.enc, c1, c2, c3, c4]
      refine (l1In_ok _ _ _ _).mono fun x K1 ⟨hx, hk⟩ => ?_
      subst hx hk
      by_cases c5 : 0 ≤ a.cn ∧ a.cn ≤ 100000
      case neg =>
        have := bad (by unfold OkE; omega)
        simp (maxDischargeDepth := 9) [hts, c5]
        exact Told.no this hfr
      have hok : OkE n a := ⟨by omega, by omega, by omega, by omega, c5.1, c5.2⟩
      obtain ⟨u, hu, hru, _⟩ := hv.part 0 p.length (Nat.zero_le _) (by simp [e]) none (some (.int .i64 p.length)) rfl rfl
      have hpe : ((l.map Edge.enc).drop 0).take (p.length - 0) = p.map Edge.enc := by simp [e, List.map_take]
      rw [hpe] at hru
      have hulen := hru.len 70
      simp (maxDischargeDepth := 9) [hts, c5, tab, hK.live, hlive, hu, hulen]
      refine W_loop _ fun I2 hI2 => ?_
      have key2 : ∀ (r2 p2 : List Edge) (ts : TS) (K2 : Hp), p = p2 ++ r2 → Fr (K ++ [some ⟨3, true, a.enc⟩]) K2 → (∀ b ∈ p2, ¬ Same b a) → (ts 0 = .int .i64 n ∧ ts 1 = v ∧ ts 9 = v ∧ ts 10 = .int .i64 l.length ∧ ts 11 = .int .i64 p.length ∧ ts 6 = .ptr K.length 0 ∧ ts 44 = u ∧ ts 45 = .int .i64 p.length ∧ ts 46 = .int .i64 p2.length) → I2 ts K2 := by
        intro r2
        induction r2 with
        | nil =>
          intro p2 ts K2 ep hK2 hb hts
          apply hI2
          simp at ep
          subst ep
          have hw := wrap64 (x := p.length + 1) (by omega) (by omega)
          simp (maxDischargeDepth := 9) [hts, hw]
          refine ih (p ++ [a]) _ _ (by simp [e]) (hfr.trans hK2) ?_ ?_ (by simp (maxDischargeDepth := 9) [hts])
          · intro b hb; simp at hb; rcases hb with hb | rfl
            · exact h1 b hb
            · exact hok
          · rw [List.pairwise_append]
            refine ⟨h2, by simp, fun x hx y hy => ?_⟩
            simp at hy
            subst hy
            exact hb x hx
        | cons a2 r2 ih2 =>
          intro p2 ts K2 ep hK2 hb hts
          apply hI2
          have hlt2 : (p2.length : Int) < p.length := by simp [ep]; omega
          obtain ⟨b, q, hb2, f1, f2, -⟩ := hru.get (tab := tab) (e := 70) (ety := tE) rfl (i := p2.length) (a := a2) (by simp [ep]) .i64
          have f2 := f2 rfl
          have hKK : Fr H K2 := Keeps.trans hfr hK2
          by_cases d1 : a2.fr = a.fr <;> by_cases d2 : a2.to = a.to
          · have : ¬ Good n l := fun g => by
              have := g.2.2.2.2
              rw [e, List.pairwise_append] at this
              exact this.2.2 a2 (by simp [ep]) a (by simp) ⟨d1, d2⟩
            simp (maxDischargeDepth := 9) [hts, hlt2, tab, hKK.index, hKK.load, hK2.load, f1, f2, Edge.enc, d1, d2]
            exact Told.no this (Fr.app' (hfr.trans hK2) _)
          all_goals
            have hw := wrap64 (x := p2.length + 1) (by omega) (by omega)
            simp (maxDischargeDepth := 9) [hts, hlt2, tab, hKK.index, hKK.load, hK2.load, f1, f2, Edge.enc, d1, d2, hw]
            refine ih2 (p2 ++ [a2]) _ _ (by simp [ep]) (Fr.app' hK2 _) ?_ (by simp (maxDischargeDepth := 9) [hts])
            intro b hb'
            simp at hb'
            rcases hb' with hb' | rfl
            · exact hb b hb'
            · unfold Same; simp [d1, d2]
      exact key2 p [] _ _ rfl (Fr.refl _) (by simp) (by simp (maxDischargeDepth := 9) [hts])
  exact key l [] _ _ rfl (Fr.refl H) (by simp) (by simp) (by simp)
/-- What has been seen. -/
def seenAt (p : List Edge) (i j : Nat) : Bool := p.any fun b => b.fr == (i : Int) && b.to == (j : Int)
def SeenIs (cells : List AV) (p : List Edge) : Prop := cells.length = 64 ∧ ∀ i j, i < 8 → j < 8 → cells[i * 8 + j]? = some (.bool (seenAt p i j))
set_option maxRecDepth 100000 in
theorem areEdges_ok (n : Int) (l : List Edge) (v : AV) (H : Hp) (hm : l.length ≤ 1048576) (hv : Row 3 H v (l.map Edge.enc)) : T Try.prog 49 [.int .i64 n, v] H (Told (Good n l) H) := by
  refine T.by tabOk Try.func49 (by kernel_rfl) rfl _ (by simp [Try.f49]) H _ ?_
  have hlen := hv.len 70
  simp [Try.f49]
  refine (in_ok _ _ _ _).mono fun x K1 ⟨hx, hk⟩ => ?_
  subst hx hk
  by_cases hn : 1 ≤ n ∧ n ≤ 8
  case neg =>
    simp [hn, tab, hlen]
    exact Told.no (fun h => hn ⟨h.1, h.2.1⟩) (Fr.refl _)
  by_cases hl20 : 20 < l.length
  case pos =>
    have : (20 : Int) < l.length := by omega
    simp [hn, tab, hlen, this]
    exact Told.no (fun h => by have := h.2.2.1; omega) (Fr.refl _)
  have hl20' : ¬ (20 : Int) < l.length := by omega
  simp [hn, tab, hlen, hl20', buildA, -List.reduceReplicate]
  refine W_loop _ fun I hI => ?_
  have key : ∀ (r p : List Edge) (ts : TS) (K : Hp) (cells : List AV), l = p ++ r → Fr K1 K → K[K1.length]? = some (some ⟨64, true, cells⟩) → SeenIs cells p → (∀ a ∈ p, OkE n a) → (p.Pairwise fun a b => ¬ Same a b) → (ts 0 = .int .i64 n ∧ ts 1 = v ∧ ts 5 = .ptr K1.length 0 ∧ ts 17 = v ∧ ts 18 = .int .i64 l.length ∧ ts 19 = .int .i64 p.length) → I ts K := by
    intro r
    induction r with
    | nil =>
      intro p ts K cells e hK hb hs h1 h2 hts
      apply hI
      simp at e
      subst e
      simp [hts, tab]
      exact Told.yes ⟨hn.1, hn.2, by omega, h1, h2⟩ hK
    | cons a r ih =>
      intro p ts K cells e hK hb hs h1 h2 hts
      apply hI
      have hlt : (p.length : Int) < l.length := by simp [e]; omega
      obtain ⟨b, q, hbv, e1, e2, -⟩ := hv.get (tab := tab) (e := 70) (ety := tE) rfl (i := p.length) (a := a) (by simp [e]) .i64
      have e2 := e2 rfl
      have bad : ¬ OkE n a → ¬ Good n l := fun h g => h (g.2.2.2.1 a (by simp [e]))
      have hfr := hK.app' [some ⟨3, true, a.enc⟩]
      have hn1 := wrap64 (x := n - 1) (by omega) (by omega)
      simp (maxDischargeDepth := 9) [hts, tab, hlt, hK.index, hK.load, e1, e2, Edge.enc]
      refine W_draw mixed (.look 0 (.look 1 (.look 2 (.look 3 (.act 4 [] (.look 5 (.look 6 (.look 7 (.look 8 (.look 9 (.look 10 (.act 11 [] (.look 12 (.look 13 (.look 14 (.look 15 (.look 16 (.act 17 [] (.look 18 (.look 19 (.look 20 (.look 21 (.look 22 (.look 23 (.look 24 (.look 25 (.look 26 (.look 27 (.look 28 .done))))))))))) .stop)))))) .stop))))))) .stop))))) (by kernel_rfl) ?_
      simp (maxDischargeDepth := 9) [hts, tab, hn1]
      refine (in_ok _ _ _ _).mono fun x K2 ⟨hx, hk⟩ => ?_
      subst hx hk
      by_cases c1 : 0 ≤ a.fr ∧ a.fr ≤ n - 1
      case neg =>
        simp [hts, c1, tab]
        exact Told.no (bad (by unfold OkE; omega)) hfr
      simp [hts, c1, tab, hn1]
      refine (in_ok _ _ _ _).mono fun x K2 ⟨hx, hk⟩ => ?_
      subst hx hk
      by_cases c2 : 0 ≤ a.to ∧ a.to ≤ n - 1
      case neg =>
        simp [hts, c2, tab]
        exact Told.no (bad (by unfold OkE; omega)) hfr
      simp [hts, c2, tab, hn1]
      refine (in_ok _ _ _ _).mono fun x K2 ⟨hx, hk⟩ => ?_
      subst hx hk
      by_cases c3 : 0 ≤ a.cn ∧ a.cn ≤ 100000
      case neg =>
        simp [hts, c3, tab]
        exact Told.no (bad (by unfold OkE; omega)) hfr
      obtain ⟨fr, to, cn⟩ := a
      simp only at c1 c2 c3
      obtain ⟨i, rfl⟩ := Int.eq_ofNat_of_zero_le c1.1
      obtain ⟨j, rfl⟩ := Int.eq_ofNat_of_zero_le c2.1
      have hi : i < 8 := by omega
      have hj : j < 8 := by omega
      have hi' : (i : Int) < 8 := by omega
      have hj' : (j : Int) < 8 := by omega
      have hok : OkE n ⟨i, j, cn⟩ := ⟨by simp, by simp; omega, by simp, by simp; omega, c3.1, c3.2⟩
      have hld := load_at hb (ty := ⟨.bool, 1, 1, [.bool false], false⟩) rfl rfl (hs.2 i j hi hj)
      simp (maxDischargeDepth := 9) [hts, c3, tab, hi', hj', indexAddrA, hld]
      cases hse : seenAt p i j with
      | true =>
        simp [hts, hse]
        refine Told.no (fun g => ?_) hfr
        have g5 := g.2.2.2.2
        rw [e, List.pairwise_append] at g5
        simp [seenAt] at hse
        obtain ⟨b, hb1, hb2, hb3⟩ := hse
        exact g5.2.2 b hb1 ⟨i, j, cn⟩ (by simp) ⟨hb2, hb3⟩
      | false =>
        simp [hts, hse]
        refine W_draw mixed (.look 0 (.look 1 (.look 2 (.look 3 (.look 4 (.look 5 (.act 6 [] .done .stop))))))) (by kernel_rfl) ?_
        have hb' : (K ++ [some ⟨3, true, [.int .i64 i, .int .i64 j, .int .i64 cn]⟩])[K1.length]? = some (some ⟨64, true, cells⟩) := (Fr.app K _).2 _ _ hb id
        obtain ⟨K3, s1, s2, s3, s4⟩ := store_at hb' rfl (ty := ⟨.bool, 1, 1, [.bool false], false⟩) (o := i * 8 + j) (v := .bool true) rfl rfl (by simp [hs.1]; omega)
        have hw := wrap64 (x := p.length + 1) (by omega) (by omega)
        simp (maxDischargeDepth := 9) [hts, tab, hi', hj', indexAddrA, s1, hw]
        refine ih (p ++ [⟨i, j, cn⟩]) _ _ _ (by simp [e]) (Fr.then hfr s3 (by rintro b rfl; exact Nat.le_refl _)) s2 ?_ ?_ ?_ (by simp [hts])
        · refine ⟨by rw [over_length _ _ _ (by simp [hs.1, AV.cells]; omega)]; exact hs.1, fun i' j' hi2 hj2 => ?_⟩
          rw [over_get _ _ _ (by simp [hs.1]; omega)]
          by_cases e1 : i' = i
          · subst e1
            by_cases e2 : j' = j
            · subst e2
              simp [AV.cells, seenAt]
            · rw [if_neg (by simp [AV.cells]; omega), hs.2 i' j' hi2 hj2]
              have : ¬ (j : Int) = j' := by omega
              simp [seenAt, this]
          · rw [if_neg (by simp [AV.cells]; omega), hs.2 i' j' hi2 hj2]
            have : ¬ (i : Int) = i' := by omega
            simp [seenAt, this]
        · intro b hb; simp at hb; rcases hb with hb | rfl
          · exact h1 b hb
          · exact hok
        · rw [List.pairwise_append]
          refine ⟨h2, by simp, fun x hx y hy => ?_⟩
          simp at hy
          subst hy
          intro hsame
          have : seenAt p i j = true := by simp [seenAt]; exact ⟨x, hx, hsame.1, hsame.2⟩
          rw [hse] at this
          cases this
  refine key l [] _ _ (List.replicate 64 (.bool false)) rfl (Fr.app _ _) (by simp) ?_ (by simp) (by simp) (by simp)
  refine ⟨by simp, fun i j hi hj => ?_⟩
  simp only [List.getElem?_replicate, seenAt]
  rw [if_pos (by omega)]
  rfl
theorem impl_ok (n : Int) (l : List Edge) (v : AV) (H : Hp) (hm : l.length ≤ 1048576) (hv : Row 3 H v (l.map Edge.enc)) : T Try.prog 18 [.int .i64 n, v] H (Told (Good n l) H) := by
  refine T.by tabOk Try.func18 (by kernel_rfl) rfl _ (by simp [Try.f18]) H _ ?_
  simp [Try.f18]
  refine (areEdges_ok n l v H hm hv).mono fun r K ⟨⟨t, h1, h2⟩, h3⟩ => ?_
  subst h1
  simp
  exact Told.of h2 h3
theorem szEdgeS_ok (l : List Edge) (v : AV) (H : Hp) (hm : l.length ≤ 140737488355328) (hv : Row 3 H v (l.map Edge.enc)) : T Try.prog 15 [v, .int .i64 1048576] H (fun r K => r = .int .i64 (if 1048576 < l.length then -1 else 1048576 - l.length) ∧ K = H) := by
  refine T.by tabOk Try.func15 (by kernel_rfl) rfl _ (by simp [Try.f15]) H _ ?_
  have hlen := hv.len 73
  have hw := wrap64 (x := 1048576 - l.length) (by omega) (by omega)
  by_cases h : 1048576 < l.length
  · have h' : (1048576 : Int) - l.length < 0 := by omega
    simp [Try.f15, tab, hlen, hw, h, h']
  · have h' : ¬ (1048576 : Int) - l.length < 0 := by omega
    simp [Try.f15, tab, hlen, hw, h, h']
theorem law_ok (n : Int) (l : List Edge) (v : AV) (H : Hp) (hm : l.length ≤ 140737488355328) (hv : Row 3 H v (l.map Edge.enc)) : T Try.prog 4 [.int .i64 n, v] H (fun r K => r = .bool true) := by
  refine T.by tabOk Try.func4 (by kernel_rfl) rfl _ (by simp [Try.f4]) H _ ?_
  simp [Try.f4]
  refine (szEdgeS_ok l v H hm hv).mono fun r K ⟨h1, h2⟩ => ?_
  subst h1 h2
  by_cases hl : 1048576 < l.length
  · simp [hl]
  have hl' : ¬ (1048576 : Int) - l.length < 0 := by omega
  have hm : l.length ≤ 1048576 := by omega
  simp [hl, hl']
  refine (toEdgeS_ok l v K hm hv).mono fun x K1 ⟨a1, a2, a3⟩ => ?_
  simp [tab]
  refine (spec_ok n l x K1 hm a1.row).mono fun w K2 ⟨⟨t, b1, b2⟩, b3⟩ => ?_
  subst b1
  simp [tab]
  refine (toEdgeS_ok l v K2 hm (hv.fr (a3.trans b3))).mono fun x1 K3 ⟨c1, c2, c3⟩ => ?_
  simp [tab]
  refine (impl_ok n l x1 K3 hm c1.row).mono fun w K4 ⟨⟨t', d1, d2⟩, d3⟩ => ?_
  subst d1
  have ht : t = t' := by
    cases t <;> cases t' <;> simp_all
  subst ht
  simp [tab]
  refine (toEdgeS_ok l v K4 hm (hv.fr (((a3.trans b3).trans c3).trans d3))).mono fun x2 K5 ⟨e1, e2, e3⟩ => ?_
  simp [tab]
  refine (eqEdgeS_ok l l x1 x2 K5 hm (c1.fr (d3.trans e3)).row e1.row).mono fun y K6 ⟨f1, f2⟩ => ?_
  subst f1
  simp
theorem law_in (H : Hp) (x0 x1 : AV) (h0 : SInt .i64 H [x0]) (h1 : SSl 3 24 (SPair (SInt .i64) (SPair (SInt .i64) (SInt .i64))) H [x1]) : T Try.prog 4 [x0, x1] H (fun r K => r = .bool true) := by
  obtain ⟨n, e0, _⟩ := h0
  obtain ⟨v, es, e1, h1, h2, h3, h4⟩ := h1
  cases e0
  cases e1
  obtain ⟨l, rfl, hl⟩ := map_of_all (enc := Edge.enc) (q := fun _ => True) (es := es) (fun e he => by
    obtain ⟨_, _, rfl, ⟨a, rfl, _⟩, _, _, rfl, ⟨b, rfl, _⟩, ⟨c, rfl, _⟩⟩ := h4 e he
    exact ⟨⟨a, b, c⟩, rfl, trivial⟩)
  exact law_ok n l x1 H (by simp at h3; omega) h1
end Go.Proofs.Ytmmohcledhenfaa.Am
