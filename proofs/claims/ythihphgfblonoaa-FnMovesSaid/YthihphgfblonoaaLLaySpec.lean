/- Moves laid in turn, as the reference does it. No condition. -/
import Derived.Test.YthihphgfblonoaaLLayMath
import Derived.Test.YthihphgfblonoaaLRingsFn
namespace Go.Proofs.Ythihphgfblonoaa.Am
open Go Go.RowKit
set_option linter.unusedSimpArgs false
set_option linter.unusedVariables false

theorem moves_one (l : List Move) : ∀ e ∈ moves l, e.length = 2 := by
  intro e he
  obtain ⟨m, _, rfl⟩ := List.mem_map.1 he
  rfl
theorem Own.pushM {K : Hp} {v : AV} {es : List Move} (h : Own 2 K v (moves es)) (m : Move) (hl : es.length ≤ 1048576) :
    ∃ u K', appendA 2 16 (K ++ [some ⟨2, true, [.int .i64 m.fr, .int .i64 m.to]⟩]) v (.sl K.length 0 1) = some (u, K') ∧ Own 2 K' u (moves (es ++ [m])) ∧ Keeps v.at K K' ∧ ∀ b, u.at b → v.at b ∨ K.length ≤ b := by
  obtain ⟨u, K', a1, a2, a3, a4⟩ := (h.fr (Fr.app K [some ⟨2, true, m.enc⟩])).append (bytes := 16) (x := .sl K.length 0 1) (new := [m.enc]) (by decide) (by simp [rowOf, Move.enc]) (by simp [Move.enc]) (by simp; omega) (by simp; omega)
  refine ⟨u, K', a1, by simpa [moves] using a2, (Fr.keeps (Fr.app K _)).trans a3, fun b hb => ?_⟩
  rcases a4 b hb with h | h
  · exact .inl h
  · simp at h
    exact .inr (by omega)
theorem Own.joinM {K : Hp} {v w : AV} {es fs : List Move} (h : Own 2 K v (moves es)) (hw : Row 2 K w (moves fs)) (hl : es.length + fs.length ≤ 2097152) :
    ∃ u K', appendA 2 16 K v w = some (u, K') ∧ Own 2 K' u (moves (es ++ fs)) ∧ Keeps v.at K K' ∧ ∀ b, u.at b → v.at b ∨ K.length ≤ b := by
  obtain ⟨u, K', a1, a2, a3, a4⟩ := h.append (bytes := 16) (x := w) (new := moves fs) (by decide) (by have := hw.whole; simpa using this) (moves_one fs) (by simp; omega) (by simp; omega)
  exact ⟨u, K', a1, by simpa [moves] using a2, a3, a4⟩
theorem Row.cutM {K : Hp} {v : AV} {A B C : List Move} (h : Row 2 K v (moves (A ++ B ++ C))) (lo hi : Option AV) (hlo : boundA 0 lo = some (A.length : Int)) (hhi : boundA ((A.length + B.length + C.length : Nat) : Int) hi = some ((A.length + B.length : Nat) : Int)) : ∃ u, sliceA v lo hi = some u ∧ Row 2 K u (moves B) ∧ ∀ b, u.at b → v.at b := by
  obtain ⟨u, p1, p2, p3⟩ := h.part A.length (A.length + B.length) (by omega) (by simp) lo hi hlo (by rw [List.length_map, List.length_append, List.length_append]; exact hhi)
  refine ⟨u, p1, ?_, p3⟩
  have : ((moves (A ++ B ++ C)).drop A.length).take (A.length + B.length - A.length) = moves B := by simp [moves]
  rwa [this] at p2
theorem own_zeroM (K : Hp) : Own 2 (K ++ [some ⟨2, true, []⟩]) (.sl K.length 0 0) (moves []) := by
  have := Own.new (sz := 2) (K := K) (es := moves []) (moves_one _)
  simpa [moves] using this
def idx (o : Option Nat) : Int := match o with | some i => i | none => -1
theorem find_hit {p r : List Move} {a : Move} {q : Move → Bool} (h : ∀ m ∈ p, q m = false) (ha : q a = true) : (p ++ a :: r).findIdx? q = some p.length := by
  rw [List.findIdx?_append, List.findIdx?_eq_none_iff.2 (by simpa using h), List.findIdx?_cons, if_pos ha]
  simp
theorem find_miss {p : List Move} {q : Move → Bool} (h : ∀ m ∈ p, q m = false) : p.findIdx? q = none := List.findIdx?_eq_none_iff.2 (by simpa using h)
set_option maxRecDepth 100000 in
theorem l8Free_ok (l : List Move) (v : AV) (H : Hp) (hm : l.length ≤ 1048576) (hv : Row 2 H v (moves l)) : T Try.prog 70 [v] H (fun r K => r = .int .i64 (idx (freeAt l)) ∧ Fr H K) := by
  refine T.by tabOk Try.func70 (by kernel_rfl) rfl _ (by simp [Try.f70]) H _ ?_
  have hlen := hv.len 51
  simp [Try.f70, tab, hlen]
  refine W_loop _ fun I hI => ?_
  have key : ∀ (r p : List Move) (ts : TS) (K : Hp), l = p ++ r → Fr H K → (∀ m ∈ p, freeIn l m = false) → (ts 0 = v ∧ ts 8 = v ∧ ts 9 = .int .i64 l.length ∧ ts 10 = .int .i64 p.length) → I ts K := by
    intro r
    induction r with
    | nil =>
      intro p ts K e hK hp hts
      apply hI
      simp at e
      subst e
      simp [hts, tab, freeAt, find_miss hp, idx]
      exact hK
    | cons a r ih =>
      intro p ts K e hK hp hts
      apply hI
      have hlt : (p.length : Int) < l.length := by simp [e]; omega
      obtain ⟨b, q, _, e1, e2, -⟩ := hv.get (tab := tab) (e := 51) (ety := tM) rfl (i := p.length) (a := a) (by simp [e]) .i64
      have e2 := e2 rfl
      have hfr := hK.app' [some ⟨2, true, a.enc⟩]
      simp (maxDischargeDepth := 9) [hts, tab, hlt, hlen, hK.index, hK.load, e1, e2, Move.enc]
      refine W_loop _ fun I2 hI2 => ?_
      have key2 : ∀ (r2 p2 : List Move) (ts : TS) (K2 : Hp), l = p2 ++ r2 → Fr (K ++ [some ⟨2, true, a.enc⟩]) K2 → (ts 0 = v ∧ ts 8 = v ∧ ts 9 = .int .i64 l.length ∧ ts 10 = .int .i64 p.length ∧ ts 3 = .int .i64 p.length ∧ ts 4 = .ptr K.length 0 ∧ ts 5 = .bool (p2.all fun o => o.fr != a.to) ∧ ts 15 = v ∧ ts 16 = .int .i64 l.length ∧ ts 17 = .int .i64 p2.length) → I2 ts K2 := by
        intro r2
        induction r2 with
        | nil =>
          intro p2 ts K2 ep hK2 hts
          apply hI2
          simp at ep
          subst ep
          have hw := wrap64 (x := p.length + 1) (by omega) (by omega)
          by_cases hfree : freeIn l a = true
          · have hat : freeAt l = some p.length := by
              unfold freeAt
              generalize freeIn l = q at *
              rw [e]
              exact find_hit hp hfree
            have ht5 : ts 5 = .bool true := by rw [hts.2.2.2.2.2.2.1]; unfold freeIn at hfree; rw [hfree]
            obtain ⟨y0, y8, y9, y10, y3, y4, _, y15, y16, y17⟩ := hts
            simp [y0, y8, y9, y10, y3, y4, ht5, y15, y16, y17, hat, idx]
            exact hfr.trans hK2
          · have hfree : freeIn l a = false := by simpa using hfree
            have ht5 : ts 5 = .bool false := by rw [hts.2.2.2.2.2.2.1]; unfold freeIn at hfree; rw [hfree]
            obtain ⟨y0, y8, y9, y10, y3, y4, _, y15, y16, y17⟩ := hts
            simp [y0, y8, y9, y10, y3, y4, ht5, y15, y16, y17, hw]
            refine ih (p ++ [a]) _ _ (by simp [e]) (hfr.trans hK2) (fun m hm => ?_) (by simp [y0, y8, y9])
            rcases List.mem_append.1 hm with hm | hm
            · exact hp m hm
            · simp at hm; subst hm; exact hfree
        | cons c r2 ih2 =>
          intro p2 ts K2 ep hK2 hts
          apply hI2
          have hlt2 : (p2.length : Int) < l.length := by simp [ep]; omega
          obtain ⟨b', q', _, g1, g2, -⟩ := (hv.fr (hfr.trans hK2)).get (tab := tab) (e := 51) (ety := tM) rfl (i := p2.length) (a := c) (by simp [ep]) .i64
          have g2 := g2 rfl
          have hla : loadA tI K2 (.ptr K.length 1) = some (.int .i64 a.to) := by
            rw [hK2.load (by simp [loadB, Move.enc])]
            simp [loadB, Move.enc]
          have hw := wrap64 (x := p2.length + 1) (by omega) (by omega)
          cases hall : (p2.all fun o => o.fr != a.to) with
          | false =>
            rw [hall] at hts
            simp (maxDischargeDepth := 9) [hts, tab, hlt2, g1, g2, Move.enc, hw]
            exact ih2 (p2 ++ [c]) _ _ (by simp [ep]) (hK2.app' _) (by simp [hts, hall])
          | true =>
            rw [hall] at hts
            simp (maxDischargeDepth := 9) [hts, tab, hlt2, g1, g2, Move.enc, hw, loadB, hla]
            exact ih2 (p2 ++ [c]) _ _ (by simp [ep]) (hK2.app' _) (by simp [hts, hall])
      exact key2 l [] _ _ rfl (Fr.refl _) (by simp [hts])
  exact key l [] _ H rfl (Fr.refl H) (by simp) (by simp)
theorem left0_app (p r : List Move) : left0 (p ++ r) = left0 p ++ left0 r := by simp [left0]
theorem left0_len (l : List Move) : (left0 l).length ≤ l.length := List.length_filter_le _ _
theorem flat_len (ll : List (List Int)) (h : ∀ r ∈ ll, r.length ≤ 11) : (ll.flatMap ringMoves).length ≤ 12 * ll.length := by
  induction ll with
  | nil => simp
  | cons r ll ih =>
    have h1 := ih fun r hr => h r (by simp [hr])
    have h2 := ringMoves_len r
    have h3 := h r (by simp)
    simp only [List.flatMap_cons, List.length_append, List.length_cons]
    omega
theorem rings_pos (l : List Move) : ∀ r ∈ rings l, 0 < r.length := by
  intro r hr
  simp only [rings, ringsTo, List.mem_filterMap, List.mem_map] at hr
  obtain ⟨_, ⟨i, _, rfl⟩, h⟩ := hr
  rw [ring_same l i (by omega)] at h
  split at h
  · rename_i hc
    cases h
    exact hc.1
  · cases h
set_option maxRecDepth 100000 in
theorem l8Lay_ok (l : List Move) (v : AV) (H : Hp) (hm : l.length ≤ 1000) (hv : Row 2 H v (moves l)) : T Try.prog 59 [v] H (fun r K => Own 2 K r (moves (lay l)) ∧ Fresh H.length r ∧ Fr H K) := by
  refine T.by tabOk Try.func59 (by kernel_rfl) rfl _ (by simp [Try.f59]) H _ ?_
  have hlen := hv.len 51
  have hlen : lenA (.slice 51) v = some (.int .i64 l.length) := by simpa using hlen
  simp [Try.f59, tab, hlen]
  refine W_loop _ fun I hI => ?_
  have key : ∀ (r p : List Move) (ts : TS) (K : Hp) (u : AV), l = p ++ r → Own 2 K u (moves (left0 p)) → Fresh H.length u → Fr H K → (ts 3 = u ∧ ts 4 = .nil ∧ ts 12 = v ∧ ts 13 = .int .i64 l.length ∧ ts 14 = .int .i64 p.length) → I ts K := by
    intro r
    induction r with
    | cons a r ih =>
      intro p ts K u e ho hf hK hts
      apply hI
      have hlt : (p.length : Int) < l.length := by simp [e]; omega
      obtain ⟨b, q, _, e1, e2, -⟩ := hv.get (tab := tab) (e := 51) (ety := tM) rfl (i := p.length) (a := a) (by simp [e]) .i64
      have e2 := e2 rfl
      have f1 := Fr.app K [some ⟨2, true, [.int .i64 a.fr, .int .i64 a.to]⟩]
      have hw := wrap64 (x := p.length + 1) (by omega) (by omega)
      have hpl : (left0 p).length ≤ 1000 := by have := left0_len p; simp [e] at hm; omega
      by_cases ha : a.fr = a.to
      · have hl0 : left0 (p ++ [a]) = left0 p := by simp [left0, ha]
        simp (maxDischargeDepth := 9) [hts, tab, hlt, hK.index, hK.load, e1, e2, Move.enc, loadB, ha, hw]
        exact ih (p ++ [a]) _ _ u (by simp [e]) (by rw [hl0]; exact ho.fr (Fr.app K _)) hf (hK.app' _) (by simp [hts])
      · have hl0 : left0 (p ++ [a]) = left0 p ++ [a] := by simp [left0, ha]
        obtain ⟨u', K', a1, a2, a3, a4⟩ := (ho.fr f1).pushM a (by omega)
        have hf' : Fresh H.length u' := fun b hb => (a4 b hb).elim (hf b) fun h => by have := hK.1; simp at h; omega
        simp at a1
        simp (maxDischargeDepth := 9) [hts, tab, hlt, hK.index, hK.load, e1, e2, Move.enc, loadB, ha, hw, buildSliceA, zerosA, fillA, over, a1]
        exact ih (p ++ [a]) _ _ u' (by simp [e]) (by rw [hl0]; exact a2) hf' (Fr.then (hK.trans f1) a3 hf) (by simp [hts])
    | nil =>
      intro p ts K u e ho hf hK hts
      apply hI
      simp at e
      subst e
      have hl0 := left0_len l
      simp [hts, tab]
      refine (l8Free_ok (left0 l) u K (by omega) ho.row).mono fun x K1 ⟨e1, f1⟩ => ?_
      subst e1
      simp [hts]
      refine W_loop _ fun I2 hI2 => ?_
      have key2 : ∀ (n : Nat) (left out : List Move) (ts : TS) (K : Hp) (u w : AV), left.length ≤ n → left.length + out.length ≤ 1000 → emit n left out = laid l → Own 2 K u (moves left) → Own 2 K w (moves out) → Fresh H.length u → Fresh H.length w → (∀ b, u.at b → ¬ w.at b) → Fr H K → (ts 3 = u ∧ ts 4 = w ∧ ts 7 = .int .i64 (idx (freeAt left))) → I2 ts K := by
        have done : ∀ (left out : List Move) (ts : TS) (K : Hp) (u w : AV), left.length + out.length ≤ 1000 → freeAt left = none → (left, out) = laid l → Own 2 K u (moves left) → Own 2 K w (moves out) → Fresh H.length w → (∀ b, u.at b → ¬ w.at b) → Fr H K → (ts 3 = u ∧ ts 4 = w ∧ ts 7 = .int .i64 (-1)) → I2 ts K := by
          intro left out ts K u w hll hnone hlaid ho ho2 hf2 hne hK hts
          apply hI2
          simp [hts, tab]
          refine (l8Rings_ok left u K (by omega) ho.row).mono fun rr K1 ⟨rus, r1, r2, r3⟩ => ?_
          have hrc := r1.look.count 29
          have hrl : (rings left).length ≤ 10 := ringsTo_len left 10
          have hri := rings_inner left
          have hrp := rings_pos left
          simp [hts, tab, hrc]
          refine W_loop _ fun I3 hI3 => ?_
          have key3 : ∀ (r p : List (List Int)) (O : List Move) (ts : TS) (K2 : Hp) (w : AV), rings left = p ++ r → O = out ++ p.flatMap ringMoves → Own 2 K2 w (moves O) → (∀ b, w.at b → ¬ (rr.at b ∨ ∃ x ∈ rus, x.at b)) → Fresh H.length w → LRow K2 rr (rings left) rus → (∀ b, (rr.at b ∨ ∃ x ∈ rus, x.at b) → b < K2.length) → Fr H K2 → (ts 4 = w ∧ ts 52 = rr ∧ ts 53 = .int .i64 (rings left).length ∧ ts 54 = .int .i64 p.length) → I3 ts K2 := by
            intro r
            induction r with
            | nil =>
              intro p O ts K2 w e hO ho3 hne3 hf3 hrr hlt3 hK2 hts
              apply hI3
              simp at e
              have hlay : O = lay l := by rw [hO, ← e, lay, ← hlaid]
              simp [hts, tab, e]
              rw [← hlay]
              exact ⟨ho3, hf3, hK2⟩
            | cons R r ih3 =>
              intro p O ts K2 w e hO ho3 hne3 hf3 hrr hlt3 hK2 hts
              apply hI3
              have hlt : (p.length : Int) < (rings left).length := by rw [e]; simp; omega
              obtain ⟨b, q, uR, huR, e1, e2, e3⟩ := hrr.get (e := 29) rfl (i := p.length) (t := R) (by rw [e]; simp)
              have hR11 := hri R (by rw [e]; simp)
              have hR0 := hrp R (by rw [e]; simp)
              have hOl : O.length ≤ 2000 := by
                have h1 := flat_len p fun r hr => hri r (by rw [e]; simp [hr])
                have h2 : p.length ≤ 10 := by have := congrArg List.length e; simp at this; omega
                rw [hO, List.length_append]
                omega
              obtain ⟨p0, R', rfl⟩ : ∃ p0 R', R = p0 :: R' := by
                cases R with
                | nil => simp at hR0
                | cons a b => exact ⟨a, b, rfl⟩
              have hlR := e3.len 3
              have hlR : lenA (.slice 3) uR = some (.int .i64 (R'.length + 1 : Nat)) := by simpa using hlR
              have hlR' : lenA (.slice 3) uR = some (.int .i64 ((R'.length : Int) + 1)) := by rw [hlR]; simp
              obtain ⟨b1, q1, _, x1, x2⟩ := Row.get1 e3 (tab := tab) (e := 3) (ety := tI) rfl rfl rfl (i := 0) (a := p0) rfl .i64
              simp at x1
              obtain ⟨w', K3, a1, a2, a3, a4⟩ := ho3.pushM ⟨p0, 10⟩ (by omega)
              have huw : ∀ b, uR.at b → ¬ w.at b := fun b h1 h2 => hne3 b h2 (.inr ⟨uR, List.mem_of_getElem? huR, h1⟩)
              have e3' := e3.keeps a3 huw
              obtain ⟨b2, q2, _, x3, x4⟩ := Row.get1 e3' (tab := tab) (e := 3) (ety := tI) rfl rfl rfl (i := 0) (a := p0) rfl .i64
              simp at x3
              have hw1 := wrap64 (x := (R'.length : Int)) (by simp at hR11; omega) (by simp at hR11; omega)
              have hw2 := wrap64 (x := p.length + 1) (by omega) (by omega)
              simp (maxDischargeDepth := 9) [hts, tab, hlt, e1, e2, x1, x2, fillA, over, buildSliceA, zerosA, a1, x3, x4, hlR', hw1]
              refine W_loop _ fun I4 hI4 => ?_
              have key4 : ∀ (i : Nat) (to : Int) (O4 : List Move) (ts : TS) (K4 : Hp) (w4 : AV), i ≤ R'.length → O4 ++ chainOf to (R'.take i).reverse = O ++ ringMoves (p0 :: R') → Own 2 K4 w4 (moves O4) → (∀ b, w4.at b → ¬ (rr.at b ∨ ∃ x ∈ rus, x.at b)) → Fresh H.length w4 → LRow K4 rr (rings left) rus → (∀ b, (rr.at b ∨ ∃ x ∈ rus, x.at b) → b < K4.length) → Fr H K4 → (ts 4 = w4 ∧ ts 9 = uR ∧ ts 10 = .int .i64 to ∧ ts 11 = .int .i64 i ∧ ts 52 = rr ∧ ts 53 = .int .i64 (rings left).length ∧ ts 54 = .int .i64 p.length) → I4 ts K4 := by
                intro i
                induction i with
                | zero =>
                  intro to O4 ts K4 w4 hi hO4 ho4 hne4 hf4 hrr4 hlt4 hK4 hts
                  apply hI4
                  have hO4l : O4.length ≤ 3000 := by
                    have h1 := congrArg List.length hO4
                    have h2 := ringMoves_len (p0 :: R')
                    simp at h1 h2 hR11
                    omega
                  obtain ⟨w5, K5, d1, d2, d3, d4⟩ := ho4.pushM ⟨10, to⟩ (by omega)
                  simp (maxDischargeDepth := 9) [hts, tab, fillA, over, buildSliceA, zerosA, d1, hw2]
                  have hne5 : ∀ b, w5.at b → ¬ (rr.at b ∨ ∃ x ∈ rus, x.at b) := fun b hb => (d4 b hb).elim (hne4 b) fun h hx => by have := hlt4 b hx; omega
                  refine ih3 (p ++ [p0 :: R']) _ _ K5 w5 (by simp [e]) ?_ d2 hne5 (fun b hb => (d4 b hb).elim (hf4 b) fun h => Nat.le_trans hK4.1 h) ?_ (fun b hb => Nat.lt_of_lt_of_le (hlt4 b hb) d3.1) (Fr.then hK4 d3 hf4) (by simp [hts])
                  · simp [chainOf] at hO4
                    rw [hO4, hO]
                    simp
                  · exact ⟨hrr4.row.keeps d3 fun b h1 h2 => hne4 b h2 (.inl h1), hrr4.len, fun j t x hj hx => (hrr4.inner j t x hj hx).keeps d3 fun b h1 h2 => hne4 b h2 (.inr ⟨x, List.mem_of_getElem? hx, h1⟩)⟩
                | succ i ih4 =>
                  intro to O4 ts K4 w4 hi hO4 ho4 hne4 hf4 hrr4 hlt4 hK4 hts
                  apply hI4
                  have hpos : (0 : Int) < (i : Int) + 1 := by omega
                  have hget : (p0 :: R')[i + 1]? = some R'[i] := by simp
                  have eR := hrr4.inner p.length (p0 :: R') uR (by rw [e]; simp) huR
                  obtain ⟨b5, q5, _, y1, y2⟩ := Row.get1 eR (tab := tab) (e := 3) (ety := tI) rfl rfl rfl hget .i64
                  have hO4l : O4.length ≤ 3000 := by
                    have h1 := congrArg List.length hO4
                    have h2 := ringMoves_len (p0 :: R')
                    simp [chainOf_len] at h1 h2 hR11
                    omega
                  obtain ⟨w5, K5, d1, d2, d3, d4⟩ := ho4.pushM ⟨R'[i], to⟩ (by omega)
                  have eR5 := eR.keeps d3 fun b h1 h2 => hne4 b h2 (.inr ⟨uR, List.mem_of_getElem? huR, h1⟩)
                  obtain ⟨b6, q6, _, y3, y4⟩ := Row.get1 eR5 (tab := tab) (e := 3) (ety := tI) rfl rfl rfl hget .i64
                  have hw3 := wrap64 (x := (i : Int)) (by simp at hR11; omega) (by simp at hR11; omega)
                  simp at y1 y3
                  simp (maxDischargeDepth := 9) [hts, tab, hpos, y1, y2, fillA, over, buildSliceA, zerosA, d1, y3, y4, hw3]
                  have hne5 : ∀ b, w5.at b → ¬ (rr.at b ∨ ∃ x ∈ rus, x.at b) := fun b hb => (d4 b hb).elim (hne4 b) fun h hx => by have := hlt4 b hx; omega
                  refine ih4 R'[i] (O4 ++ [⟨R'[i], to⟩]) _ K5 w5 (by omega) ?_ d2 hne5 (fun b hb => (d4 b hb).elim (hf4 b) fun h => Nat.le_trans hK4.1 h) ?_ (fun b hb => Nat.lt_of_lt_of_le (hlt4 b hb) d3.1) (Fr.then hK4 d3 hf4) (by simp [hts])
                  · rw [← hO4]
                    have e6 : R'.take (i + 1) = R'.take i ++ [R'[i]] := (List.take_append_getElem (by omega)).symm
                    rw [e6, List.reverse_append]
                    simp [chainOf]
                  · exact ⟨hrr4.row.keeps d3 fun b h1 h2 => hne4 b h2 (.inl h1), hrr4.len, fun j t x hj hx => (hrr4.inner j t x hj hx).keeps d3 fun b h1 h2 => hne4 b h2 (.inr ⟨x, List.mem_of_getElem? hx, h1⟩)⟩
              have hne3' : ∀ b, w'.at b → ¬ (rr.at b ∨ ∃ x ∈ rus, x.at b) := fun b hb => (a4 b hb).elim (hne3 b) fun h hx => by have := hlt3 b hx; omega
              refine key4 R'.length p0 (O ++ [⟨p0, 10⟩]) _ K3 w' (Nat.le_refl _) (by rw [List.take_of_length_le (Nat.le_refl _)]; simp [ringMoves]) a2 hne3' (fun b hb => (a4 b hb).elim (hf3 b) fun h => Nat.le_trans hK2.1 h) ?_ (fun b hb => Nat.lt_of_lt_of_le (hlt3 b hb) a3.1) (Fr.then hK2 a3 hf3) (by simp [hts])
              exact ⟨hrr.row.keeps a3 fun b h1 h2 => hne3 b h2 (.inl h1), hrr.len, fun j t x hj hx => (hrr.inner j t x hj hx).keeps a3 fun b h1 h2 => hne3 b h2 (.inr ⟨x, List.mem_of_getElem? hx, h1⟩)⟩
          exact key3 (rings left) [] out _ K1 w rfl (by simp) (ho2.fr r3) (fun b h1 h2 => by have := ho2.lt b h1; have := r2 b h2; omega) hf2 r1.look r1.lt (hK.trans r3) (by simp [hts])
        intro n
        induction n with
        | zero =>
          intro left out ts K u w hn hll hem ho ho2 hf hf2 hne hK hts
          obtain rfl : left = [] := List.eq_nil_of_length_eq_zero (by omega)
          exact done [] out ts K u w hll rfl hem ho ho2 hf2 hne hK ⟨hts.1, hts.2.1, by rw [hts.2.2]; rfl⟩
        | succ n ih2 =>
          intro left out ts K u w hn hll hem ho ho2 hf hf2 hne hK hts
          cases hfa : freeAt left with
          | none => exact done left out ts K u w hll hfa (by rw [← hem, emit, hfa]) ho ho2 hf2 hne hK ⟨hts.1, hts.2.1, by rw [hts.2.2, hfa]; rfl⟩
          | some i =>
            have hil := freeAt_lt hfa
            apply hI2
            obtain ⟨A, a, B, rfl, rfl⟩ : ∃ A a B, left = A ++ a :: B ∧ A.length = i := ⟨left.take i, left[i], left.drop (i + 1), by rw [← List.drop_eq_getElem_cons hil, List.take_append_drop], by simp; omega⟩
            have ht7 : ts 7 = .int .i64 A.length := by rw [hts.2.2, hfa]; rfl
            obtain ⟨y3, y4, _⟩ := hts
            obtain ⟨b1, q1, _, e1, e2, -⟩ := ho.row.get (tab := tab) (e := 51) (ety := tM) rfl (i := A.length) (a := a) (by simp) .i64
            have e2 := e2 rfl
            have hll' : A.length + (B.length + 1) + out.length ≤ 1000 := by simpa using hll
            obtain ⟨w', K2, a1, a2, a3, a4⟩ := ho2.pushM a (by omega)
            have hu2 := ho.keeps a3 hne
            have fw : Fresh H.length w' := fun b hb => (a4 b hb).elim (hf2 b) (fun h => Nat.le_trans hK.1 h)
            have hK2 : Fr H K2 := Fr.then hK a3 hf2
            have fB := Fr.app K2 [some ⟨2, true, []⟩]
            have hlvA := hu2.row.live
            have hu3 := hu2.fr fB
            obtain ⟨s1, p1, p2, p3⟩ := Row.cutM (A := []) (B := A) (C := a :: B) (by simpa using hu3.row) none (some (.int .i64 A.length)) rfl (by simp [boundA])
            obtain ⟨v1, K4, d1, d2, d3, d4⟩ := (own_zeroM K2).joinM (es := []) p2 (by simp; omega)
            have hv1 : ∀ b, v1.at b → K2.length ≤ b := fun b hb => (d4 b hb).elim (fun h => by cases h; omega) (fun h => by simp at h; omega)
            have f4 : Fr K2 K4 := Fr.then fB d3 fun b hb => by cases hb; omega
            have hu4 := hu2.fr f4
            have hlv4 := hu4.row.live
            obtain ⟨s2, p4, p5, p6⟩ := Row.cutM (A := A ++ [a]) (B := B) (C := []) (by simpa using hu4.row) (some (.int .i64 (A.length + 1))) none (by simp [boundA]) (by simp [boundA])
            obtain ⟨v2, K5, g1, g2, g3, g4⟩ := d2.joinM (es := [] ++ A) p5 (by simp; omega)
            have hv2 : ∀ b, v2.at b → K2.length ≤ b := fun b hb => (g4 b hb).elim (hv1 b) (fun h => Nat.le_trans f4.1 h)
            have f5 : Fr K2 K5 := Fr.then f4 g3 hv1
            have hw := wrap64 (x := A.length + 1) (by omega) (by omega)
            have hpos : (0 : Int) ≤ A.length := by omega
            simp (maxDischargeDepth := 9) [y3, y4, ht7, tab, hpos, e1, e2, Move.enc, buildSliceA, zerosA, fillA, over, a1]
            refine W_draw mixed (.look 1 (.look 2 (.look 3 (.look 5 (.look 6 (.look 7 (.look 8 (.act 0 [3, 8] (.act 4 [8] (.act 9 [] (.act 10 [] .done .stop) .stop) .stop) .stop)))))))) (by kernel_rfl) ?_
            have hlv5 := hu3.row.live
            have hlv6 := (hu2.fr f5).row.live
            simp (maxDischargeDepth := 9) [y3, y4, ht7, tab, hlvA, hlv4, hlv5, hlv6, hw, p1, p4, d1, g1, buildSliceA, zerosA]
            have hfv2 : Fresh H.length v2 := fun b hb => by have := hv2 b hb; have := hK2.1; omega
            have g2 : Own 2 K5 v2 (moves (A ++ B)) := by simpa using g2
            refine (l8Free_ok (A ++ B) v2 K5 (by simp; omega) g2.row).mono fun x K6 ⟨e1, f6⟩ => ?_
            subst e1
            simp
            refine ih2 (A ++ B) (out ++ [a]) _ K6 v2 w' (by simp at hn ⊢; omega) (by simp; omega) ?_ (g2.fr f6) ((a2.fr f5).fr f6) hfv2 fw (fun b hb h => by have := hv2 b hb; have := a2.lt b h; omega) ((hK2.trans f5).trans f6) (by simp)
            rw [← hem, emit, hfa]
            simp [List.eraseIdx_append_of_length_le]
      exact key2 (left0 l).length (left0 l) [] _ K1 u .nil (Nat.le_refl _) (by simp; omega) rfl (ho.fr f1) (by simpa [moves] using Own.nil 2 K1) hf (Fresh.nil _) (fun _ _ h => h.elim) (hK.trans f1) (by simp [hts])
  exact key l [] _ H .nil rfl (by simpa [left0, moves] using Own.nil 2 H) (Fresh.nil _) (Fr.refl H) (by simp)
end Go.Proofs.Ythihphgfblonoaa.Am
