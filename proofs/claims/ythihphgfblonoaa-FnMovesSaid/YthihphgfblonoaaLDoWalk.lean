/- Moves done at once and in turn, as the reference and the program do them. No condition. -/
import Derived.Test.YthihphgfblonoaaLTurnMath
import Derived.Test.YthihphgfblonoaaLMovesTops
import Derived.Test.YthihphgfblonoaaLFuncs
namespace Go.Proofs.Ythihphgfblonoaa.Am
open Go Go.RowKit
set_option linter.unusedSimpArgs false
set_option linter.unusedVariables false

theorem l1Word_ok (x : Int) (H : Hp) : T Try.prog 65 [.int .i64 x] H (fun r H' => r = .bool (decide (0 ≤ x ∧ x ≤ 65535)) ∧ H' = H) := by
  refine T.by tabOk Try.func65 (by kernel_rfl) rfl _ (by simp [Try.f65]) H _ ?_
  simp [Try.f65, tab]
  refine (l1In_ok x 0 65535 H).mono fun r K ⟨e1, e2⟩ => ?_
  subst e1 e2
  simp
theorem isWord_ok (x : Int) (H : Hp) : T Try.prog 55 [.int .i64 x] H (fun r H' => r = .bool (decide (0 ≤ x ∧ x ≤ 65535)) ∧ H' = H) := by
  refine T.by tabOk Try.func55 (by kernel_rfl) rfl _ (by simp [Try.f55]) H _ ?_
  simp [Try.f55, tab]
  refine (in_ok x 0 65535 H).mono fun r K ⟨e1, e2⟩ => ?_
  subst e1 e2
  simp
/-- Words of eleven places. -/
def GoodP (L : List Int) : Prop := (∀ x ∈ L, 0 ≤ x ∧ x ≤ 65535) ∧ L.length = 11
theorem l8Words_ok (V : List Int) (w : AV) (H : Hp) (hm : V.length ≤ 1048576) (hw : Row 1 H w (ints V)) : T Try.prog 48 [w] H (fun r K => (∃ t, r = .bool t ∧ (t = true ↔ GoodP V)) ∧ K = H) := by
  refine T.by tabOk Try.func48 (by kernel_rfl) rfl _ (by simp [Try.f48]) H _ ?_
  have hlen := hw.len 3
  simp [Try.f48, tab, hlen]
  refine W_loop _ fun I hI => ?_
  have key : ∀ (r p : List Int) (ts : TS), V = p ++ r → (∀ x ∈ p, 0 ≤ x ∧ x ≤ 65535) → (ts 0 = w ∧ ts 5 = w ∧ ts 6 = .int .i64 V.length ∧ ts 7 = .int .i64 p.length) → I ts H := by
    intro r
    induction r with
    | nil =>
      intro p ts e hp hts
      apply hI
      simp at e
      subst e
      by_cases h8 : V.length = 11
      · have h8' : (V.length : Int) = 11 := by omega
        simp [hts, tab, hlen, h8']
        exact ⟨hp, h8⟩
      · have h8' : ¬ (V.length : Int) = 11 := by omega
        simp [hts, tab, hlen, h8']
        exact fun h => h8 h.2
    | cons a r ih =>
      intro p ts e hp hts
      apply hI
      have hlt : (p.length : Int) < V.length := by simp [e]; omega
      obtain ⟨b, q, _, e1, e2⟩ := Row.get1 hw (tab := tab) (e := 3) (ety := tI) rfl rfl rfl (i := p.length) (a := a) (by simp [e]) .i64
      have hw1 := wrap64 (x := p.length + 1) (by omega) (by omega)
      simp [hts, tab, hlt, e1, e2]
      refine (l1Word_ok a H).mono fun y K ⟨y1, y2⟩ => ?_
      subst y1 y2
      by_cases ha : 0 ≤ a ∧ a ≤ 65535
      · simp only [decide_eq_true ha]
        simp [hts, tab, hw1]
        exact ih (p ++ [a]) _ (by simp [e]) (fun x hx => by
          rcases List.mem_append.1 hx with hx | hx
          · exact hp x hx
          · simp at hx; subst hx; exact ha) (by simp [hts])
      · simp only [decide_eq_false ha]
        simp [hts, tab]
        exact fun h => ha (h.1 a (by simp [e]))
  exact key V [] _ rfl (by simp) (by simp)
theorem badA_ok (L : List Int) (H : Hp) : Asks 58 [] (fun x => ¬ (0 ≤ x ∧ x ≤ 65535)) L H := by
  intro K m _ _
  refine T.by tabOk Try.func58 (by kernel_rfl) rfl _ (by simp [Try.f58]) K _ ?_
  simp [Try.f58]
  refine (isWord_ok m _).mono fun r K1 ⟨y1, f1⟩ => ?_
  subst y1 f1
  by_cases h : 0 ≤ m ∧ m ≤ 65535
  · simp [h]
    exact Fr.refl _
  · simp only [decide_eq_false h, decide_eq_true h]
    simp
    exact ⟨by omega, Fr.refl _⟩
theorem badT_ok (L : List Int) (H : Hp) : Asks 54 [] (fun x => ¬ (0 ≤ x ∧ x ≤ 65535)) L H := by
  intro K m _ _
  refine T.by tabOk Try.func54 (by kernel_rfl) rfl _ (by simp [Try.f54]) K _ ?_
  simp [Try.f54]
  refine (isWord_ok m _).mono fun r K1 ⟨y1, f1⟩ => ?_
  subst y1 f1
  by_cases h : 0 ≤ m ∧ m ≤ 65535
  · simp [h]
    exact Fr.refl _
  · simp only [decide_eq_false h, decide_eq_true h]
    simp
    exact ⟨by omega, Fr.refl _⟩
theorem copyP {H : Hp} {w : AV} {V : List Int} (hw : Row 1 H w (ints V)) (hl : V.length ≤ 1048576) :
    ∃ u K', appendA 1 8 (H ++ [some ⟨1, true, []⟩]) (.sl H.length 0 0) w = some (u, K') ∧ Own 1 K' u (ints V) ∧ Fresh H.length u ∧ Fr H K' := by
  have o0 : Own 1 (H ++ [some ⟨1, true, []⟩]) (.sl H.length 0 0) (ints []) := by
    have := Own.new (sz := 1) (K := H) (es := ints []) (ints_one _)
    simpa [ints] using this
  have f0 := Fr.app H [some ⟨1, true, []⟩]
  obtain ⟨u, K', a1, a2, a3, a4⟩ := o0.join (hw.fr f0) (by simp; omega)
  refine ⟨u, K', a1, by simpa using a2, fun b hb => ?_, Fr.then f0 a3 fun b hb => by cases hb; exact Nat.le_refl _⟩
  rcases a4 b hb with h | h
  · cases h; exact Nat.le_refl _
  · simp at h; omega
theorem getP {K : Hp} {u : AV} {V : List Int} (h : Row 1 K u (ints V)) {i : Int} (h0 : 0 ≤ i) (h1 : i < V.length) : ∃ b q, indexAddrA tab (.slice 3) K u (.int .i64 i) = some (.ptr b q) ∧ loadA tI K (.ptr b q) = some (.int .i64 (wat V i)) := by
  obtain ⟨k, rfl⟩ := Int.eq_ofNat_of_zero_le h0
  have hk : k < V.length := by omega
  obtain ⟨b, q, _, e1, e2⟩ := Row.get1 h (tab := tab) (e := 3) (ety := tI) rfl rfl rfl (i := k) (a := V[k]) (List.getElem?_eq_getElem hk) .i64
  exact ⟨b, q, e1, by rw [e2]; simp [wat, hk]⟩
/-- A row that was made, and whether it tells. -/
def RI (H : Hp) (res : List Int × Bool) (r : AV) (K : Hp) : Prop := ∃ u, r = .tup [u, .bool res.2] ∧ Own 1 K u (ints res.1) ∧ Fresh H.length u ∧ Fr H K
theorem RI.no {H K : Hp} (h : Fr H K) : RI H ([], false) (.tup [.nil, .bool false]) K := ⟨.nil, rfl, by simpa [ints] using Own.nil 1 K, Fresh.nil _, h⟩
theorem RI.yes {H K : Hp} {L : List Int} {u : AV} (h1 : Own 1 K u (ints L)) (h2 : Fresh H.length u) (h3 : Fr H K) : RI H (L, true) (.tup [u, .bool true]) K := ⟨u, rfl, h1, h2, h3⟩
open Classical in
noncomputable def atRes (l : List Move) (L : List Int) : List Int × Bool := if GoodM l ∧ GoodP L then (atAll L l L, true) else ([], false)
open Classical in
noncomputable def turnRes (l : List Move) (L : List Int) : List Int × Bool := if l.length ≤ 40 ∧ (∀ m ∈ l, In10 m) ∧ GoodP L then (turnAll l L, true) else ([], false)
theorem atAll_snoc (W : List Int) (p : List Move) (m : Move) (w : List Int) : atAll W (p ++ [m]) w = (atAll W p w).set m.to.toNat (wat W m.fr) := by simp [atAll, List.foldl_append]
theorem turnAll_snoc (p : List Move) (m : Move) (w : List Int) : turnAll (p ++ [m]) w = (turnAll p w).set m.to.toNat (wat (turnAll p w) m.fr) := by simp [turnAll, List.foldl_append]
set_option maxRecDepth 100000 in
theorem implAt_ok (l : List Move) (L : List Int) (v w : AV) (H : Hp) (hm : l.length ≤ 1048576) (hLm : L.length ≤ 1048576) (hv : Row 2 H v (moves l)) (hw : Row 1 H w (ints L)) : T Try.prog 27 [v, w] H (RI H (atRes l L)) := by
  refine T.by tabOk Try.func27 (by kernel_rfl) rfl _ (by simp [Try.f27]) H _ ?_
  have hlw : lenA (.slice 3) w = some (.int .i64 L.length) := by simpa using hw.len 3
  have hlen := hv.len 51
  simp [Try.f27]
  refine (areMoves_ok l v H hm hv).mono fun r K0 ⟨⟨t, h1, h2⟩, f0⟩ => ?_
  subst h1
  rcases told_iff h2 with ⟨hg, rfl⟩ | ⟨hg, rfl⟩
  case inr =>
    have e : atRes l L = ([], false) := by unfold atRes; rw [if_neg fun h => hg h.1]
    simp [tab, e]
    exact RI.no f0
  by_cases h11 : L.length = 11
  case neg =>
    have e : atRes l L = ([], false) := by unfold atRes; rw [if_neg fun h => h11 h.2.2]
    have h11' : ¬ (L.length : Int) = 11 := by omega
    simp [tab, hlw, h11', e]
    exact RI.no f0
  have h11' : (L.length : Int) = 11 := by omega
  simp [tab, hlw, h11']
  refine (containsFunc_ok L w _ [] _ K0 (by omega) (hw.fr f0) (badA_ok L K0)).mono fun r K1 ⟨e1, f1⟩ => ?_
  subst e1
  have F1 := f0.trans f1
  by_cases hb : ∃ x ∈ L, ¬ (0 ≤ x ∧ x ≤ 65535)
  case pos =>
    have e : atRes l L = ([], false) := by
      unfold atRes
      rw [if_neg]
      rintro ⟨_, h, _⟩
      obtain ⟨x, hx, hn⟩ := hb
      exact hn (h x hx)
    simp only [decide_eq_true hb]
    simp [tab, e]
    exact RI.no F1
  have hgp : GoodP L := ⟨fun x hx => Classical.byContradiction fun hn => hb ⟨x, hx, hn⟩, h11⟩
  have e : atRes l L = (atAll L l L, true) := by unfold atRes; rw [if_pos ⟨hg, hgp⟩]
  obtain ⟨u, K2, a1, a2, a3, a4⟩ := copyP (hw.fr F1) hLm
  have F2 := F1.trans a4
  have hfu : Fresh H.length u := a3.mono F1.1
  simp only [decide_eq_false hb]
  simp [tab, e, hlen, buildSliceA, zerosA, fillA, over, a1]
  refine W_loop _ fun I hI => ?_
  have key : ∀ (r p : List Move) (ts : TS) (K : Hp), l = p ++ r → Own 1 K u (ints (atAll L p L)) → Fr H K → (ts 1 = w ∧ ts 6 = u ∧ ts 24 = v ∧ ts 25 = .int .i64 l.length ∧ ts 26 = .int .i64 p.length) → I ts K := by
    intro r
    induction r with
    | nil =>
      intro p ts K e ho hK hts
      apply hI
      simp at e
      subst e
      simp [hts, tab]
      exact RI.yes ho hfu hK
    | cons a r ih =>
      intro p ts K e ho hK hts
      apply hI
      have hlt : (p.length : Int) < l.length := by simp [e]; omega
      obtain ⟨b, q, _, e1, e2, -⟩ := (hv.fr hK).get (tab := tab) (e := 51) (ety := tM) rfl (i := p.length) (a := a) (by simp [e]) .i64
      have e2 := e2 rfl
      have ha := hg.1 a (by simp [e])
      unfold OkM at ha
      obtain ⟨K5, hK5⟩ : ∃ K5, K5 = K ++ [some ⟨2, true, [.int .i64 a.fr, .int .i64 a.to]⟩] := ⟨_, rfl⟩
      have f5 : Fr K K5 := hK5 ▸ Fr.app K _
      have g0 : loadA tI K5 (.ptr K.length 0) = some (.int .i64 a.fr) := by rw [hK5]; simp [loadB]
      have g1 : loadA tI K5 (.ptr K.length 1) = some (.int .i64 a.to) := by rw [hK5]; simp [loadB]
      obtain ⟨b1, q1, s1, s2⟩ := getP (hw.fr (hK.trans f5)) (i := a.fr) ha.1 (by omega)
      obtain ⟨b2, x1, K6, x2, x3, x4, x5⟩ := (ho.fr f5).putW (i := a.to) ha.2.2.1 (by rw [atAll_len]; omega) (wat L a.fr)
      have hw1 := wrap64 (x := p.length + 1) (by omega) (by omega)
      simp (maxDischargeDepth := 9) [hts, tab, hlt, e1, e2, Move.enc]
      rw [← hK5]
      refine W_draw mixed (.look 0 (.look 1 (.look 2 (.look 3 (.look 4 (.look 5 (.look 6 (.look 7 (.look 8 (.act 9 [] .done .stop)))))))))) (by kernel_rfl) ?_
      simp [hts, tab, g0, g1, s1, s2, x1, x2, hw1]
      exact ih (p ++ [a]) _ K6 (by simp [e]) (by rw [atAll_snoc]; exact x3) (Fr.then (hK.trans f5) x4 hfu) (by simp [hts])
  exact key l [] _ K2 rfl a2 F2 (by simp)
set_option maxRecDepth 100000 in
theorem specAt_ok (l : List Move) (L : List Int) (v w : AV) (H : Hp) (hm : l.length ≤ 1048576) (hLm : L.length ≤ 1048576) (hv : Row 2 H v (moves l)) (hw : Row 1 H w (ints L)) : T Try.prog 26 [v, w] H (RI H (atRes l L)) := by
  refine T.by tabOk Try.func26 (by kernel_rfl) rfl _ (by simp [Try.f26]) H _ ?_
  have hlen := hv.len 51
  simp [Try.f26]
  refine (specGoodM_ok l v H hm hv).mono fun r K0 ⟨⟨t, h1, h2⟩, f0⟩ => ?_
  subst h1
  rcases told_iff h2 with ⟨hg, rfl⟩ | ⟨hg, rfl⟩
  case inr =>
    have e : atRes l L = ([], false) := by unfold atRes; rw [if_neg fun h => hg h.1]
    simp [tab, e]
    exact RI.no f0
  simp [tab]
  refine (l8Words_ok L w K0 hLm (hw.fr f0)).mono fun r K1 ⟨⟨t, e1, e2⟩, e3⟩ => ?_
  subst e1 e3
  rcases told_iff e2 with ⟨hgp, rfl⟩ | ⟨hgp, rfl⟩
  case inr =>
    have e : atRes l L = ([], false) := by unfold atRes; rw [if_neg fun h => hgp h.2]
    simp [tab, e]
    exact RI.no f0
  have e : atRes l L = (atAll L l L, true) := by unfold atRes; rw [if_pos ⟨hg, hgp⟩]
  have h11 := hgp.2
  obtain ⟨u, K2, a1, a2, a3, a4⟩ := copyP (hw.fr f0) hLm
  have F2 := f0.trans a4
  have hfu : Fresh H.length u := a3.mono f0.1
  simp [tab, e, hlen, buildSliceA, zerosA, fillA, over, a1]
  refine W_loop _ fun I hI => ?_
  have key : ∀ (r p : List Move) (ts : TS) (K : Hp), l = p ++ r → Own 1 K u (ints (atAll L p L)) → Fr H K → (ts 1 = w ∧ ts 6 = u ∧ ts 20 = v ∧ ts 21 = .int .i64 l.length ∧ ts 22 = .int .i64 p.length) → I ts K := by
    intro r
    induction r with
    | nil =>
      intro p ts K e ho hK hts
      apply hI
      simp at e
      subst e
      simp [hts, tab]
      exact RI.yes ho hfu hK
    | cons a r ih =>
      intro p ts K e ho hK hts
      apply hI
      have hlt : (p.length : Int) < l.length := by simp [e]; omega
      obtain ⟨b, q, _, e1, e2, -⟩ := (hv.fr hK).get (tab := tab) (e := 51) (ety := tM) rfl (i := p.length) (a := a) (by simp [e]) .i64
      have e2 := e2 rfl
      have ha := hg.1 a (by simp [e])
      unfold OkM at ha
      obtain ⟨K5, hK5⟩ : ∃ K5, K5 = K ++ [some ⟨2, true, [.int .i64 a.fr, .int .i64 a.to]⟩] := ⟨_, rfl⟩
      have f5 : Fr K K5 := hK5 ▸ Fr.app K _
      have g0 : loadA tI K5 (.ptr K.length 0) = some (.int .i64 a.fr) := by rw [hK5]; simp [loadB]
      have g1 : loadA tI K5 (.ptr K.length 1) = some (.int .i64 a.to) := by rw [hK5]; simp [loadB]
      obtain ⟨b1, q1, s1, s2⟩ := getP (hw.fr (hK.trans f5)) (i := a.fr) ha.1 (by omega)
      obtain ⟨b2, x1, K6, x2, x3, x4, x5⟩ := (ho.fr f5).putW (i := a.to) ha.2.2.1 (by rw [atAll_len]; omega) (wat L a.fr)
      have hw1 := wrap64 (x := p.length + 1) (by omega) (by omega)
      simp (maxDischargeDepth := 9) [hts, tab, hlt, e1, e2, Move.enc]
      rw [← hK5]
      refine W_draw mixed (.look 0 (.look 1 (.look 2 (.look 3 (.look 4 (.look 5 (.look 6 (.look 7 (.look 8 (.act 9 [] .done .stop)))))))))) (by kernel_rfl) ?_
      simp [hts, tab, g0, g1, s1, s2, x1, x2, hw1]
      exact ih (p ++ [a]) _ K6 (by simp [e]) (by rw [atAll_snoc]; exact x3) (Fr.then (hK.trans f5) x4 hfu) (by simp [hts])
  exact key l [] _ K2 rfl a2 F2 (by simp)
end Go.Proofs.Ythihphgfblonoaa.Am
