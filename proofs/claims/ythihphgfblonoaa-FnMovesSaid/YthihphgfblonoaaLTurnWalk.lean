/- Moves done in turn, as the reference and the program do them. No condition. -/
import Derived.Test.YthihphgfblonoaaLDoWalk
namespace Go.Proofs.Ythihphgfblonoaa.Am
open Go Go.RowKit
set_option linter.unusedSimpArgs false
set_option linter.unusedVariables false

def out10 (m : Move) : Bool := !(decide (0 ≤ m.fr ∧ m.fr ≤ 10) && decide (0 ≤ m.to ∧ m.to ≤ 10))
theorem out10_iff (m : Move) : out10 m = true ↔ ¬ In10 m := by
  unfold out10 In10
  by_cases h1 : 0 ≤ m.fr ∧ m.fr ≤ 10 <;> by_cases h2 : 0 ≤ m.to ∧ m.to ≤ 10
  · rw [decide_eq_true h1, decide_eq_true h2]; simp [h1, h2]
  · rw [decide_eq_true h1, decide_eq_false h2]; simp only [Bool.and_false, Bool.not_false, true_iff]; exact fun h => h2 h.2
  · rw [decide_eq_false h1]; simp only [Bool.false_and, Bool.not_false, true_iff]; exact fun h => h1 h.1
  · rw [decide_eq_false h1]; simp only [Bool.false_and, Bool.not_false, true_iff]; exact fun h => h1 h.1
theorem bad10_ok (H : Hp) (X : Nat → Prop) : AsksM X 51 [] out10 H := by
  intro K m hK
  refine T.by tabOk Try.func51 (by kernel_rfl) rfl _ (by simp [Try.f51]) K _ ?_
  have f0 := Fr.app K [some ⟨2, true, [.int .i64 m.fr, .int .i64 m.to]⟩]
  simp [Try.f51, tab, Move.enc, loadB]
  refine (in_ok m.fr 0 10 _).mono fun r K1 ⟨e1, e2⟩ => ?_
  subst e1 e2
  by_cases h1 : 0 ≤ m.fr ∧ m.fr ≤ 10
  · simp only [decide_eq_true h1]
    simp [tab, loadB]
    refine (in_ok m.to 0 10 _).mono fun r K1 ⟨e1, e2⟩ => ?_
    subst e1 e2
    simp [out10, h1]
    exact f0
  · simp only [decide_eq_false h1]
    simp [tab]
    exact ⟨by unfold out10; rw [decide_eq_false h1]; rfl, f0⟩
set_option maxRecDepth 100000 in
theorem implTurn_ok (l : List Move) (L : List Int) (v w : AV) (H : Hp) (hm : l.length ≤ 1048576) (hLm : L.length ≤ 1048576) (hv : Row 2 H v (moves l)) (hw : Row 1 H w (ints L)) : T Try.prog 19 [v, w] H (RI H (turnRes l L)) := by
  refine T.by tabOk Try.func19 (by kernel_rfl) rfl _ (by simp [Try.f19]) H _ ?_
  have hlw : lenA (.slice 3) w = some (.int .i64 L.length) := by simpa using hw.len 3
  have hlen := hv.len 51
  by_cases h40 : l.length ≤ 40
  case neg =>
    have e : turnRes l L = ([], false) := by unfold turnRes; rw [if_neg fun h => h40 h.1]
    have h40' : (40 : Int) < l.length := by omega
    have h40n : 40 < l.length := by omega
    simp [Try.f19, tab, hlen, h40', h40n, e]
    exact RI.no (Fr.refl _)
  have h40' : ¬ (40 : Int) < l.length := by omega
  have h40n : ¬ 40 < l.length := by omega
  simp [Try.f19, tab, hlen, h40', h40n]
  refine (containsM_ok l v (fun _ => False) _ [] _ H hm hv (bad10_ok H _)).mono fun r K0 ⟨e1, f0⟩ => ?_
  subst e1
  cases hin : l.any out10 with
  | true =>
    have e : turnRes l L = ([], false) := by
      unfold turnRes
      rw [if_neg]
      rintro ⟨_, h, _⟩
      obtain ⟨m, hm1, hm2⟩ := List.any_eq_true.1 hin
      exact (out10_iff m).1 hm2 (h m hm1)
    simp [tab, e]
    exact RI.no f0
  | false =>
  have hi10 : ∀ m ∈ l, In10 m := fun m hml => Classical.byContradiction fun hn => by
    have := List.any_eq_false.1 hin m hml
    exact this ((out10_iff m).2 hn)
  by_cases h11 : L.length = 11
  case neg =>
    have e : turnRes l L = ([], false) := by unfold turnRes; rw [if_neg fun h => h11 h.2.2.2]
    have h11' : ¬ (L.length : Int) = 11 := by omega
    simp [tab, hlw, h11', e]
    exact RI.no f0
  have h11' : (L.length : Int) = 11 := by omega
  simp [tab, hlw, h11']
  refine (containsFunc_ok L w _ [] _ K0 (by omega) (hw.fr f0) (badT_ok L K0)).mono fun r K1 ⟨e1, f1⟩ => ?_
  subst e1
  have F1 := f0.trans f1
  by_cases hb : ∃ x ∈ L, ¬ (0 ≤ x ∧ x ≤ 65535)
  case pos =>
    have e : turnRes l L = ([], false) := by
      unfold turnRes
      rw [if_neg]
      rintro ⟨_, _, h, _⟩
      obtain ⟨x, hx, hn⟩ := hb
      exact hn (h x hx)
    simp only [decide_eq_true hb]
    simp [tab, e]
    exact RI.no F1
  have hgp : GoodP L := ⟨fun x hx => Classical.byContradiction fun hn => hb ⟨x, hx, hn⟩, h11⟩
  have e : turnRes l L = (turnAll l L, true) := by unfold turnRes; rw [if_pos ⟨h40, hi10, hgp⟩]
  obtain ⟨u, K2, a1, a2, a3, a4⟩ := copyP (hw.fr F1) hLm
  have F2 := F1.trans a4
  have hfu : Fresh H.length u := a3.mono F1.1
  simp only [decide_eq_false hb]
  simp [tab, e, hlen, buildSliceA, zerosA, fillA, over, a1]
  refine W_loop _ fun I hI => ?_
  have key : ∀ (r p : List Move) (ts : TS) (K : Hp), l = p ++ r → Own 1 K u (ints (turnAll p L)) → Fr H K → (ts 6 = u ∧ ts 28 = v ∧ ts 29 = .int .i64 l.length ∧ ts 30 = .int .i64 p.length) → I ts K := by
    intro r
    induction r with
    | nil =>
      intro p ts K e ho hK hts
      apply hI
      simp at e
      subst e
      simp [hts, tab]
      exact RI.yes ho hfu hK
    | cons a r ih =>
      intro p ts K e ho hK hts
      apply hI
      have hlt : (p.length : Int) < l.length := by simp [e]; omega
      obtain ⟨b, q, _, e1, e2, -⟩ := (hv.fr hK).get (tab := tab) (e := 51) (ety := tM) rfl (i := p.length) (a := a) (by simp [e]) .i64
      have e2 := e2 rfl
      have ha := hi10 a (by simp [e])
      unfold In10 at ha
      obtain ⟨K5, hK5⟩ : ∃ K5, K5 = K ++ [some ⟨2, true, [.int .i64 a.fr, .int .i64 a.to]⟩] := ⟨_, rfl⟩
      have f5 : Fr K K5 := hK5 ▸ Fr.app K _
      have g0 : loadA tI K5 (.ptr K.length 0) = some (.int .i64 a.fr) := by rw [hK5]; simp [loadB]
      have g1 : loadA tI K5 (.ptr K.length 1) = some (.int .i64 a.to) := by rw [hK5]; simp [loadB]
      obtain ⟨b1, q1, s1, s2⟩ := getP (ho.fr f5).row (i := a.fr) ha.1.1 (by rw [turnAll_len]; omega)
      obtain ⟨b2, x1, K6, x2, x3, x4, x5⟩ := (ho.fr f5).putW (i := a.to) ha.2.1 (by rw [turnAll_len]; omega) (wat (turnAll p L) a.fr)
      have hw1 := wrap64 (x := p.length + 1) (by omega) (by omega)
      simp (maxDischargeDepth := 9) [hts, tab, hlt, e1, e2, Move.enc]
      rw [← hK5]
      refine W_draw mixed (.look 0 (.look 1 (.look 2 (.look 3 (.look 4 (.look 5 (.look 6 (.look 7 (.look 8 (.act 9 [] .done .stop)))))))))) (by kernel_rfl) ?_
      simp [hts, tab, g0, g1, s1, s2, x1, x2, hw1]
      exact ih (p ++ [a]) _ K6 (by simp [e]) (by rw [turnAll_snoc]; exact x3) (Fr.then (hK.trans f5) x4 hfu) (by simp [hts])
  exact key l [] _ K2 rfl a2 F2 (by simp)
set_option maxRecDepth 100000 in
theorem specTurn_ok (l : List Move) (L : List Int) (v w : AV) (H : Hp) (hm : l.length ≤ 1048576) (hLm : L.length ≤ 1048576) (hv : Row 2 H v (moves l)) (hw : Row 1 H w (ints L)) : T Try.prog 17 [v, w] H (RI H (turnRes l L)) := by
  refine T.by tabOk Try.func17 (by kernel_rfl) rfl _ (by simp [Try.f17]) H _ ?_
  have hlen := hv.len 51
  by_cases h40 : l.length ≤ 40
  case neg =>
    have e : turnRes l L = ([], false) := by unfold turnRes; rw [if_neg fun h => h40 h.1]
    have h40' : (40 : Int) < l.length := by omega
    have h40n : 40 < l.length := by omega
    simp [Try.f17, tab, hlen, h40', h40n, e]
    exact RI.no (Fr.refl _)
  have h40' : ¬ (40 : Int) < l.length := by omega
  have h40n : ¬ 40 < l.length := by omega
  simp [Try.f17, tab, hlen, h40', h40n]
  refine (l8Words_ok L w H hLm hw).mono fun r K1 ⟨⟨t, e1, e2⟩, e3⟩ => ?_
  subst e1 e3
  rcases told_iff e2 with ⟨hgp, rfl⟩ | ⟨hgp, rfl⟩
  case inr =>
    have e : turnRes l L = ([], false) := by unfold turnRes; rw [if_neg fun h => hgp h.2.2]
    simp [tab, e]
    exact RI.no (Fr.refl _)
  have h11 := hgp.2
  obtain ⟨u, K2, a1, a2, a3, a4⟩ := copyP hw hLm
  simp [tab, hlen, buildSliceA, zerosA, fillA, over, a1]
  refine W_loop _ fun I hI => ?_
  have key : ∀ (r p : List Move) (ts : TS) (K : Hp), l = p ++ r → (∀ m ∈ p, In10 m) → Own 1 K u (ints (turnAll p L)) → Fr K1 K → (ts 6 = u ∧ ts 21 = v ∧ ts 22 = .int .i64 l.length ∧ ts 23 = .int .i64 p.length) → I ts K := by
    intro r
    induction r with
    | nil =>
      intro p ts K e hp ho hK hts
      apply hI
      simp at e
      subst e
      have e : turnRes l L = (turnAll l L, true) := by unfold turnRes; rw [if_pos ⟨h40, hp, hgp⟩]
      simp [hts, tab, e]
      exact RI.yes ho a3 hK
    | cons a r ih =>
      intro p ts K e hp ho hK hts
      apply hI
      have hlt : (p.length : Int) < l.length := by simp [e]; omega
      obtain ⟨b, q, _, e1, e2, -⟩ := (hv.fr hK).get (tab := tab) (e := 51) (ety := tM) rfl (i := p.length) (a := a) (by simp [e]) .i64
      have e2 := e2 rfl
      have bad : ¬ In10 a → turnRes l L = ([], false) := fun h => by unfold turnRes; rw [if_neg fun h' => h (h'.2.1 a (by simp [e]))]
      obtain ⟨K5, hK5⟩ : ∃ K5, K5 = K ++ [some ⟨2, true, [.int .i64 a.fr, .int .i64 a.to]⟩] := ⟨_, rfl⟩
      have f5 : Fr K K5 := hK5 ▸ Fr.app K _
      have g0 : loadA tI K5 (.ptr K.length 0) = some (.int .i64 a.fr) := by rw [hK5]; simp [loadB]
      have g1 : loadA tI K5 (.ptr K.length 1) = some (.int .i64 a.to) := by rw [hK5]; simp [loadB]
      have hK5' := hK.trans f5
      have hw1 := wrap64 (x := p.length + 1) (by omega) (by omega)
      simp (maxDischargeDepth := 9) [hts, tab, hlt, e1, e2, Move.enc]
      rw [← hK5]
      refine (l1In_ok a.fr 0 10 K5).mono fun y K' ⟨y1, y2⟩ => ?_
      subst y1 y2
      by_cases c1 : 0 ≤ a.fr ∧ a.fr ≤ 10
      case neg =>
        simp only [decide_eq_false c1]
        simp [hts, tab, bad fun h => c1 h.1]
        exact RI.no hK5'
      simp only [decide_eq_true c1]
      simp [hts, tab, g1]
      refine (l1In_ok a.to 0 10 K').mono fun y K5 ⟨y1, y2⟩ => ?_
      subst y1 y2
      by_cases c2 : 0 ≤ a.to ∧ a.to ≤ 10
      case neg =>
        simp only [decide_eq_false c2]
        simp [hts, tab, bad fun h => c2 h.2]
        exact RI.no hK5'
      simp only [decide_eq_true c2]
      obtain ⟨b1, q1, s1, s2⟩ := getP (ho.fr f5).row (i := a.fr) c1.1 (by rw [turnAll_len]; omega)
      obtain ⟨b2, x1, K6, x2, x3, x4, x5⟩ := (ho.fr f5).putW (i := a.to) c2.1 (by rw [turnAll_len]; omega) (wat (turnAll p L) a.fr)
      simp [hts, tab, g0, g1, s1, s2, x1, x2, hw1]
      exact ih (p ++ [a]) _ K6 (by simp [e]) (fun m hm => by
        rcases List.mem_append.1 hm with hm | hm
        · exact hp m hm
        · simp at hm; subst hm; exact ⟨c1, c2⟩) (by rw [turnAll_snoc]; exact x3) (Fr.then hK5' x4 a3) (by simp [hts])
  exact key l [] _ K2 rfl (by simp) a2 a4 (by simp)
theorem sameMoves_ok (l : List Move) (v v' : AV) (H : Hp) (hm : l.length ≤ 1048576) (hv : Row 2 H v (moves l)) (hv' : Row 2 H v' (moves l)) : T Try.prog 42 [v, v'] H (fun r K => r = .bool true ∧ K = H) := by
  refine T.by tabOk Try.func42 (by kernel_rfl) rfl _ (by simp [Try.f42]) H _ ?_
  have hlen := hv.len 51
  have hlen' := hv'.len 51
  simp [Try.f42, tab, hlen, hlen']
  refine W_loop _ fun I hI => ?_
  have key : ∀ (r p : List Move) (ts : TS), l = p ++ r → (ts 0 = v ∧ ts 1 = v' ∧ ts 12 = .int .i64 l.length ∧ ts 13 = .int .i64 p.length) → I ts H := by
    intro r
    induction r with
    | nil =>
      intro p ts e hts
      apply hI
      simp at e
      subst e
      simp [hts, tab]
    | cons a r ih =>
      intro p ts e hts
      apply hI
      have hlt : (p.length : Int) < l.length := by simp [e]; omega
      obtain ⟨b, q, _, e1, e2, -⟩ := hv.get (tab := tab) (e := 51) (ety := tM) rfl (i := p.length) (a := a) (by simp [e]) .i64
      have e2 := e2 rfl
      obtain ⟨b', q', _, e1', e2', -⟩ := hv'.get (tab := tab) (e := 51) (ety := tM) rfl (i := p.length) (a := a) (by simp [e]) .i64
      have e2' := e2' rfl
      have hw := wrap64 (x := (p.length : Int) + 1) (by omega) (by omega)
      simp [hts, tab, hlt]
      refine W_draw mixed (.look 0 (.look 1 (.look 2 (.look 3 (.look 4 (.look 5 (.look 6 (.look 7 (.look 8 .done))))))))) (by kernel_rfl) ?_
      simp [hts, tab, e1, e2, e1', e2', hw, Move.enc]
      exact ih (p ++ [a]) _ (by simp [e]) (by simp [hts])
  exact key l [] _ rfl (by simp)
end Go.Proofs.Ythihphgfblonoaa.Am
