/- Moves, and the laws' own helpers for them. No condition. -/
import Derived.Test.YthihphgfblonoaaLIntSS
namespace Go.Proofs.Ythihphgfblonoaa.Am
open Go Go.RowKit
set_option linter.unusedSimpArgs false
set_option linter.unusedVariables false

structure Move where
  fr : Int
  to : Int
  deriving DecidableEq
def Move.enc (m : Move) : List AV := [.int .i64 m.fr, .int .i64 m.to]
abbrev tM : Ty := ⟨.struct [(0, 3), (1, 3)], 2, 16, [.int .i64 0, .int .i64 0], true⟩
abbrev moves (l : List Move) : List (List AV) := l.map Move.enc
theorem l1In_ok (x a b : Int) (H : Hp) : T Try.prog 49 [.int .i64 x, .int .i64 a, .int .i64 b] H (fun r H' => r = .bool (decide (a ≤ x ∧ x ≤ b)) ∧ H' = H) := by
  refine T.by tabOk Try.func49 (by kernel_rfl) rfl _ (by simp [Try.f49]) H _ ?_
  by_cases h1 : a ≤ x <;> by_cases h2 : x ≤ b <;> simp [Try.f49, tab, h1, h2]
theorem in_ok (x a b : Int) (H : Hp) : T Try.prog 52 [.int .i64 x, .int .i64 a, .int .i64 b] H (fun r H' => r = .bool (decide (a ≤ x ∧ x ≤ b)) ∧ H' = H) := by
  refine T.by tabOk Try.func52 (by kernel_rfl) rfl _ (by simp [Try.f52]) H _ ?_
  by_cases h1 : a ≤ x <;> by_cases h2 : x ≤ b <;> simp [Try.f52, tab, h1, h2]
theorem toMove_ok (e : Move) (H : Hp) : T Try.prog 45 [.agg e.enc] H (fun r H' => r = .agg e.enc ∧ Fr H H') := by
  refine T.by tabOk Try.func45 (by kernel_rfl) rfl _ (by simp [Try.f45]) H _ ?_
  simp [Try.f45, tab, Move.enc]
  exact Fr.app _ _
theorem eqMove_ok (a b : Move) (H : Hp) : T Try.prog 47 [.agg a.enc, .agg b.enc] H (fun r H' => r = .bool (decide (a = b)) ∧ Fr H H') := by
  refine T.by tabOk Try.func47 (by kernel_rfl) rfl _ (by simp [Try.f47]) H _ ?_
  obtain ⟨a1, a2⟩ := a
  obtain ⟨b1, b2⟩ := b
  by_cases h1 : a1 = b1 <;> by_cases h2 : a2 = b2 <;> simp [Try.f47, tab, Move.enc, h1, h2] <;> exact Fr.app _ _
theorem toMoveS_ok (l : List Move) (v : AV) (H : Hp) (hm : l.length ≤ 1048576) (hv : Row 2 H v (l.map Move.enc)) : T Try.prog 14 [v] H (fun r H' => Own 2 H' r (l.map Move.enc) ∧ Fresh H.length r ∧ Fr H H') := by
  refine T.by tabOk Try.func14 (by kernel_rfl) rfl _ (by simp [Try.f14]) H _ ?_
  have hlen := hv.len 58
  obtain ⟨K0, m1, m2, m3⟩ := make_ok (ety := tM) (K := H) (n := l.length) rfl (by decide) (by simp; omega) (by omega)
  simp [Try.f14, tab, hlen, m1]
  refine W_loop _ fun I hI => ?_
  have key : ∀ (r p : List Move) (ts : TS) (K : Hp) (out : AV), l = p ++ r → Fr H K → Fresh H.length out → Own 2 K out (p.map Move.enc ++ List.replicate r.length tM.zero) → (ts 0 = v ∧ ts 3 = out ∧ ts 4 = .int .i64 p.length) → I ts K := by
    intro r
    induction r with
    | nil =>
      intro p ts K out hl hK hf ho hts
      apply hI
      simp at hl
      subst hl
      simp (maxDischargeDepth := 9) [hts, hlen, tab]
      exact ⟨by simpa using ho, hf, hK⟩
    | cons a r ih =>
      intro p ts K out hl hK hf ho hts
      apply hI
      have hlt : (p.length : Int) < l.length := by simp [hl]; omega
      obtain ⟨b, q, hb, e1, e2, -⟩ := hv.get (tab := tab) (e := 58) (ety := tM) rfl (i := p.length) (a := a) (by simp [hl]) .i64
      have e2 := e2 rfl
      simp (maxDischargeDepth := 9) [hts, hlen, tab, hlt, hK.index, hK.load, e1, e2]
      refine (toMove_ok a K).mono fun x K1 ⟨hx, h1⟩ => ?_
      subst hx
      obtain ⟨b', rfl, f1, f2⟩ := (ho.fr h1).store (tab := tab) (e := 51) (ety := tM) rfl (i := p.length) (c := tM.zero) (by simp) .i64
      obtain ⟨K2, f3, f4, f5, f6⟩ := f2 tM 0 (.agg a.enc) rfl rfl (by decide)
      have hw := wrap64 (x := p.length + 1) (by omega) (by omega)
      simp at f1 f3
      simp (maxDischargeDepth := 9) [hts, tab, f1, f3, hw]
      refine ih (p ++ [a]) _ _ _ (by simp [hl]) (Fr.then (hK.trans h1) f5 hf) hf ?_ (by simp (maxDischargeDepth := 9) [hts])
      have e : (List.map Move.enc p ++ List.replicate (a :: r).length tM.zero).set p.length (over tM.zero 0 a.enc) = List.map Move.enc (p ++ [a]) ++ List.replicate r.length tM.zero := by
        simp [List.replicate_succ, Move.enc]
      simp only [AV.cells, e] at f4
      exact f4
  refine key l [] _ _ _ rfl m3 ?_ ?_ ⟨rfl, rfl, rfl⟩
  · intro b hb; cases hb; exact Nat.le_refl _
  · simpa using m2
theorem eqMoveS_ok (l l' : List Move) (v v' : AV) (H : Hp) (hm : l.length ≤ 1048576) (hv : Row 2 H v (l.map Move.enc)) (hv' : Row 2 H v' (l'.map Move.enc)) : T Try.prog 16 [v, v'] H (fun r H' => r = .bool (decide (l = l')) ∧ Fr H H') := by
  refine T.by tabOk Try.func16 (by kernel_rfl) rfl _ (by simp [Try.f16]) H _ ?_
  have hlen := hv.len 51
  have hlen' := hv'.len 51
  by_cases hl : l.length = l'.length
  case neg =>
    have hne : (l.length : Int) ≠ l'.length := by omega
    have hne2 : l ≠ l' := fun e => hl (by rw [e])
    simp [Try.f16, tab, hlen, hlen', hne, hne2]
    exact Fr.refl H
  simp [Try.f16, tab, hlen, hlen', hl]
  refine W_loop _ fun I hI => ?_
  have key : ∀ (r p r' : List Move) (ts : TS) (K : Hp), l = p ++ r → l' = p ++ r' → Fr H K → (ts 0 = v ∧ ts 1 = v' ∧ ts 5 = .int .i64 p.length) → I ts K := by
    intro r
    induction r with
    | nil =>
      intro p r' ts K e e' hK hts
      apply hI
      obtain _ | ⟨a', r'⟩ := r'
      case cons => simp [e, e'] at hl
      simp at e e'
      subst e e'
      simp (maxDischargeDepth := 9) [hts, hlen, tab, hK]
    | cons a r ih =>
      intro p r' ts K e e' hK hts
      obtain _ | ⟨a', r'⟩ := r'
      · simp [e, e'] at hl
      apply hI
      have hlt : (p.length : Int) < l.length := by simp [e]; omega
      obtain ⟨b, q, hb, e1, e2, -⟩ := hv.get (tab := tab) (e := 51) (ety := tM) rfl (i := p.length) (a := a) (by simp [e]) .i64
      have e2 := e2 rfl
      obtain ⟨b', q', hb', e1', e2', -⟩ := hv'.get (tab := tab) (e := 51) (ety := tM) rfl (i := p.length) (a := a') (by simp [e']) .i64
      have e2' := e2' rfl
      simp (maxDischargeDepth := 9) [hts, hlen, tab, hlt]
      refine W_draw mixed (.look 0 (.look 1 (.look 2 (.look 3 (.look 4 (.look 5 (.look 6 (.look 7 (.act 8 [] (.look 9 .done) .stop))))))))) (by kernel_rfl) ?_
      simp (maxDischargeDepth := 9) [hts, hlen, tab, hlt, hK.index, hK.load, e1, e2, e1', e2']
      refine (eqMove_ok a a' K).mono fun x K1 ⟨hx, h1⟩ => ?_
      subst hx
      by_cases ha : a = a'
      · subst ha
        have hw := wrap64 (x := p.length + 1) (by omega) (by omega)
        simp (maxDischargeDepth := 9) [hts, hw]
        exact ih (p ++ [a]) r' _ _ (by simp [e]) (by simp [e']) (hK.trans h1) (by simp (maxDischargeDepth := 9) [hts])
      · simp [ha, hts, e, e']
        exact hK.trans h1
  exact key l [] l' _ _ rfl rfl (Fr.refl H) (by simp)
theorem szMoveS_ok (l : List Move) (v : AV) (H : Hp) (hm : l.length ≤ 140737488355328) (hv : Row 2 H v (l.map Move.enc)) : T Try.prog 12 [v, .int .i64 1048576] H (fun r K => r = .int .i64 (if 1048576 < l.length then -1 else 1048576 - l.length) ∧ K = H) := by
  refine T.by tabOk Try.func12 (by kernel_rfl) rfl _ (by simp [Try.f12]) H _ ?_
  have hlen := hv.len 58
  have hw := wrap64 (x := 1048576 - l.length) (by omega) (by omega)
  by_cases h : 1048576 < l.length
  · have h' : (1048576 : Int) - l.length < 0 := by omega
    simp [Try.f12, tab, hlen, hw, h, h']
  · have h' : ¬ (1048576 : Int) - l.length < 0 := by omega
    simp [Try.f12, tab, hlen, hw, h, h']
theorem markMoveS_ok (l : List Move) (v : AV) (H : Hp) (hm : l.length ≤ 1048576) (hv : Own 2 H v (moves l)) : T Try.prog 21 [v, .int .i64 1] H (fun r K => r = .int .i64 (1 + 2 * l.length) ∧ Keeps v.at H K) := by
  refine T.by tabOk Try.func21 (by kernel_rfl) rfl _ (by simp [Try.f21]) H _ ?_
  simp [Try.f21]
  refine W_loop _ fun I hI => ?_
  have key : ∀ (d k : Nat) (ts : TS) (K : Hp) (m : List Move), k + d = l.length → m.length = l.length → Own 2 K v (moves m) → Keeps v.at H K → (ts 0 = v ∧ ts 1 = .int .i64 (1 + 2 * k) ∧ ts 5 = .int .i64 k) → I ts K := by
    intro d
    induction d with
    | zero =>
      intro k ts K m e hl ho hK hts
      apply hI
      have hlen := ho.row.len 51
      obtain rfl : k = l.length := by omega
      simp [hts, tab, hlen, hl]
      exact hK
    | succ d ih =>
      intro k ts K m e hl ho hK hts
      apply hI
      have hlen := ho.row.len 51
      have hlt : (k : Int) < l.length := by omega
      have hkl : k < m.length := by omega
      have hget : (moves m)[k]? = some m[k].enc := by simp [hkl]
      obtain ⟨b', hb', f1, f2⟩ := ho.store (tab := tab) (e := 51) (ety := tM) rfl hget .i64
      obtain ⟨K2, f3, f4, f5, f6⟩ := f2 tI 0 (.int .i64 (1 + 2 * k)) rfl rfl (by decide)
      have e1 : (moves m).set k (over m[k].enc 0 (AV.int .i64 (1 + 2 * k)).cells) = moves (m.set k ⟨1 + 2 * k, m[k].to⟩) := by simp [moves, List.map_set, Move.enc, over]
      rw [e1] at f4
      have hget2 : (moves (m.set k ⟨1 + 2 * k, m[k].to⟩))[k]? = some (Move.enc ⟨1 + 2 * k, m[k].to⟩) := by simp [hkl]
      obtain ⟨b'', hb'', g1, g2⟩ := f4.store (tab := tab) (e := 51) (ety := tM) rfl hget2 .i64
      obtain ⟨K3, g3, g4, g5, g6⟩ := g2 tI 1 (.int .i64 (1 + 2 * k + 1)) rfl rfl (by decide)
      have e2 : (moves (m.set k ⟨1 + 2 * k, m[k].to⟩)).set k (over (Move.enc ⟨1 + 2 * k, m[k].to⟩) 1 (AV.int .i64 (1 + 2 * k + 1)).cells) = moves (m.set k ⟨1 + 2 * k, 1 + 2 * k + 1⟩) := by simp [moves, List.map_set, Move.enc, over, List.set_set]
      rw [e2] at g4
      have hw1 := wrap64 (x := 1 + 2 * k + 1) (by omega) (by omega)
      have hw2 := wrap64 (x := 1 + 2 * k + 1 + 1) (by omega) (by omega)
      have hw3 := wrap64 (x := k + 1) (by omega) (by omega)
      simp at f1 f3 g1 g3
      simp (maxDischargeDepth := 9) [hts, tab, hlen, hl, hlt, f1, f3, g1, g3, hw1, hw2, hw3]
      exact ih (k + 1) _ K3 _ (by omega) (by simpa using hl) g4 ((hK.trans f5).trans g5) (by simp [hts]; omega)
  exact key l.length 0 _ H l (by omega) rfl hv (Keeps.refl _ _) (by simp)
theorem moves_open (H : Hp) (x : AV) (h : SSl 2 16 (SPair (SInt .i64) (SInt .i64)) H [x]) : ∃ l, Row 2 H x (moves l) ∧ l.length ≤ 140737488355328 := by
  obtain ⟨v, es, e1, h1, h2, h3, h4⟩ := h
  cases e1
  obtain ⟨l, rfl, hl⟩ := map_of_all (enc := Move.enc) (q := fun _ => True) (es := es) (fun e he => by
    obtain ⟨_, _, rfl, ⟨a, rfl, _⟩, ⟨b, rfl, _⟩⟩ := h4 e he
    exact ⟨⟨a, b⟩, rfl, trivial⟩)
  exact ⟨l, h1, by simp at h3; omega⟩
end Go.Proofs.Ythihphgfblonoaa.Am
