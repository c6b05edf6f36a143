/- The laws' own helpers for []int. No condition. -/
import Derived.Test.YthihphgfblonoaaAmT
import Derived.Test.YthihphgfblonoaaAmOpen
namespace Go.Proofs.Ythihphgfblonoaa.Am
open Go Go.RowKit
set_option linter.unusedSimpArgs false
set_option linter.unusedVariables false

abbrev tI : Ty := ⟨.int .i64, 1, 8, [.int .i64 0], false⟩
def ints (l : List Int) : List (List AV) := l.map fun x => [.int .i64 x]
@[simp] theorem ints_length (l : List Int) : (ints l).length = l.length := by simp [ints]
theorem ints_append (l l' : List Int) : ints (l ++ l') = ints l ++ ints l' := by simp [ints]
theorem ints_get {l : List Int} {i : Nat} {x : Int} (h : l[i]? = some x) : (ints l)[i]? = some [.int .i64 x] := by simp [ints, h]
theorem ints_one (l : List Int) : ∀ e ∈ ints l, e.length = 1 := by
  intro e he
  simp [ints] at he
  obtain ⟨x, _, rfl⟩ := he
  rfl
theorem ints_flatten (l : List Int) : (ints l).flatten = l.map (AV.int .i64) := by
  induction l with
  | nil => rfl
  | cons a l ih => simp [ints] at ih ⊢; exact ih
theorem toIntS_ok (l : List Int) (v : AV) (H : Hp) (hm : l.length ≤ 1048576) (hv : Row 1 H v (ints l)) : T Try.prog 18 [v] H (fun r H' => Own 1 H' r (ints l) ∧ Fresh H.length r ∧ Fr H H') := by
  refine T.by tabOk Try.func18 (by kernel_rfl) rfl _ (by simp [Try.f18]) H _ ?_
  have hlen := hv.len 3
  obtain ⟨K0, m1, m2, m3⟩ := make_ok (ety := tI) (K := H) (n := l.length) rfl (by decide) (by simp; omega) (by omega)
  simp [Try.f18, tab, hlen, m1]
  refine W_loop _ fun I hI => ?_
  have key : ∀ (r p : List Int) (ts : TS) (K : Hp) (out : AV), l = p ++ r → Fr H K → Fresh H.length out → Own 1 K out (ints p ++ List.replicate r.length [.int .i64 0]) → (ts 0 = v ∧ ts 3 = out ∧ ts 4 = .int .i64 p.length) → I ts K := by
    intro r
    induction r with
    | nil =>
      intro p ts K out hl hK hf ho hts
      apply hI
      simp at hl
      subst hl
      simp [hts, hlen, tab]
      exact ⟨by simpa using ho, hf, hK⟩
    | cons a r ih =>
      intro p ts K out hl hK hf ho hts
      apply hI
      have hlt : (p.length : Int) < l.length := by simp [hl]; omega
      obtain ⟨b, q, hb, e1, e2⟩ := Row.get1 hv (tab := tab) (e := 3) (ety := tI) rfl rfl rfl (i := p.length) (a := a) (by simp [hl]) .i64
      obtain ⟨b', rfl, f1, f2⟩ := ho.store (tab := tab) (e := 3) (ety := tI) rfl (i := p.length) (c := [.int .i64 0]) (by simp) .i64
      obtain ⟨K2, f3, f4, f5, f6⟩ := f2 tI 0 (.int .i64 a) rfl rfl (by decide)
      have hw := wrap64 (x := p.length + 1) (by omega) (by omega)
      simp at f1 f3
      simp (maxDischargeDepth := 9) [hts, hlen, tab, hlt, hK.index, hK.load, e1, e2, f1, f3, hw]
      refine ih (p ++ [a]) _ _ _ (by simp [hl]) (Fr.then hK f5 hf) hf ?_ (by simp [hts])
      have e : (ints p ++ List.replicate (a :: r).length [AV.int .i64 0]).set p.length (over [AV.int .i64 0] 0 [.int .i64 a]) = ints (p ++ [a]) ++ List.replicate r.length [AV.int .i64 0] := by
        simp [List.replicate_succ, ints]
      simp only [AV.cells, e] at f4
      exact f4
  refine key l [] _ _ _ rfl m3 ?_ ?_ ⟨rfl, rfl, rfl⟩
  · intro b hb; cases hb; exact Nat.le_refl _
  · simpa [ints] using m2
theorem eqIntS_ok (l l' : List Int) (v v' : AV) (H : Hp) (hm : l.length ≤ 140737488355328) (hv : Row 1 H v (ints l)) (hv' : Row 1 H v' (ints l')) : T Try.prog 20 [v, v'] H (fun r K => r = .bool (decide (l = l')) ∧ K = H) := by
  refine T.by tabOk Try.func20 (by kernel_rfl) rfl _ (by simp [Try.f20]) H _ ?_
  have hlen := hv.len 3
  have hlen' := hv'.len 3
  by_cases hl : l.length = l'.length
  case neg =>
    have hne : (l.length : Int) ≠ l'.length := by omega
    have hne2 : l ≠ l' := fun e => hl (by rw [e])
    simp [Try.f20, tab, hlen, hlen', hne, hne2]
  simp [Try.f20, tab, hlen, hlen', hl]
  refine W_loop _ fun I hI => ?_
  have key : ∀ (r p r' : List Int) (ts : TS), l = p ++ r → l' = p ++ r' → (ts 0 = v ∧ ts 1 = v' ∧ ts 5 = .int .i64 p.length) → I ts H := by
    intro r
    induction r with
    | nil =>
      intro p r' ts e e' hts
      apply hI
      obtain _ | ⟨a', r'⟩ := r'
      case cons => simp [e, e'] at hl
      simp at e e'
      subst e e'
      simp [hts, hlen, tab]
    | cons a r ih =>
      intro p r' ts e e' hts
      obtain _ | ⟨a', r'⟩ := r'
      · simp [e, e'] at hl
      apply hI
      have hlt : (p.length : Int) < l.length := by simp [e]; omega
      obtain ⟨b, q, hb, e1, e2⟩ := Row.get1 hv (tab := tab) (e := 3) (ety := tI) rfl rfl rfl (i := p.length) (a := a) (by simp [e]) .i64
      obtain ⟨b', q', hb', e1', e2'⟩ := Row.get1 hv' (tab := tab) (e := 3) (ety := tI) rfl rfl rfl (i := p.length) (a := a') (by simp [e']) .i64
      simp [hts, hlen, tab, hlt]
      refine W_draw mixed (.look 0 (.look 1 (.look 2 (.look 3 (.look 4 (.look 5 (.look 6 (.look 7 (.look 8 .done))))))))) (by kernel_rfl) ?_
      by_cases ha : a = a'
      · subst ha
        have hw := wrap64 (x := p.length + 1) (by omega) (by omega)
        simp [hts, hw, tab, e1, e2, e1', e2']
        exact ih (p ++ [a]) r' _ (by simp [e]) (by simp [e']) (by simp [hts])
      · simp [ha, hts, tab, e1, e2, e1', e2', e, e']
  exact key l [] l' _ rfl rfl (by simp)
/-- So many numbers from k on. -/
def up (k : Int) : Nat → List Int
  | 0 => []
  | n + 1 => k :: up (k + 1) n
@[simp] theorem up_length (k : Int) (n : Nat) : (up k n).length = n := by
  induction n generalizing k with
  | zero => rfl
  | succ n ih => simp [up, ih]
theorem up_snoc (k : Int) (n : Nat) : up k (n + 1) = up k n ++ [k + n] := by
  induction n generalizing k with
  | zero => simp [up]
  | succ n ih =>
    rw [up, ih, up]
    simp
    omega
theorem markIntS_ok (es : List (List AV)) (v : AV) (k : Int) (H : Hp) (hk : 0 ≤ k) (hm : k + es.length ≤ 4611686018427387904) (hv : Own 1 H v es) : T Try.prog 22 [v, .int .i64 k] H (fun r K => r = .int .i64 (k + es.length) ∧ Own 1 K v (ints (up k es.length)) ∧ Keeps v.at H K ∧ K.length = H.length) := by
  refine T.by tabOk Try.func22 (by kernel_rfl) rfl _ (by simp [Try.f22]) H _ ?_
  have hlen := hv.row.len 3
  simp [Try.f22, tab]
  refine W_loop _ fun I hI => ?_
  have key : ∀ (r : List (List AV)) (n : Nat) (ts : TS) (K : Hp), es.length = n + r.length → (∀ e ∈ r, e.length = 1) → Own 1 K v (ints (up k n) ++ r) → Keeps v.at H K → K.length = H.length → (ts 0 = v ∧ ts 1 = .int .i64 (k + n) ∧ ts 5 = .int .i64 n) → I ts K := by
    intro r
    induction r with
    | nil =>
      intro n ts K e he ho hK hKl hts
      apply hI
      simp at e
      subst e
      simp [hts, hlen, tab]
      exact ⟨by simpa using ho, hK, hKl⟩
    | cons a r ih =>
      intro n ts K e he ho hK hKl hts
      apply hI
      have hlt : (n : Int) < es.length := by simp [e]; omega
      obtain ⟨b', hv', f1, f2⟩ := ho.store (tab := tab) (e := 3) (ety := tI) rfl (i := n) (c := a) (by simp) .i64
      obtain ⟨K2, f3, f4, f5, f6⟩ := f2 tI 0 (.int .i64 (k + n)) rfl rfl (by decide)
      have hw := wrap64 (x := n + 1) (by omega) (by omega)
      have hw2 := wrap64 (x := k + n + 1) (by omega) (by omega)
      simp at f1 f3
      simp (maxDischargeDepth := 9) [hts, hlen, tab, hlt, f1, f3, hw, hw2]
      refine ih (n + 1) _ _ (by simp [e]; omega) (fun e he' => he e (by simp [he'])) ?_ (hK.trans f5) (by omega) (by simp [hts]; omega)
      have ha := he a (by simp)
      obtain ⟨x, rfl⟩ := List.length_eq_one_iff.1 ha
      have e : (ints (up k n) ++ [x] :: r).set n (over [x] 0 [.int .i64 (k + n)]) = ints (up k (n + 1)) ++ r := by
        rw [up_snoc, ints_append, List.set_append_right _ _ (by simp)]
        simp [ints]
      simp only [AV.cells, e] at f4
      exact f4
  exact key es 0 _ _ (by simp) hv.1 (by simpa [up, ints] using hv) (Keeps.refl _ _) rfl (by simp)
theorem heldIntS_ok (n : Nat) (v : AV) (k : Int) (H : Hp) (hk : 0 ≤ k) (hm : k + n ≤ 4611686018427387904) (hv : Row 1 H v (ints (up k n))) : T Try.prog 23 [v, .int .i64 k] H (fun r K => r = .int .i64 (k + n) ∧ K = H) := by
  refine T.by tabOk Try.func23 (by kernel_rfl) rfl _ (by simp [Try.f23]) H _ ?_
  have hlen := hv.len 3
  simp [Try.f23, tab]
  refine W_loop _ fun I hI => ?_
  have upg : ∀ (n i : Nat) (k : Int), i < n → (up k n)[i]? = some (k + i) := by
    intro n
    induction n with
    | zero => intro i k h; omega
    | succ n ih =>
      intro i k h
      cases i with
      | zero => simp [up]
      | succ i => simp only [up, List.getElem?_cons_succ]; rw [ih i (k + 1) (by omega)]; simp; omega
  have key : ∀ (j i : Nat) (ts : TS), i + j = n → (ts 0 = v ∧ ts 1 = .int .i64 (k + i) ∧ ts 5 = .int .i64 i) → I ts H := by
    intro j
    induction j with
    | zero =>
      intro i ts e hts
      apply hI
      simp at e
      subst e
      simp [hts, hlen, tab]
    | succ j ih =>
      intro i ts e hts
      apply hI
      have hlt : (i : Int) < n := by omega
      obtain ⟨b, q, hb, e1, e2⟩ := Row.get1 hv (tab := tab) (e := 3) (ety := tI) rfl rfl rfl (i := i) (a := k + i) (upg n i k (by omega)) .i64
      have hw := wrap64 (x := i + 1) (by omega) (by omega)
      have hw2 := wrap64 (x := k + i + 1) (by omega) (by omega)
      simp (maxDischargeDepth := 9) [hts, hlen, tab, hlt, e1, e2, hw, hw2]
      exact ih (i + 1) _ (by omega) (by simp [hts]; omega)
  exact key n 0 _ (by simp) (by simp)
end Go.Proofs.Ythihphgfblonoaa.Am
