/- slices.IndexFunc and slices.ContainsFunc over []int. No condition. -/
import Derived.Test.YthihphgfblonoaaLInts
namespace Go.Proofs.Ythihphgfblonoaa.Am
open Go Go.RowKit
set_option linter.unusedSimpArgs false
set_option linter.unusedVariables false

/-- What a function literal says of a number. -/
def Asks (g : FuncId) (caps : List AV) (p : Int → Prop) [DecidablePred p] (l : List Int) (H : Hp) : Prop := ∀ (K : Hp) (x : Int), Fr H K → x ∈ l → T Try.prog g (.int .i64 x :: caps) K (fun r K' => r = .bool (decide (p x)) ∧ Fr K K')
theorem containsAt_ok (l : List Int) (v : AV) (g : FuncId) (caps : List AV) (p : Int → Prop) [DecidablePred p] (H : Hp) (hm : l.length ≤ 140737488355328) (hv : Row 1 H v (ints l)) (hf : Asks g caps p l H) : T Try.prog 67 [v, .fn g caps] H (fun r K => (∃ i : Int, r = .int .i64 i ∧ (0 ≤ i ↔ ∃ x ∈ l, p x)) ∧ Fr H K) := by
  refine T.by tabOk Try.func67 (by kernel_rfl) rfl _ (by simp [Try.f67]) H _ ?_
  have hlen := hv.len 3
  simp [Try.f67, tab, hlen]
  refine W_loop _ fun I hI => ?_
  have key : ∀ (r q : List Int) (ts : TS) (K : Hp), l = q ++ r → Fr H K → (∀ x ∈ q, ¬ p x) → (ts 0 = v ∧ ts 1 = .fn g caps ∧ ts 7 = .int .i64 l.length ∧ ts 8 = .int .i64 q.length) → I ts K := by
    intro r
    induction r with
    | nil =>
      intro q ts K e hK hq hts
      apply hI
      simp at e
      subst e
      simp [hts, tab, hK]
      exact hq
    | cons a r ih =>
      intro q ts K e hK hq hts
      apply hI
      have hlt : (q.length : Int) < l.length := by simp [e]; omega
      obtain ⟨b, c, _, e1, e2⟩ := Row.get1 hv (tab := tab) (e := 3) (ety := tI) rfl rfl rfl (i := q.length) (a := a) (by simp [e]) .i64
      have hw := wrap64 (x := q.length + 1) (by omega) (by omega)
      simp (maxDischargeDepth := 9) [hts, tab, hlt, hK.index, hK.load, e1, e2]
      refine (hf K a hK (by simp [e])).mono fun y K1 ⟨y1, y2⟩ => ?_
      subst y1
      by_cases ha : p a
      · simp [hts, tab, ha]
        exact ⟨⟨a, by simp [e], ha⟩, hK.trans y2⟩
      · simp [hts, tab, ha, hw]
        refine ih (q ++ [a]) _ _ (by simp [e]) (hK.trans y2) ?_ (by simp [hts])
        intro x hx
        simp at hx
        rcases hx with hx | rfl
        · exact hq x hx
        · exact ha
  exact key l [] _ _ rfl (Fr.refl H) (by simp) (by simp)
theorem containsFunc_ok (l : List Int) (v : AV) (g : FuncId) (caps : List AV) (p : Int → Prop) [DecidablePred p] (H : Hp) (hm : l.length ≤ 140737488355328) (hv : Row 1 H v (ints l)) (hf : Asks g caps p l H) : T Try.prog 53 [v, .fn g caps] H (fun r K => r = .bool (decide (∃ x ∈ l, p x)) ∧ Fr H K) := by
  refine T.by tabOk Try.func53 (by kernel_rfl) rfl _ (by simp [Try.f53]) H _ ?_
  simp [Try.f53]
  refine (containsAt_ok l v g caps p H hm hv hf).mono fun r K ⟨⟨i, h1, h2⟩, h3⟩ => ?_
  subst h1
  simp [tab, h2, h3]
end Go.Proofs.Ythihphgfblonoaa.Am
