/- Patterns: both ways walked. No condition. -/
import Derived.Test.YtmmohcledhenfaaLTreeWalk
namespace Go.Proofs.Ytmmohcledhenfaa.Am
open Go Go.RowKit
set_option linter.unusedSimpArgs false
set_option linter.unusedVariables false

set_option maxHeartbeats 1000000 in
theorem specPat_ok (l : List Int) (c : Int) (v : AV) (H : Hp) (hm : l.length ≤ 1048576) (hv : Row 1 H v (ints l)) : T Try.prog 53 [.agg [v, .int .i64 c]] H (fun r K => r = .bool (decide (GP l c)) ∧ Fr H K) := by
  obtain ⟨g, hg⟩ : ∃ g, decide (GP l c) = g := ⟨_, rfl⟩
  rw [hg]
  have no : ¬ GP l c → g = false := fun h => by rw [← hg]; exact decide_eq_false h
  have yes : GP l c → g = true := fun h => by rw [← hg]; exact decide_eq_true h
  clear hg
  refine T.by tabOk Try.func53 (by kernel_rfl) rfl _ (by simp [Try.f53]) H _ ?_
  have hlen := hv.len 3
  simp only [ints_length] at hlen
  have hv1 := hv.one
  have hv2 := cells_of_one hv1
  obtain ⟨K, hK, f1⟩ : ∃ K, H ++ [some ⟨2, true, [v, .int .i64 c]⟩] = K ∧ Fr H K := ⟨_, rfl, Fr.app _ _⟩
  have hb : K[H.length]? = some (some ⟨2, true, [v, .int .i64 c]⟩) := by rw [← hK]; simp
  have q0 : loadA tL K (.ptr H.length 0) = some v := load_at hb rfl rfl rfl
  have q1 : loadA tI K (.ptr H.length 1) = some (.int .i64 c) := load_at hb rfl rfl rfl
  have hvK := hv.fr f1
  simp [Try.f53, tab, hv1, hv2, over, hK]
  refine W_draw mixed (.look 0 (.look 1 (.look 2 (.act 3 [] (.look 4 (.look 5 (.look 6 (.look 7 (.look 8 (.look 9 (.look 10 (.look 11 (.look 12 (.look 13 (.look 15 (.look 16 (.look 17 (.act 14 [16] (.look 18 (.look 19 (.look 20 (.look 21 (.look 22 (.act 23 [] (.look 24 (.act 25 [] .done .stop)) .stop)))))) .stop)))))))))))))) .stop)))) (by kernel_rfl) ?_
  simp (maxDischargeDepth := 9) [tab, q0, hlen]
  refine (l1In_ok _ 1 10 K).mono fun x K' ⟨x1, x2⟩ => ?_
  subst x1 x2
  by_cases h1 : (1 : Int) ≤ l.length ∧ (l.length : Int) ≤ 10
  case neg =>
    have hn := no fun h => h1 ⟨by have := h.1; omega, by have := h.2.1; omega⟩
    simp [tab, h1, hn]
    exact f1
  have hhd : l[0]? = some (l.getD 0 0) := by
    rw [List.getD_eq_getElem?_getD, List.getElem?_eq_getElem (by omega)]; rfl
  obtain ⟨b, q, _, e1, e2⟩ := Row.get1 hvK (tab := tab) (e := 3) (ety := tI) rfl rfl rfl hhd .i64
  simp only [Int.natCast_zero] at e1
  have hgp : l.getD 0 0 ≠ 0 → scan true l 1 = some l.length → 1 ≤ c ∧ c ≤ 100 → GP l c := fun h2 h3 h4 => ⟨by omega, by omega, h2, h3, h4⟩
  have gp1 : GP l c → l.getD 0 0 ≠ 0 ∧ scan true l 1 = some l.length ∧ 1 ≤ c ∧ c ≤ 100 := fun h => ⟨h.2.2.1, h.2.2.2⟩
  generalize l.getD 0 0 = a at *
  by_cases h2 : a = 0
  · have hn := no fun h => (gp1 h).1 h2
    subst h2
    simp (maxDischargeDepth := 9) [tab, h1, q0, e1, e2, hn]
    exact f1
  simp (maxDischargeDepth := 9) [tab, h1, q0, hlen, e1, e2, h2]
  refine (l9End_ok true l 0 v K' hm (by omega) hvK).mono fun x K ⟨x1, x2⟩ => ?_
  subst x1 x2
  have hiff := endS_iff (l := l) (by omega)
  generalize endS true l 0 = z at *
  by_cases h3 : z = (l.length : Int)
  case neg =>
    have hn := no fun h => h3 (hiff.2 (gp1 h).2.1)
    simp (maxDischargeDepth := 9) [tab, h2, q0, hlen, h3, hn]
    exact f1
  subst h3
  simp (maxDischargeDepth := 9) [tab, h2, q0, q1, hlen]
  refine (l1In_ok c 1 100 K).mono fun x K' ⟨x1, x2⟩ => ?_
  subst x1 x2
  by_cases h4 : 1 ≤ c ∧ c ≤ 100
  · have hn := yes (hgp h2 (hiff.1 rfl) h4)
    simp [tab, h2, h4, hn]
    exact f1
  · have hn := no fun h => h4 (gp1 h).2.2
    simp [tab, h2, h4, hn]
    exact f1
set_option maxHeartbeats 1000000 in
theorem implPat_ok (l : List Int) (c : Int) (v : AV) (H : Hp) (hm : l.length ≤ 1048576) (hv : Row 1 H v (ints l)) : T Try.prog 58 [.agg [v, .int .i64 c]] H (fun r K => r = .bool (decide (GP l c)) ∧ Fr H K) := by
  obtain ⟨g, hg⟩ : ∃ g, decide (GP l c) = g := ⟨_, rfl⟩
  rw [hg]
  have no : ¬ GP l c → g = false := fun h => by rw [← hg]; exact decide_eq_false h
  have yes : GP l c → g = true := fun h => by rw [← hg]; exact decide_eq_true h
  clear hg
  refine T.by tabOk Try.func58 (by kernel_rfl) rfl _ (by simp [Try.f58]) H _ ?_
  have hlen := hv.len 3
  simp only [ints_length] at hlen
  have hv1 := hv.one
  have hv2 := cells_of_one hv1
  obtain ⟨K, hK, f1⟩ : ∃ K, H ++ [some ⟨2, true, [v, .int .i64 c]⟩] = K ∧ Fr H K := ⟨_, rfl, Fr.app _ _⟩
  have hb : K[H.length]? = some (some ⟨2, true, [v, .int .i64 c]⟩) := by rw [← hK]; simp
  have q0 : loadA tL K (.ptr H.length 0) = some v := load_at hb rfl rfl rfl
  have q1 : loadA tI K (.ptr H.length 1) = some (.int .i64 c) := load_at hb rfl rfl rfl
  have hvK := hv.fr f1
  simp [Try.f58, tab, hv1, hv2, over, hK]
  refine W_draw mixed (.look 0 (.look 1 (.look 2 (.act 3 [] (.look 4 (.look 5 (.look 6 (.look 7 (.look 8 (.look 9 (.look 10 (.look 11 (.look 12 (.look 13 (.look 15 (.look 16 (.look 17 (.act 14 [16] (.look 18 (.look 19 (.look 20 (.look 21 (.look 22 (.act 23 [] (.look 24 (.act 25 [] .done .stop)) .stop)))))) .stop)))))))))))))) .stop)))) (by kernel_rfl) ?_
  simp (maxDischargeDepth := 9) [tab, q0, hlen]
  refine (in_ok _ 1 10 K).mono fun x K' ⟨x1, x2⟩ => ?_
  subst x1 x2
  by_cases h1 : (1 : Int) ≤ l.length ∧ (l.length : Int) ≤ 10
  case neg =>
    have hn := no fun h => h1 ⟨by have := h.1; omega, by have := h.2.1; omega⟩
    simp [tab, h1, hn]
    exact f1
  have hhd : l[0]? = some (l.getD 0 0) := by
    rw [List.getD_eq_getElem?_getD, List.getElem?_eq_getElem (by omega)]; rfl
  obtain ⟨b, q, _, e1, e2⟩ := Row.get1 hvK (tab := tab) (e := 3) (ety := tI) rfl rfl rfl hhd .i64
  simp only [Int.natCast_zero] at e1
  have hgp : l.getD 0 0 ≠ 0 → scan true l 1 = some l.length → 1 ≤ c ∧ c ≤ 100 → GP l c := fun h2 h3 h4 => ⟨by omega, by omega, h2, h3, h4⟩
  have gp1 : GP l c → l.getD 0 0 ≠ 0 ∧ scan true l 1 = some l.length ∧ 1 ≤ c ∧ c ≤ 100 := fun h => ⟨h.2.2.1, h.2.2.2⟩
  generalize l.getD 0 0 = a at *
  by_cases h2 : a = 0
  · have hn := no fun h => (gp1 h).1 h2
    subst h2
    simp (maxDischargeDepth := 9) [tab, h1, q0, e1, e2, hn]
    exact f1
  simp (maxDischargeDepth := 9) [tab, h1, q0, hlen, e1, e2, h2]
  refine (endOf_ok l 0 v K' hm (by omega) hvK).mono fun x K ⟨x1, x2⟩ => ?_
  subst x1 x2
  have hiff := endI_iff (l := l)
  generalize endI l 0 = z at *
  by_cases h3 : z = (l.length : Int)
  case neg =>
    have hn := no fun h => h3 (hiff.2 (gp1 h).2.1)
    simp (maxDischargeDepth := 9) [tab, h2, q0, hlen, h3, hn]
    exact f1
  subst h3
  simp (maxDischargeDepth := 9) [tab, h2, q0, q1, hlen]
  refine (in_ok c 1 100 K).mono fun x K' ⟨x1, x2⟩ => ?_
  subst x1 x2
  by_cases h4 : 1 ≤ c ∧ c ≤ 100
  · have hn := yes (hgp h2 (hiff.1 rfl) h4)
    simp [tab, h2, h4, hn]
    exact f1
  · have hn := no fun h => h4 (gp1 h).2.2
    simp [tab, h2, h4, hn]
    exact f1
end Go.Proofs.Ytmmohcledhenfaa.Am
