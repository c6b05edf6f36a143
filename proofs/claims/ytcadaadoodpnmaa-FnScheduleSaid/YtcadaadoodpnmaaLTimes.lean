/- The work, the longest chain and the least time of tasks. No condition. -/
import Derived.Test.YtcadaadoodpnmaaLGraham
namespace Go.Proofs.Ytcadaadoodpnmaa.Am
open Go Go.RowKit
set_option linter.unusedSimpArgs false
set_option linter.unusedVariables false

theorem sameInts_ok (l l' : List Int) (v v' : AV) (H : Hp) (hm : l.length ≤ 140737488355328) (hv : Row 1 H v (ints l)) (hv' : Row 1 H v' (ints l')) : T Try.prog 38 [v, v'] H (fun r K => r = .bool (decide (l = l')) ∧ K = H) := by
  refine T.by tabOk Try.func38 (by kernel_rfl) rfl _ (by simp [Try.f38]) H _ ?_
  have hlen := hv.len 3
  have hlen' := hv'.len 3
  by_cases hl : l.length = l'.length
  case neg =>
    have hne : (l.length : Int) ≠ l'.length := by omega
    have hne2 : l ≠ l' := fun e => hl (by rw [e])
    simp [Try.f38, tab, hlen, hlen', hne, hne2, hl]
  simp [Try.f38, tab, hlen, hlen', hl]
  refine W_loop _ fun I hI => ?_
  have key : ∀ (r p r' : List Int) (ts : TS), l = p ++ r → l' = p ++ r' → (ts 0 = v ∧ ts 1 = v' ∧ ts 12 = .int .i64 l'.length ∧ ts 13 = .int .i64 p.length) → I ts H := by
    intro r
    induction r with
    | nil =>
      intro p r' ts e e' hts
      apply hI
      obtain _ | ⟨a', r'⟩ := r'
      case cons => simp [e, e'] at hl
      simp at e e'
      subst e e'
      simp [hts, hlen, tab]
    | cons a r ih =>
      intro p r' ts e e' hts
      obtain _ | ⟨a', r'⟩ := r'
      · simp [e, e'] at hl
      apply hI
      have hlt : (p.length : Int) < l'.length := by simp [e']; omega
      obtain ⟨b, q, hb, e1, e2⟩ := Row.get1 hv (tab := tab) (e := 3) (ety := tI) rfl rfl rfl (i := p.length) (a := a) (by simp [e]) .i64
      obtain ⟨b', q', hb', e1', e2'⟩ := Row.get1 hv' (tab := tab) (e := 3) (ety := tI) rfl rfl rfl (i := p.length) (a := a') (by simp [e']) .i64
      simp [hts, hlen, tab, hlt]
      refine W_draw mixed (.look 0 (.look 1 (.look 2 (.look 3 (.look 4 (.look 5 (.look 6 (.look 7 (.look 8 .done))))))))) (by kernel_rfl) ?_
      by_cases ha : a = a'
      · subst ha
        have hw := wrap64 (x := p.length + 1) (by omega) (by omega)
        simp [hts, hw, tab, e1, e2, e1', e2']
        exact ih (p ++ [a]) r' _ (by simp [e]) (by simp [e']) (by simp [hts])
      · simp [ha, hts, tab, e1, e2, e1', e2', e, e']
  exact key l [] l' _ rfl rfl (by simp)
theorem work_append (p r : List Task) : work (p ++ r) = work p + work r := by simp [work]
theorem work_le {l : List Task} (h : ∀ t ∈ l, 1 ≤ t.long ∧ t.long ≤ 20) : 0 ≤ work l ∧ work l ≤ 20 * l.length := by
  induction l with
  | nil => simp [work]
  | cons t l ih =>
    have := ih fun t ht => h t (by simp [ht])
    have := h t (by simp)
    rw [work_cons]
    simp
    omega
theorem chain_bound {l : List Task} (hg : GoodT l) : 0 ≤ chain l ∧ chain l ≤ 240 := by
  refine ⟨chain_nonneg l, foldl_max _ _ _ (by omega) fun x hx => ?_⟩
  have := rks_bound l 0 hg.longs x hx
  have := hg.1
  omega
open Classical in
noncomputable def wres (l : List Task) : Int × Bool := if GoodT l then (work l, true) else (0, false)
open Classical in
noncomputable def cres (l : List Task) : Int × Bool := if GoodT l then (chain l, true) else (0, false)
open Classical in
noncomputable def leastOf (l : List Task) (n : Int) : Int := max (chain l) ((work l + n - 1).tdiv n)
open Classical in
noncomputable def mres (l : List Task) (n : Int) : Int × Bool := if GoodT l ∧ 1 ≤ n ∧ n ≤ 4 then (leastOf l n, true) else (0, false)
theorem told_good {l : List Task} {t : Bool} (h : t = true ↔ GoodT l) : (GoodT l ∧ t = true) ∨ (¬ GoodT l ∧ t = false) := by
  cases t with
  | true => exact .inl ⟨h.1 rfl, rfl⟩
  | false => exact .inr ⟨fun g => (by cases h.2 g), rfl⟩
set_option maxRecDepth 100000 in
theorem specWork_ok (l : List Task) (us : List AV) (v : AV) (H : Hp) (hm : l.length ≤ 1048576) (hmm : ∀ t ∈ l, t.after.length ≤ 1048576) (hv : TRow H v l us) : T Try.prog 18 [v] H (fun r K => r = .tup [.int .i64 (wres l).1, .bool (wres l).2] ∧ Fr H K) := by
  refine T.by tabOk Try.func18 (by kernel_rfl) rfl _ (by simp [Try.f18]) H _ ?_
  have hlen := hv.count 49
  simp [Try.f18]
  refine (specGood_ok l us v H hm hmm hv).mono fun r K0 ⟨⟨t, h1, h2⟩, h3⟩ => ?_
  subst h1
  rcases told_good h2 with ⟨hg, rfl⟩ | ⟨hg, rfl⟩
  case inr =>
    simp [wres, hg]
    exact h3
  simp [tab, hlen]
  refine W_loop _ fun I hI => ?_
  have key : ∀ (r p : List Task) (ts : TS) (K : Hp), l = p ++ r → Fr H K → (ts 4 = .int .i64 (work p) ∧ ts 10 = v ∧ ts 11 = .int .i64 l.length ∧ ts 12 = .int .i64 p.length) → I ts K := by
    intro r
    induction r with
    | nil =>
      intro p ts K hl hK hts
      apply hI
      simp at hl
      subst hl
      simp [hts, tab, wres, hg]
      exact hK
    | cons a r ih =>
      intro p ts K hl hK hts
      apply hI
      have hlt : (p.length : Int) < l.length := by simp [hl]; omega
      obtain ⟨b, q, u, hu, e1, e2, _, _, hr⟩ := hv.get (e := 49) rfl (i := p.length) (t := a) (by simp [hl])
      have hfr := hK.app' [some ⟨2, true, [.int .i64 a.long, u]⟩]
      have hb := work_le (l := p) fun t ht => hg.longs t (by simp [hl, ht])
      have ha := hg.longs a (by simp [hl])
      have hp12 : p.length ≤ 12 := by have := hg.1; simp [hl] at this; omega
      have hw := wrap64 (x := work p + a.long) (by omega) (by omega)
      have hw2 := wrap64 (x := p.length + 1) (by omega) (by omega)
      simp (maxDischargeDepth := 9) [hts, tab, hlt, hK.index, hK.load, e1, e2, hr.one, hr.self, loadB, hw, hw2]
      exact ih (p ++ [a]) _ _ (by simp [hl]) hfr (by simp [hts, work_append, work_cons, show work ([] : List Task) = 0 from rfl])
  exact key l [] _ _ rfl h3 (by simp [work])
set_option maxRecDepth 100000 in
theorem workOf_ok (l : List Task) (us : List AV) (v : AV) (H : Hp) (hg : GoodT l) (hv : TRow H v l us) : T Try.prog 47 [v] H (fun r K => r = .int .i64 (work l) ∧ Fr H K) := by
  refine T.by tabOk Try.func47 (by kernel_rfl) rfl _ (by simp [Try.f47]) H _ ?_
  have hlen := hv.count 49
  simp [Try.f47, tab, hlen]
  refine W_loop _ fun I hI => ?_
  have key : ∀ (r p : List Task) (ts : TS) (K : Hp), l = p ++ r → Fr H K → (ts 3 = .int .i64 (work p) ∧ ts 6 = v ∧ ts 7 = .int .i64 l.length ∧ ts 8 = .int .i64 p.length) → I ts K := by
    intro r
    induction r with
    | nil =>
      intro p ts K hl hK hts
      apply hI
      simp at hl
      subst hl
      simp [hts, tab]
      exact hK
    | cons a r ih =>
      intro p ts K hl hK hts
      apply hI
      have hlt : (p.length : Int) < l.length := by simp [hl]; omega
      obtain ⟨b, q, u, hu, e1, e2, _, _, hr⟩ := hv.get (e := 49) rfl (i := p.length) (t := a) (by simp [hl])
      have hfr := hK.app' [some ⟨2, true, [.int .i64 a.long, u]⟩]
      have hb := work_le (l := p) fun t ht => hg.longs t (by simp [hl, ht])
      have ha := hg.longs a (by simp [hl])
      have hp12 : p.length ≤ 12 := by have := hg.1; simp [hl] at this; omega
      have hw := wrap64 (x := work p + a.long) (by omega) (by omega)
      have hw2 := wrap64 (x := p.length + 1) (by omega) (by omega)
      simp (maxDischargeDepth := 9) [hts, tab, hlt, hK.index, hK.load, e1, e2, hr.one, hr.self, loadB, hw, hw2]
      exact ih (p ++ [a]) _ _ (by simp [hl]) hfr (by simp [hts, work_append, work_cons, show work ([] : List Task) = 0 from rfl])
  exact key l [] _ _ rfl (Fr.refl H) (by simp [work])
theorem implWork_ok (l : List Task) (us : List AV) (v : AV) (H : Hp) (hm : l.length ≤ 1048576) (hmm : ∀ t ∈ l, t.after.length ≤ 1048576) (hv : TRow H v l us) : T Try.prog 19 [v] H (fun r K => r = .tup [.int .i64 (wres l).1, .bool (wres l).2] ∧ Fr H K) := by
  refine T.by tabOk Try.func19 (by kernel_rfl) rfl _ (by simp [Try.f19]) H _ ?_
  simp [Try.f19]
  refine (implGood0_ok l us v H hm hmm hv).mono fun r K0 ⟨⟨t, h1, h2⟩, h3⟩ => ?_
  subst h1
  rcases told_good h2 with ⟨hg, rfl⟩ | ⟨hg, rfl⟩
  case inr =>
    simp [wres, hg]
    exact h3
  simp
  refine (workOf_ok l us v K0 hg (hv.fr h3)).mono fun r K1 ⟨e1, e2⟩ => ?_
  subst e1
  simp [wres, hg]
  exact h3.trans e2
theorem l10Chain_ok (l : List Task) (us : List AV) (v : AV) (H : Hp) (hg : GoodT l) (hmm : ∀ t ∈ l, t.after.length ≤ 1048576) (hv : TRow H v l us) : T Try.prog 48 [v] H (fun r K => r = .int .i64 (chain l) ∧ Fr H K) := by
  refine T.by tabOk Try.func48 (by kernel_rfl) rfl _ (by simp [Try.f48]) H _ ?_
  simp [Try.f48]
  refine (l10Ranks_ok l us v H hg hmm hv).mono fun w K ⟨e1, e2, e3⟩ => ?_
  have hlen := e1.row.len 3
  simp [tab, hlen]
  refine W_loop _ fun I hI => ?_
  have key : ∀ (r p : List Int) (ts : TS), rks 0 l = p ++ r → (ts 3 = .int .i64 (p.foldl max 0) ∧ ts 7 = w ∧ ts 8 = .int .i64 l.length ∧ ts 9 = .int .i64 p.length) → I ts K := by
    intro r
    induction r with
    | nil =>
      intro p ts e hts
      apply hI
      simp at e
      have hl := congrArg List.length e
      simp at hl
      simp [hts, tab, ← hl, chain, e]
      exact e3
    | cons a r ih =>
      intro p ts e hts
      apply hI
      have hl := congrArg List.length e
      simp at hl
      have hlt : (p.length : Int) < l.length := by omega
      obtain ⟨b, q, hb, f1, f2⟩ := Row.get1 e1.row (tab := tab) (e := 3) (ety := tI) rfl rfl rfl (i := p.length) (a := a) (by simp [e]) .i64
      have hl12 := hg.1
      have hw2 := wrap64 (x := p.length + 1) (by omega) (by omega)
      by_cases hc : p.foldl max 0 < a
      · simp [hts, tab, hlt, f1, f2, hc, hw2]
        exact ih (p ++ [a]) _ (by simp [e]) (by simp [hts, List.foldl_append]; omega)
      · simp [hts, tab, hlt, f1, f2, hc, hw2]
        exact ih (p ++ [a]) _ (by simp [e]) (by simp [hts, List.foldl_append]; omega)
  exact key (rks 0 l) [] _ rfl (by simp)
theorem longest_ok (l : List Task) (us : List AV) (v : AV) (H : Hp) (hg : GoodT l) (hmm : ∀ t ∈ l, t.after.length ≤ 1048576) (hv : TRow H v l us) : T Try.prog 49 [v] H (fun r K => r = .int .i64 (chain l) ∧ Fr H K) := by
  refine T.by tabOk Try.func49 (by kernel_rfl) rfl _ (by simp [Try.f49]) H _ ?_
  simp [Try.f49]
  refine (ranksOf_ok l us v H hg hmm hv).mono fun w K ⟨e1, e2, e3⟩ => ?_
  have hlen := e1.row.len 3
  simp [tab, hlen]
  refine W_loop _ fun I hI => ?_
  have key : ∀ (r p : List Int) (ts : TS), rks 0 l = p ++ r → (ts 3 = .int .i64 (p.foldl max 0) ∧ ts 7 = w ∧ ts 8 = .int .i64 l.length ∧ ts 9 = .int .i64 p.length) → I ts K := by
    intro r
    induction r with
    | nil =>
      intro p ts e hts
      apply hI
      simp at e
      have hl := congrArg List.length e
      simp at hl
      simp [hts, tab, ← hl, chain, e]
      exact e3
    | cons a r ih =>
      intro p ts e hts
      apply hI
      have hl := congrArg List.length e
      simp at hl
      have hlt : (p.length : Int) < l.length := by omega
      obtain ⟨b, q, hb, f1, f2⟩ := Row.get1 e1.row (tab := tab) (e := 3) (ety := tI) rfl rfl rfl (i := p.length) (a := a) (by simp [e]) .i64
      have hl12 := hg.1
      have hw2 := wrap64 (x := p.length + 1) (by omega) (by omega)
      by_cases hc : p.foldl max 0 < a
      · simp [hts, tab, hlt, f1, f2, hc, hw2]
        exact ih (p ++ [a]) _ (by simp [e]) (by simp [hts, List.foldl_append]; try omega)
      · simp [hts, tab, hlt, f1, f2, hc, hw2]
        exact ih (p ++ [a]) _ (by simp [e]) (by simp [hts, List.foldl_append]; try omega)
  exact key (rks 0 l) [] _ rfl (by simp)
theorem specChain_ok (l : List Task) (us : List AV) (v : AV) (H : Hp) (hm : l.length ≤ 1048576) (hmm : ∀ t ∈ l, t.after.length ≤ 1048576) (hv : TRow H v l us) : T Try.prog 20 [v] H (fun r K => r = .tup [.int .i64 (cres l).1, .bool (cres l).2] ∧ Fr H K) := by
  refine T.by tabOk Try.func20 (by kernel_rfl) rfl _ (by simp [Try.f20]) H _ ?_
  simp [Try.f20]
  refine (specGood_ok l us v H hm hmm hv).mono fun r K0 ⟨⟨t, h1, h2⟩, h3⟩ => ?_
  subst h1
  rcases told_good h2 with ⟨hg, rfl⟩ | ⟨hg, rfl⟩
  case inr =>
    simp [cres, hg]
    exact h3
  simp
  refine (l10Chain_ok l us v K0 hg hmm (hv.fr h3)).mono fun r K1 ⟨e1, e2⟩ => ?_
  subst e1
  simp [cres, hg]
  exact h3.trans e2
theorem implChain_ok (l : List Task) (us : List AV) (v : AV) (H : Hp) (hm : l.length ≤ 1048576) (hmm : ∀ t ∈ l, t.after.length ≤ 1048576) (hv : TRow H v l us) : T Try.prog 21 [v] H (fun r K => r = .tup [.int .i64 (cres l).1, .bool (cres l).2] ∧ Fr H K) := by
  refine T.by tabOk Try.func21 (by kernel_rfl) rfl _ (by simp [Try.f21]) H _ ?_
  simp [Try.f21]
  refine (implGood0_ok l us v H hm hmm hv).mono fun r K0 ⟨⟨t, h1, h2⟩, h3⟩ => ?_
  subst h1
  rcases told_good h2 with ⟨hg, rfl⟩ | ⟨hg, rfl⟩
  case inr =>
    simp [cres, hg]
    exact h3
  simp
  refine (longest_ok l us v K0 hg hmm (hv.fr h3)).mono fun r K1 ⟨e1, e2⟩ => ?_
  subst e1
  simp [cres, hg]
  exact h3.trans e2
theorem div_wrap {l : List Task} {n : Int} (hg : GoodT l) (hn : 1 ≤ n ∧ n ≤ 4) : IntKind.i64.wrap ((work l + n - 1).tdiv n) = (work l + n - 1).tdiv n := by
  have := work_le hg.longs
  have := hg.1
  refine wrap64 ?_ ?_
  · have := Int.tdiv_nonneg (a := work l + n - 1) (b := n) (by omega) (by omega)
    omega
  · have := Int.tdiv_le_self (a := work l + n - 1) n (by omega)
    omega
theorem specLeast_ok (l : List Task) (n : Int) (us : List AV) (v : AV) (H : Hp) (hm : l.length ≤ 1048576) (hmm : ∀ t ∈ l, t.after.length ≤ 1048576) (hv : TRow H v l us) : T Try.prog 31 [v, .int .i64 n] H (fun r K => r = .tup [.int .i64 (mres l n).1, .bool (mres l n).2] ∧ Fr H K) := by
  refine T.by tabOk Try.func31 (by kernel_rfl) rfl _ (by simp [Try.f31]) H _ ?_
  simp [Try.f31]
  refine (specWork_ok l us v H hm hmm hv).mono fun r K0 ⟨e1, h3⟩ => ?_
  subst e1
  by_cases hg : GoodT l
  case neg =>
    simp [wres, mres, hg]
    exact h3
  have hwr : wres l = (work l, true) := if_pos hg
  simp [hwr]
  refine (l10Units_ok n K0).mono fun r K1 ⟨e1, e2⟩ => ?_
  subst e1 e2
  by_cases hn : 1 ≤ n ∧ n ≤ 4
  case neg =>
    simp [hn, mres, hg]
    exact h3
  have hwl := work_le hg.longs
  have hl12 := hg.1
  have hw1 := wrap64 (x := work l + n) (by omega) (by omega)
  have hw2 := wrap64 (x := work l + n - 1) (by omega) (by omega)
  have hn0 : n ≠ 0 := by omega
  simp [hn, tab, hw1, hw2, hn0, div_wrap hg hn]
  refine (l10Chain_ok l us v K1 hg hmm (hv.fr h3)).mono fun r K2 ⟨e1, e2⟩ => ?_
  subst e1
  by_cases hc : (work l + n - 1).tdiv n < chain l
  · simp [tab, hc, mres, hg, hn, leastOf]
    exact ⟨by omega, h3.trans e2⟩
  · simp [tab, hc, mres, hg, hn, leastOf]
    exact ⟨by omega, h3.trans e2⟩
theorem implLeast_ok (l : List Task) (n : Int) (us : List AV) (v : AV) (H : Hp) (hm : l.length ≤ 1048576) (hmm : ∀ t ∈ l, t.after.length ≤ 1048576) (hv : TRow H v l us) : T Try.prog 32 [v, .int .i64 n] H (fun r K => r = .tup [.int .i64 (mres l n).1, .bool (mres l n).2] ∧ Fr H K) := by
  refine T.by tabOk Try.func32 (by kernel_rfl) rfl _ (by simp [Try.f32]) H _ ?_
  simp [Try.f32]
  refine (implGood0_ok l us v H hm hmm hv).mono fun r K0 ⟨⟨t, h1, h2⟩, h3⟩ => ?_
  subst h1
  rcases told_good h2 with ⟨hg, rfl⟩ | ⟨hg, rfl⟩
  case inr =>
    simp [mres, hg]
    exact h3
  simp
  refine (in_ok n 1 4 K0).mono fun r K1 ⟨e1, e2⟩ => ?_
  subst e1 e2
  by_cases hn : 1 ≤ n ∧ n ≤ 4
  case neg =>
    simp [hn, mres, hg]
    exact h3
  have hwl := work_le hg.longs
  have hl12 := hg.1
  have hw1 := wrap64 (x := work l + n) (by omega) (by omega)
  have hw2 := wrap64 (x := work l + n - 1) (by omega) (by omega)
  have hn0 : n ≠ 0 := by omega
  simp [hn, tab]
  refine (longest_ok l us v K1 hg hmm (hv.fr h3)).mono fun r K2 ⟨e1, e2⟩ => ?_
  subst e1
  simp
  refine (workOf_ok l us v K2 hg (hv.fr (h3.trans e2))).mono fun r K3 ⟨e1, e3⟩ => ?_
  subst e1
  simp [tab, hw1, hw2, hn0, div_wrap hg hn, mres, hg, hn, leastOf]
  exact ⟨by split <;> omega, (h3.trans e2).trans e3⟩
end Go.Proofs.Ytcadaadoodpnmaa.Am
