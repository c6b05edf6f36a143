/- Orders: both ways to ask come to the same. No condition. -/
import Derived.Test.YtcadaadoodpnmaaLRanks
import Derived.Test.YtcadaadoodpnmaaLFuncs
namespace Go.Proofs.Ytcadaadoodpnmaa.Am
open Go Go.RowKit
set_option linter.unusedSimpArgs false
set_option linter.unusedVariables false

def OrderT (n : Nat) (o : List Int) : Prop := o.length = n ∧ (∀ k ∈ o, 0 ≤ k ∧ k < n) ∧ o.Nodup
theorem few (n : Nat) : ∀ (o : List Int), (∀ k ∈ o, 0 ≤ k ∧ k < n) → o.Nodup → o.length ≤ n := by
  induction n with
  | zero =>
    intro o h _
    cases o with
    | nil => simp
    | cons a o => have := h a (by simp); omega
  | succ n ih =>
    intro o h hn
    by_cases hm : (n : Int) ∈ o
    · have hp := List.perm_cons_erase hm
      have hn2 := (hp.nodup_iff).1 hn
      have h3 := ih (o.erase n) (fun k hk => by
        have h4 := h k (List.mem_of_mem_erase hk)
        have h5 : k ≠ n := fun e => (List.nodup_cons.1 hn2).1 (e ▸ hk)
        omega) (List.nodup_cons.1 hn2).2
      have := hp.length_eq
      simp at this
      omega
    · have := ih o (fun k hk => by
        have h4 := h k hk
        have h5 : k ≠ n := fun e => hm (e ▸ hk)
        omega) hn
      omega
theorem all_of (n : Nat) : ∀ (o : List Int), o.length = n → (∀ k : Nat, k < n → (k : Int) ∈ o) → (∀ k ∈ o, 0 ≤ k ∧ k < n) ∧ o.Nodup := by
  induction n with
  | zero =>
    intro o h _
    obtain rfl := List.eq_nil_of_length_eq_zero h
    simp
  | succ n ih =>
    intro o hl h
    have hm := h n (by omega)
    have hp := List.perm_cons_erase hm
    have hle := hp.length_eq
    simp at hle
    obtain ⟨h1, h2⟩ := ih (o.erase n) (by omega) (fun k hk => by
      have := h k (by omega)
      have h5 := hp.mem_iff.1 this
      simp at h5
      rcases h5 with h5 | h5
      · omega
      · exact h5)
    refine ⟨fun k hk => ?_, hp.nodup_iff.2 (List.nodup_cons.2 ⟨fun hn => ?_, h2⟩)⟩
    · have := hp.mem_iff.1 hk
      simp at this
      rcases this with rfl | this
      · omega
      · have := h1 k this; omega
    · have := h1 n hn; omega
theorem order_iff (n : Nat) (o : List Int) : OrderT n o ↔ o.length = n ∧ ∀ k : Nat, k < n → (k : Int) ∈ o := by
  constructor
  · rintro ⟨h1, h2, h3⟩
    refine ⟨h1, fun k hk => Classical.byContradiction fun hn => ?_⟩
    have := few n (k :: o) (fun j hj => by
      rcases List.mem_cons.1 hj with rfl | hj
      · omega
      · exact h2 j hj) (List.nodup_cons.2 ⟨hn, h3⟩)
    simp at this
    omega
  · rintro ⟨h1, h2⟩
    exact ⟨h1, all_of n o h1 h2⟩
set_option maxRecDepth 100000 in
theorem l10Order_ok (n : Nat) (o : List Int) (v : AV) (H : Hp) (hn : n ≤ 1048576) (hm : o.length ≤ 1048576) (hv : Row 1 H v (ints o)) : T Try.prog 58 [.int .i64 n, v] H (fun r K => (∃ t, r = .bool t ∧ (t = true ↔ OrderT n o)) ∧ K = H) := by
  refine T.by tabOk Try.func58 (by kernel_rfl) rfl _ (by simp [Try.f58]) H _ ?_
  have hlen := hv.len 3
  have hlive := hv.live
  simp [Try.f58, tab, hlen]
  refine W_loop _ fun I hI => ?_
  have key : ∀ (r p : List Int) (ts : TS), o = p ++ r → (∀ k ∈ p, 0 ≤ k ∧ k < n) → p.Nodup → (ts 0 = .int .i64 n ∧ ts 1 = v ∧ ts 7 = v ∧ ts 8 = .int .i64 o.length ∧ ts 9 = .int .i64 p.length) → I ts H := by
    intro r
    induction r with
    | nil =>
      intro p ts e h1 h2 hts
      apply hI
      simp at e
      subst e
      by_cases h : o.length = n
      · have h' : (o.length : Int) = n := by omega
        simp [hts, tab, hlen, h']
        exact ⟨by omega, h1, h2⟩
      · have h' : ¬ (o.length : Int) = n := by omega
        simp [hts, tab, hlen, h']
        exact fun g => h g.1
    | cons a r ih =>
      intro p ts e h1 h2 hts
      apply hI
      have hlt : (p.length : Int) < o.length := by simp [e]; omega
      obtain ⟨b, c, _, e1, e2⟩ := Row.get1 hv (tab := tab) (e := 3) (ety := tI) rfl rfl rfl (i := p.length) (a := a) (by simp [e]) .i64
      have hw := wrap64 (x := p.length + 1) (by omega) (by omega)
      have bad1 : ¬ (0 ≤ a ∧ a < n) → ¬ OrderT n o := fun h g => h (g.2.1 a (by simp [e]))
      by_cases c1 : a < 0
      · have := bad1 (by omega)
        simp [hts, tab, hlt, e1, e2, c1, this]
      by_cases c2 : (n : Int) ≤ a
      · have := bad1 (by omega)
        simp [hts, tab, hlt, e1, e2, c1, c2, this]
      obtain ⟨u, hu, hru, _⟩ := hv.part 0 p.length (Nat.zero_le _) (by simp [e]) none (some (.int .i64 p.length)) rfl rfl
      have hpe : ((ints o).drop 0).take (p.length - 0) = ints p := by simp [e, ints, List.map_take]
      rw [hpe] at hru
      simp [hts, tab, hlt, e1, e2, c1, c2, hlive, hu]
      refine (l1Has_ok p u a H (by omega) hru).mono fun y K ⟨y1, y2⟩ => ?_
      subst y1 y2
      by_cases c3 : a ∈ p
      · have : ¬ OrderT n o := fun g => by
          have g3 := g.2.2
          rw [e, List.nodup_append] at g3
          exact g3.2.2 a c3 a (by simp) rfl
        simp [hts, tab, c3, this]
      · simp [hts, tab, c3, hw]
        refine ih (p ++ [a]) _ (by simp [e]) ?_ ?_ (by simp [hts])
        · intro k hk
          simp at hk
          rcases hk with hk | rfl
          · exact h1 k hk
          · omega
        · rw [List.nodup_append]
          refine ⟨h2, by simp, fun x hx y hy => ?_⟩
          simp at hy
          subst hy
          exact fun e => c3 (e ▸ hx)
  exact key o [] _ rfl (by simp) (by simp) (by simp)
theorem index_ok (l : List Int) (v : AV) (x : Int) (H : Hp) (hm : l.length ≤ 140737488355328) (hv : Row 1 H v (ints l)) : T Try.prog 78 [v, .int .i64 x] H (fun r K => (∃ i : Int, r = .int .i64 i ∧ (0 ≤ i ↔ x ∈ l)) ∧ K = H) := by
  refine T.by tabOk Try.func78 (by kernel_rfl) rfl _ (by simp [Try.f78]) H _ ?_
  have hlen := hv.len 3
  simp [Try.f78, tab, hlen]
  refine W_loop _ fun I hI => ?_
  have key : ∀ (r q : List Int) (ts : TS), l = q ++ r → x ∉ q → (ts 0 = v ∧ ts 1 = .int .i64 x ∧ ts 7 = .int .i64 l.length ∧ ts 8 = .int .i64 q.length) → I ts H := by
    intro r
    induction r with
    | nil =>
      intro q ts e hq hts
      apply hI
      simp at e
      subst e
      simp [hts, tab]
      exact hq
    | cons a r ih =>
      intro q ts e hq hts
      apply hI
      have hlt : (q.length : Int) < l.length := by simp [e]; omega
      obtain ⟨b, c, _, e1, e2⟩ := Row.get1 hv (tab := tab) (e := 3) (ety := tI) rfl rfl rfl (i := q.length) (a := a) (by simp [e]) .i64
      have hw := wrap64 (x := q.length + 1) (by omega) (by omega)
      by_cases ha : x = a
      · subst ha
        simp [hts, tab, hlt, e1, e2]
        simp [e]
      · simp [hts, tab, hlt, e1, e2, ha, hw]
        exact ih (q ++ [a]) _ (by simp [e]) (by simp [hq]; exact ha) (by simp [hts])
  exact key l [] _ rfl (by simp) (by simp)
theorem contains_ok (l : List Int) (v : AV) (x : Int) (H : Hp) (hm : l.length ≤ 140737488355328) (hv : Row 1 H v (ints l)) : T Try.prog 73 [v, .int .i64 x] H (fun r K => r = .bool (decide (x ∈ l)) ∧ K = H) := by
  refine T.by tabOk Try.func73 (by kernel_rfl) rfl _ (by simp [Try.f73]) H _ ?_
  simp [Try.f73]
  refine (index_ok l v x H hm hv).mono fun r K ⟨⟨i, h1, h2⟩, h3⟩ => ?_
  subst h1 h3
  simp [tab, h2]
theorem isOrder_ok (n : Nat) (o : List Int) (v : AV) (H : Hp) (hn : n ≤ 1048576) (hm : o.length ≤ 1048576) (hv : Row 1 H v (ints o)) : T Try.prog 60 [v, .int .i64 n] H (fun r K => (∃ t, r = .bool t ∧ (t = true ↔ OrderT n o)) ∧ K = H) := by
  refine T.by tabOk Try.func60 (by kernel_rfl) rfl _ (by simp [Try.f60]) H _ ?_
  have hlen := hv.len 3
  by_cases h : o.length = n
  case neg =>
    have h' : ¬ (o.length : Int) = n := by omega
    simp [Try.f60, tab, hlen, h']
    exact fun g => h g.1
  have h' : (o.length : Int) = n := by omega
  simp [Try.f60, tab, hlen, h']
  refine W_loop _ fun I hI => ?_
  have key : ∀ (j i : Nat) (ts : TS), i + j = n → (∀ k : Nat, k < i → (k : Int) ∈ o) → (ts 0 = v ∧ ts 10 = .int .i64 n ∧ ts 11 = .int .i64 i) → I ts H := by
    intro j
    induction j with
    | zero =>
      intro i ts e hi hts
      apply hI
      simp at e
      subst e
      simp [hts, tab]
      exact (order_iff i o).2 ⟨h, hi⟩
    | succ j ih =>
      intro i ts e hi hts
      apply hI
      have hlt : (i : Int) < n := by omega
      have hw := wrap64 (x := i + 1) (by omega) (by omega)
      simp [hts, tab, hlt]
      refine (contains_ok o v i H (by omega) hv).mono fun y K ⟨y1, y2⟩ => ?_
      subst y1 y2
      by_cases hm : (i : Int) ∈ o
      · simp [hts, tab, hm, hw]
        refine ih (i + 1) _ (by omega) (fun k hk => ?_) (by simp [hts])
        by_cases e : k = i
        · subst e; exact hm
        · exact hi k (by omega)
      · have : ¬ OrderT n o := fun g => hm (((order_iff n o).1 g).2 i (by omega))
        simp [hts, tab, hm, this]
  exact key n 0 _ (by omega) (by simp) (by simp)
end Go.Proofs.Ytcadaadoodpnmaa.Am
