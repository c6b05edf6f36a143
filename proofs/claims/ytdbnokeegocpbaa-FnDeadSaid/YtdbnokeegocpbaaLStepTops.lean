/- Joins of facts at the top, and rows of words compared. No condition. -/
import Derived.Test.YtdbnokeegocpbaaLFactTops
import Derived.Test.YtdbnokeegocpbaaLRun
namespace Go.Proofs.Ytdbnokeegocpbaa.Am
open Go Go.RowKit
set_option linter.unusedSimpArgs false
set_option linter.unusedVariables false

def joinRes (a b : Fct) : Fct × Bool := if GoodFc a ∧ GoodFc b then (joinF a b, true) else (botF, false)
theorem below_joinF (a b : Fct) : belowF a (joinF a b) ∧ belowF b (joinF a b) := by
  unfold joinF
  split
  next h => exact ⟨.inl h, .inr (.inl rfl)⟩
  next h =>
    split
    next h2 =>
      refine ⟨.inr (.inl rfl), ?_⟩
      rcases h2 with h2 | h2
      · exact .inl h2
      · exact .inr (.inl h2.symm)
    next h2 => exact ⟨below_bot a, below_bot b⟩
theorem implJoinF_ok (a b : Fct) (H : Hp) : T Try.prog 57 [.agg a.enc, .agg b.enc] H (fun r K => r = .tup [.agg (joinRes a b).1.enc, .bool (joinRes a b).2] ∧ Fr H K) := by
  refine T.by tabOk Try.func57 (by kernel_rfl) rfl _ (by simp [Try.f57]) H _ ?_
  obtain ⟨a1, a2, a3⟩ := a
  obtain ⟨b1, b2, b3⟩ := b
  obtain ⟨K, hK, f1⟩ : ∃ K, H ++ [some ⟨3, true, [.bool a1, .bool a2, .int .i64 a3]⟩, some ⟨3, true, [.bool b1, .bool b2, .int .i64 b3]⟩, some ⟨3, true, [.bool false, .bool false, .int .i64 0]⟩] = K ∧ Fr H K := ⟨_, rfl, Fr.app _ _⟩
  have ha : K[H.length]? = some (some ⟨3, true, [.bool a1, .bool a2, .int .i64 a3]⟩) := by rw [← hK]; simp
  have hb : K[H.length + 1]? = some (some ⟨3, true, [.bool b1, .bool b2, .int .i64 b3]⟩) := by rw [← hK]; simp
  have hc : K[H.length + 2]? = some (some ⟨3, true, [.bool false, .bool false, .int .i64 0]⟩) := by rw [← hK]; simp
  have la : loadA tF K (.ptr H.length 0) = some (.agg [.bool a1, .bool a2, .int .i64 a3]) := by simp [loadA, ha]
  have fin : ∀ (K' : Hp) (x : Fct), Fr K K' → ∃ K'', storeA tF K' (.ptr (H.length + 2) 0) (.agg [.bool x.top, .bool x.known, .int .i64 x.n]) = some K'' ∧ loadA tF K'' (.ptr (H.length + 2) 0) = some (.agg [.bool x.top, .bool x.known, .int .i64 x.n]) ∧ Fr H K'' := fun K' x h => by
    obtain ⟨K'', s1, s2, s3, s4⟩ := store_at (h.2 _ _ hc id) rfl (ty := tF) (o := 0) (v := .agg [.bool x.top, .bool x.known, .int .i64 x.n]) rfl rfl (by simp)
    simp [over] at s2
    exact ⟨K'', s1, by simp [loadA, s2], Fr.then (f1.trans h) s3 fun b hb => by omega⟩
  simp [Try.f57, tab, Fct.enc, over, hK, la]
  refine (isFact_ok ⟨a1, a2, a3⟩ K).mono fun r K1 ⟨e1, e2⟩ => ?_
  subst e1
  by_cases ga : GoodFc ⟨a1, a2, a3⟩
  case neg =>
    have hr : joinRes ⟨a1, a2, a3⟩ ⟨b1, b2, b3⟩ = (botF, false) := by unfold joinRes; rw [if_neg (fun h => ga h.1)]
    obtain ⟨K2, s1, s2, s3⟩ := fin K1 botF e2
    simp [tab, ga, s1, s2, hr]
    exact s3
  have lb : loadA tF K1 (.ptr (H.length + 1) 0) = some (.agg [.bool b1, .bool b2, .int .i64 b3]) := by simp [loadA, e2.2 _ _ hb id]
  simp [tab, ga, lb]
  refine (isFact_ok ⟨b1, b2, b3⟩ K1).mono fun r K2 ⟨e3, e4⟩ => ?_
  subst e3
  have F2 := e2.trans e4
  by_cases gb : GoodFc ⟨b1, b2, b3⟩
  case neg =>
    have hr : joinRes ⟨a1, a2, a3⟩ ⟨b1, b2, b3⟩ = (botF, false) := by unfold joinRes; rw [if_neg (fun h => gb h.2)]
    obtain ⟨K2, s1, s2, s3⟩ := fin K2 botF F2
    simp [tab, gb, s1, s2, hr]
    exact s3
  have hr : joinRes ⟨a1, a2, a3⟩ ⟨b1, b2, b3⟩ = (joinF ⟨a1, a2, a3⟩ ⟨b1, b2, b3⟩, true) := by unfold joinRes; rw [if_pos ⟨ga, gb⟩]
  have la2 : loadA tF K2 (.ptr H.length 0) = some (.agg [.bool a1, .bool a2, .int .i64 a3]) := by simp [loadA, F2.2 _ _ ha id]
  have lb2 : loadA tF K2 (.ptr (H.length + 1) 0) = some (.agg [.bool b1, .bool b2, .int .i64 b3]) := by simp [loadA, F2.2 _ _ hb id]
  simp [tab, gb, la2, lb2]
  refine (joinFacts_ok ⟨a1, a2, a3⟩ ⟨b1, b2, b3⟩ K2).mono fun r K3 ⟨e5, e6⟩ => ?_
  subst e5
  obtain ⟨K4, s1, s2, s3⟩ := fin K3 (joinF ⟨a1, a2, a3⟩ ⟨b1, b2, b3⟩) (F2.trans e6)
  rw [hr]
  simp [tab, Fct.enc, s1, s2]
  exact s3
theorem specJoinF_ok (a b : Fct) (H : Hp) : T Try.prog 58 [.agg a.enc, .agg b.enc] H (fun r K => r = .tup [.agg (joinRes a b).1.enc, .bool (joinRes a b).2] ∧ Fr H K) := by
  refine T.by tabOk Try.func58 (by kernel_rfl) rfl _ (by simp [Try.f58]) H _ ?_
  obtain ⟨a1, a2, a3⟩ := a
  obtain ⟨b1, b2, b3⟩ := b
  obtain ⟨K, hK, f1⟩ : ∃ K, H ++ [some ⟨3, true, [.bool a1, .bool a2, .int .i64 a3]⟩, some ⟨3, true, [.bool b1, .bool b2, .int .i64 b3]⟩, some ⟨3, true, [.bool false, .bool false, .int .i64 0]⟩] = K ∧ Fr H K := ⟨_, rfl, Fr.app _ _⟩
  have ha : K[H.length]? = some (some ⟨3, true, [.bool a1, .bool a2, .int .i64 a3]⟩) := by rw [← hK]; simp
  have hb : K[H.length + 1]? = some (some ⟨3, true, [.bool b1, .bool b2, .int .i64 b3]⟩) := by rw [← hK]; simp
  have hc : K[H.length + 2]? = some (some ⟨3, true, [.bool false, .bool false, .int .i64 0]⟩) := by rw [← hK]; simp
  have la : loadA tF K (.ptr H.length 0) = some (.agg [.bool a1, .bool a2, .int .i64 a3]) := by simp [loadA, ha]
  have fin : ∀ (K' : Hp) (x : Fct), Fr K K' → ∃ K'', storeA tF K' (.ptr (H.length + 2) 0) (.agg [.bool x.top, .bool x.known, .int .i64 x.n]) = some K'' ∧ loadA tF K'' (.ptr (H.length + 2) 0) = some (.agg [.bool x.top, .bool x.known, .int .i64 x.n]) ∧ Fr H K'' := fun K' x h => by
    obtain ⟨K'', s1, s2, s3, s4⟩ := store_at (h.2 _ _ hc id) rfl (ty := tF) (o := 0) (v := .agg [.bool x.top, .bool x.known, .int .i64 x.n]) rfl rfl (by simp)
    simp [over] at s2
    exact ⟨K'', s1, by simp [loadA, s2], Fr.then (f1.trans h) s3 fun b hb => by omega⟩
  simp [Try.f58, tab, Fct.enc, over, hK, la]
  refine (goodFact_ok ⟨a1, a2, a3⟩ K).mono fun r K1 ⟨e1, e2⟩ => ?_
  subst e1
  by_cases ga : GoodFc ⟨a1, a2, a3⟩
  case neg =>
    have hr : joinRes ⟨a1, a2, a3⟩ ⟨b1, b2, b3⟩ = (botF, false) := by unfold joinRes; rw [if_neg (fun h => ga h.1)]
    obtain ⟨K2, s1, s2, s3⟩ := fin K1 botF e2
    simp [tab, ga, s1, s2, hr]
    exact s3
  have lb : loadA tF K1 (.ptr (H.length + 1) 0) = some (.agg [.bool b1, .bool b2, .int .i64 b3]) := by simp [loadA, e2.2 _ _ hb id]
  simp [tab, ga, lb]
  refine (goodFact_ok ⟨b1, b2, b3⟩ K1).mono fun r K2 ⟨e3, e4⟩ => ?_
  subst e3
  have F2 := e2.trans e4
  by_cases gb : GoodFc ⟨b1, b2, b3⟩
  case neg =>
    have hr : joinRes ⟨a1, a2, a3⟩ ⟨b1, b2, b3⟩ = (botF, false) := by unfold joinRes; rw [if_neg (fun h => gb h.2)]
    obtain ⟨K2, s1, s2, s3⟩ := fin K2 botF F2
    simp [tab, gb, s1, s2, hr]
    exact s3
  have hr : joinRes ⟨a1, a2, a3⟩ ⟨b1, b2, b3⟩ = (joinF ⟨a1, a2, a3⟩ ⟨b1, b2, b3⟩, true) := by unfold joinRes; rw [if_pos ⟨ga, gb⟩]
  have la2 : loadA tF K2 (.ptr H.length 0) = some (.agg [.bool a1, .bool a2, .int .i64 a3]) := by simp [loadA, F2.2 _ _ ha id]
  have lb2 : loadA tF K2 (.ptr (H.length + 1) 0) = some (.agg [.bool b1, .bool b2, .int .i64 b3]) := by simp [loadA, F2.2 _ _ hb id]
  simp [tab, gb, la2, lb2]
  refine (l5Join_ok ⟨a1, a2, a3⟩ ⟨b1, b2, b3⟩ K2).mono fun r K3 ⟨e5, e6⟩ => ?_
  subst e5
  obtain ⟨K4, s1, s2, s3⟩ := fin K3 (joinF ⟨a1, a2, a3⟩ ⟨b1, b2, b3⟩) (F2.trans e6)
  rw [hr]
  simp [tab, Fct.enc, s1, s2]
  exact s3
theorem implGoodFact_ok (x : Fct) (H : Hp) : T Try.prog 59 [.agg x.enc] H (fun r K => r = .bool (decide (GoodFc x)) ∧ Fr H K) := by
  refine T.by tabOk Try.func59 (by kernel_rfl) rfl _ (by simp [Try.f59]) H _ ?_
  simp [Try.f59, tab, Fct.enc]
  refine (isFact_ok x _).mono fun r K ⟨e1, e2⟩ => ?_
  subst e1
  simp
  exact (Fr.app _ _).trans e2
theorem sameInts_ok (L : List Int) (v v' : AV) (H : Hp) (hm : L.length ≤ 1048576) (hv : Row 1 H v (ints L)) (hv' : Row 1 H v' (ints L)) : T Try.prog 65 [v, v'] H (fun r K => r = .bool true ∧ K = H) := by
  refine T.by tabOk Try.func65 (by kernel_rfl) rfl _ (by simp [Try.f65]) H _ ?_
  have hlen := hv.len 3
  have hlen' := hv'.len 3
  simp only [ints_length] at hlen hlen'
  simp [Try.f65, tab, hlen, hlen']
  refine W_loop _ fun I hI => ?_
  have key : ∀ (r p : List Int) (ts : TS), L = p ++ r → (ts 0 = v ∧ ts 1 = v' ∧ ts 12 = .int .i64 L.length ∧ ts 13 = .int .i64 p.length) → I ts H := by
    intro r
    induction r with
    | nil =>
      intro p ts e hts
      apply hI
      simp at e
      subst e
      simp [hts, tab]
    | cons a r ih =>
      intro p ts e hts
      apply hI
      have hlt : (p.length : Int) < L.length := by simp [e]; omega
      obtain ⟨b, q, _, e1, e2⟩ := Row.get1 hv (tab := tab) (e := 3) (ety := tI) rfl rfl rfl (i := p.length) (a := a) (by simp [e]) .i64
      obtain ⟨b', q', _, e1', e2'⟩ := Row.get1 hv' (tab := tab) (e := 3) (ety := tI) rfl rfl rfl (i := p.length) (a := a) (by simp [e]) .i64
      have hw := wrap64 (x := (p.length : Int) + 1) (by omega) (by omega)
      simp [hts, tab, hlt]
      refine W_draw mixed (.look 0 (.look 1 (.look 2 (.look 3 (.look 4 (.look 5 (.look 6 (.look 7 (.look 8 .done))))))))) (by kernel_rfl) ?_
      simp [hts, tab, e1, e2, e1', e2', hw]
      exact ih (p ++ [a]) _ (by simp [e]) (by simp [hts])
  exact key L [] _ rfl (by simp)
end Go.Proofs.Ytdbnokeegocpbaa.Am
