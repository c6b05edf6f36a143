/- The program's LeastTime answers as the reference's for all lists of tasks and all numbers of units. Conditions: none beyond those of the given statement. -/
import Derived.Test.YtcadaadoodpnmaaKit
import Derived.Test.YtcadaadoodpnmaaQFnExactLeastTimex6
import Derived.Test.YtcadaadoodpnmaaQFnExactLeastTimex3
import Derived.Test.YtcadaadoodpnmaaQFnExactLeastTimex5
import Derived.Test.YtcadaadoodpnmaaQFnExactLeastTimex4
import Derived.Test.YtcadaadoodpnmaaQFnExactLeastTimex2
import Derived.Test.YtcadaadoodpnmaaQFnExactLeastTimex1
namespace Go.Proofs.Ytcadaadoodpnmaa.Pure
open Go.RowKit Go.Proofs.Ytcadaadoodpnmaa.QFnExactLeastTime Go.Proofs.YtcadaadoodpnmaaW.PrintWords Go.Proofs.YtcadaadoodpnmaaW.PrintLast Go.Proofs.YtcadaadoodpnmaaW.PrintMore Go.Proofs.Ytcadaadoodpnmaa.Kit
set_option linter.unusedSimpArgs false
set_option linter.unusedVariables false

theorem copy_l0 (l : List Int) (hl : l.length ≤ 140737488355328) : ∀ (d i k : Nat) (y : List Int), i + d = l.length → d < k → y.length = l.length → y.take i = l.take i →
    laws_toIntS.l0 k l y (i : Int) = some l
  | 0, i, k, y, hd, hk, hy, ht => by
    obtain ⟨k, rfl⟩ := rounds hk
    simp only [laws_toIntS.l0]
    rw [if_neg (by omega)]
    rw [List.take_of_length_le (by omega), List.take_of_length_le (by omega)] at ht
    rw [ht]
  | d + 1, i, k, y, hd, hk, hy, ht => by
    obtain ⟨k, rfl⟩ := rounds hk
    have hi : i < l.length := by omega
    simp only [laws_toIntS.l0]
    rw [if_pos (by omega), if_pos (by omega), if_pos (by omega), w64_succ (n := l.length) (by omega) (by omega) (by omega), rd_nat l i hi]
    refine copy_l0 l hl d (i + 1) k _ (by omega) (by omega) (by simpa using hy) ?_
    rw [show ((i : Int)).toNat = i from by omega, take_set_succ _ _ _ (by omega), take_succ _ _ hi, ht]
theorem copy_ints (l : List Int) (hl : l.length ≤ 35184372088832) (k : Nat) (hk : l.length < k) : laws_toIntS.f k l = some l := by
  unfold laws_toIntS.f
  rw [if_pos (by omega), if_pos (by omega)]
  exact copy_l0 l (by omega) l.length 0 k _ (by omega) (by omega) (by simp) (by simp)

theorem same_l0 : ∀ (r p : List Int) (k : Nat), (p ++ r).length ≤ 140737488355328 → r.length < k → laws_eqIntS.l0 k (p ++ r) (p ++ r) (p.length : Int) = some true
  | [], p, k, hl, hk => by
    obtain ⟨k, rfl⟩ := rounds hk
    simp only [laws_eqIntS.l0]
    rw [if_neg (by simp)]
  | a :: r, p, k, hl, hk => by
    obtain ⟨k, rfl⟩ := rounds hk
    have hn := len_app_cons p a r
    simp only [laws_eqIntS.l0]
    rw [if_pos (by omega), if_pos (by omega), if_pos (by omega), if_pos trivial, w64_succ (n := (p ++ a :: r).length) (by omega) (by omega) (by omega), ← len_snoc p a, app_cons]
    exact same_l0 r (p ++ [a]) k (by rw [← app_cons]; omega) (by simpa using hk)
theorem same_ints (l : List Int) (hl : l.length ≤ 140737488355328) (k : Nat) (hk : l.length < k) : laws_eqIntS.f k l l = some true := by
  unfold laws_eqIntS.f
  rw [if_pos rfl]
  exact same_l0 l [] k hl hk

/-- A task of the law's own type, as the program's. -/
def cT (x : S55) : S49 := ⟨x.f0, x.f1⟩
theorem rdT55 (p : List S55) (a : S55) (r : List S55) : rd_T55 (p ++ a :: r) (p.length : Int) = a := by
  unfold rd_T55
  simp
theorem rdT49 (p : List S49) (a : S49) (r : List S49) : rd_T49 (p ++ a :: r) (p.length : Int) = a := by
  unfold rd_T49
  simp
/-- All lengths together. -/
def tot : List S55 → Nat
  | [] => 0
  | x :: r => x.f1.length + tot r
theorem tot_mem : ∀ (l : List S55) (x : S55), x ∈ l → x.f1.length ≤ tot l
  | [], _, h => by cases h
  | y :: r, x, h => by
    simp only [tot]
    rcases List.mem_cons.1 h with rfl | h
    · omega
    · have := tot_mem r x h
      omega
theorem sz_l0 : ∀ (r p : List S55) (k : Nat) (s : Int), (p ++ r).length ≤ 140737488355328 → r.length < k → (∀ x ∈ r, x.f1.length ≤ 140737488355328) → 0 ≤ s → s ≤ 1048576 →
    ∃ z, laws_szTaskS.l0 k (p ++ r) s (p.length : Int) = some z ∧ (0 ≤ z → (tot r : Int) ≤ s)
  | [], p, k, s, hl, hk, hx, h0, h1 => by
    obtain ⟨k, rfl⟩ := rounds hk
    refine ⟨s, ?_, ?_⟩
    · simp only [laws_szTaskS.l0]
      rw [if_neg (by simp)]
    · intro _; simp only [tot]; omega
  | a :: r, p, k, s, hl, hk, hx, h0, h1 => by
    obtain ⟨k, rfl⟩ := rounds hk
    have hn := len_app_cons p a r
    have ha := hx a (by simp)
    simp only [List.length_cons] at hk
    simp only [laws_szTaskS.l0, laws_szTask.f, laws_szIntS.f]
    rw [if_pos (by omega), if_pos (by omega), rdT55, w64 (x := s - (a.f1.length : Int)) (by omega) (by omega), w64_succ (n := (p ++ a :: r).length) (by omega) (by omega) (by omega)]
    by_cases e : s - (a.f1.length : Int) < 0
    · rw [if_pos e]
      simp only [Option.bind_some]
      refine ⟨-1, by rfl, by omega⟩
    · rw [if_neg e]
      simp only [Option.bind_some]
      rw [if_neg e]
      simp only [Option.bind_some]
      rw [if_neg e, ← len_snoc p a, app_cons]
      obtain ⟨z, h2, h3⟩ := sz_l0 r (p ++ [a]) k (s - (a.f1.length : Int)) (by rw [← app_cons]; omega) (by omega) (fun x hx' => hx x (by simp [hx'])) (by omega) (by omega)
      refine ⟨z, h2, fun hz => ?_⟩
      have := h3 hz
      simp only [tot]
      omega
theorem sz_tasks (l : List S55) (hl : l.length ≤ 140737488355328) (hx : ∀ x ∈ l, x.f1.length ≤ 140737488355328) (k : Nat) (hk : l.length < k) :
    ∃ z, laws_szTaskS.f k l 1048576 = some z ∧ (0 ≤ z → l.length + tot l ≤ 1048576) := by
  unfold laws_szTaskS.f
  rw [w64 (by omega) (by omega)]
  by_cases e : (1048576 : Int) - (l.length : Int) < 0
  · rw [if_pos e]
    exact ⟨-1, rfl, by omega⟩
  · rw [if_neg e]
    obtain ⟨z, h1, h2⟩ := sz_l0 l [] k (1048576 - (l.length : Int)) hl hk hx (by omega) (by omega)
    refine ⟨z, h1, fun hz => ?_⟩
    have := h2 hz
    omega
theorem to_l0 : ∀ (r p : List S55) (y : List S49) (k : Nat), (p ++ r).length ≤ 140737488355328 → r.length + tot r + 1 < k → tot r ≤ 1048576 → y.length = (p ++ r).length → y.take p.length = p.map cT →
    laws_toTaskS.l0 k (p ++ r) y (p.length : Int) = some ((p ++ r).map cT)
  | [], p, y, k, hl, hk, hx, hy, ht => by
    obtain ⟨k, rfl⟩ := rounds hk
    simp only [laws_toTaskS.l0]
    rw [if_neg (by simp)]
    rw [List.take_of_length_le (by simp at hy; omega)] at ht
    simp [ht]
  | a :: r, p, y, k, hl, hk, hx, hy, ht => by
    obtain ⟨k, rfl⟩ := rounds hk
    have hn := len_app_cons p a r
    simp only [List.length_cons, tot] at hk hx
    simp only [laws_toTaskS.l0, laws_toTask.f]
    rw [if_pos (by omega), if_pos (by omega), rdT55, copy_ints a.f1 (by omega) k (by omega)]
    simp only [Option.bind_some]
    rw [if_pos (by omega), w64_succ (n := (p ++ a :: r).length) (by omega) (by omega) (by omega), ← len_snoc p a, app_cons, show ((p.length : Int)).toNat = p.length from by omega]
    refine to_l0 r (p ++ [a]) _ k (by rw [← app_cons]; omega) (by omega) (by omega) (by rw [← app_cons, List.length_set]; exact hy) ?_
    rw [List.length_append, List.length_singleton, take_set_succ _ _ _ (by omega), ht]
    simp [cT]
theorem to_tasks (l : List S55) (hl : l.length + tot l ≤ 1048576) (k : Nat) (hk : 1048580 < k) : laws_toTaskS.f k l = some (l.map cT) := by
  unfold laws_toTaskS.f
  rw [if_pos (by omega), if_pos (by omega)]
  exact to_l0 l [] _ k (by simp; omega) (by omega) (by omega) (by simp) (by simp)
/-- All lengths together, of the program's tasks. -/
def tot2 : List S49 → Nat
  | [] => 0
  | x :: r => x.f1.length + tot2 r
theorem tot2_map : ∀ l : List S55, tot2 (l.map cT) = tot l
  | [] => rfl
  | x :: r => by simp only [List.map_cons, tot2, tot, tot2_map r, cT]
theorem eq_l0 : ∀ (r p : List S49) (k : Nat), (p ++ r).length ≤ 140737488355328 → r.length + tot2 r + 1 < k → tot2 r ≤ 1048576 → laws_eqTaskS.l0 k (p ++ r) (p ++ r) (p.length : Int) = some true
  | [], p, k, hl, hk, hx => by
    obtain ⟨k, rfl⟩ := rounds hk
    simp only [laws_eqTaskS.l0]
    rw [if_neg (by simp)]
  | a :: r, p, k, hl, hk, hx => by
    obtain ⟨k, rfl⟩ := rounds hk
    have hn := len_app_cons p a r
    simp only [List.length_cons, tot2] at hk hx
    simp only [laws_eqTaskS.l0, laws_eqTask.f]
    rw [if_pos (by omega), if_pos (by omega), if_pos (by omega), rdT49, if_pos trivial, same_ints a.f1 (by omega) k (by omega)]
    simp only [Option.bind_some, if_true]
    rw [w64_succ (n := (p ++ a :: r).length) (by omega) (by omega) (by omega), ← len_snoc p a, app_cons]
    exact eq_l0 r (p ++ [a]) k (by rw [← app_cons]; omega) (by omega) (by omega)
theorem eq_tasks (l : List S49) (hl : l.length + tot2 l ≤ 1048576) (k : Nat) (hk : 1048580 < k) : laws_eqTaskS.f k l l = some true := by
  unfold laws_eqTaskS.f
  rw [if_pos rfl]
  exact eq_l0 l [] k (by simp; omega) (by omega) (by omega)

/-- Numbers that rise, from above lo, below i. -/
def asc (lo i : Int) : List Int → Bool
  | [] => true
  | a :: r => decide (lo < a) && (decide (a < i) && asc a i r)
/-- Tasks that are good, the first one having the number i. -/
def okT (i : Int) : List S49 → Bool
  | [] => true
  | t :: r => (decide (1 ≤ t.f0) && decide (t.f0 ≤ 20)) && (asc (-1) i t.f1 && okT (i + 1) r)
def goodT (l : List S49) : Bool := okT 0 l && decide (l.length ≤ 12)
/-- The last one ahead, -1 where there is none. -/
def lastOf (p : List Int) : Int := p.getLastD (-1)
theorem lastOf_snoc (p : List Int) (a : Int) : lastOf (p ++ [a]) = a := by
  unfold lastOf
  simp [List.getLastD_eq_getLast?]
theorem rd_last (p : List Int) (r : List Int) (h : 0 < p.length) : rd (p ++ r) ((p.length : Int) - 1) = lastOf p := by
  obtain ⟨q, a, rfl⟩ : ∃ q a, p = q ++ [a] := ⟨p.dropLast, p.getLast (by intro e; simp [e] at h), (List.dropLast_concat_getLast _).symm⟩
  rw [lastOf_snoc, len_snoc, show ((q.length : Int) + 1 - 1) = (q.length : Int) from by omega, ← app_cons, rd_app]
theorem spec_good_l1 (T T7 : List S49) (i x8 : Int) (hi : 0 ≤ i) (hi2 : i < 140737488355328) (f0 : Int) : ∀ (r p : List Int) (K m : Nat), K = m + r.length + 1 → (p ++ r).length ≤ 140737488355328 → (-1 ≤ lastOf p) →
    spec_GoodTasks.l1 K T i T7 x8 i (p ++ r) ((p ++ r).length : Int) (p.length : Int) f0 (p ++ r) = cond (asc (lastOf p) i r) (spec_GoodTasks.l0 m T T7 x8 (wrap64 (i + 1))) (some false)
  | [], p, K, m, hK, hl, hp => by
    subst hK
    simp only [spec_GoodTasks.l1]
    rw [if_neg (by simp)]
    simp [asc]
  | a :: r, p, K, m, hK, hl, hp => by
    have hn := len_app_cons p a r
    obtain ⟨K, rfl⟩ : ∃ K', K = K' + 1 := ⟨m + r.length + 1, by rw [hK]; simp; omega⟩
    simp only [List.length_cons] at hK
    simp only [spec_GoodTasks.l1]
    rw [if_pos (by omega), if_pos (by omega), if_pos (by omega), rd_app]
    rw [show asc (lastOf p) i (a :: r) = (decide (lastOf p < a) && (decide (a < i) && asc a i r)) from rfl]
    by_cases e1 : a < 0
    · rw [if_pos e1]
      rw [show decide (lastOf p < a) = false from by simp; omega]
      rfl
    · rw [if_neg e1]
      by_cases e2 : a ≥ i
      · rw [if_pos e2]
        rw [show decide (a < i) = false from by simp; omega, Bool.false_and, Bool.and_false]
        rfl
      · rw [if_neg e2]
        rw [w64_succ (n := (p ++ a :: r).length) (by omega) (by omega) (by omega)]
        have hgo := spec_good_l1 T T7 i x8 hi hi2 f0 r (p ++ [a]) K m (by omega) (by rw [← app_cons]; omega) (by rw [lastOf_snoc]; omega)
        rw [← app_cons, len_snoc, lastOf_snoc] at hgo
        by_cases e3 : p.length = 0
        · have hp0 : p = [] := List.length_eq_zero_iff.1 e3
          subst hp0
          rw [if_neg (by simp)]
          have hlo : lastOf [] = -1 := rfl
          rw [hgo, hlo, show (decide ((-1 : Int) < a)) = true from by simp; omega, show (decide (a < i)) = true from by simp; omega]
          rfl
        · rw [if_pos (by omega), w64 (x := (p.length : Int) - 1) (by omega) (by omega), if_pos (by omega), if_pos (by omega), rd_last p _ (by omega)]
          by_cases e4 : lastOf p ≥ a
          · rw [if_pos e4, show (decide (lastOf p < a)) = false from by simp; omega]
            rfl
          · rw [if_neg e4, hgo, show (decide (lastOf p < a)) = true from by simp; omega, show (decide (a < i)) = true from by simp; omega]
            rfl
theorem impl_good_l1 (T T7 : List S49) (i x8 : Int) (hi : 0 ≤ i) (hi2 : i < 140737488355328) (f0 : Int) : ∀ (r p : List Int) (K m : Nat), K = m + r.length + 1 → (p ++ r).length ≤ 140737488355328 → (-1 ≤ lastOf p) →
    impl_areTasks.l1 K T i T7 x8 i (p ++ r) ((p ++ r).length : Int) (p.length : Int) f0 (p ++ r) = cond (asc (lastOf p) i r) (impl_areTasks.l0 m T T7 x8 (wrap64 (i + 1))) (some false)
  | [], p, K, m, hK, hl, hp => by
    subst hK
    simp only [impl_areTasks.l1]
    rw [if_neg (by simp)]
    simp [asc]
  | a :: r, p, K, m, hK, hl, hp => by
    have hn := len_app_cons p a r
    obtain ⟨K, rfl⟩ : ∃ K', K = K' + 1 := ⟨m + r.length + 1, by rw [hK]; simp; omega⟩
    simp only [List.length_cons] at hK
    simp only [impl_areTasks.l1, impl_in.f]
    rw [if_pos (by omega), if_pos (by omega), if_pos (by omega), rd_app, w64 (x := i - 1) (by omega) (by omega)]
    rw [show asc (lastOf p) i (a :: r) = (decide (lastOf p < a) && (decide (a < i) && asc a i r)) from rfl]
    by_cases e1 : a < 0
    · rw [if_neg (by omega)]
      simp only [Option.bind_some]
      rw [if_neg (by simp)]
      rw [show decide (lastOf p < a) = false from by simp; omega]
      rfl
    · rw [if_pos (by omega)]
      simp only [Option.bind_some]
      by_cases e2 : a ≥ i
      · rw [if_neg (by simp; omega)]
        rw [show decide (a < i) = false from by simp; omega, Bool.false_and, Bool.and_false]
        rfl
      · rw [if_pos (by simp; omega)]
        rw [w64_succ (n := (p ++ a :: r).length) (by omega) (by omega) (by omega)]
        have hgo := impl_good_l1 T T7 i x8 hi hi2 f0 r (p ++ [a]) K m (by omega) (by rw [← app_cons]; omega) (by rw [lastOf_snoc]; omega)
        rw [← app_cons, len_snoc, lastOf_snoc] at hgo
        by_cases e3 : p.length = 0
        · have hp0 : p = [] := List.length_eq_zero_iff.1 e3
          subst hp0
          rw [if_neg (by simp)]
          have hlo : lastOf [] = -1 := rfl
          rw [hgo, hlo, show (decide ((-1 : Int) < a)) = true from by simp; omega, show (decide (a < i)) = true from by simp; omega]
          rfl
        · rw [if_pos (by omega), w64 (x := (p.length : Int) - 1) (by omega) (by omega), if_pos (by omega), if_pos (by omega), rd_last p _ (by omega)]
          by_cases e4 : lastOf p ≥ a
          · rw [if_pos e4, show (decide (lastOf p < a)) = false from by simp; omega]
            rfl
          · rw [if_neg e4, hgo, show (decide (lastOf p < a)) = true from by simp; omega, show (decide (a < i)) = true from by simp; omega]
            rfl
theorem spec_good_l0 : ∀ (r p : List S49) (k : Nat), (p ++ r).length ≤ 140737488355327 → tot2 r ≤ 140737488355328 → tot2 r + 2 * r.length < k →
    spec_GoodTasks.l0 k (p ++ r) (p ++ r) ((p ++ r).length : Int) (p.length : Int) = some (okT (p.length : Int) r && decide ((p ++ r).length ≤ 12))
  | [], p, k, hl, hx, hk => by
    obtain ⟨k, rfl⟩ := rounds hk
    simp only [spec_GoodTasks.l0]
    rw [if_neg (by simp)]
    simp [okT]
    omega
  | a :: r, p, k, hl, hx, hk => by
    have hn := len_app_cons p a r
    simp only [List.length_cons, tot2] at hk hx
    obtain ⟨k, rfl⟩ : ∃ m, k = (m + a.f1.length + 1) + 1 := ⟨k - a.f1.length - 2, by omega⟩
    simp only [spec_GoodTasks.l0, spec_l1In.f]
    rw [if_pos (by omega), if_pos (by omega), if_pos (by omega), rdT49]
    simp only [okT]
    by_cases e1 : a.f0 ≥ 1
    · rw [if_pos e1]
      simp only [Option.bind_some]
      by_cases e2 : a.f0 ≤ 20
      · rw [if_pos (by simpa using e2)]
        have hgo := spec_good_l1 (p ++ a :: r) (p ++ a :: r) (p.length : Int) ((p ++ a :: r).length : Int) (by omega) (by omega) a.f0 a.f1 [] (k + a.f1.length + 1) k rfl (by simp; omega) (by decide)
        have hgo' : spec_GoodTasks.l1 (k + a.f1.length + 1) (p ++ a :: r) (p.length : Int) (p ++ a :: r) ((p ++ a :: r).length : Int) (p.length : Int) a.f1 (a.f1.length : Int) 0 a.f0 a.f1 = _ := hgo
        rw [hgo', w64_succ (n := (p ++ a :: r).length) (by omega) (by omega) (by omega), ← len_snoc p a]
        have ih := spec_good_l0 r (p ++ [a]) k (by rw [← app_cons]; omega) (by omega) (by omega)
        rw [← app_cons] at ih
        rw [ih, len_snoc]
        have hd : (decide (1 ≤ a.f0) && decide (a.f0 ≤ 20)) = true := by simp; omega
        rw [hd]
        have hlo : lastOf [] = -1 := rfl
        rw [hlo]
        cases asc (-1) (p.length : Int) a.f1 <;> simp
      · rw [if_neg (by simpa using e2)]
        simp [e2]
    · rw [if_neg e1]
      simp only [Option.bind_some]
      rw [if_neg (by simp)]
      have : ¬ 1 ≤ a.f0 := by omega
      simp [this]
theorem impl_good_l0 : ∀ (r p : List S49) (k : Nat), (p ++ r).length ≤ 140737488355327 → tot2 r ≤ 140737488355328 → tot2 r + 2 * r.length < k →
    impl_areTasks.l0 k (p ++ r) (p ++ r) ((p ++ r).length : Int) (p.length : Int) = some (okT (p.length : Int) r && decide ((p ++ r).length ≤ 12))
  | [], p, k, hl, hx, hk => by
    obtain ⟨k, rfl⟩ := rounds hk
    simp only [impl_areTasks.l0]
    rw [if_neg (by simp)]
    simp [okT]
    omega
  | a :: r, p, k, hl, hx, hk => by
    have hn := len_app_cons p a r
    simp only [List.length_cons, tot2] at hk hx
    obtain ⟨k, rfl⟩ : ∃ m, k = (m + a.f1.length + 1) + 1 := ⟨k - a.f1.length - 2, by omega⟩
    simp only [impl_areTasks.l0, impl_in.f]
    rw [if_pos (by omega), if_pos (by omega), if_pos (by omega), rdT49]
    simp only [okT]
    by_cases e1 : a.f0 ≥ 1
    · rw [if_pos e1]
      simp only [Option.bind_some]
      by_cases e2 : a.f0 ≤ 20
      · rw [if_pos (by simpa using e2)]
        have hgo := impl_good_l1 (p ++ a :: r) (p ++ a :: r) (p.length : Int) ((p ++ a :: r).length : Int) (by omega) (by omega) a.f0 a.f1 [] (k + a.f1.length + 1) k rfl (by simp; omega) (by decide)
        have hgo' : impl_areTasks.l1 (k + a.f1.length + 1) (p ++ a :: r) (p.length : Int) (p ++ a :: r) ((p ++ a :: r).length : Int) (p.length : Int) a.f1 (a.f1.length : Int) 0 a.f0 a.f1 = _ := hgo
        rw [hgo', w64_succ (n := (p ++ a :: r).length) (by omega) (by omega) (by omega), ← len_snoc p a]
        have ih := impl_good_l0 r (p ++ [a]) k (by rw [← app_cons]; omega) (by omega) (by omega)
        rw [← app_cons] at ih
        rw [ih, len_snoc]
        have hd : (decide (1 ≤ a.f0) && decide (a.f0 ≤ 20)) = true := by simp; omega
        rw [hd]
        have hlo : lastOf [] = -1 := rfl
        rw [hlo]
        cases asc (-1) (p.length : Int) a.f1 <;> simp
      · rw [if_neg (by simpa using e2)]
        simp [e2]
    · rw [if_neg e1]
      simp only [Option.bind_some]
      rw [if_neg (by simp)]
      have : ¬ 1 ≤ a.f0 := by omega
      simp [this]
theorem good_spec (l : List S49) (hl : l.length + tot2 l ≤ 1048576) (k : Nat) (hk : 2097160 < k) : spec_GoodTasks.f k l = some (goodT l) := by
  unfold spec_GoodTasks.f goodT
  exact spec_good_l0 l [] k (by simp; omega) (by omega) (by omega)
theorem good_impl (l : List S49) (hl : l.length + tot2 l ≤ 1048576) (k : Nat) (hk : 2097160 < k) : impl_areTasks.f k l = some (goodT l) := by
  unfold impl_areTasks.f goodT
  exact impl_good_l0 l [] k (by simp; omega) (by omega) (by omega)

theorem has_l0 (x : Int) : ∀ (r p : List Int) (k : Nat), (p ++ r).length ≤ 140737488355328 → r.length < k → spec_l1Has.l0 k x (p ++ r) ((p ++ r).length : Int) (p.length : Int) = some (decide (x ∈ r))
  | [], p, k, hl, hk => by
    obtain ⟨k, rfl⟩ := rounds hk
    simp only [spec_l1Has.l0]
    rw [if_neg (by simp)]
    simp
  | a :: r, p, k, hl, hk => by
    obtain ⟨k, rfl⟩ := rounds hk
    have hn := len_app_cons p a r
    simp only [spec_l1Has.l0]
    rw [if_pos (by omega), if_pos (by omega), if_pos (by omega), rd_app, w64_succ (n := (p ++ a :: r).length) (by omega) (by omega) (by omega), ← len_snoc p a, app_cons]
    rw [has_l0 x r (p ++ [a]) k (by rw [← app_cons]; omega) (by simpa using hk)]
    by_cases e : a = x
    · rw [if_pos e]; simp [e]
    · have hne : ¬ x = a := fun h => e h.symm
      rw [if_neg e]
      simp [hne]
theorem has_ints (l : List Int) (x : Int) (hl : l.length ≤ 140737488355328) (k : Nat) (hk : l.length < k) : spec_l1Has.f k l x = some (decide (x ∈ l)) := by
  unfold spec_l1Has.f
  exact has_l0 x l [] k hl hk

theorem rdT49_nat (l : List S49) (i : Nat) (h : i < l.length) : rd_T49 l (i : Int) = l[i] := by
  unfold rd_T49
  simp [h]
theorem rd_set (l : List Int) (i h : Nat) (v : Int) (hi : i < l.length) : rd (l.set i v) (h : Int) = if h = i then v else rd l (h : Int) := by
  unfold rd
  simp only [Int.toNat_natCast]
  by_cases e : h = i
  · rw [if_pos e, e]
    simp [hi]
  · rw [if_neg e]
    have e' : ¬ i = h := fun x => e x.symm
    simp [List.getD_eq_getElem?_getD, List.getElem?_set_ne e']
theorem mx_comm (a b : Int) : mx a b = mx b a := by
  unfold mx
  split <;> split <;> omega
theorem mx_assoc (a b c : Int) : mx (mx a b) c = mx a (mx b c) := by
  unfold mx
  by_cases h1 : a < b <;> by_cases h2 : b < c <;> by_cases h3 : a < c <;> simp [h1, h2, h3] <;> omega
theorem mx_bd {a b lo hi : Int} (h1 : lo ≤ a ∧ a ≤ hi) (h2 : lo ≤ b ∧ b ≤ hi) : lo ≤ mx a b ∧ mx a b ≤ hi := by
  unfold mx
  split
  · exact h2
  · exact h1
/-- The greatest rank of those that have h in their After. -/
def bb (h : Int) : List S49 → List Int → Int
  | t :: S, r :: R => if h ∈ t.f1 then mx r (bb h S R) else bb h S R
  | _, _ => 0
/-- The ranks of tasks, the first one having the number i. -/
def rks (i : Int) : List S49 → List Int
  | [] => []
  | t :: S => (t.f0 + bb i S (rks (i + 1) S)) :: rks (i + 1) S
theorem rks_len : ∀ (S : List S49) (i : Int), (rks i S).length = S.length
  | [], _ => rfl
  | t :: S, i => by simp only [rks, List.length_cons, rks_len S (i + 1)]
theorem bb_bd (h hi : Int) (h0 : 0 ≤ hi) : ∀ (S : List S49) (R : List Int), (∀ r ∈ R, 0 ≤ r ∧ r ≤ hi) → 0 ≤ bb h S R ∧ bb h S R ≤ hi
  | [], R, _ => by cases R <;> simp [bb] <;> omega
  | t :: S, [], _ => by simp [bb]; omega
  | t :: S, r :: R, hR => by
    have ih := bb_bd h hi h0 S R (fun x hx => hR x (by simp [hx]))
    simp only [bb]
    split
    · exact mx_bd (hR r (by simp)) ih
    · exact ih
theorem rks_bd : ∀ (S : List S49) (i : Int), okT i S = true → ∀ r ∈ rks i S, 0 ≤ r ∧ r ≤ 20 * (S.length : Int)
  | [], _, _, r, hr => by cases hr
  | t :: S, i, ho, r, hr => by
    simp only [okT, Bool.and_eq_true, decide_eq_true_eq] at ho
    have ih := rks_bd S (i + 1) ho.2.2
    have hb := bb_bd i (20 * (S.length : Int)) (by omega) S (rks (i + 1) S) ih
    simp only [rks] at hr
    simp only [List.length_cons]
    rcases List.mem_cons.1 hr with rfl | hr
    · omega
    · have := ih r hr
      omega
theorem asc_range : ∀ (l : List Int) (lo i : Int), asc lo i l = true → ∀ x ∈ l, lo < x ∧ x < i
  | [], _, _, _, x, hx => by cases hx
  | a :: l, lo, i, h, x, hx => by
    simp only [asc, Bool.and_eq_true, decide_eq_true_eq] at h
    rcases List.mem_cons.1 hx with rfl | hx
    · omega
    · have := asc_range l a i h.2.2 x hx
      omega
theorem asc_len : ∀ (l : List Int) (lo i : Int), asc lo i l = true → lo < i → (l.length : Int) ≤ i - lo - 1
  | [], lo, i, _, h => by simp; omega
  | a :: l, lo, i, h, h' => by
    simp only [asc, Bool.and_eq_true, decide_eq_true_eq] at h
    have := asc_len l a i h.2.2 h.2.1
    simp only [List.length_cons]
    omega
theorem okT_app : ∀ (P S : List S49) (i : Int), okT i (P ++ S) = true → okT (i + P.length) S = true
  | [], S, i, h => by simpa using h
  | t :: P, S, i, h => by
    simp only [List.cons_append, okT, Bool.and_eq_true] at h
    have := okT_app P S (i + 1) h.2.2
    rw [List.length_cons, show i + ((P.length + 1 : Nat) : Int) = i + 1 + (P.length : Int) from by omega]
    exact this
theorem okT_mem : ∀ (S : List S49) (i : Int), okT i S = true → 0 ≤ i → ∀ t ∈ S, (t.f1.length : Int) ≤ i + S.length ∧ 1 ≤ t.f0 ∧ t.f0 ≤ 20
  | [], _, _, _, t, ht => by cases ht
  | a :: S, i, h, hi, t, ht => by
    simp only [okT, Bool.and_eq_true, decide_eq_true_eq] at h
    simp only [List.length_cons]
    rcases List.mem_cons.1 ht with rfl | ht
    · have := asc_len t.f1 (-1) i h.2.1 (by omega)
      omega
    · have := okT_mem S (i + 1) h.2.2 (by omega) t ht
      omega
theorem spec_rank_l1 (T : List S49) (hT : T.length ≤ 12) (hTf : ∀ t ∈ T, t.f1.length ≤ 24) (out : List Int) (hout : out.length = T.length) (i : Nat) (hi : i < T.length) (hf : 1 ≤ T[i].f0 ∧ T[i].f0 ≤ 20) : ∀ (S A : List S49) (R B : List Int) (m : Int) (k : Nat), T = A ++ S → out = B ++ R → A.length = B.length → S.length + 50 < k → 0 ≤ m → m ≤ 240 → (∀ r ∈ R, 0 ≤ r ∧ r ≤ 240) →
    ∃ k', k - S.length - 1 ≤ k' ∧ spec_l10Ranks.l1 k T out (i : Int) m (A.length : Int) = spec_l10Ranks.l0 k' T (out.set i (T[i].f0 + mx m (bb (i : Int) S R))) ((i : Int) - 1)
  | [], A, R, B, m, k, hTA, hoB, hAB, hk, h0, h1, hR => by
    obtain ⟨k, rfl⟩ := rounds hk
    have hA : A.length = T.length := by rw [hTA]; simp
    have hR0 : R = [] := by
      have := congrArg List.length hoB
      simp at this
      exact List.length_eq_zero_iff.1 (by omega)
    subst hR0
    refine ⟨k, by simp, ?_⟩
    simp only [spec_l10Ranks.l1]
    rw [if_neg (by omega), if_pos (by omega), if_pos (by omega), if_pos (by omega), rdT49_nat T i hi, show ((i : Int)).toNat = i from by omega, w64 (x := (i : Int) - 1) (by omega) (by omega), w64 (by omega) (by omega)]
    have hm : mx m (bb (i : Int) [] []) = m := by
      unfold mx bb
      split <;> omega
    rw [hm]
  | a :: S, A, [], B, m, k, hTA, hoB, hAB, hk, h0, h1, hR => by
    have h2 := congrArg List.length hoB
    have h3 := congrArg List.length hTA
    simp at h2 h3
    omega
  | a :: S, A, r :: R, B, m, k, hTA, hoB, hAB, hk, h0, h1, hR => by
    obtain ⟨k, rfl⟩ := rounds hk
    have hlen : T.length = A.length + S.length + 1 := by rw [hTA]; exact len_app_cons A a S
    have hrdT : rd_T49 T (A.length : Int) = a := by rw [hTA]; exact rdT49 A a S
    have hrd : rd out (A.length : Int) = r := by rw [hoB, hAB]; exact rd_app B r R
    have haf := hTf a (by rw [hTA]; simp)
    have hr := hR r (by simp)
    simp only [List.length_cons] at hk
    have hw : wrap64 ((A.length : Int) + 1) = (((A ++ [a]).length : Nat) : Int) := by rw [len_snoc]; exact w64 (by omega) (by omega)
    simp only [spec_l10Ranks.l1]
    rw [if_pos (by omega), if_pos (by omega), hrdT, has_ints a.f1 (i : Int) (by omega) k (by omega)]
    simp only [Option.bind_some]
    have hgo : ∀ m', 0 ≤ m' → m' ≤ 240 → mx m' (bb (i : Int) S R) = mx m (bb (i : Int) (a :: S) (r :: R)) → ∃ k', k + 1 - (a :: S).length - 1 ≤ k' ∧ spec_l10Ranks.l1 k T out (i : Int) m' (wrap64 ((A.length : Int) + 1)) = spec_l10Ranks.l0 k' T (out.set i (T[i].f0 + mx m (bb (i : Int) (a :: S) (r :: R)))) ((i : Int) - 1) := by
      intro m' g0 g1 g2
      obtain ⟨k', h2, h3⟩ := spec_rank_l1 T hT hTf out hout i hi hf S (A ++ [a]) R (B ++ [r]) m' k (by rw [hTA]; simp) (by rw [hoB]; simp) (by simp [hAB]) (by omega) g0 g1 (fun x hx => hR x (by simp [hx]))
      refine ⟨k', by simp; omega, ?_⟩
      rw [hw, h3, g2]
    by_cases e : (i : Int) ∈ a.f1
    · rw [if_pos (by simpa using e), if_pos (by omega), hrd]
      by_cases e2 : r > m
      · rw [if_pos e2]
        refine hgo r (by omega) (by omega) ?_
        simp only [bb]
        rw [if_pos e, ← mx_assoc]
        congr 1
        unfold mx
        rw [if_pos (by omega)]
      · rw [if_neg e2]
        refine hgo m h0 h1 ?_
        simp only [bb]
        rw [if_pos e, ← mx_assoc]
        congr 1
        unfold mx
        rw [if_neg (by omega)]
    · rw [if_neg (by simpa using e)]
      refine hgo m h0 h1 ?_
      simp only [bb]
      rw [if_neg e]
theorem set_zeros (d : Nat) (x : Int) (R : List Int) : (List.replicate (d + 1) (0 : Int) ++ R).set d x = List.replicate d 0 ++ x :: R := by
  rw [List.replicate_succ', List.append_assoc, List.singleton_append]
  have := set_app (List.replicate d (0 : Int)) 0 x R
  rwa [List.length_replicate] at this
theorem spec_rank_l0 (T : List S49) (hT : T.length ≤ 12) (hg : okT 0 T = true) : ∀ (d : Nat) (A S : List S49) (k : Nat), T = A ++ S → A.length = d → 100 * d + 100 < k →
    spec_l10Ranks.l0 k T (List.replicate d 0 ++ rks (d : Int) S) ((d : Int) - 1) = some (rks 0 T)
  | 0, A, S, k, hTA, hA, hk => by
    obtain ⟨k, rfl⟩ := rounds hk
    have hA0 : A = [] := List.length_eq_zero_iff.1 hA
    subst hA0
    simp only [spec_l10Ranks.l0]
    rw [if_neg (by omega), hTA]
    simp
  | d + 1, A, S, k, hTA, hA, hk => by
    obtain ⟨k, rfl⟩ := rounds hk
    obtain ⟨B, t, rfl⟩ : ∃ B t, A = B ++ [t] := ⟨A.dropLast, A.getLast (by intro e; simp [e] at hA), (List.dropLast_concat_getLast _).symm⟩
    have hB : B.length = d := by simpa using hA
    have hTl : T.length = d + 1 + S.length := by rw [hTA]; simp; omega
    have hTB : T = B ++ (t :: S) := by rw [hTA]; simp
    have htd : T[d]'(by omega) = t := by
      simp only [hTB]
      rw [List.getElem_append_right (by omega)]
      simp [hB]
    have hS : okT ((d + 1 : Nat) : Int) S = true := by
      have := okT_app (B ++ [t]) S 0 (by rw [← hTA]; exact hg)
      rw [hA, Int.zero_add] at this
      exact this
    have hmem := okT_mem T 0 hg (by omega)
    have hR := rks_bd S _ hS
    have ht := hmem t (by rw [hTB]; simp)
    simp only [spec_l10Ranks.l0]
    rw [if_pos (by omega), w64 (by omega) (by omega), show ((d + 1 : Nat) : Int) - 1 + 1 = (((B ++ [t]).length : Nat) : Int) from by rw [len_snoc, hB]; omega, show ((d + 1 : Nat) : Int) - 1 = (d : Int) from by omega]
    obtain ⟨k', h1, h2⟩ := spec_rank_l1 T hT (fun x hx => by have := (hmem x hx).1; omega) (List.replicate (d + 1) 0 ++ rks ((d + 1 : Nat) : Int) S) (by simp [rks_len]; omega) d (by omega) (by rw [htd]; exact ht.2) S (B ++ [t]) (rks ((d + 1 : Nat) : Int) S) (List.replicate (d + 1) 0) 0 k hTA rfl (by simp [hB]) (by omega) (by omega) (by omega) (fun r hr => by have := hR r hr; omega)
    rw [h2, htd, set_zeros]
    have hbb := bb_bd (d : Int) (20 * (S.length : Int)) (by omega) S _ hR
    have hmx : mx 0 (bb (d : Int) S (rks ((d + 1 : Nat) : Int) S)) = bb (d : Int) S (rks ((d + 1 : Nat) : Int) S) := by
      unfold mx
      split <;> omega
    rw [hmx]
    have ih := spec_rank_l0 T hT hg d B (t :: S) k' hTB hB (by omega)
    simp only [rks] at ih
    exact ih
theorem ranks_spec (T : List S49) (hT : T.length ≤ 12) (hg : okT 0 T = true) (k : Nat) (hk : 1500 < k) : spec_l10Ranks.f k T = some (rks 0 T) := by
  unfold spec_l10Ranks.f
  rw [if_pos (by omega), if_pos (by omega), w64 (by omega) (by omega)]
  have h := spec_rank_l0 T hT hg T.length T [] k (by simp) rfl (by omega)
  rw [show rks ((T.length : Nat) : Int) [] = [] from rfl, List.append_nil] at h
  simpa using h
/-- What the program keeps of those behind. -/
theorem impl_rank_l1 (T : List S49) (hT : T.length ≤ 12) (out : List Int) (i : Nat) (hi : i < T.length) (hout : out.length = T.length) (hr : 0 ≤ rd out (i : Int) ∧ rd out (i : Int) ≤ 240) (H : List Int) (hH : ∀ x ∈ H, 0 ≤ x ∧ x < (i : Int)) (hHl : H.length ≤ 24) (hnd : ∀ p r, H = p ++ r → ∀ x ∈ p, x ∉ r) : ∀ (r p : List Int) (beh : List Int) (k : Nat), H = p ++ r → beh.length = T.length → r.length + 3 < k →
    ∃ beh' k', beh'.length = T.length ∧ k - r.length - 1 ≤ k' ∧ (∀ h : Nat, h < T.length → rd beh' (h : Int) = if (h : Int) ∈ r then mx (rd beh (h : Int)) (rd out (i : Int)) else rd beh (h : Int)) ∧
      impl_ranksOf.l1 k T beh out (i : Int) H (H.length : Int) (p.length : Int) = impl_ranksOf.l0 k' T beh' out ((i : Int) - 1)
  | [], p, beh, k, hHp, hb, hk => by
    obtain ⟨k, rfl⟩ := rounds hk
    have hpl : p.length = H.length := by rw [hHp]; simp
    refine ⟨beh, k, hb, by simp, fun h _ => by simp, ?_⟩
    simp only [impl_ranksOf.l1]
    rw [if_neg (by omega), w64 (by omega) (by omega)]
  | a :: r, p, beh, k, hHp, hb, hk => by
    obtain ⟨k, rfl⟩ := rounds hk
    have hlen : H.length = p.length + r.length + 1 := by rw [hHp]; exact len_app_cons p a r
    have hrd : rd H (p.length : Int) = a := by rw [hHp]; exact rd_app p a r
    have ha := hH a (by rw [hHp]; simp)
    have har : a ∉ r := hnd (p ++ [a]) r (by rw [hHp]; simp) a (by simp)
    simp only [List.length_cons] at hk
    have hw : wrap64 ((p.length : Int) + 1) = (((p ++ [a]).length : Nat) : Int) := by rw [len_snoc]; exact w64 (by omega) (by omega)
    simp only [impl_ranksOf.l1]
    rw [if_pos (by omega), if_pos (by omega), if_pos (by omega), hrd, if_pos ha.1, if_pos (by omega), if_pos (by omega), if_pos (by omega), hw]
    obtain ⟨beh', k', h1, h2, h3, h4⟩ := impl_rank_l1 T hT out i hi hout hr H hH hHl hnd r (p ++ [a]) (beh.set a.toNat (mx (rd beh a) (rd out (i : Int)))) k (by rw [hHp]; simp) (by simp [hb]) (by omega)
    refine ⟨beh', k', h1, by simp; omega, fun h hh => ?_, h4⟩
    rw [h3 h hh, rd_set beh a.toNat h _ (by omega)]
    by_cases e : (h : Int) = a
    · have e' : h = a.toNat := by omega
      rw [if_neg (by rw [e]; exact har), if_pos e', if_pos (by rw [e]; simp), e]
    · have e' : ¬ h = a.toNat := by omega
      rw [if_neg e']
      simp [e]
theorem asc_lt : ∀ (p r : List Int) (lo i : Int), asc lo i (p ++ r) = true → ∀ x ∈ p, ∀ y ∈ r, x < y
  | [], r, lo, i, h, x, hx, y, hy => by cases hx
  | a :: p, r, lo, i, h, x, hx, y, hy => by
    simp only [List.cons_append, asc, Bool.and_eq_true, decide_eq_true_eq] at h
    rcases List.mem_cons.1 hx with rfl | hx
    · exact (asc_range (p ++ r) x i h.2.2 y (by simp [hy])).1
    · exact asc_lt p r a i h.2.2 x hx y hy
theorem impl_rank_l0 (T : List S49) (hT : T.length ≤ 12) (hg : okT 0 T = true) : ∀ (d : Nat) (A S : List S49) (beh : List Int) (k : Nat), T = A ++ S → A.length = d → beh.length = T.length → (∀ h : Nat, h < d → rd beh (h : Int) = bb (h : Int) S (rks (d : Int) S)) → 100 * d + 100 < k →
    impl_ranksOf.l0 k T beh (List.replicate d 0 ++ rks (d : Int) S) ((d : Int) - 1) = some (rks 0 T)
  | 0, A, S, beh, k, hTA, hA, hb, hB, hk => by
    obtain ⟨k, rfl⟩ := rounds hk
    have hA0 : A = [] := List.length_eq_zero_iff.1 hA
    subst hA0
    simp only [impl_ranksOf.l0]
    rw [if_neg (by omega), hTA]
    simp
  | d + 1, A, S, beh, k, hTA, hA, hb, hbeh, hk => by
    obtain ⟨k, rfl⟩ := rounds hk
    obtain ⟨B, t, rfl⟩ : ∃ B t, A = B ++ [t] := ⟨A.dropLast, A.getLast (by intro e; simp [e] at hA), (List.dropLast_concat_getLast _).symm⟩
    have hB : B.length = d := by simpa using hA
    have hTl : T.length = d + 1 + S.length := by rw [hTA]; simp; omega
    have hTB : T = B ++ (t :: S) := by rw [hTA]; simp
    have hrdT : rd_T49 T (d : Int) = t := by rw [hTB, ← hB]; exact rdT49 B t S
    have hS0 := okT_app B (t :: S) 0 (by rw [← hTB]; exact hg)
    rw [hB, Int.zero_add] at hS0
    simp only [okT, Bool.and_eq_true, decide_eq_true_eq] at hS0
    have hS : okT ((d + 1 : Nat) : Int) S = true := hS0.2.2
    have hasc := hS0.2.1
    have hR := rks_bd S _ hS
    have hbd := bb_bd (d : Int) (20 * (S.length : Int)) (by omega) S _ hR
    have hal := asc_len t.f1 (-1) (d : Int) hasc (by omega)
    have hx : ((d + 1 : Nat) : Int) - 1 = (d : Int) := by omega
    rw [hx]
    simp only [impl_ranksOf.l0]
    rw [if_pos (by omega), if_pos (by omega), if_pos (by omega), if_pos (by omega), if_pos (by simp [rks_len]; omega), hrdT, hbeh d (by omega), show ((d : Int)).toNat = d from by omega, set_zeros, w64 (by omega) (by omega)]
    have hrd : rd (List.replicate d 0 ++ (t.f0 + bb (d : Int) S (rks ((d + 1 : Nat) : Int) S)) :: rks ((d + 1 : Nat) : Int) S) (d : Int) = t.f0 + bb (d : Int) S (rks ((d + 1 : Nat) : Int) S) := by
      have := rd_app (List.replicate d (0 : Int)) (t.f0 + bb (d : Int) S (rks ((d + 1 : Nat) : Int) S)) (rks ((d + 1 : Nat) : Int) S)
      rwa [List.length_replicate] at this
    obtain ⟨beh', k', h1, h2, h3, h4⟩ := impl_rank_l1 T hT (List.replicate d 0 ++ (t.f0 + bb (d : Int) S (rks ((d + 1 : Nat) : Int) S)) :: rks ((d + 1 : Nat) : Int) S) d (by omega) (by simp [rks_len]; omega) (by rw [hrd]; omega) t.f1 (fun x hx => by have := asc_range t.f1 _ _ hasc x hx; omega) (by omega)
      (fun p r hpr x hx hxr => by
        have := asc_lt p r (-1) (d : Int) (by rw [← hpr]; exact hasc) x hx x hxr
        omega) t.f1 [] beh k rfl hb (by omega)
    have h4' : impl_ranksOf.l1 k T beh (List.replicate d 0 ++ (t.f0 + bb (d : Int) S (rks ((d + 1 : Nat) : Int) S)) :: rks ((d + 1 : Nat) : Int) S) (d : Int) t.f1 (t.f1.length : Int) 0 = _ := h4
    rw [h4']
    have ih := impl_rank_l0 T hT hg d B (t :: S) beh' k' hTB hB h1 (fun h hh => ?_) (by omega)
    · simp only [rks] at ih
      exact ih
    · rw [h3 h (by omega), hrd, hbeh h (by omega)]
      simp only [rks, bb]
      by_cases e : (h : Int) ∈ t.f1
      · rw [if_pos e, if_pos e, mx_comm]
        rfl
      · rw [if_neg e, if_neg e]
        rfl
theorem rd_zeros (n h : Nat) : rd (List.replicate n (0 : Int)) (h : Int) = 0 := by
  unfold rd
  simp [List.getD_eq_getElem?_getD, List.getElem?_replicate]
  split <;> rfl
theorem ranks_impl (T : List S49) (hT : T.length ≤ 12) (hg : okT 0 T = true) (k : Nat) (hk : 1500 < k) : impl_ranksOf.f k T = some (rks 0 T) := by
  unfold impl_ranksOf.f
  rw [if_pos (by omega), if_pos (by omega), w64 (by omega) (by omega)]
  have h := impl_rank_l0 T hT hg T.length T [] (List.replicate T.length 0) k (by simp) rfl (by simp) (fun h _ => by rw [rd_zeros]; rfl) (by omega)
  rw [show rks ((T.length : Nat) : Int) [] = [] from rfl, List.append_nil] at h
  simpa using h
/-- The greatest one, 0 for none. -/
def top (m : Int) : List Int → Int
  | [] => m
  | r :: R => top (mx m r) R
theorem chain_spec_l0 : ∀ (r p : List Int) (m : Int) (k : Nat), (p ++ r).length ≤ 12 → r.length < k →
    spec_l10Chain.l0 k m (p ++ r) ((p ++ r).length : Int) (p.length : Int) = some (top m r)
  | [], p, m, k, hl, hk => by
    obtain ⟨k, rfl⟩ := rounds hk
    simp only [spec_l10Chain.l0]
    rw [if_neg (by simp)]
    rfl
  | a :: r, p, m, k, hl, hk => by
    obtain ⟨k, rfl⟩ := rounds hk
    have hn := len_app_cons p a r
    simp only [List.length_cons] at hk
    simp only [spec_l10Chain.l0]
    rw [if_pos (by omega), if_pos (by omega), if_pos (by omega), rd_app, w64_succ (n := (p ++ a :: r).length) (by omega) (by omega) (by omega), ← len_snoc p a, app_cons]
    rw [chain_spec_l0 r (p ++ [a]) a k (by rw [← app_cons]; omega) (by omega), chain_spec_l0 r (p ++ [a]) m k (by rw [← app_cons]; omega) (by omega)]
    show _ = some (top (mx m a) r)
    unfold mx
    by_cases e : a > m
    · rw [if_pos e, if_pos (by omega)]
    · rw [if_neg e, if_neg (by omega)]
theorem chain_impl_l0 : ∀ (r p : List Int) (m : Int) (k : Nat), (p ++ r).length ≤ 12 → r.length < k →
    impl_longest.l0 k m (p ++ r) ((p ++ r).length : Int) (p.length : Int) = some (top m r)
  | [], p, m, k, hl, hk => by
    obtain ⟨k, rfl⟩ := rounds hk
    simp only [impl_longest.l0]
    rw [if_neg (by simp)]
    rfl
  | a :: r, p, m, k, hl, hk => by
    obtain ⟨k, rfl⟩ := rounds hk
    have hn := len_app_cons p a r
    simp only [List.length_cons] at hk
    simp only [impl_longest.l0]
    rw [if_pos (by omega), if_pos (by omega), if_pos (by omega), rd_app, w64_succ (n := (p ++ a :: r).length) (by omega) (by omega) (by omega), ← len_snoc p a, app_cons]
    rw [chain_impl_l0 r (p ++ [a]) _ k (by rw [← app_cons]; omega) (by omega)]
    rfl
theorem top_bd (lo hi : Int) : ∀ (R : List Int) (m : Int), (lo ≤ m ∧ m ≤ hi) → (∀ r ∈ R, lo ≤ r ∧ r ≤ hi) → lo ≤ top m R ∧ top m R ≤ hi
  | [], m, h, _ => h
  | r :: R, m, h, hR => top_bd lo hi R _ (mx_bd h (hR r (by simp))) (fun x hx => hR x (by simp [hx]))
theorem chain_spec (T : List S49) (hT : T.length ≤ 12) (hg : okT 0 T = true) (k : Nat) (hk : 1500 < k) : spec_l10Chain.f k T = some (top 0 (rks 0 T)) := by
  unfold spec_l10Chain.f
  rw [ranks_spec T hT hg k hk]
  simp only [Option.bind_some]
  have := rks_len T 0
  exact chain_spec_l0 (rks 0 T) [] 0 k (by rw [List.nil_append]; omega) (by omega)
theorem chain_impl (T : List S49) (hT : T.length ≤ 12) (hg : okT 0 T = true) (k : Nat) (hk : 1500 < k) : impl_longest.f k T = some (top 0 (rks 0 T)) := by
  unfold impl_longest.f
  rw [ranks_impl T hT hg k hk]
  simp only [Option.bind_some]
  have := rks_len T 0
  exact chain_impl_l0 (rks 0 T) [] 0 k (by rw [List.nil_append]; omega) (by omega)

/-- How long tasks are together. -/
def workT : List S49 → Int
  | [] => 0
  | t :: r => t.f0 + workT r
theorem okT_work : ∀ (l : List S49) (i : Int), okT i l = true → 0 ≤ workT l ∧ workT l ≤ 20 * l.length
  | [], _, _ => by simp [workT]
  | t :: r, i, h => by
    simp only [okT, Bool.and_eq_true, decide_eq_true_eq] at h
    have := okT_work r (i + 1) h.2.2
    simp only [workT, List.length_cons]
    omega
theorem spec_work_l0 : ∀ (r p : List S49) (k : Nat) (s : Int), (p ++ r).length ≤ 12 → r.length < k → okT (p.length : Int) r = true → 0 ≤ s → s ≤ 20 * p.length →
    spec_WorkOf.l0 k s (p ++ r) ((p ++ r).length : Int) (p.length : Int) = some (s + workT r, true)
  | [], p, k, s, hl, hk, ho, h0, h1 => by
    obtain ⟨k, rfl⟩ := rounds hk
    simp only [spec_WorkOf.l0]
    rw [if_neg (by simp)]
    simp [workT]
  | a :: r, p, k, s, hl, hk, ho, h0, h1 => by
    obtain ⟨k, rfl⟩ := rounds hk
    have hn := len_app_cons p a r
    simp only [okT, Bool.and_eq_true, decide_eq_true_eq] at ho
    simp only [spec_WorkOf.l0]
    rw [if_pos (by omega), if_pos (by omega), if_pos (by omega), rdT49, w64 (x := s + a.f0) (by omega) (by omega), w64_succ (n := (p ++ a :: r).length) (by omega) (by omega) (by omega), ← len_snoc p a, app_cons]
    rw [spec_work_l0 r (p ++ [a]) k (s + a.f0) (by rw [← app_cons]; omega) (by simpa using hk) (by rw [len_snoc]; exact ho.2.2) (by omega) (by rw [len_snoc]; omega)]
    simp only [workT, Int.add_assoc]
theorem impl_work_l0 : ∀ (r p : List S49) (k : Nat) (s : Int), (p ++ r).length ≤ 12 → r.length < k → okT (p.length : Int) r = true → 0 ≤ s → s ≤ 20 * p.length →
    impl_workOf.l0 k s (p ++ r) ((p ++ r).length : Int) (p.length : Int) = some (s + workT r)
  | [], p, k, s, hl, hk, ho, h0, h1 => by
    obtain ⟨k, rfl⟩ := rounds hk
    simp only [impl_workOf.l0]
    rw [if_neg (by simp)]
    simp [workT]
  | a :: r, p, k, s, hl, hk, ho, h0, h1 => by
    obtain ⟨k, rfl⟩ := rounds hk
    have hn := len_app_cons p a r
    simp only [okT, Bool.and_eq_true, decide_eq_true_eq] at ho
    simp only [impl_workOf.l0]
    rw [if_pos (by omega), if_pos (by omega), if_pos (by omega), rdT49, w64 (x := s + a.f0) (by omega) (by omega), w64_succ (n := (p ++ a :: r).length) (by omega) (by omega) (by omega), ← len_snoc p a, app_cons]
    rw [impl_work_l0 r (p ++ [a]) k (s + a.f0) (by rw [← app_cons]; omega) (by simpa using hk) (by rw [len_snoc]; exact ho.2.2) (by omega) (by rw [len_snoc]; omega)]
    simp only [workT, Int.add_assoc]
theorem work_spec (l : List S49) (hl : l.length + tot2 l ≤ 1048576) (k : Nat) (hk : 2097160 < k) : spec_WorkOf.f k l = some (if goodT l = true then (workT l, true) else (0, false)) := by
  unfold spec_WorkOf.f
  rw [good_spec l hl k hk]
  simp only [Option.bind_some]
  by_cases e : goodT l = true
  · rw [if_pos e, if_pos e]
    simp only [goodT, Bool.and_eq_true, decide_eq_true_eq] at e
    have h := spec_work_l0 l [] k 0 e.2 (by omega) e.1 (by omega) (by simp)
    rw [Int.zero_add] at h
    exact h
  · rw [if_neg e, if_neg e]
theorem work_impl0 (l : List S49) (hl : l.length + tot2 l ≤ 1048576) (e : goodT l = true) (k : Nat) (hk : 2097160 < k) : impl_workOf.f k l = some (workT l) := by
  unfold impl_workOf.f
  simp only [goodT, Bool.and_eq_true, decide_eq_true_eq] at e
  have h := impl_work_l0 l [] k 0 e.2 (by omega) e.1 (by omega) (by simp)
  rw [Int.zero_add] at h
  exact h

theorem least_both (l : List S49) (u : Int) (hl : l.length + tot2 l ≤ 1048576) (k : Nat) (hk : 2097170 < k) : ∃ R : Int × Bool, spec_LeastTime.f k l u = some R ∧ impl_LeastTime.f k l u = some R := by
  obtain ⟨k', hk'⟩ : ∃ k', k = k' + 1 := ⟨k - 1, by omega⟩
  unfold spec_LeastTime.f impl_LeastTime.f
  rw [work_spec l hl k (by omega), good_impl l hl k (by omega)]
  simp only [Option.bind_some]
  unfold spec_l10Units.f spec_l1In.f impl_in.f
  by_cases e : goodT l = true
  · rw [if_pos e, if_pos e]
    simp only [if_true]
    have e' := e
    simp only [goodT, Bool.and_eq_true, decide_eq_true_eq] at e'
    rw [hk']
    have hbad : ∃ R : Int × Bool, spec_LeastTime.j0 (k' + 1) l u (workT l) true = some R ∧ impl_LeastTime.j0 (k' + 1) l u true = some R := by
      simp only [spec_LeastTime.j0, impl_LeastTime.j0]
      rw [if_pos trivial, if_pos trivial]
      exact ⟨_, rfl, rfl⟩
    by_cases e1 : u ≥ 1
    · rw [if_pos e1]
      simp only [Option.bind_some]
      by_cases e2 : u ≤ 4
      · rw [show (!decide (u ≤ 4)) = false from by simp [e2]]
        have hw := okT_work l 0 e'.1
        have hd : 0 ≤ Int.tdiv (workT l + u - 1) u ∧ Int.tdiv (workT l + u - 1) u ≤ 1000 := by
          rw [Int.tdiv_eq_ediv_of_nonneg (by omega)]
          constructor
          · exact Int.ediv_nonneg (by omega) (by omega)
          · exact Int.le_trans (Int.ediv_le_self _ (by omega)) (by omega)
        have hs : spec_LeastTime.j0 (k' + 1) l u (workT l) false = some (mx (Int.tdiv (workT l + u - 1) u) (top 0 (rks 0 l)), true) := by
          simp only [spec_LeastTime.j0]
          rw [if_neg (by simp), if_neg (by omega), chain_spec l e'.2 e'.1 k' (by omega)]
          simp only [Option.bind_some]
          rw [w64 (x := workT l + u) (by omega) (by omega), w64 (x := workT l + u - 1) (by omega) (by omega), w64 (by omega) (by omega)]
          unfold mx
          by_cases e3 : top 0 (rks 0 l) > Int.tdiv (workT l + u - 1) u
          · rw [if_pos e3, if_pos (by omega)]
          · rw [if_neg e3, if_neg (by omega)]
        have hi : impl_LeastTime.j0 (k' + 1) l u false = some (mx (top 0 (rks 0 l)) (Int.tdiv (workT l + u - 1) u), true) := by
          simp only [impl_LeastTime.j0]
          rw [if_neg (by simp), chain_impl l e'.2 e'.1 k' (by omega)]
          simp only [Option.bind_some]
          rw [work_impl0 l hl e k' (by omega)]
          simp only [Option.bind_some]
          rw [if_neg (by omega), w64 (x := workT l + u) (by omega) (by omega), w64 (x := workT l + u - 1) (by omega) (by omega), w64 (by omega) (by omega)]
        rw [hs, hi, mx_comm]
        exact ⟨_, rfl, rfl⟩
      · rw [show (!decide (u ≤ 4)) = true from by simp; omega]
        exact hbad
    · rw [if_neg e1]
      simp only [Option.bind_some]
      exact hbad
  · rw [if_neg e, if_neg e]
    simp only [Bool.false_eq_true, if_false]
    rw [hk']
    simp only [spec_LeastTime.j0, impl_LeastTime.j0]
    rw [if_pos trivial, if_pos trivial]
    exact ⟨_, rfl, rfl⟩
theorem FnExactLeastTime : laws_FnExactLeastTime.Pure := by
  intro l u ⟨hl0, hl1, hx⟩ _
  obtain ⟨K, hK⟩ : ∃ K, K = l.length + 3000000 := ⟨_, rfl⟩
  refine ⟨K, ?_⟩
  unfold laws_FnExactLeastTime.f
  obtain ⟨z, h1, h2⟩ := sz_tasks l (by omega) (fun x hx' => by have := (hx x hx').2.2.1; omega) K (by omega)
  rw [h1]
  simp only [Option.bind_some]
  by_cases e : z < 0
  · rw [if_pos e]
  · rw [if_neg e]
    have hs := h2 (by omega)
    have hs2 : (l.map cT).length + tot2 (l.map cT) ≤ 1048576 := by rw [tot2_map, List.length_map]; exact hs
    rw [to_tasks l hs _ (by omega)]
    simp only [Option.bind_some]
    obtain ⟨R, g1, g2⟩ := least_both _ u hs2 K (by omega)
    rw [g1, g2]
    simp only [Option.bind_some]
    rw [if_pos trivial]
    obtain ⟨K, rfl⟩ : ∃ K', K = K' + 1 := ⟨K - 1, by omega⟩
    simp only [laws_FnExactLeastTime.j0]
    rw [if_neg (by simp), to_tasks l hs _ (by omega)]
    simp only [Option.bind_some]
    rw [eq_tasks _ hs2 _ (by omega)]
    rfl

end Go.Proofs.Ytcadaadoodpnmaa.Pure
