/- The program's WorkOf answers as the reference's for all lists of tasks. Conditions: none beyond those of the given statement. -/
import Derived.Test.YtcadaadoodpnmaaKit
import Derived.Test.YtcadaadoodpnmaaQFnExactWorkOfx3
import Derived.Test.YtcadaadoodpnmaaQFnExactWorkOfx1
import Derived.Test.YtcadaadoodpnmaaQFnExactWorkOfx2
namespace Go.Proofs.Ytcadaadoodpnmaa.Pure
open Go.RowKit Go.Proofs.Ytcadaadoodpnmaa.QFnExactWorkOf Go.Proofs.YtcadaadoodpnmaaW.PrintWords Go.Proofs.YtcadaadoodpnmaaW.PrintLast Go.Proofs.Ytcadaadoodpnmaa.Kit

theorem copy_l0 (l : List Int) (hl : l.length ≤ 140737488355328) : ∀ (d i k : Nat) (y : List Int), i + d = l.length → d < k → y.length = l.length → y.take i = l.take i →
    laws_toIntS.l0 k l y (i : Int) = some l
  | 0, i, k, y, hd, hk, hy, ht => by
    obtain ⟨k, rfl⟩ := rounds hk
    simp only [laws_toIntS.l0]
    rw [if_neg (by omega)]
    rw [List.take_of_length_le (by omega), List.take_of_length_le (by omega)] at ht
    rw [ht]
  | d + 1, i, k, y, hd, hk, hy, ht => by
    obtain ⟨k, rfl⟩ := rounds hk
    have hi : i < l.length := by omega
    simp only [laws_toIntS.l0]
    rw [if_pos (by omega), if_pos (by omega), if_pos (by omega), w64_succ (n := l.length) (by omega) (by omega) (by omega), rd_nat l i hi]
    refine copy_l0 l hl d (i + 1) k _ (by omega) (by omega) (by simpa using hy) ?_
    rw [show ((i : Int)).toNat = i from by omega, take_set_succ _ _ _ (by omega), take_succ _ _ hi, ht]
theorem copy_ints (l : List Int) (hl : l.length ≤ 35184372088832) (k : Nat) (hk : l.length < k) : laws_toIntS.f k l = some l := by
  unfold laws_toIntS.f
  rw [if_pos (by omega), if_pos (by omega)]
  exact copy_l0 l (by omega) l.length 0 k _ (by omega) (by omega) (by simp) (by simp)

theorem same_l0 : ∀ (r p : List Int) (k : Nat), (p ++ r).length ≤ 140737488355328 → r.length < k → laws_eqIntS.l0 k (p ++ r) (p ++ r) (p.length : Int) = some true
  | [], p, k, hl, hk => by
    obtain ⟨k, rfl⟩ := rounds hk
    simp only [laws_eqIntS.l0]
    rw [if_neg (by simp)]
  | a :: r, p, k, hl, hk => by
    obtain ⟨k, rfl⟩ := rounds hk
    have hn := len_app_cons p a r
    simp only [laws_eqIntS.l0]
    rw [if_pos (by omega), if_pos (by omega), if_pos (by omega), if_pos trivial, w64_succ (n := (p ++ a :: r).length) (by omega) (by omega) (by omega), ← len_snoc p a, app_cons]
    exact same_l0 r (p ++ [a]) k (by rw [← app_cons]; omega) (by simpa using hk)
theorem same_ints (l : List Int) (hl : l.length ≤ 140737488355328) (k : Nat) (hk : l.length < k) : laws_eqIntS.f k l l = some true := by
  unfold laws_eqIntS.f
  rw [if_pos rfl]
  exact same_l0 l [] k hl hk

/-- A task of the law's own type, as the program's. -/
def cT (x : S55) : S49 := ⟨x.f0, x.f1⟩
theorem rdT55 (p : List S55) (a : S55) (r : List S55) : rd_T55 (p ++ a :: r) (p.length : Int) = a := by
  unfold rd_T55
  simp
theorem rdT49 (p : List S49) (a : S49) (r : List S49) : rd_T49 (p ++ a :: r) (p.length : Int) = a := by
  unfold rd_T49
  simp
/-- All lengths together. -/
def tot : List S55 → Nat
  | [] => 0
  | x :: r => x.f1.length + tot r
theorem tot_mem : ∀ (l : List S55) (x : S55), x ∈ l → x.f1.length ≤ tot l
  | [], _, h => by cases h
  | y :: r, x, h => by
    simp only [tot]
    rcases List.mem_cons.1 h with rfl | h
    · omega
    · have := tot_mem r x h
      omega
theorem sz_l0 : ∀ (r p : List S55) (k : Nat) (s : Int), (p ++ r).length ≤ 140737488355328 → r.length < k → (∀ x ∈ r, x.f1.length ≤ 140737488355328) → 0 ≤ s → s ≤ 1048576 →
    ∃ z, laws_szTaskS.l0 k (p ++ r) s (p.length : Int) = some z ∧ (0 ≤ z → (tot r : Int) ≤ s)
  | [], p, k, s, hl, hk, hx, h0, h1 => by
    obtain ⟨k, rfl⟩ := rounds hk
    refine ⟨s, ?_, ?_⟩
    · simp only [laws_szTaskS.l0]
      rw [if_neg (by simp)]
    · intro _; simp only [tot]; omega
  | a :: r, p, k, s, hl, hk, hx, h0, h1 => by
    obtain ⟨k, rfl⟩ := rounds hk
    have hn := len_app_cons p a r
    have ha := hx a (by simp)
    simp only [List.length_cons] at hk
    simp only [laws_szTaskS.l0, laws_szTask.f, laws_szIntS.f]
    rw [if_pos (by omega), if_pos (by omega), rdT55, w64 (x := s - (a.f1.length : Int)) (by omega) (by omega), w64_succ (n := (p ++ a :: r).length) (by omega) (by omega) (by omega)]
    by_cases e : s - (a.f1.length : Int) < 0
    · rw [if_pos e]
      simp only [Option.bind_some]
      refine ⟨-1, by rfl, by omega⟩
    · rw [if_neg e]
      simp only [Option.bind_some]
      rw [if_neg e]
      simp only [Option.bind_some]
      rw [if_neg e, ← len_snoc p a, app_cons]
      obtain ⟨z, h2, h3⟩ := sz_l0 r (p ++ [a]) k (s - (a.f1.length : Int)) (by rw [← app_cons]; omega) (by omega) (fun x hx' => hx x (by simp [hx'])) (by omega) (by omega)
      refine ⟨z, h2, fun hz => ?_⟩
      have := h3 hz
      simp only [tot]
      omega
theorem sz_tasks (l : List S55) (hl : l.length ≤ 140737488355328) (hx : ∀ x ∈ l, x.f1.length ≤ 140737488355328) (k : Nat) (hk : l.length < k) :
    ∃ z, laws_szTaskS.f k l 1048576 = some z ∧ (0 ≤ z → l.length + tot l ≤ 1048576) := by
  unfold laws_szTaskS.f
  rw [w64 (by omega) (by omega)]
  by_cases e : (1048576 : Int) - (l.length : Int) < 0
  · rw [if_pos e]
    exact ⟨-1, rfl, by omega⟩
  · rw [if_neg e]
    obtain ⟨z, h1, h2⟩ := sz_l0 l [] k (1048576 - (l.length : Int)) hl hk hx (by omega) (by omega)
    refine ⟨z, h1, fun hz => ?_⟩
    have := h2 hz
    omega
theorem to_l0 : ∀ (r p : List S55) (y : List S49) (k : Nat), (p ++ r).length ≤ 140737488355328 → r.length + tot r + 1 < k → tot r ≤ 1048576 → y.length = (p ++ r).length → y.take p.length = p.map cT →
    laws_toTaskS.l0 k (p ++ r) y (p.length : Int) = some ((p ++ r).map cT)
  | [], p, y, k, hl, hk, hx, hy, ht => by
    obtain ⟨k, rfl⟩ := rounds hk
    simp only [laws_toTaskS.l0]
    rw [if_neg (by simp)]
    rw [List.take_of_length_le (by simp at hy; omega)] at ht
    simp [ht]
  | a :: r, p, y, k, hl, hk, hx, hy, ht => by
    obtain ⟨k, rfl⟩ := rounds hk
    have hn := len_app_cons p a r
    simp only [List.length_cons, tot] at hk hx
    simp only [laws_toTaskS.l0, laws_toTask.f]
    rw [if_pos (by omega), if_pos (by omega), rdT55, copy_ints a.f1 (by omega) k (by omega)]
    simp only [Option.bind_some]
    rw [if_pos (by omega), w64_succ (n := (p ++ a :: r).length) (by omega) (by omega) (by omega), ← len_snoc p a, app_cons, show ((p.length : Int)).toNat = p.length from by omega]
    refine to_l0 r (p ++ [a]) _ k (by rw [← app_cons]; omega) (by omega) (by omega) (by rw [← app_cons, List.length_set]; exact hy) ?_
    rw [List.length_append, List.length_singleton, take_set_succ _ _ _ (by omega), ht]
    simp [cT]
theorem to_tasks (l : List S55) (hl : l.length + tot l ≤ 1048576) (k : Nat) (hk : 1048580 < k) : laws_toTaskS.f k l = some (l.map cT) := by
  unfold laws_toTaskS.f
  rw [if_pos (by omega), if_pos (by omega)]
  exact to_l0 l [] _ k (by simp; omega) (by omega) (by omega) (by simp) (by simp)
/-- All lengths together, of the program's tasks. -/
def tot2 : List S49 → Nat
  | [] => 0
  | x :: r => x.f1.length + tot2 r
theorem tot2_map : ∀ l : List S55, tot2 (l.map cT) = tot l
  | [] => rfl
  | x :: r => by simp only [List.map_cons, tot2, tot, tot2_map r, cT]
theorem eq_l0 : ∀ (r p : List S49) (k : Nat), (p ++ r).length ≤ 140737488355328 → r.length + tot2 r + 1 < k → tot2 r ≤ 1048576 → laws_eqTaskS.l0 k (p ++ r) (p ++ r) (p.length : Int) = some true
  | [], p, k, hl, hk, hx => by
    obtain ⟨k, rfl⟩ := rounds hk
    simp only [laws_eqTaskS.l0]
    rw [if_neg (by simp)]
  | a :: r, p, k, hl, hk, hx => by
    obtain ⟨k, rfl⟩ := rounds hk
    have hn := len_app_cons p a r
    simp only [List.length_cons, tot2] at hk hx
    simp only [laws_eqTaskS.l0, laws_eqTask.f]
    rw [if_pos (by omega), if_pos (by omega), if_pos (by omega), rdT49, if_pos trivial, same_ints a.f1 (by omega) k (by omega)]
    simp only [Option.bind_some, if_true]
    rw [w64_succ (n := (p ++ a :: r).length) (by omega) (by omega) (by omega), ← len_snoc p a, app_cons]
    exact eq_l0 r (p ++ [a]) k (by rw [← app_cons]; omega) (by omega) (by omega)
theorem eq_tasks (l : List S49) (hl : l.length + tot2 l ≤ 1048576) (k : Nat) (hk : 1048580 < k) : laws_eqTaskS.f k l l = some true := by
  unfold laws_eqTaskS.f
  rw [if_pos rfl]
  exact eq_l0 l [] k (by simp; omega) (by omega) (by omega)

/-- Numbers that rise, from above lo, below i. -/
def asc (lo i : Int) : List Int → Bool
  | [] => true
  | a :: r => decide (lo < a) && (decide (a < i) && asc a i r)
/-- Tasks that are good, the first one having the number i. -/
def okT (i : Int) : List S49 → Bool
  | [] => true
  | t :: r => (decide (1 ≤ t.f0) && decide (t.f0 ≤ 20)) && (asc (-1) i t.f1 && okT (i + 1) r)
def goodT (l : List S49) : Bool := okT 0 l && decide (l.length ≤ 12)
/-- The last one ahead, -1 where there is none. -/
def lastOf (p : List Int) : Int := p.getLastD (-1)
theorem lastOf_snoc (p : List Int) (a : Int) : lastOf (p ++ [a]) = a := by
  unfold lastOf
  simp [List.getLastD_eq_getLast?]
theorem rd_last (p : List Int) (r : List Int) (h : 0 < p.length) : rd (p ++ r) ((p.length : Int) - 1) = lastOf p := by
  obtain ⟨q, a, rfl⟩ : ∃ q a, p = q ++ [a] := ⟨p.dropLast, p.getLast (by intro e; simp [e] at h), (List.dropLast_concat_getLast _).symm⟩
  rw [lastOf_snoc, len_snoc, show ((q.length : Int) + 1 - 1) = (q.length : Int) from by omega, ← app_cons, rd_app]
theorem spec_good_l1 (T T7 : List S49) (i x8 : Int) (hi : 0 ≤ i) (hi2 : i < 140737488355328) (f0 : Int) : ∀ (r p : List Int) (K m : Nat), K = m + r.length + 1 → (p ++ r).length ≤ 140737488355328 → (-1 ≤ lastOf p) →
    spec_GoodTasks.l1 K T i T7 x8 i (p ++ r) ((p ++ r).length : Int) (p.length : Int) f0 (p ++ r) = cond (asc (lastOf p) i r) (spec_GoodTasks.l0 m T T7 x8 (wrap64 (i + 1))) (some false)
  | [], p, K, m, hK, hl, hp => by
    subst hK
    simp only [spec_GoodTasks.l1]
    rw [if_neg (by simp)]
    simp [asc]
  | a :: r, p, K, m, hK, hl, hp => by
    have hn := len_app_cons p a r
    obtain ⟨K, rfl⟩ : ∃ K', K = K' + 1 := ⟨m + r.length + 1, by rw [hK]; simp; omega⟩
    simp only [List.length_cons] at hK
    simp only [spec_GoodTasks.l1]
    rw [if_pos (by omega), if_pos (by omega), if_pos (by omega), rd_app]
    rw [show asc (lastOf p) i (a :: r) = (decide (lastOf p < a) && (decide (a < i) && asc a i r)) from rfl]
    by_cases e1 : a < 0
    · rw [if_pos e1]
      rw [show decide (lastOf p < a) = false from by simp; omega]
      rfl
    · rw [if_neg e1]
      by_cases e2 : a ≥ i
      · rw [if_pos e2]
        rw [show decide (a < i) = false from by simp; omega, Bool.false_and, Bool.and_false]
        rfl
      · rw [if_neg e2]
        rw [w64_succ (n := (p ++ a :: r).length) (by omega) (by omega) (by omega)]
        have hgo := spec_good_l1 T T7 i x8 hi hi2 f0 r (p ++ [a]) K m (by omega) (by rw [← app_cons]; omega) (by rw [lastOf_snoc]; omega)
        rw [← app_cons, len_snoc, lastOf_snoc] at hgo
        by_cases e3 : p.length = 0
        · have hp0 : p = [] := List.length_eq_zero_iff.1 e3
          subst hp0
          rw [if_neg (by simp)]
          have hlo : lastOf [] = -1 := rfl
          rw [hgo, hlo, show (decide ((-1 : Int) < a)) = true from by simp; omega, show (decide (a < i)) = true from by simp; omega]
          rfl
        · rw [if_pos (by omega), w64 (x := (p.length : Int) - 1) (by omega) (by omega), if_pos (by omega), if_pos (by omega), rd_last p _ (by omega)]
          by_cases e4 : lastOf p ≥ a
          · rw [if_pos e4, show (decide (lastOf p < a)) = false from by simp; omega]
            rfl
          · rw [if_neg e4, hgo, show (decide (lastOf p < a)) = true from by simp; omega, show (decide (a < i)) = true from by simp; omega]
            rfl
theorem impl_good_l1 (T T7 : List S49) (i x8 : Int) (hi : 0 ≤ i) (hi2 : i < 140737488355328) (f0 : Int) : ∀ (r p : List Int) (K m : Nat), K = m + r.length + 1 → (p ++ r).length ≤ 140737488355328 → (-1 ≤ lastOf p) →
    impl_areTasks.l1 K T i T7 x8 i (p ++ r) ((p ++ r).length : Int) (p.length : Int) f0 (p ++ r) = cond (asc (lastOf p) i r) (impl_areTasks.l0 m T T7 x8 (wrap64 (i + 1))) (some false)
  | [], p, K, m, hK, hl, hp => by
    subst hK
    simp only [impl_areTasks.l1]
    rw [if_neg (by simp)]
    simp [asc]
  | a :: r, p, K, m, hK, hl, hp => by
    have hn := len_app_cons p a r
    obtain ⟨K, rfl⟩ : ∃ K', K = K' + 1 := ⟨m + r.length + 1, by rw [hK]; simp; omega⟩
    simp only [List.length_cons] at hK
    simp only [impl_areTasks.l1, impl_in.f]
    rw [if_pos (by omega), if_pos (by omega), if_pos (by omega), rd_app, w64 (x := i - 1) (by omega) (by omega)]
    rw [show asc (lastOf p) i (a :: r) = (decide (lastOf p < a) && (decide (a < i) && asc a i r)) from rfl]
    by_cases e1 : a < 0
    · rw [if_neg (by omega)]
      simp only [Option.bind_some]
      rw [if_neg (by simp)]
      rw [show decide (lastOf p < a) = false from by simp; omega]
      rfl
    · rw [if_pos (by omega)]
      simp only [Option.bind_some]
      by_cases e2 : a ≥ i
      · rw [if_neg (by simp; omega)]
        rw [show decide (a < i) = false from by simp; omega, Bool.false_and, Bool.and_false]
        rfl
      · rw [if_pos (by simp; omega)]
        rw [w64_succ (n := (p ++ a :: r).length) (by omega) (by omega) (by omega)]
        have hgo := impl_good_l1 T T7 i x8 hi hi2 f0 r (p ++ [a]) K m (by omega) (by rw [← app_cons]; omega) (by rw [lastOf_snoc]; omega)
        rw [← app_cons, len_snoc, lastOf_snoc] at hgo
        by_cases e3 : p.length = 0
        · have hp0 : p = [] := List.length_eq_zero_iff.1 e3
          subst hp0
          rw [if_neg (by simp)]
          have hlo : lastOf [] = -1 := rfl
          rw [hgo, hlo, show (decide ((-1 : Int) < a)) = true from by simp; omega, show (decide (a < i)) = true from by simp; omega]
          rfl
        · rw [if_pos (by omega), w64 (x := (p.length : Int) - 1) (by omega) (by omega), if_pos (by omega), if_pos (by omega), rd_last p _ (by omega)]
          by_cases e4 : lastOf p ≥ a
          · rw [if_pos e4, show (decide (lastOf p < a)) = false from by simp; omega]
            rfl
          · rw [if_neg e4, hgo, show (decide (lastOf p < a)) = true from by simp; omega, show (decide (a < i)) = true from by simp; omega]
            rfl
theorem spec_good_l0 : ∀ (r p : List S49) (k : Nat), (p ++ r).length ≤ 140737488355327 → tot2 r ≤ 140737488355328 → tot2 r + 2 * r.length < k →
    spec_GoodTasks.l0 k (p ++ r) (p ++ r) ((p ++ r).length : Int) (p.length : Int) = some (okT (p.length : Int) r && decide ((p ++ r).length ≤ 12))
  | [], p, k, hl, hx, hk => by
    obtain ⟨k, rfl⟩ := rounds hk
    simp only [spec_GoodTasks.l0]
    rw [if_neg (by simp)]
    simp [okT]
    omega
  | a :: r, p, k, hl, hx, hk => by
    have hn := len_app_cons p a r
    simp only [List.length_cons, tot2] at hk hx
    obtain ⟨k, rfl⟩ : ∃ m, k = (m + a.f1.length + 1) + 1 := ⟨k - a.f1.length - 2, by omega⟩
    simp only [spec_GoodTasks.l0, spec_l1In.f]
    rw [if_pos (by omega), if_pos (by omega), if_pos (by omega), rdT49]
    simp only [okT]
    by_cases e1 : a.f0 ≥ 1
    · rw [if_pos e1]
      simp only [Option.bind_some]
      by_cases e2 : a.f0 ≤ 20
      · rw [if_pos (by simpa using e2)]
        have hgo := spec_good_l1 (p ++ a :: r) (p ++ a :: r) (p.length : Int) ((p ++ a :: r).length : Int) (by omega) (by omega) a.f0 a.f1 [] (k + a.f1.length + 1) k rfl (by simp; omega) (by decide)
        have hgo' : spec_GoodTasks.l1 (k + a.f1.length + 1) (p ++ a :: r) (p.length : Int) (p ++ a :: r) ((p ++ a :: r).length : Int) (p.length : Int) a.f1 (a.f1.length : Int) 0 a.f0 a.f1 = _ := hgo
        rw [hgo', w64_succ (n := (p ++ a :: r).length) (by omega) (by omega) (by omega), ← len_snoc p a]
        have ih := spec_good_l0 r (p ++ [a]) k (by rw [← app_cons]; omega) (by omega) (by omega)
        rw [← app_cons] at ih
        rw [ih, len_snoc]
        have hd : (decide (1 ≤ a.f0) && decide (a.f0 ≤ 20)) = true := by simp; omega
        rw [hd]
        have hlo : lastOf [] = -1 := rfl
        rw [hlo]
        cases asc (-1) (p.length : Int) a.f1 <;> simp
      · rw [if_neg (by simpa using e2)]
        simp [e2]
    · rw [if_neg e1]
      simp only [Option.bind_some]
      rw [if_neg (by simp)]
      have : ¬ 1 ≤ a.f0 := by omega
      simp [this]
theorem impl_good_l0 : ∀ (r p : List S49) (k : Nat), (p ++ r).length ≤ 140737488355327 → tot2 r ≤ 140737488355328 → tot2 r + 2 * r.length < k →
    impl_areTasks.l0 k (p ++ r) (p ++ r) ((p ++ r).length : Int) (p.length : Int) = some (okT (p.length : Int) r && decide ((p ++ r).length ≤ 12))
  | [], p, k, hl, hx, hk => by
    obtain ⟨k, rfl⟩ := rounds hk
    simp only [impl_areTasks.l0]
    rw [if_neg (by simp)]
    simp [okT]
    omega
  | a :: r, p, k, hl, hx, hk => by
    have hn := len_app_cons p a r
    simp only [List.length_cons, tot2] at hk hx
    obtain ⟨k, rfl⟩ : ∃ m, k = (m + a.f1.length + 1) + 1 := ⟨k - a.f1.length - 2, by omega⟩
    simp only [impl_areTasks.l0, impl_in.f]
    rw [if_pos (by omega), if_pos (by omega), if_pos (by omega), rdT49]
    simp only [okT]
    by_cases e1 : a.f0 ≥ 1
    · rw [if_pos e1]
      simp only [Option.bind_some]
      by_cases e2 : a.f0 ≤ 20
      · rw [if_pos (by simpa using e2)]
        have hgo := impl_good_l1 (p ++ a :: r) (p ++ a :: r) (p.length : Int) ((p ++ a :: r).length : Int) (by omega) (by omega) a.f0 a.f1 [] (k + a.f1.length + 1) k rfl (by simp; omega) (by decide)
        have hgo' : impl_areTasks.l1 (k + a.f1.length + 1) (p ++ a :: r) (p.length : Int) (p ++ a :: r) ((p ++ a :: r).length : Int) (p.length : Int) a.f1 (a.f1.length : Int) 0 a.f0 a.f1 = _ := hgo
        rw [hgo', w64_succ (n := (p ++ a :: r).length) (by omega) (by omega) (by omega), ← len_snoc p a]
        have ih := impl_good_l0 r (p ++ [a]) k (by rw [← app_cons]; omega) (by omega) (by omega)
        rw [← app_cons] at ih
        rw [ih, len_snoc]
        have hd : (decide (1 ≤ a.f0) && decide (a.f0 ≤ 20)) = true := by simp; omega
        rw [hd]
        have hlo : lastOf [] = -1 := rfl
        rw [hlo]
        cases asc (-1) (p.length : Int) a.f1 <;> simp
      · rw [if_neg (by simpa using e2)]
        simp [e2]
    · rw [if_neg e1]
      simp only [Option.bind_some]
      rw [if_neg (by simp)]
      have : ¬ 1 ≤ a.f0 := by omega
      simp [this]
theorem good_spec (l : List S49) (hl : l.length + tot2 l ≤ 1048576) (k : Nat) (hk : 2097160 < k) : spec_GoodTasks.f k l = some (goodT l) := by
  unfold spec_GoodTasks.f goodT
  exact spec_good_l0 l [] k (by simp; omega) (by omega) (by omega)
theorem good_impl (l : List S49) (hl : l.length + tot2 l ≤ 1048576) (k : Nat) (hk : 2097160 < k) : impl_areTasks.f k l = some (goodT l) := by
  unfold impl_areTasks.f goodT
  exact impl_good_l0 l [] k (by simp; omega) (by omega) (by omega)

/-- How long tasks are together. -/
def workT : List S49 → Int
  | [] => 0
  | t :: r => t.f0 + workT r
theorem okT_work : ∀ (l : List S49) (i : Int), okT i l = true → 0 ≤ workT l ∧ workT l ≤ 20 * l.length
  | [], _, _ => by simp [workT]
  | t :: r, i, h => by
    simp only [okT, Bool.and_eq_true, decide_eq_true_eq] at h
    have := okT_work r (i + 1) h.2.2
    simp only [workT, List.length_cons]
    omega
theorem spec_work_l0 : ∀ (r p : List S49) (k : Nat) (s : Int), (p ++ r).length ≤ 12 → r.length < k → okT (p.length : Int) r = true → 0 ≤ s → s ≤ 20 * p.length →
    spec_WorkOf.l0 k s (p ++ r) ((p ++ r).length : Int) (p.length : Int) = some (s + workT r, true)
  | [], p, k, s, hl, hk, ho, h0, h1 => by
    obtain ⟨k, rfl⟩ := rounds hk
    simp only [spec_WorkOf.l0]
    rw [if_neg (by simp)]
    simp [workT]
  | a :: r, p, k, s, hl, hk, ho, h0, h1 => by
    obtain ⟨k, rfl⟩ := rounds hk
    have hn := len_app_cons p a r
    simp only [okT, Bool.and_eq_true, decide_eq_true_eq] at ho
    simp only [spec_WorkOf.l0]
    rw [if_pos (by omega), if_pos (by omega), if_pos (by omega), rdT49, w64 (x := s + a.f0) (by omega) (by omega), w64_succ (n := (p ++ a :: r).length) (by omega) (by omega) (by omega), ← len_snoc p a, app_cons]
    rw [spec_work_l0 r (p ++ [a]) k (s + a.f0) (by rw [← app_cons]; omega) (by simpa using hk) (by rw [len_snoc]; exact ho.2.2) (by omega) (by rw [len_snoc]; omega)]
    simp only [workT, Int.add_assoc]
theorem impl_work_l0 : ∀ (r p : List S49) (k : Nat) (s : Int), (p ++ r).length ≤ 12 → r.length < k → okT (p.length : Int) r = true → 0 ≤ s → s ≤ 20 * p.length →
    impl_workOf.l0 k s (p ++ r) ((p ++ r).length : Int) (p.length : Int) = some (s + workT r)
  | [], p, k, s, hl, hk, ho, h0, h1 => by
    obtain ⟨k, rfl⟩ := rounds hk
    simp only [impl_workOf.l0]
    rw [if_neg (by simp)]
    simp [workT]
  | a :: r, p, k, s, hl, hk, ho, h0, h1 => by
    obtain ⟨k, rfl⟩ := rounds hk
    have hn := len_app_cons p a r
    simp only [okT, Bool.and_eq_true, decide_eq_true_eq] at ho
    simp only [impl_workOf.l0]
    rw [if_pos (by omega), if_pos (by omega), if_pos (by omega), rdT49, w64 (x := s + a.f0) (by omega) (by omega), w64_succ (n := (p ++ a :: r).length) (by omega) (by omega) (by omega), ← len_snoc p a, app_cons]
    rw [impl_work_l0 r (p ++ [a]) k (s + a.f0) (by rw [← app_cons]; omega) (by simpa using hk) (by rw [len_snoc]; exact ho.2.2) (by omega) (by rw [len_snoc]; omega)]
    simp only [workT, Int.add_assoc]
theorem work_spec (l : List S49) (hl : l.length + tot2 l ≤ 1048576) (k : Nat) (hk : 2097160 < k) : spec_WorkOf.f k l = some (if goodT l = true then (workT l, true) else (0, false)) := by
  unfold spec_WorkOf.f
  rw [good_spec l hl k hk]
  simp only [Option.bind_some]
  by_cases e : goodT l = true
  · rw [if_pos e, if_pos e]
    simp only [goodT, Bool.and_eq_true, decide_eq_true_eq] at e
    have h := spec_work_l0 l [] k 0 e.2 (by omega) e.1 (by omega) (by simp)
    rw [Int.zero_add] at h
    exact h
  · rw [if_neg e, if_neg e]
theorem work_impl0 (l : List S49) (hl : l.length + tot2 l ≤ 1048576) (e : goodT l = true) (k : Nat) (hk : 2097160 < k) : impl_workOf.f k l = some (workT l) := by
  unfold impl_workOf.f
  simp only [goodT, Bool.and_eq_true, decide_eq_true_eq] at e
  have h := impl_work_l0 l [] k 0 e.2 (by omega) e.1 (by omega) (by simp)
  rw [Int.zero_add] at h
  exact h
theorem work_impl (l : List S49) (hl : l.length + tot2 l ≤ 1048576) (k : Nat) (hk : 2097160 < k) : impl_WorkOf.f k l = some (if goodT l = true then (workT l, true) else (0, false)) := by
  unfold impl_WorkOf.f
  rw [good_impl l hl k hk]
  simp only [Option.bind_some]
  by_cases e : goodT l = true
  · rw [if_pos e, if_pos e, work_impl0 l hl e k hk]
    rfl
  · rw [if_neg e, if_neg e]

theorem FnExactWorkOf : laws_FnExactWorkOf.Pure := by
  intro l ⟨hl0, hl1, hx⟩
  obtain ⟨K, hK⟩ : ∃ K, K = l.length + 3000000 := ⟨_, rfl⟩
  refine ⟨K, ?_⟩
  unfold laws_FnExactWorkOf.f
  obtain ⟨z, h1, h2⟩ := sz_tasks l (by omega) (fun x hx' => by have := (hx x hx').2.2.1; omega) K (by omega)
  rw [h1]
  simp only [Option.bind_some]
  by_cases e : z < 0
  · rw [if_pos e]
  · rw [if_neg e]
    have hs := h2 (by omega)
    have hs2 : (l.map cT).length + tot2 (l.map cT) ≤ 1048576 := by rw [tot2_map, List.length_map]; exact hs
    rw [to_tasks l hs _ (by omega)]
    simp only [Option.bind_some]
    rw [work_spec _ hs2 _ (by omega), work_impl _ hs2 _ (by omega)]
    simp only [Option.bind_some]
    rw [if_pos trivial]
    obtain ⟨K, rfl⟩ : ∃ K', K = K' + 1 := ⟨K - 1, by omega⟩
    simp only [laws_FnExactWorkOf.j0]
    rw [if_neg (by simp), to_tasks l hs _ (by omega)]
    simp only [Option.bind_some]
    rw [eq_tasks _ hs2 _ (by omega)]
    rfl

end Go.Proofs.Ytcadaadoodpnmaa.Pure
