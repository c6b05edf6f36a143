/- The program's CostAt answers as the reference's for all trees, places and patterns. Conditions: none beyond those of the given statement. -/
import Derived.Test.YtmmohcledhenfaaKit
import Derived.Test.YtmmohcledhenfaaQFnExactCostAtx8
import Derived.Test.YtmmohcledhenfaaQFnExactCostAtx4
import Derived.Test.YtmmohcledhenfaaQFnExactCostAtx2
import Derived.Test.YtmmohcledhenfaaQFnExactCostAtx1
import Derived.Test.YtmmohcledhenfaaQFnExactCostAtx5
import Derived.Test.YtmmohcledhenfaaQFnExactCostAtx7
import Derived.Test.YtmmohcledhenfaaQFnExactCostAtx3
import Derived.Test.YtmmohcledhenfaaQFnExactCostAtx6
namespace Go.Proofs.Ytmmohcledhenfaa.Pure
open Go.RowKit Go.Proofs.Ytmmohcledhenfaa.QFnExactCostAt Go.Proofs.YtmmohcledhenfaaW.PrintWords Go.Proofs.YtmmohcledhenfaaW.PrintLast Go.Proofs.Ytmmohcledhenfaa.Kit
set_option linter.unusedSimpArgs false
set_option linter.unusedVariables false

theorem copy_l0 (l : List Int) (hl : l.length ≤ 140737488355328) : ∀ (d i k : Nat) (y : List Int), i + d = l.length → d < k → y.length = l.length → y.take i = l.take i →
    laws_toIntS.l0 k l y (i : Int) = some l
  | 0, i, k, y, hd, hk, hy, ht => by
    obtain ⟨k, rfl⟩ := rounds hk
    simp only [laws_toIntS.l0]
    rw [if_neg (by omega)]
    rw [List.take_of_length_le (by omega), List.take_of_length_le (by omega)] at ht
    rw [ht]
  | d + 1, i, k, y, hd, hk, hy, ht => by
    obtain ⟨k, rfl⟩ := rounds hk
    have hi : i < l.length := by omega
    simp only [laws_toIntS.l0]
    rw [if_pos (by omega), if_pos (by omega), if_pos (by omega), w64_succ (n := l.length) (by omega) (by omega) (by omega), rd_nat l i hi]
    refine copy_l0 l hl d (i + 1) k _ (by omega) (by omega) (by simpa using hy) ?_
    rw [show ((i : Int)).toNat = i from by omega, take_set_succ _ _ _ (by omega), take_succ _ _ hi, ht]
theorem copy_ints (l : List Int) (hl : l.length ≤ 35184372088832) (k : Nat) (hk : l.length < k) : laws_toIntS.f k l = some l := by
  unfold laws_toIntS.f
  rw [if_pos (by omega), if_pos (by omega)]
  exact copy_l0 l (by omega) l.length 0 k _ (by omega) (by omega) (by simp) (by simp)

theorem same_l0 : ∀ (r p : List Int) (k : Nat), (p ++ r).length ≤ 140737488355328 → r.length < k → laws_eqIntS.l0 k (p ++ r) (p ++ r) (p.length : Int) = some true
  | [], p, k, hl, hk => by
    obtain ⟨k, rfl⟩ := rounds hk
    simp only [laws_eqIntS.l0]
    rw [if_neg (by simp)]
  | a :: r, p, k, hl, hk => by
    obtain ⟨k, rfl⟩ := rounds hk
    have hn := len_app_cons p a r
    simp only [laws_eqIntS.l0]
    rw [if_pos (by omega), if_pos (by omega), if_pos (by omega), if_pos trivial, w64_succ (n := (p ++ a :: r).length) (by omega) (by omega) (by omega), ← len_snoc p a, app_cons]
    exact same_l0 r (p ++ [a]) k (by rw [← app_cons]; omega) (by simpa using hk)
theorem same_ints (l : List Int) (hl : l.length ≤ 140737488355328) (k : Nat) (hk : l.length < k) : laws_eqIntS.f k l l = some true := by
  unfold laws_eqIntS.f
  rw [if_pos rfl]
  exact same_l0 l [] k hl hk

/-- How many trees a kind is of. -/
def ar (a : Int) : Int := if a = 0 then 0 else if a = 1 then 0 else if a = 2 then 0 else if a = 5 then 1 else if a = 3 then 2 else if a = 4 then 2 else -1
theorem ar_le (a : Int) : -1 ≤ ar a ∧ ar a ≤ 2 := by
  unfold ar
  repeat' split
  all_goals omega
theorem arity_spec (a : Int) (k : Nat) (hk : 1 < k) : spec_l9Arity.f k a = some (ar a) := by
  obtain ⟨k, rfl⟩ := rounds hk
  unfold spec_l9Arity.f ar
  by_cases h0 : a = 0
  · rw [if_pos h0, if_pos h0]
    simp [spec_l9Arity.j0, h0]
  · rw [if_neg h0, if_neg h0]
    by_cases h1 : a = 1
    · rw [if_pos h1, if_pos h1]
      simp [spec_l9Arity.j0, h1]
    · rw [if_neg h1, if_neg h1]
      by_cases h2 : a = 2
      · rw [if_pos h2]
        simp [spec_l9Arity.j0, h2]
      · rw [if_neg h2]
        simp only [spec_l9Arity.j0]
        rw [if_neg (by simpa using h2)]
        split
        · rfl
        · split
          · rfl
          · split <;> rfl
theorem arity_impl (a : Int) (k : Nat) (hk : 1 < k) : impl_below.f k a = some (ar a) := by
  obtain ⟨k, rfl⟩ := rounds hk
  unfold impl_below.f ar
  by_cases h0 : a = 0
  · rw [if_pos h0, if_pos h0]
    simp [impl_below.j0, h0]
  · rw [if_neg h0, if_neg h0]
    by_cases h1 : a = 1
    · rw [if_pos h1, if_pos h1]
      simp [impl_below.j0, h1]
    · rw [if_neg h1, if_neg h1]
      by_cases h2 : a = 2
      · rw [if_pos h2]
        simp [impl_below.j0, h2]
      · rw [if_neg h2]
        simp only [impl_below.j0]
        rw [if_neg (by simpa using h2)]
        split
        · rfl
        · split
          · rfl
          · split <;> rfl
/-- How many kinds from the front are n trees; any: whether a 0 may stand there. -/
def scan (any : Bool) : List Int → Nat → Option Nat
  | _, 0 => some 0
  | [], _ + 1 => none
  | a :: l, n + 1 => if ar a < 0 ∨ (a = 0 ∧ any = false) then none else (scan any l (n + (ar a).toNat)).map (· + 1)
theorem scan_le (any : Bool) : ∀ (l : List Int) (n c : Nat), scan any l n = some c → c ≤ l.length
  | l, 0, c, h => by
    cases l <;> simp [scan] at h <;> omega
  | [], n + 1, c, h => by simp [scan] at h
  | a :: l, n + 1, c, h => by
    simp only [scan] at h
    split at h
    · cases h
    · obtain ⟨d, h1, rfl⟩ := Option.map_eq_some_iff.1 h
      have := scan_le any l _ d h1
      simp
      exact this
/-- Where 0 may not stand. -/
theorem scan_both : ∀ (l : List Int) (n c : Nat), scan false l n = some c ↔ scan true l n = some c ∧ (0 : Int) ∉ l.take c
  | l, 0, c => by
    cases l <;> simp [scan] <;> (intro h; subst h; simp)
  | [], n + 1, c => by simp [scan]
  | a :: l, n + 1, c => by
    simp only [scan]
    by_cases h1 : ar a < 0
    · rw [if_pos (.inl h1), if_pos (.inl h1)]
      simp
    · by_cases h2 : a = 0
      · rw [if_pos (.inr ⟨h2, trivial⟩)]
        constructor
        · intro h; cases h
        · rintro ⟨h3, h4⟩
          rw [if_neg (by simp [h1])] at h3
          obtain ⟨d, h5, rfl⟩ := Option.map_eq_some_iff.1 h3
          exact absurd (by rw [h2]; simp) h4
      · rw [if_neg (by simp [h1, h2]), if_neg (by simp [h1])]
        constructor
        · intro h
          obtain ⟨d, h5, rfl⟩ := Option.map_eq_some_iff.1 h
          obtain ⟨h6, h7⟩ := (scan_both l _ d).1 h5
          refine ⟨by rw [h6]; rfl, ?_⟩
          have h2' : ¬ (0 : Int) = a := fun e => h2 e.symm
          simp [h2', h7]
        · rintro ⟨h3, h4⟩
          obtain ⟨d, h5, rfl⟩ := Option.map_eq_some_iff.1 h3
          have h2' : ¬ (0 : Int) = a := fun e => h2 e.symm
          rw [(scan_both l _ d).2 ⟨h5, by simpa [h2'] using h4⟩]
          rfl
theorem end_spec_l0 (any : Bool) : ∀ (r p : List Int) (n k : Nat), (p ++ r).length ≤ 140737488355328 → n + r.length ≤ 1000000000000000000 → r.length + 3 < k →
    spec_l9End.l0 k (p ++ r) (p.length : Int) any (n : Int) = some (match scan any r n with | none => 0 | some c => ((p.length + c : Nat) : Int))
  | r, p, 0, k, hl, hn, hk => by
    obtain ⟨k, rfl⟩ := rounds hk
    simp only [spec_l9End.l0]
    rw [if_neg (by omega)]
    cases r <;> simp [scan]
  | [], p, n + 1, k, hl, hn, hk => by
    obtain ⟨k, rfl⟩ := rounds hk
    simp only [spec_l9End.l0]
    rw [if_pos (by omega), if_pos (by simp)]
    simp [scan]
  | a :: r, p, n + 1, k, hl, hn, hk => by
    obtain ⟨k, rfl⟩ := rounds hk
    have hlen := len_app_cons p a r
    simp only [List.length_cons] at hk hn
    simp only [spec_l9End.l0]
    rw [if_pos (by omega), if_neg (by omega), if_pos (by omega), if_pos (by omega), rd_app, arity_spec a k (by omega)]
    simp only [Option.bind_some]
    have hb := ar_le a
    simp only [scan]
    by_cases h1 : ar a < 0
    · rw [if_pos h1, if_pos (.inl h1)]
    · rw [if_neg h1]
      have hw : wrap64 ((((n + 1 : Nat) : Int)) + wrap64 (ar a - 1)) = ((n + (ar a).toNat : Nat) : Int) := by
        rw [w64 (x := ar a - 1) (by omega) (by omega), w64 (by omega) (by omega)]
        omega
      have hgo : spec_l9End.l0 k (p ++ a :: r) (wrap64 ((p.length : Int) + 1)) any (wrap64 ((((n + 1 : Nat) : Int)) + wrap64 (ar a - 1))) = some (match scan any r (n + (ar a).toNat) with | none => 0 | some c => ((p.length + 1 + c : Nat) : Int)) := by
        rw [w64_succ (n := (p ++ a :: r).length) (by omega) (by omega) (by omega), hw, ← len_snoc p a, app_cons, end_spec_l0 any r (p ++ [a]) _ k (by rw [← app_cons]; omega) (by omega) (by omega)]
        simp
      by_cases h2 : a = 0
      · rw [if_pos h2]
        cases any with
        | false =>
          rw [if_neg (by simp), if_pos (.inr ⟨h2, rfl⟩)]
        | true =>
          rw [if_pos rfl]
          rw [hgo, if_neg (by simp [h1])]
          cases hs : scan true r (n + (ar a).toNat) with
          | none => rfl
          | some c =>
            show some (((p.length + 1 + c : Nat)) : Int) = some (((p.length + (c + 1) : Nat)) : Int)
            rw [Nat.add_assoc, Nat.add_comm 1 c]
      · rw [if_neg h2]
        rw [hgo, if_neg (by simp [h1, h2])]
        cases hs : scan any r (n + (ar a).toNat) with
        | none => rfl
        | some c =>
          show some (((p.length + 1 + c : Nat)) : Int) = some (((p.length + (c + 1) : Nat)) : Int)
          rw [Nat.add_assoc, Nat.add_comm 1 c]
theorem end_spec (any : Bool) (t : List Int) (p : List Int) (r : List Int) (ht : t = p ++ r) (k : Nat) (hl : t.length ≤ 140737488355328) (hk : r.length + 3 < k) :
    spec_l9End.f k t (p.length : Int) any = some (match scan any r 1 with | none => 0 | some c => ((p.length + c : Nat) : Int)) := by
  subst ht
  unfold spec_l9End.f
  have h := end_spec_l0 any r p 1 k hl (by simp at hl; omega) hk
  exact h
theorem end_impl_l0 : ∀ (r p : List Int) (n k : Nat), (p ++ r).length ≤ 140737488355328 → n + r.length ≤ 1000000000000000000 → r.length + 3 < k →
    impl_endOf.l0 k (p ++ r) (p.length : Int) (n : Int) = some (match scan true r n with | none => -1 | some c => ((p.length + c : Nat) : Int))
  | r, p, 0, k, hl, hn, hk => by
    obtain ⟨k, rfl⟩ := rounds hk
    simp only [impl_endOf.l0]
    rw [if_neg (by omega)]
    cases r <;> simp [scan]
  | [], p, n + 1, k, hl, hn, hk => by
    obtain ⟨k, rfl⟩ := rounds hk
    simp only [impl_endOf.l0]
    rw [if_pos (by omega), if_neg (by omega), if_pos (by simp)]
    simp [scan]
  | a :: r, p, n + 1, k, hl, hn, hk => by
    obtain ⟨k, rfl⟩ := rounds hk
    have hlen := len_app_cons p a r
    simp only [List.length_cons] at hk hn
    simp only [impl_endOf.l0]
    rw [if_pos (by omega), if_neg (by omega), if_neg (by omega), if_pos (by omega), if_pos (by omega), rd_app, arity_impl a k (by omega)]
    simp only [Option.bind_some]
    have hb := ar_le a
    simp only [scan]
    by_cases h1 : ar a < 0
    · rw [if_pos h1, if_pos (.inl h1)]
    · rw [if_neg h1]
      have hw : wrap64 (wrap64 ((((n + 1 : Nat) : Int)) + ar a) - 1) = ((n + (ar a).toNat : Nat) : Int) := by
        rw [w64 (x := ((n + 1 : Nat) : Int) + ar a) (by omega) (by omega), w64 (by omega) (by omega)]
        omega
      rw [w64_succ (n := (p ++ a :: r).length) (by omega) (by omega) (by omega), hw, ← len_snoc p a, app_cons, end_impl_l0 r (p ++ [a]) _ k (by rw [← app_cons]; omega) (by omega) (by omega), if_neg (by simp [h1])]
      cases hs : scan true r (n + (ar a).toNat) with
      | none => rfl
      | some c =>
        show some ((((p ++ [a]).length + c : Nat)) : Int) = some (((p.length + (c + 1) : Nat)) : Int)
        rw [List.length_append, List.length_singleton, Nat.add_assoc, Nat.add_comm 1 c]
theorem end_impl (t : List Int) (p : List Int) (r : List Int) (ht : t = p ++ r) (k : Nat) (hl : t.length ≤ 140737488355328) (hk : r.length + 3 < k) :
    impl_endOf.f k t (p.length : Int) = some (match scan true r 1 with | none => -1 | some c => ((p.length + c : Nat) : Int)) := by
  subst ht
  unfold impl_endOf.f
  have h := end_impl_l0 r p 1 k hl (by simp at hl; omega) hk
  exact h

theorem index_l0 (x : Int) : ∀ (r p : List Int) (k : Nat), (p ++ r).length ≤ 140737488355328 → r.length < k → ∃ n, slices_Index_int_int.l0 k (p ++ r) x ((p ++ r).length : Int) (p.length : Int) = some n ∧ (0 ≤ n ↔ x ∈ r)
  | [], p, k, hl, hk => by
    obtain ⟨k, rfl⟩ := rounds hk
    refine ⟨-1, ?_, ?_⟩
    · simp only [slices_Index_int_int.l0]
      rw [if_neg (by simp)]
    · simp
  | a :: r, p, k, hl, hk => by
    obtain ⟨k, rfl⟩ := rounds hk
    have hn := len_app_cons p a r
    simp only [slices_Index_int_int.l0]
    rw [if_pos (by omega), if_pos (by omega), if_pos (by omega), rd_app, w64_succ (n := (p ++ a :: r).length) (by omega) (by omega) (by omega), ← len_snoc p a, app_cons]
    by_cases e : x = a
    · rw [if_pos e]
      exact ⟨_, rfl, by simp [e]⟩
    · rw [if_neg e]
      obtain ⟨n, h1, h2⟩ := index_l0 x r (p ++ [a]) k (by rw [← app_cons]; omega) (by simpa using hk)
      exact ⟨n, h1, by simp [e, h2]⟩
theorem contains_ints (l : List Int) (x : Int) (hl : l.length ≤ 140737488355328) (k : Nat) (hk : l.length < k) : slices_Contains_int_int.f k l x = some (decide (x ∈ l)) := by
  unfold slices_Contains_int_int.f slices_Index_int_int.f
  obtain ⟨r, h1, h2⟩ := index_l0 x l [] k hl hk
  have h1' : slices_Index_int_int.l0 k l x (l.length : Int) 0 = some r := h1
  rw [h1']
  simp only [Option.bind_some]
  simp [h2]


/-- A good tree. -/
def GT (t : List Int) : Prop := 1 ≤ t.length ∧ t.length ≤ 40 ∧ scan false t 1 = some t.length
theorem good_tree_spec (t : List Int) (k : Nat) (hl : t.length ≤ 140737488355328) (hk : t.length + 3 < k) : ∃ b, spec_GoodTree.f k t = some b ∧ (b = true ↔ GT t) := by
  unfold spec_GoodTree.f spec_l1In.f GT
  by_cases e1 : (t.length : Int) ≥ 1
  · rw [if_pos e1]
    simp only [Option.bind_some]
    by_cases e2 : (t.length : Int) ≤ 40
    · rw [if_pos (by simpa using e2)]
      have h := end_spec false t [] t rfl k hl hk
      have h' : spec_l9End.f k t 0 false = _ := h
      rw [h']
      simp only [Option.bind_some]
      refine ⟨_, rfl, ?_⟩
      cases hs : scan false t 1 with
      | none => simp; omega
      | some c => simp; omega
    · rw [if_neg (by simpa using e2)]
      exact ⟨false, rfl, by simp; omega⟩
  · rw [if_neg e1]
    simp only [Option.bind_some]
    rw [if_neg (by simp)]
    exact ⟨false, rfl, by simp; omega⟩
theorem good_tree_impl (t : List Int) (k : Nat) (hl : t.length ≤ 140737488355328) (hk : t.length + 3 < k) : ∃ b, impl_isTree.f k t = some b ∧ (b = true ↔ GT t) := by
  unfold impl_isTree.f impl_in.f GT
  by_cases e1 : (t.length : Int) ≥ 1
  · rw [if_pos e1]
    simp only [Option.bind_some]
    by_cases e2 : (t.length : Int) ≤ 40
    · rw [if_pos (by simpa using e2)]
      have h := end_impl t [] t rfl k hl hk
      have h' : impl_endOf.f k t 0 = _ := h
      rw [h']
      simp only [Option.bind_some]
      have hb := scan_both t 1 t.length
      rw [List.take_length] at hb
      cases hs : scan true t 1 with
      | none =>
        rw [if_neg (by simp <;> omega)]
        refine ⟨false, rfl, ?_⟩
        rw [hb, hs]
        simp
      | some c =>
        by_cases e3 : c = t.length
        · rw [if_pos (by simp [e3]), contains_ints t 0 hl k (by omega)]
          simp only [Option.bind_some]
          refine ⟨_, rfl, ?_⟩
          have e1' : 1 ≤ t.length := by omega
          have e2' : t.length ≤ 40 := by omega
          rw [hb, hs, e3]
          simp [e1', e2']
        · rw [if_neg (by simp; omega)]
          refine ⟨false, rfl, ?_⟩
          rw [hb, hs]
          simp [e3]
    · rw [if_neg (by simpa using e2)]
      exact ⟨false, rfl, by simp; omega⟩
  · rw [if_neg e1]
    simp only [Option.bind_some]
    rw [if_neg (by simp)]
    exact ⟨false, rfl, by simp; omega⟩

/-- A good pattern. -/
def GP (l : List Int) (c : Int) : Prop := 1 ≤ l.length ∧ l.length ≤ 10 ∧ rd l 0 ≠ 0 ∧ scan true l 1 = some l.length ∧ 1 ≤ c ∧ c ≤ 100
theorem pattern_spec (l : List Int) (c : Int) (k : Nat) (hl : l.length ≤ 140737488355328) (hk : l.length + 3 < k) : ∃ b, spec_l9Pattern.f k l c = some b ∧ (b = true ↔ GP l c) := by
  unfold spec_l9Pattern.f spec_l1In.f GP
  by_cases e1 : (l.length : Int) ≥ 1
  · rw [if_pos e1]
    simp only [Option.bind_some]
    by_cases e2 : (l.length : Int) ≤ 10
    · rw [if_pos (by simpa using e2), if_pos (by omega)]
      by_cases e3 : rd l 0 = 0
      · rw [if_pos e3]
        exact ⟨false, rfl, by simp [e3]⟩
      · rw [if_neg e3]
        have h := end_spec true l [] l rfl k hl hk
        have h' : spec_l9End.f k l 0 true = _ := h
        rw [h']
        simp only [Option.bind_some]
        cases hs : scan true l 1 with
        | none =>
          rw [if_neg (by simp <;> omega)]
          exact ⟨false, rfl, by simp⟩
        | some d =>
          by_cases e4 : d = l.length
          · rw [if_pos (by simp [e4])]
            by_cases e5 : c ≥ 1
            · rw [if_pos e5]
              simp only [Option.bind_some]
              exact ⟨_, rfl, by simp [e3, e4, e5]; omega⟩
            · rw [if_neg e5]
              simp only [Option.bind_some]
              exact ⟨false, rfl, by simp; omega⟩
          · rw [if_neg (by simp; omega)]
            exact ⟨false, rfl, by simp [e4]⟩
    · rw [if_neg (by simpa using e2)]
      exact ⟨false, rfl, by simp; omega⟩
  · rw [if_neg e1]
    simp only [Option.bind_some]
    rw [if_neg (by simp)]
    exact ⟨false, rfl, by simp; omega⟩
theorem pattern_impl (l : List Int) (c : Int) (k : Nat) (hl : l.length ≤ 140737488355328) (hk : l.length + 3 < k) : ∃ b, impl_isPattern.f k l c = some b ∧ (b = true ↔ GP l c) := by
  unfold impl_isPattern.f impl_in.f GP
  by_cases e1 : (l.length : Int) ≥ 1
  · rw [if_pos e1]
    simp only [Option.bind_some]
    by_cases e2 : (l.length : Int) ≤ 10
    · rw [if_pos (by simpa using e2), if_pos (by omega)]
      by_cases e3 : rd l 0 = 0
      · rw [if_pos e3]
        exact ⟨false, rfl, by simp [e3]⟩
      · rw [if_neg e3]
        have h := end_impl l [] l rfl k hl hk
        have h' : impl_endOf.f k l 0 = _ := h
        rw [h']
        simp only [Option.bind_some]
        cases hs : scan true l 1 with
        | none =>
          rw [if_neg (by simp <;> omega)]
          exact ⟨false, rfl, by simp⟩
        | some d =>
          by_cases e4 : d = l.length
          · rw [if_pos (by simp [e4])]
            by_cases e5 : c ≥ 1
            · rw [if_pos e5]
              simp only [Option.bind_some]
              exact ⟨_, rfl, by simp [e3, e4, e5]; omega⟩
            · rw [if_neg e5]
              simp only [Option.bind_some]
              exact ⟨false, rfl, by simp; omega⟩
          · rw [if_neg (by simp; omega)]
            exact ⟨false, rfl, by simp [e4]⟩
    · rw [if_neg (by simpa using e2)]
      exact ⟨false, rfl, by simp; omega⟩
  · rw [if_neg e1]
    simp only [Option.bind_some]
    rw [if_neg (by simp)]
    exact ⟨false, rfl, by simp; omega⟩

/-- A scan of one and of others more. -/
theorem scan_split (any : Bool) : ∀ (l : List Int) (n m c : Nat), scan any l (n + m) = some c → ∃ c1 c2, scan any l n = some c1 ∧ scan any (l.drop c1) m = some c2 ∧ c = c1 + c2
  | l, 0, m, c, h => ⟨0, c, by cases l <;> rfl, by simpa using h, by omega⟩
  | [], n + 1, m, c, h => by
    rw [show n + 1 + m = (n + m) + 1 from by omega] at h
    simp [scan] at h
  | a :: l, n + 1, m, c, h => by
    rw [show n + 1 + m = (n + m) + 1 from by omega] at h
    simp only [scan] at h ⊢
    by_cases e : ar a < 0 ∨ (a = 0 ∧ any = false)
    · rw [if_pos e] at h
      cases h
    · rw [if_neg e] at h ⊢
      obtain ⟨d, h1, rfl⟩ := Option.map_eq_some_iff.1 h
      rw [show n + m + (ar a).toNat = (n + (ar a).toNat) + m from by omega] at h1
      obtain ⟨c1, c2, h2, h3, rfl⟩ := scan_split any l _ m d h1
      exact ⟨c1 + 1, c2, by rw [h2]; rfl, by simpa using h3, by omega⟩
theorem scan_pos (any : Bool) : ∀ (l : List Int) (n c : Nat), scan any l (n + 1) = some c → 1 ≤ c
  | [], n, c, h => by simp [scan] at h
  | a :: l, n, c, h => by
    simp only [scan] at h
    split at h
    · cases h
    · obtain ⟨d, _, rfl⟩ := Option.map_eq_some_iff.1 h
      omega
/-- At each place of a tree begins a tree. -/
theorem scan_suffix (any : Bool) : ∀ (i : Nat) (l : List Int) (n : Nat), scan any l n = some l.length → i < l.length → ∃ m c, scan any (l.drop i) (m + 1) = some c
  | 0, l, n, h, hi => by
    cases n with
    | zero =>
      have : l.length = 0 := by
        have h' : scan any l 0 = some 0 := by cases l <;> rfl
        rw [h'] at h
        exact (Option.some.inj h).symm
      omega
    | succ n => exact ⟨n, _, h⟩
  | i + 1, l, n, h, hi => by
    cases l with
    | nil => simp at hi
    | cons a l =>
      cases n with
      | zero => simp [scan] at h
      | succ n =>
        simp only [scan] at h
        split at h
        · cases h
        · obtain ⟨d, h1, h2⟩ := Option.map_eq_some_iff.1 h
          have hd : d = l.length := by simpa using h2
          rw [hd] at h1
          simp only [List.length_cons] at hi
          exact scan_suffix any i l _ h1 (by omega)
theorem scan_at (t : List Int) (ht : scan false t 1 = some t.length) (i : Nat) (hi : i < t.length) : ∃ c, scan false (t.drop i) 1 = some c := by
  obtain ⟨m, c, h⟩ := scan_suffix false i t 1 ht hi
  rw [Nat.add_comm] at h
  obtain ⟨c1, _, h1, _⟩ := scan_split false _ 1 m c h
  exact ⟨c1, h1⟩
/-- Where the trees stand for which any may stand: nothing where the kinds are others. -/
def fitsF (t : List Int) : Nat → List Int → Option (List Int)
  | _, [] => some []
  | i, a :: ks => if a = 0 then (match scan false (t.drop i) 1 with | none => none | some c => (fitsF t (i + c) ks).map ((i : Int) :: ·)) else if t[i]? = some a then fitsF t (i + 1) ks else none
theorem split_at (t : List Int) (i : Nat) (hi : i ≤ t.length) : t = t.take i ++ t.drop i ∧ (t.take i).length = i := ⟨(List.take_append_drop i t).symm, by simp; omega⟩
theorem end_spec_at (t : List Int) (i c : Nat) (hi : i ≤ t.length) (hs : scan false (t.drop i) 1 = some c) (k : Nat) (hl : t.length ≤ 140737488355328) (hk : t.length + 3 < k) : spec_l9End.f k t (i : Int) false = some ((i + c : Nat) : Int) := by
  obtain ⟨h1, h2⟩ := split_at t i hi
  have h := end_spec false t (t.take i) (t.drop i) h1 k hl (by simp; omega)
  rw [h2, hs] at h
  exact h
theorem end_impl_at (t : List Int) (i c : Nat) (hi : i ≤ t.length) (hs : scan false (t.drop i) 1 = some c) (k : Nat) (hl : t.length ≤ 140737488355328) (hk : t.length + 3 < k) : impl_endOf.f k t (i : Int) = some ((i + c : Nat) : Int) := by
  obtain ⟨h1, h2⟩ := split_at t i hi
  have h := end_impl t (t.take i) (t.drop i) h1 k hl (by simp; omega)
  rw [h2, ((scan_both _ 1 c).1 hs).1] at h
  exact h
theorem rd_at (t : List Int) (i : Nat) (hi : i < t.length) : rd t (i : Int) = t[i] := rd_nat t i hi
/-- The answer, out of fitsF's. -/
def fitsR (hs : List Int) : Option (List Int) → List Int × Bool
  | none => ([], false)
  | some l => (hs ++ l, true)
theorem fits_both (t : List Int) (ht : t.length ≤ 40) (K : List Int) (hK : K.length ≤ 10) : ∀ (r p : List Int) (i n c : Nat) (hs : List Int) (k : Nat), K = p ++ r → i ≤ t.length →
    scan true r n = some r.length → scan false (t.drop i) n = some c → hs.length ≤ p.length → r.length + 50 < k →
    spec_l9Fits.l0 k t (i : Int) hs K (K.length : Int) (p.length : Int) = some (fitsR hs (fitsF t i r)) ∧ impl_fits.l0 k t (i : Int) hs K (K.length : Int) (p.length : Int) = some (fitsR hs (fitsF t i r))
  | [], p, i, n, c, hs, k, hKp, hi, h1, h2, hh, hk => by
    obtain ⟨k, rfl⟩ := rounds hk
    subst hKp
    simp only [spec_l9Fits.l0, impl_fits.l0]
    rw [if_neg (by simp), if_neg (by simp)]
    simp [fitsF, fitsR]
  | a :: r, p, i, n, c, hs, k, hKp, hi, h1, h2, hh, hk => by
    obtain ⟨k, rfl⟩ := rounds hk
    have hlen : K.length = p.length + r.length + 1 := by rw [hKp]; exact len_app_cons p a r
    have hrd : rd K (p.length : Int) = a := by rw [hKp]; exact rd_app p a r
    simp only [List.length_cons] at hk h1
    cases n with
    | zero => simp [scan] at h1
    | succ n =>
      have hlt : i < t.length := by
        have h3 := scan_pos false _ n c h2
        have h4 := scan_le false _ _ c h2
        simp at h4
        omega
      simp only [scan] at h1
      split at h1
      · cases h1
      · rename_i hg
        obtain ⟨d, h3, h4⟩ := Option.map_eq_some_iff.1 h1
        have hd : d = r.length := by simpa using h4
        subst hd
        have hA : (p.length : Int) < (K.length : Int) := by omega
        have hB : 0 ≤ (p.length : Int) := by omega
        have hC : hs.length < 17592186044416 := by omega
        simp only [spec_l9Fits.l0, impl_fits.l0]
        simp only [if_pos hA, if_pos hB, hrd]
        by_cases e : a = 0
        · simp only [if_pos e, if_pos hC]
          have h5 : scan false (t.drop i) (1 + n) = some c := by rw [Nat.add_comm]; exact h2
          obtain ⟨c1, c2, h6, h7, _⟩ := scan_split false _ 1 n c h5
          have h8 := scan_le false _ _ c1 h6
          simp at h8
          rw [end_spec_at t i c1 hi h6 k (by omega) (by omega), end_impl_at t i c1 hi h6 k (by omega) (by omega)]
          simp only [Option.bind_some]
          rw [w64_succ (n := K.length) (by omega) (by omega) (by omega), ← len_snoc p a]
          have har : ar a = 0 := by rw [e]; rfl
          rw [har] at h3
          have ih := fits_both t ht K hK r (p ++ [a]) (i + c1) n c2 (hs ++ [(i : Int)]) k (by rw [hKp]; simp) (by omega) (by simpa using h3) (by rw [← List.drop_drop]; exact h7) (by simp; omega) (by omega)
          have hf : fitsF t i (a :: r) = (fitsF t (i + c1) r).map ((i : Int) :: ·) := by
            simp only [fitsF]
            rw [if_pos e, h6]
          have hr : fitsR (hs ++ [(i : Int)]) (fitsF t (i + c1) r) = fitsR hs (fitsF t i (a :: r)) := by
            rw [hf]
            cases fitsF t (i + c1) r <;> simp [fitsR]
          rw [hr] at ih
          exact ih
        · have hD : (i : Int) < (t.length : Int) := by omega
          have hE : 0 ≤ (i : Int) := by omega
          have hF : ¬ (i : Int) ≥ (t.length : Int) := by omega
          simp only [if_neg e, if_pos hD, if_pos hE, if_neg hF, rd_at t i hlt]
          by_cases e2 : t[i] = a
          · simp only [if_pos e2]
            rw [w64 (x := (p.length : Int) + 1) (by omega) (by omega), w64 (x := (i : Int) + 1) (by omega) (by omega), ← len_snoc p a]
            have hsc : scan false (t.drop (i + 1)) (n + (ar a).toNat) = some (c - 1) := by
              rw [List.drop_eq_getElem_cons hlt, e2] at h2
              simp only [scan] at h2
              split at h2
              · cases h2
              · obtain ⟨d, h9, h10⟩ := Option.map_eq_some_iff.1 h2
                rw [h9, ← h10]
                simp
            have ih := fits_both t ht K hK r (p ++ [a]) (i + 1) (n + (ar a).toNat) (c - 1) hs k (by rw [hKp]; simp) (by omega) h3 hsc (by simp; omega) (by omega)
            have hf : fitsF t i (a :: r) = fitsF t (i + 1) r := by
              simp only [fitsF]
              rw [if_neg e, if_pos (by rw [List.getElem?_eq_getElem hlt, e2])]
            rw [hf]
            exact ih
          · simp only [if_neg e2]
            have hf : fitsF t i (a :: r) = none := by
              simp only [fitsF]
              rw [if_neg e, if_neg (by rw [List.getElem?_eq_getElem hlt]; simpa using e2)]
            rw [hf]
            exact ⟨rfl, rfl⟩
/-- Both answer alike at each place of a good tree, for a good pattern. -/
theorem fits_good (t : List Int) (ht : GT t) (i : Nat) (hi : i < t.length) (K : List Int) (c : Int) (hK : GP K c) (k : Nat) (hk : 70 < k) :
    spec_l9Fits.f k t (i : Int) K c = some (fitsR [] (fitsF t i K)) ∧ impl_fits.f k t (i : Int) K c = some (fitsR [] (fitsF t i K)) := by
  unfold spec_l9Fits.f impl_fits.f
  obtain ⟨c1, h1⟩ := scan_at t ht.2.2 i hi
  have h2 := ht.2.1
  have h3 := hK.2.1
  exact fits_both t h2 K h3 K [] i 1 c1 [] k rfl (by omega) hK.2.2.2.1 h1 (by simp) (by omega)
/-- Where the holes lie. -/
theorem fitsF_range (t : List Int) : ∀ (ks : List Int) (i n c : Nat) (l : List Int), scan true ks n = some ks.length → scan false (t.drop i) n = some c → i ≤ t.length → fitsF t i ks = some l → ∀ h ∈ l, (i : Int) ≤ h ∧ h < (t.length : Int)
  | [], i, n, c, l, h1, h2, hi, hf => by
    simp only [fitsF, Option.some.injEq] at hf
    subst hf
    simp
  | a :: ks, i, n, c, l, h1, h2, hi, hf => by
    cases n with
    | zero => simp [scan] at h1
    | succ n =>
      have hlt : i < t.length := by
        have h3 := scan_pos false _ n c h2
        have h4 := scan_le false _ _ c h2
        simp at h4
        omega
      simp only [List.length_cons, scan] at h1
      split at h1
      · cases h1
      · obtain ⟨d, h3, h4⟩ := Option.map_eq_some_iff.1 h1
        have hd : d = ks.length := by simpa using h4
        subst hd
        simp only [fitsF] at hf
        by_cases e : a = 0
        · rw [if_pos e] at hf
          have h5 : scan false (t.drop i) (1 + n) = some c := by rw [Nat.add_comm]; exact h2
          obtain ⟨c1, c2, h6, h7, _⟩ := scan_split false _ 1 n c h5
          rw [h6] at hf
          have h8 := scan_le false _ _ c1 h6
          simp at h8
          have har : ar a = 0 := by rw [e]; rfl
          rw [har] at h3
          obtain ⟨l', h9, rfl⟩ := Option.map_eq_some_iff.1 hf
          have ih := fitsF_range t ks (i + c1) n c2 l' (by simpa using h3) (by rw [← List.drop_drop]; exact h7) (by omega) h9
          intro h hh
          rcases List.mem_cons.1 hh with rfl | hh
          · omega
          · have := ih h hh
            omega
        · rw [if_neg e] at hf
          split at hf
          · rename_i e2
            have hsc : scan false (t.drop (i + 1)) (n + (ar a).toNat) = some (c - 1) := by
              have e3 : t[i] = a := by rw [List.getElem?_eq_getElem hlt] at e2; exact Option.some.inj e2
              rw [List.drop_eq_getElem_cons hlt, e3] at h2
              simp only [scan] at h2
              split at h2
              · cases h2
              · obtain ⟨d, h9, h10⟩ := Option.map_eq_some_iff.1 h2
                rw [h9, ← h10]
                simp
            have ih := fitsF_range t ks (i + 1) _ _ l h3 hsc (by omega) hf
            intro h hh
            have := ih h hh
            omega
          · cases hf
theorem fitsF_len (t : List Int) : ∀ (ks : List Int) (i : Nat) (l : List Int), fitsF t i ks = some l → l.length ≤ ks.length
  | [], i, l, h => by
    simp only [fitsF, Option.some.injEq] at h
    subst h
    simp
  | a :: ks, i, l, h => by
    simp only [fitsF] at h
    split at h
    · split at h
      · cases h
      · obtain ⟨l', h1, rfl⟩ := Option.map_eq_some_iff.1 h
        have := fitsF_len t ks _ l' h1
        simp
        exact this
    · split at h
      · have := fitsF_len t ks _ l h
        simp
        omega
      · cases h

/-- A pattern of the law's own type, as the program's. -/
def cP (x : S42) : S46 := ⟨x.f0, x.f1⟩
theorem rdT42 (p : List S42) (a : S42) (r : List S42) : rd_T42 (p ++ a :: r) (p.length : Int) = a := by
  unfold rd_T42
  simp
theorem rdT46 (p : List S46) (a : S46) (r : List S46) : rd_T46 (p ++ a :: r) (p.length : Int) = a := by
  unfold rd_T46
  simp
/-- All lengths together. -/
def totp : List S42 → Nat
  | [] => 0
  | x :: r => x.f0.length + totp r
theorem totp_mem : ∀ (l : List S42) (x : S42), x ∈ l → x.f0.length ≤ totp l
  | [], _, h => by cases h
  | y :: r, x, h => by
    simp only [totp]
    rcases List.mem_cons.1 h with rfl | h
    · omega
    · have := totp_mem r x h
      omega
theorem szp_l0 : ∀ (r p : List S42) (k : Nat) (s : Int), (p ++ r).length ≤ 140737488355328 → r.length < k → (∀ x ∈ r, x.f0.length ≤ 140737488355328) → 0 ≤ s → s ≤ 1048576 →
    ∃ z, laws_szPatternS.l0 k (p ++ r) s (p.length : Int) = some z ∧ (0 ≤ z → (totp r : Int) ≤ s)
  | [], p, k, s, hl, hk, hx, h0, h1 => by
    obtain ⟨k, rfl⟩ := rounds hk
    refine ⟨s, ?_, ?_⟩
    · simp only [laws_szPatternS.l0]
      rw [if_neg (by simp)]
    · intro _; simp only [totp]; omega
  | a :: r, p, k, s, hl, hk, hx, h0, h1 => by
    obtain ⟨k, rfl⟩ := rounds hk
    have hn := len_app_cons p a r
    have ha := hx a (by simp)
    simp only [List.length_cons] at hk
    simp only [laws_szPatternS.l0, laws_szPattern.f, laws_szIntS.f]
    rw [if_pos (by omega), if_pos (by omega), rdT42, w64 (x := s - (a.f0.length : Int)) (by omega) (by omega), w64_succ (n := (p ++ a :: r).length) (by omega) (by omega) (by omega)]
    by_cases e : s - (a.f0.length : Int) < 0
    · rw [if_pos e]
      simp only [Option.bind_some]
      refine ⟨-1, by rfl, by omega⟩
    · rw [if_neg e]
      simp only [Option.bind_some]
      rw [if_neg e]
      simp only [Option.bind_some]
      rw [if_neg e, ← len_snoc p a, app_cons]
      obtain ⟨z, h2, h3⟩ := szp_l0 r (p ++ [a]) k (s - (a.f0.length : Int)) (by rw [← app_cons]; omega) (by omega) (fun x hx' => hx x (by simp [hx'])) (by omega) (by omega)
      refine ⟨z, h2, fun hz => ?_⟩
      have := h3 hz
      simp only [totp]
      omega
theorem sz_pats (l : List S42) (hl : l.length ≤ 140737488355328) (hx : ∀ x ∈ l, x.f0.length ≤ 140737488355328) (k : Nat) (hk : l.length < k) :
    ∃ z, laws_szPatternS.f k l 1048576 = some z ∧ (0 ≤ z → l.length + totp l ≤ 1048576) := by
  unfold laws_szPatternS.f
  rw [w64 (by omega) (by omega)]
  by_cases e : (1048576 : Int) - (l.length : Int) < 0
  · rw [if_pos e]
    exact ⟨-1, rfl, by omega⟩
  · rw [if_neg e]
    obtain ⟨z, h1, h2⟩ := szp_l0 l [] k (1048576 - (l.length : Int)) hl hk hx (by omega) (by omega)
    refine ⟨z, h1, fun hz => ?_⟩
    have := h2 hz
    omega
theorem top_l0 : ∀ (r p : List S42) (y : List S46) (k : Nat), (p ++ r).length ≤ 140737488355328 → r.length + totp r + 1 < k → totp r ≤ 1048576 → y.length = (p ++ r).length → y.take p.length = p.map cP →
    laws_toPatternS.l0 k (p ++ r) y (p.length : Int) = some ((p ++ r).map cP)
  | [], p, y, k, hl, hk, hx, hy, ht => by
    obtain ⟨k, rfl⟩ := rounds hk
    simp only [laws_toPatternS.l0]
    rw [if_neg (by simp)]
    rw [List.take_of_length_le (by simp at hy; omega)] at ht
    simp [ht]
  | a :: r, p, y, k, hl, hk, hx, hy, ht => by
    obtain ⟨k, rfl⟩ := rounds hk
    have hn := len_app_cons p a r
    simp only [List.length_cons, totp] at hk hx
    simp only [laws_toPatternS.l0, laws_toPattern.f]
    rw [if_pos (by omega), if_pos (by omega), rdT42, copy_ints a.f0 (by omega) k (by omega)]
    simp only [Option.bind_some]
    rw [if_pos (by omega), w64_succ (n := (p ++ a :: r).length) (by omega) (by omega) (by omega), ← len_snoc p a, app_cons, show ((p.length : Int)).toNat = p.length from by omega]
    refine top_l0 r (p ++ [a]) _ k (by rw [← app_cons]; omega) (by omega) (by omega) (by rw [← app_cons, List.length_set]; exact hy) ?_
    rw [List.length_append, List.length_singleton, take_set_succ _ _ _ (by omega), ht]
    simp [cP]
theorem to_pats (l : List S42) (hl : l.length + totp l ≤ 1048576) (k : Nat) (hk : 1048580 < k) : laws_toPatternS.f k l = some (l.map cP) := by
  unfold laws_toPatternS.f
  rw [if_pos (by omega), if_pos (by omega)]
  exact top_l0 l [] _ k (by simp; omega) (by omega) (by omega) (by simp) (by simp)
/-- All lengths together, of the program's patterns. -/
def totp2 : List S46 → Nat
  | [] => 0
  | x :: r => x.f0.length + totp2 r
theorem totp2_map : ∀ l : List S42, totp2 (l.map cP) = totp l
  | [] => rfl
  | x :: r => by simp only [List.map_cons, totp2, totp, totp2_map r, cP]
theorem eqp_l0 : ∀ (r p : List S46) (k : Nat), (p ++ r).length ≤ 140737488355328 → r.length + totp2 r + 1 < k → totp2 r ≤ 1048576 → laws_eqPatternS.l0 k (p ++ r) (p ++ r) (p.length : Int) = some true
  | [], p, k, hl, hk, hx => by
    obtain ⟨k, rfl⟩ := rounds hk
    simp only [laws_eqPatternS.l0]
    rw [if_neg (by simp)]
  | a :: r, p, k, hl, hk, hx => by
    obtain ⟨k, rfl⟩ := rounds hk
    have hn := len_app_cons p a r
    simp only [List.length_cons, totp2] at hk hx
    simp only [laws_eqPatternS.l0, laws_eqPattern.f]
    rw [if_pos (by omega), if_pos (by omega), if_pos (by omega), rdT46, same_ints a.f0 (by omega) k (by omega)]
    simp only [Option.bind_some, if_true]
    rw [w64_succ (n := (p ++ a :: r).length) (by omega) (by omega) (by omega), ← len_snoc p a, app_cons]
    exact eqp_l0 r (p ++ [a]) k (by rw [← app_cons]; omega) (by omega) (by omega)
theorem eq_pats (l : List S46) (hl : l.length + totp2 l ≤ 1048576) (k : Nat) (hk : 1048580 < k) : laws_eqPatternS.f k l l = some true := by
  unfold laws_eqPatternS.f
  rw [if_pos rfl]
  exact eqp_l0 l [] k (by simp; omega) (by omega) (by omega)

theorem spec_pats_l0 : ∀ (r p : List S46) (k : Nat), (p ++ r).length ≤ 1048576 → r.length + totp2 r + 5 < k → totp2 r ≤ 1048576 →
    ∃ b, spec_GoodPatterns.l0 k (p ++ r) (p ++ r) ((p ++ r).length : Int) (p.length : Int) = some b ∧ (b = true ↔ (∀ x ∈ r, GP x.f0 x.f1) ∧ (p ++ r).length ≤ 12)
  | [], p, k, hl, hk, hx => by
    obtain ⟨k, rfl⟩ := rounds hk
    refine ⟨decide (((p ++ []).length : Int) ≤ 12), ?_, ?_⟩
    · simp only [spec_GoodPatterns.l0]
      rw [if_neg (by simp)]
    · simp
      omega
  | a :: r, p, k, hl, hk, hx => by
    obtain ⟨k, rfl⟩ := rounds hk
    have hn := len_app_cons p a r
    simp only [List.length_cons, totp2] at hk hx
    simp only [spec_GoodPatterns.l0]
    rw [if_pos (by omega), if_pos (by omega), if_pos (by omega), rdT46]
    obtain ⟨b, h1, h2⟩ := pattern_spec a.f0 a.f1 k (by omega) (by omega)
    rw [h1]
    simp only [Option.bind_some]
    cases b with
    | true =>
      rw [if_pos rfl, w64_succ (n := (p ++ a :: r).length) (by omega) (by omega) (by omega), ← len_snoc p a, app_cons]
      obtain ⟨b, h3, h4⟩ := spec_pats_l0 r (p ++ [a]) k (by rw [← app_cons]; omega) (by omega) (by omega)
      refine ⟨b, h3, h4.trans ?_⟩
      have h5 := h2.1 rfl
      simp [h5]
    | false =>
      rw [if_neg (by simp)]
      refine ⟨false, rfl, ?_⟩
      have h5 : ¬ GP a.f0 a.f1 := fun h => by have := h2.2 h; cases this
      simp [h5]
theorem impl_pats_l0 : ∀ (r p : List S46) (k : Nat), (p ++ r).length ≤ 1048576 → r.length + totp2 r + 5 < k → totp2 r ≤ 1048576 →
    ∃ n, slices_IndexFunc__impl_arePatterns_1.l0 k (p ++ r) ((p ++ r).length : Int) (p.length : Int) = some n ∧ (n < 0 ↔ ∀ x ∈ r, GP x.f0 x.f1)
  | [], p, k, hl, hk, hx => by
    obtain ⟨k, rfl⟩ := rounds hk
    refine ⟨-1, ?_, by simp⟩
    simp only [slices_IndexFunc__impl_arePatterns_1.l0]
    rw [if_neg (by simp)]
  | a :: r, p, k, hl, hk, hx => by
    obtain ⟨k, rfl⟩ := rounds hk
    have hn := len_app_cons p a r
    simp only [List.length_cons, totp2] at hk hx
    simp only [slices_IndexFunc__impl_arePatterns_1.l0, impl_arePatterns_1.f]
    rw [if_pos (by omega), if_pos (by omega), if_pos (by omega), rdT46]
    obtain ⟨b, h1, h2⟩ := pattern_impl a.f0 a.f1 k (by omega) (by omega)
    rw [h1]
    simp only [Option.bind_some]
    cases b with
    | true =>
      rw [if_neg (by simp), w64_succ (n := (p ++ a :: r).length) (by omega) (by omega) (by omega), ← len_snoc p a, app_cons]
      obtain ⟨n, h3, h4⟩ := impl_pats_l0 r (p ++ [a]) k (by rw [← app_cons]; omega) (by omega) (by omega)
      refine ⟨n, h3, h4.trans ?_⟩
      have h5 := h2.1 rfl
      simp [h5]
    | false =>
      rw [if_pos (by simp)]
      refine ⟨_, rfl, ?_⟩
      have h5 : ¬ GP a.f0 a.f1 := fun h => by have := h2.2 h; cases this
      simp [h5]
/-- Good patterns. -/
def GPs (l : List S46) : Prop := (∀ x ∈ l, GP x.f0 x.f1) ∧ l.length ≤ 12
theorem pats_spec (l : List S46) (hl : l.length + totp2 l ≤ 1048576) (k : Nat) (hk : 1048590 < k) : ∃ b, spec_GoodPatterns.f k l = some b ∧ (b = true ↔ GPs l) := by
  unfold spec_GoodPatterns.f GPs
  exact spec_pats_l0 l [] k (by simp; omega) (by omega) (by omega)
theorem pats_impl (l : List S46) (hl : l.length + totp2 l ≤ 1048576) (k : Nat) (hk : 1048590 < k) : ∃ b, impl_arePatterns.f k l = some b ∧ (b = true ↔ GPs l) := by
  unfold impl_arePatterns.f slices_ContainsFunc__impl_arePatterns_1.f slices_IndexFunc__impl_arePatterns_1.f GPs
  by_cases e : (l.length : Int) ≤ 12
  · rw [if_pos e]
    obtain ⟨n, h1, h2⟩ := impl_pats_l0 l [] k (by simp; omega) (by omega) (by omega)
    have h1' : slices_IndexFunc__impl_arePatterns_1.l0 k l (l.length : Int) 0 = some n := h1
    rw [h1']
    simp only [Option.bind_some]
    refine ⟨_, rfl, ?_⟩
    rw [← h2]
    simp
    omega
  · rw [if_neg e]
    exact ⟨false, rfl, by simp; omega⟩

theorem rdT46_nat (l : List S46) (i : Nat) (h : i < l.length) : rd_T46 l (i : Int) = l[i] := by
  unfold rd_T46
  simp [h]
theorem rd_set (l : List Int) (i h : Nat) (v : Int) (hi : i < l.length) : rd (l.set i v) (h : Int) = if h = i then v else rd l (h : Int) := by
  unfold rd
  simp only [Int.toNat_natCast]
  by_cases e : h = i
  · rw [if_pos e, e]
    simp [hi]
  · rw [if_neg e]
    have e' : ¬ i = h := fun x => e x.symm
    simp [List.getD_eq_getElem?_getD, List.getElem?_set_ne e']
/-- How many kinds the tree at a place has. -/
def szAt (t : List Int) (h : Int) : Nat := (scan false (t.drop h.toNat) 1).getD 0
def szSum (t : List Int) : List Int → Nat
  | [] => 0
  | h :: l => szAt t h + szSum t l
theorem szSum_app (t : List Int) : ∀ (p : List Int) (a : Int), szSum t (p ++ [a]) = szSum t p + szAt t a
  | [], a => by simp [szSum]
  | b :: p, a => by simp only [List.cons_append, szSum, szSum_app t p a]; omega
theorem szSum_le (t : List Int) : ∀ (p r : List Int), szSum t p ≤ szSum t (p ++ r)
  | [], r => by simp [szSum]
  | b :: p, r => by
    have := szSum_le t p r
    simp only [List.cons_append, szSum]
    omega
theorem szAt_le (t : List Int) (h : Int) : szAt t h ≤ t.length := by
  unfold szAt
  cases hs : scan false (t.drop h.toNat) 1 with
  | none => simp
  | some c =>
    have := scan_le false _ _ c hs
    simp at this ⊢
    omega
theorem fitsF_sum (t : List Int) : ∀ (ks : List Int) (i n c : Nat) (l : List Int), scan true ks n = some ks.length → scan false (t.drop i) n = some c → fitsF t i ks = some l → szSum t l ≤ c
  | [], i, n, c, l, h1, h2, hf => by
    simp only [fitsF, Option.some.injEq] at hf
    subst hf
    simp [szSum]
  | a :: ks, i, n, c, l, h1, h2, hf => by
    cases n with
    | zero => simp [scan] at h1
    | succ n =>
      simp only [List.length_cons, scan] at h1
      split at h1
      · cases h1
      · obtain ⟨d, h3, h4⟩ := Option.map_eq_some_iff.1 h1
        have hd : d = ks.length := by simpa using h4
        subst hd
        simp only [fitsF] at hf
        by_cases e : a = 0
        · rw [if_pos e] at hf
          have h5 : scan false (t.drop i) (1 + n) = some c := by rw [Nat.add_comm]; exact h2
          obtain ⟨c1, c2, h6, h7, h8⟩ := scan_split false _ 1 n c h5
          rw [h6] at hf
          have har : ar a = 0 := by rw [e]; rfl
          rw [har] at h3
          obtain ⟨l', h9, rfl⟩ := Option.map_eq_some_iff.1 hf
          have ih := fitsF_sum t ks (i + c1) n c2 l' (by simpa using h3) (by rw [← List.drop_drop]; exact h7) h9
          have h10 : szAt t (i : Int) = c1 := by
            unfold szAt
            rw [Int.toNat_natCast, h6]
            rfl
          simp only [szSum, h10]
          omega
        · rw [if_neg e] at hf
          split at hf
          · rename_i e2
            have hlt : i < t.length := by
              have := (List.getElem?_eq_some_iff.1 e2).1
              exact this
            have hsc : scan false (t.drop (i + 1)) (n + (ar a).toNat) = some (c - 1) := by
              have e3 : t[i] = a := by rw [List.getElem?_eq_getElem hlt] at e2; exact Option.some.inj e2
              rw [List.drop_eq_getElem_cons hlt, e3] at h2
              simp only [scan] at h2
              split at h2
              · cases h2
              · obtain ⟨d, h9, h10⟩ := Option.map_eq_some_iff.1 h2
                rw [h9, ← h10]
                simp
            have ih := fitsF_sum t ks (i + 1) _ _ l h3 hsc hf
            omega
          · cases hf
theorem fitsF_sum1 (t : List Int) (ht : GT t) (i : Nat) (hi : i < t.length) (K : List Int) (c : Int) (hK : GP K c) (l : List Int) (hf : fitsF t i K = some l) : szSum t l + 1 ≤ szAt t (i : Int) := by
  obtain ⟨c1, h1⟩ := scan_at t ht.2.2 i hi
  have h0 : szAt t (i : Int) = c1 := by
    unfold szAt
    rw [Int.toNat_natCast, h1]
    rfl
  rw [h0]
  obtain ⟨g1, g2, g3, g4, _⟩ := hK
  match K, g1, g3, g4, hf with
  | a :: ks, _, g3, g4, hf =>
    have ha : ¬ a = 0 := g3
    simp only [List.length_cons, scan] at g4
    split at g4
    · cases g4
    · obtain ⟨d, h3, h4⟩ := Option.map_eq_some_iff.1 g4
      have hd : d = ks.length := by simpa using h4
      subst hd
      simp only [fitsF] at hf
      rw [if_neg ha] at hf
      split at hf
      · rename_i e2
        have hsc : scan false (t.drop (i + 1)) (0 + (ar a).toNat) = some (c1 - 1) := by
          have e3 : t[i] = a := by rw [List.getElem?_eq_getElem hi] at e2; exact Option.some.inj e2
          rw [List.drop_eq_getElem_cons hi, e3] at h1
          simp only [scan] at h1
          split at h1
          · cases h1
          · obtain ⟨d, h9, h10⟩ := Option.map_eq_some_iff.1 h1
            rw [h9, ← h10]
            simp
        have ih := fitsF_sum t ks (i + 1) _ _ l h3 hsc hf
        have := scan_pos false _ 0 c1 h1
        omega
      · cases hf
/-- What is known of the lists while place i is looked at. -/
structure CInv (t : List Int) (i : Nat) (C F : List Int) : Prop where
  lc : C.length = t.length
  lf : F.length = t.length
  b : ∀ h : Nat, h < t.length → 0 ≤ rd C (h : Int) ∧ rd C (h : Int) ≤ 100 * szAt t (h : Int)
  z : ∀ h : Nat, h < t.length → rd F (h : Int) < 0 → rd C (h : Int) = 0
  u : ∀ h : Nat, h < i → rd C (h : Int) = 0
theorem CInv.put {t : List Int} {i : Nat} {C F : List Int} (h : CInv t i C F) (hi : i < t.length) (v : Int) (m : Nat) (h0 : 0 ≤ v) (h1 : v ≤ 100 * szAt t (i : Int)) : CInv t i (C.set i v) (F.set i (m : Int)) := by
  have hlc := h.lc
  have hlf := h.lf
  refine ⟨by simp [h.lc], by simp [h.lf], fun x hx => ?_, fun x hx hf => ?_, fun x hx => ?_⟩
  · rw [rd_set C i x v (by omega)]
    split
    · rename_i e; rw [e]; exact ⟨h0, h1⟩
    · exact h.b x hx
  · rw [rd_set F i x _ (by omega)] at hf
    rw [rd_set C i x v (by omega)]
    split at hf
    · omega
    · rename_i e
      rw [if_neg e]
      exact h.z x hx hf
  · rw [rd_set C i x v (by omega), if_neg (by omega)]
    exact h.u x hx
/-- The loop over the holes: both alike. -/
theorem cov_l2 (t : List Int) (ht : t.length ≤ 40) (P : List S46) (i m : Nat) (C F : List Int) (hI : CInv t i C F) (him : i < t.length) (Q : List S46) (q7 : Int) (j : Nat) (H : List Int) (hH : ∀ h ∈ H, 0 ≤ h ∧ h < (t.length : Int)) (hHl : H.length ≤ 10) (cost : Int) (hcost : 0 ≤ cost ∧ cost ≤ 100)
    (OK : Bool) (hS : OK = true → szSum t H + 1 ≤ szAt t (i : Int)) (hS2 : szSum t H ≤ 40) :
    ∀ (r p : List Int) (ok : Bool) (s : Int) (k : Nat), H = p ++ r → r.length + 3 < k → 0 ≤ s → s ≤ cost + 100 * szSum t p → (ok = true → OK = true) →
    ∃ C' F', CInv t i C' F' ∧
      spec_l9Best.l2 k t P C F (i : Int) (m : Int) ok s Q q7 (j : Int) H (H.length : Int) (p.length : Int) = spec_l9Best.l1 (k - r.length - 1) t P C' F' (i : Int) Q q7 (wrap64 ((j : Int) + 1)) ∧
      impl_covers.l2 k t P C F (i : Int) (m : Int) ok s Q q7 (j : Int) H (H.length : Int) (p.length : Int) = impl_covers.l1 (k - r.length - 1) t P C' F' (i : Int) Q q7 (wrap64 ((j : Int) + 1))
  | [], p, ok, s, k, hHp, hk, h0, h1, hok => by
    obtain ⟨k, rfl⟩ := rounds hk
    have hpl : p.length = H.length := by rw [hHp]; simp
    have hpH : p = H := by rw [hHp]; simp
    have hlc := hI.lc
    have hlf := hI.lf
    simp only [spec_l9Best.l2, impl_covers.l2]
    have hA : ¬ (p.length : Int) < (H.length : Int) := by omega
    have hB : 0 ≤ (i : Int) := by omega
    have hD : (i : Int) < (F.length : Int) := by omega
    have hE : (i : Int) < (C.length : Int) := by omega
    simp only [if_neg hA, if_pos hB, if_pos hD, if_pos hE]
    have hti : ((i : Int)).toNat = i := by omega
    cases ok with
    | true =>
      have h2 := hS (hok rfl)
      rw [hpH] at h1
      simp only [if_true]
      by_cases e1 : rd F (i : Int) < 0
      · simp only [if_pos e1, hti]
        exact ⟨C.set i s, F.set i (m : Int), hI.put him s m h0 (by omega), rfl, rfl⟩
      · simp only [if_neg e1]
        by_cases e2 : s < rd C (i : Int)
        · simp only [if_pos e2, hti]
          exact ⟨C.set i s, F.set i (m : Int), hI.put him s m h0 (by omega), rfl, rfl⟩
        · simp only [if_neg e2]
          exact ⟨C, F, hI, rfl, rfl⟩
    | false =>
      simp only [Bool.false_eq_true, if_false]
      exact ⟨C, F, hI, rfl, rfl⟩
  | a :: r, p, ok, s, k, hHp, hk, h0, h1, hok => by
    obtain ⟨k, rfl⟩ := rounds hk
    have hlen : H.length = p.length + r.length + 1 := by rw [hHp]; exact len_app_cons p a r
    have hrd : rd H (p.length : Int) = a := by rw [hHp]; exact rd_app p a r
    have ha := hH a (by rw [hHp]; simp)
    have hlc := hI.lc
    have hlf := hI.lf
    have hsum : szSum t p + szAt t a ≤ szSum t H := by
      have hHp2 : H = (p ++ [a]) ++ r := by rw [hHp]; simp
      rw [← szSum_app, hHp2]
      exact szSum_le t _ _
    simp only [List.length_cons] at hk
    have hA : (p.length : Int) < (H.length : Int) := by omega
    have hB : 0 ≤ (p.length : Int) := by omega
    have hD : a < (F.length : Int) := by omega
    have hE : a < (C.length : Int) := by omega
    have hc : 0 ≤ rd C a ∧ rd C a ≤ 100 * szAt t a := by
      have := hI.b a.toNat (by omega)
      rwa [show ((a.toNat : Nat) : Int) = a from by omega] at this
    have hw : wrap64 (s + rd C a) = s + rd C a := w64 (by omega) (by omega)
    have hw2 : wrap64 ((p.length : Int) + 1) = (((p ++ [a]).length : Nat) : Int) := by rw [len_snoc]; exact w64 (by omega) (by omega)
    simp only [spec_l9Best.l2, impl_covers.l2]
    simp only [if_pos hA, if_pos hB, hrd, if_pos ha.1, if_pos hD, if_pos hE, hw, hw2]
    have hks : k + 1 - (r.length + 1) - 1 = k - r.length - 1 := by omega
    rw [List.length_cons, hks]
    cases ok with
    | true =>
      simp only [if_true]
      exact cov_l2 t ht P i m C F hI him Q q7 j H hH hHl cost hcost OK hS hS2 r (p ++ [a]) _ _ k (by rw [hHp]; simp) (by omega) (by omega) (by rw [szSum_app]; omega) (fun _ => hok rfl)
    | false =>
      simp only [Bool.false_eq_true, if_false]
      exact cov_l2 t ht P i m C F hI him Q q7 j H hH hHl cost hcost OK hS hS2 r (p ++ [a]) _ _ k (by rw [hHp]; simp) (by omega) (by omega) (by rw [szSum_app]; omega) (fun h => by cases h)
/-- The loop over the patterns. -/
theorem cov_l1 (t : List Int) (ht : GT t) (P : List S46) (hP : GPs P) (i : Nat) (him : i < t.length) : ∀ (r p : List S46) (C F : List Int) (k : Nat), P = p ++ r → CInv t i C F → 20 * r.length + 90 < k →
    ∃ C' F' k', CInv t i C' F' ∧ k - 20 * r.length - 1 ≤ k' ∧
      spec_l9Best.l1 k t P C F (i : Int) P (P.length : Int) (p.length : Int) = spec_l9Best.l0 k' t P C' F' (wrap64 ((i : Int) - 1)) ∧
      impl_covers.l1 k t P C F (i : Int) P (P.length : Int) (p.length : Int) = impl_covers.l0 k' t P C' F' (wrap64 ((i : Int) - 1))
  | [], p, C, F, k, hPp, hI, hk => by
    obtain ⟨k, rfl⟩ := rounds hk
    have hpl : p.length = P.length := by rw [hPp]; simp
    have hA : ¬ (p.length : Int) < (P.length : Int) := by omega
    simp only [spec_l9Best.l1, impl_covers.l1]
    simp only [if_neg hA]
    exact ⟨C, F, k, hI, by simp, rfl, rfl⟩
  | a :: r, p, C, F, k, hPp, hI, hk => by
    obtain ⟨k, rfl⟩ := rounds hk
    have hlen : P.length = p.length + r.length + 1 := by rw [hPp]; exact len_app_cons p a r
    have hrd : rd_T46 P (p.length : Int) = a := by rw [hPp]; exact rdT46 p a r
    have hga := hP.1 a (by rw [hPp]; simp)
    have hPl := hP.2
    have htl := ht.2.1
    simp only [List.length_cons] at hk
    have hA : (p.length : Int) < (P.length : Int) := by omega
    have hB : 0 ≤ (p.length : Int) := by omega
    simp only [spec_l9Best.l1, impl_covers.l1]
    simp only [if_pos hA, if_pos hB, hrd]
    obtain ⟨f1, f2⟩ := fits_good t ht i him a.f0 a.f1 hga k (by omega)
    rw [f1, f2]
    simp only [Option.bind_some]
    have hcost : 0 ≤ a.f1 ∧ a.f1 ≤ 100 := by have := hga.2.2.2.2; omega
    have hK := hga.2.1
    obtain ⟨c1, hc1⟩ := scan_at t ht.2.2 i him
    have hw : wrap64 ((p.length : Int) + 1) = (((p ++ [a]).length : Nat) : Int) := by rw [len_snoc]; exact w64 (by omega) (by omega)
    cases hf : fitsF t i a.f0 with
    | none =>
      obtain ⟨C1, F1, hI1, g1, g2⟩ := cov_l2 t htl P i p.length C F hI him P (P.length : Int) p.length [] (by simp) (by simp) a.f1 hcost false (fun h => by cases h) (by simp [szSum]) [] [] false a.f1 k rfl (by simp; omega) hcost.1 (by simp [szSum]) (fun h => h)
      obtain ⟨C2, F2, k2, hI2, hk2, g3, g4⟩ := cov_l1 t ht P hP i him r (p ++ [a]) C1 F1 (k - ([] : List Int).length - 1) (by rw [hPp]; simp) hI1 (by simp; omega)
      refine ⟨C2, F2, k2, hI2, by simp at hk2 ⊢; omega, ?_, ?_⟩
      · rw [← g3, ← hw]; exact g1
      · rw [← g4, ← hw]; exact g2
    | some l =>
      have hs := fitsF_sum1 t ht i him a.f0 a.f1 hga l hf
      have hsz := szAt_le t (i : Int)
      have hll := fitsF_len t a.f0 i l hf
      have hr := fitsF_range t a.f0 i 1 c1 l hga.2.2.2.1 hc1 (by omega) hf
      obtain ⟨C1, F1, hI1, g1, g2⟩ := cov_l2 t htl P i p.length C F hI him P (P.length : Int) p.length l (fun h hh => by have := hr h hh; omega) (by omega) a.f1 hcost true (fun _ => hs) (by omega) l [] true a.f1 k rfl (by omega) hcost.1 (by simp [szSum]) (fun h => h)
      obtain ⟨C2, F2, k2, hI2, hk2, g3, g4⟩ := cov_l1 t ht P hP i him r (p ++ [a]) C1 F1 (k - l.length - 1) (by rw [hPp]; simp) hI1 (by omega)
      refine ⟨C2, F2, k2, hI2, by simp at hk2 ⊢; omega, ?_, ?_⟩
      · rw [← g3, ← hw]; exact g1
      · rw [← g4, ← hw]; exact g2
/-- The loop over the places, from the last one on. -/
theorem cov_l0 (t : List Int) (ht : GT t) (P : List S46) (hP : GPs P) : ∀ (d : Nat) (C F : List Int) (k : Nat), d ≤ t.length → CInv t d C F → 300 * d + 400 < k →
    ∃ C' F', CInv t 0 C' F' ∧ spec_l9Best.l0 k t P C F ((d : Int) - 1) = some (C', F') ∧ impl_covers.l0 k t P C F ((d : Int) - 1) = some (C', F')
  | 0, C, F, k, hd, hI, hk => by
    obtain ⟨k, rfl⟩ := rounds hk
    have hA : ¬ ((0 : Nat) : Int) - 1 ≥ 0 := by omega
    simp only [spec_l9Best.l0, impl_covers.l0]
    simp only [if_neg hA]
    exact ⟨C, F, hI, rfl, rfl⟩
  | d + 1, C, F, k, hd, hI, hk => by
    obtain ⟨k, rfl⟩ := rounds hk
    have hlc := hI.lc
    have hlf := hI.lf
    have hPl := hP.2
    have htl := ht.2.1
    have hx : ((d + 1 : Nat) : Int) - 1 = (d : Int) := by omega
    have hA : (d : Int) ≥ 0 := by omega
    have hB : 0 ≤ (d : Int) := by omega
    have hD : (d : Int) < (F.length : Int) := by omega
    rw [hx]
    simp only [spec_l9Best.l0, impl_covers.l0]
    simp only [if_pos hA, if_pos hB, if_pos hD, show ((d : Int)).toNat = d from by omega]
    have hI1 : CInv t d C (F.set d (-1)) := by
      refine ⟨hlc, by simp [hlf], hI.b, fun x hx hf => ?_, fun x hx => hI.u x (by omega)⟩
      rw [rd_set F d x _ (by omega)] at hf
      split at hf
      · rename_i e
        rw [e]
        exact hI.u d (by omega)
      · exact hI.z x hx hf
    obtain ⟨C1, F1, k1, hI2, hk1, g1, g2⟩ := cov_l1 t ht P hP d (by omega) P [] C (F.set d (-1)) k rfl hI1 (by omega)
    have hw : wrap64 ((d : Int) - 1) = (d : Int) - 1 := w64 (by omega) (by omega)
    obtain ⟨C2, F2, hI3, g3, g4⟩ := cov_l0 t ht P hP d C1 F1 k1 (by omega) hI2 (by omega)
    refine ⟨C2, F2, hI3, ?_, ?_⟩
    · rw [← g3, ← hw]; exact g1
    · rw [← g4, ← hw]; exact g2
theorem rd_zeros (n h : Nat) : rd (List.replicate n (0 : Int)) (h : Int) = 0 := by
  unfold rd
  simp [List.getD_eq_getElem?_getD, List.getElem?_replicate]
  split <;> rfl
theorem cov_both (t : List Int) (ht : GT t) (P : List S46) (hP : GPs P) (k : Nat) (hk : 20000 < k) : ∃ C F, CInv t 0 C F ∧ spec_l9Best.f k t P = some (C, F) ∧ impl_covers.f k t P = some (C, F) := by
  have htl := ht.2.1
  have hI : CInv t t.length (List.replicate t.length 0) (List.replicate t.length 0) := by
    refine ⟨by simp, by simp, fun h _ => ?_, fun h _ _ => rd_zeros _ _, fun h _ => rd_zeros _ _⟩
    rw [rd_zeros]
    omega
  obtain ⟨C, F, h1, h2, h3⟩ := cov_l0 t ht P hP t.length _ _ k (by omega) hI (by omega)
  refine ⟨C, F, h1, ?_, ?_⟩
  · unfold spec_l9Best.f
    rw [if_pos (by omega), if_pos (by omega), w64 (by omega) (by omega)]
    exact h2
  · unfold impl_covers.f
    rw [if_pos (by omega), if_pos (by omega), w64 (by omega) (by omega)]
    exact h3

theorem cost_at (t : List Int) (a : Int) (P : List S46) (ha : (Lit.int .i64 a).wf = true) (ht : t.length ≤ 1048576) (hP : P.length + totp2 P ≤ 1048576) (k : Nat) (hk : 1048800 < k) :
    ∃ R : Int × Bool, spec_CostAt.f k t a P = some R ∧ impl_CostAt.f k t a P = some R := by
  obtain ⟨k', hk'⟩ : ∃ k', k = k' + 1 := ⟨k - 1, by omega⟩
  unfold spec_CostAt.f impl_CostAt.f
  obtain ⟨b1, e1, e1'⟩ := good_tree_spec t k (by omega) (by omega)
  obtain ⟨b2, e2, e2'⟩ := good_tree_impl t k (by omega) (by omega)
  obtain ⟨b3, e3, e3'⟩ := pats_spec P hP k (by omega)
  obtain ⟨b4, e4, e4'⟩ := pats_impl P hP k (by omega)
  rw [e1, e2]
  simp only [Option.bind_some]
  by_cases h1 : GT t
  · rw [e1'.2 h1, e2'.2 h1, if_pos rfl, if_pos rfl, e3, w64 (by omega) (by omega)]
    simp only [Option.bind_some]
    unfold impl_in.f
    by_cases h3 : GPs P
    · rw [e3'.2 h3, if_pos rfl]
      by_cases h4 : a < 0
      · rw [if_pos h4, if_neg (by omega)]
        simp only [Option.bind_some]
        rw [if_neg (by simp), hk']
        simp only [impl_CostAt.j0]
        rw [if_pos trivial]
        exact ⟨_, rfl, rfl⟩
      · rw [if_neg h4, if_pos (show a ≥ 0 by omega)]
        simp only [Option.bind_some]
        by_cases h5 : a ≥ (t.length : Int)
        · rw [if_pos h5, if_neg (by simp; omega), hk']
          simp only [impl_CostAt.j0]
          rw [if_pos trivial]
          exact ⟨_, rfl, rfl⟩
        · rw [if_neg h5, if_pos (by simp; omega), e4, e4'.2 h3]
          simp only [Option.bind_some]
          obtain ⟨C, F, hI, g1, _⟩ := cov_both t h1 P h3 k (by omega)
          obtain ⟨C', F', hI', g1', g2'⟩ := cov_both t h1 P h3 k' (by omega)
          have hmono : spec_l9Best.f (k' + 1) t P = some (C', F') := spec_l9Best.mono t P k' _ g1'
          rw [← hk', g1] at hmono
          obtain ⟨rfl, rfl⟩ := Prod.mk.inj (Option.some.inj hmono)
          have hlc := hI.lc
          have hlf := hI.lf
          rw [g1]
          simp only [Option.bind_some]
          rw [if_pos (show 0 ≤ a by omega), if_pos (by omega), if_pos (by omega), hk']
          simp only [impl_CostAt.j0]
          rw [if_neg (by simp), g2']
          simp only [Option.bind_some]
          rw [if_pos (show 0 ≤ a by omega), if_pos (by omega)]
          by_cases h6 : rd F a < 0
          · rw [if_pos h6]
            have hz := hI.z a.toNat (by omega) (by rwa [show ((a.toNat : Nat) : Int) = a from by omega])
            rw [show ((a.toNat : Nat) : Int) = a from by omega] at hz
            refine ⟨_, rfl, ?_⟩
            rw [hz]
            simp
            omega
          · rw [if_neg h6, if_pos (by omega)]
            refine ⟨_, rfl, ?_⟩
            simp
            omega
    · have h3b : b3 = false := by cases b3; rfl; exact absurd (e3'.1 rfl) h3
      have h4b : b4 = false := by cases b4; rfl; exact absurd (e4'.1 rfl) h3
      subst h3b h4b
      rw [if_neg (show ¬ (false = true) by simp)]
      refine ⟨_, rfl, ?_⟩
      by_cases h4 : a ≥ 0
      · rw [if_pos h4]
        simp only [Option.bind_some]
        rw [e4]
        simp only [Option.bind_some]
        rw [hk']
        by_cases h5 : a ≤ (t.length : Int) - 1
        · rw [if_pos (by simpa using h5)]
          simp only [impl_CostAt.j0]
          rw [if_pos (by simp)]
        · rw [if_neg (by simpa using h5)]
          simp only [impl_CostAt.j0]
          rw [if_pos (by simp)]
      · rw [if_neg h4]
        simp only [Option.bind_some]
        rw [if_neg (by simp), hk']
        simp only [impl_CostAt.j0]
        rw [if_pos (by simp)]
  · have h1b : b1 = false := by cases b1; rfl; exact absurd (e1'.1 rfl) h1
    have h2b : b2 = false := by cases b2; rfl; exact absurd (e2'.1 rfl) h1
    subst h1b h2b
    rw [if_neg (by simp), if_neg (by simp)]
    refine ⟨_, rfl, ?_⟩
    rw [hk']
    simp only [impl_CostAt.j0]
    rw [if_pos (by simp)]

theorem FnExactCostAt : laws_FnExactCostAt.Pure := by
  intro l a P ⟨hl0, hl1, _⟩ ha ⟨hP0, hP1, hP2⟩
  obtain ⟨k, hk⟩ : ∃ k, k = P.length + 3000000 := ⟨_, rfl⟩
  refine ⟨k, ?_⟩
  unfold laws_FnExactCostAt.f
  by_cases e : (l.length : Int) > 1048576
  · rw [if_pos e]
  · rw [if_neg e]
    obtain ⟨z, h1, h2⟩ := sz_pats P (by omega) (fun x hx' => by have := (hP2 x hx').1.2.1; omega) k (by omega)
    rw [h1]
    simp only [Option.bind_some]
    by_cases e2 : z < 0
    · rw [if_pos e2]
    · rw [if_neg e2]
      have hs := h2 (by omega)
      have hs2 : (P.map cP).length + totp2 (P.map cP) ≤ 1048576 := by rw [totp2_map, List.length_map]; exact hs
      rw [copy_ints l (by omega) k (by omega), to_pats P hs k (by omega)]
      simp only [Option.bind_some]
      obtain ⟨R, g1, g2⟩ := cost_at l a (P.map cP) ha (by omega) hs2 k (by omega)
      rw [g1, g2]
      simp only [Option.bind_some]
      rw [if_pos trivial]
      obtain ⟨k, rfl⟩ : ∃ k', k = k' + 1 := ⟨k - 1, by omega⟩
      simp only [laws_FnExactCostAt.j0]
      rw [if_neg (by simp), copy_ints l (by omega) k (by omega)]
      simp only [Option.bind_some]
      rw [same_ints l (by omega) k (by omega)]
      simp only [Option.bind_some]
      rw [if_pos trivial, to_pats P hs k (by omega)]
      simp only [Option.bind_some]
      rw [eq_pats _ hs2 k (by omega)]
      rfl

end Go.Proofs.Ytmmohcledhenfaa.Pure
