/- The program's IsCover answers as the reference's for all trees, patterns and pieces. Conditions: none beyond those of the given statement. -/
import Derived.Test.YtmmohcledhenfaaKit
import Derived.Test.YtmmohcledhenfaaQFnExactIsCoverx8
import Derived.Test.YtmmohcledhenfaaQFnExactIsCoverx5
import Derived.Test.YtmmohcledhenfaaQFnExactIsCoverx1
import Derived.Test.YtmmohcledhenfaaQFnExactIsCoverx6
import Derived.Test.YtmmohcledhenfaaQFnExactIsCoverx4
import Derived.Test.YtmmohcledhenfaaQFnExactIsCoverx3
import Derived.Test.YtmmohcledhenfaaQFnExactIsCoverx2
import Derived.Test.YtmmohcledhenfaaQFnExactIsCoverx7
namespace Go.Proofs.Ytmmohcledhenfaa.Pure
open Go.RowKit Go.Proofs.Ytmmohcledhenfaa.QFnExactIsCover Go.Proofs.YtmmohcledhenfaaW.PrintWords Go.Proofs.YtmmohcledhenfaaW.PrintLast Go.Proofs.Ytmmohcledhenfaa.Kit
set_option linter.unusedSimpArgs false
set_option linter.unusedVariables false

theorem copy_l0 (l : List Int) (hl : l.length ≤ 140737488355328) : ∀ (d i k : Nat) (y : List Int), i + d = l.length → d < k → y.length = l.length → y.take i = l.take i →
    laws_toIntS.l0 k l y (i : Int) = some l
  | 0, i, k, y, hd, hk, hy, ht => by
    obtain ⟨k, rfl⟩ := rounds hk
    simp only [laws_toIntS.l0]
    rw [if_neg (by omega)]
    rw [List.take_of_length_le (by omega), List.take_of_length_le (by omega)] at ht
    rw [ht]
  | d + 1, i, k, y, hd, hk, hy, ht => by
    obtain ⟨k, rfl⟩ := rounds hk
    have hi : i < l.length := by omega
    simp only [laws_toIntS.l0]
    rw [if_pos (by omega), if_pos (by omega), if_pos (by omega), w64_succ (n := l.length) (by omega) (by omega) (by omega), rd_nat l i hi]
    refine copy_l0 l hl d (i + 1) k _ (by omega) (by omega) (by simpa using hy) ?_
    rw [show ((i : Int)).toNat = i from by omega, take_set_succ _ _ _ (by omega), take_succ _ _ hi, ht]
theorem copy_ints (l : List Int) (hl : l.length ≤ 35184372088832) (k : Nat) (hk : l.length < k) : laws_toIntS.f k l = some l := by
  unfold laws_toIntS.f
  rw [if_pos (by omega), if_pos (by omega)]
  exact copy_l0 l (by omega) l.length 0 k _ (by omega) (by omega) (by simp) (by simp)

theorem same_l0 : ∀ (r p : List Int) (k : Nat), (p ++ r).length ≤ 140737488355328 → r.length < k → laws_eqIntS.l0 k (p ++ r) (p ++ r) (p.length : Int) = some true
  | [], p, k, hl, hk => by
    obtain ⟨k, rfl⟩ := rounds hk
    simp only [laws_eqIntS.l0]
    rw [if_neg (by simp)]
  | a :: r, p, k, hl, hk => by
    obtain ⟨k, rfl⟩ := rounds hk
    have hn := len_app_cons p a r
    simp only [laws_eqIntS.l0]
    rw [if_pos (by omega), if_pos (by omega), if_pos (by omega), if_pos trivial, w64_succ (n := (p ++ a :: r).length) (by omega) (by omega) (by omega), ← len_snoc p a, app_cons]
    exact same_l0 r (p ++ [a]) k (by rw [← app_cons]; omega) (by simpa using hk)
theorem same_ints (l : List Int) (hl : l.length ≤ 140737488355328) (k : Nat) (hk : l.length < k) : laws_eqIntS.f k l l = some true := by
  unfold laws_eqIntS.f
  rw [if_pos rfl]
  exact same_l0 l [] k hl hk

/-- How many trees a kind is of. -/
def ar (a : Int) : Int := if a = 0 then 0 else if a = 1 then 0 else if a = 2 then 0 else if a = 5 then 1 else if a = 3 then 2 else if a = 4 then 2 else -1
theorem ar_le (a : Int) : -1 ≤ ar a ∧ ar a ≤ 2 := by
  unfold ar
  repeat' split
  all_goals omega
theorem arity_spec (a : Int) (k : Nat) (hk : 1 < k) : spec_l9Arity.f k a = some (ar a) := by
  obtain ⟨k, rfl⟩ := rounds hk
  unfold spec_l9Arity.f ar
  by_cases h0 : a = 0
  · rw [if_pos h0, if_pos h0]
    simp [spec_l9Arity.j0, h0]
  · rw [if_neg h0, if_neg h0]
    by_cases h1 : a = 1
    · rw [if_pos h1, if_pos h1]
      simp [spec_l9Arity.j0, h1]
    · rw [if_neg h1, if_neg h1]
      by_cases h2 : a = 2
      · rw [if_pos h2]
        simp [spec_l9Arity.j0, h2]
      · rw [if_neg h2]
        simp only [spec_l9Arity.j0]
        rw [if_neg (by simpa using h2)]
        split
        · rfl
        · split
          · rfl
          · split <;> rfl
theorem arity_impl (a : Int) (k : Nat) (hk : 1 < k) : impl_below.f k a = some (ar a) := by
  obtain ⟨k, rfl⟩ := rounds hk
  unfold impl_below.f ar
  by_cases h0 : a = 0
  · rw [if_pos h0, if_pos h0]
    simp [impl_below.j0, h0]
  · rw [if_neg h0, if_neg h0]
    by_cases h1 : a = 1
    · rw [if_pos h1, if_pos h1]
      simp [impl_below.j0, h1]
    · rw [if_neg h1, if_neg h1]
      by_cases h2 : a = 2
      · rw [if_pos h2]
        simp [impl_below.j0, h2]
      · rw [if_neg h2]
        simp only [impl_below.j0]
        rw [if_neg (by simpa using h2)]
        split
        · rfl
        · split
          · rfl
          · split <;> rfl
/-- How many kinds from the front are n trees; any: whether a 0 may stand there. -/
def scan (any : Bool) : List Int → Nat → Option Nat
  | _, 0 => some 0
  | [], _ + 1 => none
  | a :: l, n + 1 => if ar a < 0 ∨ (a = 0 ∧ any = false) then none else (scan any l (n + (ar a).toNat)).map (· + 1)
theorem scan_le (any : Bool) : ∀ (l : List Int) (n c : Nat), scan any l n = some c → c ≤ l.length
  | l, 0, c, h => by
    cases l <;> simp [scan] at h <;> omega
  | [], n + 1, c, h => by simp [scan] at h
  | a :: l, n + 1, c, h => by
    simp only [scan] at h
    split at h
    · cases h
    · obtain ⟨d, h1, rfl⟩ := Option.map_eq_some_iff.1 h
      have := scan_le any l _ d h1
      simp
      exact this
/-- Where 0 may not stand. -/
theorem scan_both : ∀ (l : List Int) (n c : Nat), scan false l n = some c ↔ scan true l n = some c ∧ (0 : Int) ∉ l.take c
  | l, 0, c => by
    cases l <;> simp [scan] <;> (intro h; subst h; simp)
  | [], n + 1, c => by simp [scan]
  | a :: l, n + 1, c => by
    simp only [scan]
    by_cases h1 : ar a < 0
    · rw [if_pos (.inl h1), if_pos (.inl h1)]
      simp
    · by_cases h2 : a = 0
      · rw [if_pos (.inr ⟨h2, trivial⟩)]
        constructor
        · intro h; cases h
        · rintro ⟨h3, h4⟩
          rw [if_neg (by simp [h1])] at h3
          obtain ⟨d, h5, rfl⟩ := Option.map_eq_some_iff.1 h3
          exact absurd (by rw [h2]; simp) h4
      · rw [if_neg (by simp [h1, h2]), if_neg (by simp [h1])]
        constructor
        · intro h
          obtain ⟨d, h5, rfl⟩ := Option.map_eq_some_iff.1 h
          obtain ⟨h6, h7⟩ := (scan_both l _ d).1 h5
          refine ⟨by rw [h6]; rfl, ?_⟩
          have h2' : ¬ (0 : Int) = a := fun e => h2 e.symm
          simp [h2', h7]
        · rintro ⟨h3, h4⟩
          obtain ⟨d, h5, rfl⟩ := Option.map_eq_some_iff.1 h3
          have h2' : ¬ (0 : Int) = a := fun e => h2 e.symm
          rw [(scan_both l _ d).2 ⟨h5, by simpa [h2'] using h4⟩]
          rfl
theorem end_spec_l0 (any : Bool) : ∀ (r p : List Int) (n k : Nat), (p ++ r).length ≤ 140737488355328 → n + r.length ≤ 1000000000000000000 → r.length + 3 < k →
    spec_l9End.l0 k (p ++ r) (p.length : Int) any (n : Int) = some (match scan any r n with | none => 0 | some c => ((p.length + c : Nat) : Int))
  | r, p, 0, k, hl, hn, hk => by
    obtain ⟨k, rfl⟩ := rounds hk
    simp only [spec_l9End.l0]
    rw [if_neg (by omega)]
    cases r <;> simp [scan]
  | [], p, n + 1, k, hl, hn, hk => by
    obtain ⟨k, rfl⟩ := rounds hk
    simp only [spec_l9End.l0]
    rw [if_pos (by omega), if_pos (by simp)]
    simp [scan]
  | a :: r, p, n + 1, k, hl, hn, hk => by
    obtain ⟨k, rfl⟩ := rounds hk
    have hlen := len_app_cons p a r
    simp only [List.length_cons] at hk hn
    simp only [spec_l9End.l0]
    rw [if_pos (by omega), if_neg (by omega), if_pos (by omega), if_pos (by omega), rd_app, arity_spec a k (by omega)]
    simp only [Option.bind_some]
    have hb := ar_le a
    simp only [scan]
    by_cases h1 : ar a < 0
    · rw [if_pos h1, if_pos (.inl h1)]
    · rw [if_neg h1]
      have hw : wrap64 ((((n + 1 : Nat) : Int)) + wrap64 (ar a - 1)) = ((n + (ar a).toNat : Nat) : Int) := by
        rw [w64 (x := ar a - 1) (by omega) (by omega), w64 (by omega) (by omega)]
        omega
      have hgo : spec_l9End.l0 k (p ++ a :: r) (wrap64 ((p.length : Int) + 1)) any (wrap64 ((((n + 1 : Nat) : Int)) + wrap64 (ar a - 1))) = some (match scan any r (n + (ar a).toNat) with | none => 0 | some c => ((p.length + 1 + c : Nat) : Int)) := by
        rw [w64_succ (n := (p ++ a :: r).length) (by omega) (by omega) (by omega), hw, ← len_snoc p a, app_cons, end_spec_l0 any r (p ++ [a]) _ k (by rw [← app_cons]; omega) (by omega) (by omega)]
        simp
      by_cases h2 : a = 0
      · rw [if_pos h2]
        cases any with
        | false =>
          rw [if_neg (by simp), if_pos (.inr ⟨h2, rfl⟩)]
        | true =>
          rw [if_pos rfl]
          rw [hgo, if_neg (by simp [h1])]
          cases hs : scan true r (n + (ar a).toNat) with
          | none => rfl
          | some c =>
            show some (((p.length + 1 + c : Nat)) : Int) = some (((p.length + (c + 1) : Nat)) : Int)
            rw [Nat.add_assoc, Nat.add_comm 1 c]
      · rw [if_neg h2]
        rw [hgo, if_neg (by simp [h1, h2])]
        cases hs : scan any r (n + (ar a).toNat) with
        | none => rfl
        | some c =>
          show some (((p.length + 1 + c : Nat)) : Int) = some (((p.length + (c + 1) : Nat)) : Int)
          rw [Nat.add_assoc, Nat.add_comm 1 c]
theorem end_spec (any : Bool) (t : List Int) (p : List Int) (r : List Int) (ht : t = p ++ r) (k : Nat) (hl : t.length ≤ 140737488355328) (hk : r.length + 3 < k) :
    spec_l9End.f k t (p.length : Int) any = some (match scan any r 1 with | none => 0 | some c => ((p.length + c : Nat) : Int)) := by
  subst ht
  unfold spec_l9End.f
  have h := end_spec_l0 any r p 1 k hl (by simp at hl; omega) hk
  exact h
theorem end_impl_l0 : ∀ (r p : List Int) (n k : Nat), (p ++ r).length ≤ 140737488355328 → n + r.length ≤ 1000000000000000000 → r.length + 3 < k →
    impl_endOf.l0 k (p ++ r) (p.length : Int) (n : Int) = some (match scan true r n with | none => -1 | some c => ((p.length + c : Nat) : Int))
  | r, p, 0, k, hl, hn, hk => by
    obtain ⟨k, rfl⟩ := rounds hk
    simp only [impl_endOf.l0]
    rw [if_neg (by omega)]
    cases r <;> simp [scan]
  | [], p, n + 1, k, hl, hn, hk => by
    obtain ⟨k, rfl⟩ := rounds hk
    simp only [impl_endOf.l0]
    rw [if_pos (by omega), if_neg (by omega), if_pos (by simp)]
    simp [scan]
  | a :: r, p, n + 1, k, hl, hn, hk => by
    obtain ⟨k, rfl⟩ := rounds hk
    have hlen := len_app_cons p a r
    simp only [List.length_cons] at hk hn
    simp only [impl_endOf.l0]
    rw [if_pos (by omega), if_neg (by omega), if_neg (by omega), if_pos (by omega), if_pos (by omega), rd_app, arity_impl a k (by omega)]
    simp only [Option.bind_some]
    have hb := ar_le a
    simp only [scan]
    by_cases h1 : ar a < 0
    · rw [if_pos h1, if_pos (.inl h1)]
    · rw [if_neg h1]
      have hw : wrap64 (wrap64 ((((n + 1 : Nat) : Int)) + ar a) - 1) = ((n + (ar a).toNat : Nat) : Int) := by
        rw [w64 (x := ((n + 1 : Nat) : Int) + ar a) (by omega) (by omega), w64 (by omega) (by omega)]
        omega
      rw [w64_succ (n := (p ++ a :: r).length) (by omega) (by omega) (by omega), hw, ← len_snoc p a, app_cons, end_impl_l0 r (p ++ [a]) _ k (by rw [← app_cons]; omega) (by omega) (by omega), if_neg (by simp [h1])]
      cases hs : scan true r (n + (ar a).toNat) with
      | none => rfl
      | some c =>
        show some ((((p ++ [a]).length + c : Nat)) : Int) = some (((p.length + (c + 1) : Nat)) : Int)
        rw [List.length_append, List.length_singleton, Nat.add_assoc, Nat.add_comm 1 c]
theorem end_impl (t : List Int) (p : List Int) (r : List Int) (ht : t = p ++ r) (k : Nat) (hl : t.length ≤ 140737488355328) (hk : r.length + 3 < k) :
    impl_endOf.f k t (p.length : Int) = some (match scan true r 1 with | none => -1 | some c => ((p.length + c : Nat) : Int)) := by
  subst ht
  unfold impl_endOf.f
  have h := end_impl_l0 r p 1 k hl (by simp at hl; omega) hk
  exact h

theorem index_l0 (x : Int) : ∀ (r p : List Int) (k : Nat), (p ++ r).length ≤ 140737488355328 → r.length < k → ∃ n, slices_Index_int_int.l0 k (p ++ r) x ((p ++ r).length : Int) (p.length : Int) = some n ∧ (0 ≤ n ↔ x ∈ r)
  | [], p, k, hl, hk => by
    obtain ⟨k, rfl⟩ := rounds hk
    refine ⟨-1, ?_, ?_⟩
    · simp only [slices_Index_int_int.l0]
      rw [if_neg (by simp)]
    · simp
  | a :: r, p, k, hl, hk => by
    obtain ⟨k, rfl⟩ := rounds hk
    have hn := len_app_cons p a r
    simp only [slices_Index_int_int.l0]
    rw [if_pos (by omega), if_pos (by omega), if_pos (by omega), rd_app, w64_succ (n := (p ++ a :: r).length) (by omega) (by omega) (by omega), ← len_snoc p a, app_cons]
    by_cases e : x = a
    · rw [if_pos e]
      exact ⟨_, rfl, by simp [e]⟩
    · rw [if_neg e]
      obtain ⟨n, h1, h2⟩ := index_l0 x r (p ++ [a]) k (by rw [← app_cons]; omega) (by simpa using hk)
      exact ⟨n, h1, by simp [e, h2]⟩
theorem contains_ints (l : List Int) (x : Int) (hl : l.length ≤ 140737488355328) (k : Nat) (hk : l.length < k) : slices_Contains_int_int.f k l x = some (decide (x ∈ l)) := by
  unfold slices_Contains_int_int.f slices_Index_int_int.f
  obtain ⟨r, h1, h2⟩ := index_l0 x l [] k hl hk
  have h1' : slices_Index_int_int.l0 k l x (l.length : Int) 0 = some r := h1
  rw [h1']
  simp only [Option.bind_some]
  simp [h2]


/-- A good tree. -/
def GT (t : List Int) : Prop := 1 ≤ t.length ∧ t.length ≤ 40 ∧ scan false t 1 = some t.length
theorem good_tree_spec (t : List Int) (k : Nat) (hl : t.length ≤ 140737488355328) (hk : t.length + 3 < k) : ∃ b, spec_GoodTree.f k t = some b ∧ (b = true ↔ GT t) := by
  unfold spec_GoodTree.f spec_l1In.f GT
  by_cases e1 : (t.length : Int) ≥ 1
  · rw [if_pos e1]
    simp only [Option.bind_some]
    by_cases e2 : (t.length : Int) ≤ 40
    · rw [if_pos (by simpa using e2)]
      have h := end_spec false t [] t rfl k hl hk
      have h' : spec_l9End.f k t 0 false = _ := h
      rw [h']
      simp only [Option.bind_some]
      refine ⟨_, rfl, ?_⟩
      cases hs : scan false t 1 with
      | none => simp; omega
      | some c => simp; omega
    · rw [if_neg (by simpa using e2)]
      exact ⟨false, rfl, by simp; omega⟩
  · rw [if_neg e1]
    simp only [Option.bind_some]
    rw [if_neg (by simp)]
    exact ⟨false, rfl, by simp; omega⟩
theorem good_tree_impl (t : List Int) (k : Nat) (hl : t.length ≤ 140737488355328) (hk : t.length + 3 < k) : ∃ b, impl_isTree.f k t = some b ∧ (b = true ↔ GT t) := by
  unfold impl_isTree.f impl_in.f GT
  by_cases e1 : (t.length : Int) ≥ 1
  · rw [if_pos e1]
    simp only [Option.bind_some]
    by_cases e2 : (t.length : Int) ≤ 40
    · rw [if_pos (by simpa using e2)]
      have h := end_impl t [] t rfl k hl hk
      have h' : impl_endOf.f k t 0 = _ := h
      rw [h']
      simp only [Option.bind_some]
      have hb := scan_both t 1 t.length
      rw [List.take_length] at hb
      cases hs : scan true t 1 with
      | none =>
        rw [if_neg (by simp <;> omega)]
        refine ⟨false, rfl, ?_⟩
        rw [hb, hs]
        simp
      | some c =>
        by_cases e3 : c = t.length
        · rw [if_pos (by simp [e3]), contains_ints t 0 hl k (by omega)]
          simp only [Option.bind_some]
          refine ⟨_, rfl, ?_⟩
          have e1' : 1 ≤ t.length := by omega
          have e2' : t.length ≤ 40 := by omega
          rw [hb, hs, e3]
          simp [e1', e2']
        · rw [if_neg (by simp; omega)]
          refine ⟨false, rfl, ?_⟩
          rw [hb, hs]
          simp [e3]
    · rw [if_neg (by simpa using e2)]
      exact ⟨false, rfl, by simp; omega⟩
  · rw [if_neg e1]
    simp only [Option.bind_some]
    rw [if_neg (by simp)]
    exact ⟨false, rfl, by simp; omega⟩

/-- A good pattern. -/
def GP (l : List Int) (c : Int) : Prop := 1 ≤ l.length ∧ l.length ≤ 10 ∧ rd l 0 ≠ 0 ∧ scan true l 1 = some l.length ∧ 1 ≤ c ∧ c ≤ 100
theorem pattern_spec (l : List Int) (c : Int) (k : Nat) (hl : l.length ≤ 140737488355328) (hk : l.length + 3 < k) : ∃ b, spec_l9Pattern.f k l c = some b ∧ (b = true ↔ GP l c) := by
  unfold spec_l9Pattern.f spec_l1In.f GP
  by_cases e1 : (l.length : Int) ≥ 1
  · rw [if_pos e1]
    simp only [Option.bind_some]
    by_cases e2 : (l.length : Int) ≤ 10
    · rw [if_pos (by simpa using e2), if_pos (by omega)]
      by_cases e3 : rd l 0 = 0
      · rw [if_pos e3]
        exact ⟨false, rfl, by simp [e3]⟩
      · rw [if_neg e3]
        have h := end_spec true l [] l rfl k hl hk
        have h' : spec_l9End.f k l 0 true = _ := h
        rw [h']
        simp only [Option.bind_some]
        cases hs : scan true l 1 with
        | none =>
          rw [if_neg (by simp <;> omega)]
          exact ⟨false, rfl, by simp⟩
        | some d =>
          by_cases e4 : d = l.length
          · rw [if_pos (by simp [e4])]
            by_cases e5 : c ≥ 1
            · rw [if_pos e5]
              simp only [Option.bind_some]
              exact ⟨_, rfl, by simp [e3, e4, e5]; omega⟩
            · rw [if_neg e5]
              simp only [Option.bind_some]
              exact ⟨false, rfl, by simp; omega⟩
          · rw [if_neg (by simp; omega)]
            exact ⟨false, rfl, by simp [e4]⟩
    · rw [if_neg (by simpa using e2)]
      exact ⟨false, rfl, by simp; omega⟩
  · rw [if_neg e1]
    simp only [Option.bind_some]
    rw [if_neg (by simp)]
    exact ⟨false, rfl, by simp; omega⟩
theorem pattern_impl (l : List Int) (c : Int) (k : Nat) (hl : l.length ≤ 140737488355328) (hk : l.length + 3 < k) : ∃ b, impl_isPattern.f k l c = some b ∧ (b = true ↔ GP l c) := by
  unfold impl_isPattern.f impl_in.f GP
  by_cases e1 : (l.length : Int) ≥ 1
  · rw [if_pos e1]
    simp only [Option.bind_some]
    by_cases e2 : (l.length : Int) ≤ 10
    · rw [if_pos (by simpa using e2), if_pos (by omega)]
      by_cases e3 : rd l 0 = 0
      · rw [if_pos e3]
        exact ⟨false, rfl, by simp [e3]⟩
      · rw [if_neg e3]
        have h := end_impl l [] l rfl k hl hk
        have h' : impl_endOf.f k l 0 = _ := h
        rw [h']
        simp only [Option.bind_some]
        cases hs : scan true l 1 with
        | none =>
          rw [if_neg (by simp <;> omega)]
          exact ⟨false, rfl, by simp⟩
        | some d =>
          by_cases e4 : d = l.length
          · rw [if_pos (by simp [e4])]
            by_cases e5 : c ≥ 1
            · rw [if_pos e5]
              simp only [Option.bind_some]
              exact ⟨_, rfl, by simp [e3, e4, e5]; omega⟩
            · rw [if_neg e5]
              simp only [Option.bind_some]
              exact ⟨false, rfl, by simp; omega⟩
          · rw [if_neg (by simp; omega)]
            exact ⟨false, rfl, by simp [e4]⟩
    · rw [if_neg (by simpa using e2)]
      exact ⟨false, rfl, by simp; omega⟩
  · rw [if_neg e1]
    simp only [Option.bind_some]
    rw [if_neg (by simp)]
    exact ⟨false, rfl, by simp; omega⟩

/-- A scan of one and of others more. -/
theorem scan_split (any : Bool) : ∀ (l : List Int) (n m c : Nat), scan any l (n + m) = some c → ∃ c1 c2, scan any l n = some c1 ∧ scan any (l.drop c1) m = some c2 ∧ c = c1 + c2
  | l, 0, m, c, h => ⟨0, c, by cases l <;> rfl, by simpa using h, by omega⟩
  | [], n + 1, m, c, h => by
    rw [show n + 1 + m = (n + m) + 1 from by omega] at h
    simp [scan] at h
  | a :: l, n + 1, m, c, h => by
    rw [show n + 1 + m = (n + m) + 1 from by omega] at h
    simp only [scan] at h ⊢
    by_cases e : ar a < 0 ∨ (a = 0 ∧ any = false)
    · rw [if_pos e] at h
      cases h
    · rw [if_neg e] at h ⊢
      obtain ⟨d, h1, rfl⟩ := Option.map_eq_some_iff.1 h
      rw [show n + m + (ar a).toNat = (n + (ar a).toNat) + m from by omega] at h1
      obtain ⟨c1, c2, h2, h3, rfl⟩ := scan_split any l _ m d h1
      exact ⟨c1 + 1, c2, by rw [h2]; rfl, by simpa using h3, by omega⟩
theorem scan_pos (any : Bool) : ∀ (l : List Int) (n c : Nat), scan any l (n + 1) = some c → 1 ≤ c
  | [], n, c, h => by simp [scan] at h
  | a :: l, n, c, h => by
    simp only [scan] at h
    split at h
    · cases h
    · obtain ⟨d, _, rfl⟩ := Option.map_eq_some_iff.1 h
      omega
/-- At each place of a tree begins a tree. -/
theorem scan_suffix (any : Bool) : ∀ (i : Nat) (l : List Int) (n : Nat), scan any l n = some l.length → i < l.length → ∃ m c, scan any (l.drop i) (m + 1) = some c
  | 0, l, n, h, hi => by
    cases n with
    | zero =>
      have : l.length = 0 := by
        have h' : scan any l 0 = some 0 := by cases l <;> rfl
        rw [h'] at h
        exact (Option.some.inj h).symm
      omega
    | succ n => exact ⟨n, _, h⟩
  | i + 1, l, n, h, hi => by
    cases l with
    | nil => simp at hi
    | cons a l =>
      cases n with
      | zero => simp [scan] at h
      | succ n =>
        simp only [scan] at h
        split at h
        · cases h
        · obtain ⟨d, h1, h2⟩ := Option.map_eq_some_iff.1 h
          have hd : d = l.length := by simpa using h2
          rw [hd] at h1
          simp only [List.length_cons] at hi
          exact scan_suffix any i l _ h1 (by omega)
theorem scan_at (t : List Int) (ht : scan false t 1 = some t.length) (i : Nat) (hi : i < t.length) : ∃ c, scan false (t.drop i) 1 = some c := by
  obtain ⟨m, c, h⟩ := scan_suffix false i t 1 ht hi
  rw [Nat.add_comm] at h
  obtain ⟨c1, _, h1, _⟩ := scan_split false _ 1 m c h
  exact ⟨c1, h1⟩
/-- Where the trees stand for which any may stand: nothing where the kinds are others. -/
def fitsF (t : List Int) : Nat → List Int → Option (List Int)
  | _, [] => some []
  | i, a :: ks => if a = 0 then (match scan false (t.drop i) 1 with | none => none | some c => (fitsF t (i + c) ks).map ((i : Int) :: ·)) else if t[i]? = some a then fitsF t (i + 1) ks else none
theorem split_at (t : List Int) (i : Nat) (hi : i ≤ t.length) : t = t.take i ++ t.drop i ∧ (t.take i).length = i := ⟨(List.take_append_drop i t).symm, by simp; omega⟩
theorem end_spec_at (t : List Int) (i c : Nat) (hi : i ≤ t.length) (hs : scan false (t.drop i) 1 = some c) (k : Nat) (hl : t.length ≤ 140737488355328) (hk : t.length + 3 < k) : spec_l9End.f k t (i : Int) false = some ((i + c : Nat) : Int) := by
  obtain ⟨h1, h2⟩ := split_at t i hi
  have h := end_spec false t (t.take i) (t.drop i) h1 k hl (by simp; omega)
  rw [h2, hs] at h
  exact h
theorem end_impl_at (t : List Int) (i c : Nat) (hi : i ≤ t.length) (hs : scan false (t.drop i) 1 = some c) (k : Nat) (hl : t.length ≤ 140737488355328) (hk : t.length + 3 < k) : impl_endOf.f k t (i : Int) = some ((i + c : Nat) : Int) := by
  obtain ⟨h1, h2⟩ := split_at t i hi
  have h := end_impl t (t.take i) (t.drop i) h1 k hl (by simp; omega)
  rw [h2, ((scan_both _ 1 c).1 hs).1] at h
  exact h
theorem rd_at (t : List Int) (i : Nat) (hi : i < t.length) : rd t (i : Int) = t[i] := rd_nat t i hi
/-- The answer, out of fitsF's. -/
def fitsR (hs : List Int) : Option (List Int) → List Int × Bool
  | none => ([], false)
  | some l => (hs ++ l, true)
theorem fits_both (t : List Int) (ht : t.length ≤ 40) (K : List Int) (hK : K.length ≤ 10) : ∀ (r p : List Int) (i n c : Nat) (hs : List Int) (k : Nat), K = p ++ r → i ≤ t.length →
    scan true r n = some r.length → scan false (t.drop i) n = some c → hs.length ≤ p.length → r.length + 50 < k →
    spec_l9Fits.l0 k t (i : Int) hs K (K.length : Int) (p.length : Int) = some (fitsR hs (fitsF t i r)) ∧ impl_fits.l0 k t (i : Int) hs K (K.length : Int) (p.length : Int) = some (fitsR hs (fitsF t i r))
  | [], p, i, n, c, hs, k, hKp, hi, h1, h2, hh, hk => by
    obtain ⟨k, rfl⟩ := rounds hk
    subst hKp
    simp only [spec_l9Fits.l0, impl_fits.l0]
    rw [if_neg (by simp), if_neg (by simp)]
    simp [fitsF, fitsR]
  | a :: r, p, i, n, c, hs, k, hKp, hi, h1, h2, hh, hk => by
    obtain ⟨k, rfl⟩ := rounds hk
    have hlen : K.length = p.length + r.length + 1 := by rw [hKp]; exact len_app_cons p a r
    have hrd : rd K (p.length : Int) = a := by rw [hKp]; exact rd_app p a r
    simp only [List.length_cons] at hk h1
    cases n with
    | zero => simp [scan] at h1
    | succ n =>
      have hlt : i < t.length := by
        have h3 := scan_pos false _ n c h2
        have h4 := scan_le false _ _ c h2
        simp at h4
        omega
      simp only [scan] at h1
      split at h1
      · cases h1
      · rename_i hg
        obtain ⟨d, h3, h4⟩ := Option.map_eq_some_iff.1 h1
        have hd : d = r.length := by simpa using h4
        subst hd
        have hA : (p.length : Int) < (K.length : Int) := by omega
        have hB : 0 ≤ (p.length : Int) := by omega
        have hC : hs.length < 17592186044416 := by omega
        simp only [spec_l9Fits.l0, impl_fits.l0]
        simp only [if_pos hA, if_pos hB, hrd]
        by_cases e : a = 0
        · simp only [if_pos e, if_pos hC]
          have h5 : scan false (t.drop i) (1 + n) = some c := by rw [Nat.add_comm]; exact h2
          obtain ⟨c1, c2, h6, h7, _⟩ := scan_split false _ 1 n c h5
          have h8 := scan_le false _ _ c1 h6
          simp at h8
          rw [end_spec_at t i c1 hi h6 k (by omega) (by omega), end_impl_at t i c1 hi h6 k (by omega) (by omega)]
          simp only [Option.bind_some]
          rw [w64_succ (n := K.length) (by omega) (by omega) (by omega), ← len_snoc p a]
          have har : ar a = 0 := by rw [e]; rfl
          rw [har] at h3
          have ih := fits_both t ht K hK r (p ++ [a]) (i + c1) n c2 (hs ++ [(i : Int)]) k (by rw [hKp]; simp) (by omega) (by simpa using h3) (by rw [← List.drop_drop]; exact h7) (by simp; omega) (by omega)
          have hf : fitsF t i (a :: r) = (fitsF t (i + c1) r).map ((i : Int) :: ·) := by
            simp only [fitsF]
            rw [if_pos e, h6]
          have hr : fitsR (hs ++ [(i : Int)]) (fitsF t (i + c1) r) = fitsR hs (fitsF t i (a :: r)) := by
            rw [hf]
            cases fitsF t (i + c1) r <;> simp [fitsR]
          rw [hr] at ih
          exact ih
        · have hD : (i : Int) < (t.length : Int) := by omega
          have hE : 0 ≤ (i : Int) := by omega
          have hF : ¬ (i : Int) ≥ (t.length : Int) := by omega
          simp only [if_neg e, if_pos hD, if_pos hE, if_neg hF, rd_at t i hlt]
          by_cases e2 : t[i] = a
          · simp only [if_pos e2]
            rw [w64 (x := (p.length : Int) + 1) (by omega) (by omega), w64 (x := (i : Int) + 1) (by omega) (by omega), ← len_snoc p a]
            have hsc : scan false (t.drop (i + 1)) (n + (ar a).toNat) = some (c - 1) := by
              rw [List.drop_eq_getElem_cons hlt, e2] at h2
              simp only [scan] at h2
              split at h2
              · cases h2
              · obtain ⟨d, h9, h10⟩ := Option.map_eq_some_iff.1 h2
                rw [h9, ← h10]
                simp
            have ih := fits_both t ht K hK r (p ++ [a]) (i + 1) (n + (ar a).toNat) (c - 1) hs k (by rw [hKp]; simp) (by omega) h3 hsc (by simp; omega) (by omega)
            have hf : fitsF t i (a :: r) = fitsF t (i + 1) r := by
              simp only [fitsF]
              rw [if_neg e, if_pos (by rw [List.getElem?_eq_getElem hlt, e2])]
            rw [hf]
            exact ih
          · simp only [if_neg e2]
            have hf : fitsF t i (a :: r) = none := by
              simp only [fitsF]
              rw [if_neg e, if_neg (by rw [List.getElem?_eq_getElem hlt]; simpa using e2)]
            rw [hf]
            exact ⟨rfl, rfl⟩
/-- Both answer alike at each place of a good tree, for a good pattern. -/
theorem fits_good (t : List Int) (ht : GT t) (i : Nat) (hi : i < t.length) (K : List Int) (c : Int) (hK : GP K c) (k : Nat) (hk : 70 < k) :
    spec_l9Fits.f k t (i : Int) K c = some (fitsR [] (fitsF t i K)) ∧ impl_fits.f k t (i : Int) K c = some (fitsR [] (fitsF t i K)) := by
  unfold spec_l9Fits.f impl_fits.f
  obtain ⟨c1, h1⟩ := scan_at t ht.2.2 i hi
  have h2 := ht.2.1
  have h3 := hK.2.1
  exact fits_both t h2 K h3 K [] i 1 c1 [] k rfl (by omega) hK.2.2.2.1 h1 (by simp) (by omega)
/-- Where the holes lie. -/
theorem fitsF_range (t : List Int) : ∀ (ks : List Int) (i n c : Nat) (l : List Int), scan true ks n = some ks.length → scan false (t.drop i) n = some c → i ≤ t.length → fitsF t i ks = some l → ∀ h ∈ l, (i : Int) ≤ h ∧ h < (t.length : Int)
  | [], i, n, c, l, h1, h2, hi, hf => by
    simp only [fitsF, Option.some.injEq] at hf
    subst hf
    simp
  | a :: ks, i, n, c, l, h1, h2, hi, hf => by
    cases n with
    | zero => simp [scan] at h1
    | succ n =>
      have hlt : i < t.length := by
        have h3 := scan_pos false _ n c h2
        have h4 := scan_le false _ _ c h2
        simp at h4
        omega
      simp only [List.length_cons, scan] at h1
      split at h1
      · cases h1
      · obtain ⟨d, h3, h4⟩ := Option.map_eq_some_iff.1 h1
        have hd : d = ks.length := by simpa using h4
        subst hd
        simp only [fitsF] at hf
        by_cases e : a = 0
        · rw [if_pos e] at hf
          have h5 : scan false (t.drop i) (1 + n) = some c := by rw [Nat.add_comm]; exact h2
          obtain ⟨c1, c2, h6, h7, _⟩ := scan_split false _ 1 n c h5
          rw [h6] at hf
          have h8 := scan_le false _ _ c1 h6
          simp at h8
          have har : ar a = 0 := by rw [e]; rfl
          rw [har] at h3
          obtain ⟨l', h9, rfl⟩ := Option.map_eq_some_iff.1 hf
          have ih := fitsF_range t ks (i + c1) n c2 l' (by simpa using h3) (by rw [← List.drop_drop]; exact h7) (by omega) h9
          intro h hh
          rcases List.mem_cons.1 hh with rfl | hh
          · omega
          · have := ih h hh
            omega
        · rw [if_neg e] at hf
          split at hf
          · rename_i e2
            have hsc : scan false (t.drop (i + 1)) (n + (ar a).toNat) = some (c - 1) := by
              have e3 : t[i] = a := by rw [List.getElem?_eq_getElem hlt] at e2; exact Option.some.inj e2
              rw [List.drop_eq_getElem_cons hlt, e3] at h2
              simp only [scan] at h2
              split at h2
              · cases h2
              · obtain ⟨d, h9, h10⟩ := Option.map_eq_some_iff.1 h2
                rw [h9, ← h10]
                simp
            have ih := fitsF_range t ks (i + 1) _ _ l h3 hsc (by omega) hf
            intro h hh
            have := ih h hh
            omega
          · cases hf
theorem fitsF_len (t : List Int) : ∀ (ks : List Int) (i : Nat) (l : List Int), fitsF t i ks = some l → l.length ≤ ks.length
  | [], i, l, h => by
    simp only [fitsF, Option.some.injEq] at h
    subst h
    simp
  | a :: ks, i, l, h => by
    simp only [fitsF] at h
    split at h
    · split at h
      · cases h
      · obtain ⟨l', h1, rfl⟩ := Option.map_eq_some_iff.1 h
        have := fitsF_len t ks _ l' h1
        simp
        exact this
    · split at h
      · have := fitsF_len t ks _ l h
        simp
        omega
      · cases h

/-- A pattern of the law's own type, as the program's. -/
def cP (x : S42) : S46 := ⟨x.f0, x.f1⟩
theorem rdT42 (p : List S42) (a : S42) (r : List S42) : rd_T42 (p ++ a :: r) (p.length : Int) = a := by
  unfold rd_T42
  simp
theorem rdT46 (p : List S46) (a : S46) (r : List S46) : rd_T46 (p ++ a :: r) (p.length : Int) = a := by
  unfold rd_T46
  simp
/-- All lengths together. -/
def totp : List S42 → Nat
  | [] => 0
  | x :: r => x.f0.length + totp r
theorem totp_mem : ∀ (l : List S42) (x : S42), x ∈ l → x.f0.length ≤ totp l
  | [], _, h => by cases h
  | y :: r, x, h => by
    simp only [totp]
    rcases List.mem_cons.1 h with rfl | h
    · omega
    · have := totp_mem r x h
      omega
theorem szp_l0 : ∀ (r p : List S42) (k : Nat) (s : Int), (p ++ r).length ≤ 140737488355328 → r.length < k → (∀ x ∈ r, x.f0.length ≤ 140737488355328) → 0 ≤ s → s ≤ 1048576 →
    ∃ z, laws_szPatternS.l0 k (p ++ r) s (p.length : Int) = some z ∧ (0 ≤ z → (totp r : Int) ≤ s)
  | [], p, k, s, hl, hk, hx, h0, h1 => by
    obtain ⟨k, rfl⟩ := rounds hk
    refine ⟨s, ?_, ?_⟩
    · simp only [laws_szPatternS.l0]
      rw [if_neg (by simp)]
    · intro _; simp only [totp]; omega
  | a :: r, p, k, s, hl, hk, hx, h0, h1 => by
    obtain ⟨k, rfl⟩ := rounds hk
    have hn := len_app_cons p a r
    have ha := hx a (by simp)
    simp only [List.length_cons] at hk
    simp only [laws_szPatternS.l0, laws_szPattern.f, laws_szIntS.f]
    rw [if_pos (by omega), if_pos (by omega), rdT42, w64 (x := s - (a.f0.length : Int)) (by omega) (by omega), w64_succ (n := (p ++ a :: r).length) (by omega) (by omega) (by omega)]
    by_cases e : s - (a.f0.length : Int) < 0
    · rw [if_pos e]
      simp only [Option.bind_some]
      refine ⟨-1, by rfl, by omega⟩
    · rw [if_neg e]
      simp only [Option.bind_some]
      rw [if_neg e]
      simp only [Option.bind_some]
      rw [if_neg e, ← len_snoc p a, app_cons]
      obtain ⟨z, h2, h3⟩ := szp_l0 r (p ++ [a]) k (s - (a.f0.length : Int)) (by rw [← app_cons]; omega) (by omega) (fun x hx' => hx x (by simp [hx'])) (by omega) (by omega)
      refine ⟨z, h2, fun hz => ?_⟩
      have := h3 hz
      simp only [totp]
      omega
theorem sz_pats (l : List S42) (hl : l.length ≤ 140737488355328) (hx : ∀ x ∈ l, x.f0.length ≤ 140737488355328) (k : Nat) (hk : l.length < k) :
    ∃ z, laws_szPatternS.f k l 1048576 = some z ∧ (0 ≤ z → l.length + totp l ≤ 1048576) := by
  unfold laws_szPatternS.f
  rw [w64 (by omega) (by omega)]
  by_cases e : (1048576 : Int) - (l.length : Int) < 0
  · rw [if_pos e]
    exact ⟨-1, rfl, by omega⟩
  · rw [if_neg e]
    obtain ⟨z, h1, h2⟩ := szp_l0 l [] k (1048576 - (l.length : Int)) hl hk hx (by omega) (by omega)
    refine ⟨z, h1, fun hz => ?_⟩
    have := h2 hz
    omega
theorem top_l0 : ∀ (r p : List S42) (y : List S46) (k : Nat), (p ++ r).length ≤ 140737488355328 → r.length + totp r + 1 < k → totp r ≤ 1048576 → y.length = (p ++ r).length → y.take p.length = p.map cP →
    laws_toPatternS.l0 k (p ++ r) y (p.length : Int) = some ((p ++ r).map cP)
  | [], p, y, k, hl, hk, hx, hy, ht => by
    obtain ⟨k, rfl⟩ := rounds hk
    simp only [laws_toPatternS.l0]
    rw [if_neg (by simp)]
    rw [List.take_of_length_le (by simp at hy; omega)] at ht
    simp [ht]
  | a :: r, p, y, k, hl, hk, hx, hy, ht => by
    obtain ⟨k, rfl⟩ := rounds hk
    have hn := len_app_cons p a r
    simp only [List.length_cons, totp] at hk hx
    simp only [laws_toPatternS.l0, laws_toPattern.f]
    rw [if_pos (by omega), if_pos (by omega), rdT42, copy_ints a.f0 (by omega) k (by omega)]
    simp only [Option.bind_some]
    rw [if_pos (by omega), w64_succ (n := (p ++ a :: r).length) (by omega) (by omega) (by omega), ← len_snoc p a, app_cons, show ((p.length : Int)).toNat = p.length from by omega]
    refine top_l0 r (p ++ [a]) _ k (by rw [← app_cons]; omega) (by omega) (by omega) (by rw [← app_cons, List.length_set]; exact hy) ?_
    rw [List.length_append, List.length_singleton, take_set_succ _ _ _ (by omega), ht]
    simp [cP]
theorem to_pats (l : List S42) (hl : l.length + totp l ≤ 1048576) (k : Nat) (hk : 1048580 < k) : laws_toPatternS.f k l = some (l.map cP) := by
  unfold laws_toPatternS.f
  rw [if_pos (by omega), if_pos (by omega)]
  exact top_l0 l [] _ k (by simp; omega) (by omega) (by omega) (by simp) (by simp)
/-- All lengths together, of the program's patterns. -/
def totp2 : List S46 → Nat
  | [] => 0
  | x :: r => x.f0.length + totp2 r
theorem totp2_map : ∀ l : List S42, totp2 (l.map cP) = totp l
  | [] => rfl
  | x :: r => by simp only [List.map_cons, totp2, totp, totp2_map r, cP]
theorem eqp_l0 : ∀ (r p : List S46) (k : Nat), (p ++ r).length ≤ 140737488355328 → r.length + totp2 r + 1 < k → totp2 r ≤ 1048576 → laws_eqPatternS.l0 k (p ++ r) (p ++ r) (p.length : Int) = some true
  | [], p, k, hl, hk, hx => by
    obtain ⟨k, rfl⟩ := rounds hk
    simp only [laws_eqPatternS.l0]
    rw [if_neg (by simp)]
  | a :: r, p, k, hl, hk, hx => by
    obtain ⟨k, rfl⟩ := rounds hk
    have hn := len_app_cons p a r
    simp only [List.length_cons, totp2] at hk hx
    simp only [laws_eqPatternS.l0, laws_eqPattern.f]
    rw [if_pos (by omega), if_pos (by omega), if_pos (by omega), rdT46, same_ints a.f0 (by omega) k (by omega)]
    simp only [Option.bind_some, if_true]
    rw [w64_succ (n := (p ++ a :: r).length) (by omega) (by omega) (by omega), ← len_snoc p a, app_cons]
    exact eqp_l0 r (p ++ [a]) k (by rw [← app_cons]; omega) (by omega) (by omega)
theorem eq_pats (l : List S46) (hl : l.length + totp2 l ≤ 1048576) (k : Nat) (hk : 1048580 < k) : laws_eqPatternS.f k l l = some true := by
  unfold laws_eqPatternS.f
  rw [if_pos rfl]
  exact eqp_l0 l [] k (by simp; omega) (by omega) (by omega)
theorem szp_l0_le : ∀ (r p : List S42) (k : Nat) (s z : Int), (p ++ r).length ≤ 140737488355328 → (∀ x ∈ r, x.f0.length ≤ 140737488355328) → 0 ≤ s → s ≤ 1048576 → laws_szPatternS.l0 k (p ++ r) s (p.length : Int) = some z → z ≤ 1048576
  | r, p, 0, s, z, hl, hx, h0, h1, h => by simp [laws_szPatternS.l0] at h
  | [], p, k + 1, s, z, hl, hx, h0, h1, h => by
    simp only [laws_szPatternS.l0] at h
    rw [if_neg (by simp)] at h
    cases h
    omega
  | a :: r, p, k + 1, s, z, hl, hx, h0, h1, h => by
    have hn := len_app_cons p a r
    have ha := hx a (by simp)
    simp only [laws_szPatternS.l0, laws_szPattern.f, laws_szIntS.f] at h
    rw [if_pos (by omega), if_pos (by omega), rdT42, w64 (x := s - (a.f0.length : Int)) (by omega) (by omega), w64_succ (n := (p ++ a :: r).length) (by omega) (by omega) (by omega)] at h
    by_cases e : s - (a.f0.length : Int) < 0
    · rw [if_pos e] at h
      simp only [Option.bind_some] at h
      rw [if_pos (by omega)] at h
      simp only [Option.bind_some] at h
      rw [if_pos (by omega)] at h
      cases h
      omega
    · rw [if_neg e] at h
      simp only [Option.bind_some] at h
      rw [if_neg e] at h
      simp only [Option.bind_some] at h
      rw [if_neg e, ← len_snoc p a, app_cons] at h
      exact szp_l0_le r (p ++ [a]) k _ z (by rw [← app_cons]; omega) (fun x hx' => hx x (by simp [hx'])) (by omega) (by omega) h
theorem sz_pats_le (l : List S42) (k : Nat) (z : Int) (hl : l.length ≤ 140737488355328) (hx : ∀ x ∈ l, x.f0.length ≤ 140737488355328) (h : laws_szPatternS.f k l 1048576 = some z) : z ≤ 1048576 := by
  unfold laws_szPatternS.f at h
  rw [w64 (by omega) (by omega)] at h
  by_cases e : (1048576 : Int) - (l.length : Int) < 0
  · rw [if_pos e] at h
    cases h
    omega
  · rw [if_neg e] at h
    exact szp_l0_le l [] k _ z (by simp; omega) hx (by omega) (by omega) h

theorem spec_pats_l0 : ∀ (r p : List S46) (k : Nat), (p ++ r).length ≤ 1048576 → r.length + totp2 r + 5 < k → totp2 r ≤ 1048576 →
    ∃ b, spec_GoodPatterns.l0 k (p ++ r) (p ++ r) ((p ++ r).length : Int) (p.length : Int) = some b ∧ (b = true ↔ (∀ x ∈ r, GP x.f0 x.f1) ∧ (p ++ r).length ≤ 12)
  | [], p, k, hl, hk, hx => by
    obtain ⟨k, rfl⟩ := rounds hk
    refine ⟨decide (((p ++ []).length : Int) ≤ 12), ?_, ?_⟩
    · simp only [spec_GoodPatterns.l0]
      rw [if_neg (by simp)]
    · simp
      omega
  | a :: r, p, k, hl, hk, hx => by
    obtain ⟨k, rfl⟩ := rounds hk
    have hn := len_app_cons p a r
    simp only [List.length_cons, totp2] at hk hx
    simp only [spec_GoodPatterns.l0]
    rw [if_pos (by omega), if_pos (by omega), if_pos (by omega), rdT46]
    obtain ⟨b, h1, h2⟩ := pattern_spec a.f0 a.f1 k (by omega) (by omega)
    rw [h1]
    simp only [Option.bind_some]
    cases b with
    | true =>
      rw [if_pos rfl, w64_succ (n := (p ++ a :: r).length) (by omega) (by omega) (by omega), ← len_snoc p a, app_cons]
      obtain ⟨b, h3, h4⟩ := spec_pats_l0 r (p ++ [a]) k (by rw [← app_cons]; omega) (by omega) (by omega)
      refine ⟨b, h3, h4.trans ?_⟩
      have h5 := h2.1 rfl
      simp [h5]
    | false =>
      rw [if_neg (by simp)]
      refine ⟨false, rfl, ?_⟩
      have h5 : ¬ GP a.f0 a.f1 := fun h => by have := h2.2 h; cases this
      simp [h5]
theorem impl_pats_l0 : ∀ (r p : List S46) (k : Nat), (p ++ r).length ≤ 1048576 → r.length + totp2 r + 5 < k → totp2 r ≤ 1048576 →
    ∃ n, slices_IndexFunc__impl_arePatterns_1.l0 k (p ++ r) ((p ++ r).length : Int) (p.length : Int) = some n ∧ (n < 0 ↔ ∀ x ∈ r, GP x.f0 x.f1)
  | [], p, k, hl, hk, hx => by
    obtain ⟨k, rfl⟩ := rounds hk
    refine ⟨-1, ?_, by simp⟩
    simp only [slices_IndexFunc__impl_arePatterns_1.l0]
    rw [if_neg (by simp)]
  | a :: r, p, k, hl, hk, hx => by
    obtain ⟨k, rfl⟩ := rounds hk
    have hn := len_app_cons p a r
    simp only [List.length_cons, totp2] at hk hx
    simp only [slices_IndexFunc__impl_arePatterns_1.l0, impl_arePatterns_1.f]
    rw [if_pos (by omega), if_pos (by omega), if_pos (by omega), rdT46]
    obtain ⟨b, h1, h2⟩ := pattern_impl a.f0 a.f1 k (by omega) (by omega)
    rw [h1]
    simp only [Option.bind_some]
    cases b with
    | true =>
      rw [if_neg (by simp), w64_succ (n := (p ++ a :: r).length) (by omega) (by omega) (by omega), ← len_snoc p a, app_cons]
      obtain ⟨n, h3, h4⟩ := impl_pats_l0 r (p ++ [a]) k (by rw [← app_cons]; omega) (by omega) (by omega)
      refine ⟨n, h3, h4.trans ?_⟩
      have h5 := h2.1 rfl
      simp [h5]
    | false =>
      rw [if_pos (by simp)]
      refine ⟨_, rfl, ?_⟩
      have h5 : ¬ GP a.f0 a.f1 := fun h => by have := h2.2 h; cases this
      simp [h5]
/-- Good patterns. -/
def GPs (l : List S46) : Prop := (∀ x ∈ l, GP x.f0 x.f1) ∧ l.length ≤ 12
theorem pats_spec (l : List S46) (hl : l.length + totp2 l ≤ 1048576) (k : Nat) (hk : 1048590 < k) : ∃ b, spec_GoodPatterns.f k l = some b ∧ (b = true ↔ GPs l) := by
  unfold spec_GoodPatterns.f GPs
  exact spec_pats_l0 l [] k (by simp; omega) (by omega) (by omega)
theorem pats_impl (l : List S46) (hl : l.length + totp2 l ≤ 1048576) (k : Nat) (hk : 1048590 < k) : ∃ b, impl_arePatterns.f k l = some b ∧ (b = true ↔ GPs l) := by
  unfold impl_arePatterns.f slices_ContainsFunc__impl_arePatterns_1.f slices_IndexFunc__impl_arePatterns_1.f GPs
  by_cases e : (l.length : Int) ≤ 12
  · rw [if_pos e]
    obtain ⟨n, h1, h2⟩ := impl_pats_l0 l [] k (by simp; omega) (by omega) (by omega)
    have h1' : slices_IndexFunc__impl_arePatterns_1.l0 k l (l.length : Int) 0 = some n := h1
    rw [h1']
    simp only [Option.bind_some]
    refine ⟨_, rfl, ?_⟩
    rw [← h2]
    simp
    omega
  · rw [if_neg e]
    exact ⟨false, rfl, by simp; omega⟩

/-- A piece of the law's own type, as the program's. -/
def cI (x : S93) : S91 := ⟨x.f0, x.f1⟩
theorem rdT93 (p : List S93) (a : S93) (r : List S93) : rd_T93 (p ++ a :: r) (p.length : Int) = a := by
  unfold rd_T93
  simp
theorem rdT91 (p : List S91) (a : S91) (r : List S91) : rd_T91 (p ++ a :: r) (p.length : Int) = a := by
  unfold rd_T91
  simp
theorem toi_l0 : ∀ (r p : List S93) (y : List S91) (k : Nat), (p ++ r).length ≤ 1048576 → r.length < k → y.length = (p ++ r).length → y.take p.length = p.map cI →
    laws_toPieceS.l0 k (p ++ r) y (p.length : Int) = some ((p ++ r).map cI)
  | [], p, y, k, hl, hk, hy, ht => by
    obtain ⟨k, rfl⟩ := rounds hk
    simp only [laws_toPieceS.l0]
    rw [if_neg (by simp)]
    rw [List.take_of_length_le (by simp at hy; omega)] at ht
    simp [ht]
  | a :: r, p, y, k, hl, hk, hy, ht => by
    obtain ⟨k, rfl⟩ := rounds hk
    have hn := len_app_cons p a r
    simp only [List.length_cons] at hk
    simp only [laws_toPieceS.l0, laws_toPiece.f]
    rw [if_pos (by omega), if_pos (by omega), rdT93]
    simp only [Option.bind_some]
    rw [if_pos (by omega), w64_succ (n := (p ++ a :: r).length) (by omega) (by omega) (by omega), ← len_snoc p a, app_cons, show ((p.length : Int)).toNat = p.length from by omega]
    refine toi_l0 r (p ++ [a]) _ k (by rw [← app_cons]; omega) (by omega) (by rw [← app_cons, List.length_set]; exact hy) ?_
    rw [List.length_append, List.length_singleton, take_set_succ _ _ _ (by omega), ht]
    simp [cI]
theorem to_pieces (l : List S93) (hl : l.length ≤ 1048576) (k : Nat) (hk : 1048580 < k) : laws_toPieceS.f k l = some (l.map cI) := by
  unfold laws_toPieceS.f
  rw [if_pos (by omega), if_pos (by omega)]
  exact toi_l0 l [] _ k (by simp; omega) (by omega) (by simp) (by simp)
theorem eqi_l0 : ∀ (r p : List S91) (k : Nat), (p ++ r).length ≤ 1048576 → r.length < k → laws_eqPieceS.l0 k (p ++ r) (p ++ r) (p.length : Int) = some true
  | [], p, k, hl, hk => by
    obtain ⟨k, rfl⟩ := rounds hk
    simp only [laws_eqPieceS.l0]
    rw [if_neg (by simp)]
  | a :: r, p, k, hl, hk => by
    obtain ⟨k, rfl⟩ := rounds hk
    have hn := len_app_cons p a r
    simp only [List.length_cons] at hk
    simp only [laws_eqPieceS.l0, laws_eqPiece.f]
    rw [if_pos (by omega), if_pos (by omega), if_pos (by omega), if_pos trivial, if_pos trivial]
    simp only [Option.bind_some, if_true]
    rw [w64_succ (n := (p ++ a :: r).length) (by omega) (by omega) (by omega), ← len_snoc p a, app_cons]
    exact eqi_l0 r (p ++ [a]) k (by rw [← app_cons]; omega) (by omega)
theorem eq_pieces (l : List S91) (hl : l.length ≤ 1048576) (k : Nat) (hk : 1048580 < k) : laws_eqPieceS.f k l l = some true := by
  unfold laws_eqPieceS.f
  rw [if_pos rfl]
  exact eqi_l0 l [] k (by simp; omega) (by omega)

/-- Where the trees stand that a piece leaves, if it stands at h. -/
def mt (t : List Int) (P : List S46) (h : Int) (x : S91) : Option (List Int) :=
  if x.f0 = h ∧ 0 ≤ x.f1 ∧ x.f1 < (P.length : Int) then fitsF t h.toNat (rd_T46 P x.f1).f0 else none
/-- How many pieces from the front cover the trees at some places. -/
def consume (t : List Int) (P : List S46) : List S91 → List Int → Option Nat
  | _, [] => some 0
  | [], _ :: _ => none
  | x :: xs, h :: L => match mt t P h x with
    | none => none
    | some hs => (consume t P xs (hs ++ L)).map (· + 1)
theorem consume_nil (t : List Int) (P : List S46) (xs : List S91) : consume t P xs [] = some 0 := by cases xs <;> rfl
theorem consume_le (t : List Int) (P : List S46) : ∀ (xs : List S91) (L : List Int) (c : Nat), consume t P xs L = some c → c ≤ xs.length
  | xs, [], c, h => by
    rw [consume_nil] at h
    cases h
    omega
  | [], h' :: L, c, h => by simp [consume] at h
  | x :: xs, h' :: L, c, h => by
    simp only [consume] at h
    split at h
    · cases h
    · obtain ⟨d, h1, rfl⟩ := Option.map_eq_some_iff.1 h
      have := consume_le t P xs _ d h1
      simp
      exact this
theorem consume_split (t : List Int) (P : List S46) : ∀ (xs : List S91) (A B : List Int), consume t P xs (A ++ B) = match consume t P xs A with
    | none => none
    | some c => (consume t P (xs.drop c) B).map (c + ·)
  | xs, [], B => by
    rw [consume_nil]
    simp
  | [], h :: A, B => by simp [consume]
  | x :: xs, h :: A, B => by
    simp only [List.cons_append, consume]
    cases hm : mt t P h x with
    | none => rfl
    | some hs =>
      simp only []
      rw [← List.append_assoc, consume_split t P xs (hs ++ A) B]
      cases hc : consume t P xs (hs ++ A) with
      | none => rfl
      | some c =>
        simp only [Option.map_some, List.drop_succ_cons]
        cases consume t P (xs.drop c) B with
        | none => rfl
        | some d =>
          simp only [Option.map_some, Option.some.injEq]
          omega
/-- What a piece's place in the list of patterns gives. -/
theorem pat_at (P : List S46) (hP : GPs P) (i : Int) (h0 : 0 ≤ i) (h1 : i < (P.length : Int)) : GP (rd_T46 P i).f0 (rd_T46 P i).f1 := by
  have : rd_T46 P i = P[i.toNat]'(by omega) := by
    unfold rd_T46
    rw [List.getD_eq_getElem?_getD, List.getElem?_eq_getElem (by omega)]
    rfl
  rw [this]
  exact hP.1 _ (List.getElem_mem _)
theorem mt_range (t : List Int) (ht : GT t) (P : List S46) (hP : GPs P) (h : Int) (hh : 0 ≤ h ∧ h < (t.length : Int)) (x : S91) (hs : List Int) (hm : mt t P h x = some hs) : (∀ y ∈ hs, 0 ≤ y ∧ y < (t.length : Int)) ∧ hs.length ≤ 10 := by
  unfold mt at hm
  split at hm
  · rename_i hc
    have hg := pat_at P hP x.f1 hc.2.1 hc.2.2
    obtain ⟨c1, h1⟩ := scan_at t ht.2.2 h.toNat (by omega)
    have h2 := fitsF_range t _ h.toNat 1 c1 hs hg.2.2.2.1 h1 (by omega) hm
    have h3 := fitsF_len t _ _ hs hm
    have h4 := hg.2.1
    refine ⟨fun y hy => ?_, by omega⟩
    have := h2 y hy
    omega
  · cases hm
theorem spec_cover_l0 (t : List Int) (P : List S46) (X : List S91) (hX : X.length ≤ 1048576) (M : Nat)
    (ih : ∀ (Y : List S91), Y.length < X.length → ∀ (h : Int), (0 ≤ h ∧ h < (t.length : Int)) → ∀ k, M < k → spec_l9Cover.f k t P h Y = some (((consume t P Y [h]).getD 0 : Nat) : Int))
    (H : List Int) (hH : ∀ y ∈ H, 0 ≤ y ∧ y < (t.length : Int)) (hHl : H.length ≤ 10) : ∀ (r p : List Int) (n k : Nat), H = p ++ r → 1 ≤ n → n ≤ X.length → M + r.length + 2 < k →
    spec_l9Cover.l0 k t P X (n : Int) H (H.length : Int) (p.length : Int) = some (match consume t P (X.drop n) r with | none => 0 | some c => ((n + c : Nat) : Int))
  | [], p, n, k, hHp, h0, h1, hk => by
    obtain ⟨k, rfl⟩ := rounds hk
    have hpl : p.length = H.length := by rw [hHp]; simp
    simp only [spec_l9Cover.l0]
    rw [if_neg (by omega), consume_nil]
    simp
  | a :: r, p, n, k, hHp, h0, h1, hk => by
    obtain ⟨k, rfl⟩ := rounds hk
    have hlen : H.length = p.length + r.length + 1 := by rw [hHp]; exact len_app_cons p a r
    have hrd : rd H (p.length : Int) = a := by rw [hHp]; exact rd_app p a r
    have ha := hH a (by rw [hHp]; simp)
    simp only [List.length_cons] at hk
    have hw2 : wrap64 ((p.length : Int) + 1) = (((p ++ [a]).length : Nat) : Int) := by rw [len_snoc]; exact w64 (by omega) (by omega)
    simp only [spec_l9Cover.l0]
    rw [if_pos (by omega), if_pos (by omega), if_pos (by omega), if_pos (by omega), if_pos (by omega), hrd, show ((n : Int)).toNat = n from by omega, ih (X.drop n) (by simp; omega) a ha k (by omega)]
    simp only [Option.bind_some]
    rw [show a :: r = [a] ++ r from rfl, consume_split]
    cases hc : consume t P (X.drop n) [a] with
    | none =>
      rw [if_pos (by rfl)]
    | some c =>
      have hc0 : c ≠ 0 := by
        intro e
        rw [e] at hc
        cases hd : X.drop n with
        | nil => rw [hd] at hc; simp [consume] at hc
        | cons x xs =>
          rw [hd] at hc
          simp only [consume] at hc
          split at hc
          · cases hc
          · obtain ⟨d, _, h3⟩ := Option.map_eq_some_iff.1 hc
            omega
      have hcl := consume_le t P _ _ c hc
      simp only [List.length_drop] at hcl
      simp only [Option.getD_some]
      rw [if_neg (by omega), hw2, w64 (x := (n : Int) + (c : Int)) (by omega) (by omega), show (n : Int) + (c : Int) = ((n + c : Nat) : Int) from by omega]
      rw [spec_cover_l0 t P X hX M ih H hH hHl r (p ++ [a]) (n + c) k (by rw [hHp]; simp) (by omega) (by omega) (by omega), List.drop_drop]
      cases consume t P (X.drop (n + c)) r with
      | none => rfl
      | some d =>
        show some (((n + c + d : Nat)) : Int) = some (((n + (c + d) : Nat)) : Int)
        rw [Nat.add_assoc]
theorem spec_cover (t : List Int) (ht : GT t) (P : List S46) (hP : GPs P) : ∀ (N : Nat) (X : List S91), X.length ≤ N → X.length ≤ 1048576 → ∀ (h : Int), (0 ≤ h ∧ h < (t.length : Int)) → ∀ k, 20 * X.length + 200 < k →
    spec_l9Cover.f k t P h X = some (((consume t P X [h]).getD 0 : Nat) : Int)
  | N, [], hN, hX, h, hh, k, hk => by
    obtain ⟨k, rfl⟩ : ∃ m, k = m + 1 + 1 := ⟨k - 2, by omega⟩
    rw [spec_l9Cover.f]
    rw [if_pos (by simp)]
    rw [spec_l9Cover.j0]
    rw [if_pos rfl]
    simp [consume]
  | 0, x :: xs, hN, hX, h, hh, k, hk => by simp at hN
  | N + 1, x :: xs, hN, hX, h, hh, k, hk => by
    obtain ⟨k, rfl⟩ : ∃ m, k = m + 1 + 1 := ⟨k - 2, by omega⟩
    have hx : rd_T91 (x :: xs) 0 = x := rdT91 [] x xs
    have hPl := hP.2
    simp only [List.length_cons] at hN hX hk
    have hj : ∀ b : Bool, (b = false ↔ x.f0 = h ∧ 0 ≤ x.f1 ∧ x.f1 < (P.length : Int)) → spec_l9Cover.j0 (k + 1) t P h (x :: xs) b = some (((consume t P (x :: xs) [h]).getD 0 : Nat) : Int) := by
      intro b hb
      rw [spec_l9Cover.j0]
      cases b with
      | true =>
        rw [if_pos rfl]
        have hm : mt t P h x = none := by
          unfold mt
          rw [if_neg (fun hc => by have := hb.2 hc; cases this)]
        simp only [consume, hm]
        rfl
      | false =>
        have hc := hb.1 rfl
        have hg := pat_at P hP x.f1 hc.2.1 hc.2.2
        rw [if_neg (by simp), if_pos (by simp), hx, if_pos hc.2.1, if_pos hc.2.2]
        obtain ⟨i, rfl⟩ : ∃ i : Nat, h = (i : Int) := ⟨h.toNat, by omega⟩
        have hi : i < t.length := by omega
        rw [(fits_good t ht i hi _ _ hg k (by omega)).1]
        simp only [Option.bind_some]
        have hm : mt t P (i : Int) x = fitsF t i (rd_T46 P x.f1).f0 := by
          unfold mt
          rw [if_pos hc, Int.toNat_natCast]
        cases hf : fitsF t i (rd_T46 P x.f1).f0 with
        | none =>
          rw [hf] at hm
          rw [show fitsR [] (none : Option (List Int)) = ([], false) from rfl, if_neg (by simp)]
          simp only [consume, hm]
          rfl
        | some l =>
          rw [hf] at hm
          have hr := mt_range t ht P hP (i : Int) hh x l hm
          have hgo := spec_cover_l0 t P (x :: xs) (by simp; omega) (20 * xs.length + 200)
            (fun Y hY h' hh' k' hk' => spec_cover t ht P hP N Y (by simp at hY; omega) (by simp at hY; omega) h' hh' k' (by simp at hY; omega)) l hr.1 hr.2 l [] 1 k rfl (by omega) (by simp) (by have := hr.2; omega)
          rw [show fitsR [] (some l) = (l, true) from rfl, if_pos rfl]
          have hgo' : spec_l9Cover.l0 k t P (x :: xs) 1 l (l.length : Int) 0 = _ := hgo
          rw [hgo']
          simp only [consume, hm, List.append_nil, List.drop_succ_cons, List.drop_zero]
          cases consume t P xs l with
          | none => rfl
          | some d =>
            simp only [Option.map_some, Option.getD_some, Option.some.injEq]
            omega
    rw [spec_l9Cover.f]
    rw [if_neg (by simp; omega), if_pos (by simp), hx]
    by_cases e1 : x.f0 = h
    · rw [if_pos e1]
      by_cases e2 : x.f1 < 0
      · rw [if_pos e2]
        exact hj true (by simp; omega)
      · rw [if_neg e2]
        exact hj _ (by simp [e1]; omega)
    · rw [if_neg e1]
      exact hj true (by simp [e1])
/-- What pieces cost together. -/
def csum (P : List S46) : List S91 → Int
  | [] => 0
  | x :: xs => (rd_T46 P x.f1).f1 + csum P xs
theorem consume_all (t : List Int) (P : List S46) : ∀ (xs : List S91) (L : List Int), consume t P xs L = some xs.length → ∀ x ∈ xs, 0 ≤ x.f1 ∧ x.f1 < (P.length : Int)
  | [], L, h, x, hx => by cases hx
  | y :: xs, [], h, x, hx => by simp [consume] at h
  | y :: xs, h' :: L, h, x, hx => by
    simp only [consume] at h
    split at h
    · cases h
    · rename_i hs hm
      obtain ⟨d, h1, h2⟩ := Option.map_eq_some_iff.1 h
      have hd : d = xs.length := by simpa using h2
      subst hd
      rcases List.mem_cons.1 hx with rfl | hx
      · unfold mt at hm
        split at hm
        · rename_i hc
          exact hc.2
        · cases hm
      · exact consume_all t P xs _ h1 x hx
theorem spec_sum_l0 (P : List S46) (hP : GPs P) : ∀ (r p : List S91) (s : Int) (k : Nat), (p ++ r).length ≤ 1048576 → r.length < k → (∀ x ∈ r, 0 ≤ x.f1 ∧ x.f1 < (P.length : Int)) → 0 ≤ s → s ≤ 100 * p.length →
    spec_l9Sum.l0 k P s (p ++ r) ((p ++ r).length : Int) (p.length : Int) = some (s + csum P r)
  | [], p, s, k, hl, hk, hx, h0, h1 => by
    obtain ⟨k, rfl⟩ := rounds hk
    simp only [spec_l9Sum.l0]
    rw [if_neg (by simp)]
    simp [csum]
  | a :: r, p, s, k, hl, hk, hx, h0, h1 => by
    obtain ⟨k, rfl⟩ := rounds hk
    have hn := len_app_cons p a r
    simp only [List.length_cons] at hk
    have ha := hx a (by simp)
    have hg := (pat_at P hP a.f1 ha.1 ha.2).2.2.2.2
    simp only [spec_l9Sum.l0]
    rw [if_pos (by omega), if_pos (by omega), if_pos (by omega), rdT91, if_pos ha.1, if_pos ha.2, w64 (x := s + (rd_T46 P a.f1).f1) (by omega) (by omega), w64_succ (n := (p ++ a :: r).length) (by omega) (by omega) (by omega), ← len_snoc p a, app_cons]
    rw [spec_sum_l0 P hP r (p ++ [a]) _ k (by rw [← app_cons]; omega) (by omega) (fun x hx' => hx x (by simp [hx'])) (by omega) (by rw [len_snoc]; omega)]
    simp only [csum, Int.add_assoc]
theorem impl_cover_l0 (t : List Int) (ht : GT t) (P : List S46) (hP : GPs P) : ∀ (r p : List S91) (L : List Int) (s : Int) (k : Nat), (p ++ r).length ≤ 1048576 → 2 * r.length + 100 < k → (∀ y ∈ L, 0 ≤ y ∧ y < (t.length : Int)) → L.length ≤ 10 * p.length + 1 → 0 ≤ s → s ≤ 100 * p.length →
    impl_IsCover.l0 k t P s L (p ++ r) ((p ++ r).length : Int) (p.length : Int) = some (if consume t P r L = some r.length then (s + csum P r, true, true) else (0, false, true))
  | [], p, L, s, k, hl, hk, hL, hLl, h0, h1 => by
    obtain ⟨k, rfl⟩ := rounds hk
    simp only [impl_IsCover.l0]
    rw [if_neg (by simp)]
    cases L with
    | nil => simp [consume, csum]
    | cons h L => simp [consume]
  | x :: r, p, L, s, k, hl, hk, hL, hLl, h0, h1 => by
    obtain ⟨k, rfl⟩ : ∃ m, k = m + 1 + 1 := ⟨k - 2, by omega⟩
    have hn := len_app_cons p x r
    have hPl := hP.2
    simp only [List.length_cons] at hk
    rw [impl_IsCover.l0]
    rw [if_pos (by omega), if_pos (by omega), if_pos (by omega), rdT91]
    cases L with
    | nil =>
      rw [if_pos (by simp), impl_IsCover.j2, if_pos rfl]
      rw [consume_nil, if_neg (by simp)]
    | cons h L =>
      have hh := hL h (by simp)
      have hrd : rd (h :: L) 0 = h := rd_app [] h L
      rw [if_neg (by simp; omega), if_pos (by simp), hrd]
      have hbad : ¬ (x.f0 = h ∧ 0 ≤ x.f1 ∧ x.f1 < (P.length : Int)) → impl_IsCover.j2 (k + 1) t P s (h :: L) (p ++ x :: r) ((p ++ x :: r).length : Int) (p.length : Int) true x.f0 x.f1 = some (if consume t P (x :: r) (h :: L) = some (x :: r).length then (s + csum P (x :: r), true, true) else (0, false, true)) := by
        intro hc
        rw [impl_IsCover.j2, if_pos rfl]
        have hm : mt t P h x = none := by
          unfold mt
          rw [if_neg hc]
        simp only [consume, hm]
        rw [if_neg (by simp)]
      by_cases e1 : x.f0 = h
      · rw [if_pos e1]
        unfold impl_in.f
        by_cases e2 : x.f1 ≥ 0
        · rw [if_pos e2, w64 (x := (P.length : Int) - 1) (by omega) (by omega)]
          simp only [Option.bind_some]
          by_cases e3 : x.f1 ≤ (P.length : Int) - 1
          · have hc : x.f0 = h ∧ 0 ≤ x.f1 ∧ x.f1 < (P.length : Int) := ⟨e1, by omega, by omega⟩
            have hg := pat_at P hP x.f1 hc.2.1 hc.2.2
            rw [impl_IsCover.j2, if_neg (by simp [e3]), if_pos hc.2.1, if_pos hc.2.2, e1]
            obtain ⟨i, rfl⟩ : ∃ i : Nat, h = (i : Int) := ⟨h.toNat, by omega⟩
            have hi : i < t.length := by omega
            rw [(fits_good t ht i hi _ _ hg k (by omega)).2]
            simp only [Option.bind_some]
            have hm : mt t P (i : Int) x = fitsF t i (rd_T46 P x.f1).f0 := by
              unfold mt
              rw [if_pos hc, Int.toNat_natCast]
            cases hf : fitsF t i (rd_T46 P x.f1).f0 with
            | none =>
              rw [hf] at hm
              rw [show fitsR [] (none : Option (List Int)) = ([], false) from rfl, if_neg (by simp)]
              simp only [consume, hm]
              rw [if_neg (by simp)]
            | some l =>
              rw [hf] at hm
              have hr := mt_range t ht P hP (i : Int) hh x l hm
              have hcost := hg.2.2.2.2
              rw [show fitsR [] (some l) = (l, true) from rfl, if_pos rfl, if_pos (by simp; omega)]
              simp only [List.drop_succ_cons, List.drop_zero, Option.bind_some]
              simp only [List.length_cons] at hLl
              rw [if_pos (by have := hr.2; omega), w64 (x := s + (rd_T46 P x.f1).f1) (by omega) (by omega), w64_succ (n := (p ++ x :: r).length) (by omega) (by omega) (by omega), ← len_snoc p x, app_cons]
              rw [impl_cover_l0 t ht P hP r (p ++ [x]) (l ++ L) _ k (by rw [← app_cons]; omega) (by omega) (fun y hy => by
                rcases List.mem_append.1 hy with hy | hy
                · exact hr.1 y hy
                · exact hL y (by simp [hy])) (by simp; have := hr.2; omega) (by omega) (by rw [len_snoc]; omega)]
              simp only [consume, hm, csum, List.length_cons]
              by_cases e4 : consume t P r (l ++ L) = some r.length
              · rw [if_pos e4, if_pos (by rw [e4]; rfl), Int.add_assoc]
              · rw [if_neg e4, if_neg]
                intro h5
                obtain ⟨d, h6, h7⟩ := Option.map_eq_some_iff.1 h5
                have : d = r.length := by omega
                rw [this] at h6
                exact e4 h6
          · rw [show (!decide (x.f1 ≤ (P.length : Int) - 1)) = true from by simp; omega]
            exact hbad (by omega)
        · rw [if_neg e2]
          simp only [Option.bind_some]
          exact hbad (by omega)
      · rw [if_neg e1]
        exact hbad (fun h => e1 h.1)
theorem is_cover (t : List Int) (P : List S46) (X : List S91) (ht : t.length ≤ 1048576) (hP : P.length + totp2 P ≤ 1048576) (hX : X.length ≤ 1048576) (k : Nat) (hk : 30000000 < k) :
    ∃ R : Int × Bool × Bool, spec_IsCover.f k t P X = some R ∧ impl_IsCover.f k t P X = some R := by
  obtain ⟨k', hk'⟩ : ∃ k', k = k' + 1 := ⟨k - 1, by omega⟩
  unfold spec_IsCover.f impl_IsCover.f
  obtain ⟨b1, e1, e1'⟩ := good_tree_spec t k (by omega) (by omega)
  obtain ⟨b2, e2, e2'⟩ := good_tree_impl t k (by omega) (by omega)
  obtain ⟨b3, e3, e3'⟩ := pats_spec P hP k (by omega)
  obtain ⟨b4, e4, e4'⟩ := pats_impl P hP k (by omega)
  rw [e1, e2]
  simp only [Option.bind_some]
  by_cases h1 : GT t
  · rw [e1'.2 h1, e2'.2 h1, if_pos rfl, if_pos rfl, e3, e4]
    simp only [Option.bind_some]
    rw [hk']
    by_cases h3 : GPs P
    · rw [e3'.2 h3, e4'.2 h3]
      simp only [spec_IsCover.j0, impl_IsCover.j0]
      rw [if_neg (by simp), if_neg (by simp)]
      have ht1 := h1.1
      rw [spec_cover t h1 P h3 X.length X (Nat.le_refl _) hX 0 ⟨by omega, by omega⟩ k' (by omega)]
      have hi := impl_cover_l0 t h1 P h3 X [] [0] 0 k' hX (by omega) (by simp; omega) (by simp) (by omega) (by simp)
      have hi' : impl_IsCover.l0 k' t P 0 [0] X (X.length : Int) 0 = _ := hi
      rw [hi']
      simp only [Option.bind_some]
      refine ⟨_, ?_, rfl⟩
      cases hc : consume t P X [0] with
      | none =>
        rw [if_pos (by rfl), if_neg (by simp)]
      | some c =>
        simp only [Option.getD_some]
        by_cases h5 : c = X.length
        · subst h5
          by_cases h6 : X.length = 0
          · have hX0 : X = [] := List.length_eq_zero_iff.1 h6
            subst hX0
            simp [consume] at hc
          · rw [if_neg (by omega), if_pos rfl]
            have hall := consume_all t P X [0] hc
            unfold spec_l9Sum.f
            have hsum := spec_sum_l0 P h3 X [] 0 k' hX (by omega) hall (by omega) (by simp)
            have hsum' : spec_l9Sum.l0 k' P 0 X (X.length : Int) 0 = _ := hsum
            rw [hsum']
            simp
        · by_cases h6 : (c : Int) = 0
          · rw [if_pos h6, if_neg (by simpa using h5)]
          · rw [if_neg h6, if_neg (by omega), if_neg (by simpa using h5)]
    · have h3b : b3 = false := by cases b3; rfl; exact absurd (e3'.1 rfl) h3
      have h4b : b4 = false := by cases b4; rfl; exact absurd (e4'.1 rfl) h3
      subst h3b h4b
      simp only [spec_IsCover.j0, impl_IsCover.j0]
      rw [if_pos (by simp), if_pos (by simp)]
      exact ⟨_, rfl, rfl⟩
  · have h1b : b1 = false := by cases b1; rfl; exact absurd (e1'.1 rfl) h1
    have h2b : b2 = false := by cases b2; rfl; exact absurd (e2'.1 rfl) h1
    subst h1b h2b
    rw [if_neg (by simp), if_neg (by simp), hk']
    simp only [spec_IsCover.j0, impl_IsCover.j0]
    rw [if_pos trivial, if_pos trivial]
    exact ⟨_, rfl, rfl⟩

theorem FnExactIsCover : laws_FnExactIsCover.Pure := by
  intro l P X ⟨hl0, hl1, _⟩ ⟨hP0, hP1, hP2⟩ ⟨hX0, hX1, _⟩
  obtain ⟨k, hk⟩ : ∃ k, k = P.length + 40000000 := ⟨_, rfl⟩
  refine ⟨k, ?_⟩
  unfold laws_FnExactIsCover.f
  by_cases e : (l.length : Int) > 1048576
  · rw [if_pos e]
  · rw [if_neg e]
    obtain ⟨z, h1, h2⟩ := sz_pats P (by omega) (fun x hx' => by have := (hP2 x hx').1.2.1; omega) k (by omega)
    rw [h1]
    simp only [Option.bind_some]
    by_cases e2 : z < 0
    · rw [if_pos e2]
    · rw [if_neg e2]
      have hs := h2 (by omega)
      have hz : z ≤ 1048576 := sz_pats_le P k z (by omega) (fun x hx' => by have := (hP2 x hx').1.2.1; omega) h1
      unfold laws_szPieceS.f
      rw [w64 (by omega) (by omega)]
      by_cases e3 : z - (X.length : Int) < 0
      · rw [if_pos e3]
        rfl
      · rw [if_neg e3]
        simp only [Option.bind_some]
        rw [if_neg e3]
        have hs2 : (P.map cP).length + totp2 (P.map cP) ≤ 1048576 := by rw [totp2_map, List.length_map]; exact hs
        have hX : X.length ≤ 1048576 := by omega
        have hX2 : (X.map cI).length ≤ 1048576 := by rw [List.length_map]; exact hX
        rw [copy_ints l (by omega) k (by omega), to_pats P hs k (by omega)]
        simp only [Option.bind_some]
        rw [to_pieces X hX k (by omega)]
        simp only [Option.bind_some]
        obtain ⟨R, g1, g2⟩ := is_cover l (P.map cP) (X.map cI) (by omega) hs2 hX2 k (by omega)
        rw [g1, g2]
        simp only [Option.bind_some]
        rw [if_pos trivial, if_neg (by simp)]
        obtain ⟨k, rfl⟩ : ∃ k', k = k' + 1 := ⟨k - 1, by omega⟩
        simp only [laws_FnExactIsCover.j0]
        rw [if_neg (by simp), copy_ints l (by omega) k (by omega)]
        simp only [Option.bind_some]
        rw [same_ints l (by omega) k (by omega)]
        simp only [Option.bind_some]
        rw [if_pos trivial, to_pats P hs k (by omega)]
        simp only [Option.bind_some]
        rw [eq_pats _ hs2 k (by omega)]
        simp only [Option.bind_some]
        rw [if_pos trivial, to_pieces X hX k (by omega)]
        simp only [Option.bind_some]
        rw [eq_pieces _ hX2 k (by omega)]
        rfl

end Go.Proofs.Ytmmohcledhenfaa.Pure
