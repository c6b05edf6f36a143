/- The program's FitsAt answers as the reference's for all trees, places and patterns; it changes no argument, and its answer shares no memory. Conditions: none beyond those of the given statement. -/
import Derived.Test.YtmmohcledhenfaaKit
import Derived.Test.YtmmohcledhenfaaQFnExactFitsAtx4
import Derived.Test.YtmmohcledhenfaaQFnExactFitsAtx1
import Derived.Test.YtmmohcledhenfaaQFnExactFitsAtx2
import Derived.Test.YtmmohcledhenfaaQFnExactFitsAtx3
namespace Go.Proofs.Ytmmohcledhenfaa.Pure
open Go.RowKit Go.Proofs.Ytmmohcledhenfaa.QFnExactFitsAt Go.Proofs.YtmmohcledhenfaaW.PrintWords Go.Proofs.YtmmohcledhenfaaW.PrintLast Go.Proofs.Ytmmohcledhenfaa.Kit

theorem copy_l0 (l : List Int) (hl : l.length ≤ 140737488355328) : ∀ (d i k : Nat) (y : List Int), i + d = l.length → d < k → y.length = l.length → y.take i = l.take i →
    laws_toIntS.l0 k l y (i : Int) = some l
  | 0, i, k, y, hd, hk, hy, ht => by
    obtain ⟨k, rfl⟩ := rounds hk
    simp only [laws_toIntS.l0]
    rw [if_neg (by omega)]
    rw [List.take_of_length_le (by omega), List.take_of_length_le (by omega)] at ht
    rw [ht]
  | d + 1, i, k, y, hd, hk, hy, ht => by
    obtain ⟨k, rfl⟩ := rounds hk
    have hi : i < l.length := by omega
    simp only [laws_toIntS.l0]
    rw [if_pos (by omega), if_pos (by omega), if_pos (by omega), w64_succ (n := l.length) (by omega) (by omega) (by omega), rd_nat l i hi]
    refine copy_l0 l hl d (i + 1) k _ (by omega) (by omega) (by simpa using hy) ?_
    rw [show ((i : Int)).toNat = i from by omega, take_set_succ _ _ _ (by omega), take_succ _ _ hi, ht]
theorem copy_ints (l : List Int) (hl : l.length ≤ 35184372088832) (k : Nat) (hk : l.length < k) : laws_toIntS.f k l = some l := by
  unfold laws_toIntS.f
  rw [if_pos (by omega), if_pos (by omega)]
  exact copy_l0 l (by omega) l.length 0 k _ (by omega) (by omega) (by simp) (by simp)

theorem same_l0 : ∀ (r p : List Int) (k : Nat), (p ++ r).length ≤ 140737488355328 → r.length < k → laws_eqIntS.l0 k (p ++ r) (p ++ r) (p.length : Int) = some true
  | [], p, k, hl, hk => by
    obtain ⟨k, rfl⟩ := rounds hk
    simp only [laws_eqIntS.l0]
    rw [if_neg (by simp)]
  | a :: r, p, k, hl, hk => by
    obtain ⟨k, rfl⟩ := rounds hk
    have hn := len_app_cons p a r
    simp only [laws_eqIntS.l0]
    rw [if_pos (by omega), if_pos (by omega), if_pos (by omega), if_pos trivial, w64_succ (n := (p ++ a :: r).length) (by omega) (by omega) (by omega), ← len_snoc p a, app_cons]
    exact same_l0 r (p ++ [a]) k (by rw [← app_cons]; omega) (by simpa using hk)
theorem same_ints (l : List Int) (hl : l.length ≤ 140737488355328) (k : Nat) (hk : l.length < k) : laws_eqIntS.f k l l = some true := by
  unfold laws_eqIntS.f
  rw [if_pos rfl]
  exact same_l0 l [] k hl hk

/-- How many trees a kind is of. -/
def ar (a : Int) : Int := if a = 0 then 0 else if a = 1 then 0 else if a = 2 then 0 else if a = 5 then 1 else if a = 3 then 2 else if a = 4 then 2 else -1
theorem ar_le (a : Int) : -1 ≤ ar a ∧ ar a ≤ 2 := by
  unfold ar
  repeat' split
  all_goals omega
theorem arity_spec (a : Int) (k : Nat) (hk : 1 < k) : spec_l9Arity.f k a = some (ar a) := by
  obtain ⟨k, rfl⟩ := rounds hk
  unfold spec_l9Arity.f ar
  by_cases h0 : a = 0
  · rw [if_pos h0, if_pos h0]
    simp [spec_l9Arity.j0, h0]
  · rw [if_neg h0, if_neg h0]
    by_cases h1 : a = 1
    · rw [if_pos h1, if_pos h1]
      simp [spec_l9Arity.j0, h1]
    · rw [if_neg h1, if_neg h1]
      by_cases h2 : a = 2
      · rw [if_pos h2]
        simp [spec_l9Arity.j0, h2]
      · rw [if_neg h2]
        simp only [spec_l9Arity.j0]
        rw [if_neg (by simpa using h2)]
        split
        · rfl
        · split
          · rfl
          · split <;> rfl
theorem arity_impl (a : Int) (k : Nat) (hk : 1 < k) : impl_below.f k a = some (ar a) := by
  obtain ⟨k, rfl⟩ := rounds hk
  unfold impl_below.f ar
  by_cases h0 : a = 0
  · rw [if_pos h0, if_pos h0]
    simp [impl_below.j0, h0]
  · rw [if_neg h0, if_neg h0]
    by_cases h1 : a = 1
    · rw [if_pos h1, if_pos h1]
      simp [impl_below.j0, h1]
    · rw [if_neg h1, if_neg h1]
      by_cases h2 : a = 2
      · rw [if_pos h2]
        simp [impl_below.j0, h2]
      · rw [if_neg h2]
        simp only [impl_below.j0]
        rw [if_neg (by simpa using h2)]
        split
        · rfl
        · split
          · rfl
          · split <;> rfl
/-- How many kinds from the front are n trees; any: whether a 0 may stand there. -/
def scan (any : Bool) : List Int → Nat → Option Nat
  | _, 0 => some 0
  | [], _ + 1 => none
  | a :: l, n + 1 => if ar a < 0 ∨ (a = 0 ∧ any = false) then none else (scan any l (n + (ar a).toNat)).map (· + 1)
theorem scan_le (any : Bool) : ∀ (l : List Int) (n c : Nat), scan any l n = some c → c ≤ l.length
  | l, 0, c, h => by
    cases l <;> simp [scan] at h <;> omega
  | [], n + 1, c, h => by simp [scan] at h
  | a :: l, n + 1, c, h => by
    simp only [scan] at h
    split at h
    · cases h
    · obtain ⟨d, h1, rfl⟩ := Option.map_eq_some_iff.1 h
      have := scan_le any l _ d h1
      simp
      exact this
/-- Where 0 may not stand. -/
theorem scan_both : ∀ (l : List Int) (n c : Nat), scan false l n = some c ↔ scan true l n = some c ∧ (0 : Int) ∉ l.take c
  | l, 0, c => by
    cases l <;> simp [scan] <;> (intro h; subst h; simp)
  | [], n + 1, c => by simp [scan]
  | a :: l, n + 1, c => by
    simp only [scan]
    by_cases h1 : ar a < 0
    · rw [if_pos (.inl h1), if_pos (.inl h1)]
      simp
    · by_cases h2 : a = 0
      · rw [if_pos (.inr ⟨h2, trivial⟩)]
        constructor
        · intro h; cases h
        · rintro ⟨h3, h4⟩
          rw [if_neg (by simp [h1])] at h3
          obtain ⟨d, h5, rfl⟩ := Option.map_eq_some_iff.1 h3
          exact absurd (by rw [h2]; simp) h4
      · rw [if_neg (by simp [h1, h2]), if_neg (by simp [h1])]
        constructor
        · intro h
          obtain ⟨d, h5, rfl⟩ := Option.map_eq_some_iff.1 h
          obtain ⟨h6, h7⟩ := (scan_both l _ d).1 h5
          refine ⟨by rw [h6]; rfl, ?_⟩
          have h2' : ¬ (0 : Int) = a := fun e => h2 e.symm
          simp [h2', h7]
        · rintro ⟨h3, h4⟩
          obtain ⟨d, h5, rfl⟩ := Option.map_eq_some_iff.1 h3
          have h2' : ¬ (0 : Int) = a := fun e => h2 e.symm
          rw [(scan_both l _ d).2 ⟨h5, by simpa [h2'] using h4⟩]
          rfl
theorem end_spec_l0 (any : Bool) : ∀ (r p : List Int) (n k : Nat), (p ++ r).length ≤ 140737488355328 → n + r.length ≤ 1000000000000000000 → r.length + 3 < k →
    spec_l9End.l0 k (p ++ r) (p.length : Int) any (n : Int) = some (match scan any r n with | none => 0 | some c => ((p.length + c : Nat) : Int))
  | r, p, 0, k, hl, hn, hk => by
    obtain ⟨k, rfl⟩ := rounds hk
    simp only [spec_l9End.l0]
    rw [if_neg (by omega)]
    cases r <;> simp [scan]
  | [], p, n + 1, k, hl, hn, hk => by
    obtain ⟨k, rfl⟩ := rounds hk
    simp only [spec_l9End.l0]
    rw [if_pos (by omega), if_pos (by simp)]
    simp [scan]
  | a :: r, p, n + 1, k, hl, hn, hk => by
    obtain ⟨k, rfl⟩ := rounds hk
    have hlen := len_app_cons p a r
    simp only [List.length_cons] at hk hn
    simp only [spec_l9End.l0]
    rw [if_pos (by omega), if_neg (by omega), if_pos (by omega), if_pos (by omega), rd_app, arity_spec a k (by omega)]
    simp only [Option.bind_some]
    have hb := ar_le a
    simp only [scan]
    by_cases h1 : ar a < 0
    · rw [if_pos h1, if_pos (.inl h1)]
    · rw [if_neg h1]
      have hw : wrap64 ((((n + 1 : Nat) : Int)) + wrap64 (ar a - 1)) = ((n + (ar a).toNat : Nat) : Int) := by
        rw [w64 (x := ar a - 1) (by omega) (by omega), w64 (by omega) (by omega)]
        omega
      have hgo : spec_l9End.l0 k (p ++ a :: r) (wrap64 ((p.length : Int) + 1)) any (wrap64 ((((n + 1 : Nat) : Int)) + wrap64 (ar a - 1))) = some (match scan any r (n + (ar a).toNat) with | none => 0 | some c => ((p.length + 1 + c : Nat) : Int)) := by
        rw [w64_succ (n := (p ++ a :: r).length) (by omega) (by omega) (by omega), hw, ← len_snoc p a, app_cons, end_spec_l0 any r (p ++ [a]) _ k (by rw [← app_cons]; omega) (by omega) (by omega)]
        simp
      by_cases h2 : a = 0
      · rw [if_pos h2]
        cases any with
        | false =>
          rw [if_neg (by simp), if_pos (.inr ⟨h2, rfl⟩)]
        | true =>
          rw [if_pos rfl]
          rw [hgo, if_neg (by simp [h1])]
          cases hs : scan true r (n + (ar a).toNat) with
          | none => rfl
          | some c =>
            show some (((p.length + 1 + c : Nat)) : Int) = some (((p.length + (c + 1) : Nat)) : Int)
            rw [Nat.add_assoc, Nat.add_comm 1 c]
      · rw [if_neg h2]
        rw [hgo, if_neg (by simp [h1, h2])]
        cases hs : scan any r (n + (ar a).toNat) with
        | none => rfl
        | some c =>
          show some (((p.length + 1 + c : Nat)) : Int) = some (((p.length + (c + 1) : Nat)) : Int)
          rw [Nat.add_assoc, Nat.add_comm 1 c]
theorem end_spec (any : Bool) (t : List Int) (p : List Int) (r : List Int) (ht : t = p ++ r) (k : Nat) (hl : t.length ≤ 140737488355328) (hk : r.length + 3 < k) :
    spec_l9End.f k t (p.length : Int) any = some (match scan any r 1 with | none => 0 | some c => ((p.length + c : Nat) : Int)) := by
  subst ht
  unfold spec_l9End.f
  have h := end_spec_l0 any r p 1 k hl (by simp at hl; omega) hk
  exact h
theorem end_impl_l0 : ∀ (r p : List Int) (n k : Nat), (p ++ r).length ≤ 140737488355328 → n + r.length ≤ 1000000000000000000 → r.length + 3 < k →
    impl_endOf.l0 k (p ++ r) (p.length : Int) (n : Int) = some (match scan true r n with | none => -1 | some c => ((p.length + c : Nat) : Int))
  | r, p, 0, k, hl, hn, hk => by
    obtain ⟨k, rfl⟩ := rounds hk
    simp only [impl_endOf.l0]
    rw [if_neg (by omega)]
    cases r <;> simp [scan]
  | [], p, n + 1, k, hl, hn, hk => by
    obtain ⟨k, rfl⟩ := rounds hk
    simp only [impl_endOf.l0]
    rw [if_pos (by omega), if_neg (by omega), if_pos (by simp)]
    simp [scan]
  | a :: r, p, n + 1, k, hl, hn, hk => by
    obtain ⟨k, rfl⟩ := rounds hk
    have hlen := len_app_cons p a r
    simp only [List.length_cons] at hk hn
    simp only [impl_endOf.l0]
    rw [if_pos (by omega), if_neg (by omega), if_neg (by omega), if_pos (by omega), if_pos (by omega), rd_app, arity_impl a k (by omega)]
    simp only [Option.bind_some]
    have hb := ar_le a
    simp only [scan]
    by_cases h1 : ar a < 0
    · rw [if_pos h1, if_pos (.inl h1)]
    · rw [if_neg h1]
      have hw : wrap64 (wrap64 ((((n + 1 : Nat) : Int)) + ar a) - 1) = ((n + (ar a).toNat : Nat) : Int) := by
        rw [w64 (x := ((n + 1 : Nat) : Int) + ar a) (by omega) (by omega), w64 (by omega) (by omega)]
        omega
      rw [w64_succ (n := (p ++ a :: r).length) (by omega) (by omega) (by omega), hw, ← len_snoc p a, app_cons, end_impl_l0 r (p ++ [a]) _ k (by rw [← app_cons]; omega) (by omega) (by omega), if_neg (by simp [h1])]
      cases hs : scan true r (n + (ar a).toNat) with
      | none => rfl
      | some c =>
        show some ((((p ++ [a]).length + c : Nat)) : Int) = some (((p.length + (c + 1) : Nat)) : Int)
        rw [List.length_append, List.length_singleton, Nat.add_assoc, Nat.add_comm 1 c]
theorem end_impl (t : List Int) (p : List Int) (r : List Int) (ht : t = p ++ r) (k : Nat) (hl : t.length ≤ 140737488355328) (hk : r.length + 3 < k) :
    impl_endOf.f k t (p.length : Int) = some (match scan true r 1 with | none => -1 | some c => ((p.length + c : Nat) : Int)) := by
  subst ht
  unfold impl_endOf.f
  have h := end_impl_l0 r p 1 k hl (by simp at hl; omega) hk
  exact h

theorem index_l0 (x : Int) : ∀ (r p : List Int) (k : Nat), (p ++ r).length ≤ 140737488355328 → r.length < k → ∃ n, slices_Index_int_int.l0 k (p ++ r) x ((p ++ r).length : Int) (p.length : Int) = some n ∧ (0 ≤ n ↔ x ∈ r)
  | [], p, k, hl, hk => by
    obtain ⟨k, rfl⟩ := rounds hk
    refine ⟨-1, ?_, ?_⟩
    · simp only [slices_Index_int_int.l0]
      rw [if_neg (by simp)]
    · simp
  | a :: r, p, k, hl, hk => by
    obtain ⟨k, rfl⟩ := rounds hk
    have hn := len_app_cons p a r
    simp only [slices_Index_int_int.l0]
    rw [if_pos (by omega), if_pos (by omega), if_pos (by omega), rd_app, w64_succ (n := (p ++ a :: r).length) (by omega) (by omega) (by omega), ← len_snoc p a, app_cons]
    by_cases e : x = a
    · rw [if_pos e]
      exact ⟨_, rfl, by simp [e]⟩
    · rw [if_neg e]
      obtain ⟨n, h1, h2⟩ := index_l0 x r (p ++ [a]) k (by rw [← app_cons]; omega) (by simpa using hk)
      exact ⟨n, h1, by simp [e, h2]⟩
theorem contains_ints (l : List Int) (x : Int) (hl : l.length ≤ 140737488355328) (k : Nat) (hk : l.length < k) : slices_Contains_int_int.f k l x = some (decide (x ∈ l)) := by
  unfold slices_Contains_int_int.f slices_Index_int_int.f
  obtain ⟨r, h1, h2⟩ := index_l0 x l [] k hl hk
  have h1' : slices_Index_int_int.l0 k l x (l.length : Int) 0 = some r := h1
  rw [h1']
  simp only [Option.bind_some]
  simp [h2]


/-- A good tree. -/
def GT (t : List Int) : Prop := 1 ≤ t.length ∧ t.length ≤ 40 ∧ scan false t 1 = some t.length
theorem good_tree_spec (t : List Int) (k : Nat) (hl : t.length ≤ 140737488355328) (hk : t.length + 3 < k) : ∃ b, spec_GoodTree.f k t = some b ∧ (b = true ↔ GT t) := by
  unfold spec_GoodTree.f spec_l1In.f GT
  by_cases e1 : (t.length : Int) ≥ 1
  · rw [if_pos e1]
    simp only [Option.bind_some]
    by_cases e2 : (t.length : Int) ≤ 40
    · rw [if_pos (by simpa using e2)]
      have h := end_spec false t [] t rfl k hl hk
      have h' : spec_l9End.f k t 0 false = _ := h
      rw [h']
      simp only [Option.bind_some]
      refine ⟨_, rfl, ?_⟩
      cases hs : scan false t 1 with
      | none => simp; omega
      | some c => simp; omega
    · rw [if_neg (by simpa using e2)]
      exact ⟨false, rfl, by simp; omega⟩
  · rw [if_neg e1]
    simp only [Option.bind_some]
    rw [if_neg (by simp)]
    exact ⟨false, rfl, by simp; omega⟩
theorem good_tree_impl (t : List Int) (k : Nat) (hl : t.length ≤ 140737488355328) (hk : t.length + 3 < k) : ∃ b, impl_isTree.f k t = some b ∧ (b = true ↔ GT t) := by
  unfold impl_isTree.f impl_in.f GT
  by_cases e1 : (t.length : Int) ≥ 1
  · rw [if_pos e1]
    simp only [Option.bind_some]
    by_cases e2 : (t.length : Int) ≤ 40
    · rw [if_pos (by simpa using e2)]
      have h := end_impl t [] t rfl k hl hk
      have h' : impl_endOf.f k t 0 = _ := h
      rw [h']
      simp only [Option.bind_some]
      have hb := scan_both t 1 t.length
      rw [List.take_length] at hb
      cases hs : scan true t 1 with
      | none =>
        rw [if_neg (by simp <;> omega)]
        refine ⟨false, rfl, ?_⟩
        rw [hb, hs]
        simp
      | some c =>
        by_cases e3 : c = t.length
        · rw [if_pos (by simp [e3]), contains_ints t 0 hl k (by omega)]
          simp only [Option.bind_some]
          refine ⟨_, rfl, ?_⟩
          have e1' : 1 ≤ t.length := by omega
          have e2' : t.length ≤ 40 := by omega
          rw [hb, hs, e3]
          simp [e1', e2']
        · rw [if_neg (by simp; omega)]
          refine ⟨false, rfl, ?_⟩
          rw [hb, hs]
          simp [e3]
    · rw [if_neg (by simpa using e2)]
      exact ⟨false, rfl, by simp; omega⟩
  · rw [if_neg e1]
    simp only [Option.bind_some]
    rw [if_neg (by simp)]
    exact ⟨false, rfl, by simp; omega⟩

/-- A good pattern. -/
def GP (l : List Int) (c : Int) : Prop := 1 ≤ l.length ∧ l.length ≤ 10 ∧ rd l 0 ≠ 0 ∧ scan true l 1 = some l.length ∧ 1 ≤ c ∧ c ≤ 100
theorem pattern_spec (l : List Int) (c : Int) (k : Nat) (hl : l.length ≤ 140737488355328) (hk : l.length + 3 < k) : ∃ b, spec_l9Pattern.f k l c = some b ∧ (b = true ↔ GP l c) := by
  unfold spec_l9Pattern.f spec_l1In.f GP
  by_cases e1 : (l.length : Int) ≥ 1
  · rw [if_pos e1]
    simp only [Option.bind_some]
    by_cases e2 : (l.length : Int) ≤ 10
    · rw [if_pos (by simpa using e2), if_pos (by omega)]
      by_cases e3 : rd l 0 = 0
      · rw [if_pos e3]
        exact ⟨false, rfl, by simp [e3]⟩
      · rw [if_neg e3]
        have h := end_spec true l [] l rfl k hl hk
        have h' : spec_l9End.f k l 0 true = _ := h
        rw [h']
        simp only [Option.bind_some]
        cases hs : scan true l 1 with
        | none =>
          rw [if_neg (by simp <;> omega)]
          exact ⟨false, rfl, by simp⟩
        | some d =>
          by_cases e4 : d = l.length
          · rw [if_pos (by simp [e4])]
            by_cases e5 : c ≥ 1
            · rw [if_pos e5]
              simp only [Option.bind_some]
              exact ⟨_, rfl, by simp [e3, e4, e5]; omega⟩
            · rw [if_neg e5]
              simp only [Option.bind_some]
              exact ⟨false, rfl, by simp; omega⟩
          · rw [if_neg (by simp; omega)]
            exact ⟨false, rfl, by simp [e4]⟩
    · rw [if_neg (by simpa using e2)]
      exact ⟨false, rfl, by simp; omega⟩
  · rw [if_neg e1]
    simp only [Option.bind_some]
    rw [if_neg (by simp)]
    exact ⟨false, rfl, by simp; omega⟩
theorem pattern_impl (l : List Int) (c : Int) (k : Nat) (hl : l.length ≤ 140737488355328) (hk : l.length + 3 < k) : ∃ b, impl_isPattern.f k l c = some b ∧ (b = true ↔ GP l c) := by
  unfold impl_isPattern.f impl_in.f GP
  by_cases e1 : (l.length : Int) ≥ 1
  · rw [if_pos e1]
    simp only [Option.bind_some]
    by_cases e2 : (l.length : Int) ≤ 10
    · rw [if_pos (by simpa using e2), if_pos (by omega)]
      by_cases e3 : rd l 0 = 0
      · rw [if_pos e3]
        exact ⟨false, rfl, by simp [e3]⟩
      · rw [if_neg e3]
        have h := end_impl l [] l rfl k hl hk
        have h' : impl_endOf.f k l 0 = _ := h
        rw [h']
        simp only [Option.bind_some]
        cases hs : scan true l 1 with
        | none =>
          rw [if_neg (by simp <;> omega)]
          exact ⟨false, rfl, by simp⟩
        | some d =>
          by_cases e4 : d = l.length
          · rw [if_pos (by simp [e4])]
            by_cases e5 : c ≥ 1
            · rw [if_pos e5]
              simp only [Option.bind_some]
              exact ⟨_, rfl, by simp [e3, e4, e5]; omega⟩
            · rw [if_neg e5]
              simp only [Option.bind_some]
              exact ⟨false, rfl, by simp; omega⟩
          · rw [if_neg (by simp; omega)]
            exact ⟨false, rfl, by simp [e4]⟩
    · rw [if_neg (by simpa using e2)]
      exact ⟨false, rfl, by simp; omega⟩
  · rw [if_neg e1]
    simp only [Option.bind_some]
    rw [if_neg (by simp)]
    exact ⟨false, rfl, by simp; omega⟩

/-- A scan of one and of others more. -/
theorem scan_split (any : Bool) : ∀ (l : List Int) (n m c : Nat), scan any l (n + m) = some c → ∃ c1 c2, scan any l n = some c1 ∧ scan any (l.drop c1) m = some c2 ∧ c = c1 + c2
  | l, 0, m, c, h => ⟨0, c, by cases l <;> rfl, by simpa using h, by omega⟩
  | [], n + 1, m, c, h => by
    rw [show n + 1 + m = (n + m) + 1 from by omega] at h
    simp [scan] at h
  | a :: l, n + 1, m, c, h => by
    rw [show n + 1 + m = (n + m) + 1 from by omega] at h
    simp only [scan] at h ⊢
    by_cases e : ar a < 0 ∨ (a = 0 ∧ any = false)
    · rw [if_pos e] at h
      cases h
    · rw [if_neg e] at h ⊢
      obtain ⟨d, h1, rfl⟩ := Option.map_eq_some_iff.1 h
      rw [show n + m + (ar a).toNat = (n + (ar a).toNat) + m from by omega] at h1
      obtain ⟨c1, c2, h2, h3, rfl⟩ := scan_split any l _ m d h1
      exact ⟨c1 + 1, c2, by rw [h2]; rfl, by simpa using h3, by omega⟩
theorem scan_pos (any : Bool) : ∀ (l : List Int) (n c : Nat), scan any l (n + 1) = some c → 1 ≤ c
  | [], n, c, h => by simp [scan] at h
  | a :: l, n, c, h => by
    simp only [scan] at h
    split at h
    · cases h
    · obtain ⟨d, _, rfl⟩ := Option.map_eq_some_iff.1 h
      omega
/-- At each place of a tree begins a tree. -/
theorem scan_suffix (any : Bool) : ∀ (i : Nat) (l : List Int) (n : Nat), scan any l n = some l.length → i < l.length → ∃ m c, scan any (l.drop i) (m + 1) = some c
  | 0, l, n, h, hi => by
    cases n with
    | zero =>
      have : l.length = 0 := by
        have h' : scan any l 0 = some 0 := by cases l <;> rfl
        rw [h'] at h
        exact (Option.some.inj h).symm
      omega
    | succ n => exact ⟨n, _, h⟩
  | i + 1, l, n, h, hi => by
    cases l with
    | nil => simp at hi
    | cons a l =>
      cases n with
      | zero => simp [scan] at h
      | succ n =>
        simp only [scan] at h
        split at h
        · cases h
        · obtain ⟨d, h1, h2⟩ := Option.map_eq_some_iff.1 h
          have hd : d = l.length := by simpa using h2
          rw [hd] at h1
          simp only [List.length_cons] at hi
          exact scan_suffix any i l _ h1 (by omega)
theorem scan_at (t : List Int) (ht : scan false t 1 = some t.length) (i : Nat) (hi : i < t.length) : ∃ c, scan false (t.drop i) 1 = some c := by
  obtain ⟨m, c, h⟩ := scan_suffix false i t 1 ht hi
  rw [Nat.add_comm] at h
  obtain ⟨c1, _, h1, _⟩ := scan_split false _ 1 m c h
  exact ⟨c1, h1⟩
/-- Where the trees stand for which any may stand: nothing where the kinds are others. -/
def fitsF (t : List Int) : Nat → List Int → Option (List Int)
  | _, [] => some []
  | i, a :: ks => if a = 0 then (match scan false (t.drop i) 1 with | none => none | some c => (fitsF t (i + c) ks).map ((i : Int) :: ·)) else if t[i]? = some a then fitsF t (i + 1) ks else none
theorem split_at (t : List Int) (i : Nat) (hi : i ≤ t.length) : t = t.take i ++ t.drop i ∧ (t.take i).length = i := ⟨(List.take_append_drop i t).symm, by simp; omega⟩
theorem end_spec_at (t : List Int) (i c : Nat) (hi : i ≤ t.length) (hs : scan false (t.drop i) 1 = some c) (k : Nat) (hl : t.length ≤ 140737488355328) (hk : t.length + 3 < k) : spec_l9End.f k t (i : Int) false = some ((i + c : Nat) : Int) := by
  obtain ⟨h1, h2⟩ := split_at t i hi
  have h := end_spec false t (t.take i) (t.drop i) h1 k hl (by simp; omega)
  rw [h2, hs] at h
  exact h
theorem end_impl_at (t : List Int) (i c : Nat) (hi : i ≤ t.length) (hs : scan false (t.drop i) 1 = some c) (k : Nat) (hl : t.length ≤ 140737488355328) (hk : t.length + 3 < k) : impl_endOf.f k t (i : Int) = some ((i + c : Nat) : Int) := by
  obtain ⟨h1, h2⟩ := split_at t i hi
  have h := end_impl t (t.take i) (t.drop i) h1 k hl (by simp; omega)
  rw [h2, ((scan_both _ 1 c).1 hs).1] at h
  exact h
theorem rd_at (t : List Int) (i : Nat) (hi : i < t.length) : rd t (i : Int) = t[i] := rd_nat t i hi
/-- The answer, out of fitsF's. -/
def fitsR (hs : List Int) : Option (List Int) → List Int × Bool
  | none => ([], false)
  | some l => (hs ++ l, true)
theorem fits_both (t : List Int) (ht : t.length ≤ 40) (K : List Int) (hK : K.length ≤ 10) : ∀ (r p : List Int) (i n c : Nat) (hs : List Int) (k : Nat), K = p ++ r → i ≤ t.length →
    scan true r n = some r.length → scan false (t.drop i) n = some c → hs.length ≤ p.length → r.length + 50 < k →
    spec_l9Fits.l0 k t (i : Int) hs K (K.length : Int) (p.length : Int) = some (fitsR hs (fitsF t i r)) ∧ impl_fits.l0 k t (i : Int) hs K (K.length : Int) (p.length : Int) = some (fitsR hs (fitsF t i r))
  | [], p, i, n, c, hs, k, hKp, hi, h1, h2, hh, hk => by
    obtain ⟨k, rfl⟩ := rounds hk
    subst hKp
    simp only [spec_l9Fits.l0, impl_fits.l0]
    rw [if_neg (by simp), if_neg (by simp)]
    simp [fitsF, fitsR]
  | a :: r, p, i, n, c, hs, k, hKp, hi, h1, h2, hh, hk => by
    obtain ⟨k, rfl⟩ := rounds hk
    have hlen : K.length = p.length + r.length + 1 := by rw [hKp]; exact len_app_cons p a r
    have hrd : rd K (p.length : Int) = a := by rw [hKp]; exact rd_app p a r
    simp only [List.length_cons] at hk h1
    cases n with
    | zero => simp [scan] at h1
    | succ n =>
      have hlt : i < t.length := by
        have h3 := scan_pos false _ n c h2
        have h4 := scan_le false _ _ c h2
        simp at h4
        omega
      simp only [scan] at h1
      split at h1
      · cases h1
      · rename_i hg
        obtain ⟨d, h3, h4⟩ := Option.map_eq_some_iff.1 h1
        have hd : d = r.length := by simpa using h4
        subst hd
        have hA : (p.length : Int) < (K.length : Int) := by omega
        have hB : 0 ≤ (p.length : Int) := by omega
        have hC : hs.length < 17592186044416 := by omega
        simp only [spec_l9Fits.l0, impl_fits.l0]
        simp only [if_pos hA, if_pos hB, hrd]
        by_cases e : a = 0
        · simp only [if_pos e, if_pos hC]
          have h5 : scan false (t.drop i) (1 + n) = some c := by rw [Nat.add_comm]; exact h2
          obtain ⟨c1, c2, h6, h7, _⟩ := scan_split false _ 1 n c h5
          have h8 := scan_le false _ _ c1 h6
          simp at h8
          rw [end_spec_at t i c1 hi h6 k (by omega) (by omega), end_impl_at t i c1 hi h6 k (by omega) (by omega)]
          simp only [Option.bind_some]
          rw [w64_succ (n := K.length) (by omega) (by omega) (by omega), ← len_snoc p a]
          have har : ar a = 0 := by rw [e]; rfl
          rw [har] at h3
          have ih := fits_both t ht K hK r (p ++ [a]) (i + c1) n c2 (hs ++ [(i : Int)]) k (by rw [hKp]; simp) (by omega) (by simpa using h3) (by rw [← List.drop_drop]; exact h7) (by simp; omega) (by omega)
          have hf : fitsF t i (a :: r) = (fitsF t (i + c1) r).map ((i : Int) :: ·) := by
            simp only [fitsF]
            rw [if_pos e, h6]
          have hr : fitsR (hs ++ [(i : Int)]) (fitsF t (i + c1) r) = fitsR hs (fitsF t i (a :: r)) := by
            rw [hf]
            cases fitsF t (i + c1) r <;> simp [fitsR]
          rw [hr] at ih
          exact ih
        · have hD : (i : Int) < (t.length : Int) := by omega
          have hE : 0 ≤ (i : Int) := by omega
          have hF : ¬ (i : Int) ≥ (t.length : Int) := by omega
          simp only [if_neg e, if_pos hD, if_pos hE, if_neg hF, rd_at t i hlt]
          by_cases e2 : t[i] = a
          · simp only [if_pos e2]
            rw [w64 (x := (p.length : Int) + 1) (by omega) (by omega), w64 (x := (i : Int) + 1) (by omega) (by omega), ← len_snoc p a]
            have hsc : scan false (t.drop (i + 1)) (n + (ar a).toNat) = some (c - 1) := by
              rw [List.drop_eq_getElem_cons hlt, e2] at h2
              simp only [scan] at h2
              split at h2
              · cases h2
              · obtain ⟨d, h9, h10⟩ := Option.map_eq_some_iff.1 h2
                rw [h9, ← h10]
                simp
            have ih := fits_both t ht K hK r (p ++ [a]) (i + 1) (n + (ar a).toNat) (c - 1) hs k (by rw [hKp]; simp) (by omega) h3 hsc (by simp; omega) (by omega)
            have hf : fitsF t i (a :: r) = fitsF t (i + 1) r := by
              simp only [fitsF]
              rw [if_neg e, if_pos (by rw [List.getElem?_eq_getElem hlt, e2])]
            rw [hf]
            exact ih
          · simp only [if_neg e2]
            have hf : fitsF t i (a :: r) = none := by
              simp only [fitsF]
              rw [if_neg e, if_neg (by rw [List.getElem?_eq_getElem hlt]; simpa using e2)]
            rw [hf]
            exact ⟨rfl, rfl⟩
/-- Both answer alike at each place of a good tree, for a good pattern. -/
theorem fits_good (t : List Int) (ht : GT t) (i : Nat) (hi : i < t.length) (K : List Int) (c : Int) (hK : GP K c) (k : Nat) (hk : 70 < k) :
    spec_l9Fits.f k t (i : Int) K c = some (fitsR [] (fitsF t i K)) ∧ impl_fits.f k t (i : Int) K c = some (fitsR [] (fitsF t i K)) := by
  unfold spec_l9Fits.f impl_fits.f
  obtain ⟨c1, h1⟩ := scan_at t ht.2.2 i hi
  have h2 := ht.2.1
  have h3 := hK.2.1
  exact fits_both t h2 K h3 K [] i 1 c1 [] k rfl (by omega) hK.2.2.2.1 h1 (by simp) (by omega)
/-- Where the holes lie. -/
theorem fitsF_range (t : List Int) : ∀ (ks : List Int) (i n c : Nat) (l : List Int), scan true ks n = some ks.length → scan false (t.drop i) n = some c → i ≤ t.length → fitsF t i ks = some l → ∀ h ∈ l, (i : Int) ≤ h ∧ h < (t.length : Int)
  | [], i, n, c, l, h1, h2, hi, hf => by
    simp only [fitsF, Option.some.injEq] at hf
    subst hf
    simp
  | a :: ks, i, n, c, l, h1, h2, hi, hf => by
    cases n with
    | zero => simp [scan] at h1
    | succ n =>
      have hlt : i < t.length := by
        have h3 := scan_pos false _ n c h2
        have h4 := scan_le false _ _ c h2
        simp at h4
        omega
      simp only [List.length_cons, scan] at h1
      split at h1
      · cases h1
      · obtain ⟨d, h3, h4⟩ := Option.map_eq_some_iff.1 h1
        have hd : d = ks.length := by simpa using h4
        subst hd
        simp only [fitsF] at hf
        by_cases e : a = 0
        · rw [if_pos e] at hf
          have h5 : scan false (t.drop i) (1 + n) = some c := by rw [Nat.add_comm]; exact h2
          obtain ⟨c1, c2, h6, h7, _⟩ := scan_split false _ 1 n c h5
          rw [h6] at hf
          have h8 := scan_le false _ _ c1 h6
          simp at h8
          have har : ar a = 0 := by rw [e]; rfl
          rw [har] at h3
          obtain ⟨l', h9, rfl⟩ := Option.map_eq_some_iff.1 hf
          have ih := fitsF_range t ks (i + c1) n c2 l' (by simpa using h3) (by rw [← List.drop_drop]; exact h7) (by omega) h9
          intro h hh
          rcases List.mem_cons.1 hh with rfl | hh
          · omega
          · have := ih h hh
            omega
        · rw [if_neg e] at hf
          split at hf
          · rename_i e2
            have hsc : scan false (t.drop (i + 1)) (n + (ar a).toNat) = some (c - 1) := by
              have e3 : t[i] = a := by rw [List.getElem?_eq_getElem hlt] at e2; exact Option.some.inj e2
              rw [List.drop_eq_getElem_cons hlt, e3] at h2
              simp only [scan] at h2
              split at h2
              · cases h2
              · obtain ⟨d, h9, h10⟩ := Option.map_eq_some_iff.1 h2
                rw [h9, ← h10]
                simp
            have ih := fitsF_range t ks (i + 1) _ _ l h3 hsc (by omega) hf
            intro h hh
            have := ih h hh
            omega
          · cases hf
theorem fitsF_len (t : List Int) : ∀ (ks : List Int) (i : Nat) (l : List Int), fitsF t i ks = some l → l.length ≤ ks.length
  | [], i, l, h => by
    simp only [fitsF, Option.some.injEq] at h
    subst h
    simp
  | a :: ks, i, l, h => by
    simp only [fitsF] at h
    split at h
    · split at h
      · cases h
      · obtain ⟨l', h1, rfl⟩ := Option.map_eq_some_iff.1 h
        have := fitsF_len t ks _ l' h1
        simp
        exact this
    · split at h
      · have := fitsF_len t ks _ l h
        simp
        omega
      · cases h

/-- Both FitsAt answer alike, and no more than ten places. -/
theorem fits_at (t : List Int) (a : Int) (K : List Int) (c : Int) (ha : (Lit.int .i64 a).wf = true) (ht : t.length ≤ 1048576) (hK : K.length ≤ 1048576) :
    ∃ R : Bool × List Int × Bool, R.2.1.length ≤ 10 ∧ ∀ k, 1048700 < k → spec_FitsAt.f k t a K c = some R ∧ impl_FitsAt.f k t a K c = some R := by
  by_cases h1 : GT t
  · by_cases h2 : 0 ≤ a ∧ a < (t.length : Int)
    · by_cases h3 : GP K c
      · obtain ⟨i, rfl⟩ : ∃ i : Nat, a = (i : Int) := ⟨a.toNat, by omega⟩
        have hi : i < t.length := by omega
        refine ⟨((fitsR [] (fitsF t i K)).2, (fitsR [] (fitsF t i K)).1, true), ?_, fun k hk => ?_⟩
        · cases hf : fitsF t i K with
          | none => simp [fitsR]
          | some l =>
            have := fitsF_len t K i l hf
            have := h3.2.1
            simp [fitsR]
            omega
        · unfold spec_FitsAt.f impl_FitsAt.f
          obtain ⟨b1, e1, e1'⟩ := good_tree_spec t k (by omega) (by omega)
          obtain ⟨b2, e2, e2'⟩ := good_tree_impl t k (by omega) (by omega)
          obtain ⟨b3, e3, e3'⟩ := pattern_spec K c k (by omega) (by omega)
          obtain ⟨b4, e4, e4'⟩ := pattern_impl K c k (by omega) (by omega)
          rw [e1, e2, e1'.2 h1, e2'.2 h1]
          simp only [Option.bind_some]
          obtain ⟨f1, f2⟩ := fits_good t h1 i hi K c h3 k (by omega)
          rw [if_pos trivial, if_pos trivial, if_neg (by omega), if_neg (by omega), e3, e3'.2 h3, w64 (by omega) (by omega)]
          unfold impl_in.f
          rw [if_pos (by omega)]
          simp only [Option.bind_some]
          rw [if_pos trivial, if_pos (by simp; omega), e4, e4'.2 h3]
          simp only [Option.bind_some]
          rw [if_pos trivial, f1, f2]
          first | exact ⟨rfl, rfl⟩ | exact ⟨trivial, rfl⟩ | simp
      · refine ⟨(false, [], false), by simp, fun k hk => ?_⟩
        unfold spec_FitsAt.f impl_FitsAt.f
        obtain ⟨b1, e1, e1'⟩ := good_tree_spec t k (by omega) (by omega)
        obtain ⟨b2, e2, e2'⟩ := good_tree_impl t k (by omega) (by omega)
        obtain ⟨b3, e3, e3'⟩ := pattern_spec K c k (by omega) (by omega)
        obtain ⟨b4, e4, e4'⟩ := pattern_impl K c k (by omega) (by omega)
        have h3b : b3 = false := by cases b3; rfl; exact absurd (e3'.1 rfl) h3
        have h4b : b4 = false := by cases b4; rfl; exact absurd (e4'.1 rfl) h3
        subst h3b h4b
        rw [e1, e2, e1'.2 h1, e2'.2 h1]
        simp only [Option.bind_some]
        rw [if_pos trivial, if_pos trivial, if_neg (by omega), if_neg (by omega), e3, w64 (by omega) (by omega)]
        unfold impl_in.f
        rw [if_pos (by omega)]
        simp only [Option.bind_some]
        rw [if_neg (by simp), if_pos (by simp; omega), e4]
        simp only [Option.bind_some]
        rw [if_neg (by simp)]
        first | exact ⟨rfl, rfl⟩ | exact ⟨trivial, rfl⟩ | simp
    · refine ⟨(false, [], false), by simp, fun k hk => ?_⟩
      unfold spec_FitsAt.f impl_FitsAt.f
      obtain ⟨b1, e1, e1'⟩ := good_tree_spec t k (by omega) (by omega)
      obtain ⟨b2, e2, e2'⟩ := good_tree_impl t k (by omega) (by omega)
      rw [e1, e2, e1'.2 h1, e2'.2 h1]
      simp only [Option.bind_some]
      rw [if_pos trivial, if_pos trivial, w64 (by omega) (by omega)]
      unfold impl_in.f
      by_cases h4 : a < 0
      · rw [if_pos h4, if_neg (by omega)]
        simp only [Option.bind_some]
        rw [if_neg (by simp)]
        first | exact ⟨rfl, rfl⟩ | exact ⟨trivial, rfl⟩ | simp
      · rw [if_neg h4, if_pos (by omega), if_pos (by omega)]
        simp only [Option.bind_some]
        rw [if_neg (by simp; omega)]
        first | exact ⟨rfl, rfl⟩ | exact ⟨trivial, rfl⟩ | simp
  · refine ⟨(false, [], false), by simp, fun k hk => ?_⟩
    unfold spec_FitsAt.f impl_FitsAt.f
    obtain ⟨b1, e1, e1'⟩ := good_tree_spec t k (by omega) (by omega)
    obtain ⟨b2, e2, e2'⟩ := good_tree_impl t k (by omega) (by omega)
    have h1b : b1 = false := by cases b1; rfl; exact absurd (e1'.1 rfl) h1
    have h2b : b2 = false := by cases b2; rfl; exact absurd (e2'.1 rfl) h1
    subst h1b h2b
    rw [e1, e2]
    simp only [Option.bind_some]
    rw [if_neg (by simp), if_neg (by simp)]
    first | exact ⟨rfl, rfl⟩ | exact ⟨trivial, rfl⟩ | simp

/-- Marks: one number a place, rising. -/
def marked (x : Int) : Nat → List Int
  | 0 => []
  | n + 1 => x :: marked (x + 1) n
theorem marked_len : ∀ (n : Nat) (x : Int), (marked x n).length = n
  | 0, _ => rfl
  | n + 1, x => by simp only [marked, List.length_cons, marked_len n (x + 1)]
theorem mark_l0 : ∀ (r p : List Int) (k : Nat) (x : Int), (p ++ r).length ≤ 140737488355327 → r.length < k → 0 ≤ x → x + r.length ≤ 1000000000000000 →
    laws_markIntS.l0 k (p ++ r) x (p.length : Int) = some (x + r.length, p ++ marked x r.length)
  | [], p, k, x, hl, hk, h0, h1 => by
    obtain ⟨k, rfl⟩ := rounds hk
    simp only [laws_markIntS.l0]
    rw [if_neg (by simp)]
    simp [marked]
  | a :: r, p, k, x, hl, hk, h0, h1 => by
    obtain ⟨k, rfl⟩ := rounds hk
    have hn := len_app_cons p a r
    simp only [List.length_cons] at h1 hk
    simp only [laws_markIntS.l0]
    rw [if_pos (by omega), if_pos (by omega), show ((p.length : Int)).toNat = p.length from by omega, set_app, w64 (x := x + 1) (by omega) (by omega), w64_succ (n := (p ++ a :: r).length) (by omega) (by omega) (by omega), ← len_snoc p x, app_cons]
    rw [mark_l0 r (p ++ [x]) k (x + 1) (by rw [← app_cons, len_app_cons]; omega) (by omega) (by omega) (by omega)]
    simp only [List.length_cons, marked, List.append_assoc, List.singleton_append, Option.some.injEq, Prod.mk.injEq, and_true]
    omega
theorem mark_ints (l : List Int) (x : Int) (k : Nat) (hl : l.length ≤ 1000000000) (hk : l.length < k) (h0 : 0 ≤ x) (h1 : x ≤ 10000000000) : laws_markIntS.f k l x = some (x + l.length, marked x l.length) := by
  unfold laws_markIntS.f
  exact mark_l0 l [] k x (by simp; omega) hk h0 (by omega)
theorem held_l0 : ∀ (n : Nat) (p : List Int) (k : Nat) (x : Int), p.length + n ≤ 140737488355327 → n < k → 0 ≤ x → x + n ≤ 1000000000000000 →
    laws_heldIntS.l0 k (p ++ marked x n) x (p.length : Int) = some (x + n)
  | 0, p, k, x, hl, hk, h0, h1 => by
    obtain ⟨k, rfl⟩ := rounds hk
    rw [show marked x 0 = [] from rfl]
    simp only [laws_heldIntS.l0]
    rw [if_neg (by simp)]
    simp
  | n + 1, p, k, x, hl, hk, h0, h1 => by
    obtain ⟨k, rfl⟩ := rounds hk
    have hn := len_app_cons p x (marked (x + 1) n)
    rw [marked_len] at hn
    rw [show marked x (n + 1) = x :: marked (x + 1) n from rfl]
    simp only [laws_heldIntS.l0]
    rw [if_pos (by omega), if_pos (by omega), rd_app, if_pos rfl, w64 (x := x + 1) (by omega) (by omega), w64_succ (n := (p ++ x :: marked (x + 1) n).length) (by omega) (by omega) (by omega), ← len_snoc p x, app_cons]
    rw [held_l0 n (p ++ [x]) k (x + 1) (by simp; omega) (by omega) (by omega) (by omega)]
    simp only [Option.some.injEq]
    omega
theorem held_ints (n : Nat) (x : Int) (k : Nat) (hl : n ≤ 1000000000) (hk : n < k) (h0 : 0 ≤ x) (h1 : x ≤ 10000000000) : laws_heldIntS.f k (marked x n) x = some (x + n) := by
  unfold laws_heldIntS.f
  exact held_l0 n [] k x (by simp; omega) hk h0 (by omega)

theorem FnExactFitsAt : laws_FnExactFitsAt.Pure := by
  intro l a K c ⟨hl0, hl1, _⟩ ha ⟨hK0, hK1, _⟩ _
  obtain ⟨k, hk⟩ : ∃ k, k = 2000000 := ⟨_, rfl⟩
  refine ⟨k, ?_⟩
  unfold laws_FnExactFitsAt.f
  by_cases e : (l.length : Int) > 1048576
  · rw [if_pos e]
  · rw [if_neg e]
    unfold laws_szPattern.f laws_szIntS.f
    rw [w64 (by omega) (by omega)]
    by_cases e2 : (1048576 : Int) - (K.length : Int) < 0
    · rw [if_pos e2]
      rfl
    · rw [if_neg e2]
      simp only [Option.bind_some]
      rw [if_neg e2]
      simp only [Option.bind_some]
      rw [if_neg e2]
      have hcl := copy_ints l (by omega) k (by omega)
      have hcK := copy_ints K (by omega) k (by omega)
      obtain ⟨R, hR, hf⟩ := fits_at l a K c ha (by omega) (by omega)
      obtain ⟨h1, h2⟩ := hf k (by omega)
      unfold laws_toPattern.f
      rw [hcl, hcK]
      simp only [Option.bind_some]
      rw [h1, h2]
      simp only [Option.bind_some]
      rw [if_neg (by simp), same_ints R.2.1 (by omega) k (by omega)]
      simp only [Option.bind_some]
      rw [if_pos trivial]
      obtain ⟨k1, rfl⟩ : ∃ k1, k = k1 + 1 := ⟨k - 1, by omega⟩
      simp only [laws_FnExactFitsAt.j0]
      rw [if_neg (by simp), copy_ints l (by omega) k1 (by omega)]
      simp only [Option.bind_some]
      rw [same_ints l (by omega) k1 (by omega)]
      simp only [Option.bind_some]
      rw [if_pos trivial]
      unfold laws_toPattern.f laws_eqPattern.f laws_markPattern.f
      rw [copy_ints K (by omega) k1 (by omega)]
      simp only [Option.bind_some]
      rw [same_ints K (by omega) k1 (by omega)]
      simp only [Option.bind_some]
      rw [if_pos trivial, if_pos trivial]
      simp only [Option.bind_some]
      rw [if_pos trivial, mark_ints l 1 k1 (by omega) (by omega) (by omega) (by omega)]
      simp only [Option.bind_some]
      rw [mark_ints K _ k1 (by omega) (by omega) (by omega) (by omega)]
      simp only [Option.bind_some]
      rw [if_neg (by omega), if_neg (by simp), same_ints R.2.1 (by omega) k1 (by omega)]
      simp only [Option.bind_some]
      rw [if_pos trivial]
      obtain ⟨k2, rfl⟩ : ∃ k2, k1 = k2 + 1 := ⟨k1 - 1, by omega⟩
      simp only [laws_FnExactFitsAt.j1]
      rw [if_neg (by simp), mark_ints R.2.1 1 k2 (by omega) (by omega) (by omega) (by omega)]
      simp only [Option.bind_some]
      rw [held_ints R.2.1.length 1 k2 (by omega) (by omega) (by omega) (by omega)]
      simp only [Option.bind_some]
      rw [if_neg (by omega), if_pos trivial, copy_ints l (by omega) k2 (by omega)]
      simp only [Option.bind_some]
      unfold laws_toPattern.f
      rw [copy_ints K (by omega) k2 (by omega)]
      simp only [Option.bind_some]
      rw [(hf k2 (by omega)).2]
      simp only [Option.bind_some]
      rw [if_neg (by simp), same_ints R.2.1 (by omega) k2 (by omega)]
      simp only [Option.bind_some]
      rw [if_pos trivial]
      obtain ⟨k3, rfl⟩ : ∃ k3, k2 = k3 + 1 := ⟨k2 - 1, by omega⟩
      simp only [laws_FnExactFitsAt.j2]
      rw [if_neg (by simp), held_ints R.2.1.length 1 k3 (by omega) (by omega) (by omega) (by omega)]
      simp only [Option.bind_some]
      rw [if_neg (by omega)]
      simp

end Go.Proofs.Ytmmohcledhenfaa.Pure
