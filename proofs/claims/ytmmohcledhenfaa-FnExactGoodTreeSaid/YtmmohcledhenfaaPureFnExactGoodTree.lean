/- The program's GoodTree answers as the reference's for all lists of kinds. Conditions: none beyond those of the given statement. -/
import Derived.Test.YtmmohcledhenfaaKit
import Derived.Test.YtmmohcledhenfaaQFnExactGoodTreex2
import Derived.Test.YtmmohcledhenfaaQFnExactGoodTreex1
namespace Go.Proofs.Ytmmohcledhenfaa.Pure
open Go.RowKit Go.Proofs.Ytmmohcledhenfaa.QFnExactGoodTree Go.Proofs.YtmmohcledhenfaaW.PrintWords Go.Proofs.YtmmohcledhenfaaW.PrintLast Go.Proofs.Ytmmohcledhenfaa.Kit

theorem copy_l0 (l : List Int) (hl : l.length ≤ 140737488355328) : ∀ (d i k : Nat) (y : List Int), i + d = l.length → d < k → y.length = l.length → y.take i = l.take i →
    laws_toIntS.l0 k l y (i : Int) = some l
  | 0, i, k, y, hd, hk, hy, ht => by
    obtain ⟨k, rfl⟩ := rounds hk
    simp only [laws_toIntS.l0]
    rw [if_neg (by omega)]
    rw [List.take_of_length_le (by omega), List.take_of_length_le (by omega)] at ht
    rw [ht]
  | d + 1, i, k, y, hd, hk, hy, ht => by
    obtain ⟨k, rfl⟩ := rounds hk
    have hi : i < l.length := by omega
    simp only [laws_toIntS.l0]
    rw [if_pos (by omega), if_pos (by omega), if_pos (by omega), w64_succ (n := l.length) (by omega) (by omega) (by omega), rd_nat l i hi]
    refine copy_l0 l hl d (i + 1) k _ (by omega) (by omega) (by simpa using hy) ?_
    rw [show ((i : Int)).toNat = i from by omega, take_set_succ _ _ _ (by omega), take_succ _ _ hi, ht]
theorem copy_ints (l : List Int) (hl : l.length ≤ 35184372088832) (k : Nat) (hk : l.length < k) : laws_toIntS.f k l = some l := by
  unfold laws_toIntS.f
  rw [if_pos (by omega), if_pos (by omega)]
  exact copy_l0 l (by omega) l.length 0 k _ (by omega) (by omega) (by simp) (by simp)

theorem same_l0 : ∀ (r p : List Int) (k : Nat), (p ++ r).length ≤ 140737488355328 → r.length < k → laws_eqIntS.l0 k (p ++ r) (p ++ r) (p.length : Int) = some true
  | [], p, k, hl, hk => by
    obtain ⟨k, rfl⟩ := rounds hk
    simp only [laws_eqIntS.l0]
    rw [if_neg (by simp)]
  | a :: r, p, k, hl, hk => by
    obtain ⟨k, rfl⟩ := rounds hk
    have hn := len_app_cons p a r
    simp only [laws_eqIntS.l0]
    rw [if_pos (by omega), if_pos (by omega), if_pos (by omega), if_pos trivial, w64_succ (n := (p ++ a :: r).length) (by omega) (by omega) (by omega), ← len_snoc p a, app_cons]
    exact same_l0 r (p ++ [a]) k (by rw [← app_cons]; omega) (by simpa using hk)
theorem same_ints (l : List Int) (hl : l.length ≤ 140737488355328) (k : Nat) (hk : l.length < k) : laws_eqIntS.f k l l = some true := by
  unfold laws_eqIntS.f
  rw [if_pos rfl]
  exact same_l0 l [] k hl hk

theorem index_l0 (x : Int) : ∀ (r p : List Int) (k : Nat), (p ++ r).length ≤ 140737488355328 → r.length < k → ∃ n, slices_Index_int_int.l0 k (p ++ r) x ((p ++ r).length : Int) (p.length : Int) = some n ∧ (0 ≤ n ↔ x ∈ r)
  | [], p, k, hl, hk => by
    obtain ⟨k, rfl⟩ := rounds hk
    refine ⟨-1, ?_, ?_⟩
    · simp only [slices_Index_int_int.l0]
      rw [if_neg (by simp)]
    · simp
  | a :: r, p, k, hl, hk => by
    obtain ⟨k, rfl⟩ := rounds hk
    have hn := len_app_cons p a r
    simp only [slices_Index_int_int.l0]
    rw [if_pos (by omega), if_pos (by omega), if_pos (by omega), rd_app, w64_succ (n := (p ++ a :: r).length) (by omega) (by omega) (by omega), ← len_snoc p a, app_cons]
    by_cases e : x = a
    · rw [if_pos e]
      exact ⟨_, rfl, by simp [e]⟩
    · rw [if_neg e]
      obtain ⟨n, h1, h2⟩ := index_l0 x r (p ++ [a]) k (by rw [← app_cons]; omega) (by simpa using hk)
      exact ⟨n, h1, by simp [e, h2]⟩
theorem contains_ints (l : List Int) (x : Int) (hl : l.length ≤ 140737488355328) (k : Nat) (hk : l.length < k) : slices_Contains_int_int.f k l x = some (decide (x ∈ l)) := by
  unfold slices_Contains_int_int.f slices_Index_int_int.f
  obtain ⟨r, h1, h2⟩ := index_l0 x l [] k hl hk
  have h1' : slices_Index_int_int.l0 k l x (l.length : Int) 0 = some r := h1
  rw [h1']
  simp only [Option.bind_some]
  simp [h2]


/-- How many trees a kind is of. -/
def ar (a : Int) : Int := if a = 0 then 0 else if a = 1 then 0 else if a = 2 then 0 else if a = 5 then 1 else if a = 3 then 2 else if a = 4 then 2 else -1
theorem ar_le (a : Int) : -1 ≤ ar a ∧ ar a ≤ 2 := by
  unfold ar
  repeat' split
  all_goals omega
theorem arity_spec (a : Int) (k : Nat) (hk : 1 < k) : spec_l9Arity.f k a = some (ar a) := by
  obtain ⟨k, rfl⟩ := rounds hk
  unfold spec_l9Arity.f ar
  by_cases h0 : a = 0
  · rw [if_pos h0, if_pos h0]
    simp [spec_l9Arity.j0, h0]
  · rw [if_neg h0, if_neg h0]
    by_cases h1 : a = 1
    · rw [if_pos h1, if_pos h1]
      simp [spec_l9Arity.j0, h1]
    · rw [if_neg h1, if_neg h1]
      by_cases h2 : a = 2
      · rw [if_pos h2]
        simp [spec_l9Arity.j0, h2]
      · rw [if_neg h2]
        simp only [spec_l9Arity.j0]
        rw [if_neg (by simpa using h2)]
        split
        · rfl
        · split
          · rfl
          · split <;> rfl
theorem arity_impl (a : Int) (k : Nat) (hk : 1 < k) : impl_below.f k a = some (ar a) := by
  obtain ⟨k, rfl⟩ := rounds hk
  unfold impl_below.f ar
  by_cases h0 : a = 0
  · rw [if_pos h0, if_pos h0]
    simp [impl_below.j0, h0]
  · rw [if_neg h0, if_neg h0]
    by_cases h1 : a = 1
    · rw [if_pos h1, if_pos h1]
      simp [impl_below.j0, h1]
    · rw [if_neg h1, if_neg h1]
      by_cases h2 : a = 2
      · rw [if_pos h2]
        simp [impl_below.j0, h2]
      · rw [if_neg h2]
        simp only [impl_below.j0]
        rw [if_neg (by simpa using h2)]
        split
        · rfl
        · split
          · rfl
          · split <;> rfl
/-- How many kinds from the front are n trees; any: whether a 0 may stand there. -/
def scan (any : Bool) : List Int → Nat → Option Nat
  | _, 0 => some 0
  | [], _ + 1 => none
  | a :: l, n + 1 => if ar a < 0 ∨ (a = 0 ∧ any = false) then none else (scan any l (n + (ar a).toNat)).map (· + 1)
theorem scan_le (any : Bool) : ∀ (l : List Int) (n c : Nat), scan any l n = some c → c ≤ l.length
  | l, 0, c, h => by
    cases l <;> simp [scan] at h <;> omega
  | [], n + 1, c, h => by simp [scan] at h
  | a :: l, n + 1, c, h => by
    simp only [scan] at h
    split at h
    · cases h
    · obtain ⟨d, h1, rfl⟩ := Option.map_eq_some_iff.1 h
      have := scan_le any l _ d h1
      simp
      exact this
/-- Where 0 may not stand. -/
theorem scan_both : ∀ (l : List Int) (n c : Nat), scan false l n = some c ↔ scan true l n = some c ∧ (0 : Int) ∉ l.take c
  | l, 0, c => by
    cases l <;> simp [scan] <;> (intro h; subst h; simp)
  | [], n + 1, c => by simp [scan]
  | a :: l, n + 1, c => by
    simp only [scan]
    by_cases h1 : ar a < 0
    · rw [if_pos (.inl h1), if_pos (.inl h1)]
      simp
    · by_cases h2 : a = 0
      · rw [if_pos (.inr ⟨h2, trivial⟩)]
        constructor
        · intro h; cases h
        · rintro ⟨h3, h4⟩
          rw [if_neg (by simp [h1])] at h3
          obtain ⟨d, h5, rfl⟩ := Option.map_eq_some_iff.1 h3
          exact absurd (by rw [h2]; simp) h4
      · rw [if_neg (by simp [h1, h2]), if_neg (by simp [h1])]
        constructor
        · intro h
          obtain ⟨d, h5, rfl⟩ := Option.map_eq_some_iff.1 h
          obtain ⟨h6, h7⟩ := (scan_both l _ d).1 h5
          refine ⟨by rw [h6]; rfl, ?_⟩
          have h2' : ¬ (0 : Int) = a := fun e => h2 e.symm
          simp [h2', h7]
        · rintro ⟨h3, h4⟩
          obtain ⟨d, h5, rfl⟩ := Option.map_eq_some_iff.1 h3
          have h2' : ¬ (0 : Int) = a := fun e => h2 e.symm
          rw [(scan_both l _ d).2 ⟨h5, by simpa [h2'] using h4⟩]
          rfl
theorem end_spec_l0 (any : Bool) : ∀ (r p : List Int) (n k : Nat), (p ++ r).length ≤ 140737488355328 → n + r.length ≤ 1000000000000000000 → r.length + 3 < k →
    spec_l9End.l0 k (p ++ r) (p.length : Int) any (n : Int) = some (match scan any r n with | none => 0 | some c => ((p.length + c : Nat) : Int))
  | r, p, 0, k, hl, hn, hk => by
    obtain ⟨k, rfl⟩ := rounds hk
    simp only [spec_l9End.l0]
    rw [if_neg (by omega)]
    cases r <;> simp [scan]
  | [], p, n + 1, k, hl, hn, hk => by
    obtain ⟨k, rfl⟩ := rounds hk
    simp only [spec_l9End.l0]
    rw [if_pos (by omega), if_pos (by simp)]
    simp [scan]
  | a :: r, p, n + 1, k, hl, hn, hk => by
    obtain ⟨k, rfl⟩ := rounds hk
    have hlen := len_app_cons p a r
    simp only [List.length_cons] at hk hn
    simp only [spec_l9End.l0]
    rw [if_pos (by omega), if_neg (by omega), if_pos (by omega), if_pos (by omega), rd_app, arity_spec a k (by omega)]
    simp only [Option.bind_some]
    have hb := ar_le a
    simp only [scan]
    by_cases h1 : ar a < 0
    · rw [if_pos h1, if_pos (.inl h1)]
    · rw [if_neg h1]
      have hw : wrap64 ((((n + 1 : Nat) : Int)) + wrap64 (ar a - 1)) = ((n + (ar a).toNat : Nat) : Int) := by
        rw [w64 (x := ar a - 1) (by omega) (by omega), w64 (by omega) (by omega)]
        omega
      have hgo : spec_l9End.l0 k (p ++ a :: r) (wrap64 ((p.length : Int) + 1)) any (wrap64 ((((n + 1 : Nat) : Int)) + wrap64 (ar a - 1))) = some (match scan any r (n + (ar a).toNat) with | none => 0 | some c => ((p.length + 1 + c : Nat) : Int)) := by
        rw [w64_succ (n := (p ++ a :: r).length) (by omega) (by omega) (by omega), hw, ← len_snoc p a, app_cons, end_spec_l0 any r (p ++ [a]) _ k (by rw [← app_cons]; omega) (by omega) (by omega)]
        simp
      by_cases h2 : a = 0
      · rw [if_pos h2]
        cases any with
        | false =>
          rw [if_neg (by simp), if_pos (.inr ⟨h2, rfl⟩)]
        | true =>
          rw [if_pos rfl]
          rw [hgo, if_neg (by simp [h1])]
          cases hs : scan true r (n + (ar a).toNat) with
          | none => rfl
          | some c =>
            show some (((p.length + 1 + c : Nat)) : Int) = some (((p.length + (c + 1) : Nat)) : Int)
            rw [Nat.add_assoc, Nat.add_comm 1 c]
      · rw [if_neg h2]
        rw [hgo, if_neg (by simp [h1, h2])]
        cases hs : scan any r (n + (ar a).toNat) with
        | none => rfl
        | some c =>
          show some (((p.length + 1 + c : Nat)) : Int) = some (((p.length + (c + 1) : Nat)) : Int)
          rw [Nat.add_assoc, Nat.add_comm 1 c]
theorem end_spec (any : Bool) (t : List Int) (p : List Int) (r : List Int) (ht : t = p ++ r) (k : Nat) (hl : t.length ≤ 140737488355328) (hk : r.length + 3 < k) :
    spec_l9End.f k t (p.length : Int) any = some (match scan any r 1 with | none => 0 | some c => ((p.length + c : Nat) : Int)) := by
  subst ht
  unfold spec_l9End.f
  have h := end_spec_l0 any r p 1 k hl (by simp at hl; omega) hk
  exact h
theorem end_impl_l0 : ∀ (r p : List Int) (n k : Nat), (p ++ r).length ≤ 140737488355328 → n + r.length ≤ 1000000000000000000 → r.length + 3 < k →
    impl_endOf.l0 k (p ++ r) (p.length : Int) (n : Int) = some (match scan true r n with | none => -1 | some c => ((p.length + c : Nat) : Int))
  | r, p, 0, k, hl, hn, hk => by
    obtain ⟨k, rfl⟩ := rounds hk
    simp only [impl_endOf.l0]
    rw [if_neg (by omega)]
    cases r <;> simp [scan]
  | [], p, n + 1, k, hl, hn, hk => by
    obtain ⟨k, rfl⟩ := rounds hk
    simp only [impl_endOf.l0]
    rw [if_pos (by omega), if_neg (by omega), if_pos (by simp)]
    simp [scan]
  | a :: r, p, n + 1, k, hl, hn, hk => by
    obtain ⟨k, rfl⟩ := rounds hk
    have hlen := len_app_cons p a r
    simp only [List.length_cons] at hk hn
    simp only [impl_endOf.l0]
    rw [if_pos (by omega), if_neg (by omega), if_neg (by omega), if_pos (by omega), if_pos (by omega), rd_app, arity_impl a k (by omega)]
    simp only [Option.bind_some]
    have hb := ar_le a
    simp only [scan]
    by_cases h1 : ar a < 0
    · rw [if_pos h1, if_pos (.inl h1)]
    · rw [if_neg h1]
      have hw : wrap64 (wrap64 ((((n + 1 : Nat) : Int)) + ar a) - 1) = ((n + (ar a).toNat : Nat) : Int) := by
        rw [w64 (x := ((n + 1 : Nat) : Int) + ar a) (by omega) (by omega), w64 (by omega) (by omega)]
        omega
      rw [w64_succ (n := (p ++ a :: r).length) (by omega) (by omega) (by omega), hw, ← len_snoc p a, app_cons, end_impl_l0 r (p ++ [a]) _ k (by rw [← app_cons]; omega) (by omega) (by omega), if_neg (by simp [h1])]
      cases hs : scan true r (n + (ar a).toNat) with
      | none => rfl
      | some c =>
        show some ((((p ++ [a]).length + c : Nat)) : Int) = some (((p.length + (c + 1) : Nat)) : Int)
        rw [List.length_append, List.length_singleton, Nat.add_assoc, Nat.add_comm 1 c]
theorem end_impl (t : List Int) (p : List Int) (r : List Int) (ht : t = p ++ r) (k : Nat) (hl : t.length ≤ 140737488355328) (hk : r.length + 3 < k) :
    impl_endOf.f k t (p.length : Int) = some (match scan true r 1 with | none => -1 | some c => ((p.length + c : Nat) : Int)) := by
  subst ht
  unfold impl_endOf.f
  have h := end_impl_l0 r p 1 k hl (by simp at hl; omega) hk
  exact h

/-- A good tree. -/
def GT (t : List Int) : Prop := 1 ≤ t.length ∧ t.length ≤ 40 ∧ scan false t 1 = some t.length
theorem good_tree_spec (t : List Int) (k : Nat) (hl : t.length ≤ 140737488355328) (hk : t.length + 3 < k) : ∃ b, spec_GoodTree.f k t = some b ∧ (b = true ↔ GT t) := by
  unfold spec_GoodTree.f spec_l1In.f GT
  by_cases e1 : (t.length : Int) ≥ 1
  · rw [if_pos e1]
    simp only [Option.bind_some]
    by_cases e2 : (t.length : Int) ≤ 40
    · rw [if_pos (by simpa using e2)]
      have h := end_spec false t [] t rfl k hl hk
      have h' : spec_l9End.f k t 0 false = _ := h
      rw [h']
      simp only [Option.bind_some]
      refine ⟨_, rfl, ?_⟩
      cases hs : scan false t 1 with
      | none => simp; omega
      | some c => simp; omega
    · rw [if_neg (by simpa using e2)]
      exact ⟨false, rfl, by simp; omega⟩
  · rw [if_neg e1]
    simp only [Option.bind_some]
    rw [if_neg (by simp)]
    exact ⟨false, rfl, by simp; omega⟩
theorem good_tree_impl (t : List Int) (k : Nat) (hl : t.length ≤ 140737488355328) (hk : t.length + 3 < k) : ∃ b, impl_isTree.f k t = some b ∧ (b = true ↔ GT t) := by
  unfold impl_isTree.f impl_in.f GT
  by_cases e1 : (t.length : Int) ≥ 1
  · rw [if_pos e1]
    simp only [Option.bind_some]
    by_cases e2 : (t.length : Int) ≤ 40
    · rw [if_pos (by simpa using e2)]
      have h := end_impl t [] t rfl k hl hk
      have h' : impl_endOf.f k t 0 = _ := h
      rw [h']
      simp only [Option.bind_some]
      have hb := scan_both t 1 t.length
      rw [List.take_length] at hb
      cases hs : scan true t 1 with
      | none =>
        rw [if_neg (by simp <;> omega)]
        refine ⟨false, rfl, ?_⟩
        rw [hb, hs]
        simp
      | some c =>
        by_cases e3 : c = t.length
        · rw [if_pos (by simp [e3]), contains_ints t 0 hl k (by omega)]
          simp only [Option.bind_some]
          refine ⟨_, rfl, ?_⟩
          have e1' : 1 ≤ t.length := by omega
          have e2' : t.length ≤ 40 := by omega
          rw [hb, hs, e3]
          simp [e1', e2']
        · rw [if_neg (by simp; omega)]
          refine ⟨false, rfl, ?_⟩
          rw [hb, hs]
          simp [e3]
    · rw [if_neg (by simpa using e2)]
      exact ⟨false, rfl, by simp; omega⟩
  · rw [if_neg e1]
    simp only [Option.bind_some]
    rw [if_neg (by simp)]
    exact ⟨false, rfl, by simp; omega⟩

theorem FnExactGoodTree : laws_FnExactGoodTree.Pure := by
  intro l _
  refine ⟨l.length + 10, ?_⟩
  unfold laws_FnExactGoodTree.f
  by_cases e : (l.length : Int) > 1048576
  · rw [if_pos e]
  · rw [if_neg e, copy_ints l (by omega) _ (by omega)]
    simp only [Option.bind_some]
    obtain ⟨b, h1, h2⟩ := good_tree_spec l (l.length + 10) (by omega) (by omega)
    obtain ⟨c, h3, h4⟩ := good_tree_impl l (l.length + 10) (by omega) (by omega)
    unfold impl_GoodTree.f
    rw [h1, h3]
    simp only [Option.bind_some]
    have hbc : c = b := by rw [Bool.eq_iff_iff, h2, h4]
    rw [hbc, if_neg (by simp), same_ints l (by omega) _ (by omega)]
    rfl

end Go.Proofs.Ytmmohcledhenfaa.Pure
