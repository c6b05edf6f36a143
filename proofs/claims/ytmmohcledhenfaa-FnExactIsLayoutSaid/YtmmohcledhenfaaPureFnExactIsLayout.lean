/- The program's IsLayout answers as the reference's for all numbers of blocks and all orders. Conditions: none beyond those of the given statement. -/
import Derived.Test.YtmmohcledhenfaaKit
import Derived.Test.YtmmohcledhenfaaQFnExactIsLayoutx2
namespace Go.Proofs.Ytmmohcledhenfaa.Pure
open Go.RowKit Go.Proofs.Ytmmohcledhenfaa.QFnExactIsLayout Go.Proofs.YtmmohcledhenfaaW.PrintWords Go.Proofs.YtmmohcledhenfaaW.PrintLast Go.Proofs.Ytmmohcledhenfaa.Kit

theorem copy_l0 (l : List Int) (hl : l.length ≤ 140737488355328) : ∀ (d i k : Nat) (y : List Int), i + d = l.length → d < k → y.length = l.length → y.take i = l.take i →
    laws_toIntS.l0 k l y (i : Int) = some l
  | 0, i, k, y, hd, hk, hy, ht => by
    obtain ⟨k, rfl⟩ := rounds hk
    simp only [laws_toIntS.l0]
    rw [if_neg (by omega)]
    rw [List.take_of_length_le (by omega), List.take_of_length_le (by omega)] at ht
    rw [ht]
  | d + 1, i, k, y, hd, hk, hy, ht => by
    obtain ⟨k, rfl⟩ := rounds hk
    have hi : i < l.length := by omega
    simp only [laws_toIntS.l0]
    rw [if_pos (by omega), if_pos (by omega), if_pos (by omega), w64_succ (n := l.length) (by omega) (by omega) (by omega), rd_nat l i hi]
    refine copy_l0 l hl d (i + 1) k _ (by omega) (by omega) (by simpa using hy) ?_
    rw [show ((i : Int)).toNat = i from by omega, take_set_succ _ _ _ (by omega), take_succ _ _ hi, ht]
theorem copy_ints (l : List Int) (hl : l.length ≤ 35184372088832) (k : Nat) (hk : l.length < k) : laws_toIntS.f k l = some l := by
  unfold laws_toIntS.f
  rw [if_pos (by omega), if_pos (by omega)]
  exact copy_l0 l (by omega) l.length 0 k _ (by omega) (by omega) (by simp) (by simp)
theorem same_l0 : ∀ (r p : List Int) (k : Nat), (p ++ r).length ≤ 140737488355328 → r.length < k → laws_eqIntS.l0 k (p ++ r) (p ++ r) (p.length : Int) = some true
  | [], p, k, hl, hk => by
    obtain ⟨k, rfl⟩ := rounds hk
    simp only [laws_eqIntS.l0]
    rw [if_neg (by simp)]
  | a :: r, p, k, hl, hk => by
    obtain ⟨k, rfl⟩ := rounds hk
    have hn := len_app_cons p a r
    simp only [laws_eqIntS.l0]
    rw [if_pos (by omega), if_pos (by omega), if_pos (by omega), if_pos trivial, w64_succ (n := (p ++ a :: r).length) (by omega) (by omega) (by omega), ← len_snoc p a, app_cons]
    exact same_l0 r (p ++ [a]) k (by rw [← app_cons]; omega) (by simpa using hk)
theorem same_ints (l : List Int) (hl : l.length ≤ 140737488355328) (k : Nat) (hk : l.length < k) : laws_eqIntS.f k l l = some true := by
  unfold laws_eqIntS.f
  rw [if_pos rfl]
  exact same_l0 l [] k hl hk
theorem has_l0 (x : Int) : ∀ (r p : List Int) (k : Nat), (p ++ r).length ≤ 140737488355328 → r.length < k → spec_l1Has.l0 k x (p ++ r) ((p ++ r).length : Int) (p.length : Int) = some (decide (x ∈ r))
  | [], p, k, hl, hk => by
    obtain ⟨k, rfl⟩ := rounds hk
    simp only [spec_l1Has.l0]
    rw [if_neg (by simp)]
    simp
  | a :: r, p, k, hl, hk => by
    obtain ⟨k, rfl⟩ := rounds hk
    have hn := len_app_cons p a r
    simp only [spec_l1Has.l0]
    rw [if_pos (by omega), if_pos (by omega), if_pos (by omega), rd_app, w64_succ (n := (p ++ a :: r).length) (by omega) (by omega) (by omega), ← len_snoc p a, app_cons]
    rw [has_l0 x r (p ++ [a]) k (by rw [← app_cons]; omega) (by simpa using hk)]
    by_cases e : a = x
    · rw [if_pos e]; simp [e]
    · have hne : ¬ x = a := fun h => e h.symm
      rw [if_neg e]
      simp [hne]
theorem has_ints (l : List Int) (x : Int) (hl : l.length ≤ 140737488355328) (k : Nat) (hk : l.length < k) : spec_l1Has.f k l x = some (decide (x ∈ l)) := by
  unfold spec_l1Has.f
  exact has_l0 x l [] k hl hk
theorem index_l0 (x : Int) : ∀ (r p : List Int) (k : Nat), (p ++ r).length ≤ 140737488355328 → r.length < k → ∃ n, slices_Index_int_int.l0 k (p ++ r) x ((p ++ r).length : Int) (p.length : Int) = some n ∧ (0 ≤ n ↔ x ∈ r)
  | [], p, k, hl, hk => by
    obtain ⟨k, rfl⟩ := rounds hk
    refine ⟨-1, ?_, ?_⟩
    · simp only [slices_Index_int_int.l0]
      rw [if_neg (by simp)]
    · simp
  | a :: r, p, k, hl, hk => by
    obtain ⟨k, rfl⟩ := rounds hk
    have hn := len_app_cons p a r
    simp only [slices_Index_int_int.l0]
    rw [if_pos (by omega), if_pos (by omega), if_pos (by omega), rd_app, w64_succ (n := (p ++ a :: r).length) (by omega) (by omega) (by omega), ← len_snoc p a, app_cons]
    by_cases e : x = a
    · rw [if_pos e]
      exact ⟨_, rfl, by simp [e]⟩
    · rw [if_neg e]
      obtain ⟨n, h1, h2⟩ := index_l0 x r (p ++ [a]) k (by rw [← app_cons]; omega) (by simpa using hk)
      exact ⟨n, h1, by simp [e, h2]⟩
theorem contains_ints (l : List Int) (x : Int) (hl : l.length ≤ 140737488355328) (k : Nat) (hk : l.length < k) : slices_Contains_int_int.f k l x = some (decide (x ∈ l)) := by
  unfold slices_Contains_int_int.f slices_Index_int_int.f
  obtain ⟨r, h1, h2⟩ := index_l0 x l [] k hl hk
  have h1' : slices_Index_int_int.l0 k l x (l.length : Int) 0 = some r := h1
  rw [h1']
  simp only [Option.bind_some]
  simp [h2]

/-- The reference's loop: all are in range, and none stands twice. -/
theorem spec_loop (n : Int) : ∀ (r p : List Int) (k : Nat), (p ++ r).length ≤ 8 → r.length + 9 < k →
    ∃ b, spec_IsLayout.l0 k n (p ++ r) (p ++ r) ((p ++ r).length : Int) (p.length : Int) = some b ∧ (b = true ↔ (∀ x ∈ r, 0 ≤ x ∧ x < n) ∧ r.Nodup ∧ ∀ x ∈ p, x ∉ r)
  | [], p, k, hl, hk => by
    obtain ⟨k, rfl⟩ := rounds hk
    refine ⟨true, ?_, ?_⟩
    · simp only [spec_IsLayout.l0]
      rw [if_neg (by simp)]
    · simp
  | a :: r, p, k, hl, hk => by
    obtain ⟨k, rfl⟩ := rounds hk
    have hn := len_app_cons p a r
    simp only [List.length_cons] at hk
    simp only [spec_IsLayout.l0]
    rw [if_pos (by omega), if_pos (by omega), if_pos (by omega), rd_app, w64_succ (n := (p ++ a :: r).length) (by omega) (by omega) (by omega)]
    by_cases e1 : a < 0
    · rw [if_pos e1]
      exact ⟨false, rfl, by simp; omega⟩
    · rw [if_neg e1]
      by_cases e2 : a ≥ n
      · rw [if_pos e2]
        exact ⟨false, rfl, by simp; omega⟩
      · rw [if_neg e2, if_pos (by omega), show ((p.length : Int)).toNat = p.length from by omega, show (p ++ a :: r).take p.length = p from by simp, has_ints _ _ (by omega) _ (by omega)]
        simp only [Option.bind_some]
        by_cases e3 : a ∈ p
        · rw [if_pos (by simpa using e3)]
          refine ⟨false, rfl, ?_⟩
          constructor
          · intro h; cases h
          · rintro ⟨_, _, h⟩
            exact absurd (List.mem_cons_self) (h _ e3)
        · rw [if_neg (by simpa using e3), ← len_snoc p a, app_cons]
          obtain ⟨b, h1, h2⟩ := spec_loop n r (p ++ [a]) k (by rw [← app_cons]; omega) (by omega)
          refine ⟨b, h1, h2.trans ?_⟩
          rw [List.nodup_cons]
          constructor
          · rintro ⟨h3, h4, h5⟩
            refine ⟨?_, ⟨fun hm => h5 _ (by simp) hm, h4⟩, ?_⟩
            · intro x hx
              rcases List.mem_cons.1 hx with rfl | hx
              · omega
              · exact h3 x hx
            · intro x hx hm
              rcases List.mem_cons.1 hm with rfl | hm
              · exact e3 hx
              · exact h5 x (by simp [hx]) hm
          · rintro ⟨h3, ⟨h4, h5⟩, h6⟩
            refine ⟨fun x hx => h3 x (by simp [hx]), h5, ?_⟩
            intro x hx hm
            rcases List.mem_append.1 hx with hx | hx
            · exact h6 x hx (by simp [hm])
            · have : x = a := by simpa using hx
              subst this
              exact h4 hm
/-- The program's loop: all numbers are there. -/
theorem impl_loop (l : List Int) (n : Nat) (hl : l.length ≤ 8) (hn : n ≤ 8) : ∀ (d i k : Nat), i + d = n → d + 9 < k →
    ∃ b, impl_isOrder.l0 k l (n : Int) (i : Int) = some b ∧ (b = true ↔ ∀ x : Int, (i : Int) ≤ x → x < (n : Int) → x ∈ l)
  | 0, i, k, hd, hk => by
    obtain ⟨k, rfl⟩ := rounds hk
    refine ⟨true, ?_, ?_⟩
    · simp only [impl_isOrder.l0]
      rw [if_neg (by omega)]
    · constructor
      · intro _ x h0 h1
        omega
      · intro _; rfl
  | d + 1, i, k, hd, hk => by
    obtain ⟨k, rfl⟩ := rounds hk
    simp only [impl_isOrder.l0]
    rw [if_pos (by omega), contains_ints l _ (by omega) k (by omega)]
    simp only [Option.bind_some]
    by_cases e : (i : Int) ∈ l
    · rw [if_pos (by simpa using e), w64 (by omega) (by omega)]
      obtain ⟨b, h1, h2⟩ := impl_loop l n hl hn d (i + 1) k (by omega) (by omega)
      refine ⟨b, h1, h2.trans ?_⟩
      constructor
      · intro h x h0 h3
        by_cases ex : x = (i : Int)
        · rw [ex]; exact e
        · exact h x (by omega) h3
      · intro h x h0 h3
        exact h x (by omega) h3
    · rw [if_neg (by simpa using e)]
      refine ⟨false, rfl, ?_⟩
      constructor
      · intro h; cases h
      · intro h
        exact absurd (h i (by omega) (by omega)) e

theorem spec_says (n : Int) (l : List Int) (k : Nat) (hk : l.length + 20 < k) : ∃ b, spec_IsLayout.f k n l = some b ∧ (b = true ↔ 1 ≤ n ∧ n ≤ 8 ∧ (l.length : Int) = n ∧ rd l 0 = 0 ∧ (∀ x ∈ l, 0 ≤ x ∧ x < n) ∧ l.Nodup) := by
  obtain ⟨k', rfl⟩ := rounds hk
  unfold spec_IsLayout.f spec_l11Blocks.f spec_l1In.f
  by_cases e1 : n ≥ 1
  · rw [if_pos e1]
    simp only [Option.bind_some]
    by_cases e2 : n ≤ 8
    · rw [if_pos (by simpa using e2)]
      by_cases e3 : (l.length : Int) = n
      · rw [if_pos e3, if_pos (by omega)]
        simp only [spec_IsLayout.j0]
        by_cases e4 : rd l 0 = 0
        · rw [if_neg (by simp [e4])]
          obtain ⟨b, h1, h2⟩ := spec_loop n l [] k' (by simp; omega) (by omega)
          refine ⟨b, h1, h2.trans ?_⟩
          simp [e1, e2, e3, e4]
        · rw [if_pos (by simpa using e4)]
          exact ⟨false, rfl, by simp [e4]⟩
      · rw [if_neg e3]
        simp only [spec_IsLayout.j0]
        exact ⟨false, rfl, by simp [e3]⟩
    · rw [if_neg (by simpa using e2)]
      simp only [spec_IsLayout.j0]
      exact ⟨false, rfl, by simp [e2]⟩
  · rw [if_neg e1]
    simp only [Option.bind_some]
    simp only [spec_IsLayout.j0]
    refine ⟨false, rfl, ?_⟩
    constructor
    · intro h; cases h
    · intro h; omega
theorem impl_says (n : Int) (l : List Int) (k : Nat) (hk : l.length + 20 < k) : ∃ b, impl_IsLayout.f k n l = some b ∧ (b = true ↔ 1 ≤ n ∧ n ≤ 8 ∧ (l.length : Int) = n ∧ rd l 0 = 0 ∧ ∀ x : Int, 0 ≤ x → x < n → x ∈ l) := by
  unfold impl_IsLayout.f impl_isLayout.f impl_in.f impl_isOrder.f
  by_cases e1 : n ≥ 1
  · rw [if_pos e1]
    simp only [Option.bind_some]
    by_cases e2 : n ≤ 8
    · rw [if_pos (by simpa using e2)]
      by_cases e3 : (l.length : Int) = n
      · rw [if_pos e3]
        obtain ⟨b, h1, h2⟩ := impl_loop l l.length (by omega) (by omega) l.length 0 k (by omega) (by omega)
        rw [← e3]
        have h1' : impl_isOrder.l0 k l (l.length : Int) 0 = some b := h1
        rw [h1']
        simp only [Option.bind_some]
        cases b with
        | true =>
          rw [if_pos rfl, if_pos (by omega)]
          refine ⟨_, rfl, ?_⟩
          have h3 := h2.1 rfl
          simp only [beq_iff_eq]
          constructor
          · intro h
            exact ⟨by omega, by omega, trivial, h, fun x h0 h4 => h3 x (by simpa using h0) h4⟩
          · rintro ⟨_, _, _, h, _⟩
            exact h
        | false =>
          rw [if_neg (by simp)]
          refine ⟨false, rfl, ?_⟩
          constructor
          · intro h; cases h
          · rintro ⟨_, _, _, _, h⟩
            exact absurd (h2.2 (fun x h0 h4 => h x (by simpa using h0) h4)) (by simp)
      · rw [if_neg e3]
        simp only [Option.bind_some]
        rw [if_neg (by simp)]
        exact ⟨false, rfl, by simp [e3]⟩
    · rw [if_neg (by simpa using e2)]
      exact ⟨false, rfl, by simp [e2]⟩
  · rw [if_neg e1]
    simp only [Option.bind_some]
    rw [if_neg (by simp)]
    refine ⟨false, rfl, ?_⟩
    constructor
    · intro h; cases h
    · intro h; omega

theorem FnExactIsLayout : laws_FnExactIsLayout.Pure := by
  intro n l _ _
  refine ⟨l.length + 40, ?_⟩
  unfold laws_FnExactIsLayout.f
  by_cases e : (l.length : Int) > 1048576
  · rw [if_pos e]
  · rw [if_neg e, copy_ints l (by omega) _ (by omega)]
    simp only [Option.bind_some]
    obtain ⟨b, h1, h2⟩ := spec_says n l (l.length + 40) (by omega)
    obtain ⟨c, h3, h4⟩ := impl_says n l (l.length + 40) (by omega)
    rw [h1, h3]
    simp only [Option.bind_some]
    have hbc : c = b := by
      rw [Bool.eq_iff_iff, h2, h4]
      constructor
      · rintro ⟨g1, g2, g3, g4, g5⟩
        obtain ⟨g6, g7⟩ := nodup_of_all l.length l rfl (fun k h0 hk => g5 k h0 (by omega))
        exact ⟨g1, g2, g3, g4, fun x hx => by rw [← g3]; exact g7 x hx, g6⟩
      · rintro ⟨g1, g2, g3, g4, g5, g6⟩
        exact ⟨g1, g2, g3, g4, fun x h0 h5 => all_of_nodup l.length l g6 (fun y hy => by rw [g3]; exact g5 y hy) rfl x h0 (by omega)⟩
    rw [hbc, if_neg (by simp), same_ints l (by omega) _ (by omega)]
    rfl

end Go.Proofs.Ytmmohcledhenfaa.Pure
