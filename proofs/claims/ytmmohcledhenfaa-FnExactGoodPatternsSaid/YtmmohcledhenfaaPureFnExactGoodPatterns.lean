/- The program's GoodPatterns answers as the reference's for all lists of patterns. Conditions: none beyond those of the given statement. -/
import Derived.Test.YtmmohcledhenfaaKit
import Derived.Test.YtmmohcledhenfaaQFnExactGoodPatternsx4
import Derived.Test.YtmmohcledhenfaaQFnExactGoodPatternsx3
import Derived.Test.YtmmohcledhenfaaQFnExactGoodPatternsx1
import Derived.Test.YtmmohcledhenfaaQFnExactGoodPatternsx2
namespace Go.Proofs.Ytmmohcledhenfaa.Pure
open Go.RowKit Go.Proofs.Ytmmohcledhenfaa.QFnExactGoodPatterns Go.Proofs.YtmmohcledhenfaaW.PrintWords Go.Proofs.YtmmohcledhenfaaW.PrintLast Go.Proofs.Ytmmohcledhenfaa.Kit

theorem copy_l0 (l : List Int) (hl : l.length ≤ 140737488355328) : ∀ (d i k : Nat) (y : List Int), i + d = l.length → d < k → y.length = l.length → y.take i = l.take i →
    laws_toIntS.l0 k l y (i : Int) = some l
  | 0, i, k, y, hd, hk, hy, ht => by
    obtain ⟨k, rfl⟩ := rounds hk
    simp only [laws_toIntS.l0]
    rw [if_neg (by omega)]
    rw [List.take_of_length_le (by omega), List.take_of_length_le (by omega)] at ht
    rw [ht]
  | d + 1, i, k, y, hd, hk, hy, ht => by
    obtain ⟨k, rfl⟩ := rounds hk
    have hi : i < l.length := by omega
    simp only [laws_toIntS.l0]
    rw [if_pos (by omega), if_pos (by omega), if_pos (by omega), w64_succ (n := l.length) (by omega) (by omega) (by omega), rd_nat l i hi]
    refine copy_l0 l hl d (i + 1) k _ (by omega) (by omega) (by simpa using hy) ?_
    rw [show ((i : Int)).toNat = i from by omega, take_set_succ _ _ _ (by omega), take_succ _ _ hi, ht]
theorem copy_ints (l : List Int) (hl : l.length ≤ 35184372088832) (k : Nat) (hk : l.length < k) : laws_toIntS.f k l = some l := by
  unfold laws_toIntS.f
  rw [if_pos (by omega), if_pos (by omega)]
  exact copy_l0 l (by omega) l.length 0 k _ (by omega) (by omega) (by simp) (by simp)

theorem same_l0 : ∀ (r p : List Int) (k : Nat), (p ++ r).length ≤ 140737488355328 → r.length < k → laws_eqIntS.l0 k (p ++ r) (p ++ r) (p.length : Int) = some true
  | [], p, k, hl, hk => by
    obtain ⟨k, rfl⟩ := rounds hk
    simp only [laws_eqIntS.l0]
    rw [if_neg (by simp)]
  | a :: r, p, k, hl, hk => by
    obtain ⟨k, rfl⟩ := rounds hk
    have hn := len_app_cons p a r
    simp only [laws_eqIntS.l0]
    rw [if_pos (by omega), if_pos (by omega), if_pos (by omega), if_pos trivial, w64_succ (n := (p ++ a :: r).length) (by omega) (by omega) (by omega), ← len_snoc p a, app_cons]
    exact same_l0 r (p ++ [a]) k (by rw [← app_cons]; omega) (by simpa using hk)
theorem same_ints (l : List Int) (hl : l.length ≤ 140737488355328) (k : Nat) (hk : l.length < k) : laws_eqIntS.f k l l = some true := by
  unfold laws_eqIntS.f
  rw [if_pos rfl]
  exact same_l0 l [] k hl hk

/-- A pattern of the law's own type, as the program's. -/
def cP (x : S42) : S46 := ⟨x.f0, x.f1⟩
theorem rdT42 (p : List S42) (a : S42) (r : List S42) : rd_T42 (p ++ a :: r) (p.length : Int) = a := by
  unfold rd_T42
  simp
theorem rdT46 (p : List S46) (a : S46) (r : List S46) : rd_T46 (p ++ a :: r) (p.length : Int) = a := by
  unfold rd_T46
  simp
/-- All lengths together. -/
def totp : List S42 → Nat
  | [] => 0
  | x :: r => x.f0.length + totp r
theorem totp_mem : ∀ (l : List S42) (x : S42), x ∈ l → x.f0.length ≤ totp l
  | [], _, h => by cases h
  | y :: r, x, h => by
    simp only [totp]
    rcases List.mem_cons.1 h with rfl | h
    · omega
    · have := totp_mem r x h
      omega
theorem szp_l0 : ∀ (r p : List S42) (k : Nat) (s : Int), (p ++ r).length ≤ 140737488355328 → r.length < k → (∀ x ∈ r, x.f0.length ≤ 140737488355328) → 0 ≤ s → s ≤ 1048576 →
    ∃ z, laws_szPatternS.l0 k (p ++ r) s (p.length : Int) = some z ∧ (0 ≤ z → (totp r : Int) ≤ s)
  | [], p, k, s, hl, hk, hx, h0, h1 => by
    obtain ⟨k, rfl⟩ := rounds hk
    refine ⟨s, ?_, ?_⟩
    · simp only [laws_szPatternS.l0]
      rw [if_neg (by simp)]
    · intro _; simp only [totp]; omega
  | a :: r, p, k, s, hl, hk, hx, h0, h1 => by
    obtain ⟨k, rfl⟩ := rounds hk
    have hn := len_app_cons p a r
    have ha := hx a (by simp)
    simp only [List.length_cons] at hk
    simp only [laws_szPatternS.l0, laws_szPattern.f, laws_szIntS.f]
    rw [if_pos (by omega), if_pos (by omega), rdT42, w64 (x := s - (a.f0.length : Int)) (by omega) (by omega), w64_succ (n := (p ++ a :: r).length) (by omega) (by omega) (by omega)]
    by_cases e : s - (a.f0.length : Int) < 0
    · rw [if_pos e]
      simp only [Option.bind_some]
      refine ⟨-1, by rfl, by omega⟩
    · rw [if_neg e]
      simp only [Option.bind_some]
      rw [if_neg e]
      simp only [Option.bind_some]
      rw [if_neg e, ← len_snoc p a, app_cons]
      obtain ⟨z, h2, h3⟩ := szp_l0 r (p ++ [a]) k (s - (a.f0.length : Int)) (by rw [← app_cons]; omega) (by omega) (fun x hx' => hx x (by simp [hx'])) (by omega) (by omega)
      refine ⟨z, h2, fun hz => ?_⟩
      have := h3 hz
      simp only [totp]
      omega
theorem sz_pats (l : List S42) (hl : l.length ≤ 140737488355328) (hx : ∀ x ∈ l, x.f0.length ≤ 140737488355328) (k : Nat) (hk : l.length < k) :
    ∃ z, laws_szPatternS.f k l 1048576 = some z ∧ (0 ≤ z → l.length + totp l ≤ 1048576) := by
  unfold laws_szPatternS.f
  rw [w64 (by omega) (by omega)]
  by_cases e : (1048576 : Int) - (l.length : Int) < 0
  · rw [if_pos e]
    exact ⟨-1, rfl, by omega⟩
  · rw [if_neg e]
    obtain ⟨z, h1, h2⟩ := szp_l0 l [] k (1048576 - (l.length : Int)) hl hk hx (by omega) (by omega)
    refine ⟨z, h1, fun hz => ?_⟩
    have := h2 hz
    omega
theorem top_l0 : ∀ (r p : List S42) (y : List S46) (k : Nat), (p ++ r).length ≤ 140737488355328 → r.length + totp r + 1 < k → totp r ≤ 1048576 → y.length = (p ++ r).length → y.take p.length = p.map cP →
    laws_toPatternS.l0 k (p ++ r) y (p.length : Int) = some ((p ++ r).map cP)
  | [], p, y, k, hl, hk, hx, hy, ht => by
    obtain ⟨k, rfl⟩ := rounds hk
    simp only [laws_toPatternS.l0]
    rw [if_neg (by simp)]
    rw [List.take_of_length_le (by simp at hy; omega)] at ht
    simp [ht]
  | a :: r, p, y, k, hl, hk, hx, hy, ht => by
    obtain ⟨k, rfl⟩ := rounds hk
    have hn := len_app_cons p a r
    simp only [List.length_cons, totp] at hk hx
    simp only [laws_toPatternS.l0, laws_toPattern.f]
    rw [if_pos (by omega), if_pos (by omega), rdT42, copy_ints a.f0 (by omega) k (by omega)]
    simp only [Option.bind_some]
    rw [if_pos (by omega), w64_succ (n := (p ++ a :: r).length) (by omega) (by omega) (by omega), ← len_snoc p a, app_cons, show ((p.length : Int)).toNat = p.length from by omega]
    refine top_l0 r (p ++ [a]) _ k (by rw [← app_cons]; omega) (by omega) (by omega) (by rw [← app_cons, List.length_set]; exact hy) ?_
    rw [List.length_append, List.length_singleton, take_set_succ _ _ _ (by omega), ht]
    simp [cP]
theorem to_pats (l : List S42) (hl : l.length + totp l ≤ 1048576) (k : Nat) (hk : 1048580 < k) : laws_toPatternS.f k l = some (l.map cP) := by
  unfold laws_toPatternS.f
  rw [if_pos (by omega), if_pos (by omega)]
  exact top_l0 l [] _ k (by simp; omega) (by omega) (by omega) (by simp) (by simp)
/-- All lengths together, of the program's patterns. -/
def totp2 : List S46 → Nat
  | [] => 0
  | x :: r => x.f0.length + totp2 r
theorem totp2_map : ∀ l : List S42, totp2 (l.map cP) = totp l
  | [] => rfl
  | x :: r => by simp only [List.map_cons, totp2, totp, totp2_map r, cP]
theorem eqp_l0 : ∀ (r p : List S46) (k : Nat), (p ++ r).length ≤ 140737488355328 → r.length + totp2 r + 1 < k → totp2 r ≤ 1048576 → laws_eqPatternS.l0 k (p ++ r) (p ++ r) (p.length : Int) = some true
  | [], p, k, hl, hk, hx => by
    obtain ⟨k, rfl⟩ := rounds hk
    simp only [laws_eqPatternS.l0]
    rw [if_neg (by simp)]
  | a :: r, p, k, hl, hk, hx => by
    obtain ⟨k, rfl⟩ := rounds hk
    have hn := len_app_cons p a r
    simp only [List.length_cons, totp2] at hk hx
    simp only [laws_eqPatternS.l0, laws_eqPattern.f]
    rw [if_pos (by omega), if_pos (by omega), if_pos (by omega), rdT46, same_ints a.f0 (by omega) k (by omega)]
    simp only [Option.bind_some, if_true]
    rw [w64_succ (n := (p ++ a :: r).length) (by omega) (by omega) (by omega), ← len_snoc p a, app_cons]
    exact eqp_l0 r (p ++ [a]) k (by rw [← app_cons]; omega) (by omega) (by omega)
theorem eq_pats (l : List S46) (hl : l.length + totp2 l ≤ 1048576) (k : Nat) (hk : 1048580 < k) : laws_eqPatternS.f k l l = some true := by
  unfold laws_eqPatternS.f
  rw [if_pos rfl]
  exact eqp_l0 l [] k (by simp; omega) (by omega) (by omega)

/-- How many trees a kind is of. -/
def ar (a : Int) : Int := if a = 0 then 0 else if a = 1 then 0 else if a = 2 then 0 else if a = 5 then 1 else if a = 3 then 2 else if a = 4 then 2 else -1
theorem ar_le (a : Int) : -1 ≤ ar a ∧ ar a ≤ 2 := by
  unfold ar
  repeat' split
  all_goals omega
theorem arity_spec (a : Int) (k : Nat) (hk : 1 < k) : spec_l9Arity.f k a = some (ar a) := by
  obtain ⟨k, rfl⟩ := rounds hk
  unfold spec_l9Arity.f ar
  by_cases h0 : a = 0
  · rw [if_pos h0, if_pos h0]
    simp [spec_l9Arity.j0, h0]
  · rw [if_neg h0, if_neg h0]
    by_cases h1 : a = 1
    · rw [if_pos h1, if_pos h1]
      simp [spec_l9Arity.j0, h1]
    · rw [if_neg h1, if_neg h1]
      by_cases h2 : a = 2
      · rw [if_pos h2]
        simp [spec_l9Arity.j0, h2]
      · rw [if_neg h2]
        simp only [spec_l9Arity.j0]
        rw [if_neg (by simpa using h2)]
        split
        · rfl
        · split
          · rfl
          · split <;> rfl
theorem arity_impl (a : Int) (k : Nat) (hk : 1 < k) : impl_below.f k a = some (ar a) := by
  obtain ⟨k, rfl⟩ := rounds hk
  unfold impl_below.f ar
  by_cases h0 : a = 0
  · rw [if_pos h0, if_pos h0]
    simp [impl_below.j0, h0]
  · rw [if_neg h0, if_neg h0]
    by_cases h1 : a = 1
    · rw [if_pos h1, if_pos h1]
      simp [impl_below.j0, h1]
    · rw [if_neg h1, if_neg h1]
      by_cases h2 : a = 2
      · rw [if_pos h2]
        simp [impl_below.j0, h2]
      · rw [if_neg h2]
        simp only [impl_below.j0]
        rw [if_neg (by simpa using h2)]
        split
        · rfl
        · split
          · rfl
          · split <;> rfl
/-- How many kinds from the front are n trees; any: whether a 0 may stand there. -/
def scan (any : Bool) : List Int → Nat → Option Nat
  | _, 0 => some 0
  | [], _ + 1 => none
  | a :: l, n + 1 => if ar a < 0 ∨ (a = 0 ∧ any = false) then none else (scan any l (n + (ar a).toNat)).map (· + 1)
theorem scan_le (any : Bool) : ∀ (l : List Int) (n c : Nat), scan any l n = some c → c ≤ l.length
  | l, 0, c, h => by
    cases l <;> simp [scan] at h <;> omega
  | [], n + 1, c, h => by simp [scan] at h
  | a :: l, n + 1, c, h => by
    simp only [scan] at h
    split at h
    · cases h
    · obtain ⟨d, h1, rfl⟩ := Option.map_eq_some_iff.1 h
      have := scan_le any l _ d h1
      simp
      exact this
/-- Where 0 may not stand. -/
theorem scan_both : ∀ (l : List Int) (n c : Nat), scan false l n = some c ↔ scan true l n = some c ∧ (0 : Int) ∉ l.take c
  | l, 0, c => by
    cases l <;> simp [scan] <;> (intro h; subst h; simp)
  | [], n + 1, c => by simp [scan]
  | a :: l, n + 1, c => by
    simp only [scan]
    by_cases h1 : ar a < 0
    · rw [if_pos (.inl h1), if_pos (.inl h1)]
      simp
    · by_cases h2 : a = 0
      · rw [if_pos (.inr ⟨h2, trivial⟩)]
        constructor
        · intro h; cases h
        · rintro ⟨h3, h4⟩
          rw [if_neg (by simp [h1])] at h3
          obtain ⟨d, h5, rfl⟩ := Option.map_eq_some_iff.1 h3
          exact absurd (by rw [h2]; simp) h4
      · rw [if_neg (by simp [h1, h2]), if_neg (by simp [h1])]
        constructor
        · intro h
          obtain ⟨d, h5, rfl⟩ := Option.map_eq_some_iff.1 h
          obtain ⟨h6, h7⟩ := (scan_both l _ d).1 h5
          refine ⟨by rw [h6]; rfl, ?_⟩
          have h2' : ¬ (0 : Int) = a := fun e => h2 e.symm
          simp [h2', h7]
        · rintro ⟨h3, h4⟩
          obtain ⟨d, h5, rfl⟩ := Option.map_eq_some_iff.1 h3
          have h2' : ¬ (0 : Int) = a := fun e => h2 e.symm
          rw [(scan_both l _ d).2 ⟨h5, by simpa [h2'] using h4⟩]
          rfl
theorem end_spec_l0 (any : Bool) : ∀ (r p : List Int) (n k : Nat), (p ++ r).length ≤ 140737488355328 → n + r.length ≤ 1000000000000000000 → r.length + 3 < k →
    spec_l9End.l0 k (p ++ r) (p.length : Int) any (n : Int) = some (match scan any r n with | none => 0 | some c => ((p.length + c : Nat) : Int))
  | r, p, 0, k, hl, hn, hk => by
    obtain ⟨k, rfl⟩ := rounds hk
    simp only [spec_l9End.l0]
    rw [if_neg (by omega)]
    cases r <;> simp [scan]
  | [], p, n + 1, k, hl, hn, hk => by
    obtain ⟨k, rfl⟩ := rounds hk
    simp only [spec_l9End.l0]
    rw [if_pos (by omega), if_pos (by simp)]
    simp [scan]
  | a :: r, p, n + 1, k, hl, hn, hk => by
    obtain ⟨k, rfl⟩ := rounds hk
    have hlen := len_app_cons p a r
    simp only [List.length_cons] at hk hn
    simp only [spec_l9End.l0]
    rw [if_pos (by omega), if_neg (by omega), if_pos (by omega), if_pos (by omega), rd_app, arity_spec a k (by omega)]
    simp only [Option.bind_some]
    have hb := ar_le a
    simp only [scan]
    by_cases h1 : ar a < 0
    · rw [if_pos h1, if_pos (.inl h1)]
    · rw [if_neg h1]
      have hw : wrap64 ((((n + 1 : Nat) : Int)) + wrap64 (ar a - 1)) = ((n + (ar a).toNat : Nat) : Int) := by
        rw [w64 (x := ar a - 1) (by omega) (by omega), w64 (by omega) (by omega)]
        omega
      have hgo : spec_l9End.l0 k (p ++ a :: r) (wrap64 ((p.length : Int) + 1)) any (wrap64 ((((n + 1 : Nat) : Int)) + wrap64 (ar a - 1))) = some (match scan any r (n + (ar a).toNat) with | none => 0 | some c => ((p.length + 1 + c : Nat) : Int)) := by
        rw [w64_succ (n := (p ++ a :: r).length) (by omega) (by omega) (by omega), hw, ← len_snoc p a, app_cons, end_spec_l0 any r (p ++ [a]) _ k (by rw [← app_cons]; omega) (by omega) (by omega)]
        simp
      by_cases h2 : a = 0
      · rw [if_pos h2]
        cases any with
        | false =>
          rw [if_neg (by simp), if_pos (.inr ⟨h2, rfl⟩)]
        | true =>
          rw [if_pos rfl]
          rw [hgo, if_neg (by simp [h1])]
          cases hs : scan true r (n + (ar a).toNat) with
          | none => rfl
          | some c =>
            show some (((p.length + 1 + c : Nat)) : Int) = some (((p.length + (c + 1) : Nat)) : Int)
            rw [Nat.add_assoc, Nat.add_comm 1 c]
      · rw [if_neg h2]
        rw [hgo, if_neg (by simp [h1, h2])]
        cases hs : scan any r (n + (ar a).toNat) with
        | none => rfl
        | some c =>
          show some (((p.length + 1 + c : Nat)) : Int) = some (((p.length + (c + 1) : Nat)) : Int)
          rw [Nat.add_assoc, Nat.add_comm 1 c]
theorem end_spec (any : Bool) (t : List Int) (p : List Int) (r : List Int) (ht : t = p ++ r) (k : Nat) (hl : t.length ≤ 140737488355328) (hk : r.length + 3 < k) :
    spec_l9End.f k t (p.length : Int) any = some (match scan any r 1 with | none => 0 | some c => ((p.length + c : Nat) : Int)) := by
  subst ht
  unfold spec_l9End.f
  have h := end_spec_l0 any r p 1 k hl (by simp at hl; omega) hk
  exact h
theorem end_impl_l0 : ∀ (r p : List Int) (n k : Nat), (p ++ r).length ≤ 140737488355328 → n + r.length ≤ 1000000000000000000 → r.length + 3 < k →
    impl_endOf.l0 k (p ++ r) (p.length : Int) (n : Int) = some (match scan true r n with | none => -1 | some c => ((p.length + c : Nat) : Int))
  | r, p, 0, k, hl, hn, hk => by
    obtain ⟨k, rfl⟩ := rounds hk
    simp only [impl_endOf.l0]
    rw [if_neg (by omega)]
    cases r <;> simp [scan]
  | [], p, n + 1, k, hl, hn, hk => by
    obtain ⟨k, rfl⟩ := rounds hk
    simp only [impl_endOf.l0]
    rw [if_pos (by omega), if_neg (by omega), if_pos (by simp)]
    simp [scan]
  | a :: r, p, n + 1, k, hl, hn, hk => by
    obtain ⟨k, rfl⟩ := rounds hk
    have hlen := len_app_cons p a r
    simp only [List.length_cons] at hk hn
    simp only [impl_endOf.l0]
    rw [if_pos (by omega), if_neg (by omega), if_neg (by omega), if_pos (by omega), if_pos (by omega), rd_app, arity_impl a k (by omega)]
    simp only [Option.bind_some]
    have hb := ar_le a
    simp only [scan]
    by_cases h1 : ar a < 0
    · rw [if_pos h1, if_pos (.inl h1)]
    · rw [if_neg h1]
      have hw : wrap64 (wrap64 ((((n + 1 : Nat) : Int)) + ar a) - 1) = ((n + (ar a).toNat : Nat) : Int) := by
        rw [w64 (x := ((n + 1 : Nat) : Int) + ar a) (by omega) (by omega), w64 (by omega) (by omega)]
        omega
      rw [w64_succ (n := (p ++ a :: r).length) (by omega) (by omega) (by omega), hw, ← len_snoc p a, app_cons, end_impl_l0 r (p ++ [a]) _ k (by rw [← app_cons]; omega) (by omega) (by omega), if_neg (by simp [h1])]
      cases hs : scan true r (n + (ar a).toNat) with
      | none => rfl
      | some c =>
        show some ((((p ++ [a]).length + c : Nat)) : Int) = some (((p.length + (c + 1) : Nat)) : Int)
        rw [List.length_append, List.length_singleton, Nat.add_assoc, Nat.add_comm 1 c]
theorem end_impl (t : List Int) (p : List Int) (r : List Int) (ht : t = p ++ r) (k : Nat) (hl : t.length ≤ 140737488355328) (hk : r.length + 3 < k) :
    impl_endOf.f k t (p.length : Int) = some (match scan true r 1 with | none => -1 | some c => ((p.length + c : Nat) : Int)) := by
  subst ht
  unfold impl_endOf.f
  have h := end_impl_l0 r p 1 k hl (by simp at hl; omega) hk
  exact h

/-- A good pattern. -/
def GP (l : List Int) (c : Int) : Prop := 1 ≤ l.length ∧ l.length ≤ 10 ∧ rd l 0 ≠ 0 ∧ scan true l 1 = some l.length ∧ 1 ≤ c ∧ c ≤ 100
theorem pattern_spec (l : List Int) (c : Int) (k : Nat) (hl : l.length ≤ 140737488355328) (hk : l.length + 3 < k) : ∃ b, spec_l9Pattern.f k l c = some b ∧ (b = true ↔ GP l c) := by
  unfold spec_l9Pattern.f spec_l1In.f GP
  by_cases e1 : (l.length : Int) ≥ 1
  · rw [if_pos e1]
    simp only [Option.bind_some]
    by_cases e2 : (l.length : Int) ≤ 10
    · rw [if_pos (by simpa using e2), if_pos (by omega)]
      by_cases e3 : rd l 0 = 0
      · rw [if_pos e3]
        exact ⟨false, rfl, by simp [e3]⟩
      · rw [if_neg e3]
        have h := end_spec true l [] l rfl k hl hk
        have h' : spec_l9End.f k l 0 true = _ := h
        rw [h']
        simp only [Option.bind_some]
        cases hs : scan true l 1 with
        | none =>
          rw [if_neg (by simp <;> omega)]
          exact ⟨false, rfl, by simp⟩
        | some d =>
          by_cases e4 : d = l.length
          · rw [if_pos (by simp [e4])]
            by_cases e5 : c ≥ 1
            · rw [if_pos e5]
              simp only [Option.bind_some]
              exact ⟨_, rfl, by simp [e3, e4, e5]; omega⟩
            · rw [if_neg e5]
              simp only [Option.bind_some]
              exact ⟨false, rfl, by simp; omega⟩
          · rw [if_neg (by simp; omega)]
            exact ⟨false, rfl, by simp [e4]⟩
    · rw [if_neg (by simpa using e2)]
      exact ⟨false, rfl, by simp; omega⟩
  · rw [if_neg e1]
    simp only [Option.bind_some]
    rw [if_neg (by simp)]
    exact ⟨false, rfl, by simp; omega⟩
theorem pattern_impl (l : List Int) (c : Int) (k : Nat) (hl : l.length ≤ 140737488355328) (hk : l.length + 3 < k) : ∃ b, impl_isPattern.f k l c = some b ∧ (b = true ↔ GP l c) := by
  unfold impl_isPattern.f impl_in.f GP
  by_cases e1 : (l.length : Int) ≥ 1
  · rw [if_pos e1]
    simp only [Option.bind_some]
    by_cases e2 : (l.length : Int) ≤ 10
    · rw [if_pos (by simpa using e2), if_pos (by omega)]
      by_cases e3 : rd l 0 = 0
      · rw [if_pos e3]
        exact ⟨false, rfl, by simp [e3]⟩
      · rw [if_neg e3]
        have h := end_impl l [] l rfl k hl hk
        have h' : impl_endOf.f k l 0 = _ := h
        rw [h']
        simp only [Option.bind_some]
        cases hs : scan true l 1 with
        | none =>
          rw [if_neg (by simp <;> omega)]
          exact ⟨false, rfl, by simp⟩
        | some d =>
          by_cases e4 : d = l.length
          · rw [if_pos (by simp [e4])]
            by_cases e5 : c ≥ 1
            · rw [if_pos e5]
              simp only [Option.bind_some]
              exact ⟨_, rfl, by simp [e3, e4, e5]; omega⟩
            · rw [if_neg e5]
              simp only [Option.bind_some]
              exact ⟨false, rfl, by simp; omega⟩
          · rw [if_neg (by simp; omega)]
            exact ⟨false, rfl, by simp [e4]⟩
    · rw [if_neg (by simpa using e2)]
      exact ⟨false, rfl, by simp; omega⟩
  · rw [if_neg e1]
    simp only [Option.bind_some]
    rw [if_neg (by simp)]
    exact ⟨false, rfl, by simp; omega⟩
theorem spec_pats_l0 : ∀ (r p : List S46) (k : Nat), (p ++ r).length ≤ 1048576 → r.length + totp2 r + 5 < k → totp2 r ≤ 1048576 →
    ∃ b, spec_GoodPatterns.l0 k (p ++ r) (p ++ r) ((p ++ r).length : Int) (p.length : Int) = some b ∧ (b = true ↔ (∀ x ∈ r, GP x.f0 x.f1) ∧ (p ++ r).length ≤ 12)
  | [], p, k, hl, hk, hx => by
    obtain ⟨k, rfl⟩ := rounds hk
    refine ⟨decide (((p ++ []).length : Int) ≤ 12), ?_, ?_⟩
    · simp only [spec_GoodPatterns.l0]
      rw [if_neg (by simp)]
    · simp
      omega
  | a :: r, p, k, hl, hk, hx => by
    obtain ⟨k, rfl⟩ := rounds hk
    have hn := len_app_cons p a r
    simp only [List.length_cons, totp2] at hk hx
    simp only [spec_GoodPatterns.l0]
    rw [if_pos (by omega), if_pos (by omega), if_pos (by omega), rdT46]
    obtain ⟨b, h1, h2⟩ := pattern_spec a.f0 a.f1 k (by omega) (by omega)
    rw [h1]
    simp only [Option.bind_some]
    cases b with
    | true =>
      rw [if_pos rfl, w64_succ (n := (p ++ a :: r).length) (by omega) (by omega) (by omega), ← len_snoc p a, app_cons]
      obtain ⟨b, h3, h4⟩ := spec_pats_l0 r (p ++ [a]) k (by rw [← app_cons]; omega) (by omega) (by omega)
      refine ⟨b, h3, h4.trans ?_⟩
      have h5 := h2.1 rfl
      simp [h5]
    | false =>
      rw [if_neg (by simp)]
      refine ⟨false, rfl, ?_⟩
      have h5 : ¬ GP a.f0 a.f1 := fun h => by have := h2.2 h; cases this
      simp [h5]
theorem impl_pats_l0 : ∀ (r p : List S46) (k : Nat), (p ++ r).length ≤ 1048576 → r.length + totp2 r + 5 < k → totp2 r ≤ 1048576 →
    ∃ n, slices_IndexFunc__impl_arePatterns_1.l0 k (p ++ r) ((p ++ r).length : Int) (p.length : Int) = some n ∧ (n < 0 ↔ ∀ x ∈ r, GP x.f0 x.f1)
  | [], p, k, hl, hk, hx => by
    obtain ⟨k, rfl⟩ := rounds hk
    refine ⟨-1, ?_, by simp⟩
    simp only [slices_IndexFunc__impl_arePatterns_1.l0]
    rw [if_neg (by simp)]
  | a :: r, p, k, hl, hk, hx => by
    obtain ⟨k, rfl⟩ := rounds hk
    have hn := len_app_cons p a r
    simp only [List.length_cons, totp2] at hk hx
    simp only [slices_IndexFunc__impl_arePatterns_1.l0, impl_arePatterns_1.f]
    rw [if_pos (by omega), if_pos (by omega), if_pos (by omega), rdT46]
    obtain ⟨b, h1, h2⟩ := pattern_impl a.f0 a.f1 k (by omega) (by omega)
    rw [h1]
    simp only [Option.bind_some]
    cases b with
    | true =>
      rw [if_neg (by simp), w64_succ (n := (p ++ a :: r).length) (by omega) (by omega) (by omega), ← len_snoc p a, app_cons]
      obtain ⟨n, h3, h4⟩ := impl_pats_l0 r (p ++ [a]) k (by rw [← app_cons]; omega) (by omega) (by omega)
      refine ⟨n, h3, h4.trans ?_⟩
      have h5 := h2.1 rfl
      simp [h5]
    | false =>
      rw [if_pos (by simp)]
      refine ⟨_, rfl, ?_⟩
      have h5 : ¬ GP a.f0 a.f1 := fun h => by have := h2.2 h; cases this
      simp [h5]
/-- Good patterns. -/
def GPs (l : List S46) : Prop := (∀ x ∈ l, GP x.f0 x.f1) ∧ l.length ≤ 12
theorem pats_spec (l : List S46) (hl : l.length + totp2 l ≤ 1048576) (k : Nat) (hk : 1048590 < k) : ∃ b, spec_GoodPatterns.f k l = some b ∧ (b = true ↔ GPs l) := by
  unfold spec_GoodPatterns.f GPs
  exact spec_pats_l0 l [] k (by simp; omega) (by omega) (by omega)
theorem pats_impl (l : List S46) (hl : l.length + totp2 l ≤ 1048576) (k : Nat) (hk : 1048590 < k) : ∃ b, impl_arePatterns.f k l = some b ∧ (b = true ↔ GPs l) := by
  unfold impl_arePatterns.f slices_ContainsFunc__impl_arePatterns_1.f slices_IndexFunc__impl_arePatterns_1.f GPs
  by_cases e : (l.length : Int) ≤ 12
  · rw [if_pos e]
    obtain ⟨n, h1, h2⟩ := impl_pats_l0 l [] k (by simp; omega) (by omega) (by omega)
    have h1' : slices_IndexFunc__impl_arePatterns_1.l0 k l (l.length : Int) 0 = some n := h1
    rw [h1']
    simp only [Option.bind_some]
    refine ⟨_, rfl, ?_⟩
    rw [← h2]
    simp
    omega
  · rw [if_neg e]
    exact ⟨false, rfl, by simp; omega⟩

theorem FnExactGoodPatterns : laws_FnExactGoodPatterns.Pure := by
  intro l ⟨hl0, hl1, hx⟩
  obtain ⟨K, hK⟩ : ∃ K, K = l.length + 3000000 := ⟨_, rfl⟩
  refine ⟨K, ?_⟩
  unfold laws_FnExactGoodPatterns.f
  obtain ⟨z, h1, h2⟩ := sz_pats l (by omega) (fun x hx' => by have := (hx x hx').1.2.1; omega) K (by omega)
  rw [h1]
  simp only [Option.bind_some]
  by_cases e : z < 0
  · rw [if_pos e]
  · rw [if_neg e]
    have hs := h2 (by omega)
    rw [to_pats l hs _ (by omega)]
    simp only [Option.bind_some]
    have hs2 : (l.map cP).length + totp2 (l.map cP) ≤ 1048576 := by rw [totp2_map, List.length_map]; exact hs
    unfold impl_GoodPatterns.f
    obtain ⟨b, h3, h4⟩ := pats_spec _ hs2 K (by omega)
    obtain ⟨c, h5, h6⟩ := pats_impl _ hs2 K (by omega)
    rw [h3, h5]
    simp only [Option.bind_some]
    have hbc : c = b := by rw [Bool.eq_iff_iff, h4, h6]
    rw [hbc, if_neg (by simp), eq_pats _ hs2 _ (by omega)]
    rfl

end Go.Proofs.Ytmmohcledhenfaa.Pure
