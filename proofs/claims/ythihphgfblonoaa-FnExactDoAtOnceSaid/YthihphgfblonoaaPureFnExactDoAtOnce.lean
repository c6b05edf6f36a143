/- The program's DoAtOnce answers as the reference's for all moves and words; it changes no argument, and its answer shares no memory. Conditions: none beyond those of the given statement. -/
import Derived.Test.YthihphgfblonoaaKit
import Derived.Test.YthihphgfblonoaaQFnExactDoAtOncex5
import Derived.Test.YthihphgfblonoaaQFnExactDoAtOncex4
import Derived.Test.YthihphgfblonoaaQFnExactDoAtOncex3
import Derived.Test.YthihphgfblonoaaQFnExactDoAtOncex2
import Derived.Test.YthihphgfblonoaaQFnExactDoAtOncex1
namespace Go.Proofs.Ythihphgfblonoaa.Pure
open Go.RowKit Go.Proofs.Ythihphgfblonoaa.QFnExactDoAtOnce Go.Proofs.YthihphgfblonoaaW.PrintWords Go.Proofs.YthihphgfblonoaaW.PrintLast Go.Proofs.YthihphgfblonoaaW.PrintMore Go.Proofs.Ythihphgfblonoaa.Kit
set_option linter.unusedSimpArgs false
set_option linter.unusedVariables false

theorem copy_l0 (l : List Int) (hl : l.length ≤ 140737488355328) : ∀ (d i k : Nat) (y : List Int), i + d = l.length → d < k → y.length = l.length → y.take i = l.take i →
    laws_toIntS.l0 k l y (i : Int) = some l
  | 0, i, k, y, hd, hk, hy, ht => by
    obtain ⟨k, rfl⟩ := rounds hk
    simp only [laws_toIntS.l0]
    rw [if_neg (by omega)]
    rw [List.take_of_length_le (by omega), List.take_of_length_le (by omega)] at ht
    rw [ht]
  | d + 1, i, k, y, hd, hk, hy, ht => by
    obtain ⟨k, rfl⟩ := rounds hk
    have hi : i < l.length := by omega
    simp only [laws_toIntS.l0]
    rw [if_pos (by omega), if_pos (by omega), if_pos (by omega), w64_succ (n := l.length) (by omega) (by omega) (by omega), rd_nat l i hi]
    refine copy_l0 l hl d (i + 1) k _ (by omega) (by omega) (by simpa using hy) ?_
    rw [show ((i : Int)).toNat = i from by omega, take_set_succ _ _ _ (by omega), take_succ _ _ hi, ht]
theorem copy_ints (l : List Int) (hl : l.length ≤ 35184372088832) (k : Nat) (hk : l.length < k) : laws_toIntS.f k l = some l := by
  unfold laws_toIntS.f
  rw [if_pos (by omega), if_pos (by omega)]
  exact copy_l0 l (by omega) l.length 0 k _ (by omega) (by omega) (by simp) (by simp)

theorem same_l0 : ∀ (r p : List Int) (k : Nat), (p ++ r).length ≤ 140737488355328 → r.length < k → laws_eqIntS.l0 k (p ++ r) (p ++ r) (p.length : Int) = some true
  | [], p, k, hl, hk => by
    obtain ⟨k, rfl⟩ := rounds hk
    simp only [laws_eqIntS.l0]
    rw [if_neg (by simp)]
  | a :: r, p, k, hl, hk => by
    obtain ⟨k, rfl⟩ := rounds hk
    have hn := len_app_cons p a r
    simp only [laws_eqIntS.l0]
    rw [if_pos (by omega), if_pos (by omega), if_pos (by omega), if_pos trivial, w64_succ (n := (p ++ a :: r).length) (by omega) (by omega) (by omega), ← len_snoc p a, app_cons]
    exact same_l0 r (p ++ [a]) k (by rw [← app_cons]; omega) (by simpa using hk)
theorem same_ints (l : List Int) (hl : l.length ≤ 140737488355328) (k : Nat) (hk : l.length < k) : laws_eqIntS.f k l l = some true := by
  unfold laws_eqIntS.f
  rw [if_pos rfl]
  exact same_l0 l [] k hl hk

/-- Marks: one number a place, rising. -/
def marked (x : Int) : Nat → List Int
  | 0 => []
  | n + 1 => x :: marked (x + 1) n
theorem marked_len : ∀ (n : Nat) (x : Int), (marked x n).length = n
  | 0, _ => rfl
  | n + 1, x => by simp only [marked, List.length_cons, marked_len n (x + 1)]
theorem mark_l0 : ∀ (r p : List Int) (k : Nat) (x : Int), (p ++ r).length ≤ 140737488355327 → r.length < k → 0 ≤ x → x + r.length ≤ 1000000000000000 →
    laws_markIntS.l0 k (p ++ r) x (p.length : Int) = some (x + r.length, p ++ marked x r.length)
  | [], p, k, x, hl, hk, h0, h1 => by
    obtain ⟨k, rfl⟩ := rounds hk
    simp only [laws_markIntS.l0]
    rw [if_neg (by simp)]
    simp [marked]
  | a :: r, p, k, x, hl, hk, h0, h1 => by
    obtain ⟨k, rfl⟩ := rounds hk
    have hn := len_app_cons p a r
    simp only [List.length_cons] at h1 hk
    simp only [laws_markIntS.l0]
    rw [if_pos (by omega), if_pos (by omega), show ((p.length : Int)).toNat = p.length from by omega, set_app, w64 (x := x + 1) (by omega) (by omega), w64_succ (n := (p ++ a :: r).length) (by omega) (by omega) (by omega), ← len_snoc p x, app_cons]
    rw [mark_l0 r (p ++ [x]) k (x + 1) (by rw [← app_cons, len_app_cons]; omega) (by omega) (by omega) (by omega)]
    simp only [List.length_cons, marked, List.append_assoc, List.singleton_append, Option.some.injEq, Prod.mk.injEq, and_true]
    omega
theorem mark_ints (l : List Int) (x : Int) (k : Nat) (hl : l.length ≤ 1000000000) (hk : l.length < k) (h0 : 0 ≤ x) (h1 : x ≤ 10000000000) : laws_markIntS.f k l x = some (x + l.length, marked x l.length) := by
  unfold laws_markIntS.f
  exact mark_l0 l [] k x (by simp; omega) hk h0 (by omega)
theorem held_l0 : ∀ (n : Nat) (p : List Int) (k : Nat) (x : Int), p.length + n ≤ 140737488355327 → n < k → 0 ≤ x → x + n ≤ 1000000000000000 →
    laws_heldIntS.l0 k (p ++ marked x n) x (p.length : Int) = some (x + n)
  | 0, p, k, x, hl, hk, h0, h1 => by
    obtain ⟨k, rfl⟩ := rounds hk
    rw [show marked x 0 = [] from rfl]
    simp only [laws_heldIntS.l0]
    rw [if_neg (by simp)]
    simp
  | n + 1, p, k, x, hl, hk, h0, h1 => by
    obtain ⟨k, rfl⟩ := rounds hk
    have hn := len_app_cons p x (marked (x + 1) n)
    rw [marked_len] at hn
    rw [show marked x (n + 1) = x :: marked (x + 1) n from rfl]
    simp only [laws_heldIntS.l0]
    rw [if_pos (by omega), if_pos (by omega), rd_app, if_pos rfl, w64 (x := x + 1) (by omega) (by omega), w64_succ (n := (p ++ x :: marked (x + 1) n).length) (by omega) (by omega) (by omega), ← len_snoc p x, app_cons]
    rw [held_l0 n (p ++ [x]) k (x + 1) (by simp; omega) (by omega) (by omega) (by omega)]
    simp only [Option.some.injEq]
    omega
theorem held_ints (n : Nat) (x : Int) (k : Nat) (hl : n ≤ 1000000000) (hk : n < k) (h0 : 0 ≤ x) (h1 : x ≤ 10000000000) : laws_heldIntS.f k (marked x n) x = some (x + n) := by
  unfold laws_heldIntS.f
  exact held_l0 n [] k x (by simp; omega) hk h0 (by omega)

/-- A move of the law's own type, as the program's. -/
def cM (x : S58) : S51 := ⟨x.f0, x.f1⟩
theorem rdM58 (p : List S58) (a : S58) (r : List S58) : rd_T58 (p ++ a :: r) (p.length : Int) = a := by
  unfold rd_T58
  simp
theorem rdM51 (p : List S51) (a : S51) (r : List S51) : rd_T51 (p ++ a :: r) (p.length : Int) = a := by
  unfold rd_T51
  simp
theorem sz_moves (l : List S58) (hl : l.length ≤ 140737488355328) : ∃ z, laws_szMoveS.f l 1048576 = some z ∧ (0 ≤ z → l.length ≤ 1048576) := by
  unfold laws_szMoveS.f
  rw [w64 (by omega) (by omega)]
  by_cases e : (1048576 : Int) - (l.length : Int) < 0
  · rw [if_pos e]
    exact ⟨-1, rfl, by omega⟩
  · rw [if_neg e]
    exact ⟨_, rfl, by omega⟩
theorem to_l0 : ∀ (r p : List S58) (y : List S51) (k : Nat), (p ++ r).length ≤ 140737488355328 → r.length < k → y.length = (p ++ r).length → y.take p.length = p.map cM →
    laws_toMoveS.l0 k (p ++ r) y (p.length : Int) = some ((p ++ r).map cM)
  | [], p, y, k, hl, hk, hy, ht => by
    obtain ⟨k, rfl⟩ := rounds hk
    simp only [laws_toMoveS.l0]
    rw [if_neg (by simp)]
    rw [List.take_of_length_le (by simp at hy; omega)] at ht
    simp [ht]
  | a :: r, p, y, k, hl, hk, hy, ht => by
    obtain ⟨k, rfl⟩ := rounds hk
    have hn := len_app_cons p a r
    simp only [List.length_cons] at hk
    simp only [laws_toMoveS.l0, laws_toMove.f]
    rw [if_pos (by omega), if_pos (by omega), rdM58]
    simp only [Option.bind_some]
    rw [if_pos (by omega), w64_succ (n := (p ++ a :: r).length) (by omega) (by omega) (by omega), ← len_snoc p a, app_cons, show ((p.length : Int)).toNat = p.length from by omega]
    refine to_l0 r (p ++ [a]) _ k (by rw [← app_cons]; omega) (by omega) (by rw [← app_cons, List.length_set]; exact hy) ?_
    rw [List.length_append, List.length_singleton, take_set_succ _ _ _ (by omega), ht]
    simp [cM]
theorem to_moves (l : List S58) (hl : l.length ≤ 1048576) (k : Nat) (hk : 1048580 < k) : laws_toMoveS.f k l = some (l.map cM) := by
  unfold laws_toMoveS.f
  rw [if_pos (by omega), if_pos (by omega)]
  exact to_l0 l [] _ k (by simp; omega) (by omega) (by simp) (by simp)
theorem eq_l0 : ∀ (r p : List S51) (k : Nat), (p ++ r).length ≤ 140737488355328 → r.length < k → laws_eqMoveS.l0 k (p ++ r) (p ++ r) (p.length : Int) = some true
  | [], p, k, hl, hk => by
    obtain ⟨k, rfl⟩ := rounds hk
    simp only [laws_eqMoveS.l0]
    rw [if_neg (by simp)]
  | a :: r, p, k, hl, hk => by
    obtain ⟨k, rfl⟩ := rounds hk
    have hn := len_app_cons p a r
    simp only [List.length_cons] at hk
    simp only [laws_eqMoveS.l0, laws_eqMove.f]
    rw [if_pos (by omega), if_pos (by omega), if_pos (by omega)]
    simp only [Option.bind_some, if_true]
    rw [w64_succ (n := (p ++ a :: r).length) (by omega) (by omega) (by omega), ← len_snoc p a, app_cons]
    exact eq_l0 r (p ++ [a]) k (by rw [← app_cons]; omega) (by omega)
theorem eq_moves (l : List S51) (hl : l.length ≤ 1048576) (k : Nat) (hk : 1048580 < k) : laws_eqMoveS.f k l l = some true := by
  unfold laws_eqMoveS.f
  rw [if_pos rfl]
  exact eq_l0 l [] k (by simp; omega) (by omega)

def okP (m : S51) : Bool := (decide (0 ≤ m.f0) && decide (m.f0 ≤ 9)) && (decide (0 ≤ m.f1) && decide (m.f1 ≤ 9))
def goodM (s : List Int) : List S51 → Bool
  | [] => true
  | m :: r => okP m && (!(decide (m.f1 ∈ s)) && goodM (s ++ [m.f1]) r)
theorem spec_inner (x0 x7 : List S51) (x8 x9 f0 t : Int) : ∀ (r p : List S51) (K m : Nat), K = m + r.length + 1 → (p ++ r).length ≤ 140737488355327 →
    spec_GoodMoves.l1 K x0 x7 x8 x9 (p ++ r) ((p ++ r).length : Int) (p.length : Int) f0 t = cond (decide (t ∈ r.map (·.f1))) (some false) (spec_GoodMoves.l0 m x0 x7 x8 (wrap64 (x9 + 1)))
  | [], p, K, m, hK, hl => by
    subst hK
    simp only [spec_GoodMoves.l1]
    rw [if_neg (by simp)]
    simp
  | a :: r, p, K, m, hK, hl => by
    have hn := len_app_cons p a r
    obtain ⟨K, rfl⟩ : ∃ K', K = K' + 1 := ⟨m + r.length + 1, by rw [hK]; simp; omega⟩
    simp only [List.length_cons] at hK
    simp only [spec_GoodMoves.l1, rdM51]
    rw [if_pos (by omega), if_pos (by omega), if_pos (by omega), w64_succ (n := (p ++ a :: r).length) (by omega) (by omega) (by omega), ← len_snoc p a, app_cons]
    rw [spec_inner x0 x7 x8 x9 f0 t r (p ++ [a]) K m (by omega) (by rw [← app_cons]; omega)]
    by_cases e : a.f1 = t
    · rw [if_pos e]
      simp [e]
    · have hne : ¬ t = a.f1 := fun h => e h.symm
      rw [if_neg e]
      simp [hne]
theorem okP_not (a : S51) (h : okP a = false) : ¬ (0 ≤ a.f0 ∧ a.f0 ≤ 9 ∧ 0 ≤ a.f1 ∧ a.f1 ≤ 9) := by
  rintro ⟨h1, h2, h3, h4⟩
  simp [okP, h1, h2, h3, h4] at h
theorem spec_good_l0 : ∀ (r p : List S51) (k : Nat), (p ++ r).length ≤ 140737488355327 → r.length * ((p ++ r).length + 3) < k →
    spec_GoodMoves.l0 k (p ++ r) (p ++ r) ((p ++ r).length : Int) (p.length : Int) = some (goodM (p.map (·.f1)) r && decide (((p ++ r).length : Int) ≤ 10))
  | [], p, k, hl, hk => by
    obtain ⟨k, rfl⟩ := rounds hk
    simp only [spec_GoodMoves.l0]
    rw [if_neg (by simp)]
    simp [goodM]
  | a :: r, p, k, hl, hk => by
    have hn := len_app_cons p a r
    rw [List.length_cons, Nat.succ_mul] at hk
    generalize hc : r.length * ((p ++ a :: r).length + 3) = c at hk
    obtain ⟨m, rfl⟩ : ∃ m, k = (m + p.length + 1) + 1 + 1 := ⟨k - p.length - 3, by omega⟩
    have hgo := spec_good_l0 r (p ++ [a]) m (by rw [← app_cons]; omega) (by rw [← app_cons, hc]; omega)
    rw [← app_cons, len_snoc] at hgo
    obtain ⟨K, hK⟩ : ∃ K, K = m + p.length + 1 := ⟨_, rfl⟩
    rw [← hK]
    have hin := spec_inner (p ++ a :: r) (p ++ a :: r) ((p ++ a :: r).length : Int) (p.length : Int) a.f0 a.f1 p [] K m hK (by simp; omega)
    simp only [List.nil_append, List.length_nil] at hin
    rw [w64_succ (n := (p ++ a :: r).length) (by omega) (by omega) (by omega), hgo] at hin
    simp only [spec_GoodMoves.l0, rdM51, spec_l8Place.f, spec_l1In.f]
    obtain ⟨K1, hK1⟩ : ∃ K1, K1 = K + 1 := ⟨_, rfl⟩
    rw [← hK1]
    rw [if_pos (by omega), if_pos (by omega), if_pos (by omega)]
    have hbad : ∀ x3 x7 x8 x9 f0 f1, spec_GoodMoves.j1 K1 (p ++ a :: r) x3 x7 x8 x9 true f0 f1 = some false := by
      intro x3 x7 x8 x9 f0 f1
      rw [hK1]
      simp only [spec_GoodMoves.j1]
      rw [if_pos trivial]
    have hok : spec_GoodMoves.j1 K1 (p ++ a :: r) (p.length : Int) (p ++ a :: r) ((p ++ a :: r).length : Int) (p.length : Int) false a.f0 a.f1 = cond (decide (a.f1 ∈ p.map (·.f1))) (some false) (some (goodM ((p ++ [a]).map (·.f1)) r && decide (((p ++ a :: r).length : Int) ≤ 10))) := by
      rw [hK1]
      simp only [spec_GoodMoves.j1]
      rw [if_neg (by simp), if_pos (by omega), if_pos (by omega), show ((p.length : Int)).toNat = p.length from by omega, List.take_left']
      · simp only [Option.bind_some]
        exact hin
      · rfl
    rw [show goodM (p.map (·.f1)) (a :: r) = (okP a && (!(decide (a.f1 ∈ p.map (·.f1))) && goodM (p.map (·.f1) ++ [a.f1]) r)) from rfl]
    by_cases h : okP a = true
    · have h' := h
      simp only [okP, Bool.and_eq_true, decide_eq_true_eq] at h'
      rw [if_pos (by omega)]
      simp only [Option.bind_some]
      rw [if_pos (by simp; omega), if_pos (by omega)]
      simp only [Option.bind_some]
      rw [show (!(decide (a.f1 ≤ 9))) = false from by simp; omega, hok, h]
      by_cases hm : a.f1 ∈ p.map (·.f1)
      · simp [hm]
      · simp [hm]
    · have h2 : okP a = false := by simpa using h
      have h3 := okP_not a h2
      rw [h2, Bool.false_and, Bool.false_and]
      by_cases e1 : a.f0 ≥ 0
      · rw [if_pos e1]
        simp only [Option.bind_some]
        by_cases e2 : a.f0 ≤ 9
        · rw [if_pos (by simp; omega)]
          by_cases e3 : a.f1 ≥ 0
          · rw [if_pos e3]
            simp only [Option.bind_some]
            rw [show (!(decide (a.f1 ≤ 9))) = true from by simp; omega, hbad]
          · rw [if_neg e3]
            simp only [Option.bind_some]
            exact hbad _ _ _ _ _ _
        · rw [if_neg (by simp; omega), hbad]
      · rw [if_neg e1]
        simp only [Option.bind_some]
        rw [if_neg (by simp), hbad]
theorem impl_good_l0 : ∀ (r p : List S51) (k : Nat) (s : List Int) (b : List Bool), (p ++ r).length ≤ 140737488355327 → 2 * r.length < k → b.length = 10 → (∀ t : Int, 0 ≤ t → t ≤ 9 → rdOf false b t = decide (t ∈ s)) →
    impl_areMoves.l0 k b (p ++ r) ((p ++ r).length : Int) (p.length : Int) = some (goodM s r)
  | [], p, k, s, b, hl, hk, hb, hs => by
    obtain ⟨k, rfl⟩ := rounds hk
    simp only [impl_areMoves.l0]
    rw [if_neg (by simp)]
    rfl
  | a :: r, p, k, s, b, hl, hk, hb, hs => by
    have hn := len_app_cons p a r
    simp only [List.length_cons] at hk
    obtain ⟨K1, hK1⟩ : ∃ m, k = m + 1 := ⟨k - 1, by omega⟩
    obtain ⟨K2, hK2⟩ : ∃ m, K1 = m + 1 := ⟨K1 - 1, by omega⟩
    rw [hK1]
    simp only [impl_areMoves.l0, rdM51, impl_in.f]
    rw [if_pos (by omega), if_pos (by omega), if_pos (by omega)]
    have hbad : ∀ x3 x7 x8 x9 f0 f1, impl_areMoves.j1 K1 x3 x7 x8 x9 true f0 f1 = some false := by
      intro x3 x7 x8 x9 f0 f1
      rw [hK2]
      simp only [impl_areMoves.j1]
      rw [if_pos trivial]
    rw [show goodM s (a :: r) = (okP a && (!(decide (a.f1 ∈ s)) && goodM (s ++ [a.f1]) r)) from rfl]
    by_cases h : okP a = true
    · have h' := h
      simp only [okP, Bool.and_eq_true, decide_eq_true_eq] at h'
      rw [if_pos (by omega)]
      simp only [Option.bind_some]
      rw [if_pos (by simp; omega), if_pos (by omega)]
      simp only [Option.bind_some]
      rw [if_pos (by simp; omega), if_pos (by omega), if_pos (by omega), hs a.f1 (by omega) (by omega), h]
      by_cases hm : a.f1 ∈ s
      · rw [show decide (a.f1 ∈ s) = true from by simpa using hm, hbad]
        rfl
      · rw [show decide (a.f1 ∈ s) = false from by simpa using hm, hK2]
        simp only [impl_areMoves.j1]
        rw [if_neg (by simp), if_pos (by omega), if_pos (by omega), w64_succ (n := (p ++ a :: r).length) (by omega) (by omega) (by omega), ← len_snoc p a, app_cons]
        rw [impl_good_l0 r (p ++ [a]) K2 (s ++ [a.f1]) _ (by rw [← app_cons]; omega) (by omega) (by simpa using hb) ?_]
        · rfl
        · intro t h0 h1
          have hst := hs t h0 h1
          unfold rdOf at hst ⊢
          by_cases e : t = a.f1
          · subst e
            have hlt : a.f1.toNat < b.length := by omega
            simp [hlt]
          · have hne : a.f1.toNat ≠ t.toNat := by omega
            simp only [List.getD_eq_getElem?_getD] at hst ⊢
            rw [List.getElem?_set_ne hne, hst]
            simp [e]
    · have h2 : okP a = false := by simpa using h
      have h3 := okP_not a h2
      rw [h2, Bool.false_and]
      by_cases e1 : a.f0 ≥ 0
      · rw [if_pos e1]
        simp only [Option.bind_some]
        by_cases e2 : a.f0 ≤ 9
        · rw [if_pos (by simp; omega)]
          by_cases e3 : a.f1 ≥ 0
          · rw [if_pos e3]
            simp only [Option.bind_some]
            rw [if_neg (by simp; omega), hbad]
          · rw [if_neg e3]
            simp only [Option.bind_some]
            rw [if_neg (by simp), hbad]
        · rw [if_neg (by simp; omega), hbad]
      · rw [if_neg e1]
        simp only [Option.bind_some]
        rw [if_neg (by simp), hbad]
theorem good_len : ∀ (r : List S51) (s : List Int), s.Nodup → (∀ x ∈ s, 0 ≤ x ∧ x < ((10 : Nat) : Int)) → goodM s r = true → s.length + r.length ≤ 10
  | [], s, hn, hs, _ => by simpa using nodup_bound 10 s hn hs
  | a :: r, s, hn, hs, h => by
    rw [show goodM s (a :: r) = (okP a && (!(decide (a.f1 ∈ s)) && goodM (s ++ [a.f1]) r)) from rfl] at h
    rw [Bool.and_eq_true, Bool.and_eq_true] at h
    obtain ⟨h1, h2, h3⟩ := h
    have hm : a.f1 ∉ s := by simpa using h2
    simp only [okP, Bool.and_eq_true, decide_eq_true_eq] at h1
    have := good_len r (s ++ [a.f1]) (List.nodup_append.2 ⟨hn, by simp, by intro x hx y hy; simp at hy; subst hy; intro e; subst e; exact hm hx⟩) (by
      intro x hx
      rcases List.mem_append.1 hx with hx | hx
      · exact hs x hx
      · simp at hx; subst hx; omega) h3
    simp only [List.length_append, List.length_singleton, List.length_cons] at this ⊢
    omega

theorem mark_moves_l0 : ∀ (r p : List S51) (k : Nat) (x : Int), (p ++ r).length ≤ 140737488355327 → r.length < k → 0 ≤ x → x + 2 * r.length ≤ 1000000000000000 →
    ∃ y, laws_markMoveS.l0 k (p ++ r) x (p.length : Int) = some (x + 2 * r.length, y)
  | [], p, k, x, hl, hk, h0, h1 => by
    obtain ⟨k, rfl⟩ := rounds hk
    refine ⟨p ++ [], ?_⟩
    · simp only [laws_markMoveS.l0]
      rw [if_neg (by simp)]
      simp
  | a :: r, p, k, x, hl, hk, h0, h1 => by
    obtain ⟨k, rfl⟩ := rounds hk
    have hn := len_app_cons p a r
    simp only [List.length_cons] at h1 hk
    obtain ⟨y, hy⟩ := mark_moves_l0 r (p ++ [⟨x, x + 1⟩]) k (x + 1 + 1) (by rw [← app_cons, len_app_cons]; omega) (by omega) (by omega) (by omega)
    refine ⟨y, ?_⟩
    simp only [laws_markMoveS.l0]
    rw [if_pos (by omega), if_pos (by omega), show ((p.length : Int)).toNat = p.length from by omega, set_app]
    simp only [Option.bind_some]
    simp only [rdM51]
    rw [set_app, w64 (x := x + 1) (by omega) (by omega), w64 (x := x + 1 + 1) (by omega) (by omega), w64_succ (n := (p ++ a :: r).length) (by omega) (by omega) (by omega)]
    rw [← app_cons, len_snoc] at hy
    rw [hy]
    simp only [List.length_cons, Option.some.injEq, Prod.mk.injEq, and_true]
    omega
theorem mark_moves (l : List S51) (k : Nat) (hl : l.length ≤ 1048576) (hk : l.length < k) : ∃ y, laws_markMoveS.f k l 1 = some (1 + 2 * (l.length : Int), y) := by
  unfold laws_markMoveS.f
  exact mark_moves_l0 l [] k 1 (by simp; omega) hk (by omega) (by omega)

/-- A word's bounds. -/
def okW (x : Int) : Bool := decide (0 ≤ x) && decide (x ≤ 65535)
theorem words_l0 (L : List Int) : ∀ (r p : List Int) (k : Nat), (p ++ r).length ≤ 140737488355328 → r.length < k →
    spec_l8Words.l0 k L (p ++ r) ((p ++ r).length : Int) (p.length : Int) = some (r.all okW && ((L.length : Int) == 11))
  | [], p, k, hl, hk => by
    obtain ⟨k, rfl⟩ := rounds hk
    simp only [spec_l8Words.l0]
    rw [if_neg (by simp)]
    simp
  | a :: r, p, k, hl, hk => by
    obtain ⟨k, rfl⟩ := rounds hk
    have hn := len_app_cons p a r
    simp only [List.length_cons] at hk
    simp only [spec_l8Words.l0, spec_l1Word.f, spec_l1In.f]
    rw [if_pos (by omega), if_pos (by omega), if_pos (by omega), rd_app]
    have hgo := words_l0 L r (p ++ [a]) k (by rw [← app_cons]; omega) (by omega)
    rw [w64_succ (n := (p ++ a :: r).length) (by omega) (by omega) (by omega)]
    rw [← app_cons, len_snoc] at hgo
    rw [hgo]
    by_cases e1 : a ≥ 0 <;> by_cases e2 : a ≤ 65535 <;> simp [e1, e2, okW, List.all_cons]
theorem words_f (l : List Int) (hl : l.length ≤ 140737488355328) (k : Nat) (hk : l.length < k) : spec_l8Words.f k l = some (l.all okW && ((l.length : Int) == 11)) := by
  unfold spec_l8Words.f
  exact words_l0 l l [] k hl hk

theorem bad_words_l0 : ∀ (r p : List Int) (k : Nat), (p ++ r).length ≤ 140737488355328 → r.length < k →
    ∃ n, slices_IndexFunc__impl_DoAtOnce_1.l0 k (p ++ r) ((p ++ r).length : Int) (p.length : Int) = some n ∧ (0 ≤ n ↔ r.all okW = false)
  | [], p, k, hl, hk => by
    obtain ⟨k, rfl⟩ := rounds hk
    refine ⟨-1, ?_, by simp⟩
    simp only [slices_IndexFunc__impl_DoAtOnce_1.l0]
    rw [if_neg (by simp)]
  | a :: r, p, k, hl, hk => by
    obtain ⟨k, rfl⟩ := rounds hk
    have hn := len_app_cons p a r
    simp only [List.length_cons] at hk
    simp only [slices_IndexFunc__impl_DoAtOnce_1.l0, impl_DoAtOnce_1.f, impl_isWord.f, impl_in.f]
    rw [if_pos (by omega), if_pos (by omega), if_pos (by omega), rd_app, w64_succ (n := (p ++ a :: r).length) (by omega) (by omega) (by omega), ← len_snoc p a, app_cons]
    obtain ⟨n, h1, h2⟩ := bad_words_l0 r (p ++ [a]) k (by rw [← app_cons]; omega) (by omega)
    by_cases e1 : a ≥ 0 <;> by_cases e2 : a ≤ 65535
    · refine ⟨n, ?_, ?_⟩
      · simp [e1, e2]
        simpa using h1
      · rw [h2]; simp [e1, e2, okW]
    all_goals
      refine ⟨(p.length : Int), ?_, ?_⟩
      · simp [e1, e2]
      · simp [e1, e2, okW]
theorem bad_words (l : List Int) (hl : l.length ≤ 140737488355328) (k : Nat) (hk : l.length < k) : slices_ContainsFunc__impl_DoAtOnce_1.f k l = some (!(l.all okW)) := by
  unfold slices_ContainsFunc__impl_DoAtOnce_1.f slices_IndexFunc__impl_DoAtOnce_1.f
  obtain ⟨n, h1, h2⟩ := bad_words_l0 l [] k hl hk
  have h1' : slices_IndexFunc__impl_DoAtOnce_1.l0 k l (l.length : Int) 0 = some n := h1
  rw [h1']
  simp only [Option.bind_some, ge_iff_le]
  cases h : l.all okW <;> simp [h2, h]
theorem spec_goodM (l : List S51) (hl : l.length ≤ 1048576) (k : Nat) (hk : 1048576 * 1048579 < k) : spec_GoodMoves.f k l = some (goodM [] l) := by
  have hq : l.length * (l.length + 3) ≤ 1048576 * 1048579 := Nat.mul_le_mul hl (by omega)
  have hsp := spec_good_l0 l [] k (by simp; omega) (by simp only [List.nil_append]; omega)
  unfold spec_GoodMoves.f
  simp only [List.nil_append, List.length_nil, List.map_nil] at hsp
  have hsp' : spec_GoodMoves.l0 k l l (l.length : Int) 0 = _ := hsp
  rw [hsp']
  cases h : goodM [] l
  · rfl
  · have := good_len l [] (by simp) (by simp) h
    simp only [List.length_nil] at this
    rw [Bool.true_and]
    simp only [Option.some.injEq, decide_eq_true_eq]
    omega
theorem impl_goodM (l : List S51) (hl : l.length ≤ 1048576) (k : Nat) (hk : 1048576 * 1048579 < k) : impl_areMoves.f k l = some (goodM [] l) := by
  have him := impl_good_l0 l [] k [] (List.replicate 10 false) (by simp; omega) (by omega) (by simp) (by
    intro t h0 h1
    unfold rdOf
    rw [List.getD_eq_getElem?_getD, List.getElem?_replicate]
    split <;> simp)
  unfold impl_areMoves.f
  simp only [List.nil_append, List.length_nil] at him
  have him' : impl_areMoves.l0 k (List.replicate 10 false) l (l.length : Int) 0 = _ := him
  rw [if_pos (by decide), him']
def atAll (W : List Int) : List S51 → List Int → List Int
  | [], w => w
  | m :: r, w => atAll W r (w.set m.f1.toNat (rd W m.f0))
theorem atAll_len (W : List Int) : ∀ (l : List S51) (w : List Int), (atAll W l w).length = w.length
  | [], w => rfl
  | m :: r, w => by simp only [atAll, atAll_len W r]; simp
theorem spec_at_l0 (W : List Int) (hW : W.length = 11) : ∀ (r p : List S51) (w s : List Int) (k : Nat), (p ++ r).length ≤ 140737488355328 → r.length < k → w.length = 11 → goodM s r = true →
    spec_DoAtOnce.l0 k W w (p ++ r) ((p ++ r).length : Int) (p.length : Int) = some (atAll W r w, true)
  | [], p, w, s, k, hl, hk, hw, hr => by
    obtain ⟨k, rfl⟩ := rounds hk
    simp only [spec_DoAtOnce.l0]
    rw [if_neg (by simp)]
    rfl
  | a :: r, p, w, s, k, hl, hk, hw, hr => by
    obtain ⟨k, rfl⟩ := rounds hk
    have hn := len_app_cons p a r
    simp only [List.length_cons] at hk
    rw [show goodM s (a :: r) = (okP a && (!(decide (a.f1 ∈ s)) && goodM (s ++ [a.f1]) r)) from rfl, Bool.and_eq_true, Bool.and_eq_true] at hr
    obtain ⟨h, _, hr⟩ := hr
    simp only [okP, Bool.and_eq_true, decide_eq_true_eq] at h
    simp only [spec_DoAtOnce.l0, rdM51]
    rw [if_pos (by omega), if_pos (by omega), if_pos (by omega), w64_succ (n := (p ++ a :: r).length) (by omega) (by omega) (by omega), ← len_snoc p a, app_cons]
    rw [if_pos (by omega), if_pos (by omega), if_pos (by omega), if_pos (by omega)]
    exact spec_at_l0 W hW r (p ++ [a]) (w.set a.f1.toNat (rd W a.f0)) _ k (by rw [← app_cons]; omega) (by omega) (by simpa using hw) hr
theorem impl_at_l0 (W : List Int) (hW : W.length = 11) : ∀ (r p : List S51) (w s : List Int) (k : Nat), (p ++ r).length ≤ 140737488355328 → r.length < k → w.length = 11 → goodM s r = true →
    impl_DoAtOnce.l0 k W w (p ++ r) ((p ++ r).length : Int) (p.length : Int) = some (atAll W r w, true)
  | [], p, w, s, k, hl, hk, hw, hr => by
    obtain ⟨k, rfl⟩ := rounds hk
    simp only [impl_DoAtOnce.l0]
    rw [if_neg (by simp)]
    rfl
  | a :: r, p, w, s, k, hl, hk, hw, hr => by
    obtain ⟨k, rfl⟩ := rounds hk
    have hn := len_app_cons p a r
    simp only [List.length_cons] at hk
    rw [show goodM s (a :: r) = (okP a && (!(decide (a.f1 ∈ s)) && goodM (s ++ [a.f1]) r)) from rfl, Bool.and_eq_true, Bool.and_eq_true] at hr
    obtain ⟨h, _, hr⟩ := hr
    simp only [okP, Bool.and_eq_true, decide_eq_true_eq] at h
    simp only [impl_DoAtOnce.l0, rdM51]
    rw [if_pos (by omega), if_pos (by omega), if_pos (by omega), w64_succ (n := (p ++ a :: r).length) (by omega) (by omega) (by omega), ← len_snoc p a, app_cons]
    rw [if_pos (by omega), if_pos (by omega), if_pos (by omega), if_pos (by omega)]
    exact impl_at_l0 W hW r (p ++ [a]) (w.set a.f1.toNat (rd W a.f0)) _ k (by rw [← app_cons]; omega) (by omega) (by simpa using hw) hr

def atR (l : List S51) (w : List Int) : List Int × Bool := cond (goodM [] l && (w.all okW && ((w.length : Int) == 11))) (atAll w l w, true) ([], false)
theorem atR_len (l : List S51) (w : List Int) : (atR l w).1.length ≤ w.length := by
  unfold atR
  cases (goodM [] l && (w.all okW && ((w.length : Int) == 11))) <;> simp [atAll_len]
theorem spec_at (l : List S51) (w : List Int) (hl : l.length ≤ 1048576) (hw : w.length ≤ 1048576) (k : Nat) (hk : 1048576 * 1048579 + 1 < k) : spec_DoAtOnce.f k l w = some (atR l w) := by
  unfold spec_DoAtOnce.f atR
  rw [spec_goodM l hl k (by omega), words_f w (by omega) k (by omega)]
  simp only [Option.bind_some]
  obtain ⟨k, rfl⟩ := rounds hk
  simp only [spec_DoAtOnce.j0]
  cases hg : goodM [] l
  · rfl
  · rw [if_pos rfl, Bool.true_and]
    cases h : (w.all okW && ((w.length : Int) == 11))
    · rfl
    · rw [Bool.and_eq_true, beq_iff_eq] at h
      have hlt : ([] : List Int).length + w.length < 17592186044416 := by simp; omega
      simp only [Option.bind_some, List.nil_append, Bool.not_true, Bool.false_eq_true, if_false, if_pos hlt]
      exact spec_at_l0 w (by omega) l [] w [] k (by simp; omega) (by omega) (by omega) hg
theorem impl_at (l : List S51) (w : List Int) (hl : l.length ≤ 1048576) (hw : w.length ≤ 1048576) (k : Nat) (hk : 1048576 * 1048579 + 1 < k) : impl_DoAtOnce.f k l w = some (atR l w) := by
  unfold impl_DoAtOnce.f atR
  rw [impl_goodM l hl k (by omega), bad_words w (by omega) k (by omega)]
  simp only [Option.bind_some]
  obtain ⟨k, rfl⟩ := rounds hk
  simp only [impl_DoAtOnce.j0]
  cases hg : goodM [] l
  · rfl
  · rw [if_pos rfl, Bool.true_and]
    by_cases e2 : (w.length : Int) = 11
    · rw [if_pos e2, show ((w.length : Int) == 11) = true from by simpa using e2, Bool.and_true]
      cases h2 : w.all okW
      · rfl
      · have hlt : ([] : List Int).length + w.length < 17592186044416 := by simp; omega
        simp only [Option.bind_some, List.nil_append, Bool.not_true, Bool.false_eq_true, if_false, if_pos hlt]
        exact impl_at_l0 w (by omega) l [] w [] k (by simp; omega) (by omega) (by omega) hg
    · rw [if_neg e2, if_pos trivial, show ((w.length : Int) == 11) = false from by simpa using e2, Bool.and_false]
      rfl
theorem FnExactDoAtOnce : laws_FnExactDoAtOnce.Pure := by
  intro l w ⟨hl0, hl1, _⟩ ⟨hw0, hw1, _⟩
  obtain ⟨k, hk⟩ : ∃ k, k = 2000000000000 := ⟨_, rfl⟩
  refine ⟨k, ?_⟩
  unfold laws_FnExactDoAtOnce.f
  by_cases e : (w.length : Int) > 1048576
  · rw [if_pos e]
  · rw [if_neg e]
    obtain ⟨z, hz1, hz2⟩ := sz_moves l (by omega)
    rw [hz1]
    simp only [Option.bind_some]
    by_cases e2 : z < 0
    · rw [if_pos e2]
    · rw [if_neg e2]
      have hlen := hz2 (by omega)
      have hto := fun k hk => to_moves l hlen k hk
      have hcp := fun k hk => copy_ints w (by omega) k hk
      have hM : (l.map cM).length ≤ 1048576 := by simpa using hlen
      have hsp := spec_at (l.map cM) w hM (by omega)
      have him := impl_at (l.map cM) w hM (by omega)
      have hR : (atR (l.map cM) w).1.length ≤ w.length := atR_len _ _
      obtain ⟨R, b, hRb⟩ : ∃ R b, atR (l.map cM) w = (R, b) := ⟨_, _, rfl⟩
      rw [hRb] at hsp him hR
      simp only at hR
      rw [hto k (by omega), hcp k (by omega)]
      simp only [Option.bind_some]
      rw [hsp k (by omega), him k (by omega)]
      simp only [Option.bind_some]
      rw [same_ints R (by omega) k (by omega)]
      simp only [Option.bind_some]
      rw [if_pos trivial]
      obtain ⟨k1, rfl⟩ : ∃ k1, k = k1 + 1 := ⟨k - 1, by omega⟩
      simp only [laws_FnExactDoAtOnce.j0]
      rw [if_neg (by simp), hto k1 (by omega)]
      simp only [Option.bind_some]
      rw [eq_moves _ hM k1 (by omega)]
      simp only [Option.bind_some]
      rw [if_pos trivial, hcp k1 (by omega)]
      simp only [Option.bind_some]
      rw [same_ints w (by omega) k1 (by omega)]
      simp only [Option.bind_some]
      obtain ⟨y, hy⟩ := mark_moves (l.map cM) k1 hM (by omega)
      rw [if_pos trivial, hy]
      simp only [Option.bind_some]
      rw [mark_ints w _ k1 (by omega) (by omega) (by omega) (by omega)]
      simp only [Option.bind_some]
      rw [if_neg (by omega), same_ints R (by omega) k1 (by omega)]
      simp only [Option.bind_some]
      rw [if_pos trivial]
      obtain ⟨k2, rfl⟩ : ∃ k2, k1 = k2 + 1 := ⟨k1 - 1, by omega⟩
      simp only [laws_FnExactDoAtOnce.j1]
      rw [if_neg (by simp), mark_ints R 1 k2 (by omega) (by omega) (by omega) (by omega)]
      simp only [Option.bind_some]
      rw [held_ints R.length 1 k2 (by omega) (by omega) (by omega) (by omega)]
      simp only [Option.bind_some]
      rw [if_neg (by omega), if_pos trivial, hto k2 (by omega), hcp k2 (by omega)]
      simp only [Option.bind_some]
      rw [him k2 (by omega)]
      simp only [Option.bind_some]
      rw [same_ints R (by omega) k2 (by omega)]
      simp only [Option.bind_some]
      rw [if_pos trivial]
      obtain ⟨k3, rfl⟩ : ∃ k3, k2 = k3 + 1 := ⟨k2 - 1, by omega⟩
      simp only [laws_FnExactDoAtOnce.j2]
      rw [if_neg (by simp), held_ints R.length 1 k3 (by omega) (by omega) (by omega) (by omega)]
      simp only [Option.bind_some]
      rw [if_neg (by omega), if_pos trivial]

end Go.Proofs.Ythihphgfblonoaa.Pure
