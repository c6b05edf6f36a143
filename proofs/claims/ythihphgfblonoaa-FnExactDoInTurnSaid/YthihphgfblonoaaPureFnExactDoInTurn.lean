/- The program's DoInTurn answers as the reference's for all moves and words; it changes no argument, and its answer shares no memory. Conditions: none beyond those of the given statement. -/
import Derived.Test.YthihphgfblonoaaKit
import Derived.Test.YthihphgfblonoaaQFnExactDoInTurnx4
import Derived.Test.YthihphgfblonoaaQFnExactDoInTurnx2
import Derived.Test.YthihphgfblonoaaQFnExactDoInTurnx1
import Derived.Test.YthihphgfblonoaaQFnExactDoInTurnx3
namespace Go.Proofs.Ythihphgfblonoaa.Pure
open Go.RowKit Go.Proofs.Ythihphgfblonoaa.QFnExactDoInTurn Go.Proofs.YthihphgfblonoaaW.PrintWords Go.Proofs.YthihphgfblonoaaW.PrintLast Go.Proofs.YthihphgfblonoaaW.PrintMore Go.Proofs.Ythihphgfblonoaa.Kit
set_option linter.unusedSimpArgs false
set_option linter.unusedVariables false

theorem copy_l0 (l : List Int) (hl : l.length ≤ 140737488355328) : ∀ (d i k : Nat) (y : List Int), i + d = l.length → d < k → y.length = l.length → y.take i = l.take i →
    laws_toIntS.l0 k l y (i : Int) = some l
  | 0, i, k, y, hd, hk, hy, ht => by
    obtain ⟨k, rfl⟩ := rounds hk
    simp only [laws_toIntS.l0]
    rw [if_neg (by omega)]
    rw [List.take_of_length_le (by omega), List.take_of_length_le (by omega)] at ht
    rw [ht]
  | d + 1, i, k, y, hd, hk, hy, ht => by
    obtain ⟨k, rfl⟩ := rounds hk
    have hi : i < l.length := by omega
    simp only [laws_toIntS.l0]
    rw [if_pos (by omega), if_pos (by omega), if_pos (by omega), w64_succ (n := l.length) (by omega) (by omega) (by omega), rd_nat l i hi]
    refine copy_l0 l hl d (i + 1) k _ (by omega) (by omega) (by simpa using hy) ?_
    rw [show ((i : Int)).toNat = i from by omega, take_set_succ _ _ _ (by omega), take_succ _ _ hi, ht]
theorem copy_ints (l : List Int) (hl : l.length ≤ 35184372088832) (k : Nat) (hk : l.length < k) : laws_toIntS.f k l = some l := by
  unfold laws_toIntS.f
  rw [if_pos (by omega), if_pos (by omega)]
  exact copy_l0 l (by omega) l.length 0 k _ (by omega) (by omega) (by simp) (by simp)

theorem same_l0 : ∀ (r p : List Int) (k : Nat), (p ++ r).length ≤ 140737488355328 → r.length < k → laws_eqIntS.l0 k (p ++ r) (p ++ r) (p.length : Int) = some true
  | [], p, k, hl, hk => by
    obtain ⟨k, rfl⟩ := rounds hk
    simp only [laws_eqIntS.l0]
    rw [if_neg (by simp)]
  | a :: r, p, k, hl, hk => by
    obtain ⟨k, rfl⟩ := rounds hk
    have hn := len_app_cons p a r
    simp only [laws_eqIntS.l0]
    rw [if_pos (by omega), if_pos (by omega), if_pos (by omega), if_pos trivial, w64_succ (n := (p ++ a :: r).length) (by omega) (by omega) (by omega), ← len_snoc p a, app_cons]
    exact same_l0 r (p ++ [a]) k (by rw [← app_cons]; omega) (by simpa using hk)
theorem same_ints (l : List Int) (hl : l.length ≤ 140737488355328) (k : Nat) (hk : l.length < k) : laws_eqIntS.f k l l = some true := by
  unfold laws_eqIntS.f
  rw [if_pos rfl]
  exact same_l0 l [] k hl hk

/-- Marks: one number a place, rising. -/
def marked (x : Int) : Nat → List Int
  | 0 => []
  | n + 1 => x :: marked (x + 1) n
theorem marked_len : ∀ (n : Nat) (x : Int), (marked x n).length = n
  | 0, _ => rfl
  | n + 1, x => by simp only [marked, List.length_cons, marked_len n (x + 1)]
theorem mark_l0 : ∀ (r p : List Int) (k : Nat) (x : Int), (p ++ r).length ≤ 140737488355327 → r.length < k → 0 ≤ x → x + r.length ≤ 1000000000000000 →
    laws_markIntS.l0 k (p ++ r) x (p.length : Int) = some (x + r.length, p ++ marked x r.length)
  | [], p, k, x, hl, hk, h0, h1 => by
    obtain ⟨k, rfl⟩ := rounds hk
    simp only [laws_markIntS.l0]
    rw [if_neg (by simp)]
    simp [marked]
  | a :: r, p, k, x, hl, hk, h0, h1 => by
    obtain ⟨k, rfl⟩ := rounds hk
    have hn := len_app_cons p a r
    simp only [List.length_cons] at h1 hk
    simp only [laws_markIntS.l0]
    rw [if_pos (by omega), if_pos (by omega), show ((p.length : Int)).toNat = p.length from by omega, set_app, w64 (x := x + 1) (by omega) (by omega), w64_succ (n := (p ++ a :: r).length) (by omega) (by omega) (by omega), ← len_snoc p x, app_cons]
    rw [mark_l0 r (p ++ [x]) k (x + 1) (by rw [← app_cons, len_app_cons]; omega) (by omega) (by omega) (by omega)]
    simp only [List.length_cons, marked, List.append_assoc, List.singleton_append, Option.some.injEq, Prod.mk.injEq, and_true]
    omega
theorem mark_ints (l : List Int) (x : Int) (k : Nat) (hl : l.length ≤ 1000000000) (hk : l.length < k) (h0 : 0 ≤ x) (h1 : x ≤ 10000000000) : laws_markIntS.f k l x = some (x + l.length, marked x l.length) := by
  unfold laws_markIntS.f
  exact mark_l0 l [] k x (by simp; omega) hk h0 (by omega)
theorem held_l0 : ∀ (n : Nat) (p : List Int) (k : Nat) (x : Int), p.length + n ≤ 140737488355327 → n < k → 0 ≤ x → x + n ≤ 1000000000000000 →
    laws_heldIntS.l0 k (p ++ marked x n) x (p.length : Int) = some (x + n)
  | 0, p, k, x, hl, hk, h0, h1 => by
    obtain ⟨k, rfl⟩ := rounds hk
    rw [show marked x 0 = [] from rfl]
    simp only [laws_heldIntS.l0]
    rw [if_neg (by simp)]
    simp
  | n + 1, p, k, x, hl, hk, h0, h1 => by
    obtain ⟨k, rfl⟩ := rounds hk
    have hn := len_app_cons p x (marked (x + 1) n)
    rw [marked_len] at hn
    rw [show marked x (n + 1) = x :: marked (x + 1) n from rfl]
    simp only [laws_heldIntS.l0]
    rw [if_pos (by omega), if_pos (by omega), rd_app, if_pos rfl, w64 (x := x + 1) (by omega) (by omega), w64_succ (n := (p ++ x :: marked (x + 1) n).length) (by omega) (by omega) (by omega), ← len_snoc p x, app_cons]
    rw [held_l0 n (p ++ [x]) k (x + 1) (by simp; omega) (by omega) (by omega) (by omega)]
    simp only [Option.some.injEq]
    omega
theorem held_ints (n : Nat) (x : Int) (k : Nat) (hl : n ≤ 1000000000) (hk : n < k) (h0 : 0 ≤ x) (h1 : x ≤ 10000000000) : laws_heldIntS.f k (marked x n) x = some (x + n) := by
  unfold laws_heldIntS.f
  exact held_l0 n [] k x (by simp; omega) hk h0 (by omega)

/-- A move of the law's own type, as the program's. -/
def cM (x : S58) : S51 := ⟨x.f0, x.f1⟩
theorem rdM58 (p : List S58) (a : S58) (r : List S58) : rd_T58 (p ++ a :: r) (p.length : Int) = a := by
  unfold rd_T58
  simp
theorem rdM51 (p : List S51) (a : S51) (r : List S51) : rd_T51 (p ++ a :: r) (p.length : Int) = a := by
  unfold rd_T51
  simp
theorem sz_moves (l : List S58) (hl : l.length ≤ 140737488355328) : ∃ z, laws_szMoveS.f l 1048576 = some z ∧ (0 ≤ z → l.length ≤ 1048576) := by
  unfold laws_szMoveS.f
  rw [w64 (by omega) (by omega)]
  by_cases e : (1048576 : Int) - (l.length : Int) < 0
  · rw [if_pos e]
    exact ⟨-1, rfl, by omega⟩
  · rw [if_neg e]
    exact ⟨_, rfl, by omega⟩
theorem to_l0 : ∀ (r p : List S58) (y : List S51) (k : Nat), (p ++ r).length ≤ 140737488355328 → r.length < k → y.length = (p ++ r).length → y.take p.length = p.map cM →
    laws_toMoveS.l0 k (p ++ r) y (p.length : Int) = some ((p ++ r).map cM)
  | [], p, y, k, hl, hk, hy, ht => by
    obtain ⟨k, rfl⟩ := rounds hk
    simp only [laws_toMoveS.l0]
    rw [if_neg (by simp)]
    rw [List.take_of_length_le (by simp at hy; omega)] at ht
    simp [ht]
  | a :: r, p, y, k, hl, hk, hy, ht => by
    obtain ⟨k, rfl⟩ := rounds hk
    have hn := len_app_cons p a r
    simp only [List.length_cons] at hk
    simp only [laws_toMoveS.l0, laws_toMove.f]
    rw [if_pos (by omega), if_pos (by omega), rdM58]
    simp only [Option.bind_some]
    rw [if_pos (by omega), w64_succ (n := (p ++ a :: r).length) (by omega) (by omega) (by omega), ← len_snoc p a, app_cons, show ((p.length : Int)).toNat = p.length from by omega]
    refine to_l0 r (p ++ [a]) _ k (by rw [← app_cons]; omega) (by omega) (by rw [← app_cons, List.length_set]; exact hy) ?_
    rw [List.length_append, List.length_singleton, take_set_succ _ _ _ (by omega), ht]
    simp [cM]
theorem to_moves (l : List S58) (hl : l.length ≤ 1048576) (k : Nat) (hk : 1048580 < k) : laws_toMoveS.f k l = some (l.map cM) := by
  unfold laws_toMoveS.f
  rw [if_pos (by omega), if_pos (by omega)]
  exact to_l0 l [] _ k (by simp; omega) (by omega) (by simp) (by simp)
theorem eq_l0 : ∀ (r p : List S51) (k : Nat), (p ++ r).length ≤ 140737488355328 → r.length < k → laws_eqMoveS.l0 k (p ++ r) (p ++ r) (p.length : Int) = some true
  | [], p, k, hl, hk => by
    obtain ⟨k, rfl⟩ := rounds hk
    simp only [laws_eqMoveS.l0]
    rw [if_neg (by simp)]
  | a :: r, p, k, hl, hk => by
    obtain ⟨k, rfl⟩ := rounds hk
    have hn := len_app_cons p a r
    simp only [List.length_cons] at hk
    simp only [laws_eqMoveS.l0, laws_eqMove.f]
    rw [if_pos (by omega), if_pos (by omega), if_pos (by omega)]
    simp only [Option.bind_some, if_true]
    rw [w64_succ (n := (p ++ a :: r).length) (by omega) (by omega) (by omega), ← len_snoc p a, app_cons]
    exact eq_l0 r (p ++ [a]) k (by rw [← app_cons]; omega) (by omega)
theorem eq_moves (l : List S51) (hl : l.length ≤ 1048576) (k : Nat) (hk : 1048580 < k) : laws_eqMoveS.f k l l = some true := by
  unfold laws_eqMoveS.f
  rw [if_pos rfl]
  exact eq_l0 l [] k (by simp; omega) (by omega)

/-- A word's bounds. -/
def okW (x : Int) : Bool := decide (0 ≤ x) && decide (x ≤ 65535)
theorem words_l0 (L : List Int) : ∀ (r p : List Int) (k : Nat), (p ++ r).length ≤ 140737488355328 → r.length < k →
    spec_l8Words.l0 k L (p ++ r) ((p ++ r).length : Int) (p.length : Int) = some (r.all okW && ((L.length : Int) == 11))
  | [], p, k, hl, hk => by
    obtain ⟨k, rfl⟩ := rounds hk
    simp only [spec_l8Words.l0]
    rw [if_neg (by simp)]
    simp
  | a :: r, p, k, hl, hk => by
    obtain ⟨k, rfl⟩ := rounds hk
    have hn := len_app_cons p a r
    simp only [List.length_cons] at hk
    simp only [spec_l8Words.l0, spec_l1Word.f, spec_l1In.f]
    rw [if_pos (by omega), if_pos (by omega), if_pos (by omega), rd_app]
    have hgo := words_l0 L r (p ++ [a]) k (by rw [← app_cons]; omega) (by omega)
    rw [w64_succ (n := (p ++ a :: r).length) (by omega) (by omega) (by omega)]
    rw [← app_cons, len_snoc] at hgo
    rw [hgo]
    by_cases e1 : a ≥ 0 <;> by_cases e2 : a ≤ 65535 <;> simp [e1, e2, okW, List.all_cons]
theorem words_f (l : List Int) (hl : l.length ≤ 140737488355328) (k : Nat) (hk : l.length < k) : spec_l8Words.f k l = some (l.all okW && ((l.length : Int) == 11)) := by
  unfold spec_l8Words.f
  exact words_l0 l l [] k hl hk

theorem bad_words_l0 : ∀ (r p : List Int) (k : Nat), (p ++ r).length ≤ 140737488355328 → r.length < k →
    ∃ n, slices_IndexFunc__impl_DoInTurn_2.l0 k (p ++ r) ((p ++ r).length : Int) (p.length : Int) = some n ∧ (0 ≤ n ↔ r.all okW = false)
  | [], p, k, hl, hk => by
    obtain ⟨k, rfl⟩ := rounds hk
    refine ⟨-1, ?_, by simp⟩
    simp only [slices_IndexFunc__impl_DoInTurn_2.l0]
    rw [if_neg (by simp)]
  | a :: r, p, k, hl, hk => by
    obtain ⟨k, rfl⟩ := rounds hk
    have hn := len_app_cons p a r
    simp only [List.length_cons] at hk
    simp only [slices_IndexFunc__impl_DoInTurn_2.l0, impl_DoInTurn_2.f, impl_isWord.f, impl_in.f]
    rw [if_pos (by omega), if_pos (by omega), if_pos (by omega), rd_app, w64_succ (n := (p ++ a :: r).length) (by omega) (by omega) (by omega), ← len_snoc p a, app_cons]
    obtain ⟨n, h1, h2⟩ := bad_words_l0 r (p ++ [a]) k (by rw [← app_cons]; omega) (by omega)
    by_cases e1 : a ≥ 0 <;> by_cases e2 : a ≤ 65535
    · refine ⟨n, ?_, ?_⟩
      · simp [e1, e2]
        simpa using h1
      · rw [h2]; simp [e1, e2, okW]
    all_goals
      refine ⟨(p.length : Int), ?_, ?_⟩
      · simp [e1, e2]
      · simp [e1, e2, okW]
theorem bad_words (l : List Int) (hl : l.length ≤ 140737488355328) (k : Nat) (hk : l.length < k) : slices_ContainsFunc__impl_DoInTurn_2.f k l = some (!(l.all okW)) := by
  unfold slices_ContainsFunc__impl_DoInTurn_2.f slices_IndexFunc__impl_DoInTurn_2.f
  obtain ⟨n, h1, h2⟩ := bad_words_l0 l [] k hl hk
  have h1' : slices_IndexFunc__impl_DoInTurn_2.l0 k l (l.length : Int) 0 = some n := h1
  rw [h1']
  simp only [Option.bind_some, ge_iff_le]
  cases h : l.all okW <;> simp [h2, h]
def okM (m : S51) : Bool := (decide (0 ≤ m.f0) && decide (m.f0 ≤ 10)) && (decide (0 ≤ m.f1) && decide (m.f1 ≤ 10))
theorem bad_moves_l0 : ∀ (r p : List S51) (k : Nat), (p ++ r).length ≤ 140737488355328 → r.length < k →
    ∃ n, slices_IndexFunc__impl_DoInTurn_1.l0 k (p ++ r) ((p ++ r).length : Int) (p.length : Int) = some n ∧ (0 ≤ n ↔ r.all okM = false)
  | [], p, k, hl, hk => by
    obtain ⟨k, rfl⟩ := rounds hk
    refine ⟨-1, ?_, by simp⟩
    simp only [slices_IndexFunc__impl_DoInTurn_1.l0]
    rw [if_neg (by simp)]
  | a :: r, p, k, hl, hk => by
    obtain ⟨k, rfl⟩ := rounds hk
    have hn := len_app_cons p a r
    simp only [List.length_cons] at hk
    simp only [slices_IndexFunc__impl_DoInTurn_1.l0, impl_DoInTurn_1.f, impl_in.f]
    rw [if_pos (by omega), if_pos (by omega), if_pos (by omega), rdM51, w64_succ (n := (p ++ a :: r).length) (by omega) (by omega) (by omega), ← len_snoc p a, app_cons]
    obtain ⟨n, h1, h2⟩ := bad_moves_l0 r (p ++ [a]) k (by rw [← app_cons]; omega) (by omega)
    by_cases h : okM a = true
    · refine ⟨n, ?_, ?_⟩
      · simp only [okM, Bool.and_eq_true, decide_eq_true_eq] at h
        rw [if_pos (by omega)]
        simp only [Option.bind_some]
        rw [if_pos (by simp; omega), if_pos (by omega)]
        simp only [Option.bind_some]
        rw [if_neg (by simp; omega)]
        exact h1
      · rw [h2]; simp [h]
    · refine ⟨(p.length : Int), ?_, by simp [h]⟩
      simp only [okM, Bool.and_eq_true, decide_eq_true_eq] at h
      by_cases e1 : a.f0 ≥ 0
      · rw [if_pos e1]
        simp only [Option.bind_some]
        by_cases e2 : a.f0 ≤ 10
        · rw [if_pos (by simp; omega)]
          by_cases e3 : a.f1 ≥ 0
          · rw [if_pos e3]
            simp only [Option.bind_some]
            rw [if_pos (by simp; omega)]
          · rw [if_neg e3]
            simp
        · rw [if_neg (by simp; omega)]
          simp
      · rw [if_neg e1]
        simp
theorem bad_moves (l : List S51) (hl : l.length ≤ 140737488355328) (k : Nat) (hk : l.length < k) : slices_ContainsFunc__impl_DoInTurn_1.f k l = some (!(l.all okM)) := by
  unfold slices_ContainsFunc__impl_DoInTurn_1.f slices_IndexFunc__impl_DoInTurn_1.f
  obtain ⟨n, h1, h2⟩ := bad_moves_l0 l [] k hl hk
  have h1' : slices_IndexFunc__impl_DoInTurn_1.l0 k l (l.length : Int) 0 = some n := h1
  rw [h1']
  simp only [Option.bind_some, ge_iff_le]
  cases h : l.all okM <;> simp [h2, h]
def doAll : List S51 → List Int → List Int
  | [], w => w
  | m :: r, w => doAll r (w.set m.f1.toNat (rd w m.f0))
theorem doAll_len : ∀ (l : List S51) (w : List Int), (doAll l w).length = w.length
  | [], w => rfl
  | m :: r, w => by simp only [doAll, doAll_len r]; simp
theorem spec_do_l0 : ∀ (r p : List S51) (w : List Int) (k : Nat), (p ++ r).length ≤ 140737488355328 → 2 * r.length < k → w.length = 11 →
    spec_DoInTurn.l0 k w (p ++ r) ((p ++ r).length : Int) (p.length : Int) = some (cond (r.all okM) (doAll r w, true) ([], false))
  | [], p, w, k, hl, hk, hw => by
    obtain ⟨k, rfl⟩ := rounds hk
    simp only [spec_DoInTurn.l0]
    rw [if_neg (by simp)]
    rfl
  | a :: r, p, w, k, hl, hk, hw => by
    have hn := len_app_cons p a r
    simp only [List.length_cons] at hk
    obtain ⟨k, rfl⟩ : ∃ m, k = m + 1 := ⟨k - 1, by omega⟩
    simp only [spec_DoInTurn.l0, spec_l1In.f]
    obtain ⟨k, rfl⟩ : ∃ m, k = m + 1 := ⟨k - 1, by omega⟩
    rw [if_pos (by omega), if_pos (by omega), if_pos (by omega), rdM51, app_cons]
    have hgo := spec_do_l0 r (p ++ [a]) (w.set a.f1.toNat (rd w a.f0)) k (by rw [← app_cons]; omega) (by omega) (by simpa using hw)
    simp only [spec_DoInTurn.j2, w64_succ (n := (p ++ a :: r).length) (i := (p.length : Int)) (by omega) (by omega) (by omega)]
    by_cases h : okM a = true
    · rw [List.all_cons, h, Bool.true_and]
      simp only [okM, Bool.and_eq_true, decide_eq_true_eq] at h
      rw [if_pos (by omega)]
      simp only [Option.bind_some]
      rw [if_pos (by simp; omega), if_pos (by omega)]
      simp only [Option.bind_some]
      rw [if_neg (by simp; omega), if_pos (by omega), if_pos (by omega), if_pos (by omega), if_pos (by omega), ← len_snoc p a]
      exact hgo
    · have h' : okM a = false := by simpa using h
      rw [List.all_cons, h', Bool.false_and]
      simp only [okM, Bool.and_eq_true, decide_eq_true_eq] at h
      by_cases e1 : a.f0 ≥ 0
      · rw [if_pos e1]
        simp only [Option.bind_some]
        by_cases e2 : a.f0 ≤ 10
        · rw [if_pos (by simp; omega)]
          by_cases e3 : a.f1 ≥ 0
          · rw [if_pos e3]
            simp only [Option.bind_some]
            rw [if_pos (by simp; omega)]
            rfl
          · rw [if_neg e3]
            rfl
        · rw [if_neg (by simp; omega)]
          rfl
      · rw [if_neg e1]
        rfl
theorem impl_do_l0 : ∀ (r p : List S51) (w : List Int) (k : Nat), (p ++ r).length ≤ 140737488355328 → r.length < k → w.length = 11 → r.all okM = true →
    impl_DoInTurn.l0 k w (p ++ r) ((p ++ r).length : Int) (p.length : Int) = some (doAll r w, true)
  | [], p, w, k, hl, hk, hw, hr => by
    obtain ⟨k, rfl⟩ := rounds hk
    simp only [impl_DoInTurn.l0]
    rw [if_neg (by simp)]
    rfl
  | a :: r, p, w, k, hl, hk, hw, hr => by
    obtain ⟨k, rfl⟩ := rounds hk
    have hn := len_app_cons p a r
    simp only [List.length_cons] at hk
    rw [List.all_cons, Bool.and_eq_true] at hr
    obtain ⟨h, hr⟩ := hr
    simp only [okM, Bool.and_eq_true, decide_eq_true_eq] at h
    simp only [impl_DoInTurn.l0]
    rw [if_pos (by omega), if_pos (by omega), if_pos (by omega), rdM51, w64_succ (n := (p ++ a :: r).length) (by omega) (by omega) (by omega), ← len_snoc p a, app_cons]
    rw [if_pos (by omega), if_pos (by omega), if_pos (by omega), if_pos (by omega)]
    exact impl_do_l0 r (p ++ [a]) (w.set a.f1.toNat (rd w a.f0)) k (by rw [← app_cons]; omega) (by omega) (by simpa using hw) hr
def doR (l : List S51) (w : List Int) : List Int × Bool := cond (decide (l.length ≤ 40) && ((w.all okW && ((w.length : Int) == 11)) && l.all okM)) (doAll l w, true) ([], false)
theorem doR_len (l : List S51) (w : List Int) : (doR l w).1.length ≤ w.length := by
  unfold doR
  cases (decide (l.length ≤ 40) && ((w.all okW && ((w.length : Int) == 11)) && l.all okM)) <;> simp [doAll_len]
theorem spec_do (l : List S51) (w : List Int) (hl : l.length ≤ 1048576) (hw : w.length ≤ 1048576) (k : Nat) (hk : 1048590 < k) : spec_DoInTurn.f k l w = some (doR l w) := by
  unfold spec_DoInTurn.f doR
  by_cases e : (l.length : Int) > 40
  · rw [if_pos e]
    obtain ⟨k, rfl⟩ := rounds hk
    simp only [spec_DoInTurn.j0]
    rw [if_pos trivial, show decide (l.length ≤ 40) = false from by simp; omega]
    rfl
  · rw [if_neg e, words_f w (by omega) k (by omega), show decide (l.length ≤ 40) = true from by simp; omega, Bool.true_and]
    simp only [Option.bind_some]
    obtain ⟨k, rfl⟩ := rounds hk
    simp only [spec_DoInTurn.j0]
    cases h : (w.all okW && ((w.length : Int) == 11))
    · rfl
    · rw [Bool.and_eq_true, beq_iff_eq] at h
      rw [if_neg (by simp)]
      simp only [Option.bind_some, List.nil_append]
      rw [if_pos (by simp; omega), Bool.true_and]
      exact spec_do_l0 l [] w k (by simp; omega) (by omega) (by omega)
theorem impl_do (l : List S51) (w : List Int) (hl : l.length ≤ 1048576) (hw : w.length ≤ 1048576) (k : Nat) (hk : 1048590 < k) : impl_DoInTurn.f k l w = some (doR l w) := by
  unfold impl_DoInTurn.f doR
  by_cases e : (l.length : Int) > 40
  · rw [if_pos e]
    obtain ⟨k, rfl⟩ := rounds hk
    simp only [impl_DoInTurn.j0]
    rw [if_pos trivial, show decide (l.length ≤ 40) = false from by simp; omega]
    rfl
  · rw [if_neg e, bad_moves l (by omega) k (by omega), show decide (l.length ≤ 40) = true from by simp; omega, Bool.true_and]
    simp only [Option.bind_some]
    obtain ⟨k, rfl⟩ := rounds hk
    cases h : l.all okM
    · rw [if_pos (by rfl), Bool.and_false]
      simp only [impl_DoInTurn.j0]
      rw [if_pos trivial]
      rfl
    · rw [if_neg (by simp), Bool.and_true]
      by_cases e2 : (w.length : Int) = 11
      · rw [if_pos e2, bad_words w (by omega) (k + 1) (by omega)]
        simp only [Option.bind_some, impl_DoInTurn.j0]
        rw [show ((w.length : Int) == 11) = true from by simpa using e2, Bool.and_true]
        cases h2 : w.all okW
        · rfl
        · rw [if_neg (by simp)]
          simp only [List.nil_append]
          rw [if_pos (by simp; omega)]
          exact impl_do_l0 l [] w k (by simp; omega) (by omega) (by omega) h
      · rw [if_neg e2]
        simp only [impl_DoInTurn.j0]
        rw [if_pos trivial, show ((w.length : Int) == 11) = false from by simpa using e2, Bool.and_false]
        rfl
theorem rdM51_set (p : List S51) (a b : S51) (r : List S51) : rd_T51 (p ++ a :: r) (p.length : Int) = a := rdM51 p a r
theorem mark_moves_l0 : ∀ (r p : List S51) (k : Nat) (x : Int), (p ++ r).length ≤ 140737488355327 → r.length < k → 0 ≤ x → x + 2 * r.length ≤ 1000000000000000 →
    ∃ y, laws_markMoveS.l0 k (p ++ r) x (p.length : Int) = some (x + 2 * r.length, y)
  | [], p, k, x, hl, hk, h0, h1 => by
    obtain ⟨k, rfl⟩ := rounds hk
    refine ⟨p ++ [], ?_⟩
    · simp only [laws_markMoveS.l0]
      rw [if_neg (by simp)]
      simp
  | a :: r, p, k, x, hl, hk, h0, h1 => by
    obtain ⟨k, rfl⟩ := rounds hk
    have hn := len_app_cons p a r
    simp only [List.length_cons] at h1 hk
    obtain ⟨y, hy⟩ := mark_moves_l0 r (p ++ [⟨x, x + 1⟩]) k (x + 1 + 1) (by rw [← app_cons, len_app_cons]; omega) (by omega) (by omega) (by omega)
    refine ⟨y, ?_⟩
    simp only [laws_markMoveS.l0]
    rw [if_pos (by omega), if_pos (by omega), show ((p.length : Int)).toNat = p.length from by omega, set_app]
    simp only [Option.bind_some]
    simp only [rdM51]
    rw [set_app, w64 (x := x + 1) (by omega) (by omega), w64 (x := x + 1 + 1) (by omega) (by omega), w64_succ (n := (p ++ a :: r).length) (by omega) (by omega) (by omega)]
    rw [← app_cons, len_snoc] at hy
    rw [hy]
    simp only [List.length_cons, Option.some.injEq, Prod.mk.injEq, and_true]
    omega
theorem mark_moves (l : List S51) (k : Nat) (hl : l.length ≤ 1048576) (hk : l.length < k) : ∃ y, laws_markMoveS.f k l 1 = some (1 + 2 * (l.length : Int), y) := by
  unfold laws_markMoveS.f
  exact mark_moves_l0 l [] k 1 (by simp; omega) hk (by omega) (by omega)
theorem FnExactDoInTurn : laws_FnExactDoInTurn.Pure := by
  intro l w ⟨hl0, hl1, _⟩ ⟨hw0, hw1, _⟩
  obtain ⟨k, hk⟩ : ∃ k, k = 3000000 := ⟨_, rfl⟩
  refine ⟨k, ?_⟩
  unfold laws_FnExactDoInTurn.f
  by_cases e : (w.length : Int) > 1048576
  · rw [if_pos e]
  · rw [if_neg e]
    obtain ⟨z, hz1, hz2⟩ := sz_moves l (by omega)
    rw [hz1]
    simp only [Option.bind_some]
    by_cases e2 : z < 0
    · rw [if_pos e2]
    · rw [if_neg e2]
      have hlen := hz2 (by omega)
      have hto := fun k hk => to_moves l hlen k hk
      have hcp := fun k hk => copy_ints w (by omega) k hk
      have hM : (l.map cM).length ≤ 1048576 := by simpa using hlen
      have hsp := spec_do (l.map cM) w hM (by omega)
      have him := impl_do (l.map cM) w hM (by omega)
      have hR : (doR (l.map cM) w).1.length ≤ w.length := doR_len _ _
      obtain ⟨R, b, hRb⟩ : ∃ R b, doR (l.map cM) w = (R, b) := ⟨_, _, rfl⟩
      rw [hRb] at hsp him hR
      simp only at hR
      rw [hto k (by omega), hcp k (by omega)]
      simp only [Option.bind_some]
      rw [hsp k (by omega), him k (by omega)]
      simp only [Option.bind_some]
      rw [same_ints R (by omega) k (by omega)]
      simp only [Option.bind_some]
      rw [if_pos trivial]
      obtain ⟨k1, rfl⟩ : ∃ k1, k = k1 + 1 := ⟨k - 1, by omega⟩
      simp only [laws_FnExactDoInTurn.j0]
      rw [if_neg (by simp), hto k1 (by omega)]
      simp only [Option.bind_some]
      rw [eq_moves _ hM k1 (by omega)]
      simp only [Option.bind_some]
      rw [if_pos trivial, hcp k1 (by omega)]
      simp only [Option.bind_some]
      rw [same_ints w (by omega) k1 (by omega)]
      simp only [Option.bind_some]
      obtain ⟨y, hy⟩ := mark_moves (l.map cM) k1 hM (by omega)
      rw [if_pos trivial, hy]
      simp only [Option.bind_some]
      rw [mark_ints w _ k1 (by omega) (by omega) (by omega) (by omega)]
      simp only [Option.bind_some]
      rw [if_neg (by omega), same_ints R (by omega) k1 (by omega)]
      simp only [Option.bind_some]
      rw [if_pos trivial]
      obtain ⟨k2, rfl⟩ : ∃ k2, k1 = k2 + 1 := ⟨k1 - 1, by omega⟩
      simp only [laws_FnExactDoInTurn.j1]
      rw [if_neg (by simp), mark_ints R 1 k2 (by omega) (by omega) (by omega) (by omega)]
      simp only [Option.bind_some]
      rw [held_ints R.length 1 k2 (by omega) (by omega) (by omega) (by omega)]
      simp only [Option.bind_some]
      rw [if_neg (by omega), if_pos trivial, hto k2 (by omega), hcp k2 (by omega)]
      simp only [Option.bind_some]
      rw [him k2 (by omega)]
      simp only [Option.bind_some]
      rw [same_ints R (by omega) k2 (by omega)]
      simp only [Option.bind_some]
      rw [if_pos trivial]
      obtain ⟨k3, rfl⟩ : ∃ k3, k2 = k3 + 1 := ⟨k2 - 1, by omega⟩
      simp only [laws_FnExactDoInTurn.j2]
      rw [if_neg (by simp), held_ints R.length 1 k3 (by omega) (by omega) (by omega) (by omega)]
      simp only [Option.bind_some]
      rw [if_neg (by omega), if_pos trivial]

end Go.Proofs.Ythihphgfblonoaa.Pure
