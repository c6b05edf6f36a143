/- The program's NeedsSpare answers as the reference's for all moves, and changes no argument. Conditions: none beyond those of the given statement. -/
import Derived.Test.YthihphgfblonoaaKit
import Derived.Test.YthihphgfblonoaaQFnExactNeedsSparex4
import Derived.Test.YthihphgfblonoaaQFnExactNeedsSparex3
import Derived.Test.YthihphgfblonoaaQFnExactNeedsSparex1
import Derived.Test.YthihphgfblonoaaQFnExactNeedsSparex2
namespace Go.Proofs.Ythihphgfblonoaa.Pure
open Go.RowKit Go.Proofs.Ythihphgfblonoaa.QFnExactNeedsSpare Go.Proofs.YthihphgfblonoaaW.PrintWords Go.Proofs.YthihphgfblonoaaW.PrintLast Go.Proofs.YthihphgfblonoaaW.PrintMore Go.Proofs.Ythihphgfblonoaa.Kit
set_option linter.unusedSimpArgs false
set_option linter.unusedVariables false

/-- A move of the law's own type, as the program's. -/
def cM (x : S58) : S51 := ⟨x.f0, x.f1⟩
theorem rdM58 (p : List S58) (a : S58) (r : List S58) : rd_T58 (p ++ a :: r) (p.length : Int) = a := by
  unfold rd_T58
  simp
theorem rdM51 (p : List S51) (a : S51) (r : List S51) : rd_T51 (p ++ a :: r) (p.length : Int) = a := by
  unfold rd_T51
  simp
theorem sz_moves (l : List S58) (hl : l.length ≤ 140737488355328) : ∃ z, laws_szMoveS.f l 1048576 = some z ∧ (0 ≤ z → l.length ≤ 1048576) := by
  unfold laws_szMoveS.f
  rw [w64 (by omega) (by omega)]
  by_cases e : (1048576 : Int) - (l.length : Int) < 0
  · rw [if_pos e]
    exact ⟨-1, rfl, by omega⟩
  · rw [if_neg e]
    exact ⟨_, rfl, by omega⟩
theorem to_l0 : ∀ (r p : List S58) (y : List S51) (k : Nat), (p ++ r).length ≤ 140737488355328 → r.length < k → y.length = (p ++ r).length → y.take p.length = p.map cM →
    laws_toMoveS.l0 k (p ++ r) y (p.length : Int) = some ((p ++ r).map cM)
  | [], p, y, k, hl, hk, hy, ht => by
    obtain ⟨k, rfl⟩ := rounds hk
    simp only [laws_toMoveS.l0]
    rw [if_neg (by simp)]
    rw [List.take_of_length_le (by simp at hy; omega)] at ht
    simp [ht]
  | a :: r, p, y, k, hl, hk, hy, ht => by
    obtain ⟨k, rfl⟩ := rounds hk
    have hn := len_app_cons p a r
    simp only [List.length_cons] at hk
    simp only [laws_toMoveS.l0, laws_toMove.f]
    rw [if_pos (by omega), if_pos (by omega), rdM58]
    simp only [Option.bind_some]
    rw [if_pos (by omega), w64_succ (n := (p ++ a :: r).length) (by omega) (by omega) (by omega), ← len_snoc p a, app_cons, show ((p.length : Int)).toNat = p.length from by omega]
    refine to_l0 r (p ++ [a]) _ k (by rw [← app_cons]; omega) (by omega) (by rw [← app_cons, List.length_set]; exact hy) ?_
    rw [List.length_append, List.length_singleton, take_set_succ _ _ _ (by omega), ht]
    simp [cM]
theorem to_moves (l : List S58) (hl : l.length ≤ 1048576) (k : Nat) (hk : 1048580 < k) : laws_toMoveS.f k l = some (l.map cM) := by
  unfold laws_toMoveS.f
  rw [if_pos (by omega), if_pos (by omega)]
  exact to_l0 l [] _ k (by simp; omega) (by omega) (by simp) (by simp)
theorem eq_l0 : ∀ (r p : List S51) (k : Nat), (p ++ r).length ≤ 140737488355328 → r.length < k → laws_eqMoveS.l0 k (p ++ r) (p ++ r) (p.length : Int) = some true
  | [], p, k, hl, hk => by
    obtain ⟨k, rfl⟩ := rounds hk
    simp only [laws_eqMoveS.l0]
    rw [if_neg (by simp)]
  | a :: r, p, k, hl, hk => by
    obtain ⟨k, rfl⟩ := rounds hk
    have hn := len_app_cons p a r
    simp only [List.length_cons] at hk
    simp only [laws_eqMoveS.l0, laws_eqMove.f]
    rw [if_pos (by omega), if_pos (by omega), if_pos (by omega)]
    simp only [Option.bind_some, if_true]
    rw [w64_succ (n := (p ++ a :: r).length) (by omega) (by omega) (by omega), ← len_snoc p a, app_cons]
    exact eq_l0 r (p ++ [a]) k (by rw [← app_cons]; omega) (by omega)
theorem eq_moves (l : List S51) (hl : l.length ≤ 1048576) (k : Nat) (hk : 1048580 < k) : laws_eqMoveS.f k l l = some true := by
  unfold laws_eqMoveS.f
  rw [if_pos rfl]
  exact eq_l0 l [] k (by simp; omega) (by omega)

def okP (m : S51) : Bool := (decide (0 ≤ m.f0) && decide (m.f0 ≤ 9)) && (decide (0 ≤ m.f1) && decide (m.f1 ≤ 9))
def goodM (s : List Int) : List S51 → Bool
  | [] => true
  | m :: r => okP m && (!(decide (m.f1 ∈ s)) && goodM (s ++ [m.f1]) r)
theorem spec_inner (x0 x7 : List S51) (x8 x9 f0 t : Int) : ∀ (r p : List S51) (K m : Nat), K = m + r.length + 1 → (p ++ r).length ≤ 140737488355327 →
    spec_GoodMoves.l1 K x0 x7 x8 x9 (p ++ r) ((p ++ r).length : Int) (p.length : Int) f0 t = cond (decide (t ∈ r.map (·.f1))) (some false) (spec_GoodMoves.l0 m x0 x7 x8 (wrap64 (x9 + 1)))
  | [], p, K, m, hK, hl => by
    subst hK
    simp only [spec_GoodMoves.l1]
    rw [if_neg (by simp)]
    simp
  | a :: r, p, K, m, hK, hl => by
    have hn := len_app_cons p a r
    obtain ⟨K, rfl⟩ : ∃ K', K = K' + 1 := ⟨m + r.length + 1, by rw [hK]; simp; omega⟩
    simp only [List.length_cons] at hK
    simp only [spec_GoodMoves.l1, rdM51]
    rw [if_pos (by omega), if_pos (by omega), if_pos (by omega), w64_succ (n := (p ++ a :: r).length) (by omega) (by omega) (by omega), ← len_snoc p a, app_cons]
    rw [spec_inner x0 x7 x8 x9 f0 t r (p ++ [a]) K m (by omega) (by rw [← app_cons]; omega)]
    by_cases e : a.f1 = t
    · rw [if_pos e]
      simp [e]
    · have hne : ¬ t = a.f1 := fun h => e h.symm
      rw [if_neg e]
      simp [hne]
theorem okP_not (a : S51) (h : okP a = false) : ¬ (0 ≤ a.f0 ∧ a.f0 ≤ 9 ∧ 0 ≤ a.f1 ∧ a.f1 ≤ 9) := by
  rintro ⟨h1, h2, h3, h4⟩
  simp [okP, h1, h2, h3, h4] at h
theorem spec_good_l0 : ∀ (r p : List S51) (k : Nat), (p ++ r).length ≤ 140737488355327 → r.length * ((p ++ r).length + 3) < k →
    spec_GoodMoves.l0 k (p ++ r) (p ++ r) ((p ++ r).length : Int) (p.length : Int) = some (goodM (p.map (·.f1)) r && decide (((p ++ r).length : Int) ≤ 10))
  | [], p, k, hl, hk => by
    obtain ⟨k, rfl⟩ := rounds hk
    simp only [spec_GoodMoves.l0]
    rw [if_neg (by simp)]
    simp [goodM]
  | a :: r, p, k, hl, hk => by
    have hn := len_app_cons p a r
    rw [List.length_cons, Nat.succ_mul] at hk
    generalize hc : r.length * ((p ++ a :: r).length + 3) = c at hk
    obtain ⟨m, rfl⟩ : ∃ m, k = (m + p.length + 1) + 1 + 1 := ⟨k - p.length - 3, by omega⟩
    have hgo := spec_good_l0 r (p ++ [a]) m (by rw [← app_cons]; omega) (by rw [← app_cons, hc]; omega)
    rw [← app_cons, len_snoc] at hgo
    obtain ⟨K, hK⟩ : ∃ K, K = m + p.length + 1 := ⟨_, rfl⟩
    rw [← hK]
    have hin := spec_inner (p ++ a :: r) (p ++ a :: r) ((p ++ a :: r).length : Int) (p.length : Int) a.f0 a.f1 p [] K m hK (by simp; omega)
    simp only [List.nil_append, List.length_nil] at hin
    rw [w64_succ (n := (p ++ a :: r).length) (by omega) (by omega) (by omega), hgo] at hin
    simp only [spec_GoodMoves.l0, rdM51, spec_l8Place.f, spec_l1In.f]
    obtain ⟨K1, hK1⟩ : ∃ K1, K1 = K + 1 := ⟨_, rfl⟩
    rw [← hK1]
    rw [if_pos (by omega), if_pos (by omega), if_pos (by omega)]
    have hbad : ∀ x3 x7 x8 x9 f0 f1, spec_GoodMoves.j1 K1 (p ++ a :: r) x3 x7 x8 x9 true f0 f1 = some false := by
      intro x3 x7 x8 x9 f0 f1
      rw [hK1]
      simp only [spec_GoodMoves.j1]
      rw [if_pos trivial]
    have hok : spec_GoodMoves.j1 K1 (p ++ a :: r) (p.length : Int) (p ++ a :: r) ((p ++ a :: r).length : Int) (p.length : Int) false a.f0 a.f1 = cond (decide (a.f1 ∈ p.map (·.f1))) (some false) (some (goodM ((p ++ [a]).map (·.f1)) r && decide (((p ++ a :: r).length : Int) ≤ 10))) := by
      rw [hK1]
      simp only [spec_GoodMoves.j1]
      rw [if_neg (by simp), if_pos (by omega), if_pos (by omega), show ((p.length : Int)).toNat = p.length from by omega, List.take_left']
      · simp only [Option.bind_some]
        exact hin
      · rfl
    rw [show goodM (p.map (·.f1)) (a :: r) = (okP a && (!(decide (a.f1 ∈ p.map (·.f1))) && goodM (p.map (·.f1) ++ [a.f1]) r)) from rfl]
    by_cases h : okP a = true
    · have h' := h
      simp only [okP, Bool.and_eq_true, decide_eq_true_eq] at h'
      rw [if_pos (by omega)]
      simp only [Option.bind_some]
      rw [if_pos (by simp; omega), if_pos (by omega)]
      simp only [Option.bind_some]
      rw [show (!(decide (a.f1 ≤ 9))) = false from by simp; omega, hok, h]
      by_cases hm : a.f1 ∈ p.map (·.f1)
      · simp [hm]
      · simp [hm]
    · have h2 : okP a = false := by simpa using h
      have h3 := okP_not a h2
      rw [h2, Bool.false_and, Bool.false_and]
      by_cases e1 : a.f0 ≥ 0
      · rw [if_pos e1]
        simp only [Option.bind_some]
        by_cases e2 : a.f0 ≤ 9
        · rw [if_pos (by simp; omega)]
          by_cases e3 : a.f1 ≥ 0
          · rw [if_pos e3]
            simp only [Option.bind_some]
            rw [show (!(decide (a.f1 ≤ 9))) = true from by simp; omega, hbad]
          · rw [if_neg e3]
            simp only [Option.bind_some]
            exact hbad _ _ _ _ _ _
        · rw [if_neg (by simp; omega), hbad]
      · rw [if_neg e1]
        simp only [Option.bind_some]
        rw [if_neg (by simp), hbad]
theorem impl_good_l0 : ∀ (r p : List S51) (k : Nat) (s : List Int) (b : List Bool), (p ++ r).length ≤ 140737488355327 → 2 * r.length < k → b.length = 10 → (∀ t : Int, 0 ≤ t → t ≤ 9 → rdOf false b t = decide (t ∈ s)) →
    impl_areMoves.l0 k b (p ++ r) ((p ++ r).length : Int) (p.length : Int) = some (goodM s r)
  | [], p, k, s, b, hl, hk, hb, hs => by
    obtain ⟨k, rfl⟩ := rounds hk
    simp only [impl_areMoves.l0]
    rw [if_neg (by simp)]
    rfl
  | a :: r, p, k, s, b, hl, hk, hb, hs => by
    have hn := len_app_cons p a r
    simp only [List.length_cons] at hk
    obtain ⟨K1, hK1⟩ : ∃ m, k = m + 1 := ⟨k - 1, by omega⟩
    obtain ⟨K2, hK2⟩ : ∃ m, K1 = m + 1 := ⟨K1 - 1, by omega⟩
    rw [hK1]
    simp only [impl_areMoves.l0, rdM51, impl_in.f]
    rw [if_pos (by omega), if_pos (by omega), if_pos (by omega)]
    have hbad : ∀ x3 x7 x8 x9 f0 f1, impl_areMoves.j1 K1 x3 x7 x8 x9 true f0 f1 = some false := by
      intro x3 x7 x8 x9 f0 f1
      rw [hK2]
      simp only [impl_areMoves.j1]
      rw [if_pos trivial]
    rw [show goodM s (a :: r) = (okP a && (!(decide (a.f1 ∈ s)) && goodM (s ++ [a.f1]) r)) from rfl]
    by_cases h : okP a = true
    · have h' := h
      simp only [okP, Bool.and_eq_true, decide_eq_true_eq] at h'
      rw [if_pos (by omega)]
      simp only [Option.bind_some]
      rw [if_pos (by simp; omega), if_pos (by omega)]
      simp only [Option.bind_some]
      rw [if_pos (by simp; omega), if_pos (by omega), if_pos (by omega), hs a.f1 (by omega) (by omega), h]
      by_cases hm : a.f1 ∈ s
      · rw [show decide (a.f1 ∈ s) = true from by simpa using hm, hbad]
        rfl
      · rw [show decide (a.f1 ∈ s) = false from by simpa using hm, hK2]
        simp only [impl_areMoves.j1]
        rw [if_neg (by simp), if_pos (by omega), if_pos (by omega), w64_succ (n := (p ++ a :: r).length) (by omega) (by omega) (by omega), ← len_snoc p a, app_cons]
        rw [impl_good_l0 r (p ++ [a]) K2 (s ++ [a.f1]) _ (by rw [← app_cons]; omega) (by omega) (by simpa using hb) ?_]
        · rfl
        · intro t h0 h1
          have hst := hs t h0 h1
          unfold rdOf at hst ⊢
          by_cases e : t = a.f1
          · subst e
            have hlt : a.f1.toNat < b.length := by omega
            simp [hlt]
          · have hne : a.f1.toNat ≠ t.toNat := by omega
            simp only [List.getD_eq_getElem?_getD] at hst ⊢
            rw [List.getElem?_set_ne hne, hst]
            simp [e]
    · have h2 : okP a = false := by simpa using h
      have h3 := okP_not a h2
      rw [h2, Bool.false_and]
      by_cases e1 : a.f0 ≥ 0
      · rw [if_pos e1]
        simp only [Option.bind_some]
        by_cases e2 : a.f0 ≤ 9
        · rw [if_pos (by simp; omega)]
          by_cases e3 : a.f1 ≥ 0
          · rw [if_pos e3]
            simp only [Option.bind_some]
            rw [if_neg (by simp; omega), hbad]
          · rw [if_neg e3]
            simp only [Option.bind_some]
            rw [if_neg (by simp), hbad]
        · rw [if_neg (by simp; omega), hbad]
      · rw [if_neg e1]
        simp only [Option.bind_some]
        rw [if_neg (by simp), hbad]
theorem good_len : ∀ (r : List S51) (s : List Int), s.Nodup → (∀ x ∈ s, 0 ≤ x ∧ x < ((10 : Nat) : Int)) → goodM s r = true → s.length + r.length ≤ 10
  | [], s, hn, hs, _ => by simpa using nodup_bound 10 s hn hs
  | a :: r, s, hn, hs, h => by
    rw [show goodM s (a :: r) = (okP a && (!(decide (a.f1 ∈ s)) && goodM (s ++ [a.f1]) r)) from rfl] at h
    rw [Bool.and_eq_true, Bool.and_eq_true] at h
    obtain ⟨h1, h2, h3⟩ := h
    have hm : a.f1 ∉ s := by simpa using h2
    simp only [okP, Bool.and_eq_true, decide_eq_true_eq] at h1
    have := good_len r (s ++ [a.f1]) (List.nodup_append.2 ⟨hn, by simp, by intro x hx y hy; simp at hy; subst hy; intro e; subst e; exact hm hx⟩) (by
      intro x hx
      rcases List.mem_append.1 hx with hx | hx
      · exact hs x hx
      · simp at hx; subst hx; omega) h3
    simp only [List.length_append, List.length_singleton, List.length_cons] at this ⊢
    omega

theorem spec_goodM (l : List S51) (hl : l.length ≤ 1048576) (k : Nat) (hk : 1048576 * 1048579 < k) : spec_GoodMoves.f k l = some (goodM [] l) := by
  have hq : l.length * (l.length + 3) ≤ 1048576 * 1048579 := Nat.mul_le_mul hl (by omega)
  have hsp := spec_good_l0 l [] k (by simp; omega) (by simp only [List.nil_append]; omega)
  unfold spec_GoodMoves.f
  simp only [List.nil_append, List.length_nil, List.map_nil] at hsp
  have hsp' : spec_GoodMoves.l0 k l l (l.length : Int) 0 = _ := hsp
  rw [hsp']
  cases h : goodM [] l
  · rfl
  · have := good_len l [] (by simp) (by simp) h
    simp only [List.length_nil] at this
    rw [Bool.true_and]
    simp only [Option.some.injEq, decide_eq_true_eq]
    omega
theorem impl_goodM (l : List S51) (hl : l.length ≤ 1048576) (k : Nat) (hk : 1048576 * 1048579 < k) : impl_areMoves.f k l = some (goodM [] l) := by
  have him := impl_good_l0 l [] k [] (List.replicate 10 false) (by simp; omega) (by omega) (by simp) (by
    intro t h0 h1
    unfold rdOf
    rw [List.getD_eq_getElem?_getD, List.getElem?_replicate]
    split <;> simp)
  unfold impl_areMoves.f
  simp only [List.nil_append, List.length_nil] at him
  have him' : impl_areMoves.l0 k (List.replicate 10 false) l (l.length : Int) 0 = _ := him
  rw [if_pos (by decide), him']

/-- Where a place gets what it is to hold from, -1 for nowhere. -/
def src (t : Int) : List S51 → Int
  | [] => -1
  | a :: r => if a.f1 = t then a.f0 else src t r
theorem spec_src_l0 (t : Int) : ∀ (r p : List S51) (k : Nat), (p ++ r).length ≤ 140737488355327 → r.length < k →
    spec_l8Into.l0 k t (p ++ r) ((p ++ r).length : Int) (p.length : Int) = some (src t r)
  | [], p, k, hl, hk => by
    obtain ⟨k, rfl⟩ := rounds hk
    simp only [spec_l8Into.l0]
    rw [if_neg (by simp)]
    rfl
  | a :: r, p, k, hl, hk => by
    obtain ⟨k, rfl⟩ := rounds hk
    have hn := len_app_cons p a r
    simp only [List.length_cons] at hk
    simp only [spec_l8Into.l0, rdM51, src]
    rw [if_pos (by omega), if_pos (by omega), if_pos (by omega), w64_succ (n := (p ++ a :: r).length) (by omega) (by omega) (by omega), ← len_snoc p a, app_cons]
    rw [spec_src_l0 t r (p ++ [a]) k (by rw [← app_cons]; omega) (by omega)]
    split <;> rfl
theorem spec_src (l : List S51) (t : Int) (hl : l.length ≤ 140737488355327) (k : Nat) (hk : l.length < k) : spec_l8Into.f k l t = some (src t l) := by
  unfold spec_l8Into.f
  exact spec_src_l0 t l [] k hl hk
theorem impl_src_l0 (t : Int) : ∀ (r p : List S51) (k : Nat), (p ++ r).length ≤ 140737488355327 → r.length < k →
    impl_sourceOf.l0 k t (p ++ r) ((p ++ r).length : Int) (p.length : Int) = some (src t r)
  | [], p, k, hl, hk => by
    obtain ⟨k, rfl⟩ := rounds hk
    simp only [impl_sourceOf.l0]
    rw [if_neg (by simp)]
    rfl
  | a :: r, p, k, hl, hk => by
    obtain ⟨k, rfl⟩ := rounds hk
    have hn := len_app_cons p a r
    simp only [List.length_cons] at hk
    simp only [impl_sourceOf.l0, rdM51, src]
    rw [if_pos (by omega), if_pos (by omega), if_pos (by omega), w64_succ (n := (p ++ a :: r).length) (by omega) (by omega) (by omega), ← len_snoc p a, app_cons]
    rw [impl_src_l0 t r (p ++ [a]) k (by rw [← app_cons]; omega) (by omega)]
    split <;> rfl
theorem impl_src (l : List S51) (t : Int) (hl : l.length ≤ 140737488355327) (k : Nat) (hk : l.length < k) : impl_sourceOf.f k l t = some (src t l) := by
  unfold impl_sourceOf.f
  exact impl_src_l0 t l [] k hl hk

/-- The ring of a place whose places are all above it: what the program's walk finds. -/
def ringP (l : List S51) (p : Int) : Nat → List Int → Int → Option (List Int)
  | 0, b, t => if t = p ∧ 2 ≤ b.length then some b else none
  | n + 1, b, t => if t > p ∧ b.length ≤ 10 then ringP l p n (b ++ [t]) (src t l) else if t = p ∧ 2 ≤ b.length then some b else none
/-- A ring as it is told: its place, then the others from the last one back. -/
def told (p : Int) (b : List Int) : List Int := p :: (b.drop 1).reverse
theorem impl_l2 (l : List S51) (x10 : Int) (X : List (List Int)) (R : List (List Int) → Option (List (List Int))) (F : Nat) (hx : 0 ≤ x10) (hx2 : x10 < 10) (hX : X.length ≤ 10)
    (IH : ∀ Y K, Y.length ≤ X.length + 1 → F ≤ K → impl_ringsIn.l0 K l Y (x10 + 1) = R Y) (q : Int) : ∀ (i : Nat) (b y : List Int) (K : Nat), F + i + 2 ≤ K → i < b.length → b.length ≤ 20 → y.length + i ≤ 30 →
    impl_ringsIn.l2 K l X b y (i : Int) x10 = R (X ++ [y ++ ((b.take (i + 1)).drop 1).reverse])
  | 0, b, y, K, hK, hi, hb, hy => by
    obtain ⟨K, rfl⟩ : ∃ m, K = m + 1 := ⟨K - 1, by omega⟩
    simp only [impl_ringsIn.l2]
    rw [if_neg (by omega), if_pos (by omega), w64 (x := x10 + 1) (by omega) (by omega), IH _ K (by simp) (by omega)]
    congr 3
    cases b <;> simp
  | i + 1, b, y, K, hK, hi, hb, hy => by
    obtain ⟨K, rfl⟩ : ∃ m, K = m + 1 := ⟨K - 1, by omega⟩
    simp only [impl_ringsIn.l2]
    rw [if_pos (by omega), if_pos (by omega), if_pos (by omega), if_pos (by omega), w64 (by omega) (by omega), show (((i + 1 : Nat) : Int) - 1) = (i : Int) from by omega]
    rw [impl_l2 l x10 X R F hx hx2 hX IH q i b _ K (by omega) (by omega) hb (by simp; omega), rd_nat b (i + 1) hi]
    congr 2
    rw [show b.take (i + 1 + 1) = b.take (i + 1) ++ [b[i + 1]] from take_succ b (i + 1) hi]
    rw [List.drop_append_of_le_length (by simp; omega), List.reverse_append]
    simp

def addR (X : List (List Int)) (p : Int) : Option (List Int) → List (List Int)
  | some b => X ++ [told p b]
  | none => X
theorem impl_end (l : List S51) (p : Int) (X : List (List Int)) (R : List (List Int) → Option (List (List Int))) (F : Nat) (hx : 0 ≤ p) (hx2 : p < 10) (hX : X.length ≤ 10)
    (IH : ∀ Y K, Y.length ≤ X.length + 1 → F ≤ K → impl_ringsIn.l0 K l Y (p + 1) = R Y) (b : List Int) (t : Int) (K : Nat) (hK : F + 20 ≤ K) (hb1 : 1 ≤ b.length) (hb : b.length ≤ 12) :
    impl_ringsIn.j2 K l X p b t p false = R (addR X p (if t = p ∧ 2 ≤ b.length then some b else none)) := by
  obtain ⟨K1, rfl⟩ : ∃ m, K = m + 1 := ⟨K - 1, by omega⟩
  simp only [impl_ringsIn.j2]
  rw [if_neg (by simp)]
  obtain ⟨K2, rfl⟩ : ∃ m, K1 = m + 1 := ⟨K1 - 1, by omega⟩
  by_cases e : t = p
  · rw [if_pos e]
    simp only [impl_ringsIn.j3]
    by_cases e2 : 2 ≤ b.length
    · rw [if_neg (by simp; omega), if_pos ⟨e, e2⟩, w64 (x := (b.length : Int) - 1) (by omega) (by omega), show ((b.length : Int) - 1) = ((b.length - 1 : Nat) : Int) from by omega]
      rw [impl_l2 l p X R F hx hx2 hX IH p (b.length - 1) b [p] K2 (by omega) (by omega) (by omega) (by simp; omega)]
      rw [show b.length - 1 + 1 = b.length from by omega, List.take_length]
      rfl
    · rw [if_pos (by simp; omega), if_neg (by omega), w64 (x := p + 1) (by omega) (by omega), IH _ K2 (by omega) (by omega)]
      rfl
  · rw [if_neg e]
    simp only [impl_ringsIn.j3]
    rw [if_pos trivial, if_neg (by omega), w64 (x := p + 1) (by omega) (by omega), IH _ K2 (by omega) (by omega)]
    rfl

theorem impl_l1 (l : List S51) (hl : l.length ≤ 10) (p : Int) (X : List (List Int)) (R : List (List Int) → Option (List (List Int))) (F : Nat) (hx : 0 ≤ p) (hx2 : p < 10) (hX : X.length ≤ 10)
    (IH : ∀ Y K, Y.length ≤ X.length + 1 → F ≤ K → impl_ringsIn.l0 K l Y (p + 1) = R Y) : ∀ (n : Nat) (b : List Int) (t : Int) (K : Nat), F + 2 * n + 30 ≤ K → 1 ≤ b.length → b.length + n = 11 →
    impl_ringsIn.l1 K l X p b t p = R (addR X p (ringP l p n b t))
  | 0, b, t, K, hK, hb1, hb => by
    obtain ⟨K1, rfl⟩ : ∃ m, K = m + 1 := ⟨K - 1, by omega⟩
    simp only [impl_ringsIn.l1, ringP]
    have he := impl_end l p X R F hx hx2 hX IH b t K1 (by omega) hb1 (by omega)
    by_cases c : t > p
    · rw [if_pos c, show decide ((b.length : Int) ≤ 10) = false from by simp; omega]
      exact he
    · rw [if_neg c]
      exact he
  | n + 1, b, t, K, hK, hb1, hb => by
    obtain ⟨K1, rfl⟩ : ∃ m, K = m + 1 := ⟨K - 1, by omega⟩
    obtain ⟨K2, hK2⟩ : ∃ m, K1 = m + 1 := ⟨K1 - 1, by omega⟩
    simp only [impl_ringsIn.l1, ringP]
    have he := impl_end l p X R F hx hx2 hX IH b t K1 (by omega) hb1 (by omega)
    by_cases c : t > p
    · rw [if_pos c, show decide ((b.length : Int) ≤ 10) = true from by simp; omega, if_pos ⟨c, by omega⟩, hK2]
      simp only [impl_ringsIn.j2]
      rw [if_pos trivial, if_pos (by omega), impl_src l t (by omega) K2 (by omega)]
      simp only [Option.bind_some]
      exact impl_l1 l hl p X R F hx hx2 hX IH n (b ++ [t]) (src t l) K2 (by omega) (by simp) (by simp; omega)
    · rw [if_neg c, if_neg (by omega)]
      exact he
/-- All rings, from a place on. -/
def ringsP (l : List S51) : Nat → List (List Int) → Int → List (List Int)
  | 0, X, _ => X
  | n + 1, X, p => ringsP l n (addR X p (ringP l p 10 [p] (src p l))) (p + 1)
theorem addR_len (X : List (List Int)) (p : Int) (o : Option (List Int)) : (addR X p o).length ≤ X.length + 1 := by
  cases o <;> simp [addR]
theorem impl_l0 (l : List S51) (hl : l.length ≤ 10) : ∀ (n : Nat) (X : List (List Int)) (p : Int) (K : Nat), 0 ≤ p → p + n = 10 → (X.length : Int) ≤ p → 60 * n + 20 ≤ K →
    impl_ringsIn.l0 K l X p = some (ringsP l n X p)
  | 0, X, p, K, h0, hp, hX, hK => by
    obtain ⟨K1, rfl⟩ : ∃ m, K = m + 1 := ⟨K - 1, by omega⟩
    simp only [impl_ringsIn.l0]
    rw [if_neg (by omega)]
    rfl
  | n + 1, X, p, K, h0, hp, hX, hK => by
    obtain ⟨K1, rfl⟩ : ∃ m, K = m + 1 := ⟨K - 1, by omega⟩
    simp only [impl_ringsIn.l0]
    rw [if_pos (by omega), impl_src l p (by omega) K1 (by omega)]
    simp only [Option.bind_some]
    exact impl_l1 l hl p X (fun Y => some (ringsP l n Y (p + 1))) (60 * n + 20) h0 (by omega) (by omega)
      (fun Y K' hY hK' => impl_l0 l hl n Y (p + 1) K' (by omega) (by omega) (by omega) hK') 10 [p] (src p l) K1 (by omega) (by simp) (by simp)

/-- The reference's ring of a place: the places gone back to, as long as none below 0 is met. -/
def ringS (l : List S51) (p : Int) : Nat → List Int → Int → Option (List Int)
  | 0, b, t => if t = p then (if b.length = 1 then none else some b) else none
  | n + 1, b, t => if t = p then (if b.length = 1 then none else some b) else if t < 0 ∨ 10 < b.length then none else ringS l p n (b ++ [t]) (src t l)
def toldO (p : Int) : Option (List Int) → List Int
  | some b => told p b
  | none => []
theorem spec_ring_l1 (b : List Int) (hb : b.length ≤ 20) : ∀ (i : Nat) (y : List Int) (K : Nat), i + 1 ≤ K → i < b.length → y.length + i ≤ 30 →
    spec_l8Ring.l1 K b y (i : Int) = some (y ++ ((b.take (i + 1)).drop 1).reverse)
  | 0, y, K, hK, hi, hy => by
    obtain ⟨K, rfl⟩ : ∃ m, K = m + 1 := ⟨K - 1, by omega⟩
    simp only [spec_l8Ring.l1]
    rw [if_neg (by omega)]
    cases b <;> simp
  | i + 1, y, K, hK, hi, hy => by
    obtain ⟨K, rfl⟩ : ∃ m, K = m + 1 := ⟨K - 1, by omega⟩
    simp only [spec_l8Ring.l1]
    rw [if_pos (by omega), if_pos (by omega), if_pos (by omega), if_pos (by omega), w64 (by omega) (by omega), show (((i + 1 : Nat) : Int) - 1) = (i : Int) from by omega]
    rw [spec_ring_l1 b hb i _ K (by omega) (by omega) (by simp; omega), rd_nat b (i + 1) hi]
    rw [show b.take (i + 1 + 1) = b.take (i + 1) ++ [b[i + 1]] from take_succ b (i + 1) hi]
    rw [List.drop_append_of_le_length (by simp; omega), List.reverse_append]
    simp
theorem spec_ring_end (l : List S51) (p : Int) (b : List Int) (K : Nat) (hK : 40 ≤ K) (hb1 : 1 ≤ b.length) (hb : b.length ≤ 12) :
    spec_l8Ring.l0 K l p b p = some (toldO p (if b.length = 1 then none else some b)) := by
  obtain ⟨K1, rfl⟩ : ∃ m, K = m + 1 := ⟨K - 1, by omega⟩
  simp only [spec_l8Ring.l0]
  rw [if_pos trivial]
  by_cases e : b.length = 1
  · rw [if_pos (by omega), if_pos e]
    rfl
  · rw [if_neg (by omega), if_neg e, w64 (x := (b.length : Int) - 1) (by omega) (by omega), show ((b.length : Int) - 1) = ((b.length - 1 : Nat) : Int) from by omega]
    rw [spec_ring_l1 b (by omega) (b.length - 1) [p] K1 (by omega) (by omega) (by simp; omega), show b.length - 1 + 1 = b.length from by omega, List.take_length]
    rfl
theorem spec_ring_l0 (l : List S51) (hl : l.length ≤ 10) (p : Int) : ∀ (n : Nat) (b : List Int) (t : Int) (K : Nat), 2 * n + 60 ≤ K → 1 ≤ b.length → b.length + n = 11 →
    spec_l8Ring.l0 K l p b t = some (toldO p (ringS l p n b t))
  | 0, b, t, K, hK, hb1, hb => by
    by_cases e : t = p
    · subst e
      rw [spec_ring_end l t b K (by omega) hb1 (by omega)]
      simp only [ringS]
      rw [if_pos trivial]
    · obtain ⟨K1, rfl⟩ : ∃ m, K = m + 1 := ⟨K - 1, by omega⟩
      obtain ⟨K2, rfl⟩ : ∃ m, K1 = m + 1 := ⟨K1 - 1, by omega⟩
      simp only [spec_l8Ring.l0, ringS]
      rw [if_neg e, if_neg e, show decide ((b.length : Int) > 10) = true from by simp; omega]
      simp only [spec_l8Ring.j1]
      rw [if_pos trivial]
      split <;> rfl
  | n + 1, b, t, K, hK, hb1, hb => by
    by_cases e : t = p
    · subst e
      rw [spec_ring_end l t b K (by omega) hb1 (by omega)]
      simp only [ringS]
      rw [if_pos trivial]
    · obtain ⟨K1, rfl⟩ : ∃ m, K = m + 1 := ⟨K - 1, by omega⟩
      obtain ⟨K2, rfl⟩ : ∃ m, K1 = m + 1 := ⟨K1 - 1, by omega⟩
      simp only [spec_l8Ring.l0, ringS]
      rw [if_neg e, if_neg e, show decide ((b.length : Int) > 10) = false from by simp; omega]
      by_cases c : t < 0
      · rw [if_pos c, if_pos (Or.inl c)]
        simp only [spec_l8Ring.j1]
        rw [if_pos trivial]
        rfl
      · rw [if_neg c, if_neg (by omega)]
        simp only [spec_l8Ring.j1]
        rw [if_neg (by simp), if_pos (by omega), spec_src l t (by omega) K2 (by omega)]
        simp only [Option.bind_some]
        exact spec_ring_l0 l hl p n (b ++ [t]) (src t l) K2 (by omega) (by simp) (by simp; omega)
/-- What the walk has found stays in the ring. -/
theorem ringS_has (l : List S51) (p : Int) : ∀ (n : Nat) (b : List Int) (t : Int) (r : List Int), ringS l p n b t = some r → ∀ x ∈ b, x ∈ r
  | 0, b, t, r, h, x, hx => by
    simp only [ringS] at h
    split at h
    · split at h
      · cases h
      · obtain rfl := Option.some.inj h
        exact hx
    · cases h
  | n + 1, b, t, r, h, x, hx => by
    simp only [ringS] at h
    split at h
    · split at h
      · cases h
      · obtain rfl := Option.some.inj h
        exact hx
    · split at h
      · cases h
      · exact ringS_has l p n (b ++ [t]) (src t l) r h x (by simp [hx])
/-- The reference's ring where it has no place below its first one; the program's is the same. -/
def leastO (p : Int) : Option (List Int) → Option (List Int)
  | some b => if b.all (fun x => decide (p ≤ x)) then some b else none
  | none => none
theorem ring_same (l : List S51) (p : Int) (hp : 0 ≤ p) : ∀ (n : Nat) (b : List Int) (t : Int), 1 ≤ b.length → b.length + n = 11 → (∀ x ∈ b, p ≤ x) → leastO p (ringS l p n b t) = ringP l p n b t
  | 0, b, t, hb1, hb, ha => by
    simp only [ringS, ringP]
    by_cases e : t = p
    · rw [if_pos e, if_neg (by omega), if_pos ⟨e, by omega⟩]
      simp only [leastO]
      rw [if_pos (by simpa using ha)]
    · rw [if_neg e, if_neg (by omega)]
      rfl
  | n + 1, b, t, hb1, hb, ha => by
    simp only [ringS, ringP]
    by_cases e : t = p
    · rw [if_pos e, if_neg (show ¬ (t > p ∧ b.length ≤ 10) by omega)]
      by_cases e1 : b.length = 1
      · rw [if_pos e1, if_neg (by omega)]
        rfl
      · rw [if_neg e1, if_pos ⟨e, by omega⟩]
        simp only [leastO]
        rw [if_pos (by simpa using ha)]
    · rw [if_neg e]
      by_cases c : t > p
      · rw [if_neg (by omega), if_pos ⟨c, by omega⟩]
        exact ring_same l p hp n (b ++ [t]) (src t l) (by simp) (by simp; omega) (by
          intro x hx
          rcases List.mem_append.1 hx with hx | hx
          · exact ha x hx
          · simp at hx
            omega)
      · rw [if_neg (by omega : ¬ (t > p ∧ b.length ≤ 10)), if_neg (by omega : ¬ (t = p ∧ 2 ≤ b.length))]
        split
        · rfl
        · cases h : ringS l p n (b ++ [t]) (src t l) with
          | none => rfl
          | some r =>
            have := ringS_has l p n (b ++ [t]) (src t l) r h t (by simp)
            simp only [leastO]
            rw [if_neg]
            simp only [List.all_eq_true, decide_eq_true_eq]
            intro h2
            have := h2 t this
            omega
theorem told_all (p : Int) (b : List Int) (h1 : 1 ≤ b.length) (h0 : b[0]? = some p) : (told p b).all (fun x => decide (p ≤ x)) = b.all (fun x => decide (p ≤ x)) := by
  unfold told
  cases b with
  | nil => simp at h1
  | cons a c =>
    simp at h0
    subst h0
    simp
theorem ringS_first (l : List S51) (p : Int) : ∀ (n : Nat) (b : List Int) (t : Int) (r : List Int), ringS l p n b t = some r → b[0]? = some p → r[0]? = some p ∧ 1 ≤ r.length ∧ r.length ≤ b.length + n
  | 0, b, t, r, h, h0 => by
    simp only [ringS] at h
    split at h
    · split at h
      · cases h
      · obtain rfl := Option.some.inj h
        refine ⟨h0, ?_, by omega⟩
        cases b with
        | nil => simp at h0
        | cons a c => simp
    · cases h
  | n + 1, b, t, r, h, h0 => by
    simp only [ringS] at h
    split at h
    · split at h
      · cases h
      · obtain rfl := Option.some.inj h
        refine ⟨h0, ?_, by omega⟩
        cases b with
        | nil => simp at h0
        | cons a c => simp
    · split at h
      · cases h
      · obtain ⟨h1, h2, h3⟩ := ringS_first l p n (b ++ [t]) (src t l) r h (by
          cases b with
          | nil => simp at h0
          | cons a c => simpa using h0)
        exact ⟨h1, h2, by simp at h3; omega⟩
/-- The loop over a ring's places: is none below the first? -/
theorem spec_least (l : List S51) (X : List (List Int)) (p : Int) (rr : List Int) (R : List (List Int) → Option (List (List Int))) (F : Nat) (hx : 0 ≤ p) (hx2 : p < 10) (hX : X.length ≤ 10)
    (IH : ∀ Y K, Y.length ≤ X.length + 1 → F ≤ K → spec_l8Rings.l0 K l Y (p + 1) = R Y) : ∀ (r q : List Int) (v : Bool) (K : Nat), (q ++ r).length ≤ 40 → F + r.length + 1 ≤ K →
    spec_l8Rings.l1 K l X p rr v (q ++ r) ((q ++ r).length : Int) (q.length : Int) = R (if v && r.all (fun x => decide (p ≤ x)) then X ++ [rr] else X)
  | [], q, v, K, hq, hK => by
    obtain ⟨K, rfl⟩ : ∃ m, K = m + 1 := ⟨K - 1, by omega⟩
    simp only [spec_l8Rings.l1]
    simp only [List.length_nil] at hK
    rw [if_neg (by simp)]
    cases v
    · rw [if_neg (by simp), w64 (x := p + 1) (by omega) (by omega), IH _ K (by omega) (by omega)]
      rfl
    · rw [if_pos rfl, if_pos (by omega), w64 (x := p + 1) (by omega) (by omega), IH _ K (by simp) (by omega)]
      rfl
  | a :: r, q, v, K, hq, hK => by
    obtain ⟨K, rfl⟩ : ∃ m, K = m + 1 := ⟨K - 1, by omega⟩
    have hn := len_app_cons q a r
    simp only [List.length_cons] at hK
    simp only [spec_l8Rings.l1]
    rw [if_pos (by omega), if_pos (by omega), if_pos (by omega), rd_app, w64_succ (n := (q ++ a :: r).length) (by omega) (by omega) (by omega), ← len_snoc q a, app_cons]
    cases v
    · rw [if_neg (by simp), spec_least l X p rr R F hx hx2 hX IH r (q ++ [a]) false K (by rw [← app_cons]; omega) (by omega)]
      rfl
    · rw [if_pos rfl, spec_least l X p rr R F hx hx2 hX IH r (q ++ [a]) _ K (by rw [← app_cons]; omega) (by omega)]
      simp
theorem spec_rings_l0 (l : List S51) (hl : l.length ≤ 10) : ∀ (n : Nat) (X : List (List Int)) (p : Int) (K : Nat), 0 ≤ p → p + n = 10 → (X.length : Int) ≤ p → 200 * n + 200 ≤ K →
    spec_l8Rings.l0 K l X p = some (ringsP l n X p)
  | 0, X, p, K, h0, hp, hX, hK => by
    obtain ⟨K1, rfl⟩ : ∃ m, K = m + 1 := ⟨K - 1, by omega⟩
    simp only [spec_l8Rings.l0]
    rw [if_neg (by omega)]
    rfl
  | n + 1, X, p, K, h0, hp, hX, hK => by
    obtain ⟨K1, rfl⟩ : ∃ m, K = m + 1 := ⟨K - 1, by omega⟩
    simp only [spec_l8Rings.l0, spec_l8Ring.f]
    rw [if_pos (by omega), spec_src l p (by omega) K1 (by omega)]
    simp only [Option.bind_some]
    rw [spec_ring_l0 l hl p 10 [p] (src p l) K1 (by omega) (by simp) (by simp)]
    simp only [Option.bind_some]
    have hsame := ring_same l p h0 10 [p] (src p l) (by simp) (by simp) (by simp)
    have hrec := fun (rr : List Int) (hrr : rr.length ≤ 40) => spec_least l X p rr (fun Y => some (ringsP l n Y (p + 1))) (200 * n + 200) h0 (by omega) (by omega)
      (fun Y K' hY hK' => spec_rings_l0 l hl n Y (p + 1) K' (by omega) (by omega) (by omega) hK') rr [] (decide ((rr.length : Int) > 0)) K1 (by simpa using hrr) (by omega)
    simp only [ringsP, ← hsame]
    have hone : ∀ rr, toldO p (ringS l p 10 [p] (src p l)) = rr → rr.length ≤ 40 ∧ (if (decide ((rr.length : Int) > 0) && rr.all fun x => decide (p ≤ x)) = true then X ++ [rr] else X) = addR X p (leastO p (ringS l p 10 [p] (src p l))) := by
      intro rr hrr
      cases h : ringS l p 10 [p] (src p l) with
      | none =>
        rw [h] at hrr
        subst hrr
        exact ⟨by simp [toldO], rfl⟩
      | some b =>
        obtain ⟨hb1, hb2, hb3⟩ := ringS_first l p 10 [p] (src p l) b h (by simp)
        rw [h] at hrr
        have hrr' : told p b = rr := hrr
        subst hrr'
        have hlen : (told p b).length = b.length := by unfold told; simp; omega
        refine ⟨by rw [hlen]; simp at hb3; omega, ?_⟩
        rw [told_all p b hb2 hb1, show decide (((told p b).length : Int) > 0) = true from by simp; omega, Bool.true_and]
        simp only [leastO]
        split <;> rfl
    generalize hrr : toldO p (ringS l p 10 [p] (src p l)) = rr
    obtain ⟨h40, hR⟩ := hone rr hrr
    have h1 := hrec rr h40
    simp only [List.nil_append, List.length_nil] at h1
    have h1' : spec_l8Rings.l1 K1 l X p rr (decide ((rr.length : Int) > 0)) rr (rr.length : Int) 0 = _ := h1
    rw [h1', hR]

def needs (l : List S51) : Bool × Bool := cond (goodM [] l) (decide (((ringsP l 10 [] 0).length : Int) > 0), true) (false, false)
theorem spec_needs (l : List S51) (hl : l.length ≤ 1048576) (k : Nat) (hk : 1048576 * 1048579 < k) : spec_NeedsSpare.f k l = some (needs l) := by
  unfold spec_NeedsSpare.f needs
  rw [spec_goodM l hl k hk]
  simp only [Option.bind_some]
  cases h : goodM [] l
  · rfl
  · have hlen := good_len l [] (by simp) (by simp) h
    simp only [List.length_nil] at hlen
    unfold spec_l8Rings.f
    rw [if_pos rfl, spec_rings_l0 l (by omega) 10 [] 0 k (by omega) (by omega) (by simp) (by omega)]
    rfl
theorem impl_needs (l : List S51) (hl : l.length ≤ 1048576) (k : Nat) (hk : 1048576 * 1048579 < k) : impl_NeedsSpare.f k l = some (needs l) := by
  unfold impl_NeedsSpare.f needs
  rw [impl_goodM l hl k hk]
  simp only [Option.bind_some]
  cases h : goodM [] l
  · rfl
  · have hlen := good_len l [] (by simp) (by simp) h
    simp only [List.length_nil] at hlen
    unfold impl_ringsIn.f
    rw [if_pos rfl, impl_l0 l (by omega) 10 [] 0 k (by omega) (by omega) (by simp) (by omega)]
    rfl
theorem FnExactNeedsSpare : laws_FnExactNeedsSpare.Pure := by
  intro l ⟨hl0, hl1, _⟩
  obtain ⟨k, hk⟩ : ∃ k, k = 2000000000000 := ⟨_, rfl⟩
  refine ⟨k, ?_⟩
  unfold laws_FnExactNeedsSpare.f
  obtain ⟨z, hz1, hz2⟩ := sz_moves l (by omega)
  rw [hz1]
  simp only [Option.bind_some]
  by_cases e2 : z < 0
  · rw [if_pos e2]
  · rw [if_neg e2]
    have hlen := hz2 (by omega)
    have hM : (l.map cM).length ≤ 1048576 := by simpa using hlen
    rw [to_moves l hlen k (by omega)]
    simp only [Option.bind_some]
    rw [spec_needs _ hM k (by omega), impl_needs _ hM k (by omega)]
    simp only [Option.bind_some, bne_self_eq_false, Bool.false_eq_true, if_false]
    obtain ⟨k1, rfl⟩ : ∃ k1, k = k1 + 1 := ⟨k - 1, by omega⟩
    simp only [laws_FnExactNeedsSpare.j0]
    rw [if_neg (by simp), to_moves l hlen k1 (by omega)]
    simp only [Option.bind_some]
    rw [eq_moves _ hM k1 (by omega)]
    simp only [Option.bind_some]
    rw [if_pos trivial]

end Go.Proofs.Ythihphgfblonoaa.Pure
