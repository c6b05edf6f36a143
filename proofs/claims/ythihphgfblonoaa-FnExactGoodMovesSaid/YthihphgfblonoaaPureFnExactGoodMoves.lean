/- The program's GoodMoves answers as the reference's for all moves, and it changes no argument. Conditions: none beyond those of the given statement. -/
import Derived.Test.YthihphgfblonoaaKit
import Derived.Test.YthihphgfblonoaaQFnExactGoodMovesx2
import Derived.Test.YthihphgfblonoaaQFnExactGoodMovesx1
namespace Go.Proofs.Ythihphgfblonoaa.Pure
open Go.RowKit Go.Proofs.Ythihphgfblonoaa.QFnExactGoodMoves Go.Proofs.YthihphgfblonoaaW.PrintWords Go.Proofs.YthihphgfblonoaaW.PrintLast Go.Proofs.YthihphgfblonoaaW.PrintMore Go.Proofs.Ythihphgfblonoaa.Kit
set_option linter.unusedSimpArgs false
set_option linter.unusedVariables false

/-- A move of the law's own type, as the program's. -/
def cM (x : S58) : S51 := ⟨x.f0, x.f1⟩
theorem rdM58 (p : List S58) (a : S58) (r : List S58) : rd_T58 (p ++ a :: r) (p.length : Int) = a := by
  unfold rd_T58
  simp
theorem rdM51 (p : List S51) (a : S51) (r : List S51) : rd_T51 (p ++ a :: r) (p.length : Int) = a := by
  unfold rd_T51
  simp
theorem sz_moves (l : List S58) (hl : l.length ≤ 140737488355328) : ∃ z, laws_szMoveS.f l 1048576 = some z ∧ (0 ≤ z → l.length ≤ 1048576) := by
  unfold laws_szMoveS.f
  rw [w64 (by omega) (by omega)]
  by_cases e : (1048576 : Int) - (l.length : Int) < 0
  · rw [if_pos e]
    exact ⟨-1, rfl, by omega⟩
  · rw [if_neg e]
    exact ⟨_, rfl, by omega⟩
theorem to_l0 : ∀ (r p : List S58) (y : List S51) (k : Nat), (p ++ r).length ≤ 140737488355328 → r.length < k → y.length = (p ++ r).length → y.take p.length = p.map cM →
    laws_toMoveS.l0 k (p ++ r) y (p.length : Int) = some ((p ++ r).map cM)
  | [], p, y, k, hl, hk, hy, ht => by
    obtain ⟨k, rfl⟩ := rounds hk
    simp only [laws_toMoveS.l0]
    rw [if_neg (by simp)]
    rw [List.take_of_length_le (by simp at hy; omega)] at ht
    simp [ht]
  | a :: r, p, y, k, hl, hk, hy, ht => by
    obtain ⟨k, rfl⟩ := rounds hk
    have hn := len_app_cons p a r
    simp only [List.length_cons] at hk
    simp only [laws_toMoveS.l0, laws_toMove.f]
    rw [if_pos (by omega), if_pos (by omega), rdM58]
    simp only [Option.bind_some]
    rw [if_pos (by omega), w64_succ (n := (p ++ a :: r).length) (by omega) (by omega) (by omega), ← len_snoc p a, app_cons, show ((p.length : Int)).toNat = p.length from by omega]
    refine to_l0 r (p ++ [a]) _ k (by rw [← app_cons]; omega) (by omega) (by rw [← app_cons, List.length_set]; exact hy) ?_
    rw [List.length_append, List.length_singleton, take_set_succ _ _ _ (by omega), ht]
    simp [cM]
theorem to_moves (l : List S58) (hl : l.length ≤ 1048576) (k : Nat) (hk : 1048580 < k) : laws_toMoveS.f k l = some (l.map cM) := by
  unfold laws_toMoveS.f
  rw [if_pos (by omega), if_pos (by omega)]
  exact to_l0 l [] _ k (by simp; omega) (by omega) (by simp) (by simp)
theorem eq_l0 : ∀ (r p : List S51) (k : Nat), (p ++ r).length ≤ 140737488355328 → r.length < k → laws_eqMoveS.l0 k (p ++ r) (p ++ r) (p.length : Int) = some true
  | [], p, k, hl, hk => by
    obtain ⟨k, rfl⟩ := rounds hk
    simp only [laws_eqMoveS.l0]
    rw [if_neg (by simp)]
  | a :: r, p, k, hl, hk => by
    obtain ⟨k, rfl⟩ := rounds hk
    have hn := len_app_cons p a r
    simp only [List.length_cons] at hk
    simp only [laws_eqMoveS.l0, laws_eqMove.f]
    rw [if_pos (by omega), if_pos (by omega), if_pos (by omega)]
    simp only [Option.bind_some, if_true]
    rw [w64_succ (n := (p ++ a :: r).length) (by omega) (by omega) (by omega), ← len_snoc p a, app_cons]
    exact eq_l0 r (p ++ [a]) k (by rw [← app_cons]; omega) (by omega)
theorem eq_moves (l : List S51) (hl : l.length ≤ 1048576) (k : Nat) (hk : 1048580 < k) : laws_eqMoveS.f k l l = some true := by
  unfold laws_eqMoveS.f
  rw [if_pos rfl]
  exact eq_l0 l [] k (by simp; omega) (by omega)

def okP (m : S51) : Bool := (decide (0 ≤ m.f0) && decide (m.f0 ≤ 9)) && (decide (0 ≤ m.f1) && decide (m.f1 ≤ 9))
def goodM (s : List Int) : List S51 → Bool
  | [] => true
  | m :: r => okP m && (!(decide (m.f1 ∈ s)) && goodM (s ++ [m.f1]) r)
theorem spec_inner (x0 x7 : List S51) (x8 x9 f0 t : Int) : ∀ (r p : List S51) (K m : Nat), K = m + r.length + 1 → (p ++ r).length ≤ 140737488355327 →
    spec_GoodMoves.l1 K x0 x7 x8 x9 (p ++ r) ((p ++ r).length : Int) (p.length : Int) f0 t = cond (decide (t ∈ r.map (·.f1))) (some false) (spec_GoodMoves.l0 m x0 x7 x8 (wrap64 (x9 + 1)))
  | [], p, K, m, hK, hl => by
    subst hK
    simp only [spec_GoodMoves.l1]
    rw [if_neg (by simp)]
    simp
  | a :: r, p, K, m, hK, hl => by
    have hn := len_app_cons p a r
    obtain ⟨K, rfl⟩ : ∃ K', K = K' + 1 := ⟨m + r.length + 1, by rw [hK]; simp; omega⟩
    simp only [List.length_cons] at hK
    simp only [spec_GoodMoves.l1, rdM51]
    rw [if_pos (by omega), if_pos (by omega), if_pos (by omega), w64_succ (n := (p ++ a :: r).length) (by omega) (by omega) (by omega), ← len_snoc p a, app_cons]
    rw [spec_inner x0 x7 x8 x9 f0 t r (p ++ [a]) K m (by omega) (by rw [← app_cons]; omega)]
    by_cases e : a.f1 = t
    · rw [if_pos e]
      simp [e]
    · have hne : ¬ t = a.f1 := fun h => e h.symm
      rw [if_neg e]
      simp [hne]
theorem okP_not (a : S51) (h : okP a = false) : ¬ (0 ≤ a.f0 ∧ a.f0 ≤ 9 ∧ 0 ≤ a.f1 ∧ a.f1 ≤ 9) := by
  rintro ⟨h1, h2, h3, h4⟩
  simp [okP, h1, h2, h3, h4] at h
theorem spec_good_l0 : ∀ (r p : List S51) (k : Nat), (p ++ r).length ≤ 140737488355327 → r.length * ((p ++ r).length + 3) < k →
    spec_GoodMoves.l0 k (p ++ r) (p ++ r) ((p ++ r).length : Int) (p.length : Int) = some (goodM (p.map (·.f1)) r && decide (((p ++ r).length : Int) ≤ 10))
  | [], p, k, hl, hk => by
    obtain ⟨k, rfl⟩ := rounds hk
    simp only [spec_GoodMoves.l0]
    rw [if_neg (by simp)]
    simp [goodM]
  | a :: r, p, k, hl, hk => by
    have hn := len_app_cons p a r
    rw [List.length_cons, Nat.succ_mul] at hk
    generalize hc : r.length * ((p ++ a :: r).length + 3) = c at hk
    obtain ⟨m, rfl⟩ : ∃ m, k = (m + p.length + 1) + 1 + 1 := ⟨k - p.length - 3, by omega⟩
    have hgo := spec_good_l0 r (p ++ [a]) m (by rw [← app_cons]; omega) (by rw [← app_cons, hc]; omega)
    rw [← app_cons, len_snoc] at hgo
    obtain ⟨K, hK⟩ : ∃ K, K = m + p.length + 1 := ⟨_, rfl⟩
    rw [← hK]
    have hin := spec_inner (p ++ a :: r) (p ++ a :: r) ((p ++ a :: r).length : Int) (p.length : Int) a.f0 a.f1 p [] K m hK (by simp; omega)
    simp only [List.nil_append, List.length_nil] at hin
    rw [w64_succ (n := (p ++ a :: r).length) (by omega) (by omega) (by omega), hgo] at hin
    simp only [spec_GoodMoves.l0, rdM51, spec_l8Place.f, spec_l1In.f]
    obtain ⟨K1, hK1⟩ : ∃ K1, K1 = K + 1 := ⟨_, rfl⟩
    rw [← hK1]
    rw [if_pos (by omega), if_pos (by omega), if_pos (by omega)]
    have hbad : ∀ x3 x7 x8 x9 f0 f1, spec_GoodMoves.j1 K1 (p ++ a :: r) x3 x7 x8 x9 true f0 f1 = some false := by
      intro x3 x7 x8 x9 f0 f1
      rw [hK1]
      simp only [spec_GoodMoves.j1]
      rw [if_pos trivial]
    have hok : spec_GoodMoves.j1 K1 (p ++ a :: r) (p.length : Int) (p ++ a :: r) ((p ++ a :: r).length : Int) (p.length : Int) false a.f0 a.f1 = cond (decide (a.f1 ∈ p.map (·.f1))) (some false) (some (goodM ((p ++ [a]).map (·.f1)) r && decide (((p ++ a :: r).length : Int) ≤ 10))) := by
      rw [hK1]
      simp only [spec_GoodMoves.j1]
      rw [if_neg (by simp), if_pos (by omega), if_pos (by omega), show ((p.length : Int)).toNat = p.length from by omega, List.take_left']
      · simp only [Option.bind_some]
        exact hin
      · rfl
    rw [show goodM (p.map (·.f1)) (a :: r) = (okP a && (!(decide (a.f1 ∈ p.map (·.f1))) && goodM (p.map (·.f1) ++ [a.f1]) r)) from rfl]
    by_cases h : okP a = true
    · have h' := h
      simp only [okP, Bool.and_eq_true, decide_eq_true_eq] at h'
      rw [if_pos (by omega)]
      simp only [Option.bind_some]
      rw [if_pos (by simp; omega), if_pos (by omega)]
      simp only [Option.bind_some]
      rw [show (!(decide (a.f1 ≤ 9))) = false from by simp; omega, hok, h]
      by_cases hm : a.f1 ∈ p.map (·.f1)
      · simp [hm]
      · simp [hm]
    · have h2 : okP a = false := by simpa using h
      have h3 := okP_not a h2
      rw [h2, Bool.false_and, Bool.false_and]
      by_cases e1 : a.f0 ≥ 0
      · rw [if_pos e1]
        simp only [Option.bind_some]
        by_cases e2 : a.f0 ≤ 9
        · rw [if_pos (by simp; omega)]
          by_cases e3 : a.f1 ≥ 0
          · rw [if_pos e3]
            simp only [Option.bind_some]
            rw [show (!(decide (a.f1 ≤ 9))) = true from by simp; omega, hbad]
          · rw [if_neg e3]
            simp only [Option.bind_some]
            exact hbad _ _ _ _ _ _
        · rw [if_neg (by simp; omega), hbad]
      · rw [if_neg e1]
        simp only [Option.bind_some]
        rw [if_neg (by simp), hbad]
theorem impl_good_l0 : ∀ (r p : List S51) (k : Nat) (s : List Int) (b : List Bool), (p ++ r).length ≤ 140737488355327 → 2 * r.length < k → b.length = 10 → (∀ t : Int, 0 ≤ t → t ≤ 9 → rdOf false b t = decide (t ∈ s)) →
    impl_areMoves.l0 k b (p ++ r) ((p ++ r).length : Int) (p.length : Int) = some (goodM s r)
  | [], p, k, s, b, hl, hk, hb, hs => by
    obtain ⟨k, rfl⟩ := rounds hk
    simp only [impl_areMoves.l0]
    rw [if_neg (by simp)]
    rfl
  | a :: r, p, k, s, b, hl, hk, hb, hs => by
    have hn := len_app_cons p a r
    simp only [List.length_cons] at hk
    obtain ⟨K1, hK1⟩ : ∃ m, k = m + 1 := ⟨k - 1, by omega⟩
    obtain ⟨K2, hK2⟩ : ∃ m, K1 = m + 1 := ⟨K1 - 1, by omega⟩
    rw [hK1]
    simp only [impl_areMoves.l0, rdM51, impl_in.f]
    rw [if_pos (by omega), if_pos (by omega), if_pos (by omega)]
    have hbad : ∀ x3 x7 x8 x9 f0 f1, impl_areMoves.j1 K1 x3 x7 x8 x9 true f0 f1 = some false := by
      intro x3 x7 x8 x9 f0 f1
      rw [hK2]
      simp only [impl_areMoves.j1]
      rw [if_pos trivial]
    rw [show goodM s (a :: r) = (okP a && (!(decide (a.f1 ∈ s)) && goodM (s ++ [a.f1]) r)) from rfl]
    by_cases h : okP a = true
    · have h' := h
      simp only [okP, Bool.and_eq_true, decide_eq_true_eq] at h'
      rw [if_pos (by omega)]
      simp only [Option.bind_some]
      rw [if_pos (by simp; omega), if_pos (by omega)]
      simp only [Option.bind_some]
      rw [if_pos (by simp; omega), if_pos (by omega), if_pos (by omega), hs a.f1 (by omega) (by omega), h]
      by_cases hm : a.f1 ∈ s
      · rw [show decide (a.f1 ∈ s) = true from by simpa using hm, hbad]
        rfl
      · rw [show decide (a.f1 ∈ s) = false from by simpa using hm, hK2]
        simp only [impl_areMoves.j1]
        rw [if_neg (by simp), if_pos (by omega), if_pos (by omega), w64_succ (n := (p ++ a :: r).length) (by omega) (by omega) (by omega), ← len_snoc p a, app_cons]
        rw [impl_good_l0 r (p ++ [a]) K2 (s ++ [a.f1]) _ (by rw [← app_cons]; omega) (by omega) (by simpa using hb) ?_]
        · rfl
        · intro t h0 h1
          have hst := hs t h0 h1
          unfold rdOf at hst ⊢
          by_cases e : t = a.f1
          · subst e
            have hlt : a.f1.toNat < b.length := by omega
            simp [hlt]
          · have hne : a.f1.toNat ≠ t.toNat := by omega
            simp only [List.getD_eq_getElem?_getD] at hst ⊢
            rw [List.getElem?_set_ne hne, hst]
            simp [e]
    · have h2 : okP a = false := by simpa using h
      have h3 := okP_not a h2
      rw [h2, Bool.false_and]
      by_cases e1 : a.f0 ≥ 0
      · rw [if_pos e1]
        simp only [Option.bind_some]
        by_cases e2 : a.f0 ≤ 9
        · rw [if_pos (by simp; omega)]
          by_cases e3 : a.f1 ≥ 0
          · rw [if_pos e3]
            simp only [Option.bind_some]
            rw [if_neg (by simp; omega), hbad]
          · rw [if_neg e3]
            simp only [Option.bind_some]
            rw [if_neg (by simp), hbad]
        · rw [if_neg (by simp; omega), hbad]
      · rw [if_neg e1]
        simp only [Option.bind_some]
        rw [if_neg (by simp), hbad]
theorem good_len : ∀ (r : List S51) (s : List Int), s.Nodup → (∀ x ∈ s, 0 ≤ x ∧ x < ((10 : Nat) : Int)) → goodM s r = true → s.length + r.length ≤ 10
  | [], s, hn, hs, _ => by simpa using nodup_bound 10 s hn hs
  | a :: r, s, hn, hs, h => by
    rw [show goodM s (a :: r) = (okP a && (!(decide (a.f1 ∈ s)) && goodM (s ++ [a.f1]) r)) from rfl] at h
    rw [Bool.and_eq_true, Bool.and_eq_true] at h
    obtain ⟨h1, h2, h3⟩ := h
    have hm : a.f1 ∉ s := by simpa using h2
    simp only [okP, Bool.and_eq_true, decide_eq_true_eq] at h1
    have := good_len r (s ++ [a.f1]) (List.nodup_append.2 ⟨hn, by simp, by intro x hx y hy; simp at hy; subst hy; intro e; subst e; exact hm hx⟩) (by
      intro x hx
      rcases List.mem_append.1 hx with hx | hx
      · exact hs x hx
      · simp at hx; subst hx; omega) h3
    simp only [List.length_append, List.length_singleton, List.length_cons] at this ⊢
    omega
theorem FnExactGoodMoves : laws_FnExactGoodMoves.Pure := by
  intro l ⟨hl0, hl1, _⟩
  obtain ⟨k, hk⟩ : ∃ k, k = 2000000000000 := ⟨_, rfl⟩
  refine ⟨k, ?_⟩
  unfold laws_FnExactGoodMoves.f
  obtain ⟨z, hz1, hz2⟩ := sz_moves l (by omega)
  rw [hz1]
  simp only [Option.bind_some]
  by_cases e2 : z < 0
  · rw [if_pos e2]
  · rw [if_neg e2]
    have hlen := hz2 (by omega)
    have hM : (l.map cM).length ≤ 1048576 := by simpa using hlen
    rw [to_moves l hlen k (by omega)]
    simp only [Option.bind_some]
    have hq : (l.map cM).length * ((l.map cM).length + 3) ≤ 1048576 * 1048579 := Nat.mul_le_mul hM (by omega)
    have hsp := spec_good_l0 (l.map cM) [] k (by simp; omega) (by simp only [List.nil_append]; omega)
    have him := impl_good_l0 (l.map cM) [] k [] (List.replicate 10 false) (by simp; omega) (by omega) (by simp) (by
      intro t h0 h1
      unfold rdOf
      rw [List.getD_eq_getElem?_getD, List.getElem?_replicate]
      split <;> simp)
    unfold spec_GoodMoves.f impl_GoodMoves.f impl_areMoves.f
    simp only [List.nil_append, List.length_nil, List.map_nil] at hsp him
    have hsp' : spec_GoodMoves.l0 k (l.map cM) (l.map cM) ((l.map cM).length : Int) 0 = _ := hsp
    have him' : impl_areMoves.l0 k (List.replicate 10 false) (l.map cM) ((l.map cM).length : Int) 0 = _ := him
    rw [hsp', if_pos (by decide), him']
    simp only [Option.bind_some]
    have heq : (goodM [] (l.map cM) && decide (((l.map cM).length : Int) ≤ 10)) = goodM [] (l.map cM) := by
      cases h : goodM [] (l.map cM)
      · rfl
      · have := good_len (l.map cM) [] (by simp) (by simp) h
        simp only [List.length_nil] at this
        rw [Bool.true_and]
        simp only [decide_eq_true_eq]
        omega
    rw [heq, if_neg (by simp), eq_moves _ hM k (by omega)]
    simp

end Go.Proofs.Ythihphgfblonoaa.Pure
