/- Moves done in turn and moves done at once come to the same. No condition. -/
import Derived.Test.YthihphgfblonoaaLRingMath
namespace Go.Proofs.Ythihphgfblonoaa.Am
open Go Go.RowKit
set_option linter.unusedSimpArgs false
set_option linter.unusedVariables false

/-- One move is done. -/
def upd (f : Int → Int) (m : Move) : Int → Int := fun t => if t = m.to then f m.fr else f t
def runM (f : Int → Int) (l : List Move) : Int → Int := l.foldl upd f
/-- All moves are done at once. -/
def onceM (f : Int → Int) (l : List Move) : Int → Int := fun t => if src l t < 0 then f t else f (src l t)
theorem runM_app (f : Int → Int) (l r : List Move) : runM f (l ++ r) = runM (runM f l) r := by simp [runM, List.foldl_append]
theorem runM_cons (f : Int → Int) (m : Move) (r : List Move) : runM f (m :: r) = runM (upd f m) r := rfl
theorem src_cons (m : Move) (l : List Move) (t : Int) : src (m :: l) t = if m.to = t then m.fr else src l t := by
  unfold src
  rw [List.find?_cons]
  by_cases h : m.to = t
  · have : (m.to == t) = true := by simpa using h
    rw [this, if_pos h]
  · have : (m.to == t) = false := by simpa using h
    rw [this, if_neg h]
theorem once_step {left : List Move} (hg : GoodM left) {i : Nat} (h : freeAt left = some i) (hi : i < left.length) (f : Int → Int) (t : Int) : onceM (upd f left[i]) (left.eraseIdx i) t = onceM f left t := by
  obtain ⟨_, hfree⟩ := free_of h
  have hs : (left.eraseIdx i).Sublist left := List.eraseIdx_sublist ..
  have hg' := hg.sub hs
  have hmi : left[i] ∈ left := List.getElem_mem _
  unfold onceM
  by_cases ht : t = left[i].to
  · have e1 : src (left.eraseIdx i) t = -1 := src_not fun m hm e => by
      obtain ⟨j, hj, hjm⟩ := List.mem_eraseIdx_iff_getElem?.1 hm
      obtain ⟨hjl, rfl⟩ := List.getElem?_eq_some_iff.1 hjm
      have hp := List.pairwise_iff_getElem.1 hg.2
      rcases Nat.lt_or_gt_of_ne hj with hlt | hlt
      · exact hp j i hjl hi hlt (e.trans ht)
      · exact hp i j hi hjl hlt (ht.symm.trans e.symm)
    have e2 : src left t = left[i].fr := by rw [ht]; exact src_of hg.2 hmi
    have h0 := (hg.1 _ hmi).1
    rw [e1, e2, if_pos (by omega), if_neg (by omega)]
    unfold upd
    rw [if_pos ht]
  · by_cases hm : ∃ m ∈ left, m.to = t
    · obtain ⟨m, hm, rfl⟩ := hm
      have hr : m ∈ left.eraseIdx i := (mem_rest hi hm).resolve_left fun e => ht (by rw [e])
      rw [src_of hg.2 hm, src_of hg'.2 hr]
      have h0 := (hg.1 _ hm).1
      rw [if_neg (by omega), if_neg (by omega)]
      unfold upd
      rw [if_neg (hfree m hm)]
    · have e1 : src left t = -1 := src_not fun m h e => hm ⟨m, h, e⟩
      have e2 : src (left.eraseIdx i) t = -1 := src_not fun m h e => hm ⟨m, hs.subset h, e⟩
      rw [e1, e2, if_pos (by omega), if_pos (by omega)]
      unfold upd
      rw [if_neg ht]
theorem emit_run : ∀ (n : Nat) (left out : List Move) (f : Int → Int), GoodM left → ∀ t, onceM (runM f (emit n left out).2) (emit n left out).1 t = onceM (runM f out) left t
  | 0, left, out, f, hg, t => rfl
  | n + 1, left, out, f, hg, t => by
    unfold emit
    split
    · rfl
    · rename_i i hi
      have hlt := freeAt_lt hi
      have hs : (left.eraseIdx i).Sublist left := List.eraseIdx_sublist ..
      rw [emit_run n _ _ f (hg.sub hs) t, List.getElem?_eq_getElem hlt, runM_app]
      exact once_step hg hi hlt (runM f out) t
theorem once_left0 {l : List Move} (hg : GoodM l) (f : Int → Int) (t : Int) : onceM f (left0 l) t = onceM f l t := by
  have hs : (left0 l).Sublist l := List.filter_sublist
  have hg' := hg.sub hs
  have hin : ∀ m ∈ left0 l, m.fr ≠ m.to := fun m hm => by
    unfold left0 at hm
    rw [List.mem_filter] at hm
    simpa using hm.2
  unfold onceM
  by_cases hm : ∃ m ∈ l, m.to = t
  · obtain ⟨m, hm, rfl⟩ := hm
    have h0 := hg.1 _ hm
    rw [src_of hg.2 hm]
    by_cases he : m.fr = m.to
    · have e2 : src (left0 l) m.to = -1 := src_not fun o ho e => by
        have h1 := src_of hg.2 (hs.subset ho)
        rw [e, src_of hg.2 hm] at h1
        exact hin o ho (by omega)
      rw [e2, if_pos (by omega), if_neg (by have := h0.1; omega), he]
    · have hml : m ∈ left0 l := by
        unfold left0
        rw [List.mem_filter]
        exact ⟨hm, by simpa using he⟩
      rw [src_of hg'.2 hml]
  · have e1 : src l t = -1 := src_not fun m h e => hm ⟨m, h, e⟩
    have e2 : src (left0 l) t = -1 := src_not fun m h e => hm ⟨m, hs.subset h, e⟩
    rw [e1, e2]
theorem chain_run : ∀ (xs : List Int) (to : Int) (g : Int → Int), (to :: xs).Nodup → (10 : Int) ∉ to :: xs → (∀ (i : Nat) (y z : Int), (to :: xs)[i]? = some y → (to :: xs ++ [10])[i + 1]? = some z → runM g (chainOf to xs) y = g z) ∧ ∀ y, y ∉ to :: xs → runM g (chainOf to xs) y = g y
  | [], to, g, hd, h10 => by
    refine ⟨fun i y z hy hz => ?_, fun y hy => ?_⟩
    · match i with
      | 0 =>
        simp at hy hz
        subst hy hz
        simp [chainOf, runM, upd]
      | i + 1 => simp at hy
    · simp at hy
      simp [chainOf, runM, upd, hy]
  | x :: r, to, g, hd, h10 => by
    have hd2 := List.nodup_cons.1 hd
    obtain ⟨h1, h2⟩ := chain_run r x (upd g ⟨x, to⟩) hd2.2 (fun h => h10 (List.mem_cons_of_mem _ h))
    refine ⟨fun i y z hy hz => ?_, fun y hy => ?_⟩
    · rw [chainOf, runM_cons]
      match i with
      | 0 =>
        simp at hy hz
        subst hy hz
        rw [h2 _ hd2.1]
        simp [upd]
      | i + 1 =>
        rw [h1 i y z (by simpa using hy) (by simpa using hz)]
        have hz' : z ∈ x :: r ++ [10] := List.mem_of_getElem? (by simpa using hz : (x :: r ++ [10])[i + 1]? = some z)
        have hne : z ≠ to := fun e => by
          subst e
          rcases List.mem_append.1 hz' with h | h
          · exact hd2.1 h
          · simp at h
            subst h
            exact h10 (by simp)
        simp [upd, hne]
    · rw [chainOf, runM_cons, h2 y (fun h => hy (List.mem_cons_of_mem _ h))]
      have hne : y ≠ to := fun e => hy (by simp [e])
      simp [upd, hne]
theorem ring_run {l : List Move} {p : Int} {r : List Int} (h : ringOf l p = some r) (h10 : (10 : Int) ∉ r) (f : Int → Int) (y : Int) (hy : y ≠ 10) : runM f (ringMoves r) y = if y ∈ r then f (src l y) else f y := by
  obtain ⟨t, rfl, ⟨k0, k1, k2⟩, _, hn, hd, _⟩ := ring_is h
  have hmem : ∀ x, x ∈ p :: t.reverse ↔ x ∈ p :: t := fun x => by simp
  rw [hmem] at h10
  obtain ⟨c1, c2⟩ := chain_run t p (upd f ⟨p, 10⟩) hd h10
  rw [ringMoves, List.reverse_reverse, runM_cons]
  by_cases hm : y ∈ p :: t
  · rw [if_pos ((hmem y).2 hm)]
    obtain ⟨i, hi⟩ := List.getElem?_of_mem hm
    have hil := (List.getElem?_eq_some_iff.1 hi).1
    by_cases hlast : i + 1 < (p :: t).length
    · have hz : (p :: t)[i + 1]? = some (p :: t)[i + 1] := List.getElem?_eq_getElem hlast
      rw [c1 i y _ hi (by rw [List.getElem?_append_left hlast]; exact hz), k1 i y _ hi hz]
      have hne : (p :: t)[i + 1] ≠ 10 := fun e => h10 (by rw [← e]; exact List.getElem_mem _)
      simp only [upd, if_neg hne]
    · have e : i + 1 = (p :: t).length := by omega
      rw [c1 i y 10 hi (by rw [e]; simp), k2 y (by rw [← hi]; congr 1; omega)]
      simp [upd]
  · rw [if_neg fun h => hm ((hmem y).1 h), c2 y hm]
    simp [upd, hy]
theorem rings_run {l : List Move} : ∀ (R : List (List Int)) (f : Int → Int), R.flatten.Nodup → (∀ r ∈ R, ∃ p, ringOf l p = some r) → (10 : Int) ∉ R.flatten → ∀ y, y ≠ 10 → runM f (R.flatMap ringMoves) y = if y ∈ R.flatten then f (src l y) else f y
  | [], f, _, _, _, y, _ => by simp [runM]
  | r :: R, f, hd, hr, h10, y, hy => by
    rw [List.flatten_cons] at hd h10 ⊢
    obtain ⟨d1, d2, d3⟩ := List.nodup_append.1 hd
    have n1 : (10 : Int) ∉ r := fun h => h10 (List.mem_append.2 (.inl h))
    have n2 : (10 : Int) ∉ R.flatten := fun h => h10 (List.mem_append.2 (.inr h))
    obtain ⟨p, hp⟩ := hr r (by simp)
    rw [List.flatMap_cons, runM_app, rings_run R _ d2 (fun s hs => hr s (by simp [hs])) n2 y hy]
    by_cases hm : y ∈ R.flatten
    · rw [if_pos hm, if_pos (List.mem_append.2 (.inr hm))]
      obtain ⟨s, hs, hys⟩ := List.mem_flatten.1 hm
      obtain ⟨q, hq⟩ := hr s (by simp [hs])
      obtain ⟨x, hx, _, _, e1, _, _⟩ := ring_nbr hq hys
      have hxR : src l y ∈ R.flatten := List.mem_flatten.2 ⟨s, hs, by rw [e1]; exact hx⟩
      rw [ring_run hp n1 f _ (fun e => n2 (by rw [← e]; exact hxR)), if_neg fun h => d3 _ h _ hxR rfl]
    · rw [if_neg hm, ring_run hp n1 f y hy]
      by_cases hyr : y ∈ r
      · rw [if_pos hyr, if_pos (List.mem_append.2 (.inl hyr))]
      · rw [if_neg hyr, if_neg fun h => (List.mem_append.1 h).elim hyr hm]
/-- Laid moves in turn come to what they come to at once. -/
theorem lay_run {l : List Move} (hg : GoodM l) (f : Int → Int) (t : Int) (ht : t ≠ 10) : runM f (lay l) t = onceM f l t := by
  have hb := laid_bound hg
  have h1 := emit_run (left0 l).length (left0 l) [] f (hg.sub List.filter_sublist) t
  rw [once_left0 hg] at h1
  rw [lay, runM_app, rings_run (l := (laid l).1) _ _ (rings_flat _) (fun r hr => by
    obtain ⟨p, _, h⟩ := rings_mem hr
    exact ⟨p, h⟩) (fun h => by
    have := (hb.src ((rings_ends hb 10).1 h)).2.2.2
    omega) t ht]
  show _ = onceM (runM f []) l t
  rw [← h1]
  show _ = onceM (runM f (laid l).2) (laid l).1 t
  unfold onceM
  by_cases hm : t ∈ ends (laid l).1
  · have h0 := (hb.src (hb.src hm).1).2.2.1
    rw [if_pos ((rings_ends hb t).2 hm), if_neg (by omega)]
  · rw [if_neg fun h => hm ((rings_ends hb t).1 h), if_pos]
    exact Int.not_le.1 fun h => hm (ends_src h)
/-! ### the same over lists -/
def wat (w : List Int) (t : Int) : Int := w.getD t.toNat 0
def atAll (W : List Int) (l : List Move) (w : List Int) : List Int := l.foldl (fun w m => w.set m.to.toNat (wat W m.fr)) w
def turnAll (l : List Move) (w : List Int) : List Int := l.foldl (fun w m => w.set m.to.toNat (wat w m.fr)) w
theorem atAll_len (W : List Int) : ∀ (l : List Move) (w : List Int), (atAll W l w).length = w.length
  | [], w => rfl
  | m :: r, w => by
    show (atAll W r _).length = _
    rw [atAll_len W r]
    simp
theorem turnAll_len : ∀ (l : List Move) (w : List Int), (turnAll l w).length = w.length
  | [], w => rfl
  | m :: r, w => by
    show (turnAll r _).length = _
    rw [turnAll_len r]
    simp
/-- The places of a move, the spare one among them. -/
def In10 (m : Move) : Prop := (0 ≤ m.fr ∧ m.fr ≤ 10) ∧ 0 ≤ m.to ∧ m.to ≤ 10
theorem wat_set {w : List Int} {s t x : Int} (h0 : 0 ≤ t) (h1 : t < w.length) (hs : 0 ≤ s) : wat (w.set t.toNat x) s = if s = t then x else wat w s := by
  unfold wat
  by_cases e : s = t
  · subst e
    rw [if_pos rfl, List.getD_eq_getElem?_getD, List.getElem?_set_self (by omega)]
    rfl
  · rw [if_neg e, List.getD_eq_getElem?_getD, List.getD_eq_getElem?_getD, List.getElem?_set_ne (by omega)]
theorem runM_congr : ∀ (l : List Move) (f g : Int → Int), (∀ m ∈ l, In10 m) → (∀ t, 0 ≤ t → f t = g t) → ∀ t, 0 ≤ t → runM f l t = runM g l t
  | [], f, g, _, h, t, ht => h t ht
  | m :: l, f, g, hm, h, t, ht => by
    rw [runM_cons, runM_cons]
    refine runM_congr l _ _ (fun o ho => hm o (by simp [ho])) (fun s hs => ?_) t ht
    unfold upd
    rw [h _ (hm m (by simp)).1.1, h s hs]
theorem turn_run : ∀ (l : List Move) (w : List Int), (∀ m ∈ l, In10 m) → w.length = 11 → ∀ t, 0 ≤ t → wat (turnAll l w) t = runM (wat w) l t
  | [], w, _, _, t, _ => rfl
  | m :: l, w, hm, hw, t, ht => by
    have h := hm m (by simp)
    show wat (turnAll l (w.set m.to.toNat (wat w m.fr))) t = _
    rw [turn_run l _ (fun o ho => hm o (by simp [ho])) (by simpa using hw) t ht, runM_cons]
    refine runM_congr l _ _ (fun o ho => hm o (by simp [ho])) (fun s hs => ?_) t ht
    rw [wat_set h.2.1 (by have := h.2.2; omega) hs]
    rfl
theorem at_once (W : List Int) : ∀ (l : List Move) (w : List Int), GoodM l → w.length = 11 → ∀ t, 0 ≤ t → wat (atAll W l w) t = if src l t < 0 then wat w t else wat W (src l t)
  | [], w, _, _, t, _ => rfl
  | m :: l, w, hg, hw, t, ht => by
    have h := hg.1 m (by simp)
    have hg' : GoodM l := hg.sub (List.sublist_cons_self m l)
    show wat (atAll W l (w.set m.to.toNat (wat W m.fr))) t = _
    rw [at_once W l _ hg' (by simpa using hw) t ht, src_cons, wat_set h.2.2.1 (by have := h.2.2.2; omega) ht]
    by_cases e : m.to = t
    · have e1 : src l t = -1 := src_not fun o ho e2 => (List.pairwise_cons.1 hg.2).1 o ho (e.trans e2.symm)
      rw [e1, if_pos (by omega), if_pos e.symm, if_pos e, if_neg (by have := h.1; omega)]
    · rw [if_neg e, if_neg fun h : t = m.to => e h.symm]
theorem emit_mem : ∀ (n : Nat) (left out : List Move), ∀ m ∈ (emit n left out).2, m ∈ out ∨ m ∈ left
  | 0, left, out, m, h => .inl h
  | n + 1, left, out, m, h => by
    unfold emit at h
    split at h
    · exact .inl h
    · rename_i i hi
      have hlt := freeAt_lt hi
      rw [List.getElem?_eq_getElem hlt] at h
      rcases emit_mem n _ _ m h with h | h
      · rcases List.mem_append.1 h with h | h
        · exact .inl h
        · simp at h
          subst h
          exact .inr (List.getElem_mem _)
      · exact .inr ((List.eraseIdx_sublist ..).subset h)
theorem chain_mem : ∀ (xs : List Int) (to : Int), ∀ m ∈ chainOf to xs, (m.fr ∈ to :: xs ∨ m.fr = 10) ∧ m.to ∈ to :: xs
  | [], to, m, h => by
    simp [chainOf] at h
    subst h
    simp
  | x :: r, to, m, h => by
    rw [chainOf] at h
    rcases List.mem_cons.1 h with rfl | h
    · simp
    · obtain ⟨h1, h2⟩ := chain_mem r x m h
      exact ⟨h1.elim (fun h => .inl (List.mem_cons_of_mem _ h)) .inr, List.mem_cons_of_mem _ h2⟩
theorem ringMoves_mem (r : List Int) : ∀ m ∈ ringMoves r, (m.fr ∈ r ∨ m.fr = 10) ∧ (m.to ∈ r ∨ m.to = 10) := by
  intro m h
  cases r with
  | nil => simp [ringMoves] at h
  | cons p r =>
    rw [ringMoves] at h
    rcases List.mem_cons.1 h with rfl | h
    · simp
    · obtain ⟨h1, h2⟩ := chain_mem _ p m h
      exact ⟨by simpa using h1, .inl (by simpa using h2)⟩
theorem lay_in {l : List Move} (hg : GoodM l) : ∀ m ∈ lay l, In10 m := by
  intro m hm
  have hb := laid_bound hg
  rw [lay] at hm
  rcases List.mem_append.1 hm with h | h
  · have h2 : m ∈ l := by
      rcases emit_mem _ _ _ m h with h | h
      · simp at h
      · exact (List.filter_sublist (l := l)).subset h
    have := hg.1 m h2
    unfold OkM at this
    unfold In10
    omega
  · obtain ⟨r, hr, h⟩ := List.mem_flatMap.1 h
    have hle : ∀ x ∈ r, 0 ≤ x ∧ x ≤ 9 := fun x hx => (hb.src ((rings_ends hb x).1 (List.mem_flatten.2 ⟨r, hr, hx⟩))).2.2
    obtain ⟨h1, h2⟩ := ringMoves_mem r m h
    unfold In10
    constructor
    · rcases h1 with h1 | h1
      · have := hle _ h1; omega
      · omega
    · rcases h2 with h2 | h2
      · have := hle _ h2; omega
      · omega
theorem lay_few {l : List Move} (hg : GoodM l) : (lay l).length ≤ 40 := by
  have h1 := lay_count hg
  have h2 : (rings l).length ≤ 10 := ringsTo_len _ 10
  have h3 : (left0 l).length ≤ l.length := List.length_filter_le _ _
  have := hg.few
  omega
/-- The first ten places hold the same. -/
theorem turn_lay {l : List Move} {L : List Int} (hg : GoodM l) (hL : L.length = 11) : (turnAll (lay l) L).take 10 = (atAll L l L).take 10 := by
  refine List.ext_getElem (by simp [turnAll_len, atAll_len]) fun i h1 h2 => ?_
  simp only [List.length_take, turnAll_len, hL] at h1
  rw [List.getElem_take, List.getElem_take]
  have e1 := turn_run (lay l) L (lay_in hg) hL i (by omega)
  have e2 := at_once L l L hg hL i (by omega)
  have e3 := lay_run hg (wat L) i (by omega)
  have hw : ∀ (w : List Int) (h : i < w.length), wat w i = w[i] := fun w h => by simp [wat, h]
  rw [hw _ (by rw [turnAll_len]; omega)] at e1
  rw [hw _ (by rw [atAll_len]; omega)] at e2
  rw [e1, e2, e3]
  rfl
end Go.Proofs.Ythihphgfblonoaa.Am
