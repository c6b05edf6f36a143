/- Schedules: what bounds them (Graham). No condition. -/
import Derived.Test.YtcadaadoodpnmaaLListFn
import Derived.Test.YtcadaadoodpnmaaLRanksFn
namespace Go.Proofs.Ytcadaadoodpnmaa.Am
open Go Go.RowKit
set_option linter.unusedSimpArgs false
set_option linter.unusedVariables false

/-! ### ranks -/
theorem most_nonneg (i : Int) : ∀ (r : List Task) (o : List Int), 0 ≤ most i r o
  | [], _ => by simp [most]
  | _ :: _, [] => by simp [most]
  | t :: r, x :: o => by
    have := most_nonneg i r o
    unfold most
    split <;> omega
theorem most_ge (i : Int) : ∀ (r : List Task) (o : List Int) (j : Nat) (t : Task) (x : Int), r[j]? = some t → o[j]? = some x → i ∈ t.after → x ≤ most i r o
  | [], _, _, _, _, h, _, _ => by simp at h
  | _ :: _, [], _, _, _, _, h, _ => by simp at h
  | t :: r, x :: o, 0, t', x', h1, h2, h3 => by
    simp at h1 h2
    subst h1 h2
    rw [most, if_pos h3]
    omega
  | t :: r, x :: o, j + 1, t', x', h1, h2, h3 => by
    have := most_ge i r o j t' x' (by simpa using h1) (by simpa using h2) h3
    unfold most
    split <;> omega
theorem most_is (i : Int) : ∀ (r : List Task) (o : List Int), most i r o = 0 ∨ ∃ (j : Nat) (t : Task) (x : Int), r[j]? = some t ∧ o[j]? = some x ∧ i ∈ t.after ∧ most i r o = x
  | [], _ => by simp [most]
  | _ :: _, [] => by simp [most]
  | t :: r, x :: o => by
    by_cases h : i ∈ t.after
    · rw [most, if_pos h]
      by_cases hx : most i r o ≤ x
      · exact .inr ⟨0, t, x, rfl, rfl, h, by omega⟩
      · rcases most_is i r o with h0 | ⟨j, t', x', h1, h2, h3, h4⟩
        · have : max x (most i r o) = 0 := by omega
          exact .inl this
        · exact .inr ⟨j + 1, t', x', by simpa using h1, by simpa using h2, h3, by omega⟩
    · rw [most, if_neg h]
      rcases most_is i r o with h0 | ⟨j, t', x', h1, h2, h3, h4⟩
      · exact .inl h0
      · exact .inr ⟨j + 1, t', x', by simpa using h1, by simpa using h2, h3, h4⟩
theorem rks_drop : ∀ (k i : Nat) (r : List Task), (rks i r).drop k = rks (i + k) (r.drop k)
  | 0, i, r => by simp
  | k + 1, i, [] => by simp [rks]
  | k + 1, i, t :: r => by
    rw [rks, List.drop_succ_cons, List.drop_succ_cons, rks_drop k (i + 1) r, Nat.add_assoc, Nat.add_comm 1 k]
def rk (l : List Task) (i : Nat) : Int := stt (rks 0 l) i
theorem rk_eq {l : List Task} {i : Nat} (h : i < l.length) : rk l i = lng l i + most i (l.drop (i + 1)) ((rks 0 l).drop (i + 1)) := by
  have h1 : (rks 0 l).drop i = rks i (l.drop i) := by rw [rks_drop, Nat.zero_add]
  rw [List.drop_eq_getElem_cons h, rks] at h1
  have h2 : (rks 0 l)[i]? = some (l[i].long + most i (l.drop (i + 1)) (rks (i + 1) (l.drop (i + 1)))) := by
    have := congrArg (·[0]?) h1
    simpa using this
  have h3 : (rks 0 l).drop (i + 1) = rks (i + 1) (l.drop (i + 1)) := by rw [rks_drop, Nat.zero_add]
  rw [rk, stt_of h2, h3]
  simp [lng, List.getElem?_eq_getElem h]
theorem rk_low {l : List Task} {i : Nat} (h : i < l.length) : lng l i ≤ rk l i := by
  rw [rk_eq h]
  have := most_nonneg i (l.drop (i + 1)) ((rks 0 l).drop (i + 1))
  omega
theorem rk_ge {l : List Task} {i j : Nat} (h : i < j) (hj : j < l.length) (ha : (i : Int) ∈ aft l j) : lng l i + rk l j ≤ rk l i := by
  rw [rk_eq (by omega : i < l.length)]
  obtain ⟨t, h1, _, h3⟩ := lng_get hj
  have h4 : (rks 0 l)[j]? = some (rk l j) := stt_get (by simp; omega)
  have := most_ge i (l.drop (i + 1)) ((rks 0 l).drop (i + 1)) (j - (i + 1)) t (rk l j) (by rw [List.getElem?_drop]; rw [← h1]; congr 1; omega) (by rw [List.getElem?_drop]; rw [← h4]; congr 1; omega) (by rw [← h3]; exact ha)
  omega
theorem rk_is {l : List Task} {i : Nat} (h : i < l.length) : rk l i = lng l i ∨ ∃ j, i < j ∧ j < l.length ∧ (i : Int) ∈ aft l j ∧ rk l i = lng l i + rk l j := by
  rw [rk_eq h]
  rcases most_is i (l.drop (i + 1)) ((rks 0 l).drop (i + 1)) with h0 | ⟨j, t, x, h1, h2, h3, h4⟩
  · exact .inl (by omega)
  · rw [List.getElem?_drop] at h1 h2
    have hj := (List.getElem?_eq_some_iff.1 h1).1
    refine .inr ⟨i + 1 + j, by omega, hj, ?_, ?_⟩
    · simpa [aft, h1] using h3
    · rw [h4, rk, stt_of h2]
def chain (l : List Task) : Int := (rks 0 l).foldl max 0
theorem foldl_max (b : Int) : ∀ (l : List Int) (a : Int), a ≤ b → (∀ x ∈ l, x ≤ b) → l.foldl max a ≤ b
  | [], _, h, _ => h
  | x :: l, a, h, hl => foldl_max b l _ (by have := hl x (by simp); omega) fun y hy => hl y (by simp [hy])
theorem foldl_max_ge : ∀ (l : List Int) (a : Int), a ≤ l.foldl max a ∧ ∀ x ∈ l, x ≤ l.foldl max a
  | [], a => ⟨Int.le_refl _, by simp⟩
  | x :: l, a => by
    obtain ⟨h1, h2⟩ := foldl_max_ge l (max a x)
    refine ⟨by simp only [List.foldl_cons]; omega, fun y hy => ?_⟩
    simp only [List.foldl_cons]
    rcases List.mem_cons.1 hy with rfl | hy
    · omega
    · exact h2 y hy
theorem chain_ge {l : List Task} {i : Nat} (h : i < l.length) : rk l i ≤ chain l := (foldl_max_ge _ _).2 _ (List.mem_of_getElem? (stt_get (by simpa using h) : (rks 0 l)[i]? = some (rk l i)))
theorem chain_nonneg (l : List Task) : 0 ≤ chain l := (foldl_max_ge _ _).1
theorem chain_le {l : List Task} {T : Int} (h0 : 0 ≤ T) (h : ∀ i, i < l.length → rk l i ≤ T) : chain l ≤ T := foldl_max T _ _ h0 fun x hx => by
  obtain ⟨i, hi⟩ := List.mem_iff_getElem?.1 hx
  have h1 := (List.getElem?_eq_some_iff.1 hi).1
  have := h i (by simpa using h1)
  rw [rk, stt_of hi] at this
  exact this
def work (l : List Task) : Int := (l.map (·.long)).sum
theorem work_cons (t : Task) (l : List Task) : work (t :: l) = t.long + work l := by simp [work]
theorem work_nonneg {l : List Task} (h : ∀ t ∈ l, 1 ≤ t.long) : 0 ≤ work l := by
  induction l with
  | nil => simp [work]
  | cons t l ih =>
    have := ih fun t ht => h t (by simp [ht])
    have := h t (by simp)
    rw [work_cons]
    omega
theorem rks_work : ∀ (r : List Task) (i : Nat), (∀ t ∈ r, 1 ≤ t.long) → (∀ x ∈ rks i r, x ≤ work r)
  | [], i, _, x, hx => by simp [rks] at hx
  | t :: r, i, h, x, hx => by
    have ih := rks_work r (i + 1) fun t ht => h t (by simp [ht])
    have h0 := work_nonneg (l := r) fun t ht => h t (by simp [ht])
    have h1 := h t (by simp)
    rw [work_cons]
    rw [rks] at hx
    rcases List.mem_cons.1 hx with rfl | hx
    · rcases most_is i r (rks (i + 1) r) with h | ⟨j, t', x', _, h2, _, h4⟩
      · omega
      · have := ih x' (List.mem_of_getElem? h2)
        omega
    · have := ih x hx
      omega
/-! ### sums over moments -/
def tot (f : Nat → Nat) : Nat → Nat
  | 0 => 0
  | T + 1 => tot f T + f T
theorem tot_add (f g : Nat → Nat) : ∀ T, tot (fun t => f t + g t) T = tot f T + tot g T
  | 0 => rfl
  | T + 1 => by simp only [tot, tot_add f g T]; omega
theorem tot_zero : ∀ T, tot (fun _ => 0) T = 0
  | 0 => rfl
  | T + 1 => by simp only [tot, tot_zero T]
theorem tot_one (s d : Nat) : ∀ T, tot (fun t => if s ≤ t ∧ t < s + d then 1 else 0) T = if T ≤ s then 0 else if T ≤ s + d then T - s else d
  | 0 => by simp [tot]
  | T + 1 => by
    simp only [tot, tot_one s d T]
    repeat' split
    all_goals omega
theorem tot_flat (f : Nat → Nat) (a : Nat) : ∀ b, a ≤ b → (∀ t, a ≤ t → t < b → f t = 0) → tot f b = tot f a
  | 0, h, _ => by obtain rfl : a = 0 := by omega
                  rfl
  | b + 1, h, hf => by
    by_cases e : a = b + 1
    · rw [e]
    · rw [tot, hf b (by omega) (by omega), tot_flat f a b (by omega) fun t h1 h2 => hf t h1 (by omega)]
      rfl
theorem tot_more (f : Nat → Nat) (hf : ∀ t, f t ≤ 1) (a : Nat) : ∀ d, tot f (a + d) ≤ tot f a + d
  | 0 => Nat.le_refl _
  | d + 1 => by
    have := tot_more f hf a d
    have := hf (a + d)
    rw [← Nat.add_assoc, tot]
    omega
theorem ons_cons (p : Task × Int) (z : Ts) (m : Int) : ons (p :: z) m = ons z m + if 0 ≤ p.2 ∧ p.2 ≤ m ∧ m < p.2 + p.1.long then 1 else 0 := by
  simp only [ons, List.countP_cons, decide_eq_true_eq]
theorem tot_ons (T : Nat) : ∀ (z : Ts), (∀ p ∈ z, 0 ≤ p.2 ∧ 1 ≤ p.1.long ∧ p.2 + p.1.long ≤ T) → (tot (fun t => ons z t) T : Int) = work (z.map (·.1))
  | [], _ => by
    have : (fun t : Nat => ons ([] : Ts) t) = fun _ => 0 := rfl
    rw [this, tot_zero]
    rfl
  | p :: z, h => by
    have ih := tot_ons T z fun q hq => h q (by simp [hq])
    obtain ⟨h1, h2, h3⟩ := h p (by simp)
    have e : (fun t : Nat => ons (p :: z) t) = fun t : Nat => ons z t + if p.2.toNat ≤ t ∧ t < p.2.toNat + p.1.long.toNat then 1 else 0 := by
      funext t
      rw [ons_cons]
      congr 1
      by_cases c : p.2.toNat ≤ t ∧ t < p.2.toNat + p.1.long.toNat
      · rw [if_pos c, if_pos (by omega)]
      · rw [if_neg c, if_neg (by omega)]
    rw [e, tot_add, tot_one, List.map_cons, work_cons, if_neg (by omega)]
    split <;> omega
end Go.Proofs.Ytcadaadoodpnmaa.Am
