/- What rings tell of moves. No condition. -/
import Derived.Test.YthihphgfblonoaaLLayMath
namespace Go.Proofs.Ythihphgfblonoaa.Am
open Go Go.RowKit
set_option linter.unusedSimpArgs false
set_option linter.unusedVariables false

theorem src_mem {l : List Move} {t a : Int} (h : src l t = a) (h0 : 0 ≤ a) : ∃ m ∈ l, m.fr = a ∧ m.to = t := by
  unfold src at h
  cases hf : l.find? fun m => m.to == t with
  | none => rw [hf] at h; simp at h; omega
  | some m =>
    rw [hf] at h
    exact ⟨m, List.mem_of_find?_eq_some hf, h, by simpa using List.find?_some hf⟩
theorem src_of {l : List Move} (hg : l.Pairwise fun a b => a.to ≠ b.to) {m : Move} (hm : m ∈ l) : src l m.to = m.fr := by
  obtain ⟨s, t, rfl⟩ := List.append_of_mem hm
  exact src_app (fun a ha => (List.pairwise_append.1 hg).2.2 a ha m (by simp)) rfl
theorem src_not {l : List Move} {t : Int} (h : ∀ m ∈ l, m.to ≠ t) : src l t = -1 := src_none h
/-- Each next one is the source of the one ahead of it. -/
def Links (l : List Move) (b : List Int) (a : Int) : Prop := 0 < b.length ∧ (∀ i x y, b[i]? = some x → b[i + 1]? = some y → src l x = y) ∧ ∀ x, b[b.length - 1]? = some x → src l x = a
theorem Links.next {l : List Move} {b : List Int} {a : Int} (h : Links l b a) : Links l (b ++ [a]) (src l a) := by
  obtain ⟨h0, h1, h2⟩ := h
  refine ⟨by simp, fun i x y hx hy => ?_, fun x hx => ?_⟩
  · by_cases hi : i + 1 < b.length
    · rw [List.getElem?_append_left (by omega)] at hx
      rw [List.getElem?_append_left hi] at hy
      exact h1 i x y hx hy
    · have hlt := (List.getElem?_eq_some_iff.1 hy).1
      simp at hlt
      have e : i + 1 = b.length := by omega
      rw [e] at hy
      simp at hy
      rw [List.getElem?_append_left (by omega)] at hx
      have : i = b.length - 1 := by omega
      rw [this] at hx
      rw [h2 x hx, hy]
  · simp at hx
    rw [← hx]
theorem walk_links (l : List Move) (p : Int) : ∀ (f : Nat) (a : Int) (b : List Int), Links l b a → Links l (walk l p f a b).1 (walk l p f a b).2 ∧ ∃ t, (walk l p f a b).1 = b ++ t ∧ ∀ x ∈ t, p < x
  | 0, a, b, h => ⟨h, [], by simp [walk], by simp⟩
  | f + 1, a, b, h => by
    unfold walk
    split
    · rename_i hp
      obtain ⟨h1, t, h2, h3⟩ := walk_links l p f (src l a) (b ++ [a]) h.next
      refine ⟨h1, a :: t, by rw [h2]; simp, fun x hx => ?_⟩
      rcases List.mem_cons.1 hx with rfl | hx
      · exact hp
      · exact h3 x hx
    · exact ⟨h, [], by simp, by simp⟩
theorem links_one (l : List Move) (p : Int) : Links l [p] (src l p) := ⟨by simp, fun i x y hx hy => by simp at hy, fun x hx => by simp at hx; rw [hx]⟩
theorem loop_nodup {l : List Move} {p : Int} {t : List Int} (h : Links l (p :: t) p) (ht : ∀ x ∈ t, p < x) : (p :: t).Nodup := by
  obtain ⟨_, k1, k2⟩ := h
  have key : ∀ (d i j : Nat) (x : Int), i < j → j + d = t.length → (p :: t)[i]? = some x → (p :: t)[j]? = some x → False := by
    intro d
    induction d with
    | zero =>
      intro i j x hij hj h1 h2
      have e2 := k2 x (by simpa [← hj] using h2)
      obtain ⟨y, hy⟩ : ∃ y, (p :: t)[i + 1]? = some y := ⟨_, List.getElem?_eq_getElem (by simp; omega)⟩
      have e3 := k1 i x y h1 hy
      have := ht y (List.mem_of_getElem? (by simpa using hy : t[i]? = some y))
      omega
    | succ d ih =>
      intro i j x hij hj h1 h2
      obtain ⟨y, hy⟩ : ∃ y, (p :: t)[i + 1]? = some y := ⟨_, List.getElem?_eq_getElem (by simp; omega)⟩
      obtain ⟨z, hz⟩ : ∃ z, (p :: t)[j + 1]? = some z := ⟨_, List.getElem?_eq_getElem (by simp; omega)⟩
      have e1 := k1 i x y h1 hy
      have e2 := k1 j x z h2 hz
      exact ih (i + 1) (j + 1) y (by omega) (by omega) hy (by rw [hz, ← e1, ← e2])
  refine List.pairwise_iff_getElem.2 fun i j hi hj hij e => ?_
  simp only [List.length_cons] at hj
  exact key (t.length - j) i j _ hij (by omega) (List.getElem?_eq_getElem hi) (by rw [e]; exact List.getElem?_eq_getElem (by simpa using hj))
/-- What a ring is: the first, and then the way back from it turned round. -/
theorem ring_is {l : List Move} {p : Int} {r : List Int} (h : ringOf l p = some r) : ∃ t, r = p :: t.reverse ∧ Links l (p :: t) p ∧ (∀ x ∈ t, p < x) ∧ 1 ≤ t.length ∧ (p :: t).Nodup ∧ t.length ≤ 10 := by
  unfold ringOf at h
  split at h
  case isFalse => cases h
  rename_i hc
  cases h
  obtain ⟨hk, t, ht, hlow⟩ := walk_links l p 10 (src l p) [p] (links_one l p)
  have hlen := walk_len l p 10 (src l p) [p]
  generalize (walk l p 10 (src l p) [p]).1 = b at *
  rw [hc.1] at hk
  subst ht
  have hn : 1 ≤ t.length := by have := hc.2; simp at this; omega
  exact ⟨t, by simp [ringAt], hk, hlow, hn, loop_nodup hk hlow, by simp at hlen; omega⟩
theorem ring_src {l : List Move} {p : Int} {r : List Int} (h : ringOf l p = some r) : 2 ≤ r.length ∧ r[0]? = some p ∧ (∀ x ∈ r, p ≤ x) ∧ r.Nodup ∧ ∀ (i : Nat) (x y : Int), r[i]? = some x → r[(i + 1) % r.length]? = some y → src l y = x := by
  obtain ⟨t, rfl, ⟨k0, k1, k2⟩, hlow, hn, hd, _⟩ := ring_is h
  have hlen : (p :: t.reverse).length = t.length + 1 := by simp
  have hlow' : ∀ x ∈ p :: t.reverse, p ≤ x := fun x hx => by
    rcases List.mem_cons.1 hx with rfl | hx
    · exact Int.le_refl _
    · have := hlow x (by simpa using hx); omega
  refine ⟨by rw [hlen]; omega, by simp, hlow', (((List.reverse_perm t).cons p).nodup_iff).2 hd, fun i x y hx hy => ?_⟩
  have hil : i < t.length + 1 := by rw [← hlen]; exact (List.getElem?_eq_some_iff.1 hx).1
  -- where a member lies in the walk
  have pos : ∀ j : Nat, j ≤ t.length → (p :: t.reverse)[j]? = ([p] ++ t)[if j = 0 then 0 else t.length + 1 - j]? := fun j hj => by
    match j with
    | 0 => simp
    | j + 1 =>
      rw [if_neg (by omega)]
      have e : t.length + 1 - (j + 1) = (t.length - 1 - j) + 1 := by omega
      rw [e]
      simp only [List.getElem?_cons_succ, List.singleton_append]
      rw [List.getElem?_reverse (by omega)]
  rw [hlen] at hy
  rw [pos i (by omega)] at hx
  by_cases hlast : i = t.length
  · have e : (i + 1) % (t.length + 1) = 0 := by rw [hlast]; exact Nat.mod_self _
    rw [e, pos 0 (by omega), if_pos rfl] at hy
    rw [if_neg (by omega)] at hx
    have e2 : t.length + 1 - i = 0 + 1 := by omega
    rw [e2] at hx
    exact k1 0 y x hy hx
  · have e : (i + 1) % (t.length + 1) = i + 1 := Nat.mod_eq_of_lt (by omega)
    rw [e, pos (i + 1) (by omega), if_neg (by omega)] at hy
    by_cases h0 : i = 0
    · subst h0
      rw [if_pos rfl] at hx
      have hxp : p = x := by simpa using hx
      have := k2 y (by simpa using hy)
      rw [this, hxp]
    · rw [if_neg h0] at hx
      have e2 : t.length + 1 - i = (t.length + 1 - (i + 1)) + 1 := by omega
      rw [e2] at hx
      exact k1 _ y x hy hx
/-- A ring: two members or more, none below the first, and each goes to the next. -/
theorem ring_tells {l : List Move} {p : Int} (hp : 0 ≤ p) {r : List Int} (h : ringOf l p = some r) (i : Nat) (x y : Int) (hx : r[i]? = some x) (hy : r[(i + 1) % r.length]? = some y) : ∃ m ∈ l, m.fr = x ∧ m.to = y := by
  obtain ⟨_, _, h1, _, h2⟩ := ring_src h
  exact src_mem (h2 i x y hx hy) (Int.le_trans hp (h1 x (List.mem_of_getElem? hx)))
/-- Each member of a ring has one ahead of it and one behind it. -/
theorem ring_nbr {l : List Move} {p : Int} {r : List Int} (h : ringOf l p = some r) {y : Int} (hy : y ∈ r) : ∃ x ∈ r, ∃ z ∈ r, src l y = x ∧ src l z = y ∧ x ≠ y := by
  obtain ⟨h2, _, _, hd, hs⟩ := ring_src h
  obtain ⟨j, hj, rfl⟩ := List.getElem_of_mem hy
  have hm : (j + 1) % r.length < r.length := Nat.mod_lt _ (by omega)
  obtain ⟨i, hi, hij, hne⟩ : ∃ i, i < r.length ∧ (i + 1) % r.length = j ∧ i ≠ j := by
    by_cases h0 : j = 0
    · subst h0
      refine ⟨r.length - 1, by omega, ?_, by omega⟩
      rw [Nat.sub_add_cancel (by omega)]
      exact Nat.mod_self _
    · refine ⟨j - 1, by omega, ?_, by omega⟩
      rw [Nat.sub_add_cancel (by omega)]
      exact Nat.mod_eq_of_lt hj
  refine ⟨r[i], List.getElem_mem _, r[(j + 1) % r.length], List.getElem_mem _, hs i _ _ (List.getElem?_eq_getElem hi) ?_, hs j _ _ (List.getElem?_eq_getElem hj) (List.getElem?_eq_getElem hm), fun e => ?_⟩
  · rw [hij]
    exact List.getElem?_eq_getElem hj
  · have hp := List.pairwise_iff_getElem.1 hd
    rcases Nat.lt_or_gt_of_ne hne with hlt | hlt
    · exact hp i j hi hj hlt e
    · exact hp j i hj hi hlt e.symm
theorem walk_congr {l l' : List Move} {p : Int} : ∀ (f : Nat) (a : Int) (b : List Int), (∀ x ∈ (walk l p f a b).1, src l' x = src l x) → walk l' p f a b = walk l p f a b
  | 0, a, b, h => rfl
  | f + 1, a, b, h => by
    unfold walk at h ⊢
    by_cases hp : p < a
    · rw [if_pos hp] at h
      rw [if_pos hp, if_pos hp]
      have hpre : a ∈ (walk l p f (src l a) (b ++ [a])).1 := by
        have : ∀ (f : Nat) (c : Int) (b : List Int) (x : Int), x ∈ b → x ∈ (walk l p f c b).1 := by
          intro f
          induction f with
          | zero => intro c b x hx; exact hx
          | succ f ih =>
            intro c b x hx
            unfold walk
            split
            · exact ih _ _ _ (by simp [hx])
            · exact hx
        exact this f _ _ _ (by simp)
      rw [h a hpre]
      exact walk_congr f _ _ h
    · rw [if_neg hp, if_neg hp]
theorem ring_congr {l l' : List Move} {p : Int} {r : List Int} (h : ringOf l p = some r) (hs : ∀ x ∈ r, src l' x = src l x) : ringOf l' p = some r := by
  obtain ⟨t, rfl, _⟩ := ring_is h
  unfold ringOf at h ⊢
  split at h
  case isFalse => cases h
  rename_i hc
  obtain ⟨_, t', ht, _⟩ := walk_links l p 10 (src l p) [p] (links_one l p)
  have e : t' = t := by
    have h2 := Option.some.inj h
    rw [ht] at h2
    simpa [ringAt] using h2
  subst e
  have hp : src l' p = src l p := hs p (by simp)
  have hw : walk l' p 10 (src l p) [p] = walk l p 10 (src l p) [p] := walk_congr 10 _ _ fun x hx => by
    rw [ht] at hx
    exact hs x (by simpa using hx)
  rw [hp, hw, if_pos hc]
  exact h
theorem rings_mem {l : List Move} {r : List Int} (h : r ∈ rings l) : ∃ p : Nat, p < 10 ∧ ringOf l p = some r := by
  simp only [rings, ringsTo, List.mem_filterMap, List.mem_map, List.mem_range] at h
  obtain ⟨_, ⟨p, hp, rfl⟩, h⟩ := h
  exact ⟨p, hp, h⟩
theorem mem_rings {l : List Move} {r : List Int} {p : Nat} (hp : p < 10) (h : ringOf l p = some r) : r ∈ rings l := by
  simp only [rings, ringsTo, List.mem_filterMap, List.mem_map, List.mem_range]
  exact ⟨p, ⟨p, hp, rfl⟩, h⟩
theorem fm_congr {f g : Int → Option (List Int)} : ∀ {L : List Int}, (∀ x ∈ L, f x = g x) → L.filterMap f = L.filterMap g
  | [], _ => rfl
  | x :: L, h => by
    rw [List.filterMap_cons, List.filterMap_cons, h x (by simp), fm_congr fun y hy => h y (by simp [hy])]
theorem rings_same {l l' : List Move} (h1 : ∀ (p : Nat) r, ringOf l p = some r → ringOf l' p = some r) (h2 : ∀ (p : Nat) r, ringOf l' p = some r → ringOf l p = some r) : rings l = rings l' := by
  unfold rings ringsTo
  refine fm_congr fun x hx => ?_
  obtain ⟨p, _, rfl⟩ := List.mem_map.1 hx
  cases e : ringOf l p with
  | some r => rw [h1 p r e]
  | none =>
    cases e' : ringOf l' p with
    | none => rfl
    | some r => rw [h2 p r e'] at e; cases e
/-- Fewer moves, but all those of the rings: the same rings. -/
theorem rings_sub {l l' : List Move} (hg : GoodM l) (hl : l'.Sublist l) (hk : ∀ m ∈ l, m.fr ≠ m.to → (∃ o ∈ l, o.fr = m.to) → m ∈ l') : rings l = rings l' := by
  have hg' : l'.Pairwise fun a b => a.to ≠ b.to := hg.2.sublist hl
  have up : ∀ y x, src l' y = x → 0 ≤ x → src l y = x := fun y x h h0 => by
    obtain ⟨m, hm, rfl, rfl⟩ := src_mem h h0
    exact src_of hg.2 (hl.subset hm)
  refine rings_same (fun p r h => ring_congr h fun y hy => ?_) (fun p r h => ring_congr h fun y hy => ?_)
  · obtain ⟨_, _, hlow, _⟩ := ring_src h
    obtain ⟨x, hx, z, hz, e1, e2, hne⟩ := ring_nbr h hy
    have hx0 := hlow x hx
    have hy0 := hlow y hy
    obtain ⟨m, hm, f1, f2⟩ := src_mem e1 (by omega)
    obtain ⟨o, ho, g1, _⟩ := src_mem e2 (by omega)
    rw [e1, ← f2, src_of hg' (hk m hm (by omega) ⟨o, ho, by omega⟩), f1]
  · obtain ⟨_, _, hlow, _⟩ := ring_src h
    obtain ⟨x, hx, z, hz, e1, e2, hne⟩ := ring_nbr h hy
    have hx0 := hlow x hx
    rw [e1, up y x e1 (by omega)]
theorem GoodM.sub {l l' : List Move} (h : GoodM l) (hl : l'.Sublist l) : GoodM l' := ⟨fun a ha => h.1 a (hl.subset ha), h.2.sublist hl⟩
theorem rings_left0 {l : List Move} (hg : GoodM l) : rings l = rings (left0 l) := rings_sub hg List.filter_sublist fun m hm hne _ => by
  unfold left0
  rw [List.mem_filter]
  exact ⟨hm, by simpa using hne⟩
theorem free_of {left : List Move} {i : Nat} (h : freeAt left = some i) : ∃ hi : i < left.length, ∀ o ∈ left, o.fr ≠ left[i].to := by
  obtain ⟨hi, h1, _⟩ := List.findIdx?_eq_some_iff_getElem.1 h
  refine ⟨hi, fun o ho => ?_⟩
  have := List.all_eq_true.1 h1 o ho
  simpa using this
theorem mem_rest {left : List Move} {i : Nat} (hi : i < left.length) {m : Move} (hm : m ∈ left) : m = left[i] ∨ m ∈ left.eraseIdx i := by
  obtain ⟨j, hj, rfl⟩ := List.getElem_of_mem hm
  by_cases e : j = i
  · subst e; exact .inl rfl
  · exact .inr (List.mem_eraseIdx_iff_getElem?.2 ⟨j, e, List.getElem?_eq_getElem hj⟩)
theorem rings_rest {left : List Move} (hg : GoodM left) {i : Nat} (h : freeAt left = some i) : rings left = rings (left.eraseIdx i) := by
  obtain ⟨hi, hfree⟩ := free_of h
  refine rings_sub hg (List.eraseIdx_sublist ..) fun m hm _ ⟨o, ho, e⟩ => ?_
  rcases mem_rest hi hm with rfl | h
  · exact absurd e (hfree o ho)
  · exact h
theorem emit_rings : ∀ (n : Nat) (left out : List Move), GoodM left → rings left = rings (emit n left out).1 ∧ (emit n left out).1.Sublist left
  | 0, left, out, hg => ⟨rfl, List.Sublist.refl _⟩
  | n + 1, left, out, hg => by
    unfold emit
    split
    · exact ⟨rfl, List.Sublist.refl _⟩
    · rename_i i hi
      have hs : (left.eraseIdx i).Sublist left := List.eraseIdx_sublist ..
      obtain ⟨h1, h2⟩ := emit_rings n (left.eraseIdx i) (out ++ left[i]?.toList) (hg.sub hs)
      exact ⟨(rings_rest hg hi).trans h1, h2.trans hs⟩
theorem emit_end : ∀ (n : Nat) (left out : List Move), left.length ≤ n → freeAt (emit n left out).1 = none
  | 0, left, out, h => by
    obtain rfl : left = [] := List.eq_nil_of_length_eq_zero (by omega)
    rfl
  | n + 1, left, out, h => by
    unfold emit
    split
    · assumption
    · rename_i i hi
      exact emit_end n _ _ (by rw [List.length_eraseIdx_of_lt (freeAt_lt hi)]; omega)
/-- Moves of which no end is free, and of which none leads to where it begins. -/
structure Bound (l : List Move) : Prop where
  good : GoodM l
  off : ∀ m ∈ l, m.fr ≠ m.to
  held : ∀ m ∈ l, ∃ o ∈ l, o.fr = m.to
theorem laid_bound {l : List Move} (hg : GoodM l) : Bound (laid l).1 := by
  have hs : (left0 l).Sublist l := List.filter_sublist
  have h1 := emit_rings (left0 l).length (left0 l) [] (hg.sub hs)
  have h2 := emit_end (left0 l).length (left0 l) [] (Nat.le_refl _)
  refine ⟨(hg.sub hs).sub h1.2, fun m hm => ?_, fun m hm => ?_⟩
  · have := h1.2.subset hm
    unfold left0 at this
    rw [List.mem_filter] at this
    simpa using this.2
  · have := List.findIdx?_eq_none_iff.1 h2 m hm
    unfold freeIn at this
    rw [List.all_eq_false] at this
    obtain ⟨o, ho, e⟩ := this
    exact ⟨o, ho, by simpa using e⟩
theorem laid_rings {l : List Move} (hg : GoodM l) : rings l = rings (laid l).1 := (rings_left0 hg).trans (emit_rings _ _ _ (hg.sub List.filter_sublist)).1
theorem perm_of : ∀ (A B : List Int), A.Nodup → (∀ x ∈ A, x ∈ B) → B.length ≤ A.length → B.Perm A
  | [], B, _, _, h => by
    obtain rfl : B = [] := List.eq_nil_of_length_eq_zero (by simpa using h)
    exact List.Perm.refl _
  | a :: A, B, hd, hs, hl => by
    have hp := List.perm_cons_erase (hs a (by simp))
    have hd' := List.nodup_cons.1 hd
    have hlen := hp.length_eq
    simp at hlen hl
    exact hp.trans ((perm_of A (B.erase a) hd'.2 (fun x hx => (List.mem_erase_of_ne (fun e => by subst e; exact hd'.1 hx)).2 (hs x (by simp [hx]))) (by omega)).cons a)
def ends (l : List Move) : List Int := l.map (·.to)
theorem Bound.perm {l : List Move} (h : Bound l) : (l.map (·.fr)).Perm (ends l) := by
  refine perm_of _ _ (List.pairwise_map.2 h.good.2) (fun x hx => ?_) (by simp [ends])
  obtain ⟨m, hm, rfl⟩ := List.mem_map.1 hx
  obtain ⟨o, ho, e⟩ := h.held m hm
  exact List.mem_map.2 ⟨o, ho, e⟩
theorem ends_src {l : List Move} {t : Int} (h : 0 ≤ src l t) : t ∈ ends l := by
  obtain ⟨m, hm, _, e⟩ := src_mem rfl h
  exact List.mem_map.2 ⟨m, hm, e⟩
theorem Bound.src {l : List Move} (h : Bound l) {t : Int} (ht : t ∈ ends l) : src l t ∈ ends l ∧ src l t ≠ t ∧ 0 ≤ t ∧ t ≤ 9 := by
  obtain ⟨m, hm, rfl⟩ := List.mem_map.1 ht
  rw [src_of h.good.2 hm]
  exact ⟨h.perm.subset (List.mem_map.2 ⟨m, hm, rfl⟩), h.off m hm, (h.good.1 m hm).2.2⟩
theorem Bound.inj {l : List Move} (h : Bound l) {s t : Int} (hs : s ∈ ends l) (ht : t ∈ ends l) (e : Am.src l s = Am.src l t) : s = t := by
  obtain ⟨m, hm, rfl⟩ := List.mem_map.1 hs
  obtain ⟨o, ho, rfl⟩ := List.mem_map.1 ht
  rw [src_of h.good.2 hm, src_of h.good.2 ho] at e
  have hd : (l.map (·.fr)).Nodup := h.perm.nodup_iff.2 (List.pairwise_map.2 h.good.2)
  obtain ⟨i, hi, rfl⟩ := List.getElem_of_mem hm
  obtain ⟨j, hj, rfl⟩ := List.getElem_of_mem ho
  have hp := List.pairwise_iff_getElem.1 (List.pairwise_map.1 hd)
  rcases Nat.lt_trichotomy i j with hlt | rfl | hlt
  · exact absurd e (hp i j hi hj hlt)
  · rfl
  · exact absurd e.symm (hp j i hj hi hlt)
/-- Where no walk goes below its beginning, it comes back. -/
theorem walk_back {l : List Move} (h : Bound l) {p : Int} {U : Int → Prop} (hU : ∀ a, U a → U (src l a) ∧ a ∈ ends l ∧ p ≤ a) : ∀ (f : Nat) (a : Int) (b : List Int), b.length + f = 11 → Links l b a → b[0]? = some p → b.Nodup → (∀ x ∈ b, U x) → U a → (walk l p f a b).2 = p
  | 0, a, b, hl, _, _, hd, hb, _ => by
    have := places_few 10 b (fun x hx => by
      have h1 := h.src (hU x (hb x hx)).2.1
      omega) hd
    omega
  | f + 1, a, b, hl, hk, h0, hd, hb, ha => by
    have hle := (hU a ha).2.2
    unfold walk
    by_cases hp : p < a
    · rw [if_pos hp]
      refine walk_back h hU f (src l a) (b ++ [a]) (by simp; omega) hk.next ?_ ?_ (fun x hx => ?_) (hU a ha).1
      · rw [List.getElem?_append_left hk.1]; exact h0
      · refine List.nodup_append.2 ⟨hd, by simp, fun x hx y hy e => ?_⟩
        simp at hy
        subst hy
        subst e
        obtain ⟨i, hi, rfl⟩ := List.getElem_of_mem hx
        obtain ⟨k0, k1, k2⟩ := hk
        have hi0 : i ≠ 0 := fun e => by
          subst e
          rw [List.getElem?_eq_getElem k0] at h0
          have := Option.some.inj h0
          omega
        have hlast : b.length - 1 < b.length := by omega
        have e1 := k1 (i - 1) b[i - 1] b[i] (List.getElem?_eq_getElem (by omega)) (by rw [Nat.sub_add_cancel (by omega)]; exact List.getElem?_eq_getElem hi)
        have e2 := k2 b[b.length - 1] (List.getElem?_eq_getElem hlast)
        have e3 := h.inj (hU _ (hb b[i - 1] (List.getElem_mem _))).2.1 (hU _ (hb b[b.length - 1] (List.getElem_mem _))).2.1 (e1.trans e2.symm)
        exact List.pairwise_iff_getElem.1 hd (i - 1) (b.length - 1) (by omega) hlast (by omega) e3
      · rcases List.mem_append.1 hx with hx | hx
        · exact hb x hx
        · simp at hx; rw [hx]; exact ha
    · rw [if_neg hp]
      show a = p
      omega
/-- Where no end is free, each end is in a ring. -/
theorem in_ring {l : List Move} (h : Bound l) : ∀ (n : Nat), (n : Int) ∈ ends l → ∃ r ∈ rings l, (n : Int) ∈ r := by
  intro n
  induction n using Nat.strongRecOn with
  | ind n ih =>
    intro hn
    refine Classical.byContradiction fun hno => ?_
    have hno : ∀ r ∈ rings l, (n : Int) ∉ r := fun r hr h => hno ⟨r, hr, h⟩
    have hU : ∀ a, (a ∈ ends l ∧ ∀ r ∈ rings l, a ∉ r) → (src l a ∈ ends l ∧ ∀ r ∈ rings l, src l a ∉ r) ∧ a ∈ ends l ∧ (n : Int) ≤ a := by
      rintro a ⟨h1, h2⟩
      refine ⟨⟨(h.src h1).1, fun r hr hm => ?_⟩, h1, ?_⟩
      · obtain ⟨p, hp, he⟩ := rings_mem hr
        obtain ⟨_, _, z, hz, _, e2, _⟩ := ring_nbr he hm
        have h0 := (h.src (h.src h1).1).2.2.1
        have hze : z ∈ ends l := ends_src (by rw [e2]; exact h0)
        exact h2 r hr (h.inj hze h1 e2 ▸ hz)
      · have h0 := (h.src h1).2.2.1
        obtain ⟨k, rfl⟩ := Int.eq_ofNat_of_zero_le h0
        refine Classical.byContradiction fun hlt => ?_
        obtain ⟨r, hr, hm⟩ := ih k (by omega) h1
        exact h2 r hr hm
    have hs := h.src hn
    have hne := hs.2.1
    have hU1 := hU n ⟨hn, hno⟩
    have hb := walk_back h hU 10 (src l n) [(n : Int)] rfl (links_one l n) rfl (by simp) (fun x hx => by simp at hx; rw [hx]; exact ⟨hn, hno⟩) hU1.1
    have hlt : (n : Int) < src l n := by have := (hU _ hU1.1).2.2; omega
    have h2 : 2 ≤ (walk l n 10 (src l n) [(n : Int)]).1.length := by
      rw [walk, if_pos hlt]
      obtain ⟨_, t, ht, _⟩ := walk_links l n 9 (src l (src l n)) ([(n : Int)] ++ [src l n]) (links_one l n).next
      rw [ht]
      simp
    have hr : ringOf l n = some (ringAt n (walk l n 10 (src l n) [(n : Int)]).1) := by rw [ringOf, if_pos ⟨hb, h2⟩]
    have h9 := hs.2.2.2
    exact hno _ (mem_rings (by omega) hr) (by simp [ringAt])
theorem ring_low {l : List Move} {p q : Int} {r s : List Int} (hr : ringOf l p = some r) (hs : ringOf l q = some s) {x : Int} (h1 : x ∈ r) (h2 : x ∈ s) : q ≤ p := by
  obtain ⟨_, h0, _, _, hlink⟩ := ring_src hr
  obtain ⟨_, _, hlow, _⟩ := ring_src hs
  have key : ∀ (j : Nat) (x : Int), r[j]? = some x → x ∈ s → p ∈ s := by
    intro j
    induction j with
    | zero => intro x hx hm; rw [h0] at hx; cases hx; exact hm
    | succ j ih =>
      intro x hx hm
      have hj := (List.getElem?_eq_some_iff.1 hx).1
      obtain ⟨y, hy⟩ : ∃ y, r[j]? = some y := ⟨_, List.getElem?_eq_getElem (by omega)⟩
      have e := hlink j y x hy (by rw [Nat.mod_eq_of_lt hj]; exact hx)
      obtain ⟨z, hz, _, _, e2, _⟩ := ring_nbr hs hm
      exact ih y hy (by rw [← e, e2]; exact hz)
  obtain ⟨j, hj⟩ := List.getElem?_of_mem h1
  exact hlow p (key j x hj h2)
/-- No two rings share a place. -/
theorem rings_flat (l : List Move) : (rings l).flatten.Nodup := by
  refine List.pairwise_flatten.2 ⟨fun r hr => ?_, ?_⟩
  · obtain ⟨p, _, h⟩ := rings_mem hr
    exact (ring_src h).2.2.2.1
  · unfold rings ringsTo
    refine List.pairwise_filterMap.2 (List.pairwise_map.2 (List.Pairwise.imp ?_ List.nodup_range))
    intro p q hne r hr s hs x hx y hy e
    subst e
    have h1 := ring_low hr hs hx hy
    have h2 := ring_low hs hr hy hx
    omega
theorem rings_ends {l : List Move} (h : Bound l) (x : Int) : x ∈ (rings l).flatten ↔ x ∈ ends l := by
  constructor
  · intro hx
    obtain ⟨r, hr, hm⟩ := List.mem_flatten.1 hx
    obtain ⟨p, _, he⟩ := rings_mem hr
    obtain ⟨y, hy, _, _, e1, _, _⟩ := ring_nbr he hm
    have := (ring_src he).2.2.1 y hy
    exact ends_src (by rw [e1]; omega)
  · intro hx
    have h0 := (h.src hx).2.2.1
    obtain ⟨n, rfl⟩ := Int.eq_ofNat_of_zero_le h0
    obtain ⟨r, hr, hm⟩ := in_ring h n hx
    exact List.mem_flatten.2 ⟨r, hr, hm⟩
theorem rings_count {l : List Move} (h : Bound l) : (rings l).flatten.length = l.length := by
  have hd : (ends l).Nodup := List.pairwise_map.2 h.good.2
  have hf := rings_flat l
  have sub : ∀ (A B : List Int), A.Nodup → (∀ x ∈ A, x ∈ B) → A.length ≤ B.length := by
    intro A B hA hs
    refine Classical.byContradiction fun hlt => ?_
    have := (perm_of A B hA hs (by omega)).length_eq
    omega
  have h1 := sub _ _ hd fun x hx => (rings_ends h x).2 hx
  have h2 := sub _ _ hf fun x hx => (rings_ends h x).1 hx
  have : (ends l).length = l.length := by simp [ends]
  omega
theorem flat_moves_len : ∀ (R : List (List Int)), (∀ r ∈ R, 0 < r.length) → (R.flatMap ringMoves).length = R.flatten.length + R.length
  | [], _ => rfl
  | r :: R, h => by
    have h1 := flat_moves_len R fun s hs => h s (by simp [hs])
    have h2 := h r (by simp)
    have h3 : (ringMoves r).length = r.length + 1 := by
      cases r with
      | nil => simp at h2
      | cons p r => simp [ringMoves, chainOf_len]
    simp [List.flatMap_cons, h1, h3]
    omega
/-- As many moves are laid as lead elsewhere, and one more for each ring. -/
theorem lay_count {l : List Move} (hg : GoodM l) : (lay l).length = (left0 l).length + (rings l).length := by
  have h1 := laid_bound hg
  have h2 := rings_count h1
  have h3 := flat_moves_len (rings (laid l).1) fun r hr => by
    obtain ⟨p, _, he⟩ := rings_mem hr
    have := (ring_src he).1
    omega
  have h4 := (emit_len (left0 l).length (left0 l) []).1
  rw [lay, List.length_append, h3, h2, ← laid_rings hg]
  unfold laid
  simp at h4
  omega
end Go.Proofs.Ythihphgfblonoaa.Am
