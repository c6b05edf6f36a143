/- What is needed ahead of every block of a flow: the plain law of how it is reckoned. No condition. -/
import Derived.Test.YtdbnokeegocpbaaLBack
import Derived.Test.YtdbnokeegocpbaaLFlow
namespace Go.Proofs.Ytdbnokeegocpbaa.Am
open Go Go.RowKit
set_option linter.unusedSimpArgs false
set_option linter.unusedVariables false

def behS (b : Bk) (Ls : List (List Int)) (n : Int) : Prop := (0 ≤ b.thn ∧ n ∈ Ls.getD b.thn.toNat []) ∨ (0 ≤ b.els ∧ n ∈ Ls.getD b.els.toNat []) ∨ (b.thn ≠ b.els ∧ n = b.test)
noncomputable def nextN (plain : Bool) (b : Bk) (Ls : List (List Int)) : List Int := setN (codeS b.code plain (behS b Ls))
noncomputable def goR (plain : Bool) : List Bk → Nat → List (List Int) → List (List Int)
  | [], _, Ls => Ls
  | b :: r, i, Ls => goR plain r (i + 1) (Ls.set i (nextN plain b Ls))
def total (Ls : List (List Int)) : Nat := (Ls.map List.length).sum
theorem BackS.mono {x : Ins} {plain : Bool} {S S' : Int → Prop} (h : ∀ n, S n → S' n) (n : Int) : BackS x plain S n → BackS x plain S' n := by
  rintro (⟨h1, h2⟩ | ⟨h1, h2⟩)
  · exact .inl ⟨h n h1, h2⟩
  · exact .inr ⟨h1.elim .inl fun h1 => h1.elim (fun h1 => .inr (.inl (h _ h1))) fun h1 => .inr (.inr h1), h2⟩
theorem codeS_mono {plain : Bool} {S S' : Int → Prop} (h : ∀ n, S n → S' n) : ∀ (l : List Ins) (n : Int), codeS l plain S n → codeS l plain S' n
  | [] => h
  | x :: l => BackS.mono (codeS_mono h l)
theorem nextN_mono {plain : Bool} {b : Bk} {Ls Ls' : List (List Int)} (h : ∀ k n, n ∈ Ls.getD k [] → n ∈ Ls'.getD k []) (n : Int) (hn : n ∈ nextN plain b Ls) : n ∈ nextN plain b Ls' := by
  unfold nextN at hn ⊢
  rw [mem_setN] at hn ⊢
  refine ⟨hn.1, codeS_mono (fun m hm => ?_) _ _ hn.2⟩
  rcases hm with ⟨h1, h2⟩ | ⟨h1, h2⟩ | h1
  · exact .inl ⟨h1, h _ _ h2⟩
  · exact .inr (.inl ⟨h1, h _ _ h2⟩)
  · exact .inr (.inr h1)
theorem sub_len {L L' : List Int} (h1 : Srt L) (h2 : Srt L') (h : ∀ n ∈ L, n ∈ L') : L.length ≤ L'.length ∧ (L'.length = L.length → L' = L) := by
  have e : L = L'.filter fun n => decide (n ∈ L) := srt_ext h1 (h2.filter _) fun n => by
    simp only [List.mem_filter, decide_eq_true_eq]
    exact ⟨fun hn => ⟨h n hn, hn⟩, fun hn => hn.2⟩
  have hl := List.length_filter_le (fun n => decide (n ∈ L)) L'
  rw [← e] at hl
  refine ⟨hl, fun he => ?_⟩
  have : (L'.filter fun n => decide (n ∈ L)).length = L'.length := by rw [← e]; exact he.symm
  rw [List.length_filter_eq_length_iff] at this
  exact srt_ext h2 h1 fun n => ⟨fun hn => by simpa using this n hn, fun hn => h n hn⟩
theorem total_set : ∀ (Ls : List (List Int)) (k : Nat) (x : List Int), k < Ls.length → total (Ls.set k x) + (Ls.getD k []).length = total Ls + x.length
  | [], k, x, h => by simp at h
  | L :: Ls, 0, x, _ => by simp [total]; omega
  | L :: Ls, k + 1, x, h => by
    have := total_set Ls k x (by simpa using h)
    simp [total] at this ⊢
    omega
theorem total_le : ∀ (Ls : List (List Int)), (∀ L ∈ Ls, GoodN L) → total Ls ≤ 8 * Ls.length
  | [], _ => by simp [total]
  | L :: Ls, h => by
    have h1 := total_le Ls fun M hM => h M (by simp [hM])
    have h2 := goodN_few (h L (by simp))
    simp [total] at h1 ⊢
    omega
structure Upp (plain : Bool) (f : List Bk) (Ls : List (List Int)) : Prop where
  len : Ls.length = f.length
  good : ∀ L ∈ Ls, GoodN L
  up : ∀ (k : Nat) (b : Bk), f[k]? = some b → ∀ n ∈ Ls.getD k [], n ∈ nextN plain b Ls
theorem getD_good {Ls : List (List Int)} (h : ∀ L ∈ Ls, GoodN L) (k : Nat) : GoodN (Ls.getD k []) := by
  rw [List.getD_eq_getElem?_getD]
  cases e : Ls[k]? with
  | none => exact ⟨by simp, by simp⟩
  | some L => exact h L (List.mem_of_getElem? e)
def Grown (Ls0 Ls : List (List Int)) (t : Bool) : Prop := (t = false ∧ Ls = Ls0) ∨ (t = true ∧ total Ls0 < total Ls)
theorem getD_set (Ls : List (List Int)) (i k : Nat) (x : List Int) (h : i < Ls.length) : (Ls.set i x).getD k [] = if i = k then x else Ls.getD k [] := by
  rw [List.getD_eq_getElem?_getD, List.getD_eq_getElem?_getD, List.getElem?_set]
  by_cases e : i = k
  · subst e; simp [h]
  · simp [e]
theorem Upp.step {plain : Bool} {f : List Bk} {Ls : List (List Int)} (h : Upp plain f Ls) {k : Nat} {b : Bk} (hb : f[k]? = some b) :
    Upp plain f (Ls.set k (nextN plain b Ls)) ∧ ((nextN plain b Ls).length = (Ls.getD k []).length → nextN plain b Ls = Ls.getD k []) ∧ ∀ Ls0 t, Grown Ls0 Ls t → Grown Ls0 (Ls.set k (nextN plain b Ls)) (t || decide (nextN plain b Ls ≠ Ls.getD k [])) := by
  have hk : k < Ls.length := by rw [h.len]; exact (List.getElem?_eq_some_iff.1 hb).1
  have hg := getD_good h.good k
  have hn : GoodN (nextN plain b Ls) := setN_good _
  obtain ⟨s1, s2⟩ := sub_len hg.2 hn.2 (h.up k b hb)
  have hsub : ∀ j n, n ∈ Ls.getD j [] → n ∈ (Ls.set k (nextN plain b Ls)).getD j [] := fun j n hj => by
    rw [getD_set _ _ _ _ hk]
    split
    · rename_i e; subst e; exact h.up k b hb n hj
    · exact hj
  refine ⟨⟨by simp [h.len], fun L hL => ?_, fun j c hc n hj => ?_⟩, s2, fun Ls0 t ht => ?_⟩
  · rcases List.mem_or_eq_of_mem_set hL with hL | rfl
    · exact h.good L hL
    · exact hn
  · rw [getD_set _ _ _ _ hk] at hj
    split at hj
    · rename_i e
      subst e
      rw [hb] at hc
      cases hc
      exact nextN_mono hsub n hj
    · exact nextN_mono hsub n (h.up j c hc n hj)
  · have ht2 := total_set Ls k (nextN plain b Ls) hk
    by_cases e : nextN plain b Ls = Ls.getD k []
    · have : Ls.set k (nextN plain b Ls) = Ls := by
        rw [e]
        apply List.ext_getElem?
        intro i
        rw [List.getElem?_set]
        by_cases hi : k = i
        · subst hi
          rw [List.getD_eq_getElem?_getD, List.getElem?_eq_getElem hk]
          simp [hk]
        · simp [hi]
      rw [this]
      simpa [e] using ht
    · refine .inr ⟨by rw [decide_eq_true (show nextN plain b Ls ≠ Ls.getD k [] from e)]; simp, ?_⟩
      have hne : (Ls.getD k []).length < (nextN plain b Ls).length := Nat.lt_of_le_of_ne s1 fun h => e (s2 h.symm)
      rcases ht with ⟨_, rfl⟩ | ⟨_, ht⟩ <;> omega
theorem goR_upp {plain : Bool} {f : List Bk} : ∀ (r p : List Bk) (Ls : List (List Int)), f = p ++ r → Upp plain f Ls → Upp plain f (goR plain r p.length Ls)
  | [], p, Ls, _, h => h
  | b :: r, p, Ls, e, h => by
    have hb : f[p.length]? = some b := by simp [e]
    have := goR_upp r (p ++ [b]) _ (by simp [e]) (h.step hb).1
    simpa [goR] using this
theorem post_zero (plain : Bool) (f : List Bk) : Upp plain f (List.replicate f.length []) := by
  refine ⟨by simp, fun L hL => ?_, fun k b hb n hn => ?_⟩
  · rw [List.eq_of_mem_replicate hL]; exact ⟨by simp, by simp⟩
  · rw [List.getD_eq_getElem?_getD, List.getElem?_replicate] at hn
    split at hn <;> simp at hn
open Classical in
noncomputable def iter (plain : Bool) (f : List Bk) : Nat → List (List Int) → List (List Int)
  | 0, Ls => Ls
  | m + 1, Ls => if goR plain f 0 Ls = Ls then Ls else iter plain f m (goR plain f 0 Ls)
theorem iter_same {plain : Bool} {f : List Bk} {Ls Ls' : List (List Int)} (m : Nat) (h : Grown Ls Ls' false) (e : goR plain f 0 Ls = Ls') : iter plain f (m + 1) Ls = Ls := by
  rcases h with ⟨_, h⟩ | ⟨h, _⟩
  · subst h
    unfold iter
    rw [if_pos e]
  · cases h
theorem iter_more {plain : Bool} {f : List Bk} {Ls Ls' : List (List Int)} (m : Nat) (h : Grown Ls Ls' true) (e : goR plain f 0 Ls = Ls') : iter plain f (m + 1) Ls = iter plain f m Ls' := by
  rcases h with ⟨h, _⟩ | ⟨_, h⟩
  · cases h
  · rw [iter, if_neg, e]
    intro h2
    rw [← e, h2] at h
    omega
theorem iter_upp {plain : Bool} {f : List Bk} : ∀ (m : Nat) (Ls : List (List Int)), Upp plain f Ls → Upp plain f (iter plain f m Ls)
  | 0, Ls, h => h
  | m + 1, Ls, h => by
    unfold iter
    split
    · exact h
    · exact iter_upp m _ (goR_upp f [] Ls rfl h)
/-- What is needed ahead of every block. -/
noncomputable def alive (plain : Bool) (f : List Bk) : List (List Int) := iter plain f (8 * f.length + 1) (List.replicate f.length [])
theorem alive_upp (plain : Bool) (f : List Bk) : Upp plain f (alive plain f) := iter_upp _ _ (post_zero plain f)
end Go.Proofs.Ytdbnokeegocpbaa.Am
