/- Flows without what does nothing: they tell the same, and nothing more is dead in them. No condition. -/
import Derived.Test.YtdbnokeegocpbaaLDrop
import Derived.Test.YtdbnokeegocpbaaLRunMath
namespace Go.Proofs.Ytdbnokeegocpbaa.Am
open Go Go.RowKit
set_option linter.unusedSimpArgs false
set_option linter.unusedVariables false

/-! ### the least sets -/
theorem goR_still {plain : Bool} {f : List Bk} : ∀ (r p : List Bk) (Ls : List (List Int)), f = p ++ r → Upp plain f Ls → total Ls ≤ total (goR plain r p.length Ls) ∧ (total (goR plain r p.length Ls) = total Ls → goR plain r p.length Ls = Ls ∧ ∀ (i : Nat) (b : Bk), r[i]? = some b → nextN plain b Ls = Ls.getD (p.length + i) [])
  | [], p, Ls, _, _ => ⟨Nat.le_refl _, fun _ => ⟨rfl, fun i b h => by simp at h⟩⟩
  | b :: r, p, Ls, e, h => by
    have hb : f[p.length]? = some b := by simp [e]
    obtain ⟨s1, s2, s3⟩ := h.step hb
    obtain ⟨i1, i2⟩ := goR_still r (p ++ [b]) _ (by simp [e]) s1
    have e1 : (p ++ [b]).length = p.length + 1 := by simp
    rw [e1] at i1 i2
    have g := s3 Ls false (.inl ⟨rfl, rfl⟩)
    rw [Bool.false_or] at g
    simp only [goR]
    by_cases e2 : nextN plain b Ls = Ls.getD p.length []
    · rw [decide_eq_false (by simp [e2])] at g
      rcases g with ⟨_, g⟩ | ⟨g, _⟩
      · rw [g] at i1 i2 ⊢
        refine ⟨i1, fun hs => ⟨(i2 hs).1, fun i c hc => ?_⟩⟩
        cases i with
        | zero => simp at hc; subst hc; simpa using e2
        | succ i =>
          have := (i2 hs).2 i c (by simpa using hc)
          have e3 : p.length + (i + 1) = p.length + 1 + i := by omega
          rw [e3]
          exact this
      · cases g
    · rw [decide_eq_true (by simpa using e2)] at g
      rcases g with ⟨g, _⟩ | ⟨_, g⟩
      · cases g
      · exact ⟨by omega, fun hs => by omega⟩
theorem iter_fix {plain : Bool} {f : List Bk} : ∀ (m : Nat) (Ls : List (List Int)), Upp plain f Ls → 8 * f.length - total Ls < m → goR plain f 0 (iter plain f m Ls) = iter plain f m Ls
  | 0, Ls, _, h => by omega
  | m + 1, Ls, hu, hm => by
    unfold iter
    split
    · rename_i h; exact h
    · rename_i h
      have hu2 := goR_upp f [] Ls rfl hu
      obtain ⟨g1, g2⟩ := goR_still f [] Ls rfl hu
      simp only [List.length_nil, Nat.zero_add] at g1 g2 hu2
      have hlt : total Ls < total (goR plain f 0 Ls) := Nat.lt_of_le_of_ne g1 fun e => h (g2 e.symm).1
      have hle := total_le _ hu2.good
      rw [hu2.len] at hle
      simp only [List.nil_append] at hle
      exact iter_fix m _ hu2 (by omega)
theorem alive_fix {plain : Bool} {f : List Bk} {k : Nat} {b : Bk} (hb : f[k]? = some b) : nextN plain b (alive plain f) = (alive plain f).getD k [] := by
  have h := iter_fix (plain := plain) (f := f) (8 * f.length + 1) _ (post_zero plain f) (by omega)
  obtain ⟨_, g2⟩ := goR_still f [] (alive plain f) rfl (alive_upp plain f)
  simp only [List.length_nil, Nat.zero_add] at g2
  have h' : goR plain f 0 (alive plain f) = alive plain f := h
  have := (g2 (by rw [h'])).2 k b hb
  exact this
def SubL (Ls Ms : List (List Int)) : Prop := ∀ k n, n ∈ Ls.getD k [] → n ∈ Ms.getD k []
theorem alive_least {plain : Bool} {f : List Bk} {X : List (List Int)} (hX : ∀ (k : Nat) (b : Bk), f[k]? = some b → ∀ n ∈ nextN plain b X, n ∈ X.getD k []) : SubL (alive plain f) X := by
  have go : ∀ (r p : List Bk) (Ls : List (List Int)), f = p ++ r → Ls.length = f.length → SubL Ls X → SubL (goR plain r p.length Ls) X ∧ (goR plain r p.length Ls).length = f.length := by
    intro r
    induction r with
    | nil => exact fun p Ls _ hl h => ⟨h, hl⟩
    | cons b r ih =>
      intro p Ls e hl h
      have := ih (p ++ [b]) (Ls.set p.length (nextN plain b Ls)) (by simp [e]) (by simp [hl]) ?_
      · simpa [goR] using this
      intro k n hn
      have hpl : p.length < Ls.length := by rw [hl, e]; simp
      rw [getD_set _ _ _ _ hpl] at hn
      split at hn
      · rename_i ek
        subst ek
        exact hX p.length b (by rw [e]; simp) n (nextN_mono h n hn)
      · exact h k n hn
  have it : ∀ (m : Nat) (Ls : List (List Int)), Ls.length = f.length → SubL Ls X → SubL (iter plain f m Ls) X := by
    intro m
    induction m with
    | zero => exact fun Ls _ h => h
    | succ m ih =>
      intro Ls hl h
      unfold iter
      split
      · exact h
      · have := go f [] Ls rfl hl h
        exact ih _ this.2 this.1
  refine it _ _ (by simp) fun k n hn => ?_
  rw [List.getD_eq_getElem?_getD, List.getElem?_replicate] at hn
  split at hn <;> simp at hn
theorem BackS.weak {x : Ins} {S : Int → Prop} (n : Int) (h : BackS x false S n) : BackS x true S n := by
  rcases h with h | ⟨h1, h2⟩
  · exact .inl h
  · exact .inr ⟨.inr (.inr rfl), h2⟩
theorem codeS_weak {S : Int → Prop} : ∀ (l : List Ins) (n : Int), codeS l false S n → codeS l true S n
  | [], n, h => h
  | x :: l, n, h => BackS.weak n (BackS.mono (codeS_weak l) n h)
theorem strong_plain (f : List Bk) : SubL (alive false f) (alive true f) := alive_least fun k b hb n hn => by
  rw [← alive_fix hb]
  unfold nextN at hn ⊢
  rw [mem_setN] at hn ⊢
  exact ⟨hn.1, codeS_weak _ _ hn.2⟩
/-! ### code without what does nothing -/
theorem codeS_cons (x : Ins) (l : List Ins) (plain : Bool) (S : Int → Prop) : codeS (x :: l) plain S = BackS x plain (codeS l plain S) := rfl
def DeadI (x : Ins) (l : List Ins) (S : Int → Prop) : Prop := x.op ≠ 8 ∧ ¬ codeS l false S x.dst
open Classical in
noncomputable def keepS (S : Int → Prop) : List Ins → List Ins
  | [] => []
  | x :: l => if DeadI x l S then keepS S l else x :: keepS S l
theorem keepF_keepS (S : Int → Prop) (D : List Int) : ∀ (l : List Ins) (i : Nat), (∀ (k : Nat) (x : Ins), l[k]? = some x → (((i + k : Nat) : Int) ∈ D ↔ DeadI x (l.drop (k + 1)) S)) → keepF D i l = keepS S l
  | [], i, _ => rfl
  | x :: l, i, h => by
    have h0 := h 0 x rfl
    simp at h0
    have ih := keepF_keepS S D l (i + 1) fun k y hy => by
      have := h (k + 1) y (by simpa using hy)
      have e : i + (k + 1) = i + 1 + k := by omega
      rw [e] at this
      simpa using this
    unfold keepF keepS
    by_cases hd : DeadI x l S
    · rw [if_pos (h0.2 hd), if_pos hd, ih]
    · rw [if_neg (fun hh => hd (h0.1 hh)), if_neg hd, ih]
theorem dropB_keepS (b : Bk) (S : Int → Prop) : keepF (deadL b.code S) 0 b.code = keepS S b.code := keepF_keepS S _ b.code 0 fun k x hx => by
  rw [mem_deadL]
  unfold deadP DeadI
  constructor
  · rintro ⟨k', x', e, h1, h2⟩
    have : k = k' := by omega
    subst this
    rw [hx] at h1
    cases h1
    exact h2
  · intro h
    exact ⟨k, x, by simp, hx, h⟩
theorem back_dead {x : Ins} {T : Int → Prop} (h8 : x.op ≠ 8) (h : ¬ T x.dst) : BackS x false T = T := by
  funext n
  refine propext ⟨?_, fun hn => .inl ⟨hn, .inr fun e => h (e ▸ hn)⟩⟩
  rintro (h1 | ⟨h1 | h1 | h1, _⟩)
  · exact h1.1
  · exact absurd h1 h8
  · exact absurd h1 h
  · cases h1
theorem keepS_code {S T : Int → Prop} (hT : ∀ n, T n → S n) : ∀ (l : List Ins), codeS (keepS S l) false T = codeS l false T
  | [] => rfl
  | x :: l => by
    have ih := keepS_code hT l
    unfold keepS
    split
    · rename_i h
      rw [ih, codeS_cons, back_dead h.1 fun hh => h.2 (codeS_mono hT l _ hh)]
    · rw [codeS_cons, codeS_cons, ih]
theorem keepS_again (S : Int → Prop) : ∀ (l : List Ins), keepS S (keepS S l) = keepS S l
  | [] => rfl
  | x :: l => by
    have ih := keepS_again S l
    by_cases h : DeadI x l S
    · have : keepS S (x :: l) = keepS S l := by rw [keepS, if_pos h]
      rw [this, ih]
    · have : keepS S (x :: l) = x :: keepS S l := by rw [keepS, if_neg h]
      rw [this, keepS, if_neg, ih]
      intro hd
      refine h ⟨hd.1, ?_⟩
      have := hd.2
      rwa [keepS_code fun _ h => h] at this
theorem keepS_mem (S : Int → Prop) : ∀ (l : List Ins), ∀ x ∈ keepS S l, x ∈ l
  | [], x, h => by simp [keepS] at h
  | y :: l, x, h => by
    unfold keepS at h
    split at h
    · exact List.mem_cons_of_mem _ (keepS_mem S l x h)
    · rcases List.mem_cons.1 h with rfl | h
      · simp
      · exact List.mem_cons_of_mem _ (keepS_mem S l x h)
theorem keepS_len (S : Int → Prop) : ∀ (l : List Ins), (keepS S l).length ≤ l.length
  | [] => by simp [keepS]
  | x :: l => by
    have := keepS_len S l
    unfold keepS
    split <;> simp <;> omega
/-- A block without what does nothing. -/
noncomputable def thin (f : List Bk) (b : Bk) : Bk := ⟨keepS (behS b (alive false f)) b.code, b.test, b.thn, b.els⟩
theorem dropAll_thin (f : List Bk) : dropAll f = f.map (thin f) := by
  unfold dropAll thin dropB
  refine List.map_congr_left fun b _ => ?_
  rw [dropB_keepS]
theorem thin_good {f : List Bk} (hg : GoodF f) : GoodF (dropAll f) := by
  rw [dropAll_thin]
  refine ⟨by simpa using hg.1, fun b hb => ?_⟩
  obtain ⟨a, ha, rfl⟩ := List.mem_map.1 hb
  have := hg.2 a ha
  refine ⟨⟨Nat.le_trans (keepS_len _ _) this.1.1, fun x hx => this.1.2 x (keepS_mem _ _ x hx)⟩, ?_⟩
  simpa [thin] using this.2
theorem behS_mono {b : Bk} {Ls Ms : List (List Int)} (h : SubL Ls Ms) (n : Int) (hn : behS b Ls n) : behS b Ms n := by
  rcases hn with ⟨h1, h2⟩ | ⟨h1, h2⟩ | h1
  · exact .inl ⟨h1, h _ _ h2⟩
  · exact .inr (.inl ⟨h1, h _ _ h2⟩)
  · exact .inr (.inr h1)
theorem alive_len (plain : Bool) (f : List Bk) : (alive plain f).length = f.length := (alive_upp plain f).len
theorem thin_alive (f : List Bk) : alive false (dropAll f) = alive false f := by
  have hget : ∀ (k : Nat) (c : Bk), (dropAll f)[k]? = some c → ∃ b, f[k]? = some b ∧ c = thin f b := by
    intro k c hc
    rw [dropAll_thin, List.getElem?_map] at hc
    cases hb : f[k]? with
    | none => rw [hb] at hc; simp at hc
    | some b => rw [hb] at hc; simp at hc; exact ⟨b, rfl, hc.symm⟩
  have next : ∀ (b : Bk) (Ls : List (List Int)), SubL Ls (alive false f) → nextN false (thin f b) Ls = nextN false b Ls := by
    intro b Ls h
    unfold nextN
    have e1 : behS (thin f b) Ls = behS b Ls := rfl
    rw [e1]
    show setN (codeS (keepS (behS b (alive false f)) b.code) false (behS b Ls)) = _
    rw [keepS_code fun n hn => behS_mono h n hn]
  have h1 : SubL (alive false (dropAll f)) (alive false f) := alive_least fun k c hc n hn => by
    obtain ⟨b, hb, rfl⟩ := hget k c hc
    rw [next b _ fun _ _ h => h, alive_fix hb] at hn
    exact hn
  have h2 : SubL (alive false f) (alive false (dropAll f)) := alive_least fun k b hb n hn => by
    have hc : (dropAll f)[k]? = some (thin f b) := by rw [dropAll_thin, List.getElem?_map, hb]; rfl
    rw [← alive_fix hc, next b _ h1]
    exact hn
  have hl : (dropAll f).length = f.length := by simp [dropAll]
  have g1 := alive_upp false (dropAll f)
  have g2 := alive_upp false f
  apply List.ext_getElem?
  intro k
  by_cases hk : k < f.length
  · have a1 : k < (alive false (dropAll f)).length := by rw [g1.len, hl]; exact hk
    have a2 : k < (alive false f).length := by rw [g2.len]; exact hk
    have e1 : (alive false (dropAll f))[k] = (alive false (dropAll f)).getD k [] := by rw [List.getD_eq_getElem?_getD, List.getElem?_eq_getElem a1]; rfl
    have e2 : (alive false f)[k] = (alive false f).getD k [] := by rw [List.getD_eq_getElem?_getD, List.getElem?_eq_getElem a2]; rfl
    rw [List.getElem?_eq_getElem a1, List.getElem?_eq_getElem a2, e1, e2]
    congr 1
    exact srt_ext (getD_good g1.good k).2 (getD_good g2.good k).2 fun n => ⟨h1 k n, h2 k n⟩
  · rw [List.getElem?_eq_none (by rw [g1.len, hl]; omega), List.getElem?_eq_none (by rw [g2.len]; omega)]
theorem drop_again {f : List Bk} (hg : GoodF f) : dropRes (dropAll f) = (dropAll f, true) := by
  have hg2 := thin_good hg
  unfold dropRes
  rw [if_pos hg2]
  congr 1
  rw [dropAll_thin (dropAll f)]
  rw [dropAll_thin f, List.map_map]
  refine List.map_congr_left fun b _ => ?_
  show thin (f.map (thin f)) (thin f b) = thin f b
  rw [← dropAll_thin]
  unfold thin
  rw [thin_alive]
  have e1 : behS (⟨keepS (behS b (alive false f)) b.code, b.test, b.thn, b.els⟩ : Bk) (alive false f) = behS b (alive false f) := rfl
  simp only [e1]
  rw [keepS_again]
theorem keepF_count (D : List Int) : ∀ (l : List Ins) (i : Nat), (keepF D i l).length = ((List.range' i l.length).filter fun k => !decide (((k : Nat) : Int) ∈ D)).length
  | [], i => by simp [keepF]
  | x :: l, i => by
    have ih := keepF_count D l (i + 1)
    unfold keepF
    rw [List.length_cons, List.range'_succ, List.filter_cons]
    by_cases h : (i : Int) ∈ D
    · rw [if_pos h, if_neg (by simp [h]), ih]
    · rw [if_neg h, if_pos (by simp [h]), List.length_cons, List.length_cons, ih]
theorem count_dead (b : Bk) (S : Int → Prop) : (keepF (deadL b.code S) 0 b.code).length + (deadL b.code S).length = b.code.length := by
  rw [keepF_count]
  have e1 : (deadL b.code S).length = ((List.range' 0 b.code.length).filter fun k => decide (((k : Nat) : Int) ∈ deadL b.code S)).length := by
    have : deadL b.code S = ((List.range' 0 b.code.length).filter fun k => decide (((k : Nat) : Int) ∈ deadL b.code S)).map fun j : Nat => (j : Int) := by
      have h1 : ∀ n : Int, n ∈ deadL b.code S ↔ n ∈ ((List.range' 0 b.code.length).filter fun k => decide (((k : Nat) : Int) ∈ deadL b.code S)).map fun j : Nat => (j : Int) := by
        intro n
        simp only [List.mem_map, List.mem_filter, List.mem_range'_1, decide_eq_true_eq]
        constructor
        · intro h
          have h' := h
          rw [mem_deadL] at h'
          obtain ⟨k, x, rfl, hk, _⟩ := h'
          have := (List.getElem?_eq_some_iff.1 hk).1
          exact ⟨k, ⟨by omega, h⟩, rfl⟩
        · rintro ⟨k, ⟨_, h⟩, rfl⟩; exact h
      refine srt_ext (deadL_srt _ _) ?_ h1
      have := (range_srt b.code.length)
      rw [List.range_eq_range'] at this
      have this : List.Pairwise _ _ := this
      show List.Pairwise _ _
      rw [List.pairwise_map] at this ⊢
      exact this.filter _
    have h2 := congrArg List.length this
    rw [List.length_map] at h2
    exact h2
  rw [e1]
  have two : ∀ (p : Nat → Bool) (l : List Nat), (l.filter fun k => !p k).length + (l.filter p).length = l.length := by
    intro p l
    induction l with
    | nil => rfl
    | cons a l ih =>
      rw [List.filter_cons, List.filter_cons]
      cases p a <;> simp <;> omega
  rw [two, List.length_range']
/-! ### the same way, and the same told -/
def AgreeV (S : Int → Prop) (V V' : List Int) : Prop := ∀ n, Nm n → S n → wd V n = wd V' n
theorem valI_agree {x : Ins} {V V' : List Int} {T : Int → Prop} (hx : GoodI x) (h8 : x.op ≠ 8) (h : AgreeV T V V') (hu : ∀ n ∈ uses x, T n) : valI x V = valI x V' := by
  obtain ⟨n1, n2, n3⟩ := hx.names
  unfold valI
  by_cases o1 : x.op = 1
  · rw [if_pos o1, if_pos o1]
  rw [if_neg o1, if_neg o1]
  by_cases o2 : x.op = 2
  · rw [if_pos o2, if_pos o2]
    exact h _ n2 (hu _ (by simp [uses, o1, o2]))
  rw [if_neg o2, if_neg o2]
  have o3 : 3 ≤ x.op ∧ x.op ≤ 7 := by
    rcases hx with g | g | g | g
    · exact absurd g.1 o1
    · exact absurd g.1 o2
    · exact absurd g.1 h8
    · exact ⟨g.1, g.2.1⟩
  rw [h _ n2 (hu _ (by simp [uses, o1, o3])), h _ n3 (hu _ (by simp [uses, o1, o3]))]
theorem runC_thin (S : Int → Prop) : ∀ (l : List Ins) (V V' : List Int), (∀ x ∈ l, GoodI x) → V.length = 8 → V'.length = 8 → AgreeV (codeS l false S) V V' → (runC l V).1 = (runC (keepS S l) V').1 ∧ AgreeV S (runC l V).2 (runC (keepS S l) V').2
  | [], V, V', _, _, _, h => ⟨rfl, h⟩
  | x :: l, V, V', hl, hV, hV', h => by
    have hx := hl x (by simp)
    have hl' : ∀ y ∈ l, GoodI y := fun y hy => hl y (by simp [hy])
    obtain ⟨n1, n2, n3⟩ := hx.names
    rw [codeS_cons] at h
    by_cases h8 : x.op = 8
    · have hk : keepS S (x :: l) = x :: keepS S l := by rw [keepS, if_neg (fun hd => hd.1 h8)]
      have ha : wd V x.a = wd V' x.a := h _ n2 (.inr ⟨.inl h8, by simp [uses, h8]⟩)
      obtain ⟨i1, i2⟩ := runC_thin S l V V' hl' hV hV' fun n hn hs => h n hn (.inl ⟨hs, .inl h8⟩)
      rw [hk, runC, runC, if_pos h8, if_pos h8]
      exact ⟨by rw [ha, i1], i2⟩
    · by_cases hd : DeadI x l S
      · have hk : keepS S (x :: l) = keepS S l := by rw [keepS, if_pos hd]
        rw [hk, runC, if_neg h8]
        rw [back_dead h8 hd.2] at h
        refine runC_thin S l _ V' hl' (by simpa using hV) hV' fun n hn hs => ?_
        rw [wd_set hV n1 hn, if_neg (fun e : n = x.dst => hd.2 (e ▸ hs))]
        exact h n hn hs
      · have hk : keepS S (x :: l) = x :: keepS S l := by rw [keepS, if_neg hd]
        have hlv : codeS l false S x.dst := Classical.byContradiction fun hn => hd ⟨h8, hn⟩
        have hv : valI x V = valI x V' := valI_agree hx h8 h fun n hn => .inr ⟨.inr (.inl hlv), hn⟩
        rw [hk, runC, runC, if_neg h8, if_neg h8, hv]
        refine runC_thin S l _ _ hl' (by simpa using hV) (by simpa using hV') fun n hn hs => ?_
        rw [wd_set hV n1 hn, wd_set hV' n1 hn]
        by_cases e : n = x.dst
        · rw [if_pos e, if_pos e]
        · rw [if_neg e, if_neg e]; exact h n hn (.inl ⟨hs, .inr e⟩)
theorem run_thin {f : List Bk} (hg : GoodF f) : ∀ (m : Nat) (i : Int) (V V' : List Int), i ≤ (f.length : Int) - 1 → V.length = 8 → V'.length = 8 → (0 ≤ i → AgreeV (fun n => n ∈ (alive false f).getD i.toNat []) V V') →
    (runFl f m i V).1 = (runFl (dropAll f) m i V').1 ∧ (runFl f m i V).2.2 = (runFl (dropAll f) m i V').2.2
  | m, i, V, V', hi, hV, hV', h => by
    by_cases hn : i < 0
    · rw [runFl_neg f m hn, runFl_neg (dropAll f) m hn]; simp
    match m with
    | 0 => rw [runFl_none f hn, runFl_none (dropAll f) hn]; simp
    | m + 1 =>
      obtain ⟨b1, b2⟩ := blk_get (f := f) (by omega) hi
      have hgb := hg.2 _ b2
      have hd : blkAt (dropAll f) i = thin f (blkAt f i) := by
        unfold blkAt; rw [dropAll_thin, List.getD_eq_getElem?_getD, List.getElem?_map, b1]; rfl
      generalize hb : blkAt f i = b at *
      rw [runFl_more f m hn, runFl_more (dropAll f) m hn, hd, hb]
      have hag : AgreeV (codeS b.code false (behS b (alive false f))) V V' := fun n hn' hs => h (by omega) n hn' (by
        show n ∈ _
        rw [← alive_fix b1]
        unfold nextN
        rw [mem_setN]
        exact ⟨hn', hs⟩)
      obtain ⟨r1, r2⟩ := runC_thin (behS b (alive false f)) b.code V V' hgb.1.2 hV hV' hag
      have hcode : (thin f b).code = keepS (behS b (alive false f)) b.code := rfl
      rw [hcode]
      generalize hc : runC b.code V = c at *
      generalize hc' : runC (keepS (behS b (alive false f)) b.code) V' = c' at *
      have l1 : c.2.length = 8 := by rw [← hc, runC_len]; exact hV
      have l2 : c'.2.length = 8 := by rw [← hc', runC_len]; exact hV'
      have hgo : goOn (thin f b) c'.2 = goOn b c.2 := by
        unfold goOn thin
        simp only
        by_cases e : b.thn = b.els
        · rw [e]; simp
        · have := r2 b.test hgb.2.1 (.inr (.inr ⟨e, rfl⟩))
          rw [this]
      rw [hgo]
      have hfit := goOn_fit hg b2 c.2
      obtain ⟨i1, i2⟩ := run_thin hg m (goOn b c.2) c.2 c'.2 hfit.2 l1 l2 fun h0 n hn' hs => r2 n hn' (by
        unfold goOn at h0 hs
        split at h0
        · rename_i ht
          rw [if_pos ht] at hs
          exact .inl ⟨h0, hs⟩
        · rename_i ht
          rw [if_neg ht] at hs
          exact .inr (.inl ⟨h0, hs⟩))
      exact ⟨by rw [r1, i1], by rw [i2]⟩
end Go.Proofs.Ytdbnokeegocpbaa.Am
