/- Ranges ahead of the blocks of a flow: the plain law. No condition. -/
import Derived.Test.YtfndikfaibbjoaaLSteps
import Derived.Test.YtfndikfaibbjoaaLRunMath
namespace Go.Proofs.Ytfndikfaibbjoaa.Am
open Go Go.RowKit
set_option linter.unusedSimpArgs false
set_option linter.unusedVariables false

abbrev emR : Rng := ⟨true, 0, 0⟩
abbrev zeroR : Rng := ⟨false, 0, 0⟩
def updR : Upd Rng where
  up a b := if b.em = true then a else widenR a (joinR a b)
  z := zeroR
  mu a := if a.em = true then 3 else (if a.lo = 0 then 0 else 1) + (if a.hi = 65535 then 0 else 1)
  fall a b h := by
    by_cases hb : b.em = true
    · rw [if_pos hb] at h; exact absurd rfl h
    simp only [if_neg hb] at h ⊢
    obtain ⟨em, lo, hi⟩ := a
    obtain ⟨em', lo', hi'⟩ := b
    simp only [Bool.not_eq_true] at hb
    subst hb
    cases em with
    | true =>
      simp [widenR, joinR]
      split <;> split <;> omega
    | false =>
      simp only [widenR, joinR, Bool.false_eq_true, if_false] at h ⊢
      by_cases h1 : min lo lo' < lo <;> by_cases h2 : hi < max hi hi' <;> simp only [h1, h2, if_true, if_false] at h ⊢
      · have a1 : ¬ lo = 0 ∨ ¬ hi = 65535 := by
          by_cases e1 : lo = 0 <;> by_cases e2 : hi = 65535
          · subst e1 e2; exact absurd rfl h
          · exact .inr e2
          · exact .inl e1
          · exact .inl e1
        rcases a1 with a1 | a1 <;> simp [a1] <;> split <;> omega
      · have a1 : ¬ lo = 0 := fun e => by subst e; exact h rfl
        simp [a1]
      · have a1 : ¬ hi = 65535 := fun e => by subst e; exact h rfl
        simp [a1]
      · exact absurd rfl h
theorem updR_up {a b : Rng} (hb : b.em = false) : updR.up a b = widenR a (joinR a b) := by simp [updR, hb]
/-- Eight good ranges, none of which is empty. -/
def FullR (R : List Rng) : Prop := GoodRs R ∧ ∀ x ∈ R, x.em = false
def RowR (R : List Rng) : Prop := R = List.replicate 8 emR ∨ FullR R
theorem twoR_full {op : Int} {a b : Rng} (ha : a.em = false) (hb : b.em = false) : (twoR op a b).em = false := by
  unfold twoR
  rw [if_neg (by simp [ha, hb])]
  have hs : ∀ lo hi, (spanR lo hi).em = false := fun lo hi => by unfold spanR; split <;> rfl
  split
  · exact hs _ _
  split
  · exact hs _ _
  split
  · exact hs _ _
  split
  · split
    · rfl
    · split <;> rfl
  split
  · split <;> rfl
  · rfl
theorem rg_full {R : List Rng} (h : FullR R) {i : Int} (hi : Nm i) : GoodR (rg R i) ∧ (rg R i).em = false := ⟨rg_good h.1 hi, h.2 _ (List.mem_of_getElem? (rg_get h.1.1 hi))⟩
theorem FullR.set {R : List Rng} (h : FullR R) (i : Nat) {y : Rng} (hy : GoodR y) (he : y.em = false) : FullR (R.set i y) := ⟨set_good h.1 i hy, fun r hr => by
  rcases List.mem_or_eq_of_mem_set hr with hr | rfl
  · exact h.2 r hr
  · exact he⟩
theorem stepOne_full {R : List Rng} (h : FullR R) {x : Ins} (hx : GoodI x) : FullR (stepOne R x) := by
  have hg := stepOne_good h.1 hx
  refine ⟨hg, fun r hr => ?_⟩
  have hn := hx.names
  unfold stepOne at hr
  have hset : ∀ y : Rng, y.em = false → r ∈ R.set x.dst.toNat y → r.em = false := fun y hy hr => by
    rcases List.mem_or_eq_of_mem_set hr with hr | rfl
    · exact h.2 r hr
    · exact hy
  split at hr
  · exact hset _ rfl hr
  split at hr
  · exact hset _ (rg_full h hn.2.1).2 hr
  split at hr
  · exact hset _ (twoR_full (rg_full h hn.2.1).2 (rg_full h hn.2.2).2) hr
  · exact h.2 r hr
theorem stepR_full : ∀ (l : List Ins) {R : List Rng}, (∀ x ∈ l, GoodI x) → FullR R → FullR (stepR l R)
  | [], R, _, h => h
  | x :: l, R, hl, h => stepR_full l (fun y hy => hl y (by simp [hy])) (stepOne_full h (hl x (by simp)))
def nxR (b : Bk) (R : List Rng) : List (Int × List Rng) :=
  if (rg R 0).em = true then [] else
    (if 0 < (rg (stepR b.code R) b.test).hi then [(b.thn, stepR b.code R)] else []) ++ (if (rg (stepR b.code R) b.test).lo = 0 then [(b.els, (stepR b.code R).set b.test.toNat zeroR)] else [])
theorem RowR.len {R : List Rng} (h : RowR R) : R.length = 8 := by
  rcases h with rfl | h
  · simp
  · exact h.1.1
theorem RowR.first {R : List Rng} (h : RowR R) : ((rg R 0).em = true ∧ R = List.replicate 8 emR) ∨ ((rg R 0).em = false ∧ FullR R) := by
  rcases h with rfl | h
  · exact .inl ⟨rfl, rfl⟩
  · exact .inr ⟨(rg_full h (by decide)).2, h⟩
theorem zeroR_good : GoodR zeroR := .inr ⟨rfl, by simp, by simp, by simp⟩
theorem mem_nxR {b : Bk} {R : List Rng} {p : Int × List Rng} (h : p ∈ nxR b R) : (rg R 0).em = false ∧ ((p = (b.thn, stepR b.code R)) ∨ (p = (b.els, (stepR b.code R).set b.test.toNat zeroR))) := by
  unfold nxR at h
  split at h
  · simp at h
  · rename_i h0
    refine ⟨by simpa using h0, ?_⟩
    rcases List.mem_append.1 h with h | h
    · split at h
      · simp at h; exact .inl h
      · simp at h
    · split at h
      · simp at h; exact .inr h
      · simp at h
theorem nxR_full {b : Bk} {n : Nat} (hgb : GoodB n b) {R : List Rng} (hR : RowR R) {p : Int × List Rng} (h : p ∈ nxR b R) : p.1 ≤ (n : Int) - 1 ∧ FullR p.2 := by
  obtain ⟨h1, h2⟩ := mem_nxR h
  rcases hR.first with ⟨h, _⟩ | ⟨_, h⟩
  · rw [h] at h1; cases h1
  · have hs := stepR_full b.code hgb.1.2 h
    rcases h2 with rfl | rfl
    · exact ⟨hgb.2.2.1.2, hs⟩
    · exact ⟨hgb.2.2.2.2, hs.set _ zeroR_good rfl⟩
theorem fitsR {f : List Bk} (hg : GoodF f) : FitsG RowR nxR f := by
  intro b hb R hR hP p hp
  have := nxR_full (hg.2 b hb) hP hp
  exact ⟨this.1, this.2.1.1⟩
theorem wideR_good {a b : Rng} (ha : GoodR a) (hb : GoodR b) (hbe : b.em = false) : GoodR (widenR a (joinR a b)) ∧ (widenR a (joinR a b)).em = false := by
  obtain ⟨em, lo, hi⟩ := a
  obtain ⟨em', lo', hi'⟩ := b
  simp only at hbe
  subst hbe
  cases em with
  | true => simpa [widenR, joinR] using hb
  | false =>
    have h1 : 0 ≤ lo ∧ lo ≤ hi ∧ hi ≤ 65535 := by
      rcases ha with h | h
      · cases h.1
      · exact h.2
    simp only [widenR, joinR, Bool.false_eq_true, if_false]
    refine ⟨.inr ⟨rfl, ?_⟩, trivial⟩
    simp only
    split <;> split <;> omega
theorem come_rowR {n to : Nat} (hto : to < n) {out : List Rng} (ho : FullR out) {S : List (List Rng)} (h : Wide n S) (hP : AllG RowR S) : AllG RowR (comeG updR to out 0 S) := by
  rw [comeG_eq updR hto ho.1.1 h]
  intro r hr
  rcases List.mem_or_eq_of_mem_set hr with hr | rfl
  · exact hP r hr
  · right
    have hrow := h.row hto
    have key : ∀ x ∈ List.zipWith updR.up (rowG S to) out, GoodR x ∧ x.em = false := by
      intro x hx
      obtain ⟨i, hi⟩ := List.mem_iff_getElem?.1 hx
      rw [List.getElem?_zipWith] at hi
      cases ea : (rowG S to)[i]? with
      | none => rw [ea] at hi; simp at hi
      | some a =>
        cases eb : out[i]? with
        | none => rw [ea, eb] at hi; simp at hi
        | some b =>
          rw [ea, eb] at hi
          simp at hi
          have hb1 := ho.1.2 b (List.mem_of_getElem? eb)
          have hb2 := ho.2 b (List.mem_of_getElem? eb)
          rw [← hi, updR_up hb2]
          refine wideR_good ?_ hb1 hb2
          rcases hP _ (List.mem_of_getElem? hrow.2) with he | he
          · rw [he] at ea
            rw [List.eq_of_mem_replicate (List.mem_of_getElem? ea)]
            exact .inl ⟨rfl, rfl, rfl⟩
          · exact he.1.2 a (List.mem_of_getElem? ea)
    exact ⟨⟨by simp [hrow.1, ho.1.1], fun x hx => (key x hx).1⟩, fun x hx => (key x hx).2⟩
theorem keepsR {f : List Bk} (hg : GoodF f) : KeepsG updR RowR nxR f := by
  intro b hb S k hk h hP
  have hrow := h.row hk
  have hRk := hP _ (List.mem_of_getElem? hrow.2)
  have : ∀ (l : List (Int × List Rng)) (S : List (List Rng)), (∀ p ∈ l, p.1 ≤ (f.length : Int) - 1 ∧ FullR p.2) → Wide f.length S → AllG RowR S → AllG RowR (comesG updR l S) := by
    intro l
    induction l with
    | nil => exact fun S _ _ h => h
    | cons p l ih =>
      intro S hl hw hP
      obtain ⟨to, out⟩ := p
      have h0 := hl (to, out) (by simp)
      simp only at h0
      refine ih _ (fun q hq => hl q (by simp [hq])) ?_ ?_
      · split
        · exact hw
        · exact comeG_wide updR (by omega) out 0 S hw
      · split
        · exact hP
        · exact come_rowR (by omega) h0.2 hw hP
  exact this _ S (fun p hp => nxR_full (hg.2 b hb) hRk hp) h hP
def startR (f : List Bk) (R : List Rng) : List (List Rng) := (List.replicate f.length (List.replicate 8 emR)).set 0 R
theorem startR_zero {f : List Bk} {R : List Rng} (h : 1 ≤ f.length) : rowG (startR f R) 0 = R := by
  unfold startR
  rw [rowG_set (by simp; omega), if_pos rfl]
theorem startR_wide {f : List Bk} {R : List Rng} (hv : FullR R) : Wide f.length (startR f R) ∧ AllG RowR (startR f R) := by
  refine ⟨⟨by simp [startR], fun r hr => ?_⟩, fun r hr => ?_⟩
  · rcases List.mem_or_eq_of_mem_set hr with hr | rfl
    · rw [List.eq_of_mem_replicate hr]; simp
    · exact hv.1.1
  · rcases List.mem_or_eq_of_mem_set hr with hr | rfl
    · exact .inl (List.eq_of_mem_replicate hr)
    · exact .inr hv
theorem muR_le (a : Rng) : updR.mu a ≤ 3 := by
  show (if _ then _ else _) ≤ 3
  split
  · omega
  · split <;> split <;> decide
/-- The ranges ahead of every block, and the rounds that it took. -/
def flowRR (f : List Bk) (R : List Rng) : List (List Rng) × Nat := iterG updR nxR f (24 * f.length + 1) 0 (startR f R)
/-! ### every word is in its range -/
def HoldsR (R : List Rng) (V : List Int) : Prop := ∀ i : Int, Nm i → (rg R i).em = false ∧ (rg R i).lo ≤ wd V i ∧ wd V i ≤ (rg R i).hi
theorem rg_set {R : List Rng} (h : R.length = 8) {d i : Int} (hd : Nm d) (hi : Nm i) (y : Rng) : rg (R.set d.toNat y) i = if i = d then y else rg R i := by
  unfold Nm at hd hi
  unfold rg
  rw [List.getD_eq_getElem?_getD, List.getElem?_set]
  by_cases e : i = d
  · subst e; rw [if_pos rfl, if_pos (by omega), if_pos rfl]; rfl
  · rw [if_neg (by omega), if_neg e, ← List.getD_eq_getElem?_getD]
theorem span_has {lo hi x : Int} (h1 : lo ≤ x) (h2 : x ≤ hi) : (spanR lo hi).em = false ∧ (spanR lo hi).lo ≤ x % 65536 ∧ x % 65536 ≤ (spanR lo hi).hi := by
  unfold spanR
  split
  · exact ⟨rfl, by simp only; omega, by simp only; omega⟩
  · exact ⟨rfl, by simp only; omega, by simp only; omega⟩
theorem mul_mono {a b c d : Int} (h0 : 0 ≤ a) (h1 : a ≤ b) (h2 : 0 ≤ c) (h3 : c ≤ d) : a * c ≤ b * d := Int.mul_le_mul h1 h3 h2 (by omega)
theorem twoR_has {op x y : Int} {a b : Rng} (ho : 3 ≤ op ∧ op ≤ 7) (ha : GoodR a) (hb : GoodR b) (h1 : a.em = false ∧ a.lo ≤ x ∧ x ≤ a.hi) (h2 : b.em = false ∧ b.lo ≤ y ∧ y ≤ b.hi) : (twoR op a b).em = false ∧ (twoR op a b).lo ≤ doI op x y ∧ doI op x y ≤ (twoR op a b).hi := by
  have ga := good_range ha
  have gb := good_range hb
  unfold twoR doI
  rw [if_neg (by simp [h1.1, h2.1])]
  have o : op = 3 ∨ op = 4 ∨ op = 5 ∨ op = 6 ∨ op = 7 := by omega
  rcases o with rfl | rfl | rfl | rfl | rfl
  · simp only [if_true]
    exact span_has (by omega) (by omega)
  · simp
    exact span_has (by omega) (by omega)
  · simp
    exact span_has (mul_mono ga.1 h1.2.1 gb.1 h2.2.1) (mul_mono (by omega) h1.2.2 (by omega) h2.2.2)
  · simp
    by_cases c1 : a.hi < b.lo
    · simp only [c1, if_true]
      have : x < y := by omega
      simp [this]
    · simp only [c1, if_false]
      by_cases c2 : b.hi ≤ a.lo
      · simp only [c2, if_true]
        have : ¬ x < y := by omega
        simp [this]
      · simp only [c2, if_false]
        split <;> simp
  · simp
    cases hm : (meetR a b).em with
    | true =>
      have : ¬ x = y := by
        intro e
        unfold meetR at hm
        split at hm
        · rename_i h
          rcases h with h | h | h
          · rw [h1.1] at h; cases h
          · rw [h2.1] at h; cases h
          · omega
        · cases hm
      simp [this]
    | false =>
      simp
      split <;> simp
theorem stepR_holds : ∀ (l : List Ins) {R : List Rng} {V : List Int}, (∀ x ∈ l, GoodI x) → GoodRs R → GoodV V → HoldsR R V → HoldsR (stepR l R) (runC l V).2
  | [], R, V, _, _, _, h => h
  | x :: l, R, V, hl, hR, hV, h => by
    have hx := hl x (by simp)
    have hn := hx.names
    show HoldsR (stepR l (stepOne R x)) (runC (x :: l) V).2
    rw [runC]
    by_cases h8 : x.op = 8
    · rw [if_pos h8]
      have : stepOne R x = R := by
        unfold stepOne
        rw [if_neg (by omega), if_neg (by omega), if_neg (by omega)]
      rw [this]
      exact stepR_holds l (fun y hy => hl y (by simp [hy])) hR hV h
    · rw [if_neg h8]
      refine stepR_holds l (fun y hy => hl y (by simp [hy])) (stepOne_good hR hx) (hV.set _ (valI_good hV hx)) fun i hi => ?_
      rw [wd_set hV.1 hn.1 hi]
      have hput : ∀ y : Rng, stepOne R x = R.set x.dst.toNat y → (y.em = false ∧ y.lo ≤ valI x V ∧ valI x V ≤ y.hi) → (rg (stepOne R x) i).em = false ∧ (rg (stepOne R x) i).lo ≤ (if i = x.dst then valI x V else wd V i) ∧ (if i = x.dst then valI x V else wd V i) ≤ (rg (stepOne R x) i).hi := by
        intro y e hy
        rw [e, rg_set hR.1 hn.1 hi]
        by_cases e : i = x.dst
        · rw [if_pos e, if_pos e]; exact hy
        · rw [if_neg e, if_neg e]; exact h i hi
      by_cases o1 : x.op = 1
      · refine hput ⟨false, x.n, x.n⟩ (by unfold stepOne; rw [if_pos o1]) ?_
        unfold valI
        rw [if_pos o1]
        exact ⟨rfl, Int.le_refl _, Int.le_refl _⟩
      by_cases o2 : x.op = 2
      · refine hput (rg R x.a) (by unfold stepOne; rw [if_neg o1, if_pos o2]) ?_
        unfold valI
        rw [if_neg o1, if_pos o2]
        exact h _ hn.2.1
      have o3 : 3 ≤ x.op ∧ x.op ≤ 7 := by
        rcases hx with g | g | g | g
        · exact absurd g.1 o1
        · exact absurd g.1 o2
        · exact absurd g.1 h8
        · exact ⟨g.1, g.2.1⟩
      refine hput (twoR x.op (rg R x.a) (rg R x.b)) (by unfold stepOne; rw [if_neg o1, if_neg o2, if_pos o3]) ?_
      unfold valI
      rw [if_neg o1, if_neg o2]
      exact twoR_has o3 (rg_good hR hn.2.1) (rg_good hR hn.2.2) (h _ hn.2.1) (h _ hn.2.2)
theorem up_has {c o : Rng} {x : Int} (hx : 0 ≤ x ∧ x ≤ 65535) (h : (c.em = false ∧ c.lo ≤ x ∧ x ≤ c.hi) ∨ (o.em = false ∧ o.lo ≤ x ∧ x ≤ o.hi)) : (updR.up c o).em = false ∧ (updR.up c o).lo ≤ x ∧ x ≤ (updR.up c o).hi := by
  obtain ⟨em, lo, hi⟩ := c
  obtain ⟨em', lo', hi'⟩ := o
  cases em' with
  | true =>
    rcases h with h | h
    · simpa [updR] using h
    · cases h.1
  | false =>
    cases em with
    | true =>
      rcases h with h | h
      · cases h.1
      · simpa [updR, widenR, joinR] using h
    | false =>
      simp only [updR, widenR, joinR, Bool.false_eq_true, if_false, true_and] at h ⊢
      split <;> split <;> rcases h with h | h <;> omega
structure EndR (f : List Bk) (R : List Rng) (W : List (List Rng)) : Prop where
  wide : Wide f.length W
  rows : AllG RowR W
  still : ∀ (i : Nat) (b : Bk), f[i]? = some b → ∀ q ∈ nxR b (rowG W i), Still updR W q
  first : ∀ V, GoodV V → HoldsR R V → HoldsR (rowG W 0) V
theorem rg_cell (S : List (List Rng)) (k : Nat) {i : Int} : rg (rowG S k) i = cellG zeroR S k i.toNat := rfl
theorem flowRR_end {f : List Bk} (hg : GoodF f) {R : List Rng} (hv : FullR R) : EndR f R (flowRR f R).1 ∧ (flowRR f R).2 ≤ 24 * f.length + 1 := by
  obtain ⟨s1, s2⟩ := startR_wide (f := f) hv
  have hsum := sumG_le updR 3 muR_le s1
  have hJ1 : ∀ S, Wide f.length S → AllG RowR S → (∀ V, GoodV V → HoldsR R V → HoldsR (rowG S 0) V) → (∀ V, GoodV V → HoldsR R V → HoldsR (rowG (roundG updR nxR f 0 S) 0) V) := by
    intro S hS hP hj V hV hRV
    have key : ∀ (r p : List Bk) (S : List (List Rng)), f = p ++ r → Wide f.length S → AllG RowR S → HoldsR (rowG S 0) V → HoldsR (rowG (roundG updR nxR r p.length S) 0) V := by
      intro r
      induction r with
      | nil => exact fun p S _ _ _ h => h
      | cons b r ih =>
        intro p S e hS hP h
        have hpl : p.length < f.length := by rw [e]; simp
        have hrow := hS.row hpl
        have hPr := hP _ (List.mem_of_getElem? hrow.2)
        have hfit := fitsR hg b (by simp [e]) _ hrow.1 hPr
        have := ih (p ++ [b]) (comesG updR (nxR b (rowG S p.length)) S) (by simp [e]) (comesG_wide updR _ S hfit hS) (keepsR hg b (by simp [e]) S p.length hpl hS hP) ?_
        · simpa [roundG] using this
        have key2 : ∀ (l : List (Int × List Rng)) (S : List (List Rng)), FitG f.length l → Wide f.length S → HoldsR (rowG S 0) V → HoldsR (rowG (comesG updR l S) 0) V := by
          intro l
          induction l with
          | nil => exact fun S _ _ h => h
          | cons q l ihl =>
            intro S hl hS h
            obtain ⟨to, out⟩ := q
            have h0 := hl (to, out) (by simp)
            simp only at h0
            refine ihl _ (fun q hq => hl q (by simp [hq])) ?_ ?_
            · split
              · exact hS
              · exact comeG_wide updR (by omega) out 0 S hS
            · split
              · exact h
              · intro i hi
                have hi' := hi
                unfold Nm at hi'
                have hh := h i hi
                rw [rg_cell] at hh ⊢
                rw [show zeroR = updR.z from rfl] at hh ⊢
                rw [comeG_get updR (n := f.length) (by omega) out 0 S (by omega) hS]
                split
                · rename_i e
                  rw [← e.1]
                  exact up_has (wd_good hV hi) (.inl hh)
                · exact hh
        exact key2 _ S hfit hS h
    exact key f [] S rfl hS hP (hj V hV hRV)
  obtain ⟨S', c', a1, a2, a3, a4, a5, a6⟩ := iterG_end (fitsR hg) (keepsR hg) (fun S => ∀ V, GoodV V → HoldsR R V → HoldsR (rowG S 0) V) hJ1 (24 * f.length + 1) 0 (startR f R) (by omega) s1 s2 (fun V _ hV => by
    rw [startR_zero hg.1.1]
    exact hV)
  have e : flowRR f R = (S', c') := a1
  rw [e]
  exact ⟨⟨a2, a3, a6, a4⟩, by simp only; omega⟩
theorem EndR.goes {f : List Bk} {R : List Rng} {W : List (List Rng)} (h : EndR f R W) (hg : GoodF f) {k : Nat} {b : Bk} (hb : f[k]? = some b) {V : List Int} (hV : GoodV V) (hh : HoldsR (rowG W k) V) (hn : 0 ≤ goOn b (runC b.code V).2) : HoldsR (rowG W (goOn b (runC b.code V).2).toNat) (runC b.code V).2 := by
  have hk : k < f.length := (List.getElem?_eq_some_iff.1 hb).1
  have hgb := hg.2 b (List.mem_of_getElem? hb)
  have hrow := h.wide.row hk
  have hR := h.rows _ (List.mem_of_getElem? hrow.2)
  have h0 : (rg (rowG W k) 0).em = false := (hh 0 (by decide)).1
  rcases hR.first with ⟨h1, _⟩ | ⟨h1, hF⟩
  · rw [h0] at h1; cases h1
  have hrc := runC_good b.code hgb.1.2 hV
  have hout := stepR_holds b.code hgb.1.2 hF.1 hV hh
  have hfull := stepR_full b.code hgb.1.2 hF
  have ht := hout b.test hgb.2.1
  have htg := rg_full hfull hgb.2.1
  have hw0 := wd_good hrc.1 hgb.2.1
  -- what comes to the next block
  obtain ⟨o, ho1, ho2⟩ : ∃ o, (goOn b (runC b.code V).2, o) ∈ nxR b (rowG W k) ∧ HoldsR o (runC b.code V).2 := by
    unfold nxR
    rw [if_neg (by simp [h0])]
    by_cases hz : wd (runC b.code V).2 b.test = 0
    · refine ⟨(stepR b.code (rowG W k)).set b.test.toNat zeroR, List.mem_append.2 (.inr ?_), fun i hi => ?_⟩
      · have hlo : (rg (stepR b.code (rowG W k)) b.test).lo = 0 := by
          have := good_range htg.1
          omega
        rw [if_pos hlo]
        unfold goOn
        rw [if_neg (by simp [hz])]
        simp
      · rw [rg_set hfull.1.1 hgb.2.1 hi]
        by_cases e : i = b.test
        · rw [if_pos e, e, hz]; exact ⟨rfl, by simp, by simp⟩
        · rw [if_neg e]; exact hout i hi
    · refine ⟨stepR b.code (rowG W k), List.mem_append.2 (.inl ?_), hout⟩
      rw [if_pos (by omega)]
      unfold goOn
      rw [if_pos hz]
      simp
  have hst := h.still k b hb _ ho1 hn
  have hfit := fitsR hg b (List.mem_of_getElem? hb) _ hrow.1 hR _ ho1
  intro i hi
  have hi' := hi
  unfold Nm at hi'
  have := hst i.toNat (rg o i) (rg_get hfit.2 hi)
  rw [rg_cell, show zeroR = updR.z from rfl, ← this]
  exact up_has (wd_good hrc.1 hi) (.inr (ho2 i hi))
end Go.Proofs.Ytfndikfaibbjoaa.Am
