/- Flows in which what is known is told, and flows that lose what cannot be come to: they tell the same. No condition. -/
import Derived.Test.YtdbnokeegocpbaaGreatLRunMath
namespace Go.Proofs.YtdbnokeegocpbaaGreat.Am
open Go Go.RowKit
set_option linter.unusedSimpArgs false
set_option linter.unusedVariables false

/-! ### what is known is told -/
def foldI (R : List Fct) (x : Ins) : Ins := if x.op ≠ 8 ∧ (fc (stepF1 R x) x.dst).known = true then ⟨1, x.dst, 0, 0, (fc (stepF1 R x) x.dst).n⟩ else x
def foldC : List Ins → List Fct → List Ins
  | [], _ => []
  | x :: l, R => foldI R x :: foldC l (stepF1 R x)
def foldB (R : List Fct) (b : Bk) : Bk :=
  if (fc R 0).top = true then b else
    let t := fc (stepF b.code R) b.test
    if t.known = true then (if t.n = 0 then ⟨foldC b.code R, b.test, b.els, b.els⟩ else ⟨foldC b.code R, b.test, b.thn, b.thn⟩) else ⟨foldC b.code R, b.test, b.thn, b.els⟩
def foldAll (f : List Bk) (vars : List Fct) : List Bk := List.zipWith foldB (flowF true f vars) f
theorem foldC_len : ∀ (l : List Ins) (R : List Fct), (foldC l R).length = l.length
  | [], _ => rfl
  | x :: l, R => by simp [foldC, foldC_len l]
theorem stepF_snoc (l : List Ins) (x : Ins) (R : List Fct) : stepF (l ++ [x]) R = stepF1 (stepF l R) x := by simp [stepF]
theorem foldC_snoc : ∀ (l : List Ins) (x : Ins) (R : List Fct), foldC (l ++ [x]) R = foldC l R ++ [foldI (stepF l R) x]
  | [], x, R => rfl
  | y :: l, x, R => by
    show foldI R y :: foldC (l ++ [x]) (stepF1 R y) = _
    rw [foldC_snoc l x]
    rfl
theorem runC_fold : ∀ (l : List Ins) {R : List Fct} {V : List Int}, (∀ x ∈ l, GoodI x) → R.length = 8 → V.length = 8 → HoldsF R V → runC (foldC l R) V = runC l V
  | [], R, V, _, _, _, _ => rfl
  | x :: l, R, V, hl, hR, hV, h => by
    have hx := hl x (by simp)
    have hd := hx.names.1
    have hl' : ∀ y ∈ l, GoodI y := fun y hy => hl y (by simp [hy])
    rw [foldC, runC, runC]
    by_cases h8 : x.op = 8
    · have e1 : foldI R x = x := by unfold foldI; rw [if_neg (fun hh => hh.1 h8)]
      have e2 : stepF1 R x = R := by unfold stepF1; rw [if_pos h8]
      rw [e1, e2, if_pos h8, if_pos h8, runC_fold l hl' hR hV h]
    · have e2 : stepF1 R x = R.set x.dst.toNat (factI x R) := by unfold stepF1; rw [if_neg h8]
      have hf := factI_holds h hx h8
      have hnext : HoldsF (stepF1 R x) (V.set x.dst.toNat (valI x V)) := by
        rw [e2]
        intro i hi
        rw [fc_set hR hd hi, wd_set hV hd hi]
        by_cases e : i = x.dst
        · rw [if_pos e, if_pos e]; exact hf
        · rw [if_neg e, if_neg e]; exact h i hi
      have e3 : fc (stepF1 R x) x.dst = factI x R := by rw [e2, fc_set hR hd hd, if_pos rfl]
      have ih := runC_fold l (R := stepF1 R x) (V := V.set x.dst.toNat (valI x V)) hl' (by rw [e2]; simpa using hR) (by simpa using hV) hnext
      rw [if_neg h8]
      by_cases hk : (factI x R).known = true
      · have e1 : foldI R x = ⟨1, x.dst, 0, 0, (factI x R).n⟩ := by
          unfold foldI
          rw [e3, if_pos ⟨h8, hk⟩]
        have e4 : valI (⟨1, x.dst, 0, 0, (factI x R).n⟩ : Ins) V = valI x V := by
          rw [hf.2 hk]
          rfl
        rw [e1, if_neg (by simp), e4]
        exact ih
      · have e1 : foldI R x = x := by
          unfold foldI
          rw [e3, if_neg (fun hh => hk hh.2)]
        rw [e1, if_neg h8]
        exact ih
theorem foldAll_get {f : List Bk} {vars : List Fct} (hw : Wide f.length (flowF true f vars)) {k : Nat} {b : Bk} (hb : f[k]? = some b) : (foldAll f vars)[k]? = some (foldB (rowG (flowF true f vars) k) b) := by
  have hk := (List.getElem?_eq_some_iff.1 hb).1
  unfold foldAll
  rw [List.getElem?_zipWith, (hw.row hk).2, hb]
theorem foldAll_len {f : List Bk} {vars : List Fct} (hw : Wide f.length (flowF true f vars)) : (foldAll f vars).length = f.length := by
  unfold foldAll
  rw [List.length_zipWith, hw.1]
  omega
theorem run_fold {f : List Bk} (hg : GoodF f) {vars : List Fct} (hE : EndF true f vars (flowF true f vars)) : ∀ (m : Nat) (i : Int) (V : List Int), i ≤ (f.length : Int) - 1 → V.length = 8 → (0 ≤ i → HoldsF (rowG (flowF true f vars) i.toNat) V) → runFl (foldAll f vars) m i V = runFl f m i V
  | m, i, V, hi, hV, h => by
    by_cases hn : i < 0
    · rw [runFl_neg f m hn, runFl_neg _ m hn]
    match m with
    | 0 => rw [runFl_none f hn, runFl_none _ hn]
    | m + 1 =>
      obtain ⟨b1, b2⟩ := blk_get (f := f) (by omega) hi
      have hgb := hg.2 _ b2
      have hk := (List.getElem?_eq_some_iff.1 b1).1
      have hd : blkAt (foldAll f vars) i = foldB (rowG (flowF true f vars) i.toNat) (blkAt f i) := by
        unfold blkAt; rw [List.getD_eq_getElem?_getD, foldAll_get hE.wide b1]; rfl
      have hh := h (by omega)
      have hrow := hE.wide.row hk
      have hgo := hE.goes hg b1 hV hh
      generalize hb : blkAt f i = b at *
      rw [runFl_more f m hn, runFl_more (foldAll f vars) m hn, hd, hb]
      have h0 : ((fc (rowG (flowF true f vars) i.toNat) 0).top) = false := (hh 0 (by decide)).1
      have hout := stepF_holds b.code hgb.1.2 hrow.1 hV hh
      have hrun := runC_fold b.code hgb.1.2 hrow.1 hV hh
      have hcode : (foldB (rowG (flowF true f vars) i.toNat) b).code = foldC b.code (rowG (flowF true f vars) i.toNat) := by
        unfold foldB
        rw [if_neg (by simp [h0])]
        simp only
        split
        · split <;> rfl
        · rfl
      have hgoe : goOn (foldB (rowG (flowF true f vars) i.toNat) b) (runC b.code V).2 = goOn b (runC b.code V).2 := by
        have ht := hout b.test hgb.2.1
        unfold foldB
        rw [if_neg (by simp [h0])]
        simp only
        split
        · rename_i hkn
          have ht2 := ht.2 hkn
          split
          · rename_i hz
            unfold goOn
            simp [ht2, hz]
          · rename_i hz
            unfold goOn
            simp [ht2, hz]
        · rfl
      rw [hcode, hrun, hgoe]
      have hfit := goOn_fit hg b2 (runC b.code V).2
      rw [run_fold hg hE m _ _ hfit.2 (by rw [runC_len]; exact hV) hgo]
/-! ### what cannot be come to is lost -/
def addR (L : List Int) (t : Int) : List Int := if 0 ≤ t ∧ t ∉ L then L ++ [t] else L
def reachL (f : List Bk) : Nat → Nat → List Int → List Int
  | 0, _, L => L
  | m + 1, k, L => match L[k]? with
    | none => L
    | some i => reachL f m (k + 1) (addR (addR L (blkAt f i).thn) (blkAt f i).els)
def reached (f : List Bk) : List Int := reachL f (f.length + 1) 0 [0]
structure Reach (f : List Bk) (k : Nat) (L : List Int) : Prop where
  nodup : L.Nodup
  fit : ∀ i ∈ L, 0 ≤ i ∧ i ≤ (f.length : Int) - 1
  done : ∀ (j : Nat) (i : Int), j < k → L[j]? = some i → (0 ≤ (blkAt f i).thn → (blkAt f i).thn ∈ L) ∧ (0 ≤ (blkAt f i).els → (blkAt f i).els ∈ L)
  zero : 0 ∈ L
  few : k ≤ L.length
theorem nodup_len : ∀ {n : Nat} {L : List Int}, L.Nodup → (∀ i ∈ L, 0 ≤ i ∧ i ≤ (n : Int) - 1) → L.length ≤ n
  | 0, [], _, _ => Nat.le_refl _
  | 0, i :: L, _, h => by have := h i (by simp); omega
  | n + 1, L, hn, h => by
    by_cases hm : (n : Int) ∈ L
    · have := nodup_len (n := n) (L := L.erase (n : Int)) (hn.erase _) fun i hi => by
        have h1 := h i (List.mem_of_mem_erase hi)
        have h2 : i ≠ n := fun e => by
          rw [hn.mem_erase_iff] at hi
          exact hi.1 e
        omega
      rw [List.length_erase_of_mem hm] at this
      omega
    · have := nodup_len (n := n) hn fun i hi => by
        have h1 := h i hi
        have h2 : i ≠ n := fun e => hm (e ▸ hi)
        omega
      omega
theorem addR_sub {L : List Int} {t i : Int} (h : i ∈ L) : i ∈ addR L t := by
  unfold addR
  split
  · simp [h]
  · exact h
theorem addR_in {L : List Int} {t : Int} (h : 0 ≤ t) : t ∈ addR L t := by
  unfold addR
  split
  · simp
  · rename_i hn
    exact Classical.byContradiction fun hh => hn ⟨h, hh⟩
theorem addR_get {L : List Int} {t : Int} {j : Nat} (h : j < L.length) : (addR L t)[j]? = L[j]? := by
  unfold addR
  split
  · rw [List.getElem?_append_left h]
  · rfl
theorem addR_len {L : List Int} {t : Int} : L.length ≤ (addR L t).length := by
  unfold addR
  split <;> simp
theorem addR_ok {L : List Int} {t : Int} {n : Nat} (h : L.Nodup ∧ ∀ i ∈ L, 0 ≤ i ∧ i ≤ (n : Int) - 1) (ht : t ≤ (n : Int) - 1) : (addR L t).Nodup ∧ ∀ i ∈ addR L t, 0 ≤ i ∧ i ≤ (n : Int) - 1 := by
  unfold addR
  split
  · rename_i hc
    refine ⟨List.nodup_append.2 ⟨h.1, by simp, fun a ha b hb e => ?_⟩, fun i hi => ?_⟩
    · simp at hb; subst hb; subst e; exact hc.2 ha
    · rcases List.mem_append.1 hi with hi | hi
      · exact h.2 i hi
      · simp at hi; subst hi; exact ⟨hc.1, ht⟩
  · exact h
theorem Reach.step {f : List Bk} (hg : GoodF f) {k : Nat} {L : List Int} (h : Reach f k L) {i : Int} (hi : L[k]? = some i) : Reach f (k + 1) (addR (addR L (blkAt f i).thn) (blkAt f i).els) := by
  have hmem := List.mem_of_getElem? hi
  have hfit := h.fit i hmem
  obtain ⟨b1, b2⟩ := blk_get hfit.1 hfit.2
  have hgb := hg.2 _ b2
  generalize blkAt f i = b at *
  have a1 := addR_ok ⟨h.nodup, h.fit⟩ hgb.2.2.1.2
  have a2 := addR_ok a1 hgb.2.2.2.2
  have hk := (List.getElem?_eq_some_iff.1 hi).1
  refine ⟨a2.1, a2.2, fun j i' hj hi' => ?_, addR_sub (addR_sub h.zero), ?_⟩
  · have hjl : j < L.length := by omega
    rw [addR_get (Nat.lt_of_lt_of_le hjl addR_len), addR_get hjl] at hi'
    by_cases e : j = k
    · subst e
      rw [hi] at hi'
      cases hi'
      have e2 : blkAt f i = b := by unfold blkAt; rw [List.getD_eq_getElem?_getD, b1]; rfl
      rw [e2]
      exact ⟨fun h0 => addR_sub (addR_in h0), fun h0 => addR_in h0⟩
    · have := h.done j i' (by omega) hi'
      exact ⟨fun h0 => addR_sub (addR_sub (this.1 h0)), fun h0 => addR_sub (addR_sub (this.2 h0))⟩
  · have l1 := addR_len (L := L) (t := b.thn)
    have l2 := addR_len (L := addR L b.thn) (t := b.els)
    omega
theorem reachL_end {f : List Bk} (hg : GoodF f) : ∀ (m k : Nat) (L : List Int), f.length + 1 ≤ m + k → Reach f k L → Reach f (reachL f m k L).length (reachL f m k L)
  | 0, k, L, hm, h => by
    have := nodup_len h.nodup h.fit
    have := h.few
    omega
  | m + 1, k, L, hm, h => by
    rw [reachL]
    cases e : L[k]? with
    | none =>
      simp only
      have := List.getElem?_eq_none_iff.1 e
      have e2 : k = L.length := by have := h.few; omega
      rw [← e2]
      exact h
    | some i => exact reachL_end hg m (k + 1) _ (by omega) (h.step hg e)
theorem reach_zero {f : List Bk} (hg : GoodF f) : Reach f 0 [0] := ⟨by simp, fun i hi => by have := hg.1.1; simp at hi; omega, fun j i hj => by omega, by simp, by simp⟩
theorem reached_end {f : List Bk} (hg : GoodF f) : Reach f (reached f).length (reached f) := reachL_end hg _ 0 _ (by omega) (reach_zero hg)
/-- The blocks that are kept, rising. -/
def lostL (f : List Bk) : List Int := ((List.range f.length).filter fun j : Nat => decide ((j : Int) ∈ reached f)).map fun j : Nat => (j : Int)
def numI (f : List Bk) (i : Int) : Int := if i ∈ reached f then (((List.range i.toNat).filter fun j : Nat => decide ((j : Int) ∈ reached f)).length : Nat) else -1
def renI (f : List Bk) (t : Int) : Int := if 0 ≤ t then numI f t else t
def renB (f : List Bk) (b : Bk) : Bk := ⟨b.code, b.test, renI f b.thn, renI f b.els⟩
def lostAll (f : List Bk) : List Bk := (lostL f).map fun i => renB f (blkAt f i)
def numL (f : List Bk) : List Int := (List.range f.length).map fun j : Nat => numI f (j : Int)
theorem mem_lostL {f : List Bk} (hg : GoodF f) (i : Int) : i ∈ lostL f ↔ i ∈ reached f := by
  unfold lostL
  simp only [List.mem_map, List.mem_filter, List.mem_range, decide_eq_true_eq]
  constructor
  · rintro ⟨j, ⟨_, h⟩, rfl⟩; exact h
  · intro h
    have := (reached_end hg).fit i h
    obtain ⟨j, rfl⟩ := Int.eq_ofNat_of_zero_le this.1
    exact ⟨j, ⟨by omega, h⟩, rfl⟩
theorem filter_at (p : Nat → Bool) : ∀ (n i : Nat), i < n → p i = true → ((List.range n).filter p)[((List.range i).filter p).length]? = some i
  | 0, i, h, _ => by omega
  | n + 1, i, h, hp => by
    rw [List.range_succ, List.filter_append]
    by_cases e : i = n
    · subst e
      rw [List.getElem?_append_right (by omega)]
      simp [hp]
    · have ih := filter_at p n i (by omega) hp
      rw [List.getElem?_append_left (List.getElem?_eq_some_iff.1 ih).1]
      exact ih
theorem lostL_at {f : List Bk} (hg : GoodF f) {i : Int} (h : i ∈ reached f) : 0 ≤ numI f i ∧ (lostL f)[(numI f i).toNat]? = some i := by
  have hf := (reached_end hg).fit i h
  obtain ⟨j, rfl⟩ := Int.eq_ofNat_of_zero_le hf.1
  unfold numI
  rw [if_pos h]
  refine ⟨by omega, ?_⟩
  unfold lostL
  rw [List.getElem?_map, Int.toNat_natCast, Int.toNat_natCast, filter_at _ f.length j (by omega) (by simpa using h)]
  rfl
theorem reached_goes {f : List Bk} (hg : GoodF f) {i : Int} (h : i ∈ reached f) (V : List Int) (h0 : 0 ≤ goOn (blkAt f i) V) : goOn (blkAt f i) V ∈ reached f := by
  obtain ⟨j, hj⟩ := List.mem_iff_getElem?.1 h
  have := (reached_end hg).done j i (List.getElem?_eq_some_iff.1 hj).1 hj
  unfold goOn at h0 ⊢
  split at h0
  · rename_i ht
    rw [if_pos ht]; exact this.1 h0
  · rename_i ht
    rw [if_neg ht]; exact this.2 h0
theorem run_lost {f : List Bk} (hg : GoodF f) : ∀ (m : Nat) (i : Int) (V : List Int), (0 ≤ i → i ∈ reached f) →
    (runFl (lostAll f) m (renI f i) V).1 = (runFl f m i V).1 ∧ (runFl (lostAll f) m (renI f i) V).2.1 = (runFl f m i V).2.1 ∧ (runFl (lostAll f) m (renI f i) V).2.2.1.length = (runFl f m i V).2.2.1.length ∧ (runFl (lostAll f) m (renI f i) V).2.2.2 = (runFl f m i V).2.2.2
  | m, i, V, h => by
    by_cases hn : i < 0
    · have : renI f i = i := by unfold renI; rw [if_neg (by omega)]
      rw [this, runFl_neg f m hn, runFl_neg _ m hn]; simp
    have hr := h (by omega)
    obtain ⟨l1, l2⟩ := lostL_at hg hr
    have hren : renI f i = numI f i := by unfold renI; rw [if_pos (by omega)]
    rw [hren]
    match m with
    | 0 => rw [runFl_none f hn, runFl_none _ (by omega)]; simp
    | m + 1 =>
      have hd : blkAt (lostAll f) (numI f i) = renB f (blkAt f i) := by
        unfold lostAll blkAt
        rw [List.getD_eq_getElem?_getD, List.getElem?_map, l2]; rfl
      have hgo := reached_goes hg hr
      generalize hb : blkAt f i = b at *
      rw [runFl_more f m hn, runFl_more (lostAll f) m (by omega), hd, hb]
      have hcode : (renB f b).code = b.code := rfl
      have hgoe : goOn (renB f b) (runC b.code V).2 = renI f (goOn b (runC b.code V).2) := by
        unfold goOn renB
        simp only
        split <;> rfl
      rw [hcode, hgoe]
      obtain ⟨i1, i2, i3, i4⟩ := run_lost hg m (goOn b (runC b.code V).2) (runC b.code V).2 (hgo _)
      exact ⟨by rw [i1], i2, by simp [i3], i4⟩
end Go.Proofs.YtdbnokeegocpbaaGreat.Am
