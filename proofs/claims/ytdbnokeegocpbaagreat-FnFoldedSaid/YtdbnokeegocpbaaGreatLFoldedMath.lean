/- Folded flows, and flows that lost what cannot be come to, are good and run alike. No condition. -/
import Derived.Test.YtdbnokeegocpbaaGreatLFoldMath
import Derived.Test.YtdbnokeegocpbaaGreatLRun
namespace Go.Proofs.YtdbnokeegocpbaaGreat.Am
open Go Go.RowKit
set_option linter.unusedSimpArgs false
set_option linter.unusedVariables false

theorem GoodI.dst8 {x : Ins} (h : GoodI x) (h8 : x.op ≠ 8) : Nm x.dst := by
  rcases h with h | h | h | h
  · exact h.2.1
  · exact h.2.1
  · exact absurd h.1 h8
  · exact h.2.2.1
theorem foldI_good {R : List Fct} (hR : GoodFs R) {x : Ins} (hx : GoodI x) : GoodI (foldI R x) := by
  unfold foldI
  split
  next h =>
    have hd := hx.dst8 h.1
    have := (fc_good (stepF1_good hR hx) hd).1.1
    exact .inl ⟨rfl, hd, rfl, rfl, this.1, this.2⟩
  next h => exact hx
theorem foldC_good : ∀ (l : List Ins) {R : List Fct}, GoodFs R → (∀ x ∈ l, GoodI x) → ∀ y ∈ foldC l R, GoodI y
  | [], _, _, _, y, hy => by simp [foldC] at hy
  | x :: l, R, hR, hl, y, hy => by
    rw [foldC] at hy
    rcases List.mem_cons.1 hy with rfl | hy
    · exact foldI_good hR (hl x (by simp))
    · exact foldC_good l (stepF1_good hR (hl x (by simp))) (fun z hz => hl z (by simp [hz])) y hy
theorem foldB_good {n : Nat} {R : List Fct} (hR : RowF R) {b : Bk} (hb : GoodB n b) : GoodB n (foldB R b) := by
  unfold foldB
  split
  · exact hb
  next h0 =>
    rcases hR.top with ⟨h, _⟩ | ⟨_, hG⟩
    · exact absurd h h0
    have hc : GoodC (foldC b.code R) := ⟨by rw [foldC_len]; exact hb.1.1, foldC_good b.code hG hb.1.2⟩
    simp only
    split
    · split
      · exact ⟨hc, hb.2.1, hb.2.2.2, hb.2.2.2⟩
      · exact ⟨hc, hb.2.1, hb.2.2.1, hb.2.2.1⟩
    · exact ⟨hc, hb.2.1, hb.2.2.1, hb.2.2.2⟩
theorem fold_good {f : List Bk} (hg : GoodF f) {vars : List Fct} (hE : EndF true f vars (flowF true f vars)) : GoodF (foldAll f vars) := by
  have hlen := foldAll_len hE.wide
  refine ⟨by rw [hlen]; exact hg.1, fun b hb => ?_⟩
  obtain ⟨k, hk⟩ := List.mem_iff_getElem?.1 hb
  have hkl : k < f.length := by rw [← hlen]; exact (List.getElem?_eq_some_iff.1 hk).1
  have h1 := foldAll_get hE.wide (List.getElem?_eq_getElem hkl)
  rw [hk] at h1
  cases h1
  rw [hlen]
  have hrow := hE.wide.row hkl
  exact foldB_good (hE.rows _ (List.mem_of_getElem? hrow.2)) (hg.2 _ (List.getElem_mem hkl))
theorem lostAll_len (f : List Bk) : (lostAll f).length = (lostL f).length := by simp [lostAll]
theorem numI_fit {f : List Bk} (hg : GoodF f) {i : Int} (h : i ≤ (f.length : Int) - 1) : -1 ≤ renI f i ∨ i < -1 := by
  by_cases h0 : 0 ≤ i
  · left
    unfold renI numI
    rw [if_pos h0]
    split <;> omega
  · by_cases h1 : i = -1
    · left
      unfold renI
      rw [if_neg h0]
      omega
    · right; omega
theorem renI_fit {f : List Bk} (hg : GoodF f) {i : Int} (h0 : -1 ≤ i) (hi : 0 ≤ i → i ∈ reached f) : -1 ≤ renI f i ∧ renI f i ≤ ((lostAll f).length : Int) - 1 := by
  rw [lostAll_len]
  have hz : 0 ∈ reached f := (reached_end hg).zero
  obtain ⟨z1, z2⟩ := lostL_at hg hz
  have hzl := (List.getElem?_eq_some_iff.1 z2).1
  by_cases hn : 0 ≤ i
  · obtain ⟨l1, l2⟩ := lostL_at hg (hi hn)
    have := (List.getElem?_eq_some_iff.1 l2).1
    unfold renI
    rw [if_pos hn]
    omega
  · unfold renI
    rw [if_neg hn]
    omega
theorem lost_good {f : List Bk} (hg : GoodF f) : GoodF (lostAll f) := by
  have hz : 0 ∈ reached f := (reached_end hg).zero
  obtain ⟨z1, z2⟩ := lostL_at hg hz
  have hzl := (List.getElem?_eq_some_iff.1 z2).1
  have hle : (lostL f).length ≤ f.length := by
    unfold lostL
    rw [List.length_map]
    exact Nat.le_trans (List.length_filter_le _ _) (by simp)
  have h8 := hg.1.2
  refine ⟨by rw [lostAll_len]; omega, fun b hb => ?_⟩
  simp only [lostAll, List.mem_map] at hb
  obtain ⟨i, hi, rfl⟩ := hb
  have hir := (mem_lostL hg i).1 hi
  have hfi := (reached_end hg).fit i hir
  have hgb := hg.2 _ (blk_get (f := f) hfi.1 hfi.2).2
  obtain ⟨j, hj⟩ := List.mem_iff_getElem?.1 hir
  have hd := (reached_end hg).done j i (List.getElem?_eq_some_iff.1 hj).1 hj
  exact ⟨hgb.1, hgb.2.1, renI_fit hg hgb.2.2.1.1 hd.1, renI_fit hg hgb.2.2.2.1 hd.2⟩
theorem renI_zero {f : List Bk} (hg : GoodF f) : renI f 0 = 0 := by
  unfold renI numI
  rw [if_pos (by omega), if_pos (reached_end hg).zero]
  rfl
theorem runRes_fold {f : List Bk} (hg : GoodF f) {vars : List Fct} (hE : EndF true f vars (flowF true f vars)) {V : List Int} (hV : GoodV V) (hH : HoldsF vars V) : runRes (foldAll f vars) V 60 = runRes f V 60 := by
  have hr := run_fold hg hE 60 0 V (by have := hg.1.1; omega) hV.1 (fun _ => hE.first V hH)
  have hg2 := fold_good hg hE
  unfold runRes
  have e : (60 : Int).toNat = 60 := rfl
  rw [e, hr]
  by_cases h : (runFl f 60 0 V).2.2.2 = true
  · rw [if_pos ⟨⟨hg2, hV, by omega, by omega⟩, h⟩, if_pos ⟨⟨hg, hV, by omega, by omega⟩, h⟩]
  · rw [if_neg (fun h' => h h'.2), if_neg (fun h' => h h'.2)]
theorem runRes_lost {f : List Bk} (hg : GoodF f) {V : List Int} (hV : GoodV V) : (runRes (lostAll f) V 60).1 = (runRes f V 60).1 ∧ (runRes (lostAll f) V 60).2.1 = (runRes f V 60).2.1 ∧ (runRes (lostAll f) V 60).2.2 = (runRes f V 60).2.2 := by
  obtain ⟨r1, r2, r3, r4⟩ := run_lost hg 60 0 V (fun _ => (reached_end hg).zero)
  rw [renI_zero hg] at r1 r2 r3 r4
  have hg2 := lost_good hg
  unfold runRes
  have e : (60 : Int).toNat = 60 := rfl
  rw [e]
  by_cases h : (runFl f 60 0 V).2.2.2 = true
  · rw [if_pos ⟨⟨hg2, hV, by omega, by omega⟩, r4.trans h⟩, if_pos ⟨⟨hg, hV, by omega, by omega⟩, h⟩]
    exact ⟨r1, r2, by rw [r3]⟩
  · rw [if_neg (fun h' => h (r4.symm.trans h'.2)), if_neg (fun h' => h h'.2)]
    exact ⟨rfl, rfl, rfl⟩
end Go.Proofs.YtdbnokeegocpbaaGreat.Am
