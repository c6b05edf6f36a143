/- DropLost: what both ways lean on. No condition. -/
import Derived.Test.YtdbnokeegocpbaaLSortFew
import Derived.Test.YtdbnokeegocpbaaLCopyFlow
import Derived.Test.YtdbnokeegocpbaaLBack
namespace Go.Proofs.Ytdbnokeegocpbaa.Am
open Go Go.RowKit
set_option linter.unusedSimpArgs false
set_option linter.unusedVariables false

theorem pair_row (K : Hp) (x y : Int) : Row 1 (K ++ [some ⟨1, true, [.int .i64 x, .int .i64 y]⟩]) (.sl K.length 0 2) (ints [x, y]) := by
  have := (Own.new (sz := 1) (K := K) (es := ints [x, y]) (ints_one _)).row
  rw [ints_flatten] at this
  simpa [ints] using this
theorem FRow.spots {K : Hp} {v : AV} {l : List Bk} {us : List AV} (h : FRow K v l us) {i : Int} (h0 : 0 ≤ i) (h1 : i ≤ (l.length : Int) - 1) :
    ∃ b q u, us[i.toNat]? = some u ∧ indexAddrA tab (.slice 67) K v (.int .i64 i) = some (.ptr b q) ∧ loadA tK K (.ptr b q) = some (.agg (cellsB (blkAt l i) u)) ∧ loadA tI K (.ptr b (q + 2)) = some (.int .i64 (blkAt l i).thn) ∧ loadA tI K (.ptr b (q + 3)) = some (.int .i64 (blkAt l i).els) ∧ Row 5 K u ((blkAt l i).code.map Ins.enc) := by
  have hi := (blk_get (f := l) h0 h1).1
  have hlt : i.toNat < us.length := by rw [h.len]; exact (List.getElem?_eq_some_iff.1 hi).1
  have hu : us[i.toNat]? = some us[i.toNat] := List.getElem?_eq_getElem hlt
  have hz : (List.zipWith cellsB l us)[i.toNat]? = some (cellsB (blkAt l i) us[i.toNat]) := by rw [List.getElem?_zipWith, hu, hi]
  have hrow : Row 4 K v ((List.zipWith cellsB l us).map id) := by simpa using h.row
  obtain ⟨b, q, _, g1, g0, g2⟩ := Row.get (enc := id) (ety := tK) hrow (show tab 67 = some tK from rfl) hz .i64
  rw [Int.toNat_of_nonneg h0] at g1
  refine ⟨b, q, us[i.toNat], hu, g1, g0 rfl, ?_, ?_, h.inner _ _ _ hi hu⟩
  · simpa [cellsB] using g2 tI 2 rfl rfl (by decide)
  · simpa [cellsB] using g2 tI 3 rfl rfl (by decide)
open Classical in
noncomputable def lostRes (f : List Bk) : List Bk × List Int × Bool := if GoodF f then (lostAll f, numL f, true) else ([], [], false)
theorem lostL_len (f : List Bk) : (lostL f).length ≤ f.length := by
  unfold lostL
  rw [List.length_map]
  exact Nat.le_trans (List.length_filter_le _ _) (by simp)
theorem lostRes_few (f : List Bk) : (lostRes f).1.length ≤ 8 ∧ (∀ b ∈ (lostRes f).1, b.code.length ≤ 30) ∧ (lostRes f).2.1.length ≤ 8 := by
  unfold lostRes
  split
  next h =>
    have h8 := h.1.2
    refine ⟨?_, fun b hb => ?_, ?_⟩
    · have := lostL_len f
      simp only [lostAll, List.length_map]
      omega
    · simp only [lostAll, List.mem_map] at hb
      obtain ⟨i, hi, rfl⟩ := hb
      have hf := (reached_end h).fit i ((mem_lostL h i).1 hi)
      have := (h.2 _ (blk_get (f := f) hf.1 hf.2).2).1.1
      exact this
    · simp [numL]
      exact h8
  next h => simp
theorem foldl_pair (L : List Int) (x y : Int) : [x, y].foldl addR L = addR (addR L x) y := rfl
theorem foldl_len : ∀ (r : List Int) (L : List Int), (r.foldl addR L).length ≤ L.length + r.length
  | [], L => by simp
  | x :: r, L => by
    have := foldl_len r (addR L x)
    have h2 : (addR L x).length ≤ L.length + 1 := by unfold addR; split <;> simp
    simp at this ⊢
    omega
def LostS (f : List Bk) (H : Hp) (r : AV) (K : Hp) : Prop := ∃ out nv, r = .tup [out, nv, .bool (lostRes f).2.2] ∧ (∃ us, FRow K out (lostRes f).1 us) ∧ Row 1 K nv (ints (lostRes f).2.1) ∧ Fr H K
theorem LostS.no {f : List Bk} {H K : Hp} (h : ¬ GoodF f) (hK : Fr H K) : LostS f H (.tup [.nil, .nil, .bool false]) K := by
  have e : lostRes f = ([], [], false) := by unfold lostRes; rw [if_neg h]
  unfold LostS
  rw [e]
  exact ⟨.nil, .nil, rfl, ⟨[], (FOwn.nil K).look⟩, by simpa [ints] using (Own.nil 1 K).row, hK⟩
theorem LostS.yes {f : List Bk} {H K : Hp} {out nv : AV} {us : List AV} (h : GoodF f) (ho : FRow K out (lostAll f) us) (hn : Row 1 K nv (ints (numL f))) (hK : Fr H K) : LostS f H (.tup [out, nv, .bool true]) K := by
  have e : lostRes f = (lostAll f, numL f, true) := by unfold lostRes; rw [if_pos h]
  unfold LostS
  rw [e]
  exact ⟨out, nv, rfl, ⟨us, ho⟩, hn, hK⟩
/-- What the program's way returns: blocks that are its own, and apart. -/
def LostI (f : List Bk) (H : Hp) (r : AV) (K : Hp) : Prop := ∃ out nv us, r = .tup [out, nv, .bool (lostRes f).2.2] ∧ FOwn K out (lostRes f).1 us ∧ Own 1 K nv (ints (lostRes f).2.1) ∧ (∀ b, (out.at b ∨ ∃ u ∈ us, u.at b) → H.length ≤ b ∧ ¬ nv.at b) ∧ Fresh H.length nv ∧ Fr H K
theorem LostI.no {f : List Bk} {H K : Hp} (h : ¬ GoodF f) (hK : Fr H K) : LostI f H (.tup [.nil, .nil, .bool false]) K := by
  have e : lostRes f = ([], [], false) := by unfold lostRes; rw [if_neg h]
  unfold LostI
  rw [e]
  exact ⟨.nil, .nil, [], rfl, FOwn.nil K, by simpa [ints] using Own.nil 1 K, by rintro b (h | ⟨u, hu, _⟩); exact h.elim; simp at hu, Fresh.nil _, hK⟩
theorem LostI.yes {f : List Bk} {H K : Hp} {out nv : AV} {us : List AV} (h : GoodF f) (ho : FOwn K out (lostAll f) us) (hn : Own 1 K nv (ints (numL f))) (ha : ∀ b, (out.at b ∨ ∃ u ∈ us, u.at b) → H.length ≤ b ∧ ¬ nv.at b) (hf : Fresh H.length nv) (hK : Fr H K) : LostI f H (.tup [out, nv, .bool true]) K := by
  have e : lostRes f = (lostAll f, numL f, true) := by unfold lostRes; rw [if_pos h]
  unfold LostI
  rw [e]
  exact ⟨out, nv, us, rfl, ho, hn, ha, hf, hK⟩
end Go.Proofs.Ytdbnokeegocpbaa.Am
