/- Sets of names as arrays of eight truths. No condition. -/
import Derived.Test.YtdbnokeegocpbaaGreatLLive
namespace Go.Proofs.YtdbnokeegocpbaaGreat.Am
open Go Go.RowKit
set_option linter.unusedSimpArgs false
set_option linter.unusedVariables false

abbrev tB : Ty := ⟨.bool, 1, 1, [.bool false], false⟩
abbrev tS8 : Ty := ⟨.arr 8 4, 8, 8, List.replicate 8 (.bool false), true⟩
def Set8 (c : List AV) (S : Int → Prop) : Prop := c.length = 8 ∧ ∀ j : Nat, j < 8 → ∃ t, c[j]? = some (.bool t) ∧ (t = true ↔ S j)
theorem Set8.congr {c : List AV} {S S' : Int → Prop} (h : Set8 c S) (e : ∀ n, Nm n → (S n ↔ S' n)) : Set8 c S' := ⟨h.1, fun j hj => by
  obtain ⟨t, h1, h2⟩ := h.2 j hj
  exact ⟨t, h1, h2.trans (e j (by unfold Nm; omega))⟩⟩
theorem Set8.none : Set8 (List.replicate 8 (.bool false)) (fun _ => False) := ⟨by simp, fun j hj => ⟨false, by rw [List.getElem?_replicate, if_pos hj], by simp⟩⟩
theorem Set8.put {c : List AV} {S : Int → Prop} (h : Set8 c S) {j : Nat} (hj : j < 8) (t : Bool) : Set8 (over c j [.bool t]) (fun n => (n = j ∧ t = true) ∨ (n ≠ j ∧ S n)) := by
  refine ⟨by rw [over_length _ _ _ (by simp [h.1]; omega)]; exact h.1, fun i hi => ?_⟩
  rw [over_get _ _ _ (by rw [h.1]; omega)]
  by_cases e : i = j
  · subst e
    exact ⟨t, by simp, by simp⟩
  · rw [if_neg (by simp; omega)]
    obtain ⟨t', h1, h2⟩ := h.2 i hi
    refine ⟨t', h1, h2.trans ?_⟩
    have : (i : Int) ≠ j := by omega
    simp [this]
theorem Set8.one {c : List AV} {S : Int → Prop} (h : Set8 c S) : c.all AV.one = true := by
  rw [List.all_eq_true]
  intro a ha
  obtain ⟨i, hi, rfl⟩ := List.getElem_of_mem ha
  obtain ⟨t, h1, _⟩ := h.2 i (by rw [← h.1]; exact hi)
  rw [List.getElem?_eq_getElem hi] at h1
  rw [Option.some.inj h1]
  rfl
theorem Set8.fit {c : List AV} {S : Int → Prop} (h : Set8 c S) : c.all (fitCell tab 4) = true := by
  rw [List.all_eq_true]
  intro a ha
  obtain ⟨i, hi, rfl⟩ := List.getElem_of_mem ha
  obtain ⟨t, h1, _⟩ := h.2 i (by rw [← h.1]; exact hi)
  rw [List.getElem?_eq_getElem hi] at h1
  rw [Option.some.inj h1]
  rfl
theorem eqCells_same : ∀ (l : List AV), l.all (fitCell tab 4) = true → eqCells l l = true
  | [], _ => rfl
  | a :: l, h => by
    simp only [List.all_cons, Bool.and_eq_true] at h
    have h1 := h.1
    cases a <;> simp only [fitCell] at h1 <;> try (simp at h1; done)
    all_goals simp [eqCells, eqCells_same l h.2]
theorem eqCells_eq : ∀ (l r : List AV), l.length = r.length → l.all (fitCell tab 4) = true → r.all (fitCell tab 4) = true → eqCells l r = true → l = r
  | [], r, hn, _, _, _ => by cases r <;> simp at hn; rfl
  | a :: l, [], hn, _, _, _ => by simp at hn
  | a :: l, b :: r, hn, hl, hr, he => by
    simp only [List.all_cons, Bool.and_eq_true] at hl hr
    have h1 := hl.1
    have h2 := hr.1
    cases a <;> simp only [fitCell] at h1 <;> try (simp [tab] at h1; done)
    cases b <;> simp only [fitCell] at h2 <;> try (simp [tab] at h2; done)
    simp only [eqCells, Bool.and_eq_true, beq_iff_eq] at he
    rw [he.1, eqCells_eq l r (by simpa using hn) hl.2 hr.2 he.2]
theorem Set8.load {K : Hp} {b sz : Nat} {rw' : Bool} {c : List AV} {S : Int → Prop} (h : Set8 c S) (hb : K[b]? = some (some ⟨sz, rw', c⟩)) : loadA tS8 K (.ptr b 0) = some (.agg c) := by
  simp only [loadA, hb]
  have := h.1
  simp [this, List.take_of_length_le]
theorem Set8.at {K : Hp} {b sz : Nat} {rw' : Bool} {c : List AV} {S : Int → Prop} (h : Set8 c S) (hb : K[b]? = some (some ⟨sz, rw', c⟩)) {j : Nat} (hj : j < 8) : ∃ t, loadA tB K (.ptr b j) = some (.bool t) ∧ (t = true ↔ S j) := by
  obtain ⟨t, h1, h2⟩ := h.2 j hj
  exact ⟨t, load_at hb rfl rfl h1, h2⟩
theorem Set8.store {K : Hp} {b sz : Nat} {c : List AV} {S : Int → Prop} (h : Set8 c S) (hb : K[b]? = some (some ⟨sz, true, c⟩)) {j : Nat} (hj : j < 8) (t : Bool) :
    ∃ K', storeA tB K (.ptr b j) (.bool t) = some K' ∧ K'[b]? = some (some ⟨sz, true, over c j [.bool t]⟩) ∧ Keeps (fun c => c = b) K K' ∧ K'.length = K.length :=
  store_at hb rfl rfl rfl (by simp [h.1]; omega)
theorem Set8.over {K : Hp} {b sz : Nat} {c c0 : List AV} {S : Int → Prop} (h : Set8 c S) (hb : K[b]? = some (some ⟨sz, true, c0⟩)) (h0 : c0.length = 8) :
    ∃ K', storeA tS8 K (.ptr b 0) (.agg c) = some K' ∧ K'[b]? = some (some ⟨sz, true, c⟩) ∧ Keeps (fun c => c = b) K K' ∧ K'.length = K.length := by
  obtain ⟨K', k1, k2, k3, k4⟩ := store_at (ty := tS8) (v := .agg c) (o := 0) hb rfl (by simp [h.1]) h.one (by simp [h0])
  refine ⟨K', k1, ?_, k3, k4⟩
  rw [k2]
  have hc8 := h.1
  have : Am.over c0 0 c = c := by
    apply List.ext_getElem?
    intro i
    have hc8 := h.1
    rw [over_get _ _ _ (by omega)]
    by_cases hi : i < c.length
    · rw [if_pos (by omega)]; simp
    · rw [if_neg (by omega), List.getElem?_eq_none (by omega), List.getElem?_eq_none (by omega)]
  show some (some (⟨sz, true, Am.over c0 0 c⟩ : Blk)) = _
  rw [this]
theorem idx8 {K : Hp} {b o : Nat} {blk : Blk} (hb : K[b]? = some (some blk)) (h8 : o + 8 ≤ blk.cells.length) {j : Nat} (hj : j < 8) (k : IntKind) : indexAddrA tab (.arr 8 4) K (.ptr b o) (.int k (j : Int)) = some (.ptr b (o + j)) := by
  have hj' : (j : Int) < 8 := by omega
  simp [indexAddrA, tab, hb, h8, hj']
theorem idx8' {c : List AV} {S : Int → Prop} (h : Set8 c S) {j : Nat} (hj : j < 8) (k : IntKind) : ∃ t, indexA tab 8 4 (.agg c) (.int k (j : Int)) = some (.bool t) ∧ (t = true ↔ S j) := by
  obtain ⟨t, h1, h2⟩ := h.2 j hj
  refine ⟨t, ?_, h2⟩
  have hj' : (j : Int) < 8 := by omega
  simp [indexA, tab, hj', h1, h.1]
theorem setOf_ok (L : List Int) (v : AV) (H : Hp) (hm : L.length ≤ 1048576) (hg : ∀ n ∈ L, Nm n) (hv : Row 1 H v (ints L)) : T Tryz.prog 40 [v] H (fun r K => (∃ c, r = .agg c ∧ Set8 c (· ∈ L)) ∧ Fr H K) := by
  refine T.by tabOk Tryz.func40 (by kernel_rfl) rfl _ (by simp [Tryz.f40]) H _ ?_
  have hlen := hv.len 3
  simp [Tryz.f40, tab, hlen, buildA, -List.reduceReplicate]
  refine W_loop _ fun I hI => ?_
  have key : ∀ (r p : List Int) (ts : TS) (K : Hp) (c c0 : List AV), L = p ++ r → K[H.length]? = some (some ⟨8, true, c0⟩) → c0.length = 8 → K[H.length + 1]? = some (some ⟨8, true, c⟩) → Set8 c (· ∈ p) → Fr H K → (ts 2 = .ptr H.length 0 ∧ ts 3 = .ptr (H.length + 1) 0 ∧ ts 7 = v ∧ ts 8 = .int .i64 L.length ∧ ts 9 = .int .i64 p.length) → I ts K := by
    intro r
    induction r with
    | nil =>
      intro p ts K c c0 e h0 h00 h1 hs hK hts
      apply hI
      simp at e
      subst e
      obtain ⟨K', k1, k2, k3, k4⟩ := hs.over h0 h00
      have hl := hs.load h1
      have hl' := hs.load k2
      simp [hts, tab, hl, k1, hl', -List.reduceReplicate]
      exact ⟨hs, Fr.then hK k3 (by rintro b rfl; exact Nat.le_refl _)⟩
    | cons a r ih =>
      intro p ts K c c0 e h0 h00 h1 hs hK hts
      apply hI
      have hlt : (p.length : Int) < L.length := by simp [e]; omega
      obtain ⟨b, q, _, e1, e2⟩ := Row.get1 (hv.fr hK) (tab := tab) (e := 3) (ety := tI) rfl rfl rfl (i := p.length) (a := a) (by simp [e]) .i64
      have hw := wrap64 (x := p.length + 1) (by omega) (by omega)
      have ha : Nm a := hg a (by simp [e])
      unfold Nm at ha
      obtain ⟨j, rfl⟩ := Int.eq_ofNat_of_zero_le ha.1
      have hj : j < 8 := by omega
      have hj' : (j : Int) < 8 := by omega
      obtain ⟨K', k1, k2, k3, k4⟩ := hs.store h1 hj true
      have i8 := idx8 (o := 0) h1 (by simp [hs.1]) hj .i64
      simp only [Nat.zero_add] at i8
      have h0' : K'[H.length]? = some (some ⟨8, true, c0⟩) := k3.2 _ _ h0 (by simp)
      simp [hts, tab, hlt, e1, e2, hw, i8, k1, -List.reduceReplicate]
      refine ih (p ++ [(j : Int)]) _ _ _ _ (by simp [e]) h0' h00 k2 ((hs.put hj true).congr fun n _ => ?_) (Fr.then hK k3 (by rintro b rfl; omega)) (by simp [hts])
      by_cases hn : n = j <;> simp [hn]
  refine key L [] _ _ (List.replicate 8 (.bool false)) (List.replicate 8 (.bool false)) rfl (by simp [-List.reduceReplicate]) (by simp [-List.reduceReplicate]) (by simp [-List.reduceReplicate]) (Set8.none.congr (by simp)) (Fr.app H _) (by simp)
theorem listOf_ok (c : List AV) (S : Int → Prop) (H : Hp) (hc : Set8 c S) : T Tryz.prog 38 [.agg c] H (fun r K => (∃ L, Own 1 K r (ints L) ∧ GoodN L ∧ ∀ n, n ∈ L ↔ Nm n ∧ S n) ∧ Fresh H.length r ∧ Fr H K) := by
  refine T.by tabOk Tryz.func38 (by kernel_rfl) rfl _ (by simp [Tryz.f38]) H _ ?_
  have hone := hc.one
  have hl := hc.load (K := H ++ [some ⟨8, true, c⟩]) (b := H.length) (sz := 8) (rw' := true) (by simp)
  simp only [List.all_eq_true] at hone
  have hone := eq_true hone
  have hc8 := hc.1
  have ht8 : List.take 8 c = c := List.take_of_length_le (Nat.le_of_eq hc8)
  have h88 : 8 ≤ c.length := Nat.le_of_eq hc8.symm
  simp [Tryz.f38, tab, buildSliceA, zerosA, fillA, over, hone, ht8, h88, -List.reduceReplicate]
  refine W_loop _ fun I hI => ?_
  have key : ∀ (r i : Nat) (ts : TS) (K : Hp) (u : AV) (L : List Int), i + r = 8 → Own 1 K u (ints L) → GoodN L → (∀ n, n ∈ L ↔ (0 ≤ n ∧ n < i) ∧ S n) → Fresh H.length u → Fr H K → (ts 3 = u ∧ ts 7 = .agg c ∧ ts 8 = .int .i64 i) → I ts K := by
    intro r
    induction r with
    | zero =>
      intro i ts K u L e ho hg hL hf hK hts
      apply hI
      obtain rfl : i = 8 := by omega
      simp [hts, tab]
      exact ⟨⟨L, ho, hg, fun n => (hL n).trans (by unfold Nm; constructor <;> (rintro ⟨h1, h2⟩; exact ⟨by omega, h2⟩))⟩, hf, hK⟩
    | succ r ih =>
      intro i ts K u L e ho hg hL hf hK hts
      apply hI
      have hi : i < 8 := by omega
      have hi' : (i : Int) < 8 := by omega
      obtain ⟨t, g1, g2⟩ := idx8' hc hi .i64
      have hw := wrap64 (x := i + 1) (by omega) (by omega)
      have hlen := goodN_few hg
      cases t with
      | false =>
        simp [hts, tab, hi', g1, hw]
        refine ih (i + 1) _ K u L (by omega) ho hg (fun n => (hL n).trans ?_) hf hK (by simp [hts])
        have : ¬ S i := fun h => by cases g2.2 h
        constructor
        · rintro ⟨h1, h2⟩; exact ⟨by omega, h2⟩
        · rintro ⟨h1, h2⟩
          refine ⟨⟨h1.1, ?_⟩, h2⟩
          rcases Int.lt_or_eq_of_le (Int.lt_add_one_iff.1 (by omega : n < (i : Int) + 1)) with h | h
          · exact h
          · subst h; exact absurd h2 this
      | true =>
        obtain ⟨u', K', a1, a2, a3, a4⟩ := ho.push (i : Int) (by omega)
        simp [hts, tab, hi', g1, hw, buildSliceA, zerosA, fillA, over, a1]
        have : S i := g2.1 rfl
        refine ih (i + 1) _ K' u' (L ++ [(i : Int)]) (by omega) a2 ⟨fun n hn => ?_, ?_⟩ (fun n => ?_) (fun b hb => (a4 b hb).elim (hf b) fun h => Nat.le_trans hK.1 h) (Fr.then hK a3 hf) (by simp [hts])
        · rcases List.mem_append.1 hn with hn | hn
          · exact hg.1 n hn
          · simp at hn; subst hn; unfold Nm; omega
        · refine List.pairwise_append.2 ⟨hg.2, by simp, fun x hx y hy => ?_⟩
          simp at hy
          subst hy
          have := ((hL x).1 hx).1
          omega
        · simp only [List.mem_append, List.mem_singleton, hL n]
          constructor
          · rintro (⟨h1, h2⟩ | rfl)
            · exact ⟨by omega, h2⟩
            · exact ⟨by omega, this⟩
          · rintro ⟨h1, h2⟩
            rcases Int.lt_or_eq_of_le (Int.lt_add_one_iff.1 (by omega : n < (i : Int) + 1)) with h | h
            · exact .inl ⟨⟨h1.1, h⟩, h2⟩
            · exact .inr h
  have hnew := Own.new (sz := 1) (K := H ++ [some ⟨c.length, true, c⟩]) (es := ints []) (ints_one _)
  exact key 8 0 _ _ (.sl (H.length + 1) 0 0) [] rfl (by simpa [ints] using hnew) ⟨by simp, by simp⟩ (by intro n; simp; omega) (fun b hb => by cases hb; omega) (Fr.app H _) (by simp)
end Go.Proofs.YtdbnokeegocpbaaGreat.Am
