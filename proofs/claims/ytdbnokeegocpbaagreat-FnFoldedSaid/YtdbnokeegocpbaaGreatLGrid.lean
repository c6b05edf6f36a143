/- Rows of rows of small structs. No condition. -/
import Derived.Test.YtdbnokeegocpbaaGreatLFlowMath
import Derived.Test.YtdbnokeegocpbaaGreatLCur
namespace Go.Proofs.YtdbnokeegocpbaaGreat.Am
open Go Go.RowKit
set_option linter.unusedSimpArgs false
set_option linter.unusedVariables false

def slotG (us : List AV) : List (List AV) := us.map fun u => [u]
/-- A grid that was made: rows of elements of three cells. -/
structure GOwn {α : Type} (enc : α → List AV) (K : Hp) (v : AV) (S : List (List α)) (us : List AV) : Prop where
  row : Own 1 K v (slotG us)
  len : us.length = S.length
  inner : ∀ (i : Nat) (t : List α) (u : AV), S[i]? = some t → us[i]? = some u → Own 3 K u (t.map enc)
  apart : ∀ (i j : Nat) (u u' : AV) (b : Nat), us[i]? = some u → us[j]? = some u' → i ≠ j → u.at b → ¬ u'.at b
  off : ∀ u ∈ us, ∀ b, u.at b → ¬ v.at b
variable {α : Type} {enc : α → List AV}
theorem GOwn.fr {K K' : Hp} {v : AV} {S : List (List α)} {us : List AV} (h : GOwn enc K v S us) (k : Fr K K') : GOwn enc K' v S us := ⟨h.row.fr k, h.len, fun i t u a b => (h.inner i t u a b).fr k, h.apart, h.off⟩
theorem GOwn.keeps {X : Nat → Prop} {K K' : Hp} {v : AV} {S : List (List α)} {us : List AV} (h : GOwn enc K v S us) (k : Keeps X K K') (hn : ∀ b, (v.at b ∨ ∃ u ∈ us, u.at b) → ¬ X b) : GOwn enc K' v S us := ⟨h.row.keeps k fun b hb => hn b (.inl hb), h.len, fun i t u a b => (h.inner i t u a b).keeps k fun c hc => hn c (.inr ⟨u, List.mem_of_getElem? b, hc⟩), h.apart, h.off⟩
theorem GOwn.lt {K : Hp} {v : AV} {S : List (List α)} {us : List AV} (h : GOwn enc K v S us) : ∀ b, (v.at b ∨ ∃ u ∈ us, u.at b) → b < K.length := by
  rintro b (hb | ⟨u, hu, hb⟩)
  · exact h.row.lt b hb
  · obtain ⟨i, hi⟩ := List.mem_iff_getElem?.1 hu
    have hil : i < S.length := by rw [← h.len]; exact (List.getElem?_eq_some_iff.1 hi).1
    exact (h.inner i S[i] u (List.getElem?_eq_getElem hil) hi).lt b hb
theorem GOwn.nil (K : Hp) : GOwn enc K .nil [] [] := ⟨by simpa [slotG] using Own.nil 1 K, rfl, by simp, by simp, by simp⟩
theorem GOwn.count {K : Hp} {v : AV} {S : List (List α)} {us : List AV} (h : GOwn enc K v S us) (e : Nat) : lenA (.slice e) v = some (.int .i64 S.length) := by
  have := h.row.row.len e
  rw [this]
  simp [slotG, h.len]
/-- A row of the grid. -/
theorem GOwn.get {K : Hp} {v : AV} {S : List (List α)} {us : List AV} (h : GOwn enc K v S us) {e : Nat} {ety : Ty} (he : tab e = some ety) (h1 : ety.size = 1) (h2 : ety.k.agg = false) {i : Nat} (hi : i < S.length) :
    ∃ b q u, us[i]? = some u ∧ indexAddrA tab (.slice e) K v (.int .i64 i) = some (.ptr b q) ∧ loadA ety K (.ptr b q) = some u ∧ Own 3 K u ((rowG S i).map enc) ∧ v.at b := by
  have hlt : i < us.length := by rw [h.len]; exact hi
  have hu : us[i]? = some us[i] := List.getElem?_eq_getElem hlt
  obtain ⟨b, q, a1, a2, a3⟩ := Row.get1 (f := fun u => u) h.row.row (tab := tab) he h1 h2 hu .i64
  have hr : S[i]? = some (rowG S i) := by unfold rowG; rw [List.getD_eq_getElem?_getD, List.getElem?_eq_getElem hi]; rfl
  exact ⟨b, q, us[i], hu, a2, a3, h.inner i _ _ hr hu, a1⟩
/-- One more row is put behind. -/
theorem GOwn.push {K : Hp} {v u : AV} {S : List (List α)} {us : List AV} {t : List α} (h : GOwn enc K v S us) (hu : Own 3 K u (t.map enc)) (hne : ∀ b, u.at b → ¬ (v.at b ∨ ∃ w ∈ us, w.at b)) (hl : S.length ≤ 1048576) :
    ∃ v' K', appendA 1 24 (K ++ [some ⟨1, true, [u]⟩]) v (.sl K.length 0 1) = some (v', K') ∧ GOwn enc K' v' (S ++ [t]) (us ++ [u]) ∧ Keeps v.at K K' ∧ ∀ b, v'.at b → v.at b ∨ K.length ≤ b := by
  have hu1 := hu.row.one
  obtain ⟨v', K', a1, a2, a3, a4⟩ := (h.row.fr (Fr.app K [some ⟨1, true, [u]⟩])).append (bytes := 24) (x := .sl K.length 0 1) (new := [[u]]) (by decide) (by simp [rowOf]) (by simp) (by simp [slotG, h.len]; omega) (by simp [slotG, h.len]; omega)
  have f4 : Keeps v.at K K' := (Fr.keeps (Fr.app K _)).trans a3
  have a5 : ∀ b, v'.at b → v.at b ∨ K.length ≤ b := fun b hb => (a4 b hb).elim .inl fun h => .inr (by simp at h; omega)
  have hlt := h.lt
  have hult := hu.lt
  refine ⟨v', K', a1, ⟨by simpa [slotG] using a2, by simp [h.len], ?_, ?_, ?_⟩, f4, a5⟩
  · intro i t' w hi hw
    by_cases hil : i < S.length
    · rw [List.getElem?_append_left hil] at hi
      rw [List.getElem?_append_left (by rw [h.len]; exact hil)] at hw
      exact (h.inner i t' w hi hw).keeps f4 fun b h1 h2 => h.off w (List.mem_of_getElem? hw) b h1 h2
    · have hil2 : i = S.length := by
        have := (List.getElem?_eq_some_iff.1 hi).1
        simp at this
        omega
      subst hil2
      simp at hi
      rw [← h.len] at hw
      simp at hw
      subst hi hw
      exact hu.keeps f4 fun b h1 h2 => hne b h1 (.inl h2)
  · intro i j w w' b hi hj hij hb hb'
    have hcase : ∀ {k : Nat} {x : AV}, (us ++ [u])[k]? = some x → us[k]? = some x ∨ (k = us.length ∧ x = u) := by
      intro k x hk
      rcases get_snoc hk with h | ⟨h1, h2⟩
      · exact .inl h
      · exact .inr ⟨h1, h2.symm⟩
    rcases hcase hi with hi2 | ⟨hi2, e2⟩ <;> rcases hcase hj with hj2 | ⟨hj2, e3⟩
    · exact h.apart i j w w' b hi2 hj2 hij hb hb'
    · rw [e3] at hb'
      exact hne b hb' (.inr ⟨w, List.mem_of_getElem? hi2, hb⟩)
    · rw [e2] at hb
      exact hne b hb (.inr ⟨w', List.mem_of_getElem? hj2, hb'⟩)
    · omega
  · intro w hw b hb hb'
    rcases List.mem_append.1 hw with hw | hw
    · rcases a5 b hb' with h1 | h1
      · exact h.off w hw b hb h1
      · have := hlt b (.inr ⟨w, hw, hb⟩)
        omega
    · simp at hw
      subst hw
      rcases a5 b hb' with h1 | h1
      · exact hne b hb (.inl h1)
      · have := hult b hb
        omega
/-- A row of the grid changes in place. -/
theorem GOwn.inRow {K K' : Hp} {v u : AV} {S : List (List α)} {us : List AV} (h : GOwn enc K v S us) {i : Nat} (hu : us[i]? = some u) {t : List α} (ho : Own 3 K' u (t.map enc)) (hk : Keeps u.at K K') : GOwn enc K' v (S.set i t) us := by
  have hi : i < S.length := by rw [← h.len]; exact (List.getElem?_eq_some_iff.1 hu).1
  refine ⟨h.row.keeps hk fun b hb hx => h.off u (List.mem_of_getElem? hu) b hx hb, by simpa using h.len, fun j t' w hj hw => ?_, h.apart, h.off⟩
  rw [List.getElem?_set] at hj
  by_cases e : i = j
  · subst e
    rw [if_pos rfl, if_pos hi] at hj
    rw [hu] at hw
    cases hj
    cases hw
    exact ho
  · rw [if_neg e] at hj
    exact (h.inner j t' w hj hw).keeps hk fun b hb hx => h.apart i j u w b hu hw e hx hb
/-- A cell of the grid is put. -/
theorem GOwn.cell {K : Hp} {v u : AV} {S : List (List α)} {us : List AV} (h : GOwn enc K v S us) {i j : Nat} (hu : us[i]? = some u) (hj : j < (rowG S i).length) {e : Nat} {ety : Ty} (he : tab e = some ety) (hz : ety.size = 3) (henc : ∀ x, (enc x).length = 3) (hone : ∀ x, (enc x).all AV.one = true) (y : α) :
    ∃ b q, indexAddrA tab (.slice e) K u (.int .i64 j) = some (.ptr b q) ∧ (ety.k.agg = true → ∀ z, loadA ety K (.ptr b q) = some (.agg (enc (cellG z S i j)))) ∧ ∃ K', storeA ety K (.ptr b q) (.agg (enc y)) = some K' ∧ GOwn enc K' v (setG S i j y) us ∧ Keeps u.at K K' ∧ K'.length = K.length := by
  have hi : i < S.length := by rw [← h.len]; exact (List.getElem?_eq_some_iff.1 hu).1
  have hr : S[i]? = some (rowG S i) := by unfold rowG; rw [List.getD_eq_getElem?_getD, List.getElem?_eq_getElem hi]; rfl
  have ho := h.inner i _ u hr hu
  rw [← hz] at ho
  have hge : (rowG S i)[j]? = some (rowG S i)[j] := List.getElem?_eq_getElem hj
  obtain ⟨b, hb, f1, f2⟩ := ho.store (tab := tab) (e := e) (ety := ety) he (i := j) (c := enc (rowG S i)[j]) (by simp [hj]) .i64
  obtain ⟨K', f3, f4, f5, f6⟩ := f2 ety 0 (.agg (enc y)) (by simp [henc, hz]) (by simpa using hone y) (by omega)
  obtain ⟨b2, q2, _, g1, g2, _⟩ := ho.row.get (tab := tab) (e := e) (ety := ety) he hge .i64
  rw [f1] at g1
  cases g1
  refine ⟨b, j * ety.size, f1, fun ha z => ?_, K', by simpa using f3, ?_, f5, f6⟩
  · rw [g2 ha]
    unfold cellG
    rw [List.getD_eq_getElem?_getD, hge]
    rfl
  · have e1 : over (enc (rowG S i)[j]) 0 (AV.agg (enc y)).cells = enc y := by
      simp only [AV.cells, over]
      rw [henc y, List.drop_eq_nil_of_le (by rw [henc]; omega)]
      simp
    rw [e1, hz, ← List.map_set] at f4
    exact h.inRow hu f4 f5
/-- A row of the grid is replaced by a new one. -/
theorem GOwn.slot {K : Hp} {v u : AV} {S : List (List α)} {us : List AV} (h : GOwn enc K v S us) {i : Nat} (hi : i < S.length) {t : List α} (hu : Own 3 K u (t.map enc)) (hne : ∀ b, u.at b → ¬ (v.at b ∨ ∃ w ∈ us, w.at b)) {e : Nat} {ety : Ty} (he : tab e = some ety) (hz : ety.size = 1) :
    ∃ b q, indexAddrA tab (.slice e) K v (.int .i64 i) = some (.ptr b q) ∧ ∃ K', storeA ety K (.ptr b q) u = some K' ∧ GOwn enc K' v (S.set i t) (us.set i u) ∧ Keeps v.at K K' ∧ K'.length = K.length := by
  have hul : i < us.length := by rw [h.len]; exact hi
  have hrow := h.row
  rw [← hz] at hrow
  obtain ⟨b, hb, f1, f2⟩ := hrow.store (tab := tab) (e := e) (ety := ety) he (i := i) (c := [us[i]]) (by simp [slotG, hul]) .i64
  obtain ⟨K', f3, f4, f5, f6⟩ := f2 ety 0 u (by rw [hu.row.self, hz]; rfl) (by simp [hu.row.self, hu.row.one]) (by omega)
  rw [hz] at f4
  refine ⟨b, i * ety.size, f1, K', by simpa using f3, ⟨?_, by simpa using h.len, fun j t' w hj hw => ?_, fun j k x y b hj hk hjk hb => ?_, fun x hx b hb => ?_⟩, f5, f6⟩
  · have e1 : (slotG us).set i (over [us[i]] 0 u.cells) = slotG (us.set i u) := by
      simp [hu.row.self, over, slotG, List.map_set]
    rw [← e1]
    exact f4
  · rw [List.getElem?_set] at hj hw
    by_cases e : i = j
    · subst e
      rw [if_pos rfl, if_pos hi] at hj
      rw [if_pos rfl, if_pos hul] at hw
      cases hj
      cases hw
      exact hu.keeps f5 fun b h1 h2 => hne b h1 (.inl h2)
    · rw [if_neg e] at hj hw
      exact (h.inner j t' w hj hw).keeps f5 (h.off w (List.mem_of_getElem? hw))
  · rw [List.getElem?_set] at hj hk
    by_cases e : i = j <;> by_cases e2 : i = k
    · omega
    · subst e
      rw [if_pos rfl, if_pos hul] at hj
      cases hj
      rw [if_neg e2] at hk
      exact fun h2 => hne b hb (.inr ⟨y, List.mem_of_getElem? hk, h2⟩)
    · subst e2
      rw [if_pos rfl, if_pos hul] at hk
      cases hk
      rw [if_neg e] at hj
      exact fun h2 => hne b h2 (.inr ⟨x, List.mem_of_getElem? hj, hb⟩)
    · rw [if_neg e] at hj
      rw [if_neg e2] at hk
      exact h.apart j k x y b hj hk hjk hb
  · rcases List.mem_or_eq_of_mem_set hx with hx | rfl
    · exact h.off x hx b hb
    · exact fun h2 => hne b hb (.inl h2)
/-- A row is copied into another one of the same length. -/
theorem Own.copied {K : Hp} {u w : AV} {es fs : List (List AV)} {sz : Nat} (h : Own sz K u es) (hw : Row sz K w fs) (hl : es.length = fs.length) : ∃ K', copyA sz K u w = some (.int .i64 fs.length, K') ∧ Own sz K' u fs ∧ Keeps u.at K K' := by
  have hwh := hw.whole
  rcases h.2 with ⟨rfl, rfl⟩ | ⟨b, rfl, hb⟩
  · have : fs = [] := List.eq_nil_of_length_eq_zero (by simpa using hl.symm)
    subst this
    refine ⟨K, ?_, Own.nil sz K, Keeps.refl _ _⟩
    simp [copyA, hwh]
  · by_cases h0 : fs.length = 0
    · have : fs = [] := List.eq_nil_of_length_eq_zero h0
      subst this
      have : es = [] := List.eq_nil_of_length_eq_zero (by simpa using hl)
      subst this
      refine ⟨K, ?_, h, Keeps.refl _ _⟩
      simp [copyA, hwh]
    · have hf := flatten_length h.1
      have hf2 := flatten_length hw.1
      refine ⟨K.set b (some ⟨sz, true, fs.flatten⟩), ?_, ⟨hw.1, .inr ⟨b, by rw [hl], by rw [List.getElem?_set_self (lt_of_get hb)]⟩⟩, (Keeps.set K b _).mono fun c hc => by subst hc; rfl⟩
      have e1 : over es.flatten 0 (fs.flatten.take (fs.length * sz)) = fs.flatten := by
        rw [List.take_of_length_le (by omega)]
        unfold over
        rw [List.drop_eq_nil_of_le (by simp [hf, hf2, hl])]
        simp
      simp [-over, copyA, hwh, hl, h0, rowAt, hb, hf, e1]
end Go.Proofs.YtdbnokeegocpbaaGreat.Am
