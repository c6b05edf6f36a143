/- Flows that were made: their blocks, and the code of each. No condition. -/
import Derived.Test.YtdbnokeegocpbaaLFlow
import Derived.Test.YtdbnokeegocpbaaLCur
namespace Go.Proofs.Ytdbnokeegocpbaa.Am
open Go Go.RowKit
set_option linter.unusedSimpArgs false
set_option linter.unusedVariables false

theorem Keeps.after {X Y : Nat → Prop} {A B C : Hp} (h : Keeps X A B) (k : Keeps Y B C) (hY : ∀ b, Y b → X b ∨ A.length ≤ b) : Keeps X A C := ⟨Nat.le_trans h.1 k.1, fun b blk hb hn => k.2 b blk (h.2 b blk hb hn) fun hy => (hY b hy).elim hn fun hl => by have := lt_of_get hb; omega⟩
/-- A row of blocks that was made. -/
structure FOwn (K : Hp) (v : AV) (l : List Bk) (us : List AV) : Prop where
  row : Own 4 K v (List.zipWith cellsB l us)
  len : us.length = l.length
  inner : ∀ (i : Nat) (t : Bk) (u : AV), l[i]? = some t → us[i]? = some u → Own 5 K u (inss t.code)
  apart : ∀ (i j : Nat) (u u' : AV) (b : Nat), us[i]? = some u → us[j]? = some u' → i ≠ j → u.at b → ¬ u'.at b
  off : ∀ u ∈ us, ∀ b, u.at b → ¬ v.at b
theorem FOwn.look {K : Hp} {v : AV} {l : List Bk} {us : List AV} (h : FOwn K v l us) : FRow K v l us := ⟨h.row.row, h.len, fun i t u a b => (h.inner i t u a b).row⟩
theorem FOwn.fr {K K' : Hp} {v : AV} {l : List Bk} {us : List AV} (h : FOwn K v l us) (k : Fr K K') : FOwn K' v l us := ⟨h.row.fr k, h.len, fun i t u a b => (h.inner i t u a b).fr k, h.apart, h.off⟩
theorem FOwn.keeps {X : Nat → Prop} {K K' : Hp} {v : AV} {l : List Bk} {us : List AV} (h : FOwn K v l us) (k : Keeps X K K') (hn : ∀ b, (v.at b ∨ ∃ u ∈ us, u.at b) → ¬ X b) : FOwn K' v l us := ⟨h.row.keeps k fun b hb => hn b (.inl hb), h.len, fun i t u a b => (h.inner i t u a b).keeps k fun c hc => hn c (.inr ⟨u, List.mem_of_getElem? b, hc⟩), h.apart, h.off⟩
theorem FOwn.lt {K : Hp} {v : AV} {l : List Bk} {us : List AV} (h : FOwn K v l us) : ∀ b, (v.at b ∨ ∃ u ∈ us, u.at b) → b < K.length := by
  rintro b (hb | ⟨u, hu, hb⟩)
  · exact h.row.lt b hb
  · obtain ⟨i, hi⟩ := List.mem_iff_getElem?.1 hu
    have hil : i < l.length := by rw [← h.len]; exact (List.getElem?_eq_some_iff.1 hi).1
    exact (h.inner i l[i] u (List.getElem?_eq_getElem hil) hi).lt b hb
theorem zip_snoc (l : List Bk) (us : List AV) (t : Bk) (u : AV) (h : us.length = l.length) : List.zipWith cellsB (l ++ [t]) (us ++ [u]) = List.zipWith cellsB l us ++ [cellsB t u] := by
  rw [List.zipWith_append (by omega)]
  rfl
def Bk.put (y : Bk) : Nat → Int → Bk
  | 1, x => ⟨y.code, x, y.thn, y.els⟩
  | 2, x => ⟨y.code, y.test, x, y.els⟩
  | _, x => ⟨y.code, y.test, y.thn, x⟩
theorem FOwn.put {K : Hp} {v u : AV} {q r : List Bk} {a : Bk} {us : List AV} (h : FOwn K v (q ++ a :: r) us) (hu : us[q.length]? = some u) {j : Nat} (hj : 1 ≤ j ∧ j < 4) (x : Int) : ∃ b, indexAddrA tab (.slice 67) K v (.int .i64 q.length) = some (.ptr b (q.length * 4)) ∧ loadA tLN K (.ptr b (q.length * 4)) = some u ∧ ∃ K', storeA tI K (.ptr b (q.length * 4 + j)) (.int .i64 x) = some K' ∧ FOwn K' v (q ++ a.put j x :: r) us ∧ Keeps v.at K K' := by
  have hz : (List.zipWith cellsB (q ++ a :: r) us)[q.length]? = some (cellsB a u) := by
    rw [List.getElem?_zipWith, hu]; simp
  obtain ⟨b, hb, f1, f2⟩ := h.row.store (tab := tab) (e := 67) (ety := tK) rfl (i := q.length) (c := cellsB a u) hz .i64
  obtain ⟨K', f3, f4, f5, f6⟩ := f2 tI j (.int .i64 x) rfl rfl (by show j + 1 ≤ 4; omega)
  have hrow : Row 4 K v ((List.zipWith cellsB (q ++ a :: r) us).map id) := by simpa using h.row.row
  obtain ⟨b2, q2, _, g1, _, g2⟩ := Row.get (enc := id) (ety := tK) hrow (show tab 67 = some tK from rfl) hz .i64
  have g3 := g2 tLN 0 rfl rfl (by decide)
  rw [g1] at f1
  obtain ⟨rfl, rfl⟩ : b2 = b ∧ q2 = q.length * 4 := by simpa using f1
  refine ⟨b2, g1, by simpa [cellsB] using g3, K', by simpa using f3, ⟨?_, by simpa using h.len, fun i t w hi hw => ?_, h.apart, h.off⟩, f5⟩
  · have e : (List.zipWith cellsB (q ++ a :: r) us).set q.length (over (cellsB a u) j (AV.int .i64 x).cells) = List.zipWith cellsB (q ++ a.put j x :: r) us := by
      have e1 : over (cellsB a u) j (AV.int .i64 x).cells = cellsB (a.put j x) u := by
        match j, hj with
        | 1, _ => rfl
        | 2, _ => rfl
        | 3, _ => rfl
      rw [e1]
      apply List.ext_getElem?
      intro i
      rw [List.getElem?_set, List.getElem?_zipWith, List.getElem?_zipWith]
      by_cases hi : i = q.length
      · subst hi
        obtain ⟨hlt, hget⟩ := List.getElem?_eq_some_iff.1 hu
        simp [hget, h.len]
      · rw [if_neg (fun h => hi h.symm)]
        have : (q ++ a :: r)[i]? = (q ++ a.put j x :: r)[i]? := by
          by_cases hiq : i < q.length
          · rw [List.getElem?_append_left hiq, List.getElem?_append_left hiq]
          · rw [List.getElem?_append_right (by omega), List.getElem?_append_right (by omega)]
            obtain ⟨m, hm⟩ : ∃ m, i - q.length = m + 1 := ⟨i - q.length - 1, by omega⟩
            simp [hm]
        rw [this]
    rw [← e]
    exact f4
  · have : ∃ t', (q ++ a :: r)[i]? = some t' ∧ t'.code = t.code := by
      by_cases hiq : i < q.length
      · rw [List.getElem?_append_left hiq] at hi ⊢; exact ⟨t, hi, rfl⟩
      · rw [List.getElem?_append_right (by omega)] at hi ⊢
        obtain hm | ⟨m, hm⟩ : i - q.length = 0 ∨ ∃ m, i - q.length = m + 1 := by
          cases e : i - q.length with
          | zero => exact .inl rfl
          | succ m => exact .inr ⟨m, rfl⟩
        · simp [hm] at hi ⊢
          subst hi
          match j, hj with
          | 1, _ => rfl
          | 2, _ => rfl
          | 3, _ => rfl
        · simp [hm] at hi ⊢; exact ⟨t, hi, rfl⟩
    obtain ⟨t', h1, h2⟩ := this
    rw [← h2]
    exact (h.inner i t' w h1 hw).keeps f5 (h.off w (List.mem_of_getElem? hw))
theorem FOwn.recode {X : Nat → Prop} {K K' : Hp} {v u : AV} {q r : List Bk} {a : Bk} {us : List AV} (h : FOwn K v (q ++ a :: r) us) (hu : us[q.length]? = some u) (c : List Ins) (hc : Own 5 K' u (inss c)) (k : Keeps X K K') (hX : ∀ b, X b → u.at b) : FOwn K' v (q ++ ⟨c, a.test, a.thn, a.els⟩ :: r) us := by
  have hum : u ∈ us := List.mem_of_getElem? hu
  refine ⟨?_, by simpa using h.len, fun i t w hi hw => ?_, h.apart, h.off⟩
  · have e : List.zipWith cellsB (q ++ ⟨c, a.test, a.thn, a.els⟩ :: r) us = List.zipWith cellsB (q ++ a :: r) us := by
      apply List.ext_getElem?
      intro i
      rw [List.getElem?_zipWith, List.getElem?_zipWith]
      by_cases hiq : i < q.length
      · rw [List.getElem?_append_left hiq, List.getElem?_append_left hiq]
      · rw [List.getElem?_append_right (by omega), List.getElem?_append_right (by omega)]
        cases e : i - q.length with
        | zero => simp [cellsB]; cases us[i]? <;> rfl
        | succ m => simp
    rw [e]
    exact h.row.keeps k fun b hb hx => h.off u hum b (hX b hx) hb
  · by_cases hiq : i = q.length
    · subst hiq
      rw [hu] at hw
      cases hw
      simp at hi
      subst hi
      exact hc
    · refine (h.inner i t w ?_ hw).keeps k fun b h1 h2 => h.apart q.length i u w b hu hw (fun h => hiq h.symm) (hX b h2) h1
      rw [← hi]
      by_cases hiq2 : i < q.length
      · rw [List.getElem?_append_left hiq2, List.getElem?_append_left hiq2]
      · rw [List.getElem?_append_right (by omega), List.getElem?_append_right (by omega)]
        obtain ⟨m, hm⟩ : ∃ m, i - q.length = m + 1 := ⟨i - q.length - 1, by omega⟩
        simp [hm]
/-- One more row is put behind. -/
theorem FOwn.push {K : Hp} {v u : AV} {l : List Bk} {us : List AV} {t : Bk} (h : FOwn K v l us) (hu : Own 5 K u (inss t.code)) (hne : ∀ b, u.at b → ¬ (v.at b ∨ ∃ w ∈ us, w.at b)) (hl : l.length ≤ 1048576) :
    ∃ v' K', appendA 4 48 (K ++ [some ⟨4, true, cellsB t u⟩]) v (.sl K.length 0 1) = some (v', K') ∧ FOwn K' v' (l ++ [t]) (us ++ [u]) ∧ Keeps v.at K K' ∧ ∀ b, v'.at b → v.at b ∨ K.length ≤ b := by
  have hu1 := hu.row.one
  obtain ⟨v', K', a1, a2, a3, a4⟩ := (h.row.fr (Fr.app K [some ⟨4, true, cellsB t u⟩])).append (bytes := 48) (x := .sl K.length 0 1) (new := [cellsB t u]) (by decide) (by simp [rowOf, cellsB]) (by simp [cellsB]) (by simp [h.len]; omega) (by simp [h.len]; omega)
  have f4 : Keeps v.at K K' := (Fr.keeps (Fr.app K _)).trans a3
  have a5 : ∀ b, v'.at b → v.at b ∨ K.length ≤ b := fun b hb => (a4 b hb).elim .inl fun h => .inr (by simp at h; omega)
  have hlt := h.lt
  have hult := hu.lt
  refine ⟨v', K', a1, ⟨by rw [zip_snoc _ _ _ _ h.len]; exact a2, by simp [h.len], ?_, ?_, ?_⟩, f4, a5⟩
  · intro i t' w hi hw
    by_cases hil : i < l.length
    · rw [List.getElem?_append_left hil] at hi
      rw [List.getElem?_append_left (by rw [h.len]; exact hil)] at hw
      exact (h.inner i t' w hi hw).keeps f4 fun b h1 h2 => h.off w (List.mem_of_getElem? hw) b h1 h2
    · have hil2 : i = l.length := by
        have := (List.getElem?_eq_some_iff.1 hi).1
        simp at this
        omega
      subst hil2
      simp at hi
      rw [← h.len] at hw
      simp at hw
      subst hi hw
      exact hu.keeps f4 fun b h1 h2 => hne b h1 (.inl h2)
  · intro i j w w' b hi hj hij hb hb'
    have hcase : ∀ {k : Nat} {x : AV}, (us ++ [u])[k]? = some x → us[k]? = some x ∨ (k = us.length ∧ x = u) := by
      intro k x hk
      rcases get_snoc hk with h | ⟨h1, h2⟩
      · exact .inl h
      · exact .inr ⟨h1, h2.symm⟩
    rcases hcase hi with hi2 | ⟨hi2, e2⟩ <;> rcases hcase hj with hj2 | ⟨hj2, e3⟩
    · exact h.apart i j w w' b hi2 hj2 hij hb hb'
    · rw [e3] at hb'
      exact hne b hb' (.inr ⟨w, List.mem_of_getElem? hi2, hb⟩)
    · rw [e2] at hb
      exact hne b hb (.inr ⟨w', List.mem_of_getElem? hj2, hb'⟩)
    · omega
  · intro w hw b hb hb'
    rcases List.mem_append.1 hw with hw | hw
    · rcases a5 b hb' with h1 | h1
      · exact h.off w hw b hb h1
      · have := hlt b (.inr ⟨w, hw, hb⟩)
        omega
    · simp at hw
      subst hw
      rcases a5 b hb' with h1 | h1
      · exact hne b hb (.inl h1)
      · have := hult b hb
        omega
theorem FOwn.nil (K : Hp) : FOwn K .nil [] [] := ⟨by simpa using Own.nil 4 K, rfl, by simp, by simp, by simp⟩
theorem FOwn.setCode {K : Hp} {v w : AV} {q r : List Bk} {a : Bk} {us : List AV} {c : List Ins} (h : FOwn K v (q ++ a :: r) us) (hw : Own 5 K w (inss c)) (hne : ∀ b, w.at b → ¬ (v.at b ∨ ∃ u ∈ us, u.at b)) :
    ∃ b, indexAddrA tab (.slice 67) K v (.int .i64 q.length) = some (.ptr b (q.length * 4)) ∧ ∃ K', storeA tLN K (.ptr b (q.length * 4)) w = some K' ∧ FOwn K' v (q ++ ⟨c, a.test, a.thn, a.els⟩ :: r) (us.set q.length w) ∧ Keeps v.at K K' := by
  have hul : q.length < us.length := by have := h.len; simp at this; omega
  have hu : us[q.length]? = some us[q.length] := List.getElem?_eq_getElem hul
  have hz : (List.zipWith cellsB (q ++ a :: r) us)[q.length]? = some (cellsB a us[q.length]) := by
    rw [List.getElem?_zipWith, hu]; simp
  obtain ⟨b, hb, f1, f2⟩ := h.row.store (tab := tab) (e := 67) (ety := tK) rfl (i := q.length) hz .i64
  obtain ⟨K', f3, f4, f5, f6⟩ := f2 tLN 0 w (by rw [hw.row.self]; rfl) (by simp [hw.row.self, hw.row.one]) (by decide)
  refine ⟨b, by simpa using f1, K', by simpa using f3, ⟨?_, by simpa using h.len, fun i t x hi hx => ?_, fun i j x y b hi hj hij hb => ?_, fun x hx b hb => ?_⟩, f5⟩
  · have e : (List.zipWith cellsB (q ++ a :: r) us).set q.length (over (cellsB a us[q.length]) 0 w.cells) = List.zipWith cellsB (q ++ ⟨c, a.test, a.thn, a.els⟩ :: r) (us.set q.length w) := by
      have e1 : over (cellsB a us[q.length]) 0 w.cells = cellsB ⟨c, a.test, a.thn, a.els⟩ w := by rw [hw.row.self]; rfl
      rw [e1]
      apply List.ext_getElem?
      intro i
      rw [List.getElem?_set, List.getElem?_zipWith, List.getElem?_zipWith, List.getElem?_set]
      by_cases hi : i = q.length
      · subst hi
        rw [if_pos rfl, if_pos rfl, if_pos hul, if_pos (by simp; omega)]
        simp
      · rw [if_neg (fun h => hi h.symm), if_neg (fun h => hi h.symm)]
        have : (q ++ a :: r)[i]? = (q ++ ⟨c, a.test, a.thn, a.els⟩ :: r)[i]? := by
          by_cases hiq : i < q.length
          · rw [List.getElem?_append_left hiq, List.getElem?_append_left hiq]
          · rw [List.getElem?_append_right (by omega), List.getElem?_append_right (by omega)]
            obtain ⟨m, hm⟩ : ∃ m, i - q.length = m + 1 := ⟨i - q.length - 1, by omega⟩
            simp [hm]
        rw [this]
    rw [← e]
    exact f4
  · rw [List.getElem?_set] at hx
    by_cases e : q.length = i
    · subst e
      rw [if_pos rfl, if_pos hul] at hx
      cases hx
      simp at hi
      subst hi
      exact hw.keeps f5 fun b h1 h2 => hne b h1 (.inl h2)
    · rw [if_neg e] at hx
      refine (h.inner i t x ?_ hx).keeps f5 (h.off x (List.mem_of_getElem? hx))
      rw [← hi]
      by_cases hiq : i < q.length
      · rw [List.getElem?_append_left hiq, List.getElem?_append_left hiq]
      · rw [List.getElem?_append_right (by omega), List.getElem?_append_right (by omega)]
        obtain ⟨m, hm⟩ : ∃ m, i - q.length = m + 1 := ⟨i - q.length - 1, by omega⟩
        simp [hm]
  · rw [List.getElem?_set] at hi hj
    by_cases e : q.length = i <;> by_cases e2 : q.length = j
    · omega
    · subst e
      rw [if_pos rfl, if_pos hul] at hi
      cases hi
      rw [if_neg e2] at hj
      exact fun h2 => hne b hb (.inr ⟨y, List.mem_of_getElem? hj, h2⟩)
    · subst e2
      rw [if_pos rfl, if_pos hul] at hj
      cases hj
      rw [if_neg e] at hi
      exact fun h2 => hne b h2 (.inr ⟨x, List.mem_of_getElem? hi, hb⟩)
    · rw [if_neg e] at hi
      rw [if_neg e2] at hj
      exact h.apart i j x y b hi hj hij hb
  · rcases List.mem_or_eq_of_mem_set hx with hx | rfl
    · exact h.off x hx b hb
    · exact fun h2 => hne b hb (.inl h2)
theorem Own.pushI {K : Hp} {v : AV} {es : List Ins} (h : Own 5 K v (inss es)) (x : Ins) (hl : es.length ≤ 1048576) :
    ∃ u K', appendA 5 40 (K ++ [some ⟨5, true, x.enc⟩]) v (.sl K.length 0 1) = some (u, K') ∧ Own 5 K' u (inss (es ++ [x])) ∧ Keeps v.at K K' ∧ ∀ b, u.at b → v.at b ∨ K.length ≤ b := by
  obtain ⟨u, K', a1, a2, a3, a4⟩ := (h.fr (Fr.app K [some ⟨5, true, x.enc⟩])).append (bytes := 40) (x := .sl K.length 0 1) (new := [x.enc]) (by decide) (by simp [rowOf, Ins.enc]) (by simp [Ins.enc]) (by simp; omega) (by simp; omega)
  exact ⟨u, K', a1, by simpa [inss] using a2, (Fr.keeps (Fr.app K _)).trans a3, fun b hb => (a4 b hb).elim .inl fun h => .inr (by simp at h; omega)⟩
theorem index_same {e : Nat} {K : Hp} {bo n : Nat} {i : AV} {b q : Nat} (h : indexAddrA tab (.slice e) K (.sl bo 0 n) i = some (.ptr b q)) : b = bo := by
  cases i <;> simp only [indexAddrA] at h <;> try (cases h; done)
  repeat' split at h
  all_goals first | (cases h; done) | skip
  all_goals (simp at h; exact h.1.symm)
/-- One block of a flow that was made. -/
theorem FOwn.spot {K : Hp} {v : AV} {q r : List Bk} {a : Bk} {us : List AV} (h : FOwn K v (q ++ a :: r) us) : ∃ bo u, v = .sl bo 0 (q ++ a :: r).length ∧ us[q.length]? = some u ∧ indexAddrA tab (.slice 67) K v (.int .i64 q.length) = some (.ptr bo (q.length * 4)) ∧ loadA tLN K (.ptr bo (q.length * 4)) = some u ∧
    loadA tI K (.ptr bo (q.length * 4 + 1)) = some (.int .i64 a.test) ∧ loadA tI K (.ptr bo (q.length * 4 + 2)) = some (.int .i64 a.thn) ∧ loadA tI K (.ptr bo (q.length * 4 + 3)) = some (.int .i64 a.els) ∧ Own 5 K u (inss a.code) ∧
    (∀ x : Int, ∃ K', storeA tI K (.ptr bo (q.length * 4 + 2)) (.int .i64 x) = some K' ∧ FOwn K' v (q ++ ⟨a.code, a.test, x, a.els⟩ :: r) us ∧ Keeps v.at K K') ∧ ∀ x : Int, ∃ K', storeA tI K (.ptr bo (q.length * 4 + 3)) (.int .i64 x) = some K' ∧ FOwn K' v (q ++ ⟨a.code, a.test, a.thn, x⟩ :: r) us ∧ Keeps v.at K K' := by
  have hul : q.length < us.length := by have := h.len; simp at this; omega
  have hu : us[q.length]? = some us[q.length] := List.getElem?_eq_getElem hul
  have hz : (List.zipWith cellsB (q ++ a :: r) us)[q.length]? = some (cellsB a us[q.length]) := by
    rw [List.getElem?_zipWith, hu]; simp
  have hrow : Row 4 K v ((List.zipWith cellsB (q ++ a :: r) us).map id) := by simpa using h.row.row
  obtain ⟨b2, q2, _, g1, _, g2⟩ := Row.get (enc := id) (ety := tK) hrow (show tab 67 = some tK from rfl) hz .i64
  have hsl : ∃ bo, v = .sl bo 0 (q ++ a :: r).length := by
    rcases h.row.2 with ⟨_, h0⟩ | ⟨bo, hv, _⟩
    · rw [h0] at hz; simp at hz
    · refine ⟨bo, ?_⟩
      rw [hv, List.length_zipWith, h.len, Nat.min_self]
  obtain ⟨bo, hv⟩ := hsl
  have put2 := fun x => h.put hu (j := 2) (by omega) x
  have put3 := fun x => h.put hu (j := 3) (by omega) x
  obtain ⟨b0, p1, p2, _⟩ := put2 0
  have hb0 : b0 = bo := by rw [hv] at p1; exact index_same p1
  rw [g1] at p1
  obtain ⟨rfl, rfl⟩ : b2 = b0 ∧ q2 = q.length * 4 := by simpa using p1
  subst hb0
  have f1 := g2 tI 1 rfl rfl (by decide)
  have f2 := g2 tI 2 rfl rfl (by decide)
  have f3 := g2 tI 3 rfl rfl (by decide)
  refine ⟨b2, us[q.length], hv, hu, g1, p2, by simpa [cellsB] using f1, by simpa [cellsB] using f2, by simpa [cellsB] using f3, h.inner q.length a _ (by simp) hu, fun x => ?_, fun x => ?_⟩
  · obtain ⟨b9, k1, _, K', k2, k3, k4⟩ := put2 x
    rw [g1] at k1
    obtain rfl : b2 = b9 := by simpa using k1
    exact ⟨K', k2, k3, k4⟩
  · obtain ⟨b9, k1, _, K', k2, k3, k4⟩ := put3 x
    rw [g1] at k1
    obtain rfl : b2 = b9 := by simpa using k1
    exact ⟨K', k2, k3, k4⟩
theorem FRow.keeps {X : Nat → Prop} {K K' : Hp} {v : AV} {l : List Bk} {us : List AV} (h : FRow K v l us) (k : Keeps X K K') (hn : ∀ b, (v.at b ∨ ∃ u ∈ us, u.at b) → ¬ X b) : FRow K' v l us := ⟨h.row.keeps k fun b hb => hn b (.inl hb), h.len, fun i t u a b => (h.inner i t u a b).keeps k fun c hc => hn c (.inr ⟨u, List.mem_of_getElem? b, hc⟩)⟩
theorem FRow.lt {K : Hp} {v : AV} {l : List Bk} {us : List AV} (h : FRow K v l us) : ∀ b, (v.at b ∨ ∃ u ∈ us, u.at b) → b < K.length := by
  rintro b (hb | ⟨u, hu, hb⟩)
  · exact h.row.lt b hb
  · obtain ⟨i, hi⟩ := List.mem_iff_getElem?.1 hu
    have hil : i < l.length := by rw [← h.len]; exact (List.getElem?_eq_some_iff.1 hi).1
    exact (h.inner i l[i] u (List.getElem?_eq_getElem hil) hi).lt b hb
end Go.Proofs.Ytdbnokeegocpbaa.Am
