/- Rounds through a flow that change what is told ahead of each block, until nothing changes: the plain law. No condition. -/
import Derived.Test.YtdbnokeegocpbaaGreatLFlow
namespace Go.Proofs.YtdbnokeegocpbaaGreat.Am
open Go Go.RowKit
set_option linter.unusedSimpArgs false
set_option linter.unusedVariables false

/-- How a cell changes, and what falls whenever it does. -/
structure Upd (α : Type) where
  up : α → α → α
  z : α
  mu : α → Nat
  fall : ∀ a b, up a b ≠ a → mu (up a b) < mu a
variable {α : Type}
def rowG (S : List (List α)) (i : Nat) : List α := S.getD i []
def cellG (z : α) (S : List (List α)) (i v : Nat) : α := (rowG S i).getD v z
def setG (S : List (List α)) (i v : Nat) (y : α) : List (List α) := S.set i ((rowG S i).set v y)
def sumG (U : Upd α) (S : List (List α)) : Nat := (S.map fun r => (r.map U.mu).sum).sum
/-- Each row has eight cells. -/
def Wide (n : Nat) (S : List (List α)) : Prop := S.length = n ∧ ∀ r ∈ S, r.length = 8
def comeG (U : Upd α) (to : Nat) : List α → Nat → List (List α) → List (List α)
  | [], _, S => S
  | x :: r, v, S => comeG U to r (v + 1) (setG S to v (U.up (cellG U.z S to v) x))
def comesG (U : Upd α) : List (Int × List α) → List (List α) → List (List α)
  | [], S => S
  | (to, out) :: l, S => comesG U l (if to < 0 then S else comeG U to.toNat out 0 S)
def roundG (U : Upd α) (nx : Bk → List α → List (Int × List α)) : List Bk → Nat → List (List α) → List (List α)
  | [], _, S => S
  | b :: r, i, S => roundG U nx r (i + 1) (comesG U (nx b (rowG S i)) S)
def GrownG (U : Upd α) (S0 S : List (List α)) (t : Bool) : Prop := (t = false ∧ S = S0) ∨ (t = true ∧ sumG U S < sumG U S0)

theorem rowG_set {S : List (List α)} {i : Nat} (hi : i < S.length) (r : List α) (j : Nat) : rowG (S.set i r) j = if j = i then r else rowG S j := by
  unfold rowG
  rw [List.getD_eq_getElem?_getD, List.getElem?_set]
  by_cases e : i = j
  · subst e; rw [if_pos rfl, if_pos hi, if_pos rfl]; rfl
  · rw [if_neg e, if_neg (fun h => e h.symm), ← List.getD_eq_getElem?_getD]
theorem Wide.row {n : Nat} {S : List (List α)} (h : Wide n S) {i : Nat} (hi : i < n) : (rowG S i).length = 8 ∧ S[i]? = some (rowG S i) := by
  have hi' : i < S.length := by rw [h.1]; exact hi
  have e : rowG S i = S[i] := by unfold rowG; rw [List.getD_eq_getElem?_getD, List.getElem?_eq_getElem hi']; rfl
  rw [e]
  exact ⟨h.2 _ (List.getElem_mem hi'), List.getElem?_eq_getElem hi'⟩
theorem Wide.cell {n : Nat} {S : List (List α)} (h : Wide n S) (z : α) {i v : Nat} (hi : i < n) (hv : v < 8) : (rowG S i)[v]? = some (cellG z S i v) := by
  have := (h.row hi).1
  unfold cellG
  rw [List.getD_eq_getElem?_getD, List.getElem?_eq_getElem (by omega)]
  rfl
theorem Wide.set {n : Nat} {S : List (List α)} (h : Wide n S) {i : Nat} (hi : i < n) (v : Nat) (y : α) : Wide n (setG S i v y) := by
  refine ⟨by simp [setG, h.1], fun r hr => ?_⟩
  rcases List.mem_or_eq_of_mem_set hr with hr | rfl
  · exact h.2 r hr
  · simp [(h.row hi).1]
theorem setG_get {n : Nat} {S : List (List α)} (h : Wide n S) (z : α) {i v : Nat} (hi : i < n) (hv : v < 8) (y : α) (j w : Nat) : cellG z (setG S i v y) j w = if j = i ∧ w = v then y else cellG z S j w := by
  have hi' : i < S.length := by rw [h.1]; exact hi
  have h8 := (h.row hi).1
  unfold cellG setG
  rw [rowG_set hi']
  by_cases e : j = i
  · subst e
    rw [if_pos rfl, List.getD_eq_getElem?_getD, List.getElem?_set]
    by_cases e2 : v = w
    · subst e2
      rw [if_pos rfl, if_pos (by omega), if_pos ⟨rfl, rfl⟩]
      rfl
    · rw [if_neg e2, if_neg (fun hh => e2 hh.2.symm), ← List.getD_eq_getElem?_getD]
  · rw [if_neg e, if_neg (fun hh => e hh.1)]
theorem setG_same {n : Nat} {S : List (List α)} (h : Wide n S) (z : α) {i v : Nat} (hi : i < n) (hv : v < 8) : setG S i v (cellG z S i v) = S := by
  have hi' : i < S.length := by rw [h.1]; exact hi
  have h8 := (h.row hi).1
  have e1 : (rowG S i).set v (cellG z S i v) = rowG S i := by
    apply List.ext_getElem?
    intro w
    rw [List.getElem?_set]
    by_cases e2 : v = w
    · subst e2; rw [if_pos rfl, if_pos (by omega), h.cell z hi hv]
    · rw [if_neg e2]
  unfold setG
  rw [e1]
  apply List.ext_getElem?
  intro j
  rw [List.getElem?_set]
  by_cases e : i = j
  · subst e; rw [if_pos rfl, if_pos hi', (h.row hi).2]
  · rw [if_neg e]
theorem sum_set : ∀ (l : List Nat) (i x y : Nat), l[i]? = some x → (l.set i y).sum + x = l.sum + y
  | [], i, x, y, h => by simp at h
  | a :: l, 0, x, y, h => by simp at h; subst h; simp; omega
  | a :: l, i + 1, x, y, h => by
    have := sum_set l i x y (by simpa using h)
    simp
    omega
theorem sumG_set (U : Upd α) {n : Nat} {S : List (List α)} (h : Wide n S) {i v : Nat} (hi : i < n) (hv : v < 8) (y : α) : sumG U (setG S i v y) + U.mu (cellG U.z S i v) = sumG U S + U.mu y := by
  have h1 := (h.row hi).2
  have h2 := h.cell U.z hi hv
  have e1 := sum_set ((rowG S i).map U.mu) v (U.mu (cellG U.z S i v)) (U.mu y) (by rw [List.getElem?_map, h2]; rfl)
  have e2 := sum_set (S.map fun r => (r.map U.mu).sum) i ((rowG S i).map U.mu).sum (((rowG S i).map U.mu).set v (U.mu y)).sum (by rw [List.getElem?_map, h1]; rfl)
  unfold sumG setG
  rw [List.map_set, List.map_set]
  omega
/-- One cell changes, or not. -/
theorem grown_cell [DecidableEq α] (U : Upd α) {n : Nat} {S0 S : List (List α)} (h : Wide n S) {i v : Nat} (hi : i < n) (hv : v < 8) (x : α) {t : Bool} (hg : GrownG U S0 S t) :
    GrownG U S0 (setG S i v (U.up (cellG U.z S i v) x)) (t || decide (U.up (cellG U.z S i v) x ≠ cellG U.z S i v)) := by
  by_cases e : U.up (cellG U.z S i v) x = cellG U.z S i v
  · rw [e, setG_same h U.z hi hv]
    simpa using hg
  · have h1 := sumG_set U h hi hv (U.up (cellG U.z S i v) x)
    have h2 := U.fall _ _ e
    refine .inr ⟨by simp [e], ?_⟩
    rcases hg with ⟨_, rfl⟩ | ⟨_, hg⟩ <;> omega
theorem comeG_wide (U : Upd α) {n to : Nat} (hto : to < n) : ∀ (r : List α) (v : Nat) (S : List (List α)), Wide n S → Wide n (comeG U to r v S)
  | [], v, S, h => h
  | x :: r, v, S, h => comeG_wide U hto r (v + 1) _ (h.set hto v _)
/-- All targets are blocks, and all rows are of eight. -/
def FitG (n : Nat) (l : List (Int × List α)) : Prop := ∀ p ∈ l, p.1 ≤ (n : Int) - 1 ∧ p.2.length = 8
theorem comesG_wide (U : Upd α) {n : Nat} : ∀ (l : List (Int × List α)) (S : List (List α)), FitG n l → Wide n S → Wide n (comesG U l S)
  | [], S, _, h => h
  | (to, out) :: l, S, hl, h => by
    refine comesG_wide U l _ (fun p hp => hl p (by simp [hp])) ?_
    have := (hl (to, out) (by simp)).1
    split
    · exact h
    · exact comeG_wide U (by simp at this; omega) out 0 S h
theorem comeG_fall [DecidableEq α] (U : Upd α) {n to : Nat} (hto : to < n) : ∀ (r : List α) (v : Nat) (S : List (List α)), v + r.length ≤ 8 → Wide n S → sumG U (comeG U to r v S) ≤ sumG U S ∧ (sumG U (comeG U to r v S) = sumG U S → comeG U to r v S = S ∧ ∀ (i : Nat) (x : α), r[i]? = some x → U.up (cellG U.z S to (v + i)) x = cellG U.z S to (v + i))
  | [], v, S, _, h => ⟨Nat.le_refl _, fun _ => ⟨rfl, fun i x hx => by simp at hx⟩⟩
  | x :: r, v, S, hl, h => by
    simp only [List.length_cons] at hl
    obtain ⟨h1, h2⟩ := comeG_fall U hto r (v + 1) (setG S to v (U.up (cellG U.z S to v) x)) (by omega) (h.set hto v _)
    have h3 := sumG_set U h hto (v := v) (by omega) (U.up (cellG U.z S to v) x)
    by_cases e : U.up (cellG U.z S to v) x = cellG U.z S to v
    · have e2 := setG_same h U.z hto (v := v) (by omega)
      simp only [comeG]
      rw [e, e2] at h1 h2 ⊢
      refine ⟨h1, fun hs => ⟨(h2 hs).1, fun i y hy => ?_⟩⟩
      cases i with
      | zero => simp at hy; subst hy; exact e
      | succ i =>
        have := (h2 hs).2 i y (by simpa using hy)
        have e3 : v + (i + 1) = v + 1 + i := by omega
        rw [e3]
        exact this
    · have h4 := U.fall _ _ e
      simp only [comeG]
      exact ⟨by omega, fun hs => by omega⟩
def Still (U : Upd α) (S : List (List α)) (p : Int × List α) : Prop := 0 ≤ p.1 → ∀ (v : Nat) (x : α), p.2[v]? = some x → U.up (cellG U.z S p.1.toNat v) x = cellG U.z S p.1.toNat v
theorem comesG_fall [DecidableEq α] (U : Upd α) {n : Nat} : ∀ (l : List (Int × List α)) (S : List (List α)), FitG n l → Wide n S → sumG U (comesG U l S) ≤ sumG U S ∧ (sumG U (comesG U l S) = sumG U S → comesG U l S = S ∧ ∀ p ∈ l, Still U S p)
  | [], S, _, h => ⟨Nat.le_refl _, fun _ => ⟨rfl, by simp⟩⟩
  | (to, out) :: l, S, hl, h => by
    have hl' : FitG n l := fun p hp => hl p (by simp [hp])
    have h0 := hl (to, out) (by simp)
    simp only at h0
    simp only [comesG]
    by_cases hneg : to < 0
    · rw [if_pos hneg]
      obtain ⟨h1, h2⟩ := comesG_fall U l S hl' h
      refine ⟨h1, fun hs => ⟨(h2 hs).1, fun p hp => ?_⟩⟩
      rcases List.mem_cons.1 hp with rfl | hp
      · intro hge; simp at hge; omega
      · exact (h2 hs).2 p hp
    · rw [if_neg hneg]
      have hto : to.toNat < n := by omega
      obtain ⟨a1, a2⟩ := comeG_fall U hto out 0 S (by omega) h
      obtain ⟨h1, h2⟩ := comesG_fall U l _ hl' (comeG_wide U hto out 0 S h)
      refine ⟨by omega, fun hs => ?_⟩
      obtain ⟨b1, b2⟩ := a2 (by omega)
      rw [b1] at h1 h2 hs ⊢
      refine ⟨(h2 hs).1, fun p hp => ?_⟩
      rcases List.mem_cons.1 hp with rfl | hp
      · intro _ v x hx
        have := b2 v x hx
        simpa using this
      · exact (h2 hs).2 p hp
/-- What a block hands on is fit for the flow, whatever it knows. -/
def FitsG (P : List α → Prop) (nx : Bk → List α → List (Int × List α)) (f : List Bk) : Prop := ∀ b ∈ f, ∀ R : List α, R.length = 8 → P R → FitG f.length (nx b R)
def AllG (P : List α → Prop) (S : List (List α)) : Prop := ∀ r ∈ S, P r
/-- Good rows stay good. -/
def KeepsG (U : Upd α) (P : List α → Prop) (nx : Bk → List α → List (Int × List α)) (f : List Bk) : Prop := ∀ b ∈ f, ∀ (S : List (List α)) (k : Nat), k < f.length → Wide f.length S → AllG P S → AllG P (comesG U (nx b (rowG S k)) S)
theorem roundG_fall [DecidableEq α] (U : Upd α) (P : List α → Prop) (nx : Bk → List α → List (Int × List α)) {f : List Bk} (hf : FitsG P nx f) (hk : KeepsG U P nx f) : ∀ (r p : List Bk) (S : List (List α)), f = p ++ r → Wide f.length S → AllG P S → Wide f.length (roundG U nx r p.length S) ∧ AllG P (roundG U nx r p.length S) ∧
    sumG U (roundG U nx r p.length S) ≤ sumG U S ∧ (sumG U (roundG U nx r p.length S) = sumG U S → roundG U nx r p.length S = S ∧ ∀ (i : Nat) (b : Bk), r[i]? = some b → ∀ q ∈ nx b (rowG S (p.length + i)), Still U S q)
  | [], p, S, _, h, hP => ⟨h, hP, Nat.le_refl _, fun _ => ⟨rfl, fun i b hb => by simp at hb⟩⟩
  | b :: r, p, S, e, h, hP => by
    have hpl : p.length < f.length := by rw [e]; simp
    have hrow := h.row hpl
    have hPr : P (rowG S p.length) := hP _ (List.mem_of_getElem? hrow.2)
    have hfit := hf b (by simp [e]) (rowG S p.length) hrow.1 hPr
    obtain ⟨a1, a2⟩ := comesG_fall U _ S hfit h
    obtain ⟨i0, i3, i1, i2⟩ := roundG_fall U P nx hf hk r (p ++ [b]) (comesG U (nx b (rowG S p.length)) S) (by simp [e]) (comesG_wide U _ S hfit h) (hk b (by simp [e]) S p.length hpl h hP)
    have e1 : (p ++ [b]).length = p.length + 1 := by simp
    rw [e1] at i0 i1 i2 i3
    simp only [roundG]
    refine ⟨i0, i3, by omega, fun hs => ?_⟩
    obtain ⟨b1, b2⟩ := a2 (by omega)
    rw [b1] at i1 i2 hs ⊢
    obtain ⟨c1, c2⟩ := i2 hs
    refine ⟨c1, fun i c hc => ?_⟩
    cases i with
    | zero => simp at hc; subst hc; simpa using b2
    | succ i =>
      have := c2 i c (by simpa using hc)
      have e3 : p.length + (i + 1) = p.length + 1 + i := by omega
      rw [e3]
      exact this
def iterG [DecidableEq α] (U : Upd α) (nx : Bk → List α → List (Int × List α)) (f : List Bk) : Nat → Nat → List (List α) → List (List α) × Nat
  | 0, c, S => (S, c)
  | m + 1, c, S => if roundG U nx f 0 S = S then (S, c) else iterG U nx f m (c + 1) (roundG U nx f 0 S)
theorem iterG_same [DecidableEq α] {U : Upd α} {nx : Bk → List α → List (Int × List α)} {f : List Bk} {S S' : List (List α)} (m c : Nat) (h : GrownG U S S' false) (e : roundG U nx f 0 S = S') : iterG U nx f (m + 1) c S = (S, c) := by
  rcases h with ⟨_, h⟩ | ⟨h, _⟩
  · subst h
    rw [iterG, if_pos e]
  · cases h
theorem iterG_more [DecidableEq α] {U : Upd α} {nx : Bk → List α → List (Int × List α)} {f : List Bk} {S S' : List (List α)} (m c : Nat) (h : GrownG U S S' true) (e : roundG U nx f 0 S = S') : iterG U nx f (m + 1) c S = iterG U nx f m (c + 1) S' := by
  rcases h with ⟨h, _⟩ | ⟨_, h⟩
  · cases h
  · rw [iterG, if_neg, e]
    intro h2
    rw [← e, h2] at h
    omega
/-- At the end nothing changes any more, and what every round keeps still holds. -/
theorem iterG_end [DecidableEq α] {U : Upd α} {P : List α → Prop} {nx : Bk → List α → List (Int × List α)} {f : List Bk} (hf : FitsG P nx f) (hk : KeepsG U P nx f) (J : List (List α) → Prop) (hJ : ∀ S, Wide f.length S → AllG P S → J S → J (roundG U nx f 0 S)) : ∀ (m c : Nat) (S : List (List α)), sumG U S < m → Wide f.length S → AllG P S → J S →
    ∃ S' c', iterG U nx f m c S = (S', c') ∧ Wide f.length S' ∧ AllG P S' ∧ J S' ∧ c' ≤ c + m ∧ ∀ (i : Nat) (b : Bk), f[i]? = some b → ∀ q ∈ nx b (rowG S' i), Still U S' q
  | 0, c, S, hm, _, _, _ => by omega
  | m + 1, c, S, hm, hw, hP, hj => by
    obtain ⟨r1, r2, r3, r4⟩ := roundG_fall U P nx hf hk f [] S rfl hw hP
    simp only [List.length_nil, Nat.zero_add] at r1 r2 r3 r4
    rw [iterG]
    by_cases e : roundG U nx f 0 S = S
    · rw [if_pos e]
      exact ⟨S, c, rfl, hw, hP, hj, by omega, (r4 (by rw [e])).2⟩
    · rw [if_neg e]
      have hlt : sumG U (roundG U nx f 0 S) < sumG U S := Nat.lt_of_le_of_ne r3 fun h => e (r4 h).1
      obtain ⟨S', c', a1, a2, a3, a4, a5, a6⟩ := iterG_end hf hk J hJ m (c + 1) _ (by omega) r1 r2 (hJ S hw hP hj)
      exact ⟨S', c', a1, a2, a3, a4, by omega, a6⟩
theorem wide_ext {n : Nat} {S T : List (List α)} (z : α) (h : Wide n S) (h' : Wide n T) (e : ∀ i v, i < n → v < 8 → cellG z S i v = cellG z T i v) : S = T := by
  apply List.ext_getElem?
  intro i
  by_cases hi : i < n
  · rw [(h.row hi).2, (h'.row hi).2]
    congr 1
    apply List.ext_getElem?
    intro v
    by_cases hv : v < 8
    · rw [h.cell z hi hv, h'.cell z hi hv, e i v hi hv]
    · rw [List.getElem?_eq_none (by rw [(h.row hi).1]; omega), List.getElem?_eq_none (by rw [(h'.row hi).1]; omega)]
  · rw [List.getElem?_eq_none (by rw [h.1]; omega), List.getElem?_eq_none (by rw [h'.1]; omega)]
theorem comeG_get (U : Upd α) {n to : Nat} (hto : to < n) : ∀ (r : List α) (v : Nat) (S : List (List α)), v + r.length ≤ 8 → Wide n S → ∀ j w, cellG U.z (comeG U to r v S) j w = if j = to ∧ v ≤ w ∧ w < v + r.length then U.up (cellG U.z S to w) (r.getD (w - v) U.z) else cellG U.z S j w
  | [], v, S, _, h, j, w => by rw [if_neg (by rintro ⟨_, h1, h2⟩; simp at h2; omega)]; rfl
  | x :: r, v, S, hl, h, j, w => by
    simp only [List.length_cons] at hl
    rw [comeG, comeG_get U hto r (v + 1) _ (by omega) (h.set hto v _), setG_get h U.z hto (by omega), setG_get h U.z hto (by omega)]
    by_cases hj : j = to
    · by_cases hw : w = v
      · subst hw hj
        rw [if_neg (by omega), if_pos ⟨rfl, rfl⟩, if_pos (by simp)]
        simp
      · by_cases hw2 : v + 1 ≤ w ∧ w < v + 1 + r.length
        · rw [if_pos ⟨hj, hw2⟩, if_neg (fun h => hw h.2), if_pos ⟨hj, by simp only [List.length_cons]; omega⟩]
          obtain ⟨k, hk⟩ : ∃ k, w - v = k + 1 := ⟨w - v - 1, by omega⟩
          have hk2 : w - (v + 1) = k := by omega
          rw [hk, hk2]
          rfl
        · rw [if_neg (fun h => hw2 h.2), if_neg (fun h => hw h.2), if_neg (by simp only [List.length_cons]; omega)]
    · rw [if_neg (fun h => hj h.1), if_neg (fun h => hj h.1), if_neg (fun h => hj h.1)]
/-- A row that came to a block, put behind what is there. -/
theorem comeG_eq (U : Upd α) {n to : Nat} (hto : to < n) {out : List α} (ho : out.length = 8) {S : List (List α)} (h : Wide n S) : comeG U to out 0 S = S.set to (List.zipWith U.up (rowG S to) out) := by
  have hr := h.row hto
  have hw : Wide n (S.set to (List.zipWith U.up (rowG S to) out)) := ⟨by simp [h.1], fun r hr' => by
    rcases List.mem_or_eq_of_mem_set hr' with h1 | rfl
    · exact h.2 r h1
    · simp [hr.1, ho]⟩
  refine wide_ext U.z (comeG_wide U hto out 0 S h) hw fun i v hi hv => ?_
  rw [comeG_get U hto out 0 S (by omega) h]
  have hi' : to < S.length := by rw [h.1]; exact hto
  unfold cellG
  rw [rowG_set hi']
  by_cases e : i = to
  · subst e
    rw [if_pos ⟨rfl, by omega, by omega⟩, if_pos rfl]
    rw [Nat.sub_zero, List.getD_eq_getElem?_getD (l := List.zipWith _ _ _), List.getElem?_zipWith, List.getD_eq_getElem?_getD, List.getD_eq_getElem?_getD, List.getElem?_eq_getElem (l := rowG S i) (i := v) (by omega), List.getElem?_eq_getElem (l := out) (i := v) (by omega)]
    rfl
  · rw [if_neg (fun h => e h.1), if_neg e]
theorem comeG_still (U : Upd α) {n to : Nat} (hto : to < n) {out : List α} (ho : out.length = 8) {S : List (List α)} (h : Wide n S) (hs : ∀ v x, out[v]? = some x → U.up (cellG U.z S to v) x = cellG U.z S to v) : comeG U to out 0 S = S := by
  refine wide_ext U.z (comeG_wide U hto out 0 S h) h fun i v hi hv => ?_
  rw [comeG_get U hto out 0 S (by omega) h]
  split
  · rename_i e
    rw [e.1]
    refine hs v _ ?_
    rw [Nat.sub_zero, List.getD_eq_getElem?_getD, List.getElem?_eq_getElem (by omega)]
    rfl
  · rfl
end Go.Proofs.YtdbnokeegocpbaaGreat.Am
