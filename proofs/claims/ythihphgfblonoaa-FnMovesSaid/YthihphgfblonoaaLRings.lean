/- Rings: both ways to find them come to the same. No condition. -/
import Derived.Test.YthihphgfblonoaaLGoodMoves
import Derived.Test.YthihphgfblonoaaLCur
namespace Go.Proofs.Ythihphgfblonoaa.Am
open Go Go.RowKit
set_option linter.unusedSimpArgs false
set_option linter.unusedVariables false

def src (l : List Move) (t : Int) : Int := match l.find? fun m => m.to == t with | some m => m.fr | none => -1
theorem src_app {p r : List Move} {a : Move} {t : Int} (h : ∀ m ∈ p, m.to ≠ t) (ha : a.to = t) : src (p ++ a :: r) t = a.fr := by
  have : p.find? (fun m => m.to == t) = none := by
    rw [List.find?_eq_none]
    intro m hm
    simpa using h m hm
  simp [src, List.find?_append, this, ha]
theorem src_none {p : List Move} {t : Int} (h : ∀ m ∈ p, m.to ≠ t) : src p t = -1 := by
  have : p.find? (fun m => m.to == t) = none := by
    rw [List.find?_eq_none]
    intro m hm
    simpa using h m hm
  simp [src, this]
def walk (l : List Move) (p : Int) : Nat → Int → List Int → List Int × Int
  | 0, a, b => (b, a)
  | f + 1, a, b => if p < a then walk l p f (src l a) (b ++ [a]) else (b, a)
def walkS (l : List Move) (p : Int) : Nat → Int → List Int → Option (List Int)
  | 0, a, b => if a = p then some b else none
  | f + 1, a, b => if a = p then some b else if a < 0 then none else walkS l p f (src l a) (b ++ [a])
def ringAt (p : Int) (b : List Int) : List Int := p :: b.tail.reverse
def ringOf (l : List Move) (p : Int) : Option (List Int) := if (walk l p 10 (src l p) [p]).2 = p ∧ 2 ≤ (walk l p 10 (src l p) [p]).1.length then some (ringAt p (walk l p 10 (src l p) [p]).1) else none
def ringS (l : List Move) (p : Int) : List Int := match walkS l p 10 (src l p) [p] with
  | none => []
  | some b => if b.length = 1 then [] else ringAt p b
theorem walkS_pre (l : List Move) (p : Int) : ∀ (f : Nat) (a : Int) (b b' : List Int), walkS l p f a b = some b' → ∃ t, b' = b ++ t
  | 0, a, b, b', h => by
    unfold walkS at h
    split at h
    · cases h; exact ⟨[], by simp⟩
    · cases h
  | f + 1, a, b, b', h => by
    unfold walkS at h
    split at h
    · cases h; exact ⟨[], by simp⟩
    · split at h
      · cases h
      · obtain ⟨t, rfl⟩ := walkS_pre l p f _ _ _ h
        exact ⟨a :: t, by simp⟩
theorem walk_of (l : List Move) (p : Int) : ∀ (f : Nat) (a : Int) (b b' : List Int), walkS l p f a b = some b' → (∀ x ∈ b', p ≤ x) → walk l p f a b = (b', p)
  | 0, a, b, b', h, _ => by
    unfold walkS at h
    split at h
    · rename_i e; cases h; subst e; rfl
    · cases h
  | f + 1, a, b, b', h, hb => by
    unfold walkS at h
    split at h
    · rename_i e; cases h; subst e
      simp [walk]
    · rename_i e
      split at h
      · cases h
      · obtain ⟨t, ht⟩ := walkS_pre l p f _ _ _ h
        have : p ≤ a := hb a (by rw [ht]; simp)
        rw [walk, if_pos (by omega)]
        exact walk_of l p f _ _ _ h hb
theorem walkS_of (l : List Move) (p : Int) (hp : 0 ≤ p) : ∀ (f : Nat) (a : Int) (b b' : List Int), (∀ x ∈ b, p ≤ x) → walk l p f a b = (b', p) → walkS l p f a b = some b' ∧ ∀ x ∈ b', p ≤ x
  | 0, a, b, b', hb, h => by
    simp only [walk, Prod.mk.injEq] at h
    obtain ⟨rfl, rfl⟩ := h
    exact ⟨by simp [walkS], hb⟩
  | f + 1, a, b, b', hb, h => by
    unfold walk at h
    split at h
    · rename_i hlt
      have := walkS_of l p hp f _ _ _ (fun x hx => by
        rcases List.mem_append.1 hx with hx | hx
        · exact hb x hx
        · simp at hx; omega) h
      rw [walkS, if_neg (by omega), if_neg (by omega)]
      exact this
    · simp only [Prod.mk.injEq] at h
      obtain ⟨rfl, rfl⟩ := h
      exact ⟨by simp [walkS], hb⟩
theorem walk_len (l : List Move) (p : Int) : ∀ (f : Nat) (a : Int) (b : List Int), (walk l p f a b).1.length ≤ b.length + f
  | 0, a, b => by simp [walk]
  | f + 1, a, b => by
    unfold walk
    split
    · have := walk_len l p f (src l a) (b ++ [a])
      simp at this
      omega
    · simp
theorem walkS_len (l : List Move) (p : Int) : ∀ (f : Nat) (a : Int) (b b' : List Int), walkS l p f a b = some b' → b'.length ≤ b.length + f
  | 0, a, b, b', h => by
    unfold walkS at h
    split at h
    · cases h; simp
    · cases h
  | f + 1, a, b, b', h => by
    unfold walkS at h
    split at h
    · cases h; simp
    · split at h
      · cases h
      · have := walkS_len l p f _ _ _ h
        simp at this
        omega
theorem ring_same (l : List Move) (p : Int) (hp : 0 ≤ p) : ringOf l p = if 0 < (ringS l p).length ∧ ∀ x ∈ ringS l p, p ≤ x then some (ringS l p) else none := by
  unfold ringOf
  by_cases h : (walk l p 10 (src l p) [p]).2 = p
  · obtain ⟨h1, h2⟩ := walkS_of l p hp 10 (src l p) [p] (walk l p 10 (src l p) [p]).1 (by simp) (Prod.ext rfl h)
    unfold ringS
    rw [h1]
    simp only
    obtain ⟨t, ht⟩ := walkS_pre l p _ _ _ _ h1
    by_cases hl : (walk l p 10 (src l p) [p]).1.length = 1
    · rw [if_neg (by omega), if_pos hl]
      simp
    · have : 2 ≤ (walk l p 10 (src l p) [p]).1.length := by rw [ht] at hl ⊢; simp at hl ⊢; exact List.length_pos_iff.2 hl
      rw [if_pos ⟨h, this⟩, if_neg hl, if_pos]
      refine ⟨by simp [ringAt], fun x hx => ?_⟩
      simp only [ringAt, List.mem_cons, List.mem_reverse] at hx
      rcases hx with rfl | hx
      · exact Int.le_refl _
      · exact h2 x (List.mem_of_mem_tail hx)
  · rw [if_neg fun h' => h h'.1, if_neg]
    rintro ⟨h1, h2⟩
    unfold ringS at h1 h2
    split at h1
    · simp at h1
    · rename_i b hb
      split at h1
      · simp at h1
      · rename_i hl
        rw [hb] at h2
        simp only [if_neg hl] at h2
        obtain ⟨t, ht⟩ := walkS_pre l p _ _ _ _ hb
        have := walk_of l p 10 (src l p) [p] b hb fun x hx => by
          rw [ht] at hx h2
          simp at hx
          rcases hx with rfl | hx
          · exact Int.le_refl _
          · exact h2 x (by simp [ringAt, hx])
        exact h (by rw [this])
theorem ringS_len (l : List Move) (p : Int) : (ringS l p).length ≤ 11 := by
  unfold ringS
  split
  · simp
  · rename_i b hb
    have := walkS_len l p _ _ _ _ hb
    split
    · simp
    · simp [ringAt] at this ⊢
      omega
def ringsTo (l : List Move) (n : Nat) : List (List Int) := ((List.range n).map fun i : Nat => (i : Int)).filterMap (ringOf l)
def rings (l : List Move) : List (List Int) := ringsTo l 10
theorem ringsTo_succ (l : List Move) (n : Nat) : ringsTo l (n + 1) = ringsTo l n ++ (match ringOf l n with | some r => [r] | none => []) := by
  simp only [ringsTo, List.range_succ, List.map_append, List.filterMap_append, List.map_cons, List.map_nil, List.filterMap_cons, List.filterMap_nil]
  congr 1
  cases ringOf l n <;> rfl
theorem ringsTo_len (l : List Move) : ∀ n, (ringsTo l n).length ≤ n
  | 0 => by simp [ringsTo]
  | n + 1 => by
    rw [ringsTo_succ, List.length_append]
    have := ringsTo_len l n
    split <;> simp <;> omega
theorem rings_inner (l : List Move) : ∀ r ∈ rings l, r.length ≤ 11 := by
  intro r hr
  simp only [rings, ringsTo, List.mem_filterMap, List.mem_map] at hr
  obtain ⟨_, ⟨i, _, rfl⟩, h⟩ := hr
  rw [ring_same l i (by omega)] at h
  split at h
  · cases h
    exact ringS_len l i
  · cases h
theorem sourceOf_ok (l : List Move) (v : AV) (x : Int) (H : Hp) (hm : l.length ≤ 1048576) (hv : Row 2 H v (moves l)) : T Try.prog 69 [v, .int .i64 x] H (fun r K => r = .int .i64 (src l x) ∧ Fr H K) := by
  refine T.by tabOk Try.func69 (by kernel_rfl) rfl _ (by simp [Try.f69]) H _ ?_
  have hlen := hv.len 51
  simp [Try.f69, tab, hlen]
  refine W_loop _ fun I hI => ?_
  have key : ∀ (r p : List Move) (ts : TS) (K : Hp), l = p ++ r → Fr H K → (∀ m ∈ p, m.to ≠ x) → (ts 0 = v ∧ ts 1 = .int .i64 x ∧ ts 7 = v ∧ ts 8 = .int .i64 l.length ∧ ts 9 = .int .i64 p.length) → I ts K := by
    intro r
    induction r with
    | nil =>
      intro p ts K e hK hp hts
      apply hI
      simp at e
      subst e
      simp [hts, tab, src_none hp]
      exact hK
    | cons a r ih =>
      intro p ts K e hK hp hts
      apply hI
      have hlt : (p.length : Int) < l.length := by simp [e]; omega
      obtain ⟨b, q, _, e1, e2, -⟩ := hv.get (tab := tab) (e := 51) (ety := tM) rfl (i := p.length) (a := a) (by simp [e]) .i64
      have e2 := e2 rfl
      have hfr := hK.app' [some ⟨2, true, a.enc⟩]
      have hw := wrap64 (x := p.length + 1) (by omega) (by omega)
      by_cases ha : a.to = x
      · have hs : src l x = a.fr := by rw [e, src_app hp ha]
        subst ha
        simp (maxDischargeDepth := 9) [hts, tab, hlt, hK.index, hK.load, e1, e2, Move.enc, loadB]
        exact ⟨hs.symm, hfr⟩
      · simp (maxDischargeDepth := 9) [hts, tab, hlt, hK.index, hK.load, e1, e2, Move.enc, loadB, ha, hw]
        exact ih (p ++ [a]) _ _ (by simp [e]) hfr (fun m hm => by
          rcases List.mem_append.1 hm with hm | hm
          · exact hp m hm
          · simp at hm; subst hm; exact ha) (by simp [hts])
  exact key l [] _ H rfl (Fr.refl H) (by simp) (by simp)
theorem l8Into_ok (l : List Move) (v : AV) (x : Int) (H : Hp) (hm : l.length ≤ 1048576) (hv : Row 2 H v (moves l)) : T Try.prog 79 [v, .int .i64 x] H (fun r K => r = .int .i64 (src l x) ∧ Fr H K) := by
  refine T.by tabOk Try.func79 (by kernel_rfl) rfl _ (by simp [Try.f79]) H _ ?_
  have hlen := hv.len 51
  simp [Try.f79, tab, hlen]
  refine W_loop _ fun I hI => ?_
  have key : ∀ (r p : List Move) (ts : TS) (K : Hp), l = p ++ r → Fr H K → (∀ m ∈ p, m.to ≠ x) → (ts 0 = v ∧ ts 1 = .int .i64 x ∧ ts 7 = v ∧ ts 8 = .int .i64 l.length ∧ ts 9 = .int .i64 p.length) → I ts K := by
    intro r
    induction r with
    | nil =>
      intro p ts K e hK hp hts
      apply hI
      simp at e
      subst e
      simp [hts, tab, src_none hp]
      exact hK
    | cons a r ih =>
      intro p ts K e hK hp hts
      apply hI
      have hlt : (p.length : Int) < l.length := by simp [e]; omega
      obtain ⟨b, q, _, e1, e2, -⟩ := hv.get (tab := tab) (e := 51) (ety := tM) rfl (i := p.length) (a := a) (by simp [e]) .i64
      have e2 := e2 rfl
      have hfr := hK.app' [some ⟨2, true, a.enc⟩]
      have hw := wrap64 (x := p.length + 1) (by omega) (by omega)
      by_cases ha : a.to = x
      · have hs : src l x = a.fr := by rw [e, src_app hp ha]
        subst ha
        simp (maxDischargeDepth := 9) [hts, tab, hlt, hK.index, hK.load, e1, e2, Move.enc, loadB]
        exact ⟨hs.symm, hfr⟩
      · simp (maxDischargeDepth := 9) [hts, tab, hlt, hK.index, hK.load, e1, e2, Move.enc, loadB, ha, hw]
        exact ih (p ++ [a]) _ _ (by simp [e]) hfr (fun m hm => by
          rcases List.mem_append.1 hm with hm | hm
          · exact hp m hm
          · simp at hm; subst hm; exact ha) (by simp [hts])
  exact key l [] _ H rfl (Fr.refl H) (by simp) (by simp)
/-- Rows of rows that were made behind the memory's end. -/
def LRes (H : Hp) (ll : List (List Int)) (r : AV) (K : Hp) : Prop := ∃ us, LOwn K r ll us ∧ (∀ b, (r.at b ∨ ∃ u ∈ us, u.at b) → H.length ≤ b) ∧ Fr H K
set_option maxRecDepth 100000 in
theorem ringsIn_ok (l : List Move) (v : AV) (H : Hp) (hm : l.length ≤ 1048576) (hv : Row 2 H v (moves l)) : T Try.prog 57 [v] H (LRes H (rings l)) := by
  refine T.by tabOk Try.func57 (by kernel_rfl) rfl _ (by simp [Try.f57]) H _ ?_
  simp [Try.f57, tab, buildSliceA, zerosA]
  refine W_loop _ fun I hI => ?_
  have key : ∀ (d n : Nat) (ts : TS) (K : Hp) (out : AV) (us : List AV), n + d = 10 → LOwn K out (ringsTo l n) us → (∀ b, (out.at b ∨ ∃ u ∈ us, u.at b) → H.length ≤ b) → Fr H K → (ts 0 = v ∧ ts 3 = out ∧ ts 10 = .int .i64 n) → I ts K := by
    intro d
    induction d with
    | zero =>
      intro n ts K out us e ho hf hK hts
      apply hI
      obtain rfl : n = 10 := by omega
      simp [hts, tab]
      exact ⟨us, ho, hf, hK⟩
    | succ d ih =>
      intro n ts K out us e ho hf hK hts
      apply hI
      have hlt : (n : Int) < 10 := by omega
      have hw0 := wrap64 (x := n + 1) (by omega) (by omega)
      have hlen10 := ringsTo_len l n
      obtain ⟨K0, hK0⟩ : ∃ K0, K0 = K ++ [some ⟨1, true, [.int .i64 n]⟩] := ⟨_, rfl⟩
      have f0 : Fr K K0 := hK0 ▸ Fr.app K _
      have o0 : Own 1 K0 (.sl K.length 0 1) (ints [(n : Int)]) := by
        have := Own.new (sz := 1) (K := K) (es := ints [(n : Int)]) (ints_one _)
        rw [hK0]
        simpa [ints] using this
      simp [hts, tab, hlt, buildSliceA, zerosA, fillA, over]
      rw [← hK0]
      refine (sourceOf_ok l v n K0 hm (hv.fr (hK.trans f0))).mono fun x K1 ⟨e1, f1⟩ => ?_
      subst e1
      simp [hts]
      refine W_loop _ fun I2 hI2 => ?_
      have key2 : ∀ (f : Nat) (a : Int) (B : List Int) (ts : TS) (K2 : Hp) (u : AV), B.length + f = 11 → walk l n f a B = walk l n 10 (src l n) [(n : Int)] → Own 1 K2 u (ints B) → (∀ b, u.at b → K.length ≤ b) → Fr K K2 → (ts 0 = v ∧ ts 3 = out ∧ ts 10 = .int .i64 n ∧ ts 4 = .int .i64 n ∧ ts 5 = u ∧ ts 6 = .int .i64 a) → I2 ts K2 := by
        have done : ∀ (f : Nat) (a : Int) (B : List Int) (ts : TS) (K2 : Hp) (u : AV), B.length + f = 11 → (n < a → f = 0) → walk l n 10 (src l n) [(n : Int)] = (B, a) → Own 1 K2 u (ints B) → (∀ b, u.at b → K.length ≤ b) → Fr K K2 → (ts 0 = v ∧ ts 3 = out ∧ ts 10 = .int .i64 n ∧ ts 4 = .int .i64 n ∧ ts 5 = u ∧ ts 6 = .int .i64 a) → I2 ts K2 := by
          intro f a B ts K2 u hBf hfa hw ho2 hu hK2 hts
          apply hI2
          have hlen := ho2.row.len 3
          have hlen : lenA (.slice 3) u = some (.int .i64 B.length) := by simpa using hlen
          have hnone : ¬ (a = n ∧ 2 ≤ B.length) → ringOf l n = none := fun h => by rw [ringOf, hw, if_neg h]
          have hsome : (a = n ∧ 2 ≤ B.length) → ringOf l n = some (ringAt n B) := fun h => by rw [ringOf, hw, if_pos h]
          by_cases han : a = n
          case neg =>
            by_cases hna : (n : Int) < a
            · have hf0 := hfa hna
              have h11 : ¬ (B.length : Int) ≤ 10 := by omega
              simp [hts, tab, hna, hlen, h11, han, hw0]
              exact ih (n + 1) _ K2 out us (by omega) (by rw [ringsTo_succ, hnone fun h => han h.1]; simpa using ho.fr hK2) hf (hK.trans hK2) (by simp [hts])
            · simp [hts, tab, hna, hlen, han, hw0]
              exact ih (n + 1) _ K2 out us (by omega) (by rw [ringsTo_succ, hnone fun h => han h.1]; simpa using ho.fr hK2) hf (hK.trans hK2) (by simp [hts])
          subst han
          by_cases h2 : 2 ≤ B.length
          case neg =>
            have h2' : (B.length : Int) < 2 := by omega
            have h2n : B.length < 2 := by omega
            simp [hts, tab, hlen, h2', h2n, hw0]
            exact ih (n + 1) _ K2 out us (by omega) (by rw [ringsTo_succ, hnone fun h => h2 h.2]; simpa using ho.fr hK2) hf (hK.trans hK2) (by simp [hts])
          have h2' : ¬ (B.length : Int) < 2 := by omega
          have h2n : ¬ B.length < 2 := by omega
          have hw1 := wrap64 (x := B.length - 1) (by omega) (by omega)
          have o3 : Own 1 (K2 ++ [some ⟨1, true, [.int .i64 n]⟩]) (.sl K2.length 0 1) (ints [(n : Int)]) := by
            have := Own.new (sz := 1) (K := K2) (es := ints [(n : Int)]) (ints_one _)
            simpa [ints] using this
          simp [hts, tab, hlen, h2', h2n, hw1, buildSliceA, zerosA, fillA, over]
          refine W_loop _ fun I3 hI3 => ?_
          have key3 : ∀ (i : Nat) (ts : TS) (K3 : Hp) (w : AV) (R : List Int), i < B.length → R.length + i = B.length → R ++ ((B.take (i + 1)).tail).reverse = ringAt n B → Own 1 K3 w (ints R) → (∀ b, w.at b → K2.length ≤ b) → Fr K2 K3 → (ts 0 = v ∧ ts 3 = out ∧ ts 10 = .int .i64 n ∧ ts 4 = .int .i64 n ∧ ts 5 = u ∧ ts 7 = w ∧ ts 8 = .int .i64 i) → I3 ts K3 := by
            intro i
            induction i with
            | zero =>
              intro ts K3 w R hi hR hr ho3 hwb hK3 hts
              apply hI3
              have hr : R = ringAt n B := by
                cases B with
                | nil => simp at hi
                | cons x B => simpa using hr
              have ho4 := ho.fr (hK2.trans hK3)
              have hlt4 := ho.lt
              obtain ⟨v', K4, a1, a2, a3, a4⟩ := ho4.push (t := R) ho3 (fun b hb hx => by have := hwb b hb; have := hlt4 b hx; have := hK2.1; omega) (by omega)
              simp [hts, tab, buildSliceA, zerosA, fillA, over, ho3.row.one, cells_of_one ho3.row.one, a1, hw0]
              have hK4 : Fr H K4 := Fr.then ((hK.trans hK2).trans hK3) a3 fun b hb => hf b (.inl hb)
              refine ih (n + 1) _ K4 v' (us ++ [w]) (by omega) (by rw [ringsTo_succ, hsome ⟨rfl, h2⟩, ← hr]; exact a2) ?_ hK4 (by simp [hts])
              rintro b (hb | ⟨x, hx, hb⟩)
              · rcases a4 b hb with h | h
                · exact hf b (.inl h)
                · have := ((hK.trans hK2).trans hK3).1; omega
              · rcases List.mem_append.1 hx with hx | hx
                · exact hf b (.inr ⟨x, hx, hb⟩)
                · simp at hx
                  subst hx
                  have := hwb b hb
                  have := (hK.trans hK2).1
                  omega
            | succ i ih3 =>
              intro ts K3 w R hi hR hr ho3 hwb hK3 hts
              apply hI3
              have hpos : (0 : Int) < (i : Int) + 1 := by omega
              have hget : B[i + 1]? = some B[i + 1] := List.getElem?_eq_getElem hi
              obtain ⟨b1, q1, _, x1, x2⟩ := Row.get1 (ho2.fr hK3).row (tab := tab) (e := 3) (ety := tI) rfl rfl rfl hget .i64
              obtain ⟨w', K4, a1, a2, a3, a4⟩ := ho3.push B[i + 1] (by omega)
              have hw2 := wrap64 (x := (i : Int)) (by omega) (by omega)
              simp at x1
              simp (maxDischargeDepth := 9) [hts, tab, hpos, x1, x2, buildSliceA, zerosA, fillA, over, a1, hw2]
              refine ih3 _ K4 w' (R ++ [B[i + 1]]) (by omega) (by simp; omega) ?_ a2 (fun b hb => (a4 b hb).elim (hwb b) fun h => Nat.le_trans hK3.1 h) (Fr.then hK3 a3 hwb) (by simp [hts])
              rw [← hr, List.append_assoc]
              congr 1
              have e1 : B.take (i + 1 + 1) = B.take (i + 1) ++ [B[i + 1]] := (List.take_append_getElem hi).symm
              rw [e1]
              cases hB : B.take (i + 1) with
              | nil =>
                have hlen2 : (B.take (i + 1)).length = i + 1 := by rw [List.length_take]; omega
                rw [hB] at hlen2
                simp at hlen2
              | cons x y => simp
          refine key3 (B.length - 1) _ _ (.sl K2.length 0 1) [(n : Int)] (by omega) (by simp; omega) ?_ o3 (fun b hb => by cases hb; exact Nat.le_refl _) (Fr.app K2 _) (by simp [hts]; omega)
          rw [List.take_of_length_le (by omega)]
          rfl
        intro f
        induction f with
        | zero =>
          intro a B ts K2 u hBf hw ho2 hu hK2 hts
          exact done 0 a B ts K2 u hBf (fun _ => rfl) (by rw [← hw]; rfl) ho2 hu hK2 hts
        | succ f ih2 =>
          intro a B ts K2 u hBf hw ho2 hu hK2 hts
          by_cases hna : (n : Int) < a
          case neg => exact done (f + 1) a B ts K2 u hBf (fun h => absurd h hna) (by rw [← hw, walk, if_neg hna]) ho2 hu hK2 hts
          apply hI2
          have hlen := ho2.row.len 3
          have hlen : lenA (.slice 3) u = some (.int .i64 B.length) := by simpa using hlen
          have h10 : (B.length : Int) ≤ 10 := by omega
          obtain ⟨u', K3, a1, a2, a3, a4⟩ := ho2.push a (by omega)
          have hK3 : Fr K K3 := Fr.then hK2 a3 hu
          simp [hts, tab, hna, hlen, h10, buildSliceA, zerosA, fillA, over, a1]
          refine (sourceOf_ok l v a K3 hm (hv.fr (hK.trans hK3))).mono fun x K4 ⟨e1, f4⟩ => ?_
          subst e1
          simp [hts]
          exact ih2 (src l a) (B ++ [a]) _ K4 u' (by simp; omega) (by rw [← hw, walk, if_pos hna]) (a2.fr f4) (fun b hb => (a4 b hb).elim (hu b) fun h => Nat.le_trans hK2.1 h) (hK3.trans f4) (by simp [hts])
      exact key2 10 (src l n) [(n : Int)] _ K1 _ rfl rfl (o0.fr f1) (fun b hb => by cases hb; exact Nat.le_refl _) (f0.trans f1) (by simp [hts])
  refine key 10 0 _ _ _ [] rfl ?_ ?_ (Fr.app H _) (by simp; rfl)
  · refine ⟨?_, rfl, by simp [ringsTo], by simp, by simp⟩
    have := Own.new (sz := 1) (K := H) (es := slots []) (by simp [slots])
    simpa [slots, ringsTo] using this
  · rintro b (hb | ⟨u, hu, _⟩)
    · cases hb; exact Nat.le_refl _
    · simp at hu
set_option maxRecDepth 100000 in
theorem l8Ring_ok (l : List Move) (v : AV) (p : Int) (H : Hp) (hm : l.length ≤ 1048576) (hv : Row 2 H v (moves l)) : T Try.prog 68 [v, .int .i64 p] H (fun r K => Own 1 K r (ints (ringS l p)) ∧ Fresh H.length r ∧ Fr H K) := by
  refine T.by tabOk Try.func68 (by kernel_rfl) rfl _ (by simp [Try.f68]) H _ ?_
  obtain ⟨K0, hK0⟩ : ∃ K0, K0 = H ++ [some ⟨1, true, [.int .i64 p]⟩] := ⟨_, rfl⟩
  have f0 : Fr H K0 := hK0 ▸ Fr.app H _
  have o0 : Own 1 K0 (.sl H.length 0 1) (ints [p]) := by
    have := Own.new (sz := 1) (K := H) (es := ints [p]) (ints_one _)
    rw [hK0]
    simpa [ints] using this
  simp [Try.f68, tab, buildSliceA, zerosA, fillA, over]
  rw [← hK0]
  refine (l8Into_ok l v p K0 hm (hv.fr f0)).mono fun x K1 ⟨e1, f1⟩ => ?_
  subst e1
  simp
  refine W_loop _ fun I hI => ?_
  have key : ∀ (f : Nat) (a : Int) (B : List Int) (ts : TS) (K2 : Hp) (u : AV), 0 < B.length → B.length + f = 11 → walkS l p f a B = walkS l p 10 (src l p) [p] → Own 1 K2 u (ints B) → Fresh H.length u → Fr H K2 → (ts 0 = v ∧ ts 1 = .int .i64 p ∧ ts 5 = u ∧ ts 6 = .int .i64 a) → I ts K2 := by
    have done : ∀ (B : List Int) (ts : TS) (K2 : Hp) (u : AV), 0 < B.length → B.length ≤ 11 → walkS l p 10 (src l p) [p] = some B → Own 1 K2 u (ints B) → Fresh H.length u → Fr H K2 → (ts 0 = v ∧ ts 1 = .int .i64 p ∧ ts 5 = u ∧ ts 6 = .int .i64 p) → I ts K2 := by
      intro B ts K2 u hB0 hB hw ho2 hu hK2 hts
      apply hI
      have hlen := ho2.row.len 3
      have hlen : lenA (.slice 3) u = some (.int .i64 B.length) := by simpa using hlen
      by_cases h1 : B.length = 1
      · have h1' : (B.length : Int) = 1 := by omega
        simp [hts, tab, hlen, h1, ringS, hw]
        exact ⟨by simpa [ints] using Own.nil 1 K2, Fresh.nil _, hK2⟩
      have h1' : ¬ (B.length : Int) = 1 := by omega
      have hrs : ringS l p = ringAt p B := by rw [ringS, hw]; simp [h1]
      have hw1 := wrap64 (x := B.length - 1) (by omega) (by omega)
      have o3 : Own 1 (K2 ++ [some ⟨1, true, [.int .i64 p]⟩]) (.sl K2.length 0 1) (ints [p]) := by
        have := Own.new (sz := 1) (K := K2) (es := ints [p]) (ints_one _)
        simpa [ints] using this
      simp [hts, tab, hlen, h1, h1', hw1, buildSliceA, zerosA, fillA, over]
      refine W_loop _ fun I3 hI3 => ?_
      have key3 : ∀ (i : Nat) (ts : TS) (K3 : Hp) (w : AV) (R : List Int), i < B.length → R.length + i = B.length → R ++ ((B.take (i + 1)).tail).reverse = ringAt p B → Own 1 K3 w (ints R) → (∀ b, w.at b → K2.length ≤ b) → Fr K2 K3 → (ts 5 = u ∧ ts 7 = w ∧ ts 8 = .int .i64 i) → I3 ts K3 := by
        intro i
        induction i with
        | zero =>
          intro ts K3 w R hi hR hr ho3 hwb hK3 hts
          apply hI3
          have hr : R = ringAt p B := by
            cases B with
            | nil => simp at hi
            | cons x B => simpa using hr
          simp [hts, tab, hrs, ← hr]
          exact ⟨ho3, fun b hb => Nat.le_trans hK2.1 (hwb b hb), hK2.trans hK3⟩
        | succ i ih3 =>
          intro ts K3 w R hi hR hr ho3 hwb hK3 hts
          apply hI3
          have hpos : (0 : Int) < (i : Int) + 1 := by omega
          have hget : B[i + 1]? = some B[i + 1] := List.getElem?_eq_getElem hi
          obtain ⟨b1, q1, _, x1, x2⟩ := Row.get1 (ho2.fr hK3).row (tab := tab) (e := 3) (ety := tI) rfl rfl rfl hget .i64
          obtain ⟨w', K4, a1, a2, a3, a4⟩ := ho3.push B[i + 1] (by omega)
          have hw2 := wrap64 (x := (i : Int)) (by omega) (by omega)
          simp at x1
          simp (maxDischargeDepth := 9) [hts, tab, hpos, x1, x2, buildSliceA, zerosA, fillA, over, a1, hw2]
          refine ih3 _ K4 w' (R ++ [B[i + 1]]) (by omega) (by simp; omega) ?_ a2 (fun b hb => (a4 b hb).elim (hwb b) fun h => Nat.le_trans hK3.1 h) (Fr.then hK3 a3 hwb) (by simp [hts])
          rw [← hr, List.append_assoc]
          congr 1
          have e1 : B.take (i + 1 + 1) = B.take (i + 1) ++ [B[i + 1]] := (List.take_append_getElem hi).symm
          rw [e1]
          cases hB : B.take (i + 1) with
          | nil =>
            have hlen2 : (B.take (i + 1)).length = i + 1 := by rw [List.length_take]; omega
            rw [hB] at hlen2
            simp at hlen2
          | cons x y => simp
      refine key3 (B.length - 1) _ _ (.sl K2.length 0 1) [p] (by omega) (by simp; omega) ?_ o3 (fun b hb => by cases hb; exact Nat.le_refl _) (Fr.app K2 _) (by simp [hts]; omega)
      rw [List.take_of_length_le (by omega)]
      rfl
    intro f
    induction f with
    | zero =>
      intro a B ts K2 u hB0 hBf hw ho2 hu hK2 hts
      by_cases hap : a = p
      · subst hap
        exact done B ts K2 u hB0 (by omega) (by rw [← hw]; simp [walkS]) ho2 hu hK2 hts
      apply hI
      have hlen := ho2.row.len 3
      have hlen : lenA (.slice 3) u = some (.int .i64 B.length) := by simpa using hlen
      have h10 : (10 : Int) < B.length := by omega
      have h10n : 10 < B.length := by omega
      have hrs : ringS l p = [] := by rw [ringS, ← hw]; simp [walkS, hap]
      by_cases hneg : a < 0
      · simp [hts, tab, hap, hneg, hrs]
        exact ⟨by simpa [ints] using Own.nil 1 K2, Fresh.nil _, hK2⟩
      · simp [hts, tab, hap, hneg, hrs, hlen, h10, h10n]
        exact ⟨by simpa [ints] using Own.nil 1 K2, Fresh.nil _, hK2⟩
    | succ f ih2 =>
      intro a B ts K2 u hB0 hBf hw ho2 hu hK2 hts
      by_cases hap : a = p
      · subst hap
        exact done B ts K2 u hB0 (by omega) (by rw [← hw]; simp [walkS]) ho2 hu hK2 hts
      apply hI
      have hlen := ho2.row.len 3
      have hlen : lenA (.slice 3) u = some (.int .i64 B.length) := by simpa using hlen
      by_cases hneg : a < 0
      · have hrs : ringS l p = [] := by rw [ringS, ← hw]; simp [walkS, hap, hneg]
        simp [hts, tab, hap, hneg, hrs]
        exact ⟨by simpa [ints] using Own.nil 1 K2, Fresh.nil _, hK2⟩
      have h10 : ¬ (10 : Int) < B.length := by omega
      have h10n : ¬ 10 < B.length := by omega
      obtain ⟨u', K3, a1, a2, a3, a4⟩ := ho2.push a (by omega)
      have hK3 : Fr H K3 := Fr.then hK2 a3 hu
      simp [hts, tab, hap, hneg, hlen, h10, h10n, buildSliceA, zerosA, fillA, over, a1]
      refine (l8Into_ok l v a K3 hm (hv.fr hK3)).mono fun x K4 ⟨e1, f4⟩ => ?_
      subst e1
      simp [hts]
      exact ih2 (src l a) (B ++ [a]) _ K4 u' (by simp) (by simp; omega) (by rw [← hw]; simp [walkS, hap, hneg]) (a2.fr f4) (fun b hb => (a4 b hb).elim (hu b) fun h => Nat.le_trans hK2.1 h) (hK3.trans f4) (by simp [hts])
  exact key 10 (src l p) [p] _ K1 _ (by simp) rfl rfl (o0.fr f1) (fun b hb => by cases hb; exact Nat.le_refl _) (f0.trans f1) (by simp)
set_option maxRecDepth 100000 in
theorem l8Rings_ok (l : List Move) (v : AV) (H : Hp) (hm : l.length ≤ 1048576) (hv : Row 2 H v (moves l)) : T Try.prog 56 [v] H (LRes H (rings l)) := by
  refine T.by tabOk Try.func56 (by kernel_rfl) rfl _ (by simp [Try.f56]) H _ ?_
  simp [Try.f56]
  refine W_loop _ fun I hI => ?_
  have key : ∀ (d n : Nat) (ts : TS) (K : Hp) (out : AV) (us : List AV), n + d = 10 → LOwn K out (ringsTo l n) us → (∀ b, (out.at b ∨ ∃ u ∈ us, u.at b) → H.length ≤ b) → Fr H K → (ts 0 = v ∧ ts 3 = out ∧ ts 4 = .int .i64 n) → I ts K := by
    intro d
    induction d with
    | zero =>
      intro n ts K out us e ho hf hK hts
      apply hI
      obtain rfl : n = 10 := by omega
      simp [hts, tab]
      exact ⟨us, ho, hf, hK⟩
    | succ d ih =>
      intro n ts K out us e ho hf hK hts
      apply hI
      have hlt : (n : Int) < 10 := by omega
      have hw0 := wrap64 (x := n + 1) (by omega) (by omega)
      have hlen10 := ringsTo_len l n
      simp [hts, tab, hlt]
      refine (l8Ring_ok l v n K hm (hv.fr hK)).mono fun w K1 ⟨o1, ofr, f1⟩ => ?_
      have hlw := o1.row.len 3
      have hlw : lenA (.slice 3) w = some (.int .i64 (ringS l n).length) := by simpa using hlw
      have hrs := ring_same l n (by omega)
      have hrl := ringS_len l n
      simp [hts, tab, hlw]
      refine W_loop _ fun I2 hI2 => ?_
      have key2 : ∀ (r p : List Int) (ts : TS), ringS l n = p ++ r → (ts 0 = v ∧ ts 3 = out ∧ ts 4 = .int .i64 n ∧ ts 5 = w ∧ ts 6 = .bool (decide (0 < (ringS l n).length ∧ ∀ x ∈ p, (n : Int) ≤ x)) ∧ ts 19 = w ∧ ts 20 = .int .i64 (ringS l n).length ∧ ts 21 = .int .i64 p.length) → I2 ts K1 := by
        intro r
        induction r with
        | nil =>
          intro p ts e2 hts
          apply hI2
          simp at e2
          by_cases hc : 0 < (ringS l n).length ∧ ∀ x ∈ ringS l n, (n : Int) ≤ x
          · have ht6 : ts 6 = .bool true := by rw [hts.2.2.2.2.1, ← e2]; simp only [decide_eq_true hc]
            obtain ⟨y0, y3, y4, y5, _, y19, y20, y21⟩ := hts
            have hlt4 := ho.lt
            obtain ⟨v', K4, a1, a2, a3, a4⟩ := (ho.fr f1).push o1 (fun b hb hx => by have := ofr b hb; have := hlt4 b hx; omega) (by omega)
            rw [← e2] at y21
            simp [y0, y3, y4, y5, ht6, y19, y20, y21, tab, buildSliceA, zerosA, fillA, over, o1.row.one, cells_of_one o1.row.one, a1, hw0]
            have hK4 : Fr H K4 := Fr.then (hK.trans f1) a3 fun b hb => hf b (.inl hb)
            refine ih (n + 1) _ K4 v' (us ++ [w]) (by omega) (by rw [ringsTo_succ, hrs, if_pos hc]; exact a2) ?_ hK4 (by simp [y0])
            rintro b (hb | ⟨x, hx, hb⟩)
            · rcases a4 b hb with h | h
              · exact hf b (.inl h)
              · have := (hK.trans f1).1; omega
            · rcases List.mem_append.1 hx with hx | hx
              · exact hf b (.inr ⟨x, hx, hb⟩)
              · simp at hx
                subst hx
                have := ofr b hb
                have := hK.1
                omega
          · have ht6 : ts 6 = .bool false := by rw [hts.2.2.2.2.1, ← e2]; simp only [decide_eq_false hc]
            obtain ⟨y0, y3, y4, y5, _, y19, y20, y21⟩ := hts
            rw [← e2] at y21
            simp [y0, y3, y4, y5, ht6, y19, y20, y21, tab, hw0]
            exact ih (n + 1) _ K1 out us (by omega) (by rw [ringsTo_succ, hrs, if_neg hc]; simpa using ho.fr f1) hf (hK.trans f1) (by simp [y0, y3])
        | cons a r ih2 =>
          intro p ts e2 hts
          apply hI2
          have hl2 := congrArg List.length e2
          simp at hl2
          have hlt2 : (p.length : Int) < (ringS l n).length := by omega
          obtain ⟨b1, q1, _, x1, x2⟩ := Row.get1 o1.row (tab := tab) (e := 3) (ety := tI) rfl rfl rfl (i := p.length) (a := a) (by rw [e2]; simp) .i64
          have hw2 := wrap64 (x := p.length + 1) (by omega) (by omega)
          have hl0 : 0 < (ringS l n).length := by omega
          by_cases hp : ∀ x ∈ p, (n : Int) ≤ x
          · have ht6 : ts 6 = .bool true := by rw [hts.2.2.2.2.1]; simp only [decide_eq_true (And.intro hl0 hp)]
            obtain ⟨y0, y3, y4, y5, _, y19, y20, y21⟩ := hts
            simp [y0, y3, y4, y5, ht6, y19, y20, y21, tab, hlt2, x1, x2, hw2]
            have hdec : (decide (0 < (ringS l n).length ∧ ∀ x ∈ p ++ [a], (n : Int) ≤ x)) = decide ((n : Int) ≤ a) := by
              by_cases hna : (n : Int) ≤ a
              · rw [decide_eq_true hna, decide_eq_true]
                refine ⟨hl0, fun x hx => ?_⟩
                rcases List.mem_append.1 hx with hx | hx
                · exact hp x hx
                · simp at hx
                  rw [hx]
                  exact hna
              · rw [decide_eq_false hna, decide_eq_false]
                exact fun h => hna (h.2 a (by simp))
            exact ih2 (p ++ [a]) _ (by simp [e2]) ⟨y0, y3, y4, y5, by rw [hdec]; simp, y19, y20, by simp⟩
          · have ht6 : ts 6 = .bool false := by rw [hts.2.2.2.2.1]; simp only [decide_eq_false (fun h : 0 < (ringS l n).length ∧ ∀ x ∈ p, (n : Int) ≤ x => hp h.2)]
            obtain ⟨y0, y3, y4, y5, _, y19, y20, y21⟩ := hts
            simp [y0, y3, y4, y5, ht6, y19, y20, y21, tab, hlt2, x1, x2, hw2]
            have hp2 : ¬ ∀ x ∈ p ++ [a], (n : Int) ≤ x := fun h => hp fun x hx => h x (by simp [hx])
            exact ih2 (p ++ [a]) _ (by simp [e2]) ⟨y0, y3, y4, y5, by rw [decide_eq_false fun h : 0 < (ringS l n).length ∧ ∀ x ∈ p ++ [a], (n : Int) ≤ x => hp2 h.2]; simp, y19, y20, by simp⟩
      exact key2 (ringS l n) [] _ rfl (by simp [hts])
  exact key 10 0 _ H .nil [] rfl (by simpa [ringsTo] using LOwn.nil H) (by rintro b (hb | ⟨u, hu, _⟩); exact hb.elim; simp at hu) (Fr.refl H) (by simp)
end Go.Proofs.Ythihphgfblonoaa.Am
