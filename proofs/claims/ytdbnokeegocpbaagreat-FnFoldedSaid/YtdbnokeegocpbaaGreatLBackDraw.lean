/- Code and a list of names, drawn. No condition. -/
import Derived.Test.YtdbnokeegocpbaaGreatLDrawFacts
namespace Go.Proofs.YtdbnokeegocpbaaGreat.Am
open Go Go.RowKit
set_option linter.unusedSimpArgs false
set_option linter.unusedVariables false

def DBack (H : Hp) (r : AV) (K : Hp) : Prop := (∃ w u l L, r = .tup [w, u] ∧ Own 5 K w (inss l) ∧ l.length ≤ 31 ∧ Own 1 K u (ints L) ∧ L.length ≤ 9) ∧ Fr H K
set_option maxRecDepth 100000 in
theorem drawBack_ok (v : AV) (H : Hp) (hv : Bytes H v) : T Tryz.prog 12 [v] H (DBack H) := by
  refine T.by tabOk Tryz.func12 (by kernel_rfl) rfl _ (by simp [Tryz.f12]) H _ ?_
  have h1 := hv.one
  have h2 := cells_of_one h1
  obtain ⟨H1, hH1, fh⟩ : ∃ H1, H ++ [some ⟨3, true, [v, .int .i64 0, .int .u64 0]⟩] = H1 ∧ Fr H H1 := ⟨_, rfl, Fr.app _ _⟩
  have hc1 : Cur H1 H.length 0 := hH1 ▸ cur_new hv
  have hcl := hc1.lt
  simp [-W_block, Tryz.f12, tab, fillA, over, h1, h2, hH1]
  refine (code3_ok H.length 0 H1 (by omega) hc1).mono fun w K1 ⟨⟨l, a1, a2⟩, a3, c1, m1⟩ => ?_
  have a1 : Own 5 K1 w (inss l) := a1
  simp [-W_block, tab]
  have hwl := a1.lt
  have hl1 := m1.1
  refine W_cut (fun ts K => (ts 4 = .ptr H.length 0 ∧ ts 5 = w) ∧ ∃ L, Own 1 K (ts 6) (ints L) ∧ L.length ≤ 8 ∧ Fresh K1.length (ts 6) ∧ Cur K H.length 2100 ∧ Moves H.length K1 K) ?_ ?_
  · simp only [W_block]
    refine W_loop _ fun I hI => ?_
    have key : ∀ (d k : Nat) (L : List Int) (ts : TS) (K : Hp) (u : AV), k + d = 8 → L.length ≤ k → Own 1 K u (ints L) → Fresh K1.length u → Cur K H.length (2000 + 2 * k) → Moves H.length K1 K → (ts 4 = .ptr H.length 0 ∧ ts 5 = w ∧ ts 6 = u ∧ ts 7 = .int .i64 k) → I ts K := by
      intro d
      induction d with
      | zero =>
        intro k L ts K u e hL ho hf hcc hM hts
        apply hI
        obtain rfl : k = 8 := by omega
        simp [hts, tab]
        exact ⟨L, ho, by omega, hf, hcc.mono (by omega), hM⟩
      | succ d ih =>
        intro k L ts K u e hL ho hf hcc hM hts
        apply hI
        have hk : (k : Int) < 8 := by omega
        have hwk := wrap64 (x := (k : Int) + 1) (by omega) (by omega)
        have hMl := hM.1
        simp [hts, tab, hk]
        refine (one_ok H.length 3 _ K (by omega) hcc).mono fun r K2 ⟨⟨y, e1⟩, c2, m2⟩ => ?_
        subst e1
        have ho2 := ho.keeps m2 fun b hb e => by have := hf b hb; omega
        have M2 := hM.trans m2
        cases y with
        | false =>
          simp [hts, tab, hwk]
          exact ih (k + 1) L _ K2 u (by omega) (by omega) ho2 hf (c2.mono (by omega)) M2 (by simp [hts])
        | true =>
          obtain ⟨u', K3, b1, b2, b3, b4⟩ := ho2.push (k : Int) (by omega)
          simp [hts, tab, hwk, buildSliceA, zerosA, fillA, over, b1]
          refine ih (k + 1) (L ++ [(k : Int)]) _ K3 u' (by omega) (by simp; omega) b2 (fun b hb => (b4 b hb).elim (hf b) fun h => Nat.le_trans M2.1 h) ((c2.keeps b3 fun b hb => by have := hf b hb; omega).mono (by omega)) (Moves.up M2 b3 hf) (by simp [hts])
    exact key 8 0 [] _ K1 .nil rfl (by simp) (by simpa [ints] using Own.nil 1 K1) (Fresh.nil _) (c1.mono (by omega)) (Keeps.refl _ _) (by simp)
  rintro ts K2 ⟨hts, L, b1, b2, b3, c2, m2⟩
  generalize hu : ts 6 = u at *
  simp only [post_sq, W_seq]
  simp [hts, hu, tab]
  have hl2 := m2.1
  have hwne : ∀ b, w.at b → ¬ b = H.length := fun b hb e => by have := a3 b hb; omega
  have o2 := a1.keeps m2 hwne
  refine (one_ok H.length 30 _ K2 (by omega) c2).mono fun r K3 ⟨⟨y, e1⟩, c3, m3⟩ => ?_
  subst e1
  have o3 := o2.keeps m3 hwne
  have n3 := b1.keeps m3 fun b hb e => by have := b3 b hb; omega
  have M3 := (m1.trans m2).trans m3
  have done : ∀ K : Hp, Moves H.length H1 K → Fr H K := fun K h => Fr.then fh h fun b hb => by omega
  cases y with
  | false =>
    simp [hts, hu, tab]
    exact ⟨⟨w, u, l, L, rfl, o3, a2, n3, by omega⟩, done _ M3⟩
  | true =>
    simp [hts, hu, tab]
    refine (pick_ok H.length 10 _ K3 (by omega) c3).mono fun r K4 ⟨⟨x, e1, x0, x1⟩, c4, m4⟩ => ?_
    subst e1
    have o4 := o3.keeps m4 hwne
    have n4 := n3.keeps m4 fun b hb e => by have := b3 b hb; omega
    have M4 := M3.trans m4
    obtain ⟨u', K5, d1, d2, d3, d4⟩ := n4.push x (by omega)
    simp [hts, hu, tab, buildSliceA, zerosA, fillA, over, d1]
    refine ⟨⟨w, u', l, L ++ [x], rfl, o4.keeps d3 fun b hb hx => ?_, a2, d2, by simp; omega⟩, done _ (Moves.up M4 d3 fun b hb => by have := b3 b hb; omega)⟩
    have := b3 b hx
    have := hwl b hb
    omega
end Go.Proofs.YtdbnokeegocpbaaGreat.Am
