/- A list asked for a number, and a flow copied. No condition. -/
import Derived.Test.YtdbnokeegocpbaaLFlowOwn
namespace Go.Proofs.Ytdbnokeegocpbaa.Am
open Go Go.RowKit
set_option linter.unusedSimpArgs false
set_option linter.unusedVariables false

theorem containsI_ok (L : List Int) (v : AV) (n : Int) (H : Hp) (hm : L.length ≤ 1048576) (hv : Row 1 H v (ints L)) : T Try.prog 79 [v, .int .i64 n] H (fun r K => r = .bool (decide (n ∈ L)) ∧ K = H) := by
  have hidx : T Try.prog 81 [v, .int .i64 n] H (fun r K => (∃ i : Int, r = .int .i64 i ∧ (0 ≤ i ↔ n ∈ L)) ∧ K = H) := by
    refine T.by tabOk Try.func81 (by kernel_rfl) rfl _ (by simp [Try.f81]) H _ ?_
    have hlen := hv.len 3
    simp [Try.f81, tab, hlen]
    refine W_loop _ fun I hI => ?_
    have key : ∀ (r p : List Int) (ts : TS), L = p ++ r → n ∉ p → (ts 0 = v ∧ ts 1 = .int .i64 n ∧ ts 7 = .int .i64 L.length ∧ ts 8 = .int .i64 p.length) → I ts H := by
      intro r
      induction r with
      | nil =>
        intro p ts e hn hts
        apply hI
        simp at e
        subst e
        simp [hts, tab, hn]
      | cons a r ih =>
        intro p ts e hn hts
        apply hI
        have hlt : (p.length : Int) < L.length := by simp [e]; omega
        obtain ⟨b, q, _, e1, e2⟩ := Row.get1 hv (tab := tab) (e := 3) (ety := tI) rfl rfl rfl (i := p.length) (a := a) (by simp [e]) .i64
        have hw := wrap64 (x := p.length + 1) (by omega) (by omega)
        by_cases ha : n = a
        · subst ha
          simp [hts, tab, hlt, e1, e2]
          simp [e]
        · simp [hts, tab, hlt, e1, e2, ha, hw]
          exact ih (p ++ [a]) _ (by simp [e]) (by simp [hn, ha]) (by simp [hts])
    exact key L [] _ rfl (by simp) (by simp)
  refine T.by tabOk Try.func79 (by kernel_rfl) rfl _ (by simp [Try.f79]) H _ ?_
  simp [Try.f79]
  refine hidx.mono fun r K ⟨⟨i, h1, h2⟩, h3⟩ => ?_
  subst h1 h3
  simp [tab, h2]
set_option maxRecDepth 100000 in
theorem copyFlow_ok (f : List Bk) (ws : List AV) (fv : AV) (H : Hp) (hm : f.length ≤ 1048576) (hmm : ∀ t ∈ f, t.code.length ≤ 1048576) (hv : FRow H fv f ws) : T Try.prog 82 [fv] H (fun r K => (∃ us, FOwn K r f us ∧ ∀ u ∈ us, Fresh H.length u) ∧ Fresh H.length r ∧ Fr H K) := by
  refine T.by tabOk Try.func82 (by kernel_rfl) rfl _ (by simp [Try.f82]) H _ ?_
  have hlen := hv.count 67
  obtain ⟨K0, hK0, f0⟩ : ∃ K0, H ++ [some ⟨4, true, []⟩] = K0 ∧ Fr H K0 := ⟨_, rfl, Fr.app _ _⟩
  have own0 : Own 4 K0 (.sl H.length 0 0) [] := by
    have := Own.new (sz := 4) (K := H) (es := []) (by simp)
    simp at this
    rw [hK0] at this
    exact this
  simp [Try.f82, tab, hlen, buildSliceA, zerosA, fillA, over, hK0]
  refine W_loop _ fun I hI => ?_
  have key : ∀ (r p : List Bk) (ts : TS) (K : Hp) (o : AV) (us : List AV), f = p ++ r → FOwn K o p us → (∀ u ∈ us, Fresh H.length u) → Fresh H.length o → Fr H K → (ts 3 = o ∧ ts 7 = fv ∧ ts 8 = .int .i64 f.length ∧ ts 9 = .int .i64 p.length) → I ts K := by
    intro r
    induction r with
    | nil =>
      intro p ts K o us e ho hf hfo hK hts
      apply hI
      simp at e
      subst e
      simp [hts, tab]
      exact ⟨⟨us, ho, hf⟩, hfo, hK⟩
    | cons b r ih =>
      intro p ts K o us e ho hf hfo hK hts
      apply hI
      have hlt : (p.length : Int) < f.length := by simp [e]; omega
      have hbf : f[p.length]? = some b := by simp [e]
      have hcl := hmm b (by simp [e])
      obtain ⟨b1, q, u, hu, e1, e2, e3⟩ := (hv.fr hK).get (e := 67) rfl hbf
      have hu1 := e3.one
      have hu2 := cells_of_one hu1
      obtain ⟨K', hK', fB⟩ : ∃ K', K ++ [some ⟨4, true, [u, .int .i64 b.test, .int .i64 b.thn, .int .i64 b.els]⟩, some ⟨5, true, []⟩] = K' ∧ Fr K K' := ⟨_, rfl, Fr.app K _⟩
      have hb : K'[K.length]? = some (some ⟨4, true, [u, .int .i64 b.test, .int .i64 b.thn, .int .i64 b.els]⟩) := by rw [← hK']; simp
      have hK'l : K'.length = K.length + 2 := by rw [← hK']; simp
      have q0 : loadA tLN K' (.ptr K.length 0) = some u := load_at hb rfl rfl rfl
      have ownC : Own 5 K' (.sl (K.length + 1) 0 0) (inss []) := by
        have := Own.new (sz := 5) (K := K ++ [some ⟨4, true, [u, .int .i64 b.test, .int .i64 b.thn, .int .i64 b.els]⟩]) (es := []) (by simp)
        simp at this
        rw [hK'] at this
        exact this
      have e3' : Row 5 K' u (inss b.code) := e3.fr fB
      obtain ⟨w, K2, g1, g2, g3, g4⟩ := ownC.append (bytes := 40) (x := u) (new := inss b.code) (by decide) (by have := e3'.whole; simpa using this) (fun e he => by simp at he; obtain ⟨y, _, rfl⟩ := he; rfl) (by simp; omega) (by simp; omega)
      simp at g2
      have hw1 := g2.row.one
      have hw2 := g2.row.self
      have hb2 := g3.2 _ _ hb (by intro h; have : K.length + 1 = K.length := h; omega)
      obtain ⟨K3, s1, s2, s3, s4⟩ := store_at hb2 rfl (ty := tLN) (o := 0) (v := w) (by rw [hw2]; rfl) (by simp [hw2, hw1]) (by simp)
      have hld : loadA tK K3 (.ptr K.length 0) = some (.agg (cellsB b w)) := by simp [loadA, s2, over, hw2, cellsB]
      have hwf : ∀ b, w.at b → K.length + 1 ≤ b := fun b hb => (g4 b hb).elim (fun h => by have : K.length + 1 = b := h; omega) fun h => by omega
      have f23 : Fr K K3 := Fr.then (Fr.then fB g3 (by intro b hb; have : K.length + 1 = b := hb; omega)) s3 (by rintro b rfl; exact Nat.le_refl _)
      have holt := ho.lt
      have hw3 : Own 5 K3 w (inss b.code) := g2.keeps s3 fun c hc hx => by have := hwf c hc; omega
      have hpl : p.length ≤ 1048576 := by simp [e] at hm; omega
      obtain ⟨o', K4, p1, p2, p3, p4⟩ := (ho.fr f23).push (t := b) hw3 (by intro c hc hx; have := hwf c hc; have := holt c hx; omega) hpl
      have hwp := wrap64 (x := p.length + 1) (by omega) (by omega)
      simp only [cellsB] at e2 hld p1
      simp (maxDischargeDepth := 9) [hts, tab, hlt, e1, e2, hu1, hu2, storeB, over, hK', q0, g1, s1, hld, hw1, hw2, p1, hwp, buildSliceA, zerosA, fillA]
      refine ih (p ++ [b]) _ K4 o' (us ++ [w]) (by simp [e]) p2 (fun u hu => ?_) (fun c hc => (p4 c hc).elim (hfo c) fun h => ?_) (Fr.then (hK.trans f23) p3 hfo) (by simp [hts])
      · rcases List.mem_append.1 hu with hu | hu
        · exact hf u hu
        · simp at hu; subst hu; exact fun c hc => by have := hwf c hc; have := hK.1; omega
      · have := f23.1; have := hK.1; omega
  exact key f [] _ K0 (.sl H.length 0 0) [] rfl ⟨by simpa using own0, rfl, by simp, by simp, by simp⟩ (by simp) (fun b hb => by cases hb; exact Nat.le_refl _) f0 (by simp)
end Go.Proofs.Ytdbnokeegocpbaa.Am
