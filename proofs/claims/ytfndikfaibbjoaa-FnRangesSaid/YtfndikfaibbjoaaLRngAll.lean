/- The ranges ahead of every block: both ways to reckon them. No condition. -/
import Derived.Test.YtfndikfaibbjoaaLRngFlow
namespace Go.Proofs.Ytfndikfaibbjoaa.Am
open Go Go.RowKit
set_option linter.unusedSimpArgs false
set_option linter.unusedVariables false

open Classical in
noncomputable def frRes (f : List Bk) (R : List Rng) : List (List Rng) × Int × Bool := if GoodF f ∧ FullR R then ((flowRR f R).1, ((flowRR f R).2 : Nat), true) else ([], 0, false)
def FrAt (f : List Bk) (R : List Rng) (H : Hp) (r : AV) (K : Hp) : Prop := ∃ v, r = .tup [v, .int .i64 (frRes f R).2.1, .bool (frRes f R).2.2] ∧ (∃ us, GOwn Rng.enc K v (frRes f R).1 us ∧ ∀ u ∈ us, Fresh H.length u) ∧ Fresh H.length v ∧ Fr H K
theorem FrAt.no {f : List Bk} {R : List Rng} {H K : Hp} (h : ¬ (GoodF f ∧ FullR R)) (hK : Fr H K) : FrAt f R H (.tup [.nil, .int .i64 0, .bool false]) K := by
  have e : frRes f R = ([], 0, false) := by unfold frRes; rw [if_neg h]
  unfold FrAt
  rw [e]
  exact ⟨.nil, rfl, ⟨[], GOwn.nil (enc := Rng.enc) K, by simp⟩, Fresh.nil _, hK⟩
theorem FrAt.yes {f : List Bk} {R : List Rng} {H K : Hp} {v : AV} {us : List AV} (h : GoodF f ∧ FullR R) {c : Nat} (hc : c = (flowRR f R).2) (hG : GOwn Rng.enc K v (flowRR f R).1 us) (hf : ∀ u ∈ us, Fresh H.length u) (hv : Fresh H.length v) (hK : Fr H K) : FrAt f R H (.tup [v, .int .i64 c, .bool true]) K := by
  have e : frRes f R = ((flowRR f R).1, (((flowRR f R).2 : Nat) : Int), true) := by unfold frRes; rw [if_pos h]
  unfold FrAt
  rw [e, hc]
  exact ⟨v, rfl, ⟨us, hG, hf⟩, hv, hK⟩
theorem GOwn.single {α : Type} {enc : α → List AV} {K : Hp} {u : AV} {t : List α} (hu : Own 3 K u (t.map enc)) : GOwn enc (K ++ [some ⟨1, true, [u]⟩]) (.sl K.length 0 1) [t] [u] := by
  refine ⟨⟨by simp [slotG], .inr ⟨K.length, rfl, by simp [slotG]⟩⟩, rfl, fun i t' w hi hw => ?_, fun i j x y b hi hj hij => ?_, fun x hx b hb hx2 => ?_⟩
  · match i with
    | 0 =>
      simp at hi hw
      subst hi hw
      exact hu.fr (Fr.app K _)
    | i + 1 => simp at hi
  · have h1 := (List.getElem?_eq_some_iff.1 hi).1
    have h2 := (List.getElem?_eq_some_iff.1 hj).1
    simp at h1 h2
    omega
  · simp at hx
    subst hx
    have := hu.lt b hb
    have h2 : K.length = b := hx2
    omega
theorem em_push {K : Hp} {w : AV} {j : Nat} (h : Own 3 K w (rngs (List.replicate j emR))) (hj : j ≤ 8) : ∃ u K', appendA 3 24 (K ++ [some ⟨3, true, [.bool true, .int .i64 0, .int .i64 0]⟩]) w (.sl K.length 0 1) = some (u, K') ∧ Own 3 K' u (rngs (List.replicate (j + 1) emR)) ∧ Keeps w.at K K' ∧ ∀ b, u.at b → w.at b ∨ K.length ≤ b := by
  obtain ⟨u, K', a1, a2, a3, a4⟩ := (h.fr (Fr.app K [some ⟨3, true, [.bool true, .int .i64 0, .int .i64 0]⟩])).append (bytes := 24) (x := .sl K.length 0 1) (new := [[.bool true, .int .i64 0, .int .i64 0]]) (by decide) (by simp [rowOf]) (by simp) (by simp; omega) (by simp; omega)
  refine ⟨u, K', a1, ?_, (Fr.keeps (Fr.app K _)).trans a3, fun b hb => (a4 b hb).elim .inl fun h => .inr (by simp at h; omega)⟩
  have : rngs (List.replicate (j + 1) emR) = rngs (List.replicate j emR) ++ [[.bool true, .int .i64 0, .int .i64 0]] := by
    rw [List.replicate_succ']
    simp [rngs, Rng.enc]
  rw [this]
  exact a2
theorem fullAsk_ok (H : Hp) : AsksRng 66 [] (fun x => x.em) H := by
  intro K m hK
  refine T.by tabOk Try.func66 (by kernel_rfl) rfl _ (by simp [Try.f66]) K _ ?_
  simp [Try.f66, tab, Rng.enc, loadB]
  exact Fr.app _ _
theorem startR_cons {f : List Bk} {R : List Rng} (h : 1 ≤ f.length) : startR f R = R :: List.replicate (f.length - 1) (List.replicate 8 emR) := by
  unfold startR
  obtain ⟨m, hm⟩ : ∃ m, f.length = m + 1 := ⟨f.length - 1, by omega⟩
  rw [hm, List.replicate_succ]
  rfl
set_option maxHeartbeats 1000000 in
set_option maxRecDepth 100000 in
theorem implFR_ok (f : List Bk) (ws : List AV) (fv : AV) (R : List Rng) (rv : AV) (H : Hp) (hm : f.length ≤ 1048576) (hmm : ∀ t ∈ f, t.code.length ≤ 1048576) (hmv : R.length ≤ 1048576) (hv : FRow H fv f ws) (hw : Row 3 H rv (rngs R)) : T Try.prog 19 [fv, rv] H (FrAt f R H) := by
  refine T.by tabOk Try.func19 (by kernel_rfl) rfl _ (by simp [Try.f19]) H _ ?_
  simp [Try.f19]
  refine (isFlow_ok f ws fv H hm hmm hv).mono fun r K ⟨⟨t, h1, h2⟩, h3⟩ => ?_
  subst h1
  cases t with
  | false =>
    simp [tab]
    exact FrAt.no (fun h => by cases h2.2 h.1) h3
  | true =>
  have hg := h2.1 rfl
  simp [tab]
  refine (areSpans_ok R rv K hmv (hw.fr h3)).mono fun r K1 ⟨⟨t, g1, g2⟩, g3⟩ => ?_
  subst g1
  cases t with
  | false =>
    simp [tab]
    exact FrAt.no (fun h => by cases g2.2 h.2.1) (h3.trans g3)
  | true =>
  have hgR := g2.1 rfl
  simp [tab]
  refine (containsRng_ok R rv _ [] _ K1 hmv (hw.fr (h3.trans g3)) (fullAsk_ok K1)).mono fun r K2 ⟨⟨t, k1, k2⟩, k3⟩ => ?_
  subst k1
  have F2 := (h3.trans g3).trans k3
  cases t with
  | true =>
    simp [tab]
    refine FrAt.no (fun h => ?_) F2
    obtain ⟨m, m1, m2⟩ := k2.1 rfl
    rw [h.2.2 m m1] at m2
    cases m2
  | false =>
  have hfull : FullR R := ⟨hgR, fun x hx => by
    cases h : x.em with
    | false => rfl
    | true => have := k2.2 ⟨x, hx, h⟩; cases this⟩
  have hR8 := hgR.1
  have h1 := hg.1.1
  have h8 := hg.1.2
  obtain ⟨u0, K3, a1, a2, a3, a4⟩ := copyR (hw.fr F2) (by omega)
  have hG1 := GOwn.single (enc := Rng.enc) a2
  obtain ⟨K4, hK4, f4⟩ : ∃ K4, K3 ++ [some ⟨1, true, [u0]⟩] = K4 ∧ Fr K3 K4 := ⟨_, rfl, Fr.app _ _⟩
  rw [hK4] at hG1
  have hu01 := a2.row.one
  have hu02 := a2.row.self
  have hlen := (hv.fr F2).count 78
  have hwn := wrap64 (x := (f.length : Int) - 1) (by omega) (by omega)
  have F4 : Fr H K4 := F2.trans (a4.trans f4)
  have l2 := F2.1
  have l3 := a4.1
  simp [-W_block, tab, buildSliceA, zerosA, fillA, over, a1, hu01, hu02, hK4, hlen, hwn]
  refine W_cut (fun ts K => (∃ us, GOwn Rng.enc K (ts 7) (startR f R) us ∧ ∀ u ∈ us, Fresh H.length u) ∧ Fresh H.length (ts 7) ∧ Fr H K ∧ ts 0 = fv) ?_ ?_
  · simp only [W_block]
    refine W_loop _ fun I hI => ?_
    have key : ∀ (m p : Nat) (ts : TS) (K : Hp) (o : AV) (us : List AV), p + m = f.length - 1 → GOwn Rng.enc K o (R :: List.replicate p (List.replicate 8 emR)) us → (∀ u ∈ us, Fresh H.length u) → Fresh H.length o → Fr H K → (ts 0 = fv ∧ ts 7 = o ∧ ts 28 = .int .i64 ((f.length : Int) - 1) ∧ ts 29 = .int .i64 p) → I ts K := by
      intro m
      induction m with
      | zero =>
        intro p ts K o us e ho hf hfo hK hts
        apply hI
        have hno : ¬ (p : Int) < (f.length : Int) - 1 := by omega
        simp [hts, tab, hno]
        rw [startR_cons h1]
        obtain rfl : p = f.length - 1 := by omega
        exact ⟨⟨us, ho, hf⟩, hfo, hK⟩
      | succ m ih =>
        intro p ts K o us e ho hf hfo hK hts
        apply hI
        have hlt : (p : Int) < (f.length : Int) - 1 := by omega
        obtain ⟨Ka, hKa, fa⟩ : ∃ Ka, K ++ [some ⟨3, true, []⟩] = Ka ∧ Fr K Ka := ⟨_, rfl, Fr.app _ _⟩
        have ownT : Own 3 Ka (.sl K.length 0 0) (rngs (List.replicate 0 emR)) := by
          have := Own.new (sz := 3) (K := K) (es := []) (by simp)
          simp at this
          rw [hKa] at this
          simpa [rngs] using this
        simp [hts, tab, hlt, buildSliceA, zerosA, fillA, over, hKa]
        refine W_loop _ fun I2 hI2 => ?_
        have key2 : ∀ (m2 j : Nat) (ts : TS) (K2 : Hp) (w : AV), j + m2 = 8 → Own 3 K2 w (rngs (List.replicate j emR)) → Fresh K.length w → Fr K K2 → (ts 0 = fv ∧ ts 7 = o ∧ ts 28 = .int .i64 ((f.length : Int) - 1) ∧ ts 29 = .int .i64 p ∧ ts 8 = w ∧ ts 32 = .int .i64 j) → I2 ts K2 := by
          intro m2
          induction m2 with
          | zero =>
            intro j ts K2 w e2 hw hfw hK2 hts
            apply hI2
            obtain rfl : j = 8 := by omega
            have hw1 := hw.row.one
            have hw2 := hw.row.self
            have holt := ho.lt
            obtain ⟨o', K4, g1, g2, g3, g4⟩ := (ho.fr hK2).push hw (by intro b hb hx; have := hfw b hb; have := holt b hx; omega) (by simp; omega)
            have hwp := wrap64 (x := (p : Int) + 1) (by omega) (by omega)
            simp (maxDischargeDepth := 9) [hts, tab, hwp, buildSliceA, zerosA, fillA, over, hw1, hw2, g1]
            refine ih (p + 1) _ K4 o' (us ++ [w]) (by omega) (by rw [List.replicate_succ']; exact g2) (fun u hu => ?_) (fun b hb => (g4 b hb).elim (hfo b) fun h => ?_) (Fr.then (hK.trans hK2) g3 hfo) (by simp [hts])
            · rcases List.mem_append.1 hu with hu | hu
              · exact hf u hu
              · simp at hu; subst hu; exact hfw.mono hK.1
            · have := hK.1; have := hK2.1; omega
          | succ m2 ih2 =>
            intro j ts K2 w e2 hw hfw hK2 hts
            apply hI2
            have hj : (j : Int) < 8 := by omega
            have hwj := wrap64 (x := (j : Int) + 1) (by omega) (by omega)
            obtain ⟨w', K3, a1, a2, a3, a4⟩ := em_push hw (by omega)
            simp [hts, tab, hj, hwj, buildSliceA, zerosA, fillA, over, a1]
            exact ih2 (j + 1) _ K3 w' (by omega) a2 (fun b hb => (a4 b hb).elim (hfw b) fun h => Nat.le_trans hK2.1 h) (Fr.then hK2 a3 hfw) (by simp [hts])
        exact key2 8 0 _ Ka _ rfl ownT (fun b hb => by cases hb; exact Nat.le_refl _) fa (by simp [hts])
    exact key (f.length - 1) 0 _ K4 _ [u0] (by omega) (by simpa using hG1) (fun u hu => by simp at hu; subst hu; exact a3.mono l2) (fun b hb => by cases hb; omega) F4 (by simp)
  rintro ts K5 ⟨⟨us, ho, hf⟩, hfo, hK5, hts⟩
  generalize ho' : ts 7 = o at *
  obtain ⟨sw, sp⟩ := startR_wide (f := f) hfull
  have hsum := sumG_le updR 3 muR_le sw
  have hfx : ∀ b, (∃ u ∈ us, u.at b) → H.length ≤ b := fun b ⟨u, hu, hb⟩ => hf u hu b hb
  have hvlt := hv.lt
  obtain ⟨FIN, hFIN⟩ : ∃ X, X = iterG updR nxR f (24 * f.length + 1) 0 (startR f R) := ⟨_, rfl⟩
  simp [hts, ho', tab]
  refine W_loop _ fun I hI => ?_
  have key : ∀ (m c : Nat) (S0 : List (List Rng)) (ts : TS) (K : Hp), c + m ≤ 24 * f.length + 1 → iterG updR nxR f m c S0 = FIN → sumG updR S0 < m → Wide f.length S0 → AllG RowR S0 → GOwn Rng.enc K o S0 us → Fr H K → (ts 0 = fv ∧ ts 7 = o ∧ ts 9 = .int .i64 c) → I ts K := by
    intro m
    induction m with
    | zero => intro c S0 ts K _ _ h; omega
    | succ m ihm =>
      intro c S0 ts K hcm hit hsm hw0 hp0 hG hK hts
      apply hI
      have hwc := wrap64 (x := (c : Int) + 1) (by omega) (by omega)
      simp [hts, tab]
      refine (flowRound_ok f ws fv S0 us o K hg (hv.fr hK) hw0 hp0 hG (fun b hb hx => by have := hvlt b hb; have := hfx b hx; omega)).mono fun y K6 ⟨⟨t, y1, y2⟩, y3, y4⟩ => ?_
      subst y1
      have FK : Fr H K6 := Fr.then hK y4 hfx
      obtain ⟨r1, r2, r3, r4⟩ := roundG_fall updR RowR nxR (fitsR hg) (keepsR hg) f [] S0 rfl hw0 hp0
      simp only [List.length_nil] at r1 r2 r3 r4
      cases t with
      | false =>
        simp [hts, tab]
        rw [iterG_same m c y2 rfl] at hit
        rcases y2 with ⟨_, e⟩ | ⟨h, _⟩
        · have hres : flowRR f R = (S0, c) := by
            show iterG updR nxR f (24 * f.length + 1) 0 (startR f R) = _
            rw [← hFIN, ← hit]
          rw [e] at y3
          exact FrAt.yes ⟨hg, hfull⟩ (by rw [hres]) (by rw [hres]; exact y3) hf hfo FK
        · cases h
      | true =>
        simp [hts, tab, hwc]
        rw [iterG_more m c y2 rfl] at hit
        refine ihm (c + 1) _ _ K6 (by omega) hit ?_ r1 r2 y3 FK (by simp [hts])
        rcases y2 with ⟨h, _⟩ | ⟨_, h⟩
        · cases h
        · omega
  exact key (24 * f.length + 1) 0 (startR f R) _ K5 (by omega) hFIN.symm (by omega) sw sp ho hK5 (by simp [hts, ho'])
end Go.Proofs.Ytfndikfaibbjoaa.Am
