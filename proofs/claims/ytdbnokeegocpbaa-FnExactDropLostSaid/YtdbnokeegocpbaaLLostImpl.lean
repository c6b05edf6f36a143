/- DropLost: the program's way. No condition. -/
import Derived.Test.YtdbnokeegocpbaaLSortFew
import Derived.Test.YtdbnokeegocpbaaLCopyFlow
import Derived.Test.YtdbnokeegocpbaaLBack
import Derived.Test.YtdbnokeegocpbaaLLostBase
namespace Go.Proofs.Ytdbnokeegocpbaa.Am
open Go Go.RowKit
set_option linter.unusedSimpArgs false
set_option linter.unusedVariables false

theorem lostL_up (f : List Bk) : (lostL f).Pairwise (· < ·) := by
  unfold lostL
  rw [List.pairwise_map]
  refine (List.Pairwise.filter _ (List.pairwise_lt_range (n := f.length))).imp fun {a b} h => ?_
  omega
theorem sortLost {f : List Bk} (hg : GoodF f) : (reached f).foldl (ins lessC) [] = lostL f := by
  obtain ⟨h1, h2⟩ := insOrd_sorted (reached f) [] List.Pairwise.nil
  simp only [List.nil_append] at h2
  have hnd : ((reached f).foldl (ins lessC) []).Nodup := h2.nodup_iff.2 (reached_end hg).nodup
  have hlt : ((reached f).foldl (ins lessC) []).Pairwise (· < ·) := by
    refine (h1.and hnd).imp fun {a b} h => ?_
    have := h.1
    have : a ≠ b := h.2
    omega
  exact srt_ext hlt (lostL_up f) fun n => (h2.mem_iff).trans (mem_lostL hg n).symm
/-- Where a number first stands. -/
def Stands (L : List Int) (n i : Int) : Prop := (n ∉ L ∧ i = -1) ∨ ∃ k : Nat, i = k ∧ L[k]? = some n
theorem indexAt_ok (L : List Int) (v : AV) (n : Int) (H : Hp) (hm : L.length ≤ 1048576) (hv : Row 1 H v (ints L)) : T Try.prog 81 [v, .int .i64 n] H (fun r K => (∃ i : Int, r = .int .i64 i ∧ Stands L n i) ∧ K = H) := by
  refine T.by tabOk Try.func81 (by kernel_rfl) rfl _ (by simp [Try.f81]) H _ ?_
  have hlen := hv.len 3
  simp [Try.f81, tab, hlen]
  refine W_loop _ fun I hI => ?_
  have key : ∀ (r p : List Int) (ts : TS), L = p ++ r → n ∉ p → (ts 0 = v ∧ ts 1 = .int .i64 n ∧ ts 7 = .int .i64 L.length ∧ ts 8 = .int .i64 p.length) → I ts H := by
    intro r
    induction r with
    | nil =>
      intro p ts e hn hts
      apply hI
      simp at e
      subst e
      simp [hts, tab]
      exact .inl ⟨hn, rfl⟩
    | cons a r ih =>
      intro p ts e hn hts
      apply hI
      have hlt : (p.length : Int) < L.length := by simp [e]; omega
      obtain ⟨b, q, _, e1, e2⟩ := Row.get1 hv (tab := tab) (e := 3) (ety := tI) rfl rfl rfl (i := p.length) (a := a) (by simp [e]) .i64
      have hw := wrap64 (x := (p.length : Int) + 1) (by omega) (by omega)
      by_cases ha : n = a
      · subst ha
        simp [hts, tab, hlt, e1, e2]
        exact .inr ⟨p.length, rfl, by simp [e]⟩
      · simp [hts, tab, hlt, e1, e2, ha, hw]
        exact ih (p ++ [a]) _ (by simp [e]) (by simp [hn, ha]) (by simp [hts])
  exact key L [] _ rfl (by simp) (by simp)
theorem index_num {f : List Bk} (hg : GoodF f) {n i : Int} (h : Stands (lostL f) n i) : i = numI f n := by
  rcases h with ⟨h, rfl⟩ | ⟨k, rfl, h⟩
  · unfold numI
    rw [if_neg fun h' => h ((mem_lostL hg n).2 h')]
  · have hm := (mem_lostL hg n).1 (List.mem_of_getElem? h)
    obtain ⟨h1, h2⟩ := lostL_at hg hm
    have hk := (List.getElem?_eq_some_iff.1 h)
    have hk2 := (List.getElem?_eq_some_iff.1 h2)
    obtain ⟨l1, g1⟩ := hk
    obtain ⟨l2, g2⟩ := hk2
    have hp := lostL_up f
    rw [List.pairwise_iff_getElem] at hp
    have : k = (numI f n).toNat := by
      rcases Nat.lt_trichotomy k (numI f n).toNat with h' | h' | h'
      · have := hp k _ l1 l2 h'; omega
      · exact h'
      · have := hp _ k l2 l1 h'; omega
    omega
set_option maxHeartbeats 1000000 in
set_option maxRecDepth 100000 in
theorem implLost_ok (f : List Bk) (ws : List AV) (fv : AV) (H : Hp) (hm : f.length ≤ 1048576) (hmm : ∀ t ∈ f, t.code.length ≤ 1048576) (hv : FRow H fv f ws) : T Try.prog 16 [fv] H (LostI f H) := by
  refine T.by tabOk Try.func16 (by kernel_rfl) rfl _ (by simp [Try.f16]) H _ ?_
  simp [-W_block, Try.f16]
  refine (isFlow_ok f ws fv H hm hmm hv).mono fun r Kq ⟨⟨t, h1, h2⟩, Fq⟩ => ?_
  subst h1
  cases t with
  | false =>
    simp [-W_block, tab]
    exact LostI.no (fun h => by cases h2.2 h) Fq
  | true =>
  have hg := h2.1 rfl
  have Fqr : H.length ≤ Kq.length := Fq.1
  obtain ⟨Kr, hKr, fr0⟩ : ∃ Kr, Kq ++ [some ⟨1, true, [.int .i64 0]⟩] = Kr ∧ Fr Kq Kr := ⟨_, rfl, Fr.app _ _⟩
  simp [-W_block, tab, buildSliceA, zerosA, fillA, over, hKr]
  refine W_cut (fun ts K => (ts 0 = fv ∧ Own 1 K (ts 5) (ints (reached f)) ∧ Fresh H.length (ts 5)) ∧ Fr H K) ?_ ?_
  · simp only [W_block]
    refine W_loop _ fun I hI => ?_
    have key : ∀ (m k : Nat) (L : List Int) (ts : TS) (K : Hp) (u : AV), reachL f m k L = reached f → Reach f k L → f.length + 1 ≤ m + k → Own 1 K u (ints L) → Fresh H.length u → Fr H K → (ts 0 = fv ∧ ts 5 = u ∧ ts 6 = .int .i64 k) → I ts K := by
      intro m
      induction m with
      | zero =>
        intro k L ts K u e hr hmk ho hf hK hts
        have := hr.few
        have := nodup_len hr.nodup hr.fit
        omega
      | succ m ih =>
        intro k L ts K u e hr hmk ho hf hK hts
        apply hI
        have hLl := nodup_len hr.nodup hr.fit
        have hlen := ho.row.len 3
        simp only [ints_length] at hlen
        cases hk : L[k]? with
        | none =>
          have hno : ¬ (k : Int) < L.length := by have := List.getElem?_eq_none_iff.1 hk; omega
          rw [reachL, hk] at e
          simp only at e
          rw [e] at ho
          simp [hts, tab, hlen, hno]
          exact ⟨⟨ho, hf⟩, hK⟩
        | some i =>
          have hkl : k < L.length := (List.getElem?_eq_some_iff.1 hk).1
          have hlt : (k : Int) < L.length := by omega
          rw [reachL, hk] at e
          simp only at e
          have hfit := hr.fit i (List.mem_of_getElem? hk)
          have hwk := wrap64 (x := (k : Int) + 1) (by omega) (by omega)
          obtain ⟨b1, q1, _, x1, x2⟩ := Row.get1 ho.row (tab := tab) (e := 3) (ety := tI) rfl rfl rfl hk .i64
          obtain ⟨b2, q2, _, _, y1, _, y3, y4, _⟩ := (hv.fr hK).spots hfit.1 hfit.2
          simp [hts, tab, hlen, hlt]
          refine W_draw mixed (.look 0 (.look 1 (.look 2 (.look 3 (.look 4 (.look 5 (.look 6 (.look 7 (.look 8 (.look 9 (.look 10 (.look 11 (.look 12 (.look 13 (.look 14 (.look 15 (.look 18 (.act 16 [] (.look 17 .done) .stop)))))))))))))))))) (by kernel_rfl) ?_
          have hstep := hr.step hg hk
          generalize (blkAt f i).thn = tt at *
          generalize (blkAt f i).els = te at *
          have hp1 := pair_row K tt te
          obtain ⟨K1, hK1, f1⟩ : ∃ K1, K ++ [some ⟨1, true, [.int .i64 tt, .int .i64 te]⟩] = K1 ∧ Fr K K1 := ⟨_, rfl, Fr.app _ _⟩
          rw [hK1] at hp1
          simp (maxDischargeDepth := 9) [hts, tab, x1, x2, y1, y3, y4, buildSliceA, zerosA, fillA, over, hK1]
          refine W_loop _ fun I2 hI2 => ?_
          have key2 : ∀ (r p L' : List Int) (ts : TS) (K' : Hp) (u' : AV), [tt, te] = p ++ r → r.foldl addR L' = addR (addR L tt) te → L'.length ≤ 9 + p.length → Own 1 K' u' (ints L') → Fresh H.length u' → (∀ b, u'.at b → b ≠ K.length) → Row 1 K' (.sl K.length 0 2) (ints [tt, te]) → Fr H K' → K.length < K'.length → (ts 0 = fv ∧ ts 5 = u' ∧ ts 6 = .int .i64 k ∧ ts 42 = .sl K.length 0 2 ∧ ts 43 = .int .i64 2 ∧ ts 44 = .int .i64 p.length) → I2 ts K' := by
            intro r
            induction r with
            | nil =>
              intro p L' ts K' u' e2 e3 hl' ho' hf' hne hp hK' hkk hts
              apply hI2
              have hp2 : p.length = 2 := by have := congrArg List.length e2; simp at this; omega
              simp [hts, tab, hp2, hwk]
              have e3 : L' = addR (addR L tt) te := e3
              refine ih (k + 1) L' _ K' u' (by rw [e3]; exact e) (by rw [e3]; exact hstep) (by omega) ho' hf' hK' (by simp [hts])
            | cons a r ih2 =>
              intro p L' ts K' u' e2 e3 hl' ho' hf' hne hp hK' hkk hts
              apply hI2
              have hpl : p.length < 2 := by have := congrArg List.length e2; simp at this; omega
              have hpl' : (p.length : Int) < 2 := by omega
              have hwp := wrap64 (x := (p.length : Int) + 1) (by omega) (by omega)
              have h8 := hg.1.2
              obtain ⟨b3, q3, _, z1, z2⟩ := Row.get1 hp (tab := tab) (e := 3) (ety := tI) rfl rfl rfl (i := p.length) (a := a) (by rw [e2]; simp) .i64
              have e3' : r.foldl addR (addR L' a) = addR (addR L tt) te := e3
              have next : ∀ (ts' : TS) (K2 : Hp) (u2 : AV), Own 1 K2 u2 (ints (addR L' a)) → Fresh H.length u2 → (∀ b, u2.at b → b ≠ K.length) → Row 1 K2 (.sl K.length 0 2) (ints [tt, te]) → Fr H K2 → K.length < K2.length → (ts' 0 = fv ∧ ts' 5 = u2 ∧ ts' 6 = .int .i64 k ∧ ts' 42 = .sl K.length 0 2 ∧ ts' 43 = .int .i64 2 ∧ ts' 44 = .int .i64 (p.length + 1)) → I2 ts' K2 := fun ts' K2 u2 a1 a2 a3 a4 a5 a6 a7 => ih2 (p ++ [a]) (addR L' a) ts' K2 u2 (by simp [e2]) e3' (by have h2 : (addR L' a).length ≤ L'.length + 1 := by { unfold addR; split <;> simp }; simp; omega) a1 a2 a3 a4 a5 a6 (by simp [a7])
              by_cases h0 : 0 ≤ a
              · simp (maxDischargeDepth := 9) [hts, tab, hpl', z1, z2, h0]
                refine (containsI_ok L' u' a K' (by omega) ho'.row).mono fun y K3 ⟨y1, y2⟩ => ?_
                subst y1 y2
                by_cases hin : a ∈ L'
                · have ea : addR L' a = L' := by unfold addR; rw [if_neg (fun h => h.2 hin)]
                  rw [ea] at next
                  simp [hts, tab, hin, hwp]
                  exact next _ _ u' ho' hf' hne hp hK' hkk (by simp [hts])
                · have ea : addR L' a = L' ++ [a] := by unfold addR; rw [if_pos ⟨h0, hin⟩]
                  rw [ea] at next
                  obtain ⟨u2, K4, a1, a2, a3, a4⟩ := ho'.push a (by omega)
                  simp [hts, tab, hin, buildSliceA, zerosA, fillA, over, a1, hwp]
                  refine next _ K4 u2 a2 (fun b hb => (a4 b hb).elim (hf' b) fun h => Nat.le_trans hK'.1 h) (fun b hb => (a4 b hb).elim (hne b) fun h => by omega) (hp.keeps a3 fun b hb hx => by cases hb; exact hne _ hx rfl) (Fr.then hK' a3 hf') (by have := a3.1; omega) (by simp [hts])
              · have ea : addR L' a = L' := by unfold addR; rw [if_neg (fun h => h0 h.1)]
                rw [ea] at next
                simp (maxDischargeDepth := 9) [hts, tab, hpl', z1, z2, h0, hwp]
                exact next _ _ u' ho' hf' hne hp hK' hkk (by simp [hts])
          have h8 := hg.1.2
          exact key2 [tt, te] [] L _ K1 u rfl rfl (by simp; omega) (ho.fr f1) hf (fun b hb => by have := ho.lt b hb; omega) hp1 (hK.trans f1) (by rw [← hK1]; simp) (by simp [hts])
    have own0 : Own 1 Kr (.sl Kq.length 0 1) (ints [0]) := by
      have := Own.new (sz := 1) (K := Kq) (es := ints [0]) (ints_one _)
      rw [ints_flatten] at this
      rw [← hKr]
      simpa [ints] using this
    exact key (f.length + 1) 0 [0] _ Kr _ rfl (reach_zero hg) (by omega) own0 (fun b hb => by cases hb; exact Fqr) (Fq.trans fr0) (by simp)
  rintro ts K0 ⟨⟨hts0, hr, hrf⟩, hK0⟩
  generalize hu : ts 5 = ur at *
  simp only [post_sq, W_seq]
  have hlen := hv.count 67
  have h8 := hg.1.2
  have hR := reached_end hg
  have hrl := nodup_len hR.nodup hR.fit
  simp [-W_block, hts0, hu, tab]
  refine (sort_ok (reached f) ur K0 (by omega) hr).mono fun r K1 ⟨hs, hks⟩ => ?_
  rw [sortLost hg] at hs
  have hK1 : Fr H K1 := Fr.then hK0 hks hrf
  obtain ⟨K2, hK2, f2⟩ : ∃ K2, K1 ++ [some ⟨1, true, []⟩] = K2 ∧ Fr K1 K2 := ⟨_, rfl, Fr.app _ _⟩
  have ownN : Own 1 K2 (.sl K1.length 0 0) (ints []) := by
    have := Own.new (sz := 1) (K := K1) (es := []) (by simp)
    simp at this
    rw [hK2] at this
    simpa [ints] using this
  have hll := lostL_len f
  simp [-W_block, hts0, hu, tab, hlen, buildSliceA, zerosA, fillA, over, hK2]
  refine W_cut (fun ts K => (ts 0 = fv ∧ ts 5 = ur ∧ Own 1 K (ts 9) (ints (numL f)) ∧ Fresh K1.length (ts 9)) ∧ Fr K1 K) ?_ ?_
  · simp only [W_block]
    refine W_loop _ fun I hI => ?_
    have key : ∀ (m k : Nat) (ts : TS) (K : Hp) (o : AV), k + m = f.length → Own 1 K o (ints ((List.range k).map fun j : Nat => numI f (j : Int))) → Fresh K1.length o → Fr K1 K → (ts 0 = fv ∧ ts 5 = ur ∧ ts 9 = o ∧ ts 65 = .int .i64 f.length ∧ ts 66 = .int .i64 k) → I ts K := by
      intro m
      induction m with
      | zero =>
        intro k ts K o e ho hf hK hts
        apply hI
        obtain rfl : k = f.length := by omega
        simp [hts, tab]
        exact ⟨⟨ho, hf⟩, hK⟩
      | succ m ih =>
        intro k ts K o e ho hf hK hts
        apply hI
        have hlt : (k : Int) < f.length := by omega
        have hwk := wrap64 (x := (k : Int) + 1) (by omega) (by omega)
        have hpre : (List.range (k + 1)).map (fun j : Nat => numI f (j : Int)) = (List.range k).map (fun j : Nat => numI f (j : Int)) ++ [numI f (k : Int)] := by
          rw [List.range_succ, List.map_append]; rfl
        obtain ⟨u2, K4, a1, a2, a3, a4⟩ := ho.push (numI f (k : Int)) (by simp; omega)
        simp [hts, tab, hlt]
        refine (indexAt_ok (lostL f) ur k K (by omega) (hs.row.fr hK)).mono fun y K3 ⟨⟨i, y1, yi⟩, y2⟩ => ?_
        subst y1 y2
        have hi : i = numI f (k : Int) := index_num hg yi
        subst hi
        simp (maxDischargeDepth := 9) [hts, tab, buildSliceA, zerosA, fillA, over, a1, hwk]
        exact ih (k + 1) _ K4 u2 (by omega) (by rw [hpre]; exact a2) (fun b hb => (a4 b hb).elim (hf b) fun h => Nat.le_trans hK.1 h) (Fr.then hK a3 hf) (by simp [hts])
    exact key f.length 0 _ K2 _ (by omega) (by simpa [ints] using ownN) (fun b hb => by cases hb; exact Nat.le_refl _) f2 (by simp [hts0, hu])
  clear hts0 hu
  rintro ts Kn ⟨⟨hts0, hu5, hn, hnf⟩, hKn⟩
  generalize hu : ts 9 = nv at *
  simp only [post_sq, W_seq]
  have hFn := hK1.trans hKn
  simp [hts0, hu5, hu, tab]
  refine (copyFlow_ok f ws fv Kn hm hmm (hv.fr hFn)).mono fun av Kc ⟨⟨ua, hall, huaf⟩, hav, fc⟩ => ?_
  obtain ⟨Kd, hKd, fd⟩ : ∃ Kd, Kc ++ [some ⟨4, true, []⟩] = Kd ∧ Fr Kc Kd := ⟨_, rfl, Fr.app _ _⟩
  have ownO : FOwn Kd (.sl Kc.length 0 0) [] [] := by
    have := Own.new (sz := 4) (K := Kc) (es := []) (by simp)
    simp at this
    rw [hKd] at this
    exact ⟨by simpa using this, rfl, by simp, by simp, by simp⟩
  have hlu := (hs.row).len 3
  simp only [ints_length] at hlu
  simp [hts0, hu5, hu, tab, buildSliceA, zerosA, fillA, over, hKd, hlu]
  refine W_loop _ fun I hI => ?_
  have halt := hall.lt
  have hnlt := hn.lt
  have lfc := fc.1
  have key : ∀ (r p : List Int) (ts : TS) (K : Hp) (o : AV), lostL f = p ++ r → FOwn K o (p.map fun i => renB f (blkAt f i)) (p.map fun i => ua.getD i.toNat .nil) → Fresh Kc.length o → Fr Kc K → (ts 9 = nv ∧ ts 11 = av ∧ ts 12 = o ∧ ts 79 = ur ∧ ts 80 = .int .i64 (lostL f).length ∧ ts 81 = .int .i64 p.length) → I ts K := by
    intro r
    induction r with
    | nil =>
      intro p ts K o e ho hfo hK hts
      apply hI
      simp at e
      subst e
      simp [hts, tab]
      refine LostI.yes hg ho (hn.fr (fc.trans hK)) ?_ (hnf.mono hK1.1) (hFn.trans (fc.trans hK))
      have l1 := hFn.1
      rintro b (hb | ⟨u, hu, hb⟩)
      · have := hfo b hb
        exact ⟨by omega, fun h => by have := hnlt b h; omega⟩
      · obtain ⟨i, hi, rfl⟩ := List.mem_map.1 hu
        have hfi := hR.fit i ((mem_lostL hg i).1 hi)
        have hum : ua.getD i.toNat .nil ∈ ua := by
          rw [List.getD_eq_getElem?_getD, List.getElem?_eq_getElem (by rw [hall.len]; omega)]
          exact List.getElem_mem _
        have := huaf _ hum b hb
        exact ⟨by omega, fun h => by have := hnlt b h; omega⟩
    | cons i r ih =>
      intro p ts K o e ho hfo hK hts
      apply hI
      have hpl : p.length < (lostL f).length := by rw [e]; simp
      have hlt : (p.length : Int) < (lostL f).length := by omega
      have hwk := wrap64 (x := (p.length : Int) + 1) (by omega) (by omega)
      have him : i ∈ lostL f := by rw [e]; simp
      have hfi := hR.fit i ((mem_lostL hg i).1 him)
      have hgb := hg.2 _ (blk_get (f := f) hfi.1 hfi.2).2
      have sK := (hs.row.fr hKn).fr (fc.trans hK)
      have hallK := hall.fr hK
      obtain ⟨b0, q0, _, z1, z2⟩ := Row.get1 sK (tab := tab) (e := 3) (ety := tI) rfl rfl rfl (i := p.length) (a := i) (by rw [e]; simp) .i64
      obtain ⟨b1, q1, u, hua, e1, e2, _, _, e3⟩ := hallK.look.spots hfi.1 hfi.2
      have hug : ua.getD i.toNat .nil = u := by rw [List.getD_eq_getElem?_getD, hua]; rfl
      have hgetn : ∀ j : Nat, j < f.length → (numL f)[j]? = some (numI f (j : Int)) := fun j hj => by
        unfold numL
        rw [List.getElem?_map, List.getElem?_range hj]
        rfl
      have hnK := (hn.fr (fc.trans hK)).row
      have hbi := (blk_get (f := f) hfi.1 hfi.2).1
      have huo : Own 5 K u (inss (blkAt f i).code) := hallK.inner _ _ _ hbi hua
      have hbt : renB f (blkAt f i) = ⟨(blkAt f i).code, (blkAt f i).test, renI f (blkAt f i).thn, renI f (blkAt f i).els⟩ := rfl
      have hpre : (p ++ [i]).map (fun i => renB f (blkAt f i)) = p.map (fun i => renB f (blkAt f i)) ++ [renB f (blkAt f i)] := by simp
      rw [hbt] at hpre
      generalize blkAt f i = b at *
      have hu1 := huo.row.one
      have hu2 := huo.row.self
      have hu2' := cells_of_one hu1
      obtain ⟨K', hK', fB⟩ : ∃ K', K ++ [some ⟨4, true, [u, .int .i64 b.test, .int .i64 b.thn, .int .i64 b.els]⟩] = K' ∧ Fr K K' := ⟨_, rfl, Fr.app K _⟩
      have hb : K'[K.length]? = some (some ⟨4, true, [u, .int .i64 b.test, .int .i64 b.thn, .int .i64 b.els]⟩) := by rw [← hK']; simp
      have hKl : K'.length = K.length + 1 := by rw [← hK']; simp
      simp only [cellsB] at e2
      have hnum3 : ∀ (Kx : Hp) (t : Int), Fr K Kx → 0 ≤ t → t ≤ (f.length : Int) - 1 → ∃ b q, indexAddrA tab (.slice 3) Kx nv (.int .i64 t) = some (.ptr b q) ∧ loadA tI Kx (.ptr b q) = some (.int .i64 (numI f t)) := by
        intro Kx t hx h0 h1
        obtain ⟨j, rfl⟩ := Int.eq_ofNat_of_zero_le h0
        obtain ⟨b, q, _, g1, g2⟩ := Row.get1 (hnK.fr hx) (tab := tab) (e := 3) (ety := tI) rfl rfl rfl (hgetn j (by omega)) .i64
        exact ⟨b, q, g1, g2⟩
      have l2 : loadA tI K' (.ptr K.length 2) = some (.int .i64 b.thn) := load_at hb rfl rfl rfl
      iterate 5 (rw [W_seq]; try simp (maxDischargeDepth := 9) [-W_seq, hts, tab, hlt, z1, z2, e1, e2, hu1, hu2', storeB, over, hK'])
      rw [W_seq]
      refine W_cut (fun ts' K3 => (ts' 15 = .ptr K.length 0 ∧ ts' 9 = nv ∧ ts' 11 = av ∧ ts' 12 = o ∧ ts' 79 = ur ∧ ts' 80 = .int .i64 (lostL f).length ∧ ts' 81 = .int .i64 p.length) ∧ K3[K.length]? = some (some ⟨4, true, [u, .int .i64 b.test, .int .i64 (renI f b.thn), .int .i64 b.els]⟩) ∧ Keeps (fun x => x = K.length) K' K3) ?_ ?_
      · by_cases ht : 0 ≤ b.thn
        · obtain ⟨c1, c2, n1, n2⟩ := hnum3 K' b.thn fB ht hgb.2.2.1.2
          obtain ⟨K3, s1, s2, s3, s4⟩ := store_at hb rfl (ty := tI) (o := 2) (v := .int .i64 (numI f b.thn)) rfl rfl (by simp)
          simp [over] at s2
          have er : renI f b.thn = numI f b.thn := by unfold renI; rw [if_pos ht]
          simp (maxDischargeDepth := 9) [hts, tab, l2, ht, n1, n2, s1, er]
          exact ⟨s2, s3⟩
        · have er : renI f b.thn = b.thn := by unfold renI; rw [if_neg ht]
          simp (maxDischargeDepth := 9) [hts, tab, l2, ht, er]
          exact ⟨hb, Keeps.refl _ _⟩
      clear hts
      rintro ts K3 ⟨hts, hp3, hk3⟩
      simp only [post_sq]
      rw [W_seq]
      have FK3 : Fr K K3 := Fr.then fB hk3 fun x hx => by omega
      have l3 : loadA tI K3 (.ptr K.length 3) = some (.int .i64 b.els) := load_at hp3 rfl rfl rfl
      refine W_cut (fun ts' K4 => (ts' 15 = .ptr K.length 0 ∧ ts' 9 = nv ∧ ts' 11 = av ∧ ts' 12 = o ∧ ts' 79 = ur ∧ ts' 80 = .int .i64 (lostL f).length ∧ ts' 81 = .int .i64 p.length) ∧ K4[K.length]? = some (some ⟨4, true, [u, .int .i64 b.test, .int .i64 (renI f b.thn), .int .i64 (renI f b.els)]⟩) ∧ Keeps (fun x => x = K.length) K3 K4) ?_ ?_
      · by_cases ht : 0 ≤ b.els
        · obtain ⟨c1, c2, n1, n2⟩ := hnum3 K3 b.els FK3 ht hgb.2.2.2.2
          obtain ⟨K4, s1, s2, s3, s4⟩ := store_at hp3 rfl (ty := tI) (o := 3) (v := .int .i64 (numI f b.els)) rfl rfl (by simp)
          simp [over] at s2
          have er : renI f b.els = numI f b.els := by unfold renI; rw [if_pos ht]
          simp (maxDischargeDepth := 9) [hts, tab, l3, ht, n1, n2, s1, er]
          exact ⟨s2, s3⟩
        · have er : renI f b.els = b.els := by unfold renI; rw [if_neg ht]
          simp (maxDischargeDepth := 9) [hts, tab, l3, ht, er]
          exact ⟨hp3, Keeps.refl _ _⟩
      clear hts
      rintro ts K4 ⟨hts, hp4, hk4⟩
      simp only [post_sq, W_seq]
      have FK4 : Fr K K4 := Fr.then FK3 hk4 fun x hx => by omega
      have hu4 := huo.fr FK4
      have hld : loadA tK K4 (.ptr K.length 0) = some (.agg [u, .int .i64 b.test, .int .i64 (renI f b.thn), .int .i64 (renI f b.els)]) := by simp [loadA, hp4]
      obtain ⟨o', K5, g1, g2, g3, g4⟩ := (ho.fr FK4).push (t := ⟨b.code, b.test, renI f b.thn, renI f b.els⟩) hu4 (by
        intro c hc hx
        have hcl := halt c (.inr ⟨u, List.mem_of_getElem? hua, hc⟩)
        rcases hx with hx | ⟨w, hw, hx⟩
        · have := hfo c hx; omega
        · obtain ⟨j, hj, rfl⟩ := List.mem_map.1 hw
          have hjm : j ∈ lostL f := by rw [e]; simp [hj]
          have hfj := hR.fit j ((mem_lostL hg j).1 hjm)
          have hjg : ua[j.toNat]? = some (ua.getD j.toNat .nil) := by
            rw [List.getD_eq_getElem?_getD, List.getElem?_eq_getElem (by rw [hall.len]; omega)]; rfl
          have hne : i ≠ j := by
            rintro rfl
            have hnd := lostL_up f
            rw [e] at hnd
            have := (List.pairwise_append.1 hnd).2.2 i hj i (by simp)
            omega
          exact hall.apart i.toNat j.toNat _ _ c hua hjg (by omega) hc hx) (by simp; omega)
      simp only [cellsB] at g1
      simp (maxDischargeDepth := 9) [hts, tab, hld, hu1, hu2, hu2', buildSliceA, zerosA, fillA, over, g1, hwk]
      refine ih (p ++ [i]) _ K5 o' (by simp [e]) ?_ (fun c hc => (g4 c hc).elim (hfo c) fun h => by have := FK4.1; have := hK.1; omega) (Fr.then (hK.trans FK4) g3 hfo) (by simp [hts])
      rw [hpre]
      have : (p ++ [i]).map (fun i => ua.getD i.toNat .nil) = p.map (fun i => ua.getD i.toNat .nil) ++ [u] := by rw [List.map_append, List.map_singleton, hug]
      rw [this]
      exact g2
  exact key (lostL f) [] _ Kd _ rfl (by simpa using ownO) (fun b hb => by cases hb; exact Nat.le_refl _) fd (by simp [hts0, hu5, hu])
end Go.Proofs.Ytdbnokeegocpbaa.Am
