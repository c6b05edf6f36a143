/- DropLost: the reference's way. No condition. -/
import Derived.Test.YtdbnokeegocpbaaLSortFew
import Derived.Test.YtdbnokeegocpbaaLCopyFlow
import Derived.Test.YtdbnokeegocpbaaLBack
import Derived.Test.YtdbnokeegocpbaaLLostBase
namespace Go.Proofs.Ytdbnokeegocpbaa.Am
open Go Go.RowKit
set_option linter.unusedSimpArgs false
set_option linter.unusedVariables false

set_option maxHeartbeats 1000000 in
set_option maxRecDepth 100000 in
theorem specLost_ok (f : List Bk) (ws : List AV) (fv : AV) (H : Hp) (hm : f.length ≤ 1048576) (hmm : ∀ t ∈ f, t.code.length ≤ 1048576) (hv : FRow H fv f ws) : T Try.prog 14 [fv] H (LostS f H) := by
  refine T.by tabOk Try.func14 (by kernel_rfl) rfl _ (by simp [Try.f14]) H _ ?_
  simp [-W_block, Try.f14]
  refine (goodFlow_ok f ws fv H hm hmm hv).mono fun r Kq ⟨⟨t, h1, h2⟩, Fq⟩ => ?_
  subst h1
  cases t with
  | false =>
    simp [-W_block, tab]
    exact LostS.no (fun h => by cases h2.2 h) Fq
  | true =>
  have hg := h2.1 rfl
  have Fqr : H.length ≤ Kq.length := Fq.1
  obtain ⟨Kr, hKr, fr0⟩ : ∃ Kr, Kq ++ [some ⟨1, true, [.int .i64 0]⟩] = Kr ∧ Fr Kq Kr := ⟨_, rfl, Fr.app _ _⟩
  simp [-W_block, tab, buildSliceA, zerosA, fillA, over, hKr]
  refine W_cut (fun ts K => (ts 0 = fv ∧ Own 1 K (ts 5) (ints (reached f)) ∧ Fresh H.length (ts 5)) ∧ Fr H K) ?_ ?_
  · simp only [W_block]
    refine W_loop _ fun I hI => ?_
    have key : ∀ (m k : Nat) (L : List Int) (ts : TS) (K : Hp) (u : AV), reachL f m k L = reached f → Reach f k L → f.length + 1 ≤ m + k → Own 1 K u (ints L) → Fresh H.length u → Fr H K → (ts 0 = fv ∧ ts 5 = u ∧ ts 6 = .int .i64 k) → I ts K := by
      intro m
      induction m with
      | zero =>
        intro k L ts K u e hr hmk ho hf hK hts
        have := hr.few
        have := nodup_len hr.nodup hr.fit
        omega
      | succ m ih =>
        intro k L ts K u e hr hmk ho hf hK hts
        apply hI
        have hLl := nodup_len hr.nodup hr.fit
        have hlen := ho.row.len 3
        simp only [ints_length] at hlen
        cases hk : L[k]? with
        | none =>
          have hno : ¬ (k : Int) < L.length := by have := List.getElem?_eq_none_iff.1 hk; omega
          rw [reachL, hk] at e
          simp only at e
          rw [e] at ho
          simp [hts, tab, hlen, hno]
          exact ⟨⟨ho, hf⟩, hK⟩
        | some i =>
          have hkl : k < L.length := (List.getElem?_eq_some_iff.1 hk).1
          have hlt : (k : Int) < L.length := by omega
          rw [reachL, hk] at e
          simp only at e
          have hfit := hr.fit i (List.mem_of_getElem? hk)
          have hwk := wrap64 (x := (k : Int) + 1) (by omega) (by omega)
          obtain ⟨b1, q1, _, x1, x2⟩ := Row.get1 ho.row (tab := tab) (e := 3) (ety := tI) rfl rfl rfl hk .i64
          obtain ⟨b2, q2, _, _, y1, _, y3, y4, _⟩ := (hv.fr hK).spots hfit.1 hfit.2
          simp [hts, tab, hlen, hlt]
          refine W_draw mixed (.look 0 (.look 1 (.look 2 (.look 3 (.look 4 (.look 5 (.look 6 (.look 7 (.look 8 (.look 9 (.look 10 (.look 11 (.look 12 (.look 13 (.look 14 (.look 15 (.look 18 (.act 16 [] (.look 17 .done) .stop)))))))))))))))))) (by kernel_rfl) ?_
          have hstep := hr.step hg hk
          generalize (blkAt f i).thn = tt at *
          generalize (blkAt f i).els = te at *
          have hp1 := pair_row K tt te
          obtain ⟨K1, hK1, f1⟩ : ∃ K1, K ++ [some ⟨1, true, [.int .i64 tt, .int .i64 te]⟩] = K1 ∧ Fr K K1 := ⟨_, rfl, Fr.app _ _⟩
          rw [hK1] at hp1
          simp (maxDischargeDepth := 9) [hts, tab, x1, x2, y1, y3, y4, buildSliceA, zerosA, fillA, over, hK1]
          refine W_loop _ fun I2 hI2 => ?_
          have key2 : ∀ (r p L' : List Int) (ts : TS) (K' : Hp) (u' : AV), [tt, te] = p ++ r → r.foldl addR L' = addR (addR L tt) te → L'.length ≤ 9 + p.length → Own 1 K' u' (ints L') → Fresh H.length u' → (∀ b, u'.at b → b ≠ K.length) → Row 1 K' (.sl K.length 0 2) (ints [tt, te]) → Fr H K' → K.length < K'.length → (ts 0 = fv ∧ ts 5 = u' ∧ ts 6 = .int .i64 k ∧ ts 42 = .sl K.length 0 2 ∧ ts 43 = .int .i64 2 ∧ ts 44 = .int .i64 p.length) → I2 ts K' := by
            intro r
            induction r with
            | nil =>
              intro p L' ts K' u' e2 e3 hl' ho' hf' hne hp hK' hkk hts
              apply hI2
              have hp2 : p.length = 2 := by have := congrArg List.length e2; simp at this; omega
              simp [hts, tab, hp2, hwk]
              have e3 : L' = addR (addR L tt) te := e3
              refine ih (k + 1) L' _ K' u' (by rw [e3]; exact e) (by rw [e3]; exact hstep) (by omega) ho' hf' hK' (by simp [hts])
            | cons a r ih2 =>
              intro p L' ts K' u' e2 e3 hl' ho' hf' hne hp hK' hkk hts
              apply hI2
              have hpl : p.length < 2 := by have := congrArg List.length e2; simp at this; omega
              have hpl' : (p.length : Int) < 2 := by omega
              have hwp := wrap64 (x := (p.length : Int) + 1) (by omega) (by omega)
              have h8 := hg.1.2
              obtain ⟨b3, q3, _, z1, z2⟩ := Row.get1 hp (tab := tab) (e := 3) (ety := tI) rfl rfl rfl (i := p.length) (a := a) (by rw [e2]; simp) .i64
              have e3' : r.foldl addR (addR L' a) = addR (addR L tt) te := e3
              have next : ∀ (ts' : TS) (K2 : Hp) (u2 : AV), Own 1 K2 u2 (ints (addR L' a)) → Fresh H.length u2 → (∀ b, u2.at b → b ≠ K.length) → Row 1 K2 (.sl K.length 0 2) (ints [tt, te]) → Fr H K2 → K.length < K2.length → (ts' 0 = fv ∧ ts' 5 = u2 ∧ ts' 6 = .int .i64 k ∧ ts' 42 = .sl K.length 0 2 ∧ ts' 43 = .int .i64 2 ∧ ts' 44 = .int .i64 (p.length + 1)) → I2 ts' K2 := fun ts' K2 u2 a1 a2 a3 a4 a5 a6 a7 => ih2 (p ++ [a]) (addR L' a) ts' K2 u2 (by simp [e2]) e3' (by have h2 : (addR L' a).length ≤ L'.length + 1 := by { unfold addR; split <;> simp }; simp; omega) a1 a2 a3 a4 a5 a6 (by simp [a7])
              by_cases h0 : 0 ≤ a
              · simp (maxDischargeDepth := 9) [hts, tab, hpl', z1, z2, h0]
                refine (l1Has_ok L' u' a K' (by omega) ho'.row).mono fun y K3 ⟨y1, y2⟩ => ?_
                subst y1 y2
                by_cases hin : a ∈ L'
                · have ea : addR L' a = L' := by unfold addR; rw [if_neg (fun h => h.2 hin)]
                  rw [ea] at next
                  simp [hts, tab, hin, hwp]
                  exact next _ _ u' ho' hf' hne hp hK' hkk (by simp [hts])
                · have ea : addR L' a = L' ++ [a] := by unfold addR; rw [if_pos ⟨h0, hin⟩]
                  rw [ea] at next
                  obtain ⟨u2, K4, a1, a2, a3, a4⟩ := ho'.push a (by omega)
                  simp [hts, tab, hin, buildSliceA, zerosA, fillA, over, a1, hwp]
                  refine next _ K4 u2 a2 (fun b hb => (a4 b hb).elim (hf' b) fun h => Nat.le_trans hK'.1 h) (fun b hb => (a4 b hb).elim (hne b) fun h => by omega) (hp.keeps a3 fun b hb hx => by cases hb; exact hne _ hx rfl) (Fr.then hK' a3 hf') (by have := a3.1; omega) (by simp [hts])
              · have ea : addR L' a = L' := by unfold addR; rw [if_neg (fun h => h0 h.1)]
                rw [ea] at next
                simp (maxDischargeDepth := 9) [hts, tab, hpl', z1, z2, h0, hwp]
                exact next _ _ u' ho' hf' hne hp hK' hkk (by simp [hts])
          have h8 := hg.1.2
          exact key2 [tt, te] [] L _ K1 u rfl rfl (by simp; omega) (ho.fr f1) hf (fun b hb => by have := ho.lt b hb; omega) hp1 (hK.trans f1) (by rw [← hK1]; simp) (by simp [hts])
    have own0 : Own 1 Kr (.sl Kq.length 0 1) (ints [0]) := by
      have := Own.new (sz := 1) (K := Kq) (es := ints [0]) (ints_one _)
      rw [ints_flatten] at this
      rw [← hKr]
      simpa [ints] using this
    exact key (f.length + 1) 0 [0] _ Kr _ rfl (reach_zero hg) (by omega) own0 (fun b hb => by cases hb; exact Fqr) (Fq.trans fr0) (by simp)
  rintro ts K0 ⟨⟨hts0, hr, hrf⟩, hK0⟩
  generalize hu : ts 5 = ur at *
  simp only [post_sq, W_seq]
  have hlen := hv.count 67
  have h8 := hg.1.2
  have hR := reached_end hg
  have hrl := nodup_len hR.nodup hR.fit
  simp [-W_block, hts0, hu, tab, hlen]
  refine W_cut (fun ts K => (ts 0 = fv ∧ Own 1 K (ts 9) (ints (numL f)) ∧ Fresh H.length (ts 9)) ∧ Fr H K) ?_ ?_
  · simp only [W_block]
    refine W_loop _ fun I hI => ?_
    have key : ∀ (m k : Nat) (ts : TS) (K : Hp) (o : AV), k + m = f.length → Own 1 K o (ints ((List.range k).map fun j : Nat => numI f (j : Int))) → Fresh K0.length o → Fr K0 K → (ts 0 = fv ∧ ts 5 = ur ∧ ts 9 = o ∧ ts 10 = .int .i64 ((List.range k).filter fun j : Nat => decide ((j : Int) ∈ reached f)).length ∧ ts 61 = fv ∧ ts 62 = .int .i64 f.length ∧ ts 63 = .int .i64 k) → I ts K := by
      intro m
      induction m with
      | zero =>
        intro k ts K o e ho hf hKK hts
        apply hI
        obtain rfl : k = f.length := by omega
        simp [hts, tab]
        exact ⟨⟨ho, hf.mono hK0.1⟩, hK0.trans hKK⟩
      | succ m ih =>
        intro k ts K o e ho hf hKK hts
        apply hI
        have hlt : (k : Int) < f.length := by omega
        have hwk := wrap64 (x := (k : Int) + 1) (by omega) (by omega)
        simp [hts, tab, hlt]
        refine (l1Has_ok (reached f) ur k K (by omega) (hr.row.fr hKK)).mono fun y K3 ⟨y1, y2⟩ => ?_
        subst y1 y2
        obtain ⟨C, hC⟩ : ∃ C, C = ((List.range k).filter fun j : Nat => decide ((j : Int) ∈ reached f)).length := ⟨_, rfl⟩
        have hCk : C ≤ k := by rw [hC]; exact Nat.le_trans (List.length_filter_le _ _) (by simp)
        have hcn : ((List.range (k + 1)).filter fun j : Nat => decide ((j : Int) ∈ reached f)).length = if (k : Int) ∈ reached f then C + 1 else C := by
          rw [List.range_succ, List.filter_append, List.length_append, hC]
          by_cases h : (k : Int) ∈ reached f <;> simp [h]
        rw [← hC] at hts
        have hnum : numI f (k : Int) = if (k : Int) ∈ reached f then (C : Int) else -1 := by
          unfold numI
          by_cases h : (k : Int) ∈ reached f
          · rw [if_pos h, if_pos h, Int.toNat_natCast, hC]
          · rw [if_neg h, if_neg h]
        have hpre : (List.range (k + 1)).map (fun j : Nat => numI f (j : Int)) = (List.range k).map (fun j : Nat => numI f (j : Int)) ++ [numI f (k : Int)] := by
          rw [List.range_succ, List.map_append]; rfl
        by_cases hin : (k : Int) ∈ reached f
        · rw [if_pos hin] at hnum hcn
          obtain ⟨u2, K4, a1, a2, a3, a4⟩ := ho.push (C : Int) (by simp; omega)
          have hwc := wrap64 (x := (C : Int) + 1) (by omega) (by omega)
          simp (maxDischargeDepth := 9) [hts, tab, hin, buildSliceA, zerosA, fillA, over, a1, hwc, hwk]
          refine ih (k + 1) _ K4 u2 (by omega) (by rw [hpre, hnum]; exact a2) (fun b hb => (a4 b hb).elim (hf b) fun h => Nat.le_trans hKK.1 h) (Fr.then hKK a3 hf) (by simp [hts, hcn])
        · rw [if_neg hin] at hnum hcn
          obtain ⟨u2, K4, a1, a2, a3, a4⟩ := ho.push (-1) (by simp; omega)
          simp (maxDischargeDepth := 9) [hts, tab, hin, buildSliceA, zerosA, fillA, over, a1, hwk]
          refine ih (k + 1) _ K4 u2 (by omega) (by rw [hpre, hnum]; exact a2) (fun b hb => (a4 b hb).elim (hf b) fun h => Nat.le_trans hKK.1 h) (Fr.then hKK a3 hf) (by simp [hts, hcn])
    exact key f.length 0 _ K0 .nil (by omega) (by simpa [ints] using Own.nil 1 K0) (Fresh.nil _) (Fr.refl _) (by simp [hts0, hu])
  clear hts0 hu
  rintro ts K1 ⟨⟨hts0, hn, hnf⟩, hK1⟩
  generalize hu : ts 9 = nv at *
  simp only [post_sq, W_seq]
  simp [hts0, hu, tab, hlen]
  refine W_loop _ fun I hI => ?_
  have key : ∀ (m k : Nat) (ts : TS) (K : Hp) (o : AV) (us : List AV), k + m = f.length → FOwn K o (((List.range k).filter fun j : Nat => decide ((j : Int) ∈ reached f)).map fun j : Nat => renB f (blkAt f (j : Int))) us → (∀ u ∈ us, Fresh K1.length u) → Fresh K1.length o → Fr K1 K → (ts 0 = fv ∧ ts 9 = nv ∧ ts 12 = o ∧ ts 79 = fv ∧ ts 80 = .int .i64 f.length ∧ ts 81 = .int .i64 k) → I ts K := by
    intro m
    induction m with
    | zero =>
      intro k ts K o us e ho hf hfo hK hts
      apply hI
      obtain rfl : k = f.length := by omega
      have e2 : (((List.range f.length).filter fun j : Nat => decide ((j : Int) ∈ reached f)).map fun j : Nat => renB f (blkAt f (j : Int))) = lostAll f := by
        unfold lostAll lostL
        rw [List.map_map]
        rfl
      rw [e2] at ho
      simp [hts, tab]
      exact LostS.yes hg ho.look (hn.fr hK).row (hK1.trans hK)
    | succ m ih =>
      intro k ts K o us e ho hf hfo hK hts
      apply hI
      have hlt : (k : Int) < f.length := by omega
      have hkl : k < f.length := by omega
      have hwk := wrap64 (x := (k : Int) + 1) (by omega) (by omega)
      have hnK := (hn.fr hK).row
      have hgetn : ∀ i : Nat, i < f.length → (numL f)[i]? = some (numI f (i : Int)) := fun i hi => by
        unfold numL
        rw [List.getElem?_map, List.getElem?_range hi]
        rfl
      obtain ⟨b0, q0, _, z1, z2⟩ := Row.get1 hnK (tab := tab) (e := 3) (ety := tI) rfl rfl rfl (hgetn k hkl) .i64
      obtain ⟨b1, q1, u, _, e1, e2, _, _, e3⟩ := (hv.fr (hK1.trans hK)).spots (i := (k : Int)) (by omega) (by omega)
      have hgb := hg.2 _ (blk_get (f := f) (i := (k : Int)) (by omega) (by omega)).2
      have hbt : renB f (blkAt f (k : Int)) = ⟨(blkAt f (k : Int)).code, (blkAt f (k : Int)).test, renI f (blkAt f (k : Int)).thn, renI f (blkAt f (k : Int)).els⟩ := rfl
      have hpre : ((List.range (k + 1)).filter fun j : Nat => decide ((j : Int) ∈ reached f)).map (fun j : Nat => renB f (blkAt f (j : Int))) = ((List.range k).filter fun j : Nat => decide ((j : Int) ∈ reached f)).map (fun j : Nat => renB f (blkAt f (j : Int))) ++ (if (k : Int) ∈ reached f then [renB f (blkAt f (k : Int))] else []) := by
        rw [List.range_succ, List.filter_append, List.map_append]
        congr 1
        by_cases h : (k : Int) ∈ reached f <;> simp [h]
      rw [hbt] at hpre
      generalize blkAt f (k : Int) = b at *
      have hu1 := e3.one
      have hu2 := cells_of_one hu1
      obtain ⟨K', hK', fB⟩ : ∃ K', K ++ [some ⟨4, true, [u, .int .i64 b.test, .int .i64 b.thn, .int .i64 b.els]⟩] = K' ∧ Fr K K' := ⟨_, rfl, Fr.app K _⟩
      have hb : K'[K.length]? = some (some ⟨4, true, [u, .int .i64 b.test, .int .i64 b.thn, .int .i64 b.els]⟩) := by rw [← hK']; simp
      have hKl : K'.length = K.length + 1 := by rw [← hK']; simp
      have l0 : loadA tLN K' (.ptr K.length 0) = some u := load_at hb rfl rfl rfl
      have l1 : loadA tI K' (.ptr K.length 1) = some (.int .i64 b.test) := load_at hb rfl rfl rfl
      simp only [cellsB] at e2
      obtain ⟨b0', q0', _, z1', z2'⟩ := Row.get1 (hnK.fr fB) (tab := tab) (e := 3) (ety := tI) rfl rfl rfl (hgetn k hkl) .i64
      by_cases hin : (k : Int) ∈ reached f
      case neg =>
        rw [if_neg hin, List.append_nil] at hpre
        have hnum : numI f (k : Int) = -1 := by unfold numI; rw [if_neg hin]
        rw [hnum] at z2'
        simp (maxDischargeDepth := 9) [hts, tab, hlt, e1, e2, hu1, hu2, storeB, over, hK', z1', z2', hwk]
        exact ih (k + 1) _ K' o us (by omega) (by rw [hpre]; exact ho.fr fB) hf hfo (hK.trans fB) (by simp [hts])
      rw [if_pos hin] at hpre
      have hnum : 0 ≤ numI f (k : Int) := (lostL_at hg hin).1
      have hnneg : ¬ numI f (k : Int) < 0 := by omega
      have h30 := hgb.1.1
      -- a copy of the code
      have copy : ∀ (Kx : Hp) (c : Nat), Fr K' Kx → Own 5 Kx (.sl c 0 0) [] → ∃ w Ky, appendA 5 40 Kx (.sl c 0 0) u = some (w, Ky) ∧ Own 5 Ky w (inss b.code) ∧ Keeps (fun x => x = c) Kx Ky ∧ ∀ x, w.at x → x = c ∨ Kx.length ≤ x := by
        intro Kx c hx hE
        have e3' : Row 5 Kx u (inss b.code) := e3.fr (fB.trans hx)
        obtain ⟨w, Ky, g1, g2, g3, g4⟩ := hE.append (bytes := 40) (x := u) (new := inss b.code) (by decide) (by have := e3'.whole; simpa using this) (fun e he => by simp at he; obtain ⟨y, _, rfl⟩ := he; rfl) (by simp; omega) (by simp; omega)
        simp at g2
        exact ⟨w, Ky, g1, g2, g3.mono fun x hx => hx.symm, fun x hx => (g4 x hx).imp (fun h => h.symm) id⟩
      have empty : ∀ Kx : Hp, Own 5 (Kx ++ [some ⟨5, true, []⟩]) (.sl Kx.length 0 0) [] := fun Kx => by
        have := Own.new (sz := 5) (K := Kx) (es := []) (by simp)
        simp at this
        exact this
      simp (maxDischargeDepth := 9) [hts, tab, hlt, e1, e2, hu1, hu2, storeB, over, hK', z1', z2', hnneg]
      refine W_cut (fun ts K2 => ∃ (p : Nat) (w : AV), (ts 15 = .ptr p 0 ∧ ts 0 = fv ∧ ts 9 = nv ∧ ts 12 = o ∧ ts 79 = fv ∧ ts 80 = .int .i64 f.length ∧ ts 81 = .int .i64 k ∧ ts 14 = .ptr K.length 0) ∧ K2[p]? = some (some ⟨4, true, [w, .int .i64 b.test, .int .i64 (-1), .int .i64 (-1)]⟩) ∧ Own 5 K2 w (inss b.code) ∧ (∀ x, w.at x → K'.length ≤ x ∧ x ≠ p) ∧ K'.length ≤ p ∧ Fr K' K2) ?_ ?_
      · refine W_draw mixed (.look 1 (.look 2 (.look 4 (.look 5 (.act 0 [2, 5] (.act 3 [5] (.look 6 (.act 7 [5] (.act 8 [] .done .stop) .stop)) (.act 7 [2, 5] (.act 3 [5] (.look 6 (.act 8 [] .done .stop)) .stop) .stop)) (.act 7 [2, 5] (.act 0 [2, 5] (.act 3 [5] (.look 6 (.act 8 [] .done .stop)) .stop) .stop) .stop)))))) (by kernel_rfl) ?_
        obtain ⟨wA, KA, A1, A2, A3, A4⟩ := copy (K' ++ [some ⟨5, true, []⟩]) K'.length (Fr.app _ _) (empty K')
        have EB : Own 5 (K' ++ [some ⟨5, true, []⟩, some ⟨4, true, [.nil, .int .i64 0, .int .i64 0, .int .i64 0]⟩]) (.sl K'.length 0 0) [] := by
          have := (empty K').fr (Fr.app _ [some ⟨4, true, [.nil, .int .i64 0, .int .i64 0, .int .i64 0]⟩])
          simpa using this
        obtain ⟨wB, KB, B1, B2, B3, B4⟩ := copy (K' ++ [some ⟨5, true, []⟩, some ⟨4, true, [.nil, .int .i64 0, .int .i64 0, .int .i64 0]⟩]) K'.length (Fr.app _ _) EB
        have EC : Own 5 (K' ++ [some ⟨4, true, [.nil, .int .i64 0, .int .i64 0, .int .i64 0]⟩, some ⟨5, true, []⟩]) (.sl (K'.length + 1) 0 0) [] := by
          have := empty (K' ++ [some ⟨4, true, [.nil, .int .i64 0, .int .i64 0, .int .i64 0]⟩])
          simpa using this
        obtain ⟨wC, KC, C1, C2, C3, C4⟩ := copy (K' ++ [some ⟨4, true, [.nil, .int .i64 0, .int .i64 0, .int .i64 0]⟩, some ⟨5, true, []⟩]) (K'.length + 1) (Fr.app _ _) EC
        have oA := A2.row.one
        have sA := A2.row.self
        have oB := B2.row.one
        have sB := B2.row.self
        have oC := C2.row.one
        have sC := C2.row.self
        have hzB := B3.2 (K'.length + 1) ⟨4, true, [.nil, .int .i64 0, .int .i64 0, .int .i64 0]⟩ (by simp) (by omega)
        have hzC := C3.2 K'.length ⟨4, true, [.nil, .int .i64 0, .int .i64 0, .int .i64 0]⟩ (by simp) (by omega)
        obtain ⟨KB2, sB1, sB2, sB3, sB4⟩ := store_at hzB rfl (ty := tK) (o := 0) (v := .agg [wB, .int .i64 b.test, .int .i64 (-1), .int .i64 (-1)]) rfl (by simp [fitsA, oB]) (by simp)
        obtain ⟨KC2, sC1, sC2, sC3, sC4⟩ := store_at hzC rfl (ty := tK) (o := 0) (v := .agg [wC, .int .i64 b.test, .int .i64 (-1), .int .i64 (-1)]) rfl (by simp [fitsA, oC]) (by simp)
        simp [over] at sB2 sC2
        have FA : Fr K' KA := Fr.then (Fr.app _ _) A3 fun x hx => by omega
        have FB : Fr K' KB := Fr.then (Fr.app _ _) B3 fun x hx => by omega
        have FC : Fr K' KC := Fr.then (Fr.app _ _) C3 fun x hx => by omega
        have lA := load_at (ty := tI) (o := 1) (FA.2 _ _ hb id) rfl rfl rfl
        have lA2 := load_at (ty := tI) (o := 1) ((FA.trans (Fr.app KA [some ⟨4, true, [.nil, .int .i64 0, .int .i64 0, .int .i64 0]⟩])).2 _ _ hb id) rfl rfl rfl
        have lB := load_at (ty := tI) (o := 1) (FB.2 _ _ hb id) rfl rfl rfl
        have lC := load_at (ty := tI) (o := 1) (FC.2 _ _ hb id) rfl rfl rfl
        simp at A4 B4 C4
        simp (maxDischargeDepth := 9) [hts, tab, l0, l1, lA, lA2, lB, lC, buildSliceA, zerosA, fillA, over, A1, B1, C1, oA, sA, oB, sB, oC, sC, sB1, sC1, storeB]
        refine ⟨⟨⟨A2.fr (Fr.app _ _), fun x hx => ?_, FA.1, FA.trans (Fr.app _ _)⟩, wB, sB2, B2.keeps sB3 fun x hx e => ?_, fun x hx => ?_, Fr.then FB sB3 fun x hx => by omega⟩, wC, sC2, C2.keeps sC3 fun x hx e => ?_, fun x hx => ?_, Fr.then FC sC3 fun x hx => by omega⟩
        · have := A2.lt x hx
          have := A4 x hx
          omega
        · have := B4 x hx
          have e : x = K'.length + 1 := e
          omega
        · have := B4 x hx
          omega
        · have := C4 x hx
          have e : x = K'.length := e
          omega
        · have := C4 x hx
          omega
      clear hts
      rintro ts K2 ⟨p, w, hts, hp, hw, hwf, hpl, F2⟩
      simp only [post_sq]
      rw [W_seq]
      have hb2 := F2.2 _ _ hb id
      have l2 : loadA tI K2 (.ptr K.length 2) = some (.int .i64 b.thn) := load_at hb2 rfl rfl rfl
      have hnum3 : ∀ (Kx : Hp) (t : Int), Fr K Kx → 0 ≤ t → t ≤ (f.length : Int) - 1 → ∃ b q, indexAddrA tab (.slice 3) Kx nv (.int .i64 t) = some (.ptr b q) ∧ loadA tI Kx (.ptr b q) = some (.int .i64 (numI f t)) := by
        intro Kx t hx h0 h1
        obtain ⟨j, rfl⟩ := Int.eq_ofNat_of_zero_le h0
        obtain ⟨b, q, _, g1, g2⟩ := Row.get1 (hnK.fr hx) (tab := tab) (e := 3) (ety := tI) rfl rfl rfl (hgetn j (by omega)) .i64
        exact ⟨b, q, g1, g2⟩
      have FK2 := fB.trans F2
      refine W_cut (fun ts' K3 => (ts' 15 = .ptr p 0 ∧ ts' 0 = fv ∧ ts' 9 = nv ∧ ts' 12 = o ∧ ts' 79 = fv ∧ ts' 80 = .int .i64 f.length ∧ ts' 81 = .int .i64 k ∧ ts' 14 = .ptr K.length 0) ∧ K3[p]? = some (some ⟨4, true, [w, .int .i64 b.test, .int .i64 (renI f b.thn), .int .i64 (-1)]⟩) ∧ Keeps (fun x => x = p) K2 K3) ?_ ?_
      · by_cases ht : 0 ≤ b.thn
        · obtain ⟨c1, c2, n1, n2⟩ := hnum3 K2 b.thn FK2 ht hgb.2.2.1.2
          obtain ⟨K3, s1, s2, s3, s4⟩ := store_at hp rfl (ty := tI) (o := 2) (v := .int .i64 (numI f b.thn)) rfl rfl (by simp)
          simp [over] at s2
          have er : renI f b.thn = numI f b.thn := by unfold renI; rw [if_pos ht]
          simp (maxDischargeDepth := 9) [hts, tab, l2, ht, n1, n2, s1, er]
          exact ⟨s2, s3⟩
        · have er : renI f b.thn = -1 := by
            unfold renI
            rw [if_neg ht]
            have := hgb.2.2.1.1
            omega
          simp (maxDischargeDepth := 9) [hts, tab, l2, ht, er]
          exact ⟨hp, Keeps.refl _ _⟩
      clear hts
      rintro ts K3 ⟨hts, hp3, hk3⟩
      simp only [post_sq]
      rw [W_seq]
      have FK3 : Fr K K3 := Fr.then FK2 hk3 fun x hx => by omega
      have hb3 := hk3.2 _ _ hb2 fun e => by have e : K.length = p := e; omega
      have l3 : loadA tI K3 (.ptr K.length 3) = some (.int .i64 b.els) := load_at hb3 rfl rfl rfl
      refine W_cut (fun ts' K4 => (ts' 15 = .ptr p 0 ∧ ts' 0 = fv ∧ ts' 9 = nv ∧ ts' 12 = o ∧ ts' 79 = fv ∧ ts' 80 = .int .i64 f.length ∧ ts' 81 = .int .i64 k ∧ ts' 14 = .ptr K.length 0) ∧ K4[p]? = some (some ⟨4, true, [w, .int .i64 b.test, .int .i64 (renI f b.thn), .int .i64 (renI f b.els)]⟩) ∧ Keeps (fun x => x = p) K3 K4) ?_ ?_
      · by_cases ht : 0 ≤ b.els
        · obtain ⟨c1, c2, n1, n2⟩ := hnum3 K3 b.els FK3 ht hgb.2.2.2.2
          obtain ⟨K4, s1, s2, s3, s4⟩ := store_at hp3 rfl (ty := tI) (o := 3) (v := .int .i64 (numI f b.els)) rfl rfl (by simp)
          simp [over] at s2
          have er : renI f b.els = numI f b.els := by unfold renI; rw [if_pos ht]
          simp (maxDischargeDepth := 9) [hts, tab, l3, ht, n1, n2, s1, er]
          exact ⟨s2, s3⟩
        · have er : renI f b.els = -1 := by
            unfold renI
            rw [if_neg ht]
            have := hgb.2.2.2.1
            omega
          simp (maxDischargeDepth := 9) [hts, tab, l3, ht, er]
          exact ⟨hp3, Keeps.refl _ _⟩
      clear hts
      rintro ts K4 ⟨hts, hp4, hk4⟩
      simp only [post_sq, W_seq]
      have FK4 : Fr K K4 := Fr.then FK3 hk4 fun x hx => by omega
      have hw4 := (hw.keeps hk3 fun x hx e => (hwf x hx).2 e).keeps hk4 fun x hx e => (hwf x hx).2 e
      have hw1 := hw4.row.one
      have hw2 := hw4.row.self
      have hld : loadA tK K4 (.ptr p 0) = some (.agg [w, .int .i64 b.test, .int .i64 (renI f b.thn), .int .i64 (renI f b.els)]) := by simp [loadA, hp4]
      have holt := ho.lt
      obtain ⟨o', K5, g1, g2, g3, g4⟩ := (ho.fr FK4).push (t := ⟨b.code, b.test, renI f b.thn, renI f b.els⟩) hw4 (by intro c hc hx; have := (hwf c hc).1; have := holt c hx; omega) (by simp; exact Nat.le_trans (List.length_filter_le _ _) (by simp; omega))
      simp only [cellsB] at g1
      simp (maxDischargeDepth := 9) [hts, tab, hld, buildSliceA, zerosA, fillA, over, hw1, hw2, g1, hwk]
      refine ih (k + 1) _ K5 o' (us ++ [w]) (by omega) (by rw [hpre]; exact g2) (fun u hu => ?_) (fun c hc => (g4 c hc).elim (hfo c) fun h => by have := FK4.1; have := hK.1; omega) (Fr.then (hK.trans FK4) g3 hfo) (by simp [hts])
      rcases List.mem_append.1 hu with hu | hu
      · exact hf u hu
      · simp at hu; subst hu; exact fun x hx => by have := (hwf x hx).1; have := hK.1; omega
  exact key f.length 0 _ K1 .nil [] (by omega) (by simpa using FOwn.nil K1) (by simp) (Fresh.nil _) (Fr.refl _) (by simp [hts0, hu])
end Go.Proofs.Ytdbnokeegocpbaa.Am
