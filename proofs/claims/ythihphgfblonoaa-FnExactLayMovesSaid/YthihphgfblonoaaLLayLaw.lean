/- The law of LayMoves. No condition. -/
import Derived.Test.YthihphgfblonoaaLLayFn
namespace Go.Proofs.Ythihphgfblonoaa.Am
open Go Go.RowKit
set_option linter.unusedSimpArgs false
set_option linter.unusedVariables false

def upM (n : Nat) : List Move := (List.range n).map fun i : Nat => ⟨1 + 2 * (i : Int), 1 + 2 * (i : Int) + 1⟩
theorem upM_get {n i : Nat} (h : i < n) : (upM n)[i]? = some ⟨1 + 2 * (i : Int), 1 + 2 * (i : Int) + 1⟩ := by simp [upM, h]
theorem upM_len (n : Nat) : (upM n).length = n := by simp [upM]
theorem markFull_ok (l : List Move) (v : AV) (H : Hp) (hm : l.length ≤ 1048576) (hv : Own 2 H v (moves l)) : T Try.prog 21 [v, .int .i64 1] H (fun r K => r = .int .i64 (1 + 2 * l.length) ∧ Own 2 K v (moves (upM l.length)) ∧ Keeps v.at H K) := by
  refine T.by tabOk Try.func21 (by kernel_rfl) rfl _ (by simp [Try.f21]) H _ ?_
  simp [Try.f21]
  refine W_loop _ fun I hI => ?_
  have key : ∀ (d k : Nat) (ts : TS) (K : Hp) (m : List Move), k + d = l.length → m.length = l.length → m.take k = upM k → Own 2 K v (moves m) → Keeps v.at H K → (ts 0 = v ∧ ts 1 = .int .i64 (1 + 2 * k) ∧ ts 5 = .int .i64 k) → I ts K := by
    intro d
    induction d with
    | zero =>
      intro k ts K m e hl hmt ho hK hts
      apply hI
      have hlen := ho.row.len 51
      obtain rfl : k = l.length := by omega
      simp [hts, tab, hlen, hl]
      rw [List.take_of_length_le (by omega)] at hmt
      exact ⟨by rw [← hmt]; exact ho, hK⟩
    | succ d ih =>
      intro k ts K m e hl hmt ho hK hts
      apply hI
      have hlen := ho.row.len 51
      have hlt : (k : Int) < l.length := by omega
      have hkl : k < m.length := by omega
      have hget : (moves m)[k]? = some m[k].enc := by simp [hkl]
      obtain ⟨b', hb', f1, f2⟩ := ho.store (tab := tab) (e := 51) (ety := tM) rfl hget .i64
      obtain ⟨K2, f3, f4, f5, f6⟩ := f2 tI 0 (.int .i64 (1 + 2 * k)) rfl rfl (by decide)
      have e1 : (moves m).set k (over m[k].enc 0 (AV.int .i64 (1 + 2 * k)).cells) = moves (m.set k ⟨1 + 2 * k, m[k].to⟩) := by simp [moves, List.map_set, Move.enc, over]
      rw [e1] at f4
      have hget2 : (moves (m.set k ⟨1 + 2 * k, m[k].to⟩))[k]? = some (Move.enc ⟨1 + 2 * k, m[k].to⟩) := by simp [hkl]
      obtain ⟨b'', hb'', g1, g2⟩ := f4.store (tab := tab) (e := 51) (ety := tM) rfl hget2 .i64
      obtain ⟨K3, g3, g4, g5, g6⟩ := g2 tI 1 (.int .i64 (1 + 2 * k + 1)) rfl rfl (by decide)
      have e2 : (moves (m.set k ⟨1 + 2 * k, m[k].to⟩)).set k (over (Move.enc ⟨1 + 2 * k, m[k].to⟩) 1 (AV.int .i64 (1 + 2 * k + 1)).cells) = moves (m.set k ⟨1 + 2 * k, 1 + 2 * k + 1⟩) := by simp [moves, List.map_set, Move.enc, over, List.set_set]
      rw [e2] at g4
      have hw1 := wrap64 (x := 1 + 2 * k + 1) (by omega) (by omega)
      have hw2 := wrap64 (x := 1 + 2 * k + 1 + 1) (by omega) (by omega)
      have hw3 := wrap64 (x := k + 1) (by omega) (by omega)
      simp at f1 f3 g1 g3
      simp (maxDischargeDepth := 9) [hts, tab, hlen, hl, hlt, f1, f3, g1, g3, hw1, hw2, hw3]
      refine ih (k + 1) _ K3 _ (by omega) (by simpa using hl) ?_ g4 ((hK.trans f5).trans g5) (by simp [hts]; omega)
      rw [List.take_succ_eq_append_getElem (by simpa using hkl), List.take_set_of_le (Nat.le_refl k), hmt]
      simp [upM, List.range_succ]
  exact key l.length 0 _ H l (by omega) rfl (by simp [upM]) hv (Keeps.refl _ _) (by simp)
theorem heldM_ok (n : Nat) (v : AV) (H : Hp) (hm : n ≤ 1048576) (hv : Row 2 H v (moves (upM n))) : T Try.prog 37 [v, .int .i64 1] H (fun r K => r = .int .i64 (1 + 2 * n) ∧ K = H) := by
  refine T.by tabOk Try.func37 (by kernel_rfl) rfl _ (by simp [Try.f37]) H _ ?_
  have hlen := hv.len 51
  have hlen : lenA (.slice 51) v = some (.int .i64 n) := by simpa [upM_len] using hlen
  simp [Try.f37]
  refine W_loop _ fun I hI => ?_
  have key : ∀ (d k : Nat) (ts : TS), k + d = n → (ts 0 = v ∧ ts 1 = .int .i64 (1 + 2 * k) ∧ ts 5 = .int .i64 k) → I ts H := by
    intro d
    induction d with
    | zero =>
      intro k ts e hts
      apply hI
      obtain rfl : k = n := by omega
      simp [hts, tab, hlen]
    | succ d ih =>
      intro k ts e hts
      apply hI
      have hlt : (k : Int) < n := by omega
      obtain ⟨b, q, _, e1, -, e3⟩ := hv.get (tab := tab) (e := 51) (ety := tM) rfl (upM_get (by omega : k < n)) .i64
      have e4 := e3 tI 0 rfl rfl (by decide)
      have e5 := e3 tI 1 rfl rfl (by decide)
      simp [Move.enc] at e4 e5
      have hw1 := wrap64 (x := 1 + 2 * k + 1) (by omega) (by omega)
      have hw2 := wrap64 (x := 1 + 2 * k + 1 + 1) (by omega) (by omega)
      have hw3 := wrap64 (x := k + 1) (by omega) (by omega)
      simp (maxDischargeDepth := 9) [hts, tab, hlen, hlt, e1, e4, e5, hw1, hw2, hw3]
      exact ih (k + 1) _ (by omega) (by simp [hts]; omega)
  exact key n 0 _ (by omega) (by simp)
set_option maxRecDepth 100000 in
theorem laylaw (l : List Move) (v : AV) (H : Hp) (hm : l.length ≤ 140737488355328) (hv : Row 2 H v (moves l)) : T Try.prog 9 [v] H (fun r K => r = .bool true) := by
  refine T.by tabOk Try.func9 (by kernel_rfl) rfl _ (by simp [Try.f9]) H _ ?_
  simp [Try.f9]
  refine (szMoveS_ok l v H hm hv).mono fun r K ⟨h1, h2⟩ => ?_
  subst h1 h2
  by_cases hl : 1048576 < l.length
  · simp [hl]
  have hl' : ¬ (1048576 : Int) - l.length < 0 := by omega
  have hm : l.length ≤ 1048576 := by omega
  have hyl := yres_len l
  simp [hl, hl', tab]
  refine (toMoveS_ok l v K hm hv).mono fun x K1 ⟨a1, a3, a4⟩ => ?_
  simp
  refine (specLay_ok l x K1 hm a1.row).mono fun r K2 ⟨w0, b1, b2, b3, b4⟩ => ?_
  subst b1
  have f2 : Fr K K2 := a4.trans b4
  simp
  refine (toMoveS_ok l v K2 hm (hv.fr f2)).mono fun x0 K3 ⟨c1, c3, c4⟩ => ?_
  have f3 := f2.trans c4
  simp
  refine (implLay_ok l x0 K3 hm c1.row).mono fun r K4 ⟨g0, d1, d2, d3, d4⟩ => ?_
  subst d1
  have f4 := f3.trans d4
  have w4 := b2.fr (c4.trans d4)
  simp
  refine (eqMoveS_ok _ _ g0 w0 K4 (by omega) d2.row w4.row).mono fun y K5 ⟨e1, p0⟩ => ?_
  subst e1
  have f5 := f4.trans p0
  simp [tab]
  refine (toMoveS_ok l v K5 hm (hv.fr f5)).mono fun x5 K6 ⟨p1, p3, p4⟩ => ?_
  simp
  refine (eqMoveS_ok l l x0 x5 K6 hm (c1.fr ((d4.trans p0).trans p4)).row p1.row).mono fun y K7 ⟨q1, q2⟩ => ?_
  subst q1
  have f7 := (f5.trans p4).trans q2
  have x7 := c1.fr (((d4.trans p0).trans p4).trans q2)
  simp [tab]
  refine (markMoveS_ok l x0 K7 hm x7).mono fun y K8 ⟨r1, r3⟩ => ?_
  subst r1
  have hxl : ∀ b, x0.at b → K2.length ≤ b ∧ b < K3.length := fun b hb => ⟨c3 b hb, c1.lt b hb⟩
  have hwl := b2.lt
  have hgl := d3
  have w8 := (w4.fr ((p0.trans p4).trans q2)).keeps r3 fun b hb hx => by have := hxl b hx; have := hwl b hb; omega
  have g8 := (d2.fr ((p0.trans p4).trans q2)).keeps r3 fun b hb hx => by have := hxl b hx; have := hgl b hb; omega
  have f8 : Fr K K8 := Fr.then f7 r3 fun b hb => by have := hxl b hb; have := f2.1; omega
  have hk : ¬ 1 + 2 * (l.length : Int) < 0 := by omega
  simp [tab, hk]
  refine (eqMoveS_ok _ _ g0 w0 K8 (by omega) g8.row w8.row).mono fun y K9 ⟨e1, s0⟩ => ?_
  subst e1
  simp [tab]
  refine (markFull_ok _ g0 K9 (by omega) (g8.fr s0)).mono fun y K10 ⟨s1, s2, s3⟩ => ?_
  subst s1
  have w10 := (w8.fr s0).keeps s3 fun b hb hx => by have := hwl b hb; have := hgl b hx; have := c4.1; omega
  have f10 : Fr K K10 := Fr.then (f8.trans s0) s3 fun b hb => by have := hgl b hb; have := f3.1; omega
  simp
  refine (heldM_ok _ g0 K10 (by omega) s2.row).mono fun y K' ⟨e1, e2⟩ => ?_
  subst e1 e2
  have hneg : ¬ (1 : Int) + 2 * ((yres l).1.length : Int) < 0 := by omega
  simp [tab, hneg]
  refine (toMoveS_ok l v K' hm (hv.fr f10)).mono fun x9 K11 ⟨t1, t3, t4⟩ => ?_
  simp
  refine (implLay_ok l x9 K11 hm t1.row).mono fun r K12 ⟨h0, u1, u2, u3, u4⟩ => ?_
  subst u1
  simp
  refine (eqMoveS_ok _ _ h0 w0 K12 (by omega) u2.row (w10.fr (t4.trans u4)).row).mono fun y K13 ⟨e1, s4⟩ => ?_
  subst e1
  simp [tab]
  refine (heldM_ok _ g0 K13 (by omega) (s2.fr ((t4.trans u4).trans s4)).row).mono fun y K' ⟨e1, e2⟩ => ?_
  subst e1 e2
  simp [tab, hneg]
theorem law_in (H : Hp) (x0 : AV) (h0 : SSl 2 16 (SPair (SInt .i64) (SInt .i64)) H [x0]) : T Try.prog 9 [x0] H (fun r K => r = .bool true) := by
  obtain ⟨l, h1, h2⟩ := moves_open H x0 h0
  exact laylaw l x0 H h2 h1
end Go.Proofs.Ythihphgfblonoaa.Am
