/- RingsIn, as the reference and the program answer. No condition. -/
import Derived.Test.YthihphgfblonoaaLRings
namespace Go.Proofs.Ythihphgfblonoaa.Am
open Go Go.RowKit
set_option linter.unusedSimpArgs false
set_option linter.unusedVariables false

theorem told_iff {p : Prop} {t : Bool} (h : t = true ↔ p) : (p ∧ t = true) ∨ (¬ p ∧ t = false) := by
  cases t with
  | true => exact .inl ⟨h.1 rfl, rfl⟩
  | false => exact .inr ⟨fun g => (by cases h.2 g), rfl⟩
theorem LRes.nil (H K : Hp) (h : Fr H K) : LRes H [] .nil K := ⟨[], LOwn.nil K, by rintro b (hb | ⟨u, hu, _⟩); exact hb.elim; simp at hu, h⟩
open Classical in
noncomputable def rres (l : List Move) : List (List Int) × Bool := if GoodM l then (rings l, true) else ([], false)
def RRes (H : Hp) (l : List Move) (r : AV) (K : Hp) : Prop := ∃ out, r = .tup [out, .bool (rres l).2] ∧ LRes H (rres l).1 out K
theorem specRingsIn_ok (l : List Move) (v : AV) (H : Hp) (hm : l.length ≤ 1048576) (hv : Row 2 H v (moves l)) : T Try.prog 28 [v] H (RRes H l) := by
  refine T.by tabOk Try.func28 (by kernel_rfl) rfl _ (by simp [Try.f28]) H _ ?_
  simp [Try.f28]
  refine (specGoodM_ok l v H hm hv).mono fun r K0 ⟨⟨t, h1, h2⟩, h3⟩ => ?_
  subst h1
  rcases told_iff h2 with ⟨hg, rfl⟩ | ⟨hg, rfl⟩
  case inr =>
    simp
    exact ⟨.nil, by simp [rres, hg], by simpa [rres, hg] using LRes.nil H K0 h3⟩
  simp
  refine (l8Rings_ok l v K0 hm (hv.fr h3)).mono fun r K1 ⟨us, e1, e2, e3⟩ => ?_
  simp
  exact ⟨r, by simp [rres, hg], by simp only [rres, if_pos hg]; exact ⟨us, e1, fun b hb => Nat.le_trans h3.1 (e2 b hb), h3.trans e3⟩⟩
theorem implRingsIn_ok (l : List Move) (v : AV) (H : Hp) (hm : l.length ≤ 1048576) (hv : Row 2 H v (moves l)) : T Try.prog 29 [v] H (RRes H l) := by
  refine T.by tabOk Try.func29 (by kernel_rfl) rfl _ (by simp [Try.f29]) H _ ?_
  simp [Try.f29]
  refine (areMoves_ok l v H hm hv).mono fun r K0 ⟨⟨t, h1, h2⟩, h3⟩ => ?_
  subst h1
  rcases told_iff h2 with ⟨hg, rfl⟩ | ⟨hg, rfl⟩
  case inr =>
    simp
    exact ⟨.nil, by simp [rres, hg], by simpa [rres, hg] using LRes.nil H K0 h3⟩
  simp
  refine (ringsIn_ok l v K0 hm (hv.fr h3)).mono fun r K1 ⟨us, e1, e2, e3⟩ => ?_
  simp
  exact ⟨r, by simp [rres, hg], by simp only [rres, if_pos hg]; exact ⟨us, e1, fun b hb => Nat.le_trans h3.1 (e2 b hb), h3.trans e3⟩⟩
theorem rres_len (l : List Move) : (rres l).1.length ≤ 10 ∧ ∀ r ∈ (rres l).1, r.length ≤ 11 := by
  unfold rres
  split
  · exact ⟨ringsTo_len l 10, rings_inner l⟩
  · simp
theorem sum_le (B : Nat) : ∀ (l : List Nat), (∀ x ∈ l, x ≤ B) → l.sum ≤ B * l.length
  | [], _ => by simp
  | x :: l, h => by
    have := sum_le B l fun y hy => h y (by simp [hy])
    have := h x (by simp)
    rw [List.sum_cons, List.length_cons, Nat.mul_succ]
    omega
set_option maxRecDepth 100000 in
theorem rings_law (l : List Move) (v : AV) (H : Hp) (hm : l.length ≤ 140737488355328) (hv : Row 2 H v (moves l)) : T Try.prog 7 [v] H (fun r K => r = .bool true) := by
  refine T.by tabOk Try.func7 (by kernel_rfl) rfl _ (by simp [Try.f7]) H _ ?_
  simp [Try.f7]
  refine (szMoveS_ok l v H hm hv).mono fun r K ⟨h1, h2⟩ => ?_
  subst h1 h2
  by_cases hl : 1048576 < l.length
  · simp [hl]
  have hl' : ¬ (1048576 : Int) - l.length < 0 := by omega
  have hm : l.length ≤ 1048576 := by omega
  obtain ⟨hrl, hri⟩ := rres_len l
  have hri2 : ∀ r ∈ (rres l).1, r.length ≤ 1048576 := fun r hr => by have := hri r hr; omega
  have hri3 : ∀ r ∈ (rres l).1, r.length ≤ 140737488355328 := fun r hr => by have := hri r hr; omega
  simp [hl, hl', tab]
  refine (toMoveS_ok l v K hm hv).mono fun x K1 ⟨a1, a3, a4⟩ => ?_
  simp
  refine (specRingsIn_ok l x K1 hm a1.row).mono fun r K2 ⟨w0, b1, wus, b2, b3, b4⟩ => ?_
  subst b1
  have f2 : Fr K K2 := a4.trans b4
  simp
  refine (toMoveS_ok l v K2 hm (hv.fr f2)).mono fun x0 K3 ⟨c1, c3, c4⟩ => ?_
  have f3 := f2.trans c4
  simp
  refine (implRingsIn_ok l x0 K3 hm c1.row).mono fun r K4 ⟨g0, d1, gus, d2, d3, d4⟩ => ?_
  subst d1
  have f4 := f3.trans d4
  have w4 := b2.fr (c4.trans d4)
  simp
  refine (eqIntSS_ok _ _ gus wus g0 w0 K4 (by omega) hri3 d2.look w4.look).mono fun y K' ⟨e1, e2⟩ => ?_
  subst e1 e2
  simp [tab]
  refine (toMoveS_ok l v K' hm (hv.fr f4)).mono fun x5 K5 ⟨p1, p3, p4⟩ => ?_
  simp
  refine (eqMoveS_ok l l x0 x5 K5 hm (c1.fr (d4.trans p4)).row p1.row).mono fun y K6 ⟨q1, q2⟩ => ?_
  subst q1
  have f6 := (f4.trans p4).trans q2
  have x6 := c1.fr ((d4.trans p4).trans q2)
  simp [tab]
  refine (markMoveS_ok l x0 K6 hm x6).mono fun y K7 ⟨r1, r3⟩ => ?_
  subst r1
  have hxl : ∀ b, x0.at b → K2.length ≤ b ∧ b < K3.length := fun b hb => ⟨c3 b hb, c1.lt b hb⟩
  have hwl := b2.lt
  have hgl := d3
  have w7 := (w4.fr (p4.trans q2)).keeps r3 fun b hb hx => by have := hxl b hx; have := hwl b hb; omega
  have g7 := (d2.fr (p4.trans q2)).keeps r3 fun b hb hx => by have := hxl b hx; have := hgl b hb; omega
  have f7 : Fr K K7 := Fr.then f6 r3 fun b hb => by have := hxl b hb; have := f2.1; omega
  have hk : ¬ 1 + 2 * (l.length : Int) < 0 := by omega
  simp [tab, hk]
  refine (eqIntSS_ok _ _ gus wus g0 w0 K7 (by omega) hri3 g7.look w7.look).mono fun y K' ⟨e1, e2⟩ => ?_
  subst e1 e2
  simp [tab]
  refine (markIntSS_ok _ gus g0 K' (by omega) hri2 g7).mono fun y K8 ⟨s1, s2, s3⟩ => ?_
  subst s1
  have w8 := w7.keeps s3 fun b hb hx => by have := hwl b hb; have := hgl b (.inr hx); have := c4.1; omega
  have f8 : Fr K K8 := Fr.then f7 s3 fun b hb => by have := hgl b (.inr hb); have := f3.1; omega
  have hsum := sum_le 11 ((rres l).1.map List.length) fun x hx => by
    obtain ⟨r, hr, rfl⟩ := List.mem_map.1 hx
    exact hri r hr
  rw [List.length_map] at hsum
  have hmap : ∀ n ∈ (rres l).1.map List.length, n ≤ 1048576 := fun n hn => by
    obtain ⟨r, hr, rfl⟩ := List.mem_map.1 hn
    exact hri2 r hr
  simp
  refine (heldIntSS_ok _ gus g0 K8 (by simp; omega) hmap s2).mono fun y K' ⟨e1, e2⟩ => ?_
  subst e1 e2
  generalize hS : ((rres l).1.map List.length).sum = S at *
  have hneg : ¬ (1 : Int) + (S : Int) < 0 := by omega
  simp [tab, hneg]
  refine (toMoveS_ok l v K' hm (hv.fr f8)).mono fun x9 K9 ⟨t1, t3, t4⟩ => ?_
  simp
  refine (implRingsIn_ok l x9 K9 hm t1.row).mono fun r K10 ⟨h0, u1, hus, u2, u3, u4⟩ => ?_
  subst u1
  simp
  refine (eqIntSS_ok _ _ hus wus h0 w0 K10 (by omega) hri3 u2.look (w8.fr (t4.trans u4)).look).mono fun y K'' ⟨e1, e2⟩ => ?_
  subst e1 e2
  simp [tab]
  refine (heldIntSS_ok _ gus g0 K'' (by simp; omega) hmap (s2.fr (t4.trans u4))).mono fun y K' ⟨e1, e2⟩ => ?_
  subst e1 e2
  simp [tab, hS, hneg]
end Go.Proofs.Ythihphgfblonoaa.Am
