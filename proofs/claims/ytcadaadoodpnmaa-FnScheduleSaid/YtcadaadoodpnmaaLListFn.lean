/- The law of ListTimes. No condition. -/
import Derived.Test.YtcadaadoodpnmaaLListImpl
namespace Go.Proofs.Ytcadaadoodpnmaa.Am
open Go Go.RowKit
set_option linter.unusedSimpArgs false
set_option linter.unusedVariables false

theorem tOwn_lt {K : Hp} {v : AV} {l : List Task} {us : List AV} (h : TOwn K v l us) : ∀ b, (v.at b ∨ ∃ u ∈ us, u.at b) → b < K.length := by
  rintro b (hb | ⟨u, hu, hb⟩)
  · exact h.row.lt b hb
  · obtain ⟨i, hi⟩ := List.mem_iff_getElem?.1 hu
    have hil : i < l.length := by rw [← h.len]; exact (List.getElem?_eq_some_iff.1 hi).1
    exact (h.inner i l[i] u (List.getElem?_eq_getElem hil) hi).lt b hb
theorem pass_length (l : List Task) (n m : Int) : ∀ (o : List Int) (p : List Int × Int), (pass l n m o p).1.length = p.1.length
  | [], p => rfl
  | k :: o, p => by
    show (pass l n m o (stepS l n m p k)).1.length = _
    rw [pass_length l n m o]
    unfold stepS
    split <;> simp
theorem Sim.length {l : List Task} {n : Int} {o : List Int} {m : Nat} {p q : List Int × Int} (h : Sim l n o m p q) : q.1.length = p.1.length := by
  induction h with
  | stop _ => rfl
  | go _ _ _ ih => rw [ih, pass_length]
open Classical in
noncomputable def lres (l : List Task) (n : Int) (o : List Int) (q : List Int × Int) : List Int × Int × Bool := if LOk l n o then (q.1, q.2, true) else ([], 0, false)
theorem LAns.get {l : List Task} {n : Int} {o : List Int} {q : List Int × Int} {H K : Hp} {r : AV} (h : LAns l n o q H r K) : ∃ out, r = .tup [out, .int .i64 (lres l n o q).2.1, .bool (lres l n o q).2.2] ∧ Own 1 K out (ints (lres l n o q).1) ∧ Fresh H.length out ∧ Fr H K := by
  obtain ⟨hf, ⟨h1, out, rfl, h2, h3⟩ | ⟨h1, rfl⟩⟩ := h
  · exact ⟨out, by simp [lres, h1], by simpa [lres, h1] using h2, h3, hf⟩
  · exact ⟨.nil, by simp [lres, h1], by simpa [lres, h1, ints] using Own.nil 1 K, Fresh.nil _, hf⟩
set_option maxRecDepth 100000 in
theorem list_law (l : List Task) (n : Int) (o : List Int) (ws : List AV) (v w : AV) (H : Hp) (hm : l.length ≤ 140737488355328) (hmm : ∀ t ∈ l, t.after.length ≤ 140737488355328) (hmo : o.length ≤ 140737488355328) (hv : TRow H v l ws) (hw : Row 1 H w (ints o)) : T Try.prog 9 [v, .int .i64 n, w] H (fun r K => r = .bool true) := by
  refine T.by tabOk Try.func9 (by kernel_rfl) rfl _ (by simp [Try.f9]) H _ ?_
  have hlw := hw.len 3
  by_cases hbig : 1048576 < o.length
  · have : (1048576 : Int) < o.length := by omega
    simp [Try.f9, tab, hlw, this]
  have hbig' : ¬ (1048576 : Int) < o.length := by omega
  simp [Try.f9, tab, hlw, hbig']
  refine (szTaskS_ok l ws v H hm hmm hv).mono fun r K ⟨z, h1, h2, h3⟩ => ?_
  subst h1
  by_cases hz : z < 0
  · simp [tab, hz]
  simp [tab, hz]
  obtain ⟨hm, hmm⟩ := h3 (by omega)
  obtain ⟨q, hq⟩ : ∃ q, LOk l n o → Sim l n o 0 (List.replicate l.length (-1), 0) q := by
    by_cases hok : LOk l n o
    · obtain ⟨q, hq⟩ := sim_all hok.1 hok.2.1.1 hok.2.2
      exact ⟨q, fun _ => hq⟩
    · exact ⟨([], 0), fun h => absurd h hok⟩
  have hlen : (lres l n o q).1.length ≤ l.length := by
    unfold lres
    split
    · rename_i hok
      have := (hq hok).length
      simp at this
      simp [this]
    · simp
  refine (toTaskS_ok l ws v K hm hmm (hv.fr h2)).mono fun x K0 ⟨⟨us1, a1, a2⟩, a3, a4⟩ => ?_
  simp
  refine (toIntS_ok o w K0 (by omega) (hw.fr (h2.trans a4))).mono fun y K1 ⟨y1, y2, y3⟩ => ?_
  simp
  refine (specList_ok l n o q us1 x y K1 hm hmm (by omega) hq (a1.look.fr y3) y1.row).mono fun x K2 hb => ?_
  obtain ⟨w0, b1, b2, b3, b4⟩ := hb.get
  subst b1
  have f2 : Fr H K2 := ((h2.trans a4).trans y3).trans b4
  simp
  refine (toTaskS_ok l ws v K2 hm hmm (hv.fr f2)).mono fun x0 K3 ⟨⟨us3, c1, c2⟩, c3, c4⟩ => ?_
  have f3 := f2.trans c4
  simp
  refine (toIntS_ok o w K3 (by omega) (hw.fr f3)).mono fun x2 K3' ⟨o1, o2, o3⟩ => ?_
  have f3' := f3.trans o3
  simp
  refine (implList_ok l n o q us3 x0 x2 K3' hm hmm (by omega) hq (c1.look.fr o3) o1.row).mono fun x K4 hd => ?_
  obtain ⟨g0, d1, d2, d3, d4⟩ := hd.get
  subst d1
  have f4 := f3'.trans d4
  have w4 : Own 1 K4 w0 (ints (lres l n o q).1) := b2.fr ((c4.trans o3).trans d4)
  simp
  refine (eqIntS_ok _ _ g0 w0 K4 (by omega) d2.row w4.row).mono fun y K' ⟨e1, e2⟩ => ?_
  subst e1 e2
  simp [tab]
  refine (toTaskS_ok l ws v K' hm hmm (hv.fr f4)).mono fun x5 K5 ⟨⟨us5, p1, p2⟩, p3, p4⟩ => ?_
  simp
  refine (eqTaskS_ok l l us3 us5 x0 x5 K5 hm hmm (c1.look.fr ((o3.trans d4).trans p4)) p1.look).mono fun y K6 ⟨q1, q2⟩ => ?_
  subst q1
  simp [tab]
  refine (toIntS_ok o w K6 (by omega) (hw.fr ((f4.trans p4).trans q2))).mono fun y6 K6' ⟨i1, i2, i3⟩ => ?_
  simp
  have x2' : Own 1 K6' x2 (ints o) := o1.fr (((d4.trans p4).trans q2).trans i3)
  refine (eqIntS_ok o o x2 y6 K6' (by omega) x2'.row i1.row).mono fun y K'' ⟨e1, e2⟩ => ?_
  subst e1 e2
  have f6 : Fr H K'' := ((f4.trans p4).trans q2).trans i3
  have x6 : TOwn K'' x0 l us3 := c1.fr ((((o3.trans d4).trans p4).trans q2).trans i3)
  simp [tab]
  refine (markTaskS_ok l us3 x0 K'' hm hmm x6).mono fun y K7' ⟨⟨k, r1, r2, r2'⟩, r3⟩ => ?_
  subst r1
  have hxl : ∀ b, (x0.at b ∨ ∃ u ∈ us3, u.at b) → K2.length ≤ b ∧ b < K3.length := fun b hb => ⟨hb.elim (c3 b) (fun ⟨u, hu, h⟩ => c2 u hu b h), tOwn_lt c1 b hb⟩
  have hx2l : ∀ b, x2.at b → K3.length ≤ b ∧ b < K3'.length := fun b hb => ⟨o2 b hb, o1.lt b hb⟩
  have hwl : ∀ b, w0.at b → b < K2.length := b2.lt
  have hgl : ∀ b, g0.at b → K3'.length ≤ b := d3
  have hl3 := o3.1
  have hl2 := c4.1
  have hlH := f2.1
  have w6 : Own 1 K'' w0 (ints (lres l n o q).1) := w4.fr ((p4.trans q2).trans i3)
  have g6 : Own 1 K'' g0 (ints (lres l n o q).1) := d2.fr ((p4.trans q2).trans i3)
  have x7 : Own 1 K7' x2 (ints o) := x2'.keeps r3 fun b hb hx => by have := hxl b hx; have := hx2l b hb; omega
  simp
  refine (markIntS_ok _ x2 k K7' (by omega) (by simp; omega) x7).mono fun y K7 ⟨s1, s2, s3, s4⟩ => ?_
  subst s1
  have w7 : Own 1 K7 w0 (ints (lres l n o q).1) := (w6.keeps r3 fun b hb hx => by have := hxl b hx; have := hwl b hb; omega).keeps s3 fun b hb hx => by have := hx2l b hx; have := hwl b hb; omega
  have g7 : Own 1 K7 g0 (ints (lres l n o q).1) := (g6.keeps r3 fun b hb hx => by have := hxl b hx; have := hgl b hb; omega).keeps s3 fun b hb hx => by have := hx2l b hx; have := hgl b hb; omega
  have f7 : Fr H K7 := Fr.then (Fr.then f6 r3 fun b hb => by have := hxl b hb; omega) s3 fun b hb => by have := hx2l b hb; omega
  have hk : ¬ k + (o.length : Int) < 0 := by omega
  simp [tab, hk]
  refine (eqIntS_ok _ _ g0 w0 K7 (by omega) g7.row w7.row).mono fun y K' ⟨e1, e2⟩ => ?_
  subst e1 e2
  simp [tab]
  refine (markIntS_ok _ g0 1 K' (by omega) (by simp; omega) g7).mono fun y K8 ⟨s1, s2, s3, s4⟩ => ?_
  subst s1
  have w8 : Own 1 K8 w0 (ints (lres l n o q).1) := w7.keeps s3 fun b hb hx => by have := hwl b hb; have := hgl b hx; omega
  have f8 : Fr H K8 := Fr.then f7 s3 fun b hb => by have := hgl b hb; omega
  simp at s2
  simp
  refine (heldIntS_ok _ g0 1 K8 (by omega) (by omega) s2.row).mono fun y K' ⟨e1, e2⟩ => ?_
  subst e1 e2
  have hneg : ¬ (1 : Int) + ((lres l n o q).1.length : Int) < 0 := by omega
  simp [tab, hneg]
  refine (toTaskS_ok l ws v K' hm hmm (hv.fr f8)).mono fun x9 K9 ⟨⟨us9, t1, t2⟩, t3, t4⟩ => ?_
  simp
  refine (toIntS_ok o w K9 (by omega) (hw.fr (f8.trans t4))).mono fun y9 K9' ⟨v1, v2, v3⟩ => ?_
  simp
  refine (implList_ok l n o q us9 x9 y9 K9' hm hmm (by omega) hq (t1.look.fr v3) v1.row).mono fun x K10 hu => ?_
  obtain ⟨h0, u1, u2, u3, u4⟩ := hu.get
  subst u1
  simp
  refine (eqIntS_ok _ _ h0 w0 K10 (by omega) u2.row (w8.fr ((t4.trans v3).trans u4)).row).mono fun y K'' ⟨e1, e2⟩ => ?_
  subst e1 e2
  simp [tab]
  refine (heldIntS_ok _ g0 1 K'' (by omega) (by omega) (s2.fr ((t4.trans v3).trans u4)).row).mono fun y K' ⟨e1, e2⟩ => ?_
  subst e1 e2
  simp [tab, hneg]
end Go.Proofs.Ytcadaadoodpnmaa.Am
