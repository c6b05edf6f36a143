/- Drawn tasks, orders and schedules. No condition. -/
import Derived.Test.YtcadaadoodpnmaaLDrawTasks
import Derived.Test.YtcadaadoodpnmaaLListFn
namespace Go.Proofs.Ytcadaadoodpnmaa.Am
open Go Go.RowKit
set_option linter.unusedSimpArgs false
set_option linter.unusedVariables false

theorem TNew.stay {X : Nat → Prop} {K K' : Hp} {a B : Nat} {v : AV} {l : List Task} {us : List AV} (h : TNew K a v l us) (hB : (∀ b, v.at b → b < B) ∧ ∀ u ∈ us, ∀ b, u.at b → b < B) (k : Keeps X K K') (hX : ∀ b, X b → b < a ∨ B ≤ b) : TNew K' a v l us :=
  ⟨h.row.keeps k fun b hb hx => by have := h.fv b hb; have := hX b hx; have := hB.1 b hb; omega, h.len, fun i t u hi hu => (h.inner i t u hi hu).keeps k fun b hb hx => by have := h.fu u (List.mem_of_getElem? hu) b hb; have := hX b hx; have := hB.2 u (List.mem_of_getElem? hu) b hb; omega, h.fv, h.fu, h.off⟩
theorem TNew.below {K : Hp} {a : Nat} {v : AV} {l : List Task} {us : List AV} (h : TNew K a v l us) : (∀ b, v.at b → b < K.length) ∧ ∀ u ∈ us, ∀ b, u.at b → b < K.length := by
  refine ⟨h.row.lt, fun u hu b hb => ?_⟩
  obtain ⟨i, hi⟩ := List.mem_iff_getElem?.1 hu
  have hil : i < l.length := by rw [← h.len]; exact (List.getElem?_eq_some_iff.1 hi).1
  exact (h.inner i l[i] u (List.getElem?_eq_getElem hil) hi).lt b hb
/-- Tasks that were drawn. -/
def Tasks (H K : Hp) (v : AV) (l : List Task) : Prop := (∃ us, TNew K H.length v l us) ∧ l.length ≤ 13 ∧ ∀ t ∈ l, t.after.length ≤ 100
theorem Tasks.fr {H K K' : Hp} {v : AV} {l : List Task} (h : Tasks H K v l) (k : Fr K K') : Tasks H K' v l := by
  obtain ⟨⟨us, h1⟩, h2⟩ := h
  exact ⟨⟨us, h1.fr k⟩, h2⟩
theorem Tasks.row {H K : Hp} {v : AV} {l : List Task} (h : Tasks H K v l) : ∃ us, TRow K v l us := h.1.elim fun us h => ⟨us, h.look⟩
theorem Tasks.low {H H' K : Hp} {v : AV} {l : List Task} (h : Tasks H' K v l) (hl : H.length ≤ H'.length) : Tasks H K v l := by
  obtain ⟨⟨us, h1⟩, h2⟩ := h
  exact ⟨⟨us, h1.row, h1.len, h1.inner, h1.fv.mono hl, fun u hu => (h1.fu u hu).mono hl, h1.off⟩, h2⟩
theorem Tasks.keeps {X : Nat → Prop} {H K K' : Hp} {v : AV} {l : List Task} (h : Tasks H K v l) (k : Keeps X K K') (hX : ∀ b, X b → b < H.length) : Tasks H K' v l := by
  obtain ⟨⟨us, h1⟩, h2⟩ := h
  exact ⟨⟨us, h1.keeps k hX⟩, h2⟩
def DList (H : Hp) (r : AV) (K : Hp) : Prop := (∃ v x w l o, r = .tup [v, .int .i64 x, w] ∧ Tasks H K v l ∧ Row 1 K w (ints o) ∧ o.length ≤ 13) ∧ Fr H K
def DLeast (H : Hp) (r : AV) (K : Hp) : Prop := (∃ v x l, r = .tup [v, .int .i64 x] ∧ Tasks H K v l) ∧ Fr H K
theorem Moves.fr {H K : Hp} {x : Option Blk} (h : Moves H.length (H ++ [x]) K) : Fr H K := Fr.then (Fr.app H [x]) h fun b hb => by omega
theorem drawGood_ok (v : AV) (H : Hp) (hv : Bytes H v) : T Try.prog 69 [v] H (fun r K => (∃ l, Tasks H K r l) ∧ Fr H K) := by
  refine T.by tabOk Try.func69 (by kernel_rfl) rfl _ (by simp [Try.f69]) H _ ?_
  have h1 := hv.one
  have h2 := cells_of_one h1
  simp [Try.f69, tab, fillA, over, h1, h2]
  refine (tasks_ok H.length 0 _ (by omega) (cur_new hv)).mono fun r K ⟨⟨l, hl⟩, c1, m1⟩ => ?_
  simp
  exact ⟨⟨l, Tasks.low hl (by simp)⟩, Moves.fr m1⟩
theorem drawRanks_ok (v : AV) (H : Hp) (hv : Bytes H v) : T Try.prog 40 [v] H (fun r K => (∃ l, Tasks H K r l) ∧ Fr H K) := by
  refine T.by tabOk Try.func40 (by kernel_rfl) rfl _ (by simp [Try.f40]) H _ ?_
  simp [Try.f40]
  refine (drawGood_ok v H hv).mono fun r K h => ?_
  simp
  exact h
theorem drawLeast_ok (v : AV) (H : Hp) (hv : Bytes H v) : T Try.prog 41 [v] H (DLeast H) := by
  refine T.by tabOk Try.func41 (by kernel_rfl) rfl _ (by simp [Try.f41]) H _ ?_
  have h1 := hv.one
  have h2 := cells_of_one h1
  simp [Try.f41, tab, fillA, over, h1, h2]
  refine (tasks_ok H.length 0 _ (by omega) (cur_new hv)).mono fun w K ⟨⟨l, hl⟩, c1, m1⟩ => ?_
  simp
  refine (pick_ok H.length 6 _ K (by omega) c1).mono fun r K2 ⟨⟨x, e1, _⟩, c2, m2⟩ => ?_
  subst e1
  simp
  exact ⟨⟨w, x, l, rfl, Tasks.low (Tasks.keeps (H := H ++ [_]) hl m2 fun b hb => by simp; omega) (by simp)⟩, Moves.fr (m1.trans m2)⟩
set_option maxRecDepth 100000 in
theorem drawList_ok (v : AV) (H : Hp) (hv : Bytes H v) : T Try.prog 37 [v] H (DList H) := by
  refine T.by tabOk Try.func37 (by kernel_rfl) rfl _ (by simp [Try.f37]) H _ ?_
  have h1 := hv.one
  have h2 := cells_of_one h1
  simp [Try.f37, tab, fillA, over, h1, h2]
  refine (tasks_ok H.length 0 _ (by omega) (cur_new hv)).mono fun w K ⟨⟨l, hl⟩, c1, m1⟩ => ?_
  have hT : Tasks (H ++ [_]) K w l := hl
  obtain ⟨us, hrow⟩ := hT.row
  have hK1 := m1.1
  simp at hK1
  have hlen := (hrow.fr (Fr.app K [some ⟨1, true, ints [1, 2, 2, 3, 4, 0, 5] |>.flatten⟩])).count 49
  have hr7 : Row 1 (K ++ [some ⟨1, true, [.int .i64 1, .int .i64 2, .int .i64 2, .int .i64 3, .int .i64 4, .int .i64 0, .int .i64 5]⟩]) (.sl K.length 0 7) (ints [1, 2, 2, 3, 4, 0, 5]) := by
    have := (Own.new (sz := 1) (K := K) (es := ints [1, 2, 2, 3, 4, 0, 5]) (ints_one _)).row
    simpa [ints] using this
  have fB := Fr.app K [some ⟨1, true, [.int .i64 1, .int .i64 2, .int .i64 2, .int .i64 3, .int .i64 4, .int .i64 0, .int .i64 5]⟩]
  simp [tab, buildSliceA, zerosA, fillA, over]
  refine (among_ok H.length _ _ _ _ (by omega) (by simp) (by simp) (c1.fr fB) hr7 (fun b hb => by cases hb; omega)).mono fun r K2 ⟨⟨x, e1, _⟩, c2, m2⟩ => ?_
  subst e1
  have hT2 := (hT.fr fB).keeps m2 fun b hb => by simp; omega
  simp [tab, hlen]
  refine (orderOf_ok H.length l.length _ K2 (by omega) (by have := hT.2.1; omega) c2).mono fun z K3 ⟨⟨o, o1, o2⟩, o3, c3, m3⟩ => ?_
  simp
  exact ⟨⟨w, x, z, l, o, rfl, Tasks.low (hT2.keeps m3 fun b hb => by simp; omega) (by simp), o1.row, by have := hT.2.1; omega⟩, Moves.fr (((m1.trans fB.keeps).trans m2).trans m3)⟩
set_option maxRecDepth 100000 in
theorem drawSched_ok (v : AV) (H : Hp) (hv : Bytes H v) : T Try.prog 39 [v] H (DList H) := by
  refine T.by tabOk Try.func39 (by kernel_rfl) rfl _ (by simp [Try.f39]) H _ ?_
  have h1 := hv.one
  have h2 := cells_of_one h1
  simp [Try.f39, tab, fillA, over, h1, h2]
  obtain ⟨H', hH'⟩ : ∃ H', H' = H ++ [some ⟨3, true, [v, .int .i64 0, .int .u64 0]⟩] := ⟨_, rfl⟩
  have hlH : H'.length = H.length + 1 := by rw [hH']; simp
  have hc0 : Cur H' H.length 0 := hH' ▸ cur_new hv
  rw [← hH']
  have fin : ∀ K, Moves H.length H' K → Fr H K := fun K m => by rw [hH'] at m; exact Moves.fr m
  refine (tasks_ok H.length 0 _ (by omega) hc0).mono fun w K ⟨⟨l, ⟨us, hT⟩, hl13, hin⟩, c1, m1⟩ => ?_
  have hB := hT.below
  have hKB := m1.1
  simp
  refine (pick_ok H.length 3 _ K (by omega) c1).mono fun r K1 ⟨⟨x, e1, x0, x1⟩, c2, m2⟩ => ?_
  subst e1
  have hT1 := hT.keeps m2 fun b hb => by omega
  have hrow := hT1.look
  have hlen := hrow.count 49
  have hw := wrap64 (x := 1 + x) (by omega) (by omega)
  simp [tab, hlen, hw]
  refine (orderOf_ok H.length l.length _ K1 (by omega) (by omega) c2).mono fun z K2 ⟨⟨o, o1, o2⟩, o3, c3, m3⟩ => ?_
  have hT2 := hT1.keeps m3 fun b hb => by omega
  have hrow2 := hT2.look
  obtain ⟨q, hq⟩ : ∃ q, LOk l (1 + x) o → Sim l (1 + x) o 0 (List.replicate l.length (-1), 0) q := by
    by_cases h : LOk l (1 + x) o
    · obtain ⟨q, hq⟩ := sim_all h.1 h.2.1.1 h.2.2
      exact ⟨q, fun _ => hq⟩
    · exact ⟨([], 0), fun h' => absurd h' h⟩
  simp
  refine (specList_ok l (1 + x) o q us w z K2 (by omega) (fun t ht => by have := hin t ht; omega) (by omega) hq hrow2 o1.row).mono fun r K3 hans => ?_
  obtain ⟨out, e1, s1, s2, s3⟩ := hans.get
  subst e1
  have hsl : (lres l (1 + x) o q).1.length ≤ 13 := by
    unfold lres
    split
    · rename_i h
      have := (hq h).length
      simp at this ⊢
      omega
    · simp
  have hT3 := hT2.fr s3
  have c4 := c3.fr s3
  have hm3 : Moves H.length H' K3 := ((m1.trans m2).trans m3).trans s3.keeps
  have hlK2 : H'.length ≤ K2.length := ((m1.trans m2).trans m3).1
  have hfo : Fresh K.length out := s2.mono (Nat.le_trans m2.1 m3.1)
  have hcl : H.length < H'.length := by omega
  clear hq
  obtain ⟨B, hBd⟩ : ∃ B, B = K.length := ⟨_, rfl⟩
  rw [← hBd] at hB hKB hfo
  have hK3B : B ≤ K3.length := by have := m2.1; have := m3.1; have := s3.1; omega
  generalize hs0 : (lres l (1 + x) o q).1 = s0 at s1 hsl
  generalize hok : (lres l (1 + x) o q).2.2 = ok
  generalize (lres l (1 + x) o q).2.1 = en
  clear hans s3 s2 o3 o1
  simp [-post_sq]
  simp only [post_sq, W_seq]
  refine W_cut (fun ts K => (∃ b, ts 35 = .bool b) ∧ Own 1 K out (ints s0) ∧ TNew K H'.length w l us ∧ Cur K H.length 300 ∧ B ≤ K.length ∧ Moves H.length H' K ∧ ts 5 = .ptr H.length 0 ∧ ts 6 = w ∧ ts 7 = .int .i64 (1 + x) ∧ ts 8 = out) ?_ ?_
  · cases ok with
    | false =>
      simp [hw]
      exact ⟨s1, hT3, c4.mono (by omega), hK3B, hm3⟩
    | true =>
      simp [hw]
      refine (one_ok H.length 3 _ K3 (by omega) c4).mono fun r K4 ⟨⟨y, e1⟩, c5, m5⟩ => ?_
      subst e1
      simp
      exact ⟨s1.keeps m5 fun b hb e => by have := hfo b hb; omega, hT3.keeps m5 fun b hb => by omega, c5.mono (by omega), Nat.le_trans hK3B m5.1, hm3.trans m5⟩
  rintro ts K4 ⟨⟨b, t35⟩, g1, g2, g3, gB, g4, t5, t6, t7, t8⟩
  clear hT3 c4 s1 hT2 hT1 hT hrow hrow2 hlen
  simp only [post_sq, W_seq]
  refine W_cut (fun ts K => (∃ u s, ts 8 = u ∧ Own 1 K u (ints s) ∧ s.length ≤ 13 ∧ Fresh B u) ∧ TNew K H'.length w l us ∧ Cur K H.length 400 ∧ B ≤ K.length ∧ Moves H.length H' K ∧ ts 5 = .ptr H.length 0 ∧ ts 6 = w ∧ ts 7 = .int .i64 (1 + x)) ?_ ?_
  · cases b with
    | false =>
      simp [t35, t5, t6, t7, t8]
      exact ⟨⟨s0, g1, hsl, hfo⟩, g2, g3.mono (by omega), gB, g4⟩
    | true =>
      have hrow3 := g2.look
      have hlen := hrow3.count 49
      simp [t35, t5, t6, t7, t8, tab, hlen]
      refine W_loop _ fun I hI => ?_
      have key : ∀ (d k : Nat) (ts : TS) (K : Hp) (u : AV) (s : List Int), k + d = l.length → s.length = k → Own 1 K u (ints s) → Fresh B u → TNew K H'.length w l us → Cur K H.length (300 + 2 * k) → B ≤ K.length → Moves H.length H' K → (ts 5 = .ptr H.length 0 ∧ ts 6 = w ∧ ts 7 = .int .i64 (1 + x) ∧ ts 8 = u ∧ ts 37 = .int .i64 l.length ∧ ts 38 = .int .i64 k) → I ts K := by
        intro d
        induction d with
        | zero =>
          intro k ts K u s e hs ho hf hT hc hKB hm hts
          apply hI
          obtain rfl : k = l.length := by omega
          simp [hts, tab]
          exact ⟨⟨s, ho, by omega, hf⟩, hT, hc.mono (by omega), hKB, hm⟩
        | succ d ih =>
          intro k ts K u s e hs ho hf hT hc hKB hm hts
          apply hI
          have hlt : (k : Int) < l.length := by omega
          have hw := wrap64 (x := k + 1) (by omega) (by omega)
          simp [hts, tab, hlt]
          refine (pick_ok H.length 20 _ K (by omega) hc).mono fun r K1 ⟨⟨y, e1, _⟩, c2, m2⟩ => ?_
          subst e1
          have ho1 := ho.keeps m2 fun b hb e => by have := hf b hb; omega
          obtain ⟨u', K', a1, a2, a3, a4⟩ := ho1.push y (by omega)
          have hm1 := hm.trans m2
          have hKB1 := Nat.le_trans hKB m2.1
          have hf' : Fresh B u' := fun b hb => (a4 b hb).elim (hf b) (fun h => Nat.le_trans hKB1 h)
          have hT1 := hT.keeps m2 fun b hb => by omega
          have hT' := hT1.stay hB a3 fun b hb => .inr (hf b hb)
          simp [hts, tab, buildSliceA, zerosA, a1, hw]
          exact ih (k + 1) _ _ u' _ (by omega) (by simp [hs]) a2 hf' hT' ((c2.keeps a3 fun b hb => by have := hf b hb; omega).mono (by omega)) (Nat.le_trans hKB1 a3.1) ⟨Nat.le_trans hm1.1 a3.1, fun b blk hb hn => a3.2 b blk (hm1.2 b blk hb hn) fun hx => by have := hf b hx; have := lt_of_get hb; omega⟩ (by simp [hts])
      exact key l.length 0 _ K4 .nil [] (by omega) rfl (by simpa [ints] using Own.nil 1 K4) (Fresh.nil _) g2 (g3.mono (by omega)) gB g4 (by simp [t5, t6, t7])
  rintro ts K5 ⟨⟨u, s, t8, q1, q2, q3⟩, qN, qc, qB, qm, t5, t6, t7⟩
  clear g1 g2 g3 g4 gB hm3 hK3B t35
  have hlen := q1.row.len 3
  have fin2 : ∀ K6 s', TNew K6 H'.length w l us → Own 1 K6 u (ints s') → s'.length ≤ 13 → Moves H.length H' K6 → DList H (.tup [w, .int .i64 (1 + x), u]) K6 := fun K6 s' hN hu hs' hm => ⟨⟨w, 1 + x, u, l, s', rfl, Tasks.low (H' := H') ⟨⟨us, hN⟩, hl13, hin⟩ (by omega), hu.row, hs'⟩, fin K6 hm⟩
  by_cases hs0 : 0 < s.length
  case neg =>
    simp [t5, t6, t7, t8, tab, hlen, hs0]
    exact fin2 K5 s qN q1 q2 qm
  simp [t5, t6, t7, t8, tab, hlen, hs0]
  refine (one_ok H.length 30 _ K5 (by omega) qc).mono fun r K6 ⟨⟨y, e1⟩, c6, m6⟩ => ?_
  subst e1
  have hN6 := qN.keeps m6 fun b hb => by omega
  have hu6 := q1.keeps m6 fun b hb e => by have := q3 b hb; omega
  have hm6 := qm.trans m6
  cases y with
  | false =>
    simp [t6, t7, t8]
    exact fin2 K6 s hN6 hu6 q2 hm6
  | true =>
    have fB := Fr.app K6 [some ⟨1, true, [.int .i64 (-1), .int .i64 1000, .int .i64 1001]⟩]
    have hrow : Row 1 (K6 ++ [some ⟨1, true, [.int .i64 (-1), .int .i64 1000, .int .i64 1001]⟩]) (.sl K6.length 0 3) (ints [-1, 1000, 1001]) := by
      have := (Own.new (sz := 1) (K := K6) (es := ints [-1, 1000, 1001]) (ints_one _)).row
      simpa [ints] using this
    have hlt1 := c6.lt
    simp [t5, t6, t7, t8, tab, buildSliceA, zerosA, fillA, over]
    refine (among_ok H.length [-1, 1000, 1001] (.sl K6.length 0 3) _ _ (by omega) (by simp) (by simp) (c6.fr fB) hrow (fun b hb => by cases hb; omega)).mono fun r K7 ⟨⟨y, e1, _⟩, c7, m7⟩ => ?_
    subst e1
    have hN7 := (hN6.fr fB).keeps m7 fun b hb => by omega
    have hu7 := (hu6.fr fB).keeps m7 fun b hb e => by have := q3 b hb; omega
    obtain ⟨o0, s', rfl⟩ : ∃ o0 s', s = o0 :: s' := by
      cases s with
      | nil => simp at hs0
      | cons a b => exact ⟨a, b, rfl⟩
    obtain ⟨b', hb', f1, f2⟩ := hu7.store (tab := tab) (e := 3) (ety := tI) rfl (i := 0) (c := [.int .i64 o0]) (ints_get rfl) .i64
    obtain ⟨K8, f3, f4, f5, f6⟩ := f2 tI 0 (.int .i64 y) rfl rfl (by decide)
    have e5 : (ints (o0 :: s')).set 0 (over [.int .i64 o0] 0 [.int .i64 y]) = ints (y :: s') := by simp [ints]
    simp only [cells_int, e5] at f4
    simp at f1 f3
    have hm7 := (hm6.trans fB.keeps).trans m7
    simp [t6, t7, t8, tab, f1, f3]
    exact fin2 K8 (y :: s') (hN7.stay hB f5 fun b hb => .inr (q3 b hb)) f4 (by simpa using q2) ⟨Nat.le_trans hm7.1 f5.1, fun b blk hb hn => f5.2 b blk (hm7.2 b blk hb hn) fun hx => by have := q3 b hx; have := lt_of_get hb; omega⟩
end Go.Proofs.Ytcadaadoodpnmaa.Am
