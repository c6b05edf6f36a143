/- Trees and patterns drawn. No condition. -/
import Derived.Test.YtmmohcledhenfaaLTreeFits
import Derived.Test.YtmmohcledhenfaaLBytes
namespace Go.Proofs.Ytmmohcledhenfaa.Am
open Go Go.RowKit
set_option linter.unusedSimpArgs false
set_option linter.unusedVariables false

theorem Moves.of {c : Nat} {H K : Hp} (h : Fr H K) : Moves c H K := Fr.keeps h
theorem Moves.up {c : Nat} {H K K' : Hp} {X : Nat → Prop} (h : Moves c H K) (k : Keeps X K K') (hX : ∀ b, X b → H.length ≤ b) : Moves c H K' := ⟨Nat.le_trans h.1 k.1, fun b blk hb hn => k.2 b blk (h.2 b blk hb hn) fun e => by have := hX b e; have := lt_of_get hb; omega⟩
theorem Own.putW {K : Hp} {u : AV} {V : List Int} (h : Own 1 K u (ints V)) {i : Int} (h0 : 0 ≤ i) (h1 : i < V.length) (x : Int) : ∃ b, indexAddrA tab (.slice 3) K u (.int .i64 i) = some (.ptr b i.toNat) ∧ ∃ K', storeA tI K (.ptr b i.toNat) (.int .i64 x) = some K' ∧ Own 1 K' u (ints (V.set i.toNat x)) ∧ Keeps u.at K K' ∧ K'.length = K.length := by
  obtain ⟨k, rfl⟩ := Int.eq_ofNat_of_zero_le h0
  have hk : k < V.length := by omega
  obtain ⟨b, hb, f1, f2⟩ := h.store (tab := tab) (e := 3) (ety := tI) rfl (i := k) (c := [.int .i64 V[k]]) (by simp [ints, hk]) .i64
  obtain ⟨K', f3, f4, f5, f6⟩ := f2 tI 0 (.int .i64 x) rfl rfl (by decide)
  refine ⟨b, by simpa using f1, K', by simpa using f3, ?_, f5, f6⟩
  have e : (ints V).set k (over [.int .i64 V[k]] 0 (AV.int .i64 x).cells) = ints (V.set k x) := by simp [ints, List.map_set, over]
  rw [e] at f4
  simpa using f4
def sz : Nat → Nat
  | 0 => 1
  | d + 1 => 2 * sz d + 1
theorem sz_pos (d : Nat) : 1 ≤ sz d := by cases d <;> simp [sz]
theorem sz_few {d : Nat} (h : d ≤ 5) : sz d ≤ 63 := by
  match d, h with
  | 0, _ => decide
  | 1, _ => decide
  | 2, _ => decide
  | 3, _ => decide
  | 4, _ => decide
  | 5, _ => decide
def KindsAt (c : Nat) (L : List Int) (z : Nat) (n : Int) (H0 : Hp) (r : AV) (K : Hp) : Prop := (∃ L', Own 1 K r (ints L') ∧ L.length < L'.length ∧ L'.length ≤ L.length + z) ∧ Fresh H0.length r ∧ Cur K c (n + 6 * z) ∧ Moves c H0 K
/-- What a draw stands on. -/
structure KindsOn (c : Nat) (L : List Int) (n : Int) (v : AV) (H0 K : Hp) : Prop where
  own : Own 1 K v (ints L)
  fresh : Fresh H0.length v
  low : c < H0.length
  cur : Cur K c n
  mov : Moves c H0 K
theorem KindsOn.go {c : Nat} {L : List Int} {n m : Int} {v : AV} {H0 K K' : Hp} (h : KindsOn c L n v H0 K) (hm : Moves c K K') (hc : Cur K' c m) : KindsOn c L m v H0 K' :=
  ⟨h.own.keeps hm fun b hb e => by have := h.fresh b hb; have := h.low; omega, h.fresh, h.low, hc, h.mov.trans hm⟩
theorem KindsOn.more {c : Nat} {L : List Int} {n m : Int} {v : AV} {H0 K : Hp} (h : KindsOn c L n v H0 K) (hm : n ≤ m) : KindsOn c L m v H0 K := ⟨h.own, h.fresh, h.low, h.cur.mono hm, h.mov⟩
theorem KindsOn.push {c : Nat} {L : List Int} {n : Int} {v : AV} {H0 K : Hp} (h : KindsOn c L n v H0 K) (x : Int) (hl : L.length ≤ 100000) : ∃ u K', appendA 1 8 (K ++ [some ⟨1, true, [.int .i64 x]⟩]) v (.sl K.length 0 1) = some (u, K') ∧ KindsOn c (L ++ [x]) n u H0 K' := by
  obtain ⟨u, K', a1, a2, a3, a4⟩ := h.own.push x (by omega)
  have hlow := h.low
  have hlen := h.mov.1
  exact ⟨u, K', a1, a2, fun b hb => (a4 b hb).elim (h.fresh b) fun h => Nat.le_trans hlen h, h.low, h.cur.keeps a3 fun b hb => by have := h.fresh b hb; omega, h.mov.up a3 h.fresh⟩
theorem KindsOn.leaf {c : Nat} {L : List Int} {n m : Int} {x : Int} {z : Nat} {v : AV} {H0 K : Hp} (h : KindsOn c (L ++ [x]) m v H0 K) (hm : m ≤ n + 6 * z) (hz : 1 ≤ z) : KindsAt c L z n H0 v K :=
  ⟨⟨L ++ [x], h.own, by simp, by simp; omega⟩, h.fresh, h.cur.mono hm, h.mov⟩
set_option maxHeartbeats 1000000 in
set_option maxRecDepth 100000 in
theorem kinds_ok (c : Nat) (any : Bool) (H0 : Hp) : ∀ (d : Nat) (deep n : Int) (L : List Int) (v : AV) (H : Hp), d ≤ 5 → deep ≤ d → n ≤ 100000 - 100 * sz d → (L.length : Int) ≤ 10000 - 10 * sz d → KindsOn c L n v H0 H → T Try.prog 62 [.ptr c 0, .int .i64 deep, .bool any, v] H (KindsAt c L (sz d) n H0) := by
  intro d
  induction d using Nat.strongRecOn with
  | _ d ih =>
  intro deep n L v H hd5 hd hn hL hon
  have hz := sz_pos d
  have hzf := sz_few hd5
  refine T.by tabOk Try.func62 (by kernel_rfl) rfl _ (by simp [Try.f62]) H _ ?_
  have hlen := hon.own.row.len 3
  simp only [ints_length] at hlen
  simp [-W_seq, Try.f62]
  rw [W_seq]
  simp [-W_seq]
  rw [W_seq]
  refine W_cut (fun ts K => (ts 0 = .ptr c 0 ∧ ts 1 = .int .i64 deep ∧ ts 2 = .bool any ∧ ts 3 = v) ∧ KindsOn c L (n + 2) v H0 K) ?_ ?_
  · cases any with
    | false =>
      simp [tab]
      exact hon.more (by omega)
    | true =>
      by_cases hl0 : 0 < L.length
      · simp [tab, hlen, hl0]
        refine (one_ok c 3 n H (by omega) hon.cur).mono fun r K ⟨⟨y, e1⟩, c1, m1⟩ => ?_
        subst e1
        have hon1 := hon.go m1 c1
        cases y with
        | false =>
          simp [tab]
          exact hon1
        | true =>
          obtain ⟨u, K', a1, a2⟩ := hon1.push 0 (by omega)
          simp [tab, buildSliceA, zerosA, fillA, over, a1]
          exact a2.leaf (by omega) hz
      · simp [tab, hlen, hl0]
        exact hon.more (by omega)
  clear hon
  rintro ts K ⟨hts, hon⟩
  simp only [post_sq]
  rw [W_seq]
  have leaf : ∀ (K : Hp), KindsOn c L (n + 4) v H0 K → True := fun _ _ => trivial
  refine W_cut (fun ts K => (0 < deep ∧ ts 0 = .ptr c 0 ∧ ts 1 = .int .i64 deep ∧ ts 2 = .bool any ∧ ts 3 = v) ∧ KindsOn c L (n + 4) v H0 K) ?_ ?_
  · by_cases hdp : deep ≤ 0
    · simp [hts, tab, hdp]
      refine (pick_ok c 2 _ K (by omega) hon.cur).mono fun r K1 ⟨⟨x, e1, x0, x1⟩, c1, m1⟩ => ?_
      subst e1
      have hw := wrap64 (x := 1 + x) (by omega) (by omega)
      obtain ⟨u, K', a1, a2⟩ := (hon.go m1 c1).push (1 + x) (by omega)
      simp [hts, tab, hw, buildSliceA, zerosA, fillA, over, a1]
      exact a2.leaf (by omega) hz
    · simp [hts, tab, hdp]
      refine (one_ok c 4 _ K (by omega) hon.cur).mono fun r K1 ⟨⟨y, e1⟩, c1, m1⟩ => ?_
      subst e1
      have hon1 := hon.go m1 c1
      cases y with
      | false =>
        simp [hts, tab]
        exact ⟨by omega, hon1.more (by omega)⟩
      | true =>
        simp [hts, tab]
        refine (pick_ok c 2 _ K1 (by omega) c1).mono fun r K2 ⟨⟨x, e1, x0, x1⟩, c2, m2⟩ => ?_
        subst e1
        have hw := wrap64 (x := 1 + x) (by omega) (by omega)
        obtain ⟨u, K', a1, a2⟩ := (hon1.go m2 c2).push (1 + x) (by omega)
        simp [hts, tab, hw, buildSliceA, zerosA, fillA, over, a1]
        exact a2.leaf (by omega) hz
  clear hon hts leaf
  rintro ts K ⟨⟨hdp, hts⟩, hon⟩
  simp only [post_sq]
  obtain ⟨d', rfl⟩ : ∃ d', d = d' + 1 := ⟨d - 1, by omega⟩
  have hsz : sz (d' + 1) = 2 * sz d' + 1 := rfl
  have hwd := wrap64 (x := deep - 1) (by omega) (by omega)
  rw [W_seq]
  refine W_cut (fun ts K => ∃ (u : AV) (k : Int), (ts 0 = .ptr c 0 ∧ ts 1 = .int .i64 deep ∧ ts 2 = .bool any ∧ ts 3 = u) ∧ KindsOn c (L ++ [k]) (n + 6) u H0 K) ?_ ?_
  · simp [hts, tab]
    refine (pick_ok c 4 _ K (by omega) hon.cur).mono fun r K1 ⟨⟨x, e1, x0, x1⟩, c1, m1⟩ => ?_
    subst e1
    have hon1 := (hon.go m1 c1).more (m := n + 6) (by omega)
    by_cases h0 : x = 0
    · subst h0
      obtain ⟨u, K', a1, a2⟩ := hon1.push 5 (by omega)
      simp [hts, tab, hwd, buildSliceA, zerosA, fillA, over, a1]
      refine (ih d' (by omega) (deep - 1) (n + 6) (L ++ [5]) u K' (by omega) (by omega) (by omega) (by simp; omega) a2).mono fun r K2 ⟨⟨L', b1, b2, b3⟩, b4, b5, b6⟩ => ?_
      simp [tab]
      simp at b2 b3
      exact ⟨⟨L', b1, by omega, by omega⟩, b4, b5.mono (by omega), b6⟩
    by_cases h1 : x = 1
    · subst h1
      obtain ⟨u, K', a1, a2⟩ := hon1.push 4 (by omega)
      simp [hts, tab, buildSliceA, zerosA, fillA, over, a1]
      exact ⟨4, a2⟩
    · obtain ⟨u, K', a1, a2⟩ := hon1.push 3 (by omega)
      simp [hts, tab, h0, h1, buildSliceA, zerosA, fillA, over, a1]
      exact ⟨3, a2⟩
  clear hon hts
  rintro ts K ⟨u, k, hts, hon⟩
  simp only [post_sq, W_seq]
  simp [hts, tab, hwd]
  refine (ih d' (by omega) (deep - 1) (n + 6) (L ++ [k]) u K (by omega) (by omega) (by omega) (by simp; omega) hon).mono fun r K2 ⟨⟨L', b1, b2, b3⟩, b4, b5, b6⟩ => ?_
  simp at b2 b3
  simp [hts, tab, hwd]
  refine (ih d' (by omega) (deep - 1) (n + 6 + 6 * sz d') L' r K2 (by omega) (by omega) (by omega) (by omega) ⟨b1, b4, hon.low, b5, b6⟩).mono fun r K3 ⟨⟨L2, d1, d2, d3⟩, d4, d5, d6⟩ => ?_
  simp [hts, tab]
  exact ⟨⟨L2, d1, by omega, by omega⟩, d4, d5.mono (by omega), d6⟩
theorem kinds_new {c : Nat} {n : Int} {H : Hp} (hc : Cur H c n) : KindsOn c [] n .nil H H := ⟨by simpa [ints] using Own.nil 1 H, Fresh.nil _, hc.lt, hc, Keeps.refl _ _⟩
set_option maxRecDepth 100000 in
theorem opTree_ok (c : Nat) (n : Int) (H : Hp) (hn : n ≤ 50000) (hc : Cur H c n) : T Try.prog 60 [.ptr c 0] H (fun r K => (∃ L, Own 1 K r (ints L) ∧ L.length ≤ 100) ∧ Fresh H.length r ∧ Cur K c (n + 1000) ∧ Moves c H K) := by
  refine T.by tabOk Try.func60 (by kernel_rfl) rfl _ (by simp [Try.f60]) H _ ?_
  have hs5 : sz 5 = 63 := rfl
  simp [-W_seq, Try.f60]
  rw [W_seq]
  simp [-W_seq, tab]
  rw [W_seq]
  simp [-W_seq, tab]
  refine (pick_ok c 5 n H (by omega) hc).mono fun r K ⟨⟨x, e1, x0, x1⟩, c1, m1⟩ => ?_
  subst e1
  have hlow := hc.lt
  simp [-W_seq, tab]
  have on1 : KindsOn c [] (n + 2) .nil H K := (kinds_new hc).go m1 c1
  refine (kinds_ok c false H 5 x (n + 2) [] .nil K (by omega) (by omega) (by omega) (by simp; omega) on1).mono fun r K1 ⟨⟨L, b1, b2, b3⟩, b4, b5, b6⟩ => ?_
  rw [hs5] at b3 b5
  simp at b2 b3
  have hlen := b1.row.len 3
  simp only [ints_length] at hlen
  simp [-W_seq, tab]
  rw [W_seq]
  refine W_cut (fun ts K => (ts 0 = .ptr c 0) ∧ ∃ L, Own 1 K (ts 3) (ints L) ∧ 1 ≤ L.length ∧ L.length ≤ 63 ∧ Fresh H.length (ts 3) ∧ Cur K c (n + 900) ∧ Moves c H K) ?_ ?_
  · by_cases h40 : (40 : Int) < L.length
    · simp [tab, hlen, h40]
      refine (one_ok c 4 _ K1 (by omega) b5).mono fun y K2 ⟨⟨z, e1⟩, c2, m2⟩ => ?_
      subst e1
      have M2 := b6.trans m2
      cases z with
      | true =>
        simp [tab]
        exact ⟨L, b1.keeps m2 fun b hb e => by have := b4 b hb; omega, by omega, by omega, b4, c2.mono (by omega), M2⟩
      | false =>
        simp [tab]
        have hs2 : sz 2 = 7 := rfl
        refine (kinds_ok c false H 2 2 _ [] .nil K2 (by omega) (by omega) (by omega) (by simp; omega) ⟨by simpa [ints] using Own.nil 1 K2, Fresh.nil _, hlow, c2, M2⟩).mono fun r K3 ⟨⟨L2, d1, d2, d3⟩, d4, d5, d6⟩ => ?_
        rw [hs2] at d3 d5
        simp at d2 d3
        simp [tab]
        exact ⟨L2, d1, by omega, by omega, d4, d5.mono (by omega), d6⟩
    · simp [tab, hlen, h40]
      exact ⟨L, b1, by omega, by omega, b4, b5.mono (by omega), b6⟩
  rintro ts K2 ⟨hts, L2, d1, d2, d3, d4, d5, d6⟩
  generalize hu : ts 3 = u at *
  simp only [post_sq, W_seq]
  have hlen2 := d1.row.len 3
  simp only [ints_length] at hlen2
  simp [hts, hu, tab]
  refine (one_ok c 30 _ K2 (by omega) d5).mono fun y K3 ⟨⟨z, e1⟩, c3, m3⟩ => ?_
  subst e1
  have hkeep : ∀ b, u.at b → ¬ b = c := fun b hb e => by have := d4 b hb; omega
  have o3 := d1.keeps m3 hkeep
  have M3 := d6.trans m3
  cases z with
  | false =>
    simp [hts, hu, tab]
    exact ⟨⟨L2, o3, by omega⟩, d4, c3.mono (by omega), M3⟩
  | true =>
    simp [hts, hu, tab, hlen2]
    refine (pick_ok c L2.length _ K3 (by omega) c3).mono fun r K4 ⟨⟨x, e1, x0, x1⟩, c4, m4⟩ => ?_
    subst e1
    simp [hts, hu, tab]
    refine (pick_ok c 7 _ K4 (by omega) c4).mono fun r K5 ⟨⟨y, e1, y0, y1⟩, c5, m5⟩ => ?_
    subst e1
    have o5 := (o3.keeps m4 hkeep).keeps m5 hkeep
    obtain ⟨b, q1, K6, q2, q3, q4, q5⟩ := o5.putW (i := x) x0 (by omega) y
    simp [hts, hu, tab, q1, q2]
    exact ⟨⟨_, q3, by simp; omega⟩, d4, (c5.keeps q4 fun b hb => by have := d4 b hb; omega).mono (by omega), Moves.up ((M3.trans m4).trans m5) q4 d4⟩
def DFits (H : Hp) (r : AV) (K : Hp) : Prop := (∃ (t ks : List Int) (tv kv : AV) (i c : Int), r = .tup [tv, .int .i64 i, .agg [kv, .int .i64 c]] ∧ Row 1 K tv (ints t) ∧ t.length ≤ 100 ∧ Row 1 K kv (ints ks) ∧ ks.length ≤ 100) ∧ Fr H K
set_option maxRecDepth 100000 in
theorem drawFits_ok (v : AV) (H : Hp) (hv : Bytes H v) : T Try.prog 35 [v] H (DFits H) := by
  refine T.by tabOk Try.func35 (by kernel_rfl) rfl _ (by simp [Try.f35]) H _ ?_
  have h1 := hv.one
  have h2 := cells_of_one h1
  obtain ⟨H1, hH1, f1⟩ : ∃ H1, H ++ [some ⟨2, true, [.nil, .int .i64 0]⟩] = H1 ∧ Fr H H1 := ⟨_, rfl, Fr.app _ _⟩
  have hl1 : H1.length = H.length + 1 := by rw [← hH1]; simp
  have hc2 := cur_new (hv.fr f1)
  obtain ⟨H2, hH2, f2⟩ : ∃ H2, H1 ++ [some ⟨3, true, [v, .int .i64 0, .int .u64 0]⟩] = H2 ∧ Fr H1 H2 := ⟨_, rfl, Fr.app _ _⟩
  rw [hH2, hl1] at hc2
  have hcell : H2[H.length]? = some (some ⟨2, true, [.nil, .int .i64 0]⟩) := by rw [← hH2, ← hH1]; simp
  have hl2 : H2.length = H.length + 2 := by rw [← hH2]; simp [hl1]
  have hH2' : H ++ [some ⟨2, true, [.nil, .int .i64 0]⟩, some ⟨3, true, [v, .int .i64 0, .int .u64 0]⟩] = H2 := by rw [← hH2, ← hH1]; simp
  have f12 := f1.trans f2
  simp [Try.f35, tab, fillA, over, h1, h2]
  rw [hH2']
  refine (opTree_ok _ 0 H2 (by omega) hc2).mono fun tv K ⟨⟨t, a1, a2⟩, a3, c1, m1⟩ => ?_
  have hlen := a1.row.len 3
  simp only [ints_length] at hlen
  have hwl := wrap64 (x := (t.length : Int) + 1) (by omega) (by omega)
  have hk : ∀ b, tv.at b → ¬ b = H.length + 1 := fun b hb e => by have := a3 b hb; omega
  simp [tab, hlen, hwl]
  refine (pick_ok _ _ _ K (by omega) c1).mono fun r K1 ⟨⟨x1, e1, x0, x2⟩, c2, m2⟩ => ?_
  subst e1
  simp [tab]
  refine (pick_ok _ 2 _ K1 (by omega) c2).mono fun r K2 ⟨⟨y1, e1, y0, y2⟩, c3, m3⟩ => ?_
  subst e1
  simp [tab]
  refine (pick_ok _ 2 _ K2 (by omega) c3).mono fun r K3 ⟨⟨z1, e1, z0, z2⟩, c4, m4⟩ => ?_
  subst e1
  simp [tab]
  have a5 := ((a1.keeps m2 hk).keeps m3 hk).keeps m4 hk
  have M4 := ((m1.trans m2).trans m3).trans m4
  have hs2 : sz 2 = 7 := rfl
  refine (kinds_ok _ true K3 2 2 _ [] .nil K3 (by omega) (by omega) (by omega) (by simp; omega) (kinds_new c4)).mono fun kv K4 ⟨⟨ks, b1, b2, b3⟩, b4, c5, m5⟩ => ?_
  rw [hs2] at b3 c5
  simp at b2 b3
  simp [tab]
  refine (pick_ok _ 4 _ K4 (by omega) c5).mono fun r K5 ⟨⟨w1, e1, w0, w2⟩, c6, m6⟩ => ?_
  subst e1
  have M6 := (M4.trans m5).trans m6
  have hc5 := M6.2 _ _ hcell fun e => by omega
  have o6 := (a5.keeps m5 hk).keeps m6 hk
  have hlK := M4.1
  have hkk : ∀ b, kv.at b → ¬ b = H.length + 1 := fun b hb e => by have := b4 b hb; omega
  have k6 := b1.keeps m6 hkk
  have kv1 := k6.row.one
  have kv2 := cells_of_one kv1
  obtain ⟨K6, s1, s2, s3, s4⟩ := store_at hc5 rfl (ty := tP) (o := 0) (v := .agg [kv, .int .i64 w1]) rfl (by simp [fitsA, kv1]) (by simp)
  simp [over] at s2
  have hld : loadA tP K6 (.ptr H.length 0) = some (.agg [kv, .int .i64 w1]) := by simp [loadA, s2]
  have hlt := o6.lt
  have hlk := k6.lt
  simp [tab, kv1, kv2, fillA, over, s1, hld]
  refine ⟨⟨t, ks, tv, kv, _, w1, rfl, (o6.keeps s3 fun b hb e => by have := a3 b hb; omega).row, by omega, (k6.keeps s3 fun b hb e => by have := b4 b hb; omega).row, by omega⟩, ?_⟩
  exact ⟨Nat.le_trans f12.1 (Nat.le_trans M6.1 s3.1), fun b blk hb _ => by
    have hbl := lt_of_get hb
    exact s3.2 b blk (M6.2 b blk (f12.2 b blk hb id) fun e => by omega) fun e => by omega⟩
end Go.Proofs.Ytmmohcledhenfaa.Am
