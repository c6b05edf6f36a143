/- Moves drawn, and the words of the places. No condition. -/
import Derived.Test.YthihphgfblonoaaLLaySpec
import Derived.Test.YthihphgfblonoaaLBytes
namespace Go.Proofs.Ythihphgfblonoaa.Am
open Go Go.RowKit
set_option linter.unusedSimpArgs false
set_option linter.unusedVariables false

theorem Moves.of {c : Nat} {H K : Hp} (h : Fr H K) : Moves c H K := Fr.keeps h
theorem Moves.up {c : Nat} {H K K' : Hp} {X : Nat → Prop} (h : Moves c H K) (k : Keeps X K K') (hX : ∀ b, X b → H.length ≤ b) : Moves c H K' := ⟨Nat.le_trans h.1 k.1, fun b blk hb hn => k.2 b blk (h.2 b blk hb hn) fun e => by have := hX b e; have := lt_of_get hb; omega⟩
theorem Moves.free {H K : Hp} {x : Option Blk} (h : Moves H.length (H ++ [x]) K) : Fr H K := Fr.then (Fr.app H [x]) h fun b hb => by omega
theorem l1Has_ok (l : List Int) (u : AV) (n : Int) (H : Hp) (hm : l.length ≤ 1048576) (hv : Row 1 H u (ints l)) : T Try.prog 77 [u, .int .i64 n] H (fun r K => r = .bool (decide (n ∈ l)) ∧ K = H) := by
  refine T.by tabOk Try.func77 (by kernel_rfl) rfl _ (by simp [Try.f77]) H _ ?_
  have hlen := hv.len 3
  simp [Try.f77, tab, hlen]
  refine W_loop _ fun I hI => ?_
  have key : ∀ (r p : List Int) (ts : TS), l = p ++ r → n ∉ p → (ts 1 = .int .i64 n ∧ ts 7 = u ∧ ts 8 = .int .i64 l.length ∧ ts 9 = .int .i64 p.length) → I ts H := by
    intro r
    induction r with
    | nil =>
      intro p ts e hn hts
      apply hI
      simp at e
      subst e
      simp [hts, tab, hn]
    | cons a r ih =>
      intro p ts e hn hts
      apply hI
      have hlt : (p.length : Int) < l.length := by simp [e]; omega
      obtain ⟨b, q, _, e1, e2⟩ := Row.get1 hv (tab := tab) (e := 3) (ety := tI) rfl rfl rfl (i := p.length) (a := a) (by simp [e]) .i64
      have hw := wrap64 (x := p.length + 1) (by omega) (by omega)
      by_cases ha : a = n
      · subst ha
        simp [hts, tab, hlt, e1, e2]
        simp [e]
      · simp [hts, tab, hlt, e1, e2, ha, hw]
        exact ih (p ++ [a]) _ (by simp [e]) (by simp [hn]; exact fun h => ha h.symm) (by simp [hts])
  exact key l [] _ rfl (by simp) (by simp)
set_option maxHeartbeats 1000000 in
set_option maxRecDepth 100000 in
theorem drawMoves_ok (c : Nat) (n : Int) (H : Hp) (hn : n ≤ 50000) (hc : Cur H c n) : T Try.prog 62 [.ptr c 0] H (fun r K => (∃ l, Own 2 K r (moves l) ∧ l.length ≤ 8) ∧ Fresh H.length r ∧ Cur K c (n + 100) ∧ Moves c H K) := by
  refine T.by tabOk Try.func62 (by kernel_rfl) rfl _ (by simp [Try.f62]) H _ ?_
  have hcl := hc.lt
  simp [-W_block, Try.f62, tab]
  refine (pick_ok c 8 n H (by omega) hc).mono fun r K0 ⟨⟨x, e1, x0, x1⟩, c0, m0⟩ => ?_
  subst e1
  obtain ⟨d0, rfl⟩ := Int.eq_ofNat_of_zero_le x0
  simp [-W_block, tab]
  refine W_cut (fun ts K => ts 0 = .ptr c 0 ∧ ∃ l, Own 2 K (ts 3) (moves l) ∧ l.length ≤ 7 ∧ Fresh H.length (ts 3) ∧ Cur K c (n + 50) ∧ Moves c H K) ?_ ?_
  · simp only [W_block]
    refine W_loop _ fun I hI => ?_
    have key : ∀ (d : Nat) (l : List Move) (to : List Int) (ts : TS) (K : Hp) (u v : AV), d + l.length ≤ 7 → to.length ≤ 7 → d + to.length ≤ 7 → Own 2 K u (moves l) → Own 1 K v (ints to) → (∀ b, u.at b → ¬ v.at b) → Fresh H.length u → Fresh H.length v → Cur K c (n + 2 + 6 * (7 - d : Nat)) → Moves c H K → (ts 0 = .ptr c 0 ∧ ts 3 = u ∧ ts 4 = v ∧ ts 5 = .int .i64 d) → I ts K := by
      intro d
      induction d with
      | zero =>
        intro l to ts K u v h1 h2 h3 ho hv hne hfu hfv hcc hM hts
        apply hI
        simp [hts, tab]
        exact ⟨l, ho, by omega, hfu, hcc.mono (by omega), hM⟩
      | succ d ih =>
        intro l to ts K u v h1 h2 h3 ho hv hne hfu hfv hcc hM hts
        apply hI
        have hpos : (0 : Int) < (d : Int) + 1 := by omega
        have hwd := wrap64 (x := (d : Int)) (by omega) (by omega)
        simp [hts, tab, hpos]
        refine (pick_ok c 6 _ K (by omega) hcc).mono fun r K1 ⟨⟨a, e1, a0, a1⟩, c1, m1⟩ => ?_
        subst e1
        simp [hts, tab]
        refine (pick_ok c 6 _ K1 (by omega) c1).mono fun r K2 ⟨⟨b, e1, b0, b1⟩, c2, m2⟩ => ?_
        subst e1
        have M2 := (hM.trans m1).trans m2
        have hku : ∀ x, u.at x → ¬ x = c := fun x hx e => by have := hfu x hx; omega
        have hkv : ∀ x, v.at x → ¬ x = c := fun x hx e => by have := hfv x hx; omega
        obtain ⟨K3, hK3, f3⟩ : ∃ K3, K2 ++ [some ⟨2, true, [.int .i64 a, .int .i64 b]⟩] = K3 ∧ Fr K2 K3 := ⟨_, rfl, Fr.app _ _⟩
        have hb3 : K3[K2.length]? = some (some ⟨2, true, [.int .i64 a, .int .i64 b]⟩) := by rw [← hK3]; simp
        have o3 := ((ho.keeps m1 hku).keeps m2 hku).fr f3
        have v3 := ((hv.keeps m1 hkv).keeps m2 hkv).fr f3
        have c3 := c2.fr f3
        have M3 : Moves c H K3 := M2.trans (Moves.of f3)
        have l1 : loadA tI K3 (.ptr K2.length 1) = some (.int .i64 b) := load_at hb3 rfl rfl rfl
        have hl2 := M2.1
        have h7 : ((7 - d : Nat) : Int) = ((7 - (d + 1) : Nat) : Int) + 1 := by omega
        simp (maxDischargeDepth := 9) [hts, tab, fillA, over, storeB, hK3, l1]
        refine (l1Has_ok to v b K3 (by omega) v3.row).mono fun y K' ⟨y1, y2⟩ => ?_
        subst y1 y2
        -- the move and its end are put behind
        have put : ∀ (K4 : Hp) (m : Int), Moves c K' K4 → Cur K4 c m → m ≤ n + 2 + 6 * (7 - d : Nat) → ∃ u1 K5 v1 K6, loadA tM K4 (.ptr K2.length 0) = some (.agg [.int .i64 a, .int .i64 b]) ∧ appendA 2 16 (K4 ++ [some ⟨2, true, [.int .i64 a, .int .i64 b]⟩]) u (.sl K4.length 0 1) = some (u1, K5) ∧ loadA tI K5 (.ptr K2.length 1) = some (.int .i64 b) ∧ appendA 1 8 (K5 ++ [some ⟨1, true, [.int .i64 b]⟩]) v (.sl K5.length 0 1) = some (v1, K6) ∧ ∀ ts' : TS, (ts' 0 = .ptr c 0 ∧ ts' 3 = u1 ∧ ts' 4 = v1 ∧ ts' 5 = .int .i64 d) → I ts' K6 := by
          intro K4 m m4 c4 hm4
          have o4 := o3.keeps m4 hku
          have v4 := v3.keeps m4 hkv
          have hb4 := m4.2 _ _ hb3 fun e => by omega
          have M4 := M3.trans m4
          have hl4 := M4.1
          obtain ⟨u1, K5, p1, p2, p3, p4⟩ := o4.pushM ⟨a, b⟩ (by omega)
          have hb5 := p3.2 _ _ hb4 fun e => by have := o3.lt _ e; have := ho.lt _ e; have := m1.1; have := m2.1; omega
          have v5 := v4.keeps p3 fun x hx hy => hne x hy hx
          have u1n : ∀ x, u1.at x → u.at x ∨ K4.length ≤ x := p4
          have M5 : Moves c H K5 := Moves.up M4 p3 hfu
          obtain ⟨v1, K6, q1, q2, q3, q4⟩ := v5.push b (by omega)
          have o6 := p2.keeps q3 fun x hx hy => by
            rcases u1n x hx with h | h
            · exact hne x h hy
            · have := v4.lt x hy; omega
          refine ⟨u1, K5, v1, K6, by simp [loadA, hb4], p1, load_at hb5 rfl rfl rfl, q1, fun ts' hts' => ih (l ++ [⟨a, b⟩]) (to ++ [b]) ts' K6 u1 v1 (by simp; omega) (by simp; omega) (by simp; omega) o6 q2 (fun x hx hy => ?_) (fun x hx => (u1n x hx).elim (hfu x) fun h => by omega) (fun x hx => (q4 x hx).elim (hfv x) fun h => by have := M5.1; omega) (((c4.keeps p3 fun x hx => by have := hfu x hx; omega).keeps q3 fun x hx => by have := hfv x hx; omega).mono hm4) (Moves.up M5 q3 hfv) hts'⟩
          rcases q4 x hy with h | h
          · rcases u1n x hx with h' | h'
            · exact hne x h' h
            · have := v4.lt x h; omega
          · have := p2.lt x hx; omega
        by_cases hin : b ∈ to
        · simp (maxDischargeDepth := 9) [hts, tab, hin]
          refine (one_ok c 40 _ K' (by omega) c3).mono fun r K4 ⟨⟨z, e1⟩, c4, m4⟩ => ?_
          subst e1
          cases z with
          | false =>
            simp [hts, tab, hwd]
            exact ih l to _ K4 u v (by omega) h2 (by omega) (o3.keeps m4 hku) (v3.keeps m4 hkv) hne hfu hfv (c4.mono (by omega)) (M3.trans m4) (by simp [hts])
          | true =>
            obtain ⟨u1, K5, v1, K6, p1, p2, p3, p4, p5⟩ := put K4 _ m4 c4 (by omega)
            simp (maxDischargeDepth := 9) [hts, tab, p1, buildSliceA, zerosA, fillA, over, p2, p3, p4, hwd]
            exact p5 _ (by simp [hts])
        · obtain ⟨u1, K5, v1, K6, p1, p2, p3, p4, p5⟩ := put K' _ (Keeps.refl _ _) c3 (by omega)
          simp (maxDischargeDepth := 9) [hts, tab, hin, p1, buildSliceA, zerosA, fillA, over, p2, p3, p4, hwd]
          exact p5 _ (by simp [hts])
    exact key d0 [] [] _ K0 .nil .nil (by simp; omega) (by simp) (by simp; omega) (by simpa [moves] using Own.nil 2 K0) (by simpa [ints] using Own.nil 1 K0) (by intro b h; exact h.elim) (Fresh.nil _) (Fresh.nil _) (c0.mono (by omega)) m0 (by simp)
  rintro ts K ⟨hts, l, ho, hl, hf, hcc, hM⟩
  generalize hu : ts 3 = u at *
  simp only [post_sq]
  rw [W_seq]
  refine W_cut (fun ts K => ts 0 = .ptr c 0 ∧ ∃ l, Own 2 K (ts 3) (moves l) ∧ l.length ≤ 8 ∧ Fresh H.length (ts 3) ∧ Cur K c (n + 60) ∧ Moves c H K) ?_ ?_
  · simp [hts, hu, tab]
    refine (one_ok c 3 _ K (by omega) hcc).mono fun r K1 ⟨⟨z, e1⟩, c1, m1⟩ => ?_
    subst e1
    have M1 := hM.trans m1
    cases z with
    | false =>
      simp [hts, hu, tab]
      exact ⟨l, ho.keeps m1 fun b hb e => by have := hf b hb; omega, by omega, hf, c1.mono (by omega), M1⟩
    | true =>
      simp [hts, hu, tab]
      refine (pick_ok c 5 _ K1 (by omega) c1).mono fun r K2 ⟨⟨x, e1, x0, x1⟩, c2, m2⟩ => ?_
      subst e1
      obtain ⟨d, rfl⟩ := Int.eq_ofNat_of_zero_le x0
      have hw := wrap64 (x := 2 + (d : Int)) (by omega) (by omega)
      have M2 := M1.trans m2
      simp [-W_block, hts, hu, tab, hw]
      refine W_cut (fun ts K => (ts 0 = .ptr c 0 ∧ ts 7 = .int .i64 (2 + d)) ∧ ∃ l, Own 2 K (ts 3) (moves l) ∧ l.length ≤ 7 ∧ Fresh H.length (ts 3) ∧ Cur K c (n + 54) ∧ Moves c H K) ?_ ?_
      · simp only [W_block]
        refine W_loop _ fun I hI => ?_
        have key : ∀ (m k : Nat) (l : List Move) (ts : TS) (K : Hp) (u : AV), k + m = 2 + d → l.length ≤ k → Own 2 K u (moves l) → Fresh H.length u → Cur K c (n + 54) → Moves c H K → (ts 0 = .ptr c 0 ∧ ts 3 = u ∧ ts 7 = .int .i64 (2 + d) ∧ ts 8 = .int .i64 k) → I ts K := by
          intro m
          induction m with
          | zero =>
            intro k l ts K u e hl ho hf hcc hM hts
            apply hI
            have hno : ¬ (k : Int) < 2 + d := by omega
            simp [hts, tab, hno]
            exact ⟨l, ho, by omega, hf, hcc, hM⟩
          | succ m ih =>
            intro k l ts K u e hl ho hf hcc hM hts
            apply hI
            have hlt : (k : Int) < 2 + d := by omega
            have hwk := wrap64 (x := (k : Int) + 1) (by omega) (by omega)
            have hne : ¬ (2 + (d : Int)) = 0 := by omega
            obtain ⟨u1, K5, p1, p2, p3, p4⟩ := ho.pushM ⟨k, ((k : Int) + 1).tmod (2 + d)⟩ (by omega)
            simp (maxDischargeDepth := 9) [hts, tab, hlt, hwk, hne, buildSliceA, zerosA, fillA, over, p1]
            exact ih (k + 1) _ _ K5 u1 (by omega) (by simp; omega) p2 (fun x hx => (p4 x hx).elim (hf x) fun h => Nat.le_trans hM.1 h) (hcc.keeps p3 fun x hx => by have := hf x hx; omega) (Moves.up hM p3 hf) (by simp [hts])
        exact key (2 + d) 0 [] _ K2 .nil (by omega) (by simp) (by simpa [moves] using Own.nil 2 K2) (Fresh.nil _) (c2.mono (by omega)) M2 (by simp [hts])
      clear hts hu
      rintro ts K3 ⟨hts, l2, o3, hl3, hf3, c3, M3⟩
      generalize hu : ts 3 = u at *
      simp only [post_sq, W_seq]
      simp [hts, hu, tab]
      refine (pick_ok c _ _ K3 (by omega) c3).mono fun r K4 ⟨⟨y, e1, y0, y1⟩, c4, m4⟩ => ?_
      subst e1
      have o4 := o3.keeps m4 fun b hb e => by have := hf3 b hb; omega
      have M4 := M3.trans m4
      obtain ⟨u1, K5, p1, p2, p3, p4⟩ := o4.pushM ⟨y, 8⟩ (by omega)
      simp (maxDischargeDepth := 9) [hts, hu, tab, buildSliceA, zerosA, fillA, over, p1]
      exact ⟨_, p2, by simp; omega, fun x hx => (p4 x hx).elim (hf3 x) fun h => Nat.le_trans M4.1 h, (c4.keeps p3 fun x hx => by have := hf3 x hx; omega).mono (by omega), Moves.up M4 p3 hf3⟩
  clear hts hu
  rintro ts K1 ⟨hts, l1, o1, hl1, hf1, c1, M1⟩
  generalize hu : ts 3 = u at *
  simp only [post_sq, W_seq]
  have hlen := o1.row.len 25
  simp only [List.length_map] at hlen
  have hlen := o1.row.len
  simp only [List.length_map] at hlen
  by_cases h0 : 0 < l1.length
  · have h0' : (0 : Int) < l1.length := by omega
    simp [hts, hu, tab, hlen, h0]
    refine (one_ok c 30 _ K1 (by omega) c1).mono fun r K2 ⟨⟨z, e1⟩, c2, m2⟩ => ?_
    subst e1
    have o2 := o1.keeps m2 fun b hb e => by have := hf1 b hb; omega
    have M2 := M1.trans m2
    cases z with
    | false =>
      simp [hts, hu, tab]
      exact ⟨⟨l1, o2, by omega⟩, hf1, c2.mono (by omega), M2⟩
    | true =>
      have hrow := (Own.new (sz := 1) (K := K2) (es := ints [-1, 9, 10]) (ints_one _)).row
      rw [ints_flatten] at hrow
      simp [ints] at hrow
      obtain ⟨K3, hK3, f3⟩ : ∃ K3, K2 ++ [some ⟨1, true, [.int .i64 (-1), .int .i64 9, .int .i64 10]⟩] = K3 ∧ Fr K2 K3 := ⟨_, rfl, Fr.app _ _⟩
      rw [hK3] at hrow
      have hrow : Row 1 K3 (.sl K2.length 0 3) (ints [-1, 9, 10]) := by simpa [ints] using hrow
      have hcl2 := c2.lt
      simp [hts, hu, tab, buildSliceA, zerosA, fillA, over, hK3]
      refine (among_ok c [-1, 9, 10] _ _ K3 (by omega) (by simp) (by simp) (c2.fr f3) hrow (fun b hb => by cases hb; omega)).mono fun r K4 ⟨⟨y, e1, _⟩, c4, m4⟩ => ?_
      subst e1
      have o4 := (o2.fr f3).keeps m4 fun b hb e => by have := hf1 b hb; omega
      have M4 := (M2.trans (Moves.of f3)).trans m4
      obtain ⟨b, hb, f1, f2⟩ := o4.store (tab := tab) (e := 51) (ety := tM) rfl (i := 0) (c := l1[0].enc) (by simp [h0]) .i64
      obtain ⟨K5, g3, g4, g5, g6⟩ := f2 tI 0 (.int .i64 y) rfl rfl (by decide)
      have e5 : (moves l1).set 0 (over l1[0].enc 0 (AV.int .i64 y).cells) = moves (l1.set 0 ⟨y, l1[0].to⟩) := by
        simp [moves, List.map_set, over, Move.enc]
      rw [e5] at g4
      simp at f1 g3
      simp [hts, hu, tab, f1, g3]
      exact ⟨⟨_, g4, by simp; omega⟩, hf1, (c4.keeps g5 fun b hb => by have := hf1 b hb; omega).mono (by omega), Moves.up M4 g5 hf1⟩
  · simp [hts, hu, tab, hlen, h0]
    exact ⟨⟨l1, o1, by omega⟩, hf1, c1.mono (by omega), M1⟩
end Go.Proofs.Ythihphgfblonoaa.Am
