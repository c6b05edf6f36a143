/- Drawn tasks. No condition. -/
import Derived.Test.YtcadaadoodpnmaaLTasks
import Derived.Test.YtcadaadoodpnmaaLCur
namespace Go.Proofs.Ytcadaadoodpnmaa.Am
open Go Go.RowKit
set_option linter.unusedSimpArgs false
set_option linter.unusedVariables false

theorem Fresh.keeps {a : Nat} {v : AV} {K K' : Hp} (h : Keeps v.at K K') (hf : Fresh a v) {X : Nat → Prop} {H : Hp} (hK : Keeps X H K) (ha : a = H.length) : Keeps X H K' :=
  ⟨Nat.le_trans hK.1 h.1, fun b blk hb hn => h.2 b blk (hK.2 b blk hb hn) fun hx => by
    have h1 := hf b hx
    have h2 := lt_of_get hb
    omega⟩
theorem own_zero (K : Hp) : Own 1 (K ++ [some ⟨1, true, []⟩]) (.sl K.length 0 0) (ints []) := by
  have := Own.new (sz := 1) (K := K) (es := ints []) (ints_one _)
  simpa [ints] using this
set_option maxRecDepth 100000 in
theorem orderOf_ok (c m : Nat) (n : Int) (H : Hp) (hn : n ≤ 100000) (hm : m ≤ 1000) (hc : Cur H c n) : T Try.prog 66 [.ptr c 0, .int .i64 m] H (fun r K => (∃ L, Own 1 K r (ints L) ∧ L.length = m) ∧ Fresh H.length r ∧ Cur K c (n + 2 * m + 4) ∧ Moves c H K) := by
  refine T.by tabOk Try.func66 (by kernel_rfl) rfl _ (by simp [Try.f66]) H _ ?_
  have hcl := hc.lt
  simp [Try.f66]
  refine W_loop _ fun I hI => ?_
  have key : ∀ (d k : Nat) (ts : TS) (K : Hp) (u : AV) (L : List Int), k + d = m → L.length = k → Moves c H K → Fresh H.length u → Own 1 K u (ints L) → Cur K c n → (ts 0 = .ptr c 0 ∧ ts 1 = .int .i64 m ∧ ts 5 = u ∧ ts 6 = .nil ∧ ts 7 = .int .i64 k) → I ts K := by
    intro d
    induction d with
    | succ d ih =>
      intro k ts K u L e hl hK hf ho hcc hts
      apply hI
      have hlt : (k : Int) < m := by omega
      have hw := wrap64 (x := k + 1) (by omega) (by omega)
      obtain ⟨u', K', a1, a2, a3, a4⟩ := ho.push k (by omega)
      have hf' : Fresh H.length u' := fun b hb => (a4 b hb).elim (hf b) (fun h => Nat.le_trans hK.1 h)
      simp [hts, tab, hlt, buildSliceA, zerosA, a1, hw]
      exact ih (k + 1) _ _ u' (L ++ [(k : Int)]) (by omega) (by simp [hl]) (Fresh.keeps a3 hf hK rfl) hf' a2 (hcc.keeps a3 fun b hb => by have := hf b hb; omega) (by simp [hts])
    | zero =>
      intro k ts K u L e hl hK hf ho hcc hts
      apply hI
      obtain rfl : k = m := by omega
      simp [hts, tab]
      refine W_loop _ fun I2 hI2 => ?_
      have key2 : ∀ (j : Nat) (ts : TS) (K : Hp) (u w : AV) (L O : List Int), j ≤ k → L.length = j → O.length = k - j → Moves c H K → Fresh H.length u → Fresh H.length w → Own 1 K u (ints L) → Own 1 K w (ints O) → (∀ b, u.at b → ¬ w.at b) → Cur K c (n + 2 * (k - j)) → (ts 0 = .ptr c 0 ∧ ts 1 = .int .i64 k ∧ ts 5 = u ∧ ts 6 = w) → I2 ts K := by
        intro j
        induction j with
        | zero =>
          intro ts K u w L O hj hl hlo hK hf hg ho hp hne hcc hts
          apply hI2
          have hlen := ho.row.len 3
          have hlen : lenA (.slice 3) u = some (.int .i64 0) := by simpa [hl] using hlen
          have hcc' : Cur K c (n + 2 * k) := hcc.mono (by omega)
          by_cases hk0 : 0 < k
          case neg =>
            have : ¬ (0 : Int) < k := by omega
            simp [hts, tab, hlen, hk0]
            exact ⟨⟨O, hp, by omega⟩, hg, hcc'.mono (by omega), hK⟩
          have hk0' : (0 : Int) < k := by omega
          simp only [W_seq]
          simp [hts, tab, hlen, hk0]
          refine (one_ok c 30 _ K (by omega) hcc').mono fun r K1 ⟨⟨x, e1⟩, c1, m1⟩ => ?_
          subst e1
          have hp1 : Own 1 K1 w (ints O) := hp.keeps m1 fun b hb e => by have := hg b hb; omega
          cases x with
          | false =>
            simp [hts, tab]
            exact ⟨⟨O, hp1, by omega⟩, hg, c1.mono (by omega), hK.trans m1⟩
          | true =>
            have hw := wrap64 (x := k + 1) (by omega) (by omega)
            simp [hts, tab, hw]
            refine (pick_ok c (k + 1) _ K1 (by omega) c1).mono fun r K2 ⟨⟨y, e1, y0, y1⟩, c2, m2⟩ => ?_
            subst e1
            have hp2 : Own 1 K2 w (ints O) := hp1.keeps m2 fun b hb e => by have := hg b hb; omega
            obtain ⟨o0, O', rfl⟩ : ∃ o0 O', O = o0 :: O' := by
              cases O with
              | nil => simp at hlo; omega
              | cons a b => exact ⟨a, b, rfl⟩
            obtain ⟨b', hb', f1, f2⟩ := hp2.store (tab := tab) (e := 3) (ety := tI) rfl (i := 0) (c := [.int .i64 o0]) (ints_get rfl) .i64
            obtain ⟨K3, f3, f4, f5, f6⟩ := f2 tI 0 (.int .i64 y) rfl rfl (by decide)
            have e5 : (ints (o0 :: O')).set 0 (over [.int .i64 o0] 0 [.int .i64 y]) = ints (y :: O') := by simp [ints]
            simp only [cells_int, e5] at f4
            simp at f1 f3
            simp [hts, tab, f1, f3]
            exact ⟨⟨y :: O', f4, by simpa using hlo⟩, hg, (c2.keeps f5 fun b hb => by have := hg b hb; omega).mono (by omega), Fresh.keeps f5 hg ((hK.trans m1).trans m2) rfl⟩
        | succ j ih2 =>
          intro ts K u w L O hj hl hlo hK hf hg ho hp hne hcc hts
          apply hI2
          have hlen := ho.row.len 3
          have hlen : lenA (.slice 3) u = some (.int .i64 (j + 1 : Nat)) := by simpa [hl] using hlen
          have hjp : (0 : Int) < (j + 1 : Nat) := by omega
          have hlv := ho.row.live
          have hpos : (0 : Int) < (j : Int) + 1 := by omega
          simp [hts, tab, hlen, hpos]
          refine (pick_ok c (j + 1 : Nat) _ K (by omega) hcc).mono fun r K1 ⟨⟨x, e1, x0, x1⟩, c1, m1⟩ => ?_
          subst e1
          obtain ⟨i, rfl⟩ := Int.eq_ofNat_of_zero_le x0
          have hij : i < L.length := by omega
          obtain ⟨A, a, B, rfl, hA⟩ : ∃ A a B, L = A ++ a :: B ∧ A.length = i := ⟨L.take i, L[i], L.drop (i + 1), by rw [← List.drop_eq_getElem_cons hij, List.take_append_drop], by simp; omega⟩
          subst hA
          have hu1 : Own 1 K1 u (ints (A ++ a :: B)) := ho.keeps m1 fun b hb e => by have := hf b hb; omega
          have hp1 : Own 1 K1 w (ints O) := hp.keeps m1 fun b hb e => by have := hg b hb; omega
          obtain ⟨b1, q1, _, f1, f2⟩ := Row.get1 hu1.row (tab := tab) (e := 3) (ety := tI) rfl rfl rfl (i := A.length) (a := a) (by simp) .i64
          obtain ⟨w', K2, a1, a2, a3, a4⟩ := hp1.push a (by simp at hl; omega)
          have hu2 : Own 1 K2 u (ints (A ++ a :: B)) := hu1.keeps a3 hne
          have fw : Fresh H.length w' := fun b hb => (a4 b hb).elim (hg b) (fun h => by have := hK.1; have := m1.1; omega)
          have hK1 := hK.trans m1
          have hK2 : Moves c H K2 := Fresh.keeps a3 hg hK1 rfl
          have c2 : Cur K2 c (n + 2 * (k - (j + 1 : Nat)) + 2) := c1.keeps a3 fun b hb => by have := hg b hb; omega
          -- the rest of what is left
          have fB := Fr.app K2 [some ⟨1, true, []⟩]
          have hlvA := hu2.row.live
          have hu3 := hu2.fr fB
          obtain ⟨s1, p1, p2, p3⟩ := Row.cut (A := []) (B := A) (C := a :: B) (by simpa using hu3.row) none (some (.int .i64 A.length)) rfl (by simp [boundA])
          obtain ⟨v1, K4, d1, d2, d3, d4⟩ := (own_zero K2).join (es := []) p2 (by simp at hl ⊢; omega)
          have hv1 : ∀ b, v1.at b → K2.length ≤ b := fun b hb => (d4 b hb).elim (fun h => by cases h; omega) (fun h => by simp at h; omega)
          have f4 : Fr K2 K4 := Fr.then fB d3 fun b hb => by cases hb; omega
          have hu4 := hu2.fr f4
          have hlv4 := hu4.row.live
          obtain ⟨s2, p4, p5, p6⟩ := Row.cut (A := A ++ [a]) (B := B) (C := []) (by simpa using hu4.row) (some (.int .i64 (A.length + 1))) none (by simp [boundA]) (by simp [boundA])
          obtain ⟨v2, K5, g1, g2, g3, g4⟩ := d2.join (es := [] ++ A) p5 (by simp at hl ⊢; omega)
          have hv2 : ∀ b, v2.at b → K2.length ≤ b := fun b hb => (g4 b hb).elim (hv1 b) (fun h => Nat.le_trans f4.1 h)
          have f5 : Fr K2 K5 := Fr.then f4 g3 hv1
          have hw := wrap64 (x := A.length + 1) (by simp at hl; omega) (by simp at hl; omega)
          simp (maxDischargeDepth := 9) [hts, tab, f1, f2, buildSliceA, zerosA, a1]
          refine W_draw mixed (.look 1 (.look 2 (.look 3 (.look 5 (.look 6 (.look 7 (.look 8 (.act 0 [3, 8] (.act 4 [8] (.act 9 [] (.act 10 [] .done .stop) .stop) .stop) .stop)))))))) (by kernel_rfl) ?_
          have hlv5 := hu3.row.live
          have hlv6 := (hu2.fr f5).row.live
          simp (maxDischargeDepth := 9) [hts, tab, hlvA, hlv4, hlv5, hlv6, hw, p1, p4, d1, g1, buildSliceA, zerosA]
          have hfv2 : Fresh H.length v2 := fun b hb => by have := hv2 b hb; have := hK2.1; omega
          refine ih2 _ K5 v2 w' ([] ++ A ++ B) (O ++ [a]) (by omega) (by simp at hl ⊢; omega) (by simp; omega) (hK2.trans f5.keeps) hfv2 fw g2 (a2.fr f5) (fun b hb h => by have := hv2 b hb; have := a2.lt b h; omega) ((c2.fr f5).mono (by omega)) (by simp [hts])
      exact key2 k _ K u .nil L [] (Nat.le_refl _) hl (by simp) hK hf (Fresh.nil _) ho (by simpa [ints] using Own.nil 1 K) (fun _ _ h => h.elim) (hcc.mono (by omega)) (by simp [hts])
  exact key m 0 _ H .nil [] (by omega) rfl (Keeps.refl _ _) (Fresh.nil _) (by simpa [ints] using Own.nil 1 H) hc (by simp)
/-- Tasks that were made behind the memory's end a. -/
structure TNew (K : Hp) (a : Nat) (v : AV) (l : List Task) (us : List AV) : Prop where
  row : Own 2 K v (List.zipWith cellsOf l us)
  len : us.length = l.length
  inner : ∀ (i : Nat) (t : Task) (u : AV), l[i]? = some t → us[i]? = some u → Row 1 K u (ints t.after)
  fv : Fresh a v
  fu : ∀ u ∈ us, Fresh a u
  off : ∀ u ∈ us, ∀ b, u.at b → ¬ v.at b
theorem TNew.look {K : Hp} {a : Nat} {v : AV} {l : List Task} {us : List AV} (h : TNew K a v l us) : TRow K v l us := ⟨h.row.row, h.len, h.inner⟩
theorem TNew.keeps {X : Nat → Prop} {K K' : Hp} {a : Nat} {v : AV} {l : List Task} {us : List AV} (h : TNew K a v l us) (k : Keeps X K K') (hX : ∀ b, X b → b < a) : TNew K' a v l us :=
  ⟨h.row.keeps k fun b hb hx => by have := h.fv b hb; have := hX b hx; omega, h.len, fun i t u hi hu => (h.inner i t u hi hu).keeps k fun b hb hx => by have := h.fu u (List.mem_of_getElem? hu) b hb; have := hX b hx; omega, h.fv, h.fu, h.off⟩
theorem TNew.fr {K K' : Hp} {a : Nat} {v : AV} {l : List Task} {us : List AV} (h : TNew K a v l us) (k : Fr K K') : TNew K' a v l us := h.keeps k fun _ h => h.elim
abbrev tLI0 : Ty := ⟨.slice 3, 1, 24, [.nil], false⟩
set_option maxRecDepth 100000 in
theorem tasks_ok (c : Nat) (n : Int) (H : Hp) (hn : n ≤ 100000) (hc : Cur H c n) : T Try.prog 64 [.ptr c 0] H (fun r K => (∃ l, (∃ us, TNew K H.length r l us) ∧ l.length ≤ 13 ∧ ∀ t ∈ l, t.after.length ≤ 100) ∧ Cur K c (n + 200) ∧ Moves c H K) := by
  refine T.by tabOk Try.func64 (by kernel_rfl) rfl _ (by simp [Try.f64]) H _ ?_
  have hcl := hc.lt
  simp [Try.f64]
  refine (pick_ok c 8 n H (by omega) hc).mono fun r K0 ⟨⟨x, e1, x0, x1⟩, c0, m0⟩ => ?_
  subst e1
  simp
  refine (one_ok c 20 _ K0 (by omega) c0).mono fun r K1 ⟨⟨y, e1⟩, c1, m1⟩ => ?_
  subst e1
  simp only [After_eq, Rg_nil, post_sq, W_seq]
  refine W_cut (fun ts K => ts 0 = .ptr c 0 ∧ ts 3 = .nil ∧ (∃ x, ts 4 = .int .i64 x ∧ 0 ≤ x ∧ x ≤ 13) ∧ Cur K c (n + 6) ∧ Moves c H K) ?_ ?_
  · cases y with
    | false =>
      simp
      exact ⟨by omega, c1.mono (by omega), m0.trans m1⟩
    | true =>
      simp
      refine (pick_ok c 2 _ K1 (by omega) c1).mono fun r K2 ⟨⟨x, e1, x0, x1⟩, c2, m2⟩ => ?_
      subst e1
      have hw := wrap64 (x := 12 + x) (by omega) (by omega)
      simp [tab, hw]
      exact ⟨by omega, c2.mono (by omega), (m0.trans m1).trans m2⟩
  rintro ts K ⟨t0, t3, ⟨x, t4, x0, x1⟩, cc, hm⟩
  obtain ⟨m, rfl⟩ := Int.eq_ofNat_of_zero_le x0
  clear x0 c0 c1 m0 m1
  simp
  refine W_loop _ fun I hI => ?_
  have key : ∀ (d k : Nat) (ts : TS) (K : Hp) (v : AV) (l : List Task) (us : List AV), k + d = m → l.length = k → (∀ t ∈ l, t.after.length ≤ 100) → TNew K H.length v l us → Cur K c (n + 6 + 12 * k) → Moves c H K → (ts 0 = .ptr c 0 ∧ ts 3 = v ∧ ts 4 = .int .i64 m ∧ ts 5 = .int .i64 k) → I ts K := by
    intro d
    induction d with
    | zero =>
      intro k ts K v l us e hl ha hv hcc hK hts
      apply hI
      obtain rfl : k = m := by omega
      have hlen := hv.look.count 49
      by_cases hk0 : 0 < k
      case neg =>
        obtain rfl : k = 0 := by omega
        simp [hts, tab, hlen, hl]
        exact ⟨⟨l, ⟨us, hv⟩, by omega, ha⟩, hcc.mono (by omega), hK⟩
      simp [hts, tab, hlen, hl, hk0]
      refine (one_ok c 30 _ K (by omega) hcc).mono fun r K1 ⟨⟨x, e1⟩, c1, m1⟩ => ?_
      subst e1
      have hv1 := hv.keeps m1 fun b hb => by omega
      cases x with
      | false =>
        simp [hts, tab]
        exact ⟨⟨l, ⟨us, hv1⟩, by omega, ha⟩, c1.mono (by omega), hK.trans m1⟩
      | true =>
        have fB := Fr.app K1 [some ⟨1, true, [.int .i64 0, .int .i64 20, .int .i64 21]⟩]
        have hrow : Row 1 (K1 ++ [some ⟨1, true, [.int .i64 0, .int .i64 20, .int .i64 21]⟩]) (.sl K1.length 0 3) (ints [0, 20, 21]) := by
          have := (Own.new (sz := 1) (K := K1) (es := ints [0, 20, 21]) (ints_one _)).row
          simpa [ints] using this
        have hlt1 := c1.lt
        simp [hts, tab, buildSliceA, zerosA, fillA, over]
        refine (among_ok c [0, 20, 21] (.sl K1.length 0 3) _ _ (by omega) (by simp) (by simp) (c1.fr fB) hrow (fun b hb => by cases hb; omega)).mono fun r K2 ⟨⟨y, e1, _⟩, c2, m2⟩ => ?_
        subst e1
        have hv2 := (hv1.fr fB).keeps m2 fun b hb => by omega
        obtain ⟨t0, l', rfl⟩ : ∃ t0 l', l = t0 :: l' := by
          cases l with
          | nil => simp at hl; omega
          | cons a b => exact ⟨a, b, rfl⟩
        obtain ⟨u0, us', rfl⟩ : ∃ u0 us', us = u0 :: us' := by
          cases us with
          | nil => have := hv.len; simp at this
          | cons a b => exact ⟨a, b, rfl⟩
        obtain ⟨b', hb', f1, f2⟩ := hv2.row.store (tab := tab) (e := 49) (ety := tT) rfl (i := 0) (c := cellsOf t0 u0) rfl .i64
        obtain ⟨K3, f3, f4, f5, f6⟩ := f2 tI 0 (.int .i64 y) rfl rfl (by decide)
        simp at f1 f3
        have e5 : (List.zipWith cellsOf (t0 :: l') (u0 :: us')).set 0 (over (cellsOf t0 u0) 0 (AV.int .i64 y).cells) = List.zipWith cellsOf (⟨y, t0.after⟩ :: l') (u0 :: us') := by simp [cellsOf, over]
        rw [e5] at f4
        simp [hts, tab, f1, f3]
        refine ⟨⟨⟨y, t0.after⟩ :: l', ⟨u0 :: us', f4, by simpa using hv.len, fun i t u hi hu => ?_, hv.fv, hv.fu, hv.off⟩, by simp at hl ⊢; omega, fun t ht => ?_⟩, (c2.keeps f5 fun b hb => by have := hv.fv b hb; omega).mono (by omega), Fresh.keeps f5 hv.fv (((hK.trans m1).trans fB.keeps).trans m2) rfl⟩
        · have hx := fun b hb hx => hv.off u (List.mem_of_getElem? hu) b hb hx
          cases i with
          | zero =>
            simp at hi
            subst hi
            exact (hv2.inner 0 t0 u rfl hu).keeps f5 hx
          | succ i => exact (hv2.inner (i + 1) t u (by simpa using hi) hu).keeps f5 hx
        · rcases List.mem_cons.1 ht with rfl | ht
          · exact ha t0 (by simp)
          · exact ha t (by simp [ht])
    | succ d ih =>
      intro k ts K v l us e hl ha hv hcc hK hts
      apply hI
      have hlt : (k : Int) < m := by omega
      simp [hts, tab, hlt]
      refine (pick_ok c 6 _ K (by omega) hcc).mono fun r K1 ⟨⟨x, e1, x0, x1⟩, c1, m1⟩ => ?_
      subst e1
      have hw := wrap64 (x := 1 + x) (by omega) (by omega)
      simp [hts, tab, hw]
      obtain ⟨K1', hK1'⟩ : ∃ K1', K1' = K1 ++ [some ⟨2, true, [.int .i64 (1 + x), .nil]⟩] := ⟨_, rfl⟩
      have f1 : Fr K1 K1' := hK1' ▸ Fr.app K1 _
      have hb6 : K1'[K1.length]? = some (some ⟨2, true, [.int .i64 (1 + x), .nil]⟩) := by rw [hK1']; simp
      rw [← hK1']
      refine (pick_ok c 3 _ K1' (by omega) (c1.fr f1)).mono fun r K2 ⟨⟨z, e1, z0, z1⟩, c2, m2⟩ => ?_
      subst e1
      have hlK := hK.1
      have hlK1 := m1.1
      have hv2 : TNew K2 H.length v l us := ((hv.keeps m1 fun b hb => by omega).fr f1).keeps m2 fun b hb => by omega
      have hvl : ∀ b, v.at b → b < K1.length := fun b hb => by have := hv.row.lt b hb; omega
      have hul : ∀ u ∈ us, ∀ b, u.at b → b < K1.length := fun u hu b hb => by
        obtain ⟨i, hi⟩ := List.mem_iff_getElem?.1 hu
        have hil : i < l.length := by rw [← hv.len]; exact (List.getElem?_eq_some_iff.1 hi).1
        have := (hv.inner i l[i] u (List.getElem?_eq_getElem hil) hi).lt b hb
        omega
      have hb62 : K2[K1.length]? = some (some ⟨2, true, [.int .i64 (1 + x), .nil]⟩) := m2.2 _ _ hb6 fun h => by omega
      have hK2 : Moves c H K2 := ((hK.trans m1).trans f1.keeps).trans m2
      simp [hts]
      refine W_loop _ fun I2 hI2 => ?_
      have key2 : ∀ (z : Nat) (ts : TS) (K' : Hp) (w : AV) (L : List Int), L.length + z ≤ 2 → K'[K1.length]? = some (some ⟨2, true, [.int .i64 (1 + x), w]⟩) → Row 1 K' w (ints L) → (∀ b, w.at b → K1.length < b) → w.one = true → Cur K' c (n + 6 + 12 * k + 8 - 2 * z) → TNew K' H.length v l us → Moves c H K' → (ts 0 = .ptr c 0 ∧ ts 3 = v ∧ ts 4 = .int .i64 m ∧ ts 5 = .int .i64 k ∧ ts 6 = .ptr K1.length 0 ∧ ts 7 = .int .i64 z) → I2 ts K' := by
        intro z
        have done : ∀ (z : Nat) (ts : TS) (K' : Hp) (w : AV) (L : List Int), ¬ (0 < z ∧ 0 < k) → L.length + z ≤ 2 → K'[K1.length]? = some (some ⟨2, true, [.int .i64 (1 + x), w]⟩) → Row 1 K' w (ints L) → (∀ b, w.at b → K1.length < b) → w.one = true → Cur K' c (n + 6 + 12 * k + 8 - 2 * z) → TNew K' H.length v l us → Moves c H K' → (ts 0 = .ptr c 0 ∧ ts 3 = v ∧ ts 4 = .int .i64 m ∧ ts 5 = .int .i64 k ∧ ts 6 = .ptr K1.length 0 ∧ ts 7 = .int .i64 z) → I2 ts K' := by
          intro z ts K' w L hz hL hb hw hwf hw1 hcc hv' hK' hts
          apply hI2
          have hw3 := wrap64 (x := k + 1) (by omega) (by omega)
          have hld : loadA tT K' (.ptr K1.length 0) = some (.agg [.int .i64 (1 + x), w]) := by simp [loadA, hb]
          obtain ⟨v', K4, a1, a2, a3, a4⟩ := (hv'.row.fr (Fr.app K' [some ⟨2, true, [.int .i64 (1 + x), w]⟩])).append (bytes := 32) (x := .sl K'.length 0 1) (new := [[.int .i64 (1 + x), w]]) (by decide) (by simp [rowOf]) (by simp) (by simp [hv'.len]; omega) (by simp [hv'.len]; omega)
          have hlK' := hK'.1
          have f4 : Keeps v.at K' K4 := (Fr.keeps (Fr.app K' _)).trans a3
          have hfv' : Fresh H.length v' := fun b hb => (a4 b hb).elim (hv'.fv b) (fun h => by simp at h; omega)
          have hv'l : ∀ b, v'.at b → v.at b ∨ K'.length < b := fun b hb => (a4 b hb).elim .inl (fun h => .inr (by simp at h; omega))
          have hwv : ∀ b, w.at b → ¬ v.at b := fun b h1 h2 => by have := hwf b h1; have := hvl b h2; omega
          have hnew : TNew K4 H.length v' (l ++ [⟨1 + x, L⟩]) (us ++ [w]) := by
            refine ⟨?_, by simp [hv'.len], ?_, hfv', ?_, ?_⟩
            · rw [zip_snoc l us ⟨1 + x, L⟩ w hv'.len]
              exact a2
            · intro i t u hi hu
              by_cases hil : i < l.length
              · rw [List.getElem?_append_left hil] at hi
                rw [List.getElem?_append_left (by rw [hv'.len]; exact hil)] at hu
                exact (hv'.inner i t u hi hu).keeps f4 fun b h1 h2 => hv'.off u (List.mem_of_getElem? hu) b h1 h2
              · have hil2 : i = l.length := by
                  have := (List.getElem?_eq_some_iff.1 hi).1
                  simp at this
                  omega
                subst hil2
                simp at hi
                rw [← hv'.len] at hu
                simp at hu
                subst hi hu
                exact hw.keeps f4 hwv
            · intro u hu
              rcases List.mem_append.1 hu with hu | hu
              · exact hv'.fu u hu
              · simp at hu
                subst hu
                exact fun b hb => by have := hwf b hb; omega
            · intro u hu d hd hd2
              rcases List.mem_append.1 hu with hu | hu
              · rcases hv'l d hd2 with h | h
                · exact hv'.off u hu d hd h
                · have := hul u hu d hd
                  have := lt_of_get hb
                  omega
              · simp at hu
                subst hu
                rcases hv'l d hd2 with h | h
                · exact hwv d hd h
                · have := hw.lt d hd
                  omega
          have hcn : Cur K4 c (n + 6 + 12 * (k + 1 : Nat)) := (hcc.keeps f4 fun b hb => by have := hv'.fv b hb; omega).mono (by omega)
          have hm4 : Moves c H K4 := Fresh.keeps f4 hv'.fv hK' rfl
          have hin : ∀ t ∈ l ++ [(⟨1 + x, L⟩ : Task)], t.after.length ≤ 100 := fun t ht => by
            rcases List.mem_append.1 ht with ht | ht
            · exact ha t ht
            · simp at ht
              subst ht
              simp
              omega
          by_cases hz0 : 0 < z
          · have hk0 : ¬ 0 < k := fun h => hz ⟨hz0, h⟩
            simp (maxDischargeDepth := 9) [hts, tab, hz0, hk0, hld, hw1, cells_of_one hw1, buildSliceA, zerosA, fillA, over, a1, hw3]
            exact ih (k + 1) _ _ v' _ _ (by omega) (by simp [hl]) hin hnew hcn hm4 (by simp [hts])
          · simp (maxDischargeDepth := 9) [hts, tab, hz0, hld, hw1, cells_of_one hw1, buildSliceA, zerosA, fillA, over, a1, hw3]
            exact ih (k + 1) _ _ v' _ _ (by omega) (by simp [hl]) hin hnew hcn hm4 (by simp [hts])
        induction z with
        | zero => exact fun ts K' w L hL hb hw hwf hw1 hcc hv' hK' hts => done 0 ts K' w L (by omega) hL hb hw hwf hw1 hcc hv' hK' hts
        | succ z ih2 =>
          intro ts K' w L hL hb hw hwf hw1 hcc hv' hK' hts
          by_cases hk : 0 < k
          case neg => exact done (z + 1) ts K' w L (by omega) hL hb hw hwf hw1 hcc hv' hK' hts
          apply hI2
          have hz0 : (0 : Int) < (z : Int) + 1 := by omega
          have hld : loadA tLI0 K' (.ptr K1.length 1) = some w := load_at hb rfl rfl rfl
          have hw3 := wrap64 (x := z) (by omega) (by omega)
          simp (maxDischargeDepth := 9) [hts, tab, hz0, hk]
          refine W_draw mixed (.look 0 (.look 1 (.look 2 (.look 3 (.act 4 [1] (.act 5 [] (.look 6 (.act 7 [] .done .stop)) .stop) .stop))))) (by kernel_rfl) ?_
          simp (maxDischargeDepth := 9) [hts, tab, hld]
          refine (pick_ok c k _ K' (by omega) hcc).mono fun r K5 ⟨⟨y, e1, y0, y1⟩, c5, m5⟩ => ?_
          subst e1
          have hb5 : K5[K1.length]? = some (some ⟨2, true, [.int .i64 (1 + x), w]⟩) := m5.2 _ _ hb fun h => by omega
          have hld5 : loadA tLI0 K5 (.ptr K1.length 1) = some w := load_at hb5 rfl rfl rfl
          have hw5 := hw.keeps m5 fun d hd => by have := hwf d hd; omega
          simp (maxDischargeDepth := 9) [hts, tab, hld5]
          refine (l1Put_ok L w y K5 (by omega) hw5).mono fun r K6 ⟨⟨L', l1, l2⟩, m6, l3⟩ => ?_
          have hb6' : K6[K1.length]? = some (some ⟨2, true, [.int .i64 (1 + x), w]⟩) := m6.2 _ _ hb5 id
          have hr1 := l1.one
          obtain ⟨K7, s1, s2, s3, s4⟩ := store_at (ty := tLI0) hb6' rfl (o := 1) (v := r) (by rw [cells_of_one hr1]; rfl) (by rw [cells_of_one hr1]; simpa using hr1) (by simp)
          simp [over, cells_of_one hr1] at s2
          have hlt5 : K1.length < K5.length := lt_of_get hb5
          have hrf : ∀ b, r.at b → K1.length < b := fun b hb => (l3 b hb).elim (hwf b) (fun h => by omega)
          have hnb : ∀ b, b = K1.length → H.length ≤ b := fun b e => by omega
          simp (maxDischargeDepth := 9) [hts, tab, s1, hw3]
          have hv5 : TNew K6 H.length v l us := (hv'.keeps m5 fun b hb => by omega).fr m6
          have hv7 : TNew K7 H.length v l us := ⟨hv5.row.keeps s3 fun b hb e => by have := hvl b hb; omega, hv5.len, fun i t u hi hu => (hv5.inner i t u hi hu).keeps s3 fun b hb e => by have := hul u (List.mem_of_getElem? hu) b hb; omega, hv5.fv, hv5.fu, hv5.off⟩
          refine ih2 _ K7 r L' (by omega) s2 (l1.keeps s3 fun b hb e => by have := hrf b hb; omega) hrf hr1 (((c5.fr m6).keeps s3 fun b hb => by omega).mono (by omega)) hv7 ?_ (by simp [hts])
          have hK6 : Moves c H K6 := (hK'.trans m5).trans m6.keeps
          exact ⟨Nat.le_trans hK6.1 s3.1, fun b blk hb hn => s3.2 b blk (hK6.2 b blk hb hn) fun e => by have := lt_of_get hb; omega⟩
      obtain ⟨z, rfl⟩ := Int.eq_ofNat_of_zero_le z0
      exact key2 z _ K2 .nil [] (by simp; omega) hb62 (by simpa [ints] using (Own.nil 1 K2).row) (fun _ h => h.elim) rfl (c2.mono (by omega)) hv2 hK2 (by simp [hts])
  exact key m 0 _ K .nil [] [] (by omega) rfl (by simp) ⟨by simpa using Own.nil 2 K, rfl, by simp, Fresh.nil _, by simp, by simp⟩ (cc.mono (by omega)) hm (by simp [t0, t3, t4])
end Go.Proofs.Ytcadaadoodpnmaa.Am
