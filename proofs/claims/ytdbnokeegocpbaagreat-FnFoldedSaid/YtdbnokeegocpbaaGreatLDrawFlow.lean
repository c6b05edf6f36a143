/- Flows that are drawn. No condition. -/
import Derived.Test.YtdbnokeegocpbaaGreatLDrawCode
import Derived.Test.YtdbnokeegocpbaaGreatLFlowOwn
namespace Go.Proofs.YtdbnokeegocpbaaGreat.Am
open Go Go.RowKit
set_option linter.unusedSimpArgs false
set_option linter.unusedVariables false

/-- A flow that was made from a heap on. -/
def NewF (H : Hp) (r : AV) (K : Hp) : Prop := ∃ f us, FOwn K r f us ∧ (∀ u ∈ us, Fresh H.length u) ∧ Fresh H.length r ∧ f.length ≤ 10 ∧ ∀ b ∈ f, b.code.length ≤ 10
theorem FOwn.frame {X : Nat → Prop} {K K' H : Hp} {v : AV} {l : List Bk} {us : List AV} (h : FOwn K v l us) (k : Keeps X K K') (hu : ∀ u ∈ us, Fresh H.length u) (hv : Fresh H.length v) (hX : ∀ b, X b → b < H.length) : FOwn K' v l us := h.keeps k fun b hb hx => by
  have := hX b hx
  rcases hb with hb | ⟨u, h1, hb⟩
  · have := hv b hb; omega
  · have := hu u h1 b hb; omega
theorem push_ins {K : Hp} {v : AV} {es : List Ins} (h : Own 5 K v (inss es)) (x : Ins) (hl : es.length ≤ 1000) :
    ∃ u K', appendA 5 40 (K ++ [some ⟨5, true, [.int .i64 x.op, .int .i64 x.dst, .int .i64 x.a, .int .i64 x.b, .int .i64 x.n]⟩]) v (.sl K.length 0 1) = some (u, K') ∧ Own 5 K' u (inss (es ++ [x])) ∧ Keeps v.at K K' ∧ ∀ b, u.at b → v.at b ∨ K.length ≤ b := h.pushI x (by omega)
set_option maxHeartbeats 1000000 in
set_option maxRecDepth 100000 in
theorem drawFlow_ok (c : Nat) (n : Int) (H : Hp) (hn : n ≤ 50000) (hc : Cur H c n) : T Tryz.prog 76 [.ptr c 0] H (fun r K => NewF H r K ∧ Cur K c (n + 3000) ∧ Moves c H K) := by
  refine T.by tabOk Tryz.func76 (by kernel_rfl) rfl _ (by simp [Tryz.f76]) H _ ?_
  have hcl := hc.lt
  simp [Tryz.f76]
  refine (pick_ok c 5 n H (by omega) hc).mono fun r K0 ⟨⟨x, e1, x0, x1⟩, c0, m0⟩ => ?_
  subst e1
  have hwx := wrap64 (x := 1 + x) (by omega) (by omega)
  simp [tab, hwx]
  refine (one_ok c 20 _ K0 (by omega) c0).mono fun r K1 ⟨⟨y, e1⟩, c1, m1⟩ => ?_
  subst e1
  simp only [After_eq, Rg_nil, post_sq, W_seq]
  refine W_cut (fun ts K => ts 0 = .ptr c 0 ∧ ts 3 = .nil ∧ (∃ x : Nat, ts 4 = .int .i64 x ∧ 1 ≤ x ∧ x ≤ 9) ∧ Cur K c (n + 6) ∧ Moves c H K) ?_ ?_
  · cases y with
    | false =>
      simp
      exact ⟨⟨(1 + x).toNat, by omega, by omega, by omega⟩, c1.mono (by omega), m0.trans m1⟩
    | true =>
      simp
      refine (pick_ok c 2 _ K1 (by omega) c1).mono fun r K2 ⟨⟨x, e1, x0, x1⟩, c2, m2⟩ => ?_
      subst e1
      have hw := wrap64 (x := 8 + x) (by omega) (by omega)
      simp [tab, hw]
      exact ⟨⟨(8 + x).toNat, by omega, by omega, by omega⟩, c2.mono (by omega), (m0.trans m1).trans m2⟩
  rintro ts K ⟨t0, t3, ⟨nb, t4, hnb0, hnb⟩, cc, hm⟩
  clear c0 c1 m0 m1 hwx x0 x1
  simp only [post_sq, W_seq]
  simp [-W_block]
  refine W_cut (fun ts K => ts 0 = .ptr c 0 ∧ ts 4 = .int .i64 nb ∧ (∃ f us, FOwn K (ts 3) f us ∧ (∀ u ∈ us, Fresh H.length u) ∧ f.length = nb ∧ ∀ b ∈ f, b.code.length ≤ 10) ∧ Fresh H.length (ts 3) ∧ Cur K c (n + 2306) ∧ Moves c H K) ?_ ?_
  · simp only [W_block]
    refine W_loop _ fun I hI => ?_
    have key : ∀ (d k : Nat) (ts : TS) (K : Hp) (o : AV) (f : List Bk) (us : List AV), k + d = nb → f.length = k → FOwn K o f us → (∀ u ∈ us, Fresh H.length u) → Fresh H.length o → (∀ b ∈ f, b.code.length ≤ 10) → Cur K c (n + 6 + 250 * k) → Moves c H K → (ts 0 = .ptr c 0 ∧ ts 3 = o ∧ ts 4 = .int .i64 nb ∧ ts 5 = .int .i64 k) → I ts K := by
      intro d
      induction d with
      | zero =>
        intro k ts K o f us e hfl ho hf hfo hcode hcc hK hts
        apply hI
        obtain rfl : k = nb := by omega
        simp [hts, tab]
        exact ⟨⟨f, us, ho, hf, hfl, hcode⟩, hfo, hcc.mono (by omega), hK⟩
      | succ d ih =>
        intro k ts K o f us e hfl ho hf hfo hcode hcc hK hts
        apply hI
        have hlt : (k : Int) < nb := by omega
        have hw1 := wrap64 (x := (nb : Int) + 1) (by omega) (by omega)
        have hwk := wrap64 (x := (k : Int) + 1) (by omega) (by omega)
        simp [hts, tab, hlt]
        refine (pick_ok c 4 _ K (by omega) hcc).mono fun r K1 ⟨⟨x, e1, x0, x1⟩, c1, m1⟩ => ?_
        subst e1
        simp [hts, tab, hw1]
        refine (pick_ok c _ _ K1 (by omega) c1).mono fun r K2 ⟨⟨y, e1, y0, y1⟩, c2, m2⟩ => ?_
        subst e1
        have hw2 := wrap64 (x := y - 1) (by omega) (by omega)
        simp [hts, tab, hw1, hw2]
        refine (pick_ok c _ _ K2 (by omega) c2).mono fun r K3 ⟨⟨z, e1, z0, z1⟩, c3, m3⟩ => ?_
        subst e1
        have hw3 := wrap64 (x := z - 1) (by omega) (by omega)
        have M3 := ((hK.trans m1).trans m2).trans m3
        have ho3 := ho.frame ((m1.trans m2).trans m3) hf hfo (by rintro b rfl; exact hcl)
        obtain ⟨p6, hp6⟩ : ∃ p6, p6 = K3.length := ⟨_, rfl⟩
        obtain ⟨K4, hK4, f4⟩ : ∃ K4, K3 ++ [some ⟨4, true, [.nil, .int .i64 x, .int .i64 (y - 1), .int .i64 (z - 1)]⟩] = K4 ∧ Fr K3 K4 := ⟨_, rfl, Fr.app _ _⟩
        have hb4 : K4[p6]? = some (some ⟨4, true, [.nil, .int .i64 x, .int .i64 (y - 1), .int .i64 (z - 1)]⟩) := by rw [← hK4, hp6]; simp
        have hpH : H.length ≤ p6 := by rw [hp6]; exact M3.1
        have holt := ho3.lt
        simp [hts, tab, hw3, fillA, over, storeB, hK4]
        rw [← hp6]
        refine (pick_ok c 5 _ K4 (by omega) (c3.fr f4)).mono fun r K5 ⟨⟨m, e1, m0', m1'⟩, c5, m5⟩ => ?_
        subst e1
        obtain ⟨md, rfl⟩ := Int.eq_ofNat_of_zero_le m0'
        have hb5 := m5.2 _ _ hb4 (by omega)
        have ho5 := (ho3.fr f4).frame m5 hf hfo (by rintro b rfl; exact hcl)
        have hpo : ∀ b, (o.at b ∨ ∃ u ∈ us, u.at b) → b ≠ p6 := fun b hb => by have := holt b hb; omega
        simp [hts, tab]
        refine W_loop _ fun I2 hI2 => ?_
        have key2 : ∀ (dd : Nat) (ts : TS) (Ki : Hp) (w : AV) (l : List Ins), l.length + dd ≤ 5 → FOwn Ki o f us → Own 5 Ki w (inss l) → Ki[p6]? = some (some ⟨4, true, [w, .int .i64 x, .int .i64 (y - 1), .int .i64 (z - 1)]⟩) → (∀ b, w.at b → p6 < b) → Cur Ki c (n + 6 + 250 * k + 8 + 42 * l.length) → Moves c H Ki → (ts 0 = .ptr c 0 ∧ ts 3 = o ∧ ts 4 = .int .i64 nb ∧ ts 5 = .int .i64 k ∧ ts 6 = .ptr p6 0 ∧ ts 7 = .int .i64 dd) → I2 ts Ki := by
          intro dd
          induction dd with
          | zero =>
            intro ts Ki w l hl hoi hw hbi hwp hci hKi hts
            apply hI2
            have hld : loadA tK Ki (.ptr p6 0) = some (.agg [w, .int .i64 x, .int .i64 (y - 1), .int .i64 (z - 1)]) := by simp [loadA, hbi]
            have hw1 := hw.row.one
            have hw2 := hw.row.self
            have hoilt := hoi.lt
            obtain ⟨o', K6, g1, g2, g3, g4⟩ := hoi.push (t := ⟨l, x, y - 1, z - 1⟩) hw (fun b hb hx => by
              have := hwp b hb
              have h3 := holt b hx
              omega) (by rw [hfl]; omega)
            simp only [cellsB] at g1
            simp (maxDischargeDepth := 9) [hts, tab, hld, hw1, hw2, hwk, buildSliceA, zerosA, fillA, over, g1]
            refine ih (k + 1) _ K6 o' (f ++ [⟨l, x, y - 1, z - 1⟩]) (us ++ [w]) (by omega) (by simp [hfl]) g2 (fun u hu => ?_) (fun b hb => (g4 b hb).elim (hfo b) fun h => Nat.le_trans hKi.1 h) (fun b hb => ?_) ((hci.keeps g3 fun b hb => by have := hfo b hb; omega).mono (by simp; omega)) (Moves.up hKi g3 hfo) (by simp [hts])
            · rcases List.mem_append.1 hu with hu | hu
              · exact hf u hu
              · simp at hu; subst hu; exact fun b hb => by have := hwp b hb; omega
            · rcases List.mem_append.1 hb with hb | hb
              · exact hcode b hb
              · simp at hb; subst hb; simp; omega
          | succ dd ih2 =>
            intro ts Ki w l hl hoi hw hbi hwp hci hKi hts
            apply hI2
            have hpos : (0 : Int) < (dd : Int) + 1 := by omega
            have hwd := wrap64 (x := (dd : Int)) (by omega) (by omega)
            have q0 : loadA tLN Ki (.ptr p6 0) = some w := load_at hbi rfl rfl rfl
            simp [hts, tab, hpos]
            refine W_draw mixed (.look 0 (.look 1 (.look 2 (.act 3 [1] (.act 4 [1] (.act 5 [] (.look 6 (.act 7 [] .done .stop)) .stop) .stop) .stop)))) (by kernel_rfl) ?_
            simp (maxDischargeDepth := 9) [hts, tab, q0]
            refine (instr_ok c _ Ki (by omega) hci).mono fun r K7 ⟨⟨a, e1⟩, c7, m7⟩ => ?_
            subst e1
            have hb7 := m7.2 _ _ hbi (by omega)
            have hw7 := hw.keeps m7 fun b hb e => by have := hwp b hb; omega
            have ho7 := hoi.frame m7 hf hfo (by rintro b rfl; exact hcl)
            have q7 : loadA tLN K7 (.ptr p6 0) = some w := load_at hb7 rfl rfl rfl
            obtain ⟨w', K8, y1, y2, y3, y4⟩ := push_ins hw7 a (by omega)
            have hb8 := y3.2 _ _ hb7 fun h => by have := hwp _ h; omega
            have ho8 := ho7.keeps y3 fun b hb hx => by have := hwp b hx; have h3 := holt b hb; omega
            have hw1 := y2.row.one
            have hw2 := y2.row.self
            have hwp' : ∀ b, w'.at b → p6 < b := fun b hb => (y4 b hb).elim (hwp b) fun h => by have := lt_of_get hb7; omega
            obtain ⟨K9, s1, s2, s3, s4⟩ := store_at hb8 rfl (ty := tLN) (o := 0) (v := w') (by rw [hw2]; rfl) (by simp [hw2, hw1]) (by simp)
            simp [over, hw2] at s2
            simp (maxDischargeDepth := 9) [hts, tab, q7, Ins.enc, buildSliceA, zerosA, fillA, over, y1, s1, hwd]
            have M8 : Moves c H K8 := Moves.up (hKi.trans m7) y3 fun b hb => by have := hwp b hb; omega
            exact ih2 _ K9 w' (l ++ [a]) (by simp; omega) (ho8.keeps s3 hpo) (y2.keeps s3 fun b hb e => by have := hwp' b hb; omega) s2 hwp' (((c7.keeps y3 fun b hb => by have := hwp b hb; omega).keeps s3 fun b hb => by omega).mono (by simp; omega)) (Moves.up M8 s3 fun b hb => by omega) (by simp [hts])
        exact key2 md _ K5 .nil [] (by simp; omega) ho5 (by simpa [inss] using Own.nil 5 K5) hb5 (fun b hb => hb.elim) (c5.mono (by simp; omega)) (Moves.up M3 (Fr.keeps (X := fun _ => False) f4) (fun b hb => hb.elim) |>.trans m5) (by simp [hts])
    exact key nb 0 _ K .nil [] [] (by omega) rfl (FOwn.nil K) (by simp) (Fresh.nil _) (by simp) (cc.mono (by omega)) hm (by simp [t0, t3, t4])
  clear cc hm t0 t3 t4
  rintro ts K ⟨t0, t4, ⟨f, us, ho, hf, hfl, hcode⟩, hfo, cc, hm⟩
  generalize ho3 : ts 3 = o at *
  simp [t0]
  refine (one_ok c 30 _ K (by omega) cc).mono fun r K1 ⟨⟨y, e1⟩, c1, m1⟩ => ?_
  subst e1
  have ho1 := ho.frame m1 hf hfo (by rintro b rfl; exact hcl)
  cases y with
  | false =>
    simp [ho3, tab]
    exact ⟨⟨f, us, ho1, hf, hfo, by omega, hcode⟩, c1.mono (by omega), hm.trans m1⟩
  | true =>
    have r2 := ints_row K1 [-2, (nb : Int)]
    simp at r2
    have fB := Fr.app K1 [some ⟨1, true, [.int .i64 (-2), .int .i64 nb]⟩]
    have hlc := c1.lt
    simp [ho3, t0, t4, tab, buildSliceA, zerosA, fillA, over]
    refine (among_ok c _ _ _ _ (by omega) (by simp) (by simp) (c1.fr fB) r2 (fun b hb => by cases hb; omega)).mono fun r K2 ⟨⟨z, e1, _⟩, c2, m2⟩ => ?_
    subst e1
    have ho2 := (ho1.fr fB).frame m2 hf hfo (by rintro b rfl; exact hcl)
    match f, hfl, hcode, ho2 with
    | [], hfl, _, _ => simp at hfl; omega
    | a :: r, hfl, hcode, ho2 =>
      obtain ⟨bo, u, hv, _, i1, _, _, _, _, _, i2, _⟩ := FOwn.spot (q := []) (a := a) (r := r) ho2
      obtain ⟨K3, s1, s2, s3⟩ := i2 z
      simp at i1 s1 s2
      simp [ho3, tab, i1, s1]
      refine ⟨⟨_, us, s2, hf, hfo, by simp at hfl ⊢; omega, fun b hb => ?_⟩, (c2.keeps s3 fun b hb => by have := hfo b hb; omega).mono (by omega), Moves.up (((hm.trans m1).trans (Moves.of fB)).trans m2) s3 hfo⟩
      rcases List.mem_cons.1 hb with rfl | hb
      · exact hcode a (by simp)
      · exact hcode b (by simp [hb])
theorem FOwn.single {K : Hp} {u : AV} {a : Bk} (hu : Own 5 K u (inss a.code)) : FOwn (K ++ [some ⟨4, true, cellsB a u⟩]) (.sl K.length 0 1) [a] [u] := by
  refine ⟨⟨by simp [cellsB], .inr ⟨K.length, rfl, by simp⟩⟩, rfl, fun i t w hi hw => ?_, fun i j x y b hi hj hij => ?_, fun x hx b hb hx2 => ?_⟩
  · match i with
    | 0 =>
      simp at hi hw
      subst hi hw
      exact hu.fr (Fr.app K _)
    | i + 1 => simp at hi
  · have h1 := (List.getElem?_eq_some_iff.1 hi).1
    have h2 := (List.getElem?_eq_some_iff.1 hj).1
    simp at h1 h2
    omega
  · simp at hx
    subst hx
    have := hu.lt b hb
    have h2 : K.length = b := hx2
    omega
theorem two_ins (K : Hp) (x y : Ins) : Own 5 (K ++ [some ⟨5, true, [.int .i64 x.op, .int .i64 x.dst, .int .i64 x.a, .int .i64 x.b, .int .i64 x.n, .int .i64 y.op, .int .i64 y.dst, .int .i64 y.a, .int .i64 y.b, .int .i64 y.n]⟩]) (.sl K.length 0 2) (inss [x, y]) :=
  ⟨by simp [Ins.enc], .inr ⟨K.length, rfl, by simp [Ins.enc]⟩⟩
set_option maxHeartbeats 1000000 in
set_option maxRecDepth 100000 in
theorem drawCount_ok (c : Nat) (n : Int) (H : Hp) (hn : n ≤ 50000) (hc : Cur H c n) : T Tryz.prog 75 [.ptr c 0] H (fun r K => NewF H r K ∧ Cur K c (n + 3000) ∧ Moves c H K) := by
  refine T.by tabOk Tryz.func75 (by kernel_rfl) rfl _ (by simp [Tryz.f75]) H _ ?_
  have hcl := hc.lt
  simp [Tryz.f75, tab, fillA, over]
  refine (pick_ok c 6 n H (by omega) hc).mono fun r K1 ⟨⟨x, e1, x0, x1⟩, c1, m1⟩ => ?_
  subst e1
  have hwx := wrap64 (x := 1 + x) (by omega) (by omega)
  have i1 := two_ins K1 ⟨1, 7, 0, 0, 1⟩ ⟨1, 6, 0, 0, 1 + x⟩
  obtain ⟨K2, hK2, f2⟩ : ∃ K2, K1 ++ [some ⟨5, true, [.int .i64 1, .int .i64 7, .int .i64 0, .int .i64 0, .int .i64 1, .int .i64 1, .int .i64 6, .int .i64 0, .int .i64 0, .int .i64 (1 + x)]⟩] = K2 ∧ Fr K1 K2 := ⟨_, rfl, Fr.app _ _⟩
  simp only at i1
  rw [hK2] at i1
  have hl2 : K2.length = K1.length + 1 := by rw [← hK2]; simp
  have ho := FOwn.single (a := ⟨[⟨1, 7, 0, 0, 1⟩, ⟨1, 6, 0, 0, 1 + x⟩], 7, 1, 0⟩) i1
  simp only [cellsB] at ho
  obtain ⟨K3, hK3, f3⟩ : ∃ K3, K2 ++ [some ⟨4, true, [.sl K1.length 0 2, .int .i64 7, .int .i64 1, .int .i64 0]⟩] = K3 ∧ Fr K2 K3 := ⟨_, rfl, Fr.app _ _⟩
  rw [hK3] at ho
  have hl3 : K3.length = K2.length + 1 := by rw [← hK3]; simp
  obtain ⟨p6, hp6⟩ : ∃ p6, p6 = K3.length := ⟨_, rfl⟩
  obtain ⟨K4, hK4, f4⟩ : ∃ K4, K3 ++ [some ⟨4, true, [.nil, .int .i64 6, .int .i64 1, .int .i64 2]⟩] = K4 ∧ Fr K3 K4 := ⟨_, rfl, Fr.app _ _⟩
  have hb4 : K4[p6]? = some (some ⟨4, true, [.nil, .int .i64 6, .int .i64 1, .int .i64 2]⟩) := by rw [← hK4, hp6]; simp
  have hm1 := m1.1
  have hlk2 : ∀ L : Hp, K1 ++ some ⟨5, true, [.int .i64 1, .int .i64 7, .int .i64 0, .int .i64 0, .int .i64 1, .int .i64 1, .int .i64 6, .int .i64 0, .int .i64 0, .int .i64 (1 + x)]⟩ :: L = K2 ++ L := fun L => by rw [← hK2]; simp
  simp [tab, hwx, buildSliceA, zerosA, fillA, over, hK2, hK3, hK4]
  rw [← hp6]
  have C4 := ((c1.fr f2).fr f3).fr f4
  refine (pick_ok c 6 _ K4 (by omega) C4).mono fun r K5 ⟨⟨m, e1, m0', m1'⟩, c5, m5⟩ => ?_
  subst e1
  obtain ⟨md, rfl⟩ := Int.eq_ofNat_of_zero_le m0'
  have hb5 := m5.2 _ _ hb4 (by omega)
  generalize hO : AV.sl K2.length 0 1 = o at ho
  have hfo : Fresh H.length o := fun b hb => by rw [← hO] at hb; have h : K2.length = b := hb; omega
  have hf : ∀ u ∈ [AV.sl K1.length 0 2], Fresh H.length u := fun u hu b hb => by simp at hu; subst hu; have h : K1.length = b := hb; omega
  have ho5 := (ho.fr f4).frame m5 hf hfo (by rintro b rfl; exact hcl)
  have holt := ho.lt
  have hpo : ∀ b, (o.at b ∨ ∃ u ∈ [AV.sl K1.length 0 2], u.at b) → b ≠ p6 := fun b hb => by have := holt b hb; omega
  have M5 : Moves c H K5 := ((m1.trans (Moves.of (f2.trans (f3.trans f4)))).trans m5)
  simp [tab]
  refine W_loop _ fun I hI => ?_
  have key2 : ∀ (dd : Nat) (ts : TS) (Ki : Hp) (w : AV) (l : List Ins), l.length + dd ≤ 6 → FOwn Ki o [⟨[⟨1, 7, 0, 0, 1⟩, ⟨1, 6, 0, 0, 1 + x⟩], 7, 1, 0⟩] [AV.sl K1.length 0 2] → Own 5 Ki w (inss l) → Ki[p6]? = some (some ⟨4, true, [w, .int .i64 6, .int .i64 1, .int .i64 2]⟩) → (∀ b, w.at b → p6 < b) → Cur Ki c (n + 10 + 42 * l.length) → Moves c H Ki → (ts 0 = .ptr c 0 ∧ ts 3 = o ∧ ts 4 = .ptr p6 0 ∧ ts 5 = .int .i64 dd) → I ts Ki := by
    intro dd
    induction dd with
    | zero =>
      intro ts Ki w l hl hoi hw hbi hwp hci hKi hts
      apply hI
      have q0 : loadA tLN Ki (.ptr p6 0) = some w := load_at hbi rfl rfl rfl
      obtain ⟨w', K6, y1, y2, y3, y4⟩ := push_ins hw ⟨4, 6, 6, 7, 0⟩ (by omega)
      simp only at y1
      have hb6 := y3.2 _ _ hbi fun h => by have := hwp _ h; omega
      have ho6 := hoi.keeps y3 fun b hb hx => by have := hwp b hx; have h3 := holt b hb; omega
      have hw1 := y2.row.one
      have hw2 := y2.row.self
      have hwp' : ∀ b, w'.at b → p6 < b := fun b hb => (y4 b hb).elim (hwp b) fun h => by have := lt_of_get hbi; omega
      obtain ⟨K7, s1, s2, s3, s4⟩ := store_at hb6 rfl (ty := tLN) (o := 0) (v := w') (by rw [hw2]; rfl) (by simp [hw2, hw1]) (by simp)
      simp [over, hw2] at s2
      have hld : loadA tK K7 (.ptr p6 0) = some (.agg [w', .int .i64 6, .int .i64 1, .int .i64 2]) := by simp [loadA, s2]
      have ho7 := ho6.keeps s3 hpo
      have hw7 := y2.keeps s3 fun b hb e => by have := hwp' b hb; omega
      obtain ⟨o', K8, g1, g2, g3, g4⟩ := ho7.push (t := ⟨l ++ [⟨4, 6, 6, 7, 0⟩], 6, 1, 2⟩) hw7 (fun b hb hx => by have := hwp' b hb; have h3 := holt b hx; omega) (by simp)
      simp only [cellsB] at g1
      have M7 : Moves c H K7 := Moves.up (Moves.up hKi y3 fun b hb => by have := hwp b hb; omega) s3 fun b hb => by omega
      have M8 : Moves c H K8 := Moves.up M7 g3 hfo
      have C8 : Cur K8 c (n + 10 + 42 * l.length) := ((hci.keeps y3 fun b hb => by have := hwp b hb; omega).keeps s3 fun b hb => by omega).keeps g3 fun b hb => by have := hfo b hb; omega
      have hfo' : Fresh H.length o' := fun b hb => (g4 b hb).elim (hfo b) fun h => Nat.le_trans M7.1 h
      have hf' : ∀ u ∈ [AV.sl K1.length 0 2] ++ [w'], Fresh H.length u := fun u hu => by
        rcases List.mem_append.1 hu with hu | hu
        · exact hf u hu
        · simp at hu; subst hu; exact fun b hb => by have := hwp' b hb; omega
      simp (maxDischargeDepth := 9) [hts, tab, q0, fillA, over, buildSliceA, zerosA, y1, s1, hld, hw1, hw2, g1]
      refine (pick_ok c 4 _ K8 (by omega) C8).mono fun r K9 ⟨⟨z1, e1, _⟩, c9, m9⟩ => ?_
      subst e1
      simp [hts, tab, fillA, over]
      refine (pick_ok c 4 _ K9 (by omega) c9).mono fun r Ka ⟨⟨z2, e1, _⟩, ca, ma⟩ => ?_
      subst e1
      have hoa := (g2.frame m9 hf' hfo' (by rintro b rfl; exact hcl)).frame ma hf' hfo' (by rintro b rfl; exact hcl)
      have j1 := two_ins Ka ⟨8, 0, z1, 0, 0⟩ ⟨8, 0, z2, 0, 0⟩
      simp only at j1
      obtain ⟨Kb, hKb, fb⟩ : ∃ Kb, Ka ++ [some ⟨5, true, [.int .i64 8, .int .i64 0, .int .i64 z1, .int .i64 0, .int .i64 0, .int .i64 8, .int .i64 0, .int .i64 z2, .int .i64 0, .int .i64 0]⟩] = Kb ∧ Fr Ka Kb := ⟨_, rfl, Fr.app _ _⟩
      rw [hKb] at j1
      have hoalt := hoa.lt
      obtain ⟨o'', Kc, k1, k2, k3, k4⟩ := (hoa.fr fb).push (t := ⟨[⟨8, 0, z1, 0, 0⟩, ⟨8, 0, z2, 0, 0⟩], 0, -1, -1⟩) j1 (fun b hb hx => by have h : Ka.length = b := hb; have h3 := hoalt b hx; omega) (by simp)
      simp only [cellsB] at k1
      have Ma : Moves c H Kb := ((M8.trans m9).trans ma).trans (Moves.of fb)
      simp (maxDischargeDepth := 9) [hts, tab, fillA, over, buildSliceA, zerosA, hKb, k1]
      refine ⟨⟨_, _, k2, fun u hu => ?_, fun b hb => (k4 b hb).elim (hfo' b) fun h => Nat.le_trans Ma.1 h, by simp, fun b hb => ?_⟩, ((ca.fr fb).keeps k3 fun b hb => by have := hfo' b hb; omega).mono (by omega), Moves.up Ma k3 hfo'⟩
      · rcases List.mem_append.1 hu with hu | hu
        · exact hf' u hu
        · simp at hu; subst hu; intro b hb; have h : Ka.length = b := hb; have := ((M8.trans m9).trans ma).1; omega
      · simp at hb
        rcases hb with rfl | rfl | rfl
        · simp
        · simp; omega
        · simp
    | succ dd ih2 =>
      intro ts Ki w l hl hoi hw hbi hwp hci hKi hts
      apply hI
      have hpos : (0 : Int) < (dd : Int) + 1 := by omega
      have hwd := wrap64 (x := (dd : Int)) (by omega) (by omega)
      have q0 : loadA tLN Ki (.ptr p6 0) = some w := load_at hbi rfl rfl rfl
      simp [hts, tab, hpos]
      refine W_draw mixed (.look 0 (.look 1 (.look 2 (.act 3 [1] (.act 4 [1] (.act 5 [] (.look 6 (.act 7 [] .done .stop)) .stop) .stop) .stop)))) (by kernel_rfl) ?_
      simp (maxDischargeDepth := 9) [hts, tab, q0]
      refine (instr_ok c _ Ki (by omega) hci).mono fun r K7 ⟨⟨a, e1⟩, c7, m7⟩ => ?_
      subst e1
      have hb7 := m7.2 _ _ hbi (by omega)
      have hw7 := hw.keeps m7 fun b hb e => by have := hwp b hb; omega
      have ho7 := hoi.frame m7 hf hfo (by rintro b rfl; exact hcl)
      have q7 : loadA tLN K7 (.ptr p6 0) = some w := load_at hb7 rfl rfl rfl
      obtain ⟨w', K8, y1, y2, y3, y4⟩ := push_ins hw7 a (by omega)
      have hb8 := y3.2 _ _ hb7 fun h => by have := hwp _ h; omega
      have ho8 := ho7.keeps y3 fun b hb hx => by have := hwp b hx; have h3 := holt b hb; omega
      have hw1 := y2.row.one
      have hw2 := y2.row.self
      have hwp' : ∀ b, w'.at b → p6 < b := fun b hb => (y4 b hb).elim (hwp b) fun h => by have := lt_of_get hb7; omega
      obtain ⟨K9, s1, s2, s3, s4⟩ := store_at hb8 rfl (ty := tLN) (o := 0) (v := w') (by rw [hw2]; rfl) (by simp [hw2, hw1]) (by simp)
      simp [over, hw2] at s2
      simp (maxDischargeDepth := 9) [hts, tab, q7, Ins.enc, buildSliceA, zerosA, fillA, over, y1, s1, hwd]
      have M8 : Moves c H K8 := Moves.up (hKi.trans m7) y3 fun b hb => by have := hwp b hb; omega
      exact ih2 _ K9 w' (l ++ [a]) (by simp; omega) (ho8.keeps s3 hpo) (y2.keeps s3 fun b hb e => by have := hwp' b hb; omega) s2 hwp' (((c7.keeps y3 fun b hb => by have := hwp b hb; omega).keeps s3 fun b hb => by omega).mono (by simp; omega)) (Moves.up M8 s3 fun b hb => by omega) (by simp [hts])
  exact key2 md _ K5 .nil [] (by simp; omega) ho5 (by simpa [inss] using Own.nil 5 K5) hb5 (fun b hb => hb.elim) (c5.mono (by simp; omega)) M5 (by simp [← hO, hl2])
theorem anyFlow_ok (c : Nat) (n : Int) (H : Hp) (hn : n ≤ 40000) (hc : Cur H c n) : T Tryz.prog 44 [.ptr c 0] H (fun r K => NewF H r K ∧ Cur K c (n + 3010) ∧ Moves c H K) := by
  refine T.by tabOk Tryz.func44 (by kernel_rfl) rfl _ (by simp [Tryz.f44]) H _ ?_
  simp [Tryz.f44]
  refine (one_ok c 3 n H (by omega) hc).mono fun r K1 ⟨⟨y, e1⟩, c1, m1⟩ => ?_
  subst e1
  have up : ∀ r K, NewF K1 r K → NewF H r K := fun r K ⟨f, us, a1, a2, a3, a4⟩ => ⟨f, us, a1, fun u hu => (a2 u hu).mono m1.1, a3.mono m1.1, a4⟩
  cases y with
  | true =>
    simp
    refine (drawCount_ok c _ K1 (by omega) c1).mono fun r K2 ⟨h1, h2, h3⟩ => ?_
    simp
    exact ⟨up _ _ h1, h2.mono (by omega), m1.trans h3⟩
  | false =>
    simp
    refine (drawFlow_ok c _ K1 (by omega) c1).mono fun r K2 ⟨h1, h2, h3⟩ => ?_
    simp
    exact ⟨up _ _ h1, h2.mono (by omega), m1.trans h3⟩
end Go.Proofs.YtdbnokeegocpbaaGreat.Am
