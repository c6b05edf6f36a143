/- Code that is drawn. No condition. -/
import Derived.Test.YtdbnokeegocpbaaGreatLCode
import Derived.Test.YtdbnokeegocpbaaGreatLCur
namespace Go.Proofs.YtdbnokeegocpbaaGreat.Am
open Go Go.RowKit
set_option linter.unusedSimpArgs false
set_option linter.unusedVariables false

theorem Moves.of {c : Nat} {H K : Hp} (h : Fr H K) : Moves c H K := Fr.keeps h
theorem ints_row (K : Hp) (L : List Int) : Row 1 (K ++ [some ⟨1, true, L.map (AV.int .i64)⟩]) (.sl K.length 0 L.length) (ints L) := by
  have := (Own.new (sz := 1) (K := K) (es := ints L) (ints_one _)).row
  rw [ints_flatten] at this
  simpa [ints] using this
theorem Own.pushX {sz bytes : Nat} {K : Hp} {v : AV} {es : List (List AV)} {e : List AV} (h : Own sz K v es) (he : e.length = sz) (hsz : 0 < sz) (hb : bytes ≤ 100) (hl : es.length ≤ 1048576) :
    ∃ u K', appendA sz bytes (K ++ [some ⟨sz, true, e⟩]) v (.sl K.length 0 1) = some (u, K') ∧ Own sz K' u (es ++ [e]) ∧ Keeps v.at K K' ∧ ∀ b, u.at b → v.at b ∨ K.length ≤ b := by
  have hmul : (es.length + 1) * bytes ≤ 1048577 * 100 := Nat.mul_le_mul (by omega) hb
  obtain ⟨u, K', a1, a2, a3, a4⟩ := (h.fr (Fr.app K [some ⟨sz, true, e⟩])).append (bytes := bytes) (x := .sl K.length 0 1) (new := [e]) hsz (by subst he; simp [rowOf]) (by simp [he]) (by simp; omega) (by simp; omega)
  refine ⟨u, K', a1, a2, (Fr.keeps (Fr.app K _)).trans a3, fun b hb => ?_⟩
  rcases a4 b hb with h | h
  · exact .inl h
  · simp at h
    exact .inr (by omega)
theorem Moves.up {c : Nat} {H K K' : Hp} {X : Nat → Prop} (h : Moves c H K) (k : Keeps X K K') (hX : ∀ b, X b → H.length ≤ b) : Moves c H K' := ⟨Nat.le_trans h.1 k.1, fun b blk hb hn => k.2 b blk (h.2 b blk hb hn) fun e => by have := hX b e; have := lt_of_get hb; omega⟩
theorem put_ins {K : Hp} {c : Nat} {x : Ins} (h : K[c]? = some (some ⟨5, true, x.enc⟩)) {j : Nat} (hj : j < 5) (v : Int) : ∃ K', storeA tI K (.ptr c j) (.int .i64 v) = some K' ∧ (∃ y : Ins, K'[c]? = some (some ⟨5, true, y.enc⟩)) ∧ Keeps (fun b => b = c) K K' := by
  obtain ⟨K', s1, s2, s3, s4⟩ := store_at h rfl (ty := tI) (o := j) (v := .int .i64 v) rfl rfl (by simp [Ins.enc]; omega)
  refine ⟨K', s1, ?_, s3⟩
  obtain ⟨a, b, d, e, f⟩ := x
  match j, hj with
  | 0, _ => exact ⟨⟨v, b, d, e, f⟩, by simpa [Ins.enc, over] using s2⟩
  | 1, _ => exact ⟨⟨a, v, d, e, f⟩, by simpa [Ins.enc, over] using s2⟩
  | 2, _ => exact ⟨⟨a, b, v, e, f⟩, by simpa [Ins.enc, over] using s2⟩
  | 3, _ => exact ⟨⟨a, b, d, v, f⟩, by simpa [Ins.enc, over] using s2⟩
  | 4, _ => exact ⟨⟨a, b, d, e, v⟩, by simpa [Ins.enc, over] using s2⟩
theorem put_all {K : Hp} {c : Nat} {l : List AV} (h : K[c]? = some (some ⟨5, true, l⟩)) (hl : l.length = 5) (x : Ins) : ∃ K', storeA tN K (.ptr c 0) (.agg x.enc) = some K' ∧ loadA tN K' (.ptr c 0) = some (.agg x.enc) ∧ Keeps (fun b => b = c) K K' ∧ K'[c]? = some (some ⟨5, true, x.enc⟩) := by
  obtain ⟨K', s1, s2, s3, s4⟩ := store_at h rfl (ty := tN) (o := 0) (v := .agg x.enc) rfl rfl (by simp [hl])
  have e : over l 0 x.enc = x.enc := by
    unfold over
    simp [Ins.enc, hl]
  simp only [AV.cells, e] at s2
  exact ⟨K', s1, by simp [loadA, s2, Ins.enc], s3, s2⟩
/-- What holds while a word of code is drawn. -/
structure InsAt (c : Nat) (n : Int) (H : Hp) (d : Nat) (K : Hp) : Prop where
  cell : K[H.length]? = some (some ⟨5, true, [.int .i64 0, .int .i64 0, .int .i64 0, .int .i64 0, .int .i64 0]⟩)
  ins : ∃ x : Ins, K[d]? = some (some ⟨5, true, x.enc⟩)
  cur : Cur K c n
  mov : Moves c H K
theorem InsAt.go {c d : Nat} {n m : Int} {H K K' : Hp} (h : InsAt c n H d K) (hd : H.length < d) (hc : c < H.length) (k : Moves c K K') (hcur : Cur K' c m) : InsAt c m H d K' :=
  ⟨k.2 _ _ h.cell fun e => by omega, h.ins.elim fun x hx => ⟨x, k.2 _ _ hx fun e => by omega⟩, hcur, h.mov.trans k⟩
theorem InsAt.fr {c d : Nat} {n : Int} {H K K' : Hp} (h : InsAt c n H d K) (k : Fr K K') : InsAt c n H d K' :=
  ⟨k.2 _ _ h.cell id, h.ins.elim fun x hx => ⟨x, k.2 _ _ hx id⟩, h.cur.fr k, h.mov.trans (Moves.of k)⟩
theorem InsAt.put {c d : Nat} {n : Int} {H K : Hp} (h : InsAt c n H d K) (hd : H.length < d) (hc : c < H.length) {j : Nat} (hj : j < 5) (v : Int) : ∃ K', storeA tI K (.ptr d j) (.int .i64 v) = some K' ∧ InsAt c n H d K' := by
  obtain ⟨x, hx⟩ := h.ins
  obtain ⟨K', s1, s2, s3⟩ := put_ins hx hj v
  exact ⟨K', s1, s3.2 _ _ h.cell fun e => by omega, s2, h.cur.keeps s3 fun b hb => by omega, Moves.up h.mov s3 fun b hb => by omega⟩
theorem InsAt.op {c d : Nat} {n : Int} {H K : Hp} (h : InsAt c n H d K) : ∃ v : Int, loadA tI K (.ptr d 0) = some (.int .i64 v) := by
  obtain ⟨x, hx⟩ := h.ins
  exact ⟨x.op, load_at hx rfl rfl rfl⟩
theorem InsAt.more {c d : Nat} {n m : Int} {H K : Hp} (h : InsAt c n H d K) (hm : n ≤ m) : InsAt c m H d K := ⟨h.cell, h.ins, h.cur.mono hm, h.mov⟩
set_option maxRecDepth 100000 in
theorem instr_ok (c : Nat) (n : Int) (H : Hp) (hn : n ≤ 100000) (hc : Cur H c n) : T Tryz.prog 67 [.ptr c 0] H (fun r K => (∃ x : Ins, r = .agg x.enc) ∧ Cur K c (n + 40) ∧ Moves c H K) := by
  refine T.by tabOk Tryz.func67 (by kernel_rfl) rfl _ (by simp [Tryz.f67]) H _ ?_
  have hcl := hc.lt
  obtain ⟨H1, hH1⟩ : ∃ H1, H1 = H ++ [some ⟨5, true, [.int .i64 0, .int .i64 0, .int .i64 0, .int .i64 0, .int .i64 0]⟩] := ⟨_, rfl⟩
  have f1 : Fr H H1 := hH1 ▸ Fr.app H _
  have hz : H1[H.length]? = some (some ⟨5, true, [.int .i64 0, .int .i64 0, .int .i64 0, .int .i64 0, .int .i64 0]⟩) := by rw [hH1]; simp
  have r1 := ints_row H1 [1, 2, 3, 3, 4, 5, 6, 7, 8]
  simp at r1
  have fB := Fr.app H1 [some ⟨1, true, [.int .i64 1, .int .i64 2, .int .i64 3, .int .i64 3, .int .i64 4, .int .i64 5, .int .i64 6, .int .i64 7, .int .i64 8]⟩]
  have hlH1 : H1.length = H.length + 1 := by rw [hH1]; simp
  simp [Tryz.f67, tab]
  rw [← hH1]
  simp [tab, buildSliceA, zerosA, fillA, over]
  refine (among_ok c _ _ _ _ (by omega) (by simp) (by simp) ((hc.fr f1).fr fB) r1 (fun b hb => by cases hb; omega)).mono fun r K1 ⟨⟨x, e1, hx⟩, c1, m1⟩ => ?_
  subst e1
  have hz1 := m1.2 _ _ (fB.2 _ _ hz id) fun h => by omega
  have M1 : Moves c H K1 := (Moves.of (f1.trans fB)).trans m1
  have hlK1 : H.length < K1.length := lt_of_get hz1
  obtain ⟨d, hd⟩ : ∃ d, d = K1.length := ⟨_, rfl⟩
  have fD := Fr.app K1 [some ⟨5, true, [.int .i64 x, .int .i64 0, .int .i64 0, .int .i64 0, .int .i64 0]⟩]
  have A0 : InsAt c (n + 2) H d (K1 ++ [some ⟨5, true, [.int .i64 x, .int .i64 0, .int .i64 0, .int .i64 0, .int .i64 0]⟩]) := ⟨fD.2 _ _ hz1 id, ⟨⟨x, 0, 0, 0, 0⟩, by rw [hd]; simp [Ins.enc]⟩, c1.fr fD, M1.trans (Moves.of fD)⟩
  have hdl : H.length < d := by omega
  simp [-post_sq, tab, buildSliceA, zerosA, fillA, over, storeB]
  rw [← hd]
  obtain ⟨K2, hK2⟩ : ∃ K2, K2 = K1 ++ [some ⟨5, true, [.int .i64 x, .int .i64 0, .int .i64 0, .int .i64 0, .int .i64 0]⟩] := ⟨_, rfl⟩
  rw [← hK2] at A0 ⊢
  clear hK2 fD M1 hz1 m1 c1 r1 fB
  obtain ⟨v1, l1⟩ := A0.op
  simp only [post_sq, W_seq]
  refine W_cut (fun ts K => K = K2 ∧ ts 0 = .ptr c 0 ∧ ts 2 = .ptr H.length 0 ∧ ts 3 = .ptr d 0 ∧ ∃ b, ts 10 = .bool b) (by simp [tab, l1]; omega) ?_
  rintro ts K ⟨rfl, t0, t2, t3, b10, t10⟩
  simp only [post_sq, W_seq]
  refine W_cut (fun ts K => ts 0 = .ptr c 0 ∧ ts 2 = .ptr H.length 0 ∧ ts 3 = .ptr d 0 ∧ InsAt c (n + 4) H d K) ?_ ?_
  · cases b10 with
    | false => simp [t10, t0, t2, t3]; exact A0.more (by omega)
    | true =>
      simp [t10, t0, t2, t3]
      refine (pick_ok c 4 _ _ (by omega) A0.cur).mono fun r K3 ⟨⟨y, e1, _⟩, c3, m3⟩ => ?_
      subst e1
      obtain ⟨K4, s1, s2⟩ := (A0.go hdl hcl m3 c3).put hdl hcl (j := 1) (by omega) y
      simp [t0, t2, t3, tab, s1]
      exact s2.more (by omega)
  clear A0 l1 t0 t2 t3 t10
  rintro ts K ⟨t0, t2, t3, A0⟩
  obtain ⟨v1, l1⟩ := A0.op
  simp only [post_sq, W_seq]
  refine W_cut (fun ts K => ts 0 = .ptr c 0 ∧ ts 2 = .ptr H.length 0 ∧ ts 3 = .ptr d 0 ∧ InsAt c (n + 10) H d K) ?_ ?_
  · by_cases o1 : v1 = 1
    · subst o1
      have r2 := ints_row K [0, 1, 2, 3, 5, 65535]
      simp at r2
      have fB := Fr.app K [some ⟨1, true, [.int .i64 0, .int .i64 1, .int .i64 2, .int .i64 3, .int .i64 5, .int .i64 65535]⟩]
      have hlc := A0.cur.lt
      simp [t0, t2, t3, tab, l1, buildSliceA, zerosA, fillA, over]
      refine (among_ok c _ _ _ _ (by omega) (by simp) (by simp) (A0.cur.fr fB) r2 (fun b hb => by cases hb; omega)).mono fun r K3 ⟨⟨y, e1, _⟩, c3, m3⟩ => ?_
      subst e1
      obtain ⟨K4, s1, s2⟩ := ((A0.fr fB).go hdl hcl m3 c3).put hdl hcl (j := 4) (by omega) y
      simp [t0, t2, t3, tab, s1]
      exact s2.more (by omega)
    simp [t0, t2, t3, tab, l1, o1]
    refine (l3Two_ok v1 _).mono fun r K' ⟨e1, e2⟩ => ?_
    subst e1 e2
    by_cases o2 : 3 ≤ v1 ∧ v1 ≤ 7
    · simp [t0, t2, t3, o2]
      refine (pick_ok c 4 _ _ (by omega) A0.cur).mono fun r K3 ⟨⟨y, e1, _⟩, c3, m3⟩ => ?_
      subst e1
      obtain ⟨K4, s1, s2⟩ := (A0.go hdl hcl m3 c3).put hdl hcl (j := 2) (by omega) y
      simp [t0, t2, t3, tab, s1]
      refine (pick_ok c 4 _ _ (by omega) s2.cur).mono fun r K5 ⟨⟨y2, e1, _⟩, c5, m5⟩ => ?_
      subst e1
      obtain ⟨K6, s3, s4⟩ := (s2.go hdl hcl m5 c5).put hdl hcl (j := 3) (by omega) y2
      simp [t0, t2, t3, tab, s3]
      exact s4.more (by omega)
    · simp [t0, t2, t3, o2]
      refine (pick_ok c 4 _ _ (by omega) A0.cur).mono fun r K3 ⟨⟨y, e1, _⟩, c3, m3⟩ => ?_
      subst e1
      obtain ⟨K4, s1, s2⟩ := (A0.go hdl hcl m3 c3).put hdl hcl (j := 2) (by omega) y
      simp [t0, t2, t3, tab, s1]
      exact s2.more (by omega)
  clear A0 l1 t0 t2 t3
  rintro ts K ⟨t0, t2, t3, A0⟩
  simp [t0]
  refine (one_ok c 60 _ K (by omega) A0.cur).mono fun r K3 ⟨⟨y, e1⟩, c3, m3⟩ => ?_
  subst e1
  have A1 := A0.go hdl hcl m3 c3
  have fin : ∀ (K : Hp) (x : Ins), K[d]? = some (some ⟨5, true, x.enc⟩) → InsAt c (n + 40) H d K → ∃ K', loadA tN K (.ptr d 0) = some (.agg x.enc) ∧ storeA tN K (.ptr H.length 0) (.agg x.enc) = some K' ∧ loadA tN K' (.ptr H.length 0) = some (.agg x.enc) ∧ Cur K' c (n + 40) ∧ Moves c H K' := by
    intro K x hx A
    obtain ⟨K', s1, s2, s3, s4⟩ := put_all A.cell rfl x
    exact ⟨K', by simp [loadA, hx, Ins.enc], s1, s2, A.cur.keeps s3 fun b hb => by omega, Moves.up A.mov s3 fun b hb => by omega⟩
  cases y with
  | false =>
    obtain ⟨x, hx⟩ := A1.ins
    obtain ⟨K', s1, s2, s3, s4, s5⟩ := fin K3 x hx (A1.more (by omega))
    simp [t2, t3, tab, s1, s2, s3]
    exact ⟨⟨x, rfl⟩, s4, s5⟩
  | true =>
    simp [t0, t2, t3]
    refine (pick_ok c 10 _ _ (by omega) A1.cur).mono fun r K4 ⟨⟨y1, e1, _⟩, c4, m4⟩ => ?_
    subst e1
    have A2 := A1.go hdl hcl m4 c4
    simp [t0, t2, t3]
    refine (pick_ok c 10 _ _ (by omega) A2.cur).mono fun r K5 ⟨⟨y2, e1, _⟩, c5, m5⟩ => ?_
    subst e1
    have A3 := A2.go hdl hcl m5 c5
    simp [t0, t2, t3, tab]
    refine (pick_ok c 3 _ _ (by omega) A3.cur).mono fun r K6 ⟨⟨y3, e1, _⟩, c6, m6⟩ => ?_
    subst e1
    have A4 := A3.go hdl hcl m6 c6
    have r2 := ints_row K6 [0, 1, 65536]
    simp at r2
    have fB := Fr.app K6 [some ⟨1, true, [.int .i64 0, .int .i64 1, .int .i64 65536]⟩]
    have hlc := A4.cur.lt
    simp [t0, t2, t3, tab, buildSliceA, zerosA, fillA, over]
    refine (among_ok c _ _ _ _ (by omega) (by simp) (by simp) (A4.cur.fr fB) r2 (fun b hb => by cases hb; omega)).mono fun r K7 ⟨⟨y4, e1, _⟩, c7, m7⟩ => ?_
    subst e1
    have A5 := (A4.fr fB).go hdl hcl m7 c7
    obtain ⟨x0, hx0⟩ := A5.ins
    obtain ⟨K8, p1, p2, p3, p4⟩ := put_all hx0 rfl ⟨y1, IntKind.i64.wrap (y2 - 1), y3, 0, y4⟩
    have A6 : InsAt c (n + 40) H d K8 := ⟨p3.2 _ _ A5.cell fun e => by omega, ⟨_, p4⟩, (A5.cur.keeps p3 fun b hb => by omega).mono (by omega), Moves.up A5.mov p3 fun b hb => by omega⟩
    obtain ⟨K', s1, s2, s3, s4, s5⟩ := fin K8 _ p4 A6
    simp only [Ins.enc] at p1 s1 s2 s3
    simp [t0, t2, t3, tab, fillA, over, p1, s1, s2, s3]
    exact ⟨⟨⟨y1, IntKind.i64.wrap (y2 - 1), y3, 0, y4⟩, rfl⟩, s4, s5⟩
set_option maxRecDepth 100000 in
theorem code3_ok (c : Nat) (n : Int) (H : Hp) (hn : n ≤ 50000) (hc : Cur H c n) : T Tryz.prog 33 [.ptr c 0] H (fun r K => (∃ l : List Ins, Own 5 K r (l.map Ins.enc) ∧ l.length ≤ 31) ∧ Fresh H.length r ∧ Cur K c (n + 2000) ∧ Moves c H K) := by
  refine T.by tabOk Tryz.func33 (by kernel_rfl) rfl _ (by simp [Tryz.f33]) H _ ?_
  have hcl := hc.lt
  simp [Tryz.f33]
  refine (pick_ok c 10 n H (by omega) hc).mono fun r K0 ⟨⟨x, e1, x0, x1⟩, c0, m0⟩ => ?_
  subst e1
  simp
  refine (one_ok c 20 _ K0 (by omega) c0).mono fun r K1 ⟨⟨y, e1⟩, c1, m1⟩ => ?_
  subst e1
  simp only [After_eq, Rg_nil, post_sq, W_seq]
  refine W_cut (fun ts K => ts 0 = .ptr c 0 ∧ ts 3 = .nil ∧ (∃ x, ts 4 = .int .i64 x ∧ 0 ≤ x ∧ x ≤ 31) ∧ Cur K c (n + 6) ∧ Moves c H K) ?_ ?_
  · cases y with
    | false =>
      simp
      exact ⟨by omega, c1.mono (by omega), m0.trans m1⟩
    | true =>
      simp
      refine (pick_ok c 2 _ K1 (by omega) c1).mono fun r K2 ⟨⟨x, e1, x0, x1⟩, c2, m2⟩ => ?_
      subst e1
      have hw := wrap64 (x := 30 + x) (by omega) (by omega)
      simp [tab, hw]
      exact ⟨by omega, c2.mono (by omega), (m0.trans m1).trans m2⟩
  rintro ts K ⟨t0, t3, ⟨x, t4, x0, x1⟩, cc, hm⟩
  obtain ⟨m, rfl⟩ := Int.eq_ofNat_of_zero_le x0
  clear x0 c0 c1 m0 m1
  simp
  refine W_loop _ fun I hI => ?_
  have key : ∀ (d : Nat) (ts : TS) (K : Hp) (v : AV) (l : List Ins), l.length + d ≤ 31 → Own 5 K v (l.map Ins.enc) → Fresh H.length v → Cur K c (n + 6 + 42 * l.length) → Moves c H K → (ts 0 = .ptr c 0 ∧ ts 3 = v ∧ ts 4 = .int .i64 d) → I ts K := by
    intro d
    induction d with
    | zero =>
      intro ts K v l hl ho hf hcc hK hts
      apply hI
      simp [hts, tab]
      exact ⟨⟨l, ho, by omega⟩, hf, hcc.mono (by omega), hK⟩
    | succ d ih =>
      intro ts K v l hl ho hf hcc hK hts
      apply hI
      have hpos : (0 : Int) < (d : Int) + 1 := by omega
      have hw := wrap64 (x := (d : Int)) (by omega) (by omega)
      simp [hts, tab, hpos]
      refine (instr_ok c _ K (by omega) hcc).mono fun r K1 ⟨⟨x, e1⟩, c1, m1⟩ => ?_
      subst e1
      have ho1 := ho.keeps m1 fun b hb e => by have := hf b hb; omega
      obtain ⟨u', K3, a1, a2, a3, a4⟩ := ho1.pushX (bytes := 40) (e := x.enc) rfl (by decide) (by decide) (by simp; omega)
      have M1 := hK.trans m1
      simp only [Ins.enc] at a1
      simp [hts, tab, hw, Ins.enc, buildSliceA, zerosA, fillA, over, a1]
      exact ih _ K3 u' (l ++ [x]) (by simp; omega) (by simpa using a2) (fun b hb => (a4 b hb).elim (hf b) fun h => Nat.le_trans M1.1 h) ((c1.keeps a3 fun b hb => by have := hf b hb; omega).mono (by simp; omega)) (Moves.up M1 a3 hf) (by simp [hts])
  exact key m _ K .nil [] (by simp; omega) (by simpa using Own.nil 5 K) (Fresh.nil _) (cc.mono (by simp)) hm (by simp [t0, t3, t4])
theorem Moves.free {H K : Hp} {x : Option Blk} (h : Moves H.length (H ++ [x]) K) : Fr H K := Fr.then (Fr.app H [x]) h fun b hb => by omega
end Go.Proofs.YtdbnokeegocpbaaGreat.Am
