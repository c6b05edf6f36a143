/- What is needed behind a block: both ways. No condition. -/
import Derived.Test.YtdbnokeegocpbaaLAliveMath
import Derived.Test.YtdbnokeegocpbaaLIntSS
namespace Go.Proofs.Ytdbnokeegocpbaa.Am
open Go Go.RowKit
set_option linter.unusedSimpArgs false
set_option linter.unusedVariables false

theorem LRow.getD {K : Hp} {v : AV} {l : List (List Int)} {us : List AV} (h : LRow K v l us) {e : Nat} (he : tab e = some tL) {x : Int} (h0 : 0 ≤ x) (h1 : x < (l.length : Int)) :
    ∃ b q u, indexAddrA tab (.slice e) K v (.int .i64 x) = some (.ptr b q) ∧ loadA tL K (.ptr b q) = some u ∧ Row 1 K u (ints (l.getD x.toNat [])) := by
  obtain ⟨k, rfl⟩ := Int.eq_ofNat_of_zero_le h0
  have hk : k < l.length := by omega
  obtain ⟨b, q, u, _, h2, h3, h4⟩ := h.get he (i := k) (t := l.getD k []) (by rw [List.getD_eq_getElem?_getD, List.getElem?_eq_getElem hk]; rfl)
  exact ⟨b, q, u, h2, h3, by simpa using h4⟩
/-- A list of good names, made from a heap on. -/
def NewS (S : Int → Prop) (H0 : Hp) (u : AV) (K : Hp) : Prop := ∃ L1, Row 1 K u (ints L1) ∧ GoodN L1 ∧ (∀ n, n ∈ L1 ↔ S n) ∧ Fresh H0.length u ∧ Fr H0 K
set_option maxRecDepth 100000 in
theorem l7Behind_ok (b : Bk) (u : AV) (Ls : List (List Int)) (us : List AV) (v : AV) (H : Hp) (hb : GoodB Ls.length b) (hu : u.one = true) (hl8 : Ls.length ≤ 1048576) (hg : ∀ L ∈ Ls, GoodN L) (hv : LRow H v Ls us) : T Try.prog 141 [.agg (cellsB b u), v] H (NewS (behS b Ls) H) := by
  refine T.by tabOk Try.func141 (by kernel_rfl) rfl _ (by simp [Try.f141]) H _ ?_
  obtain ⟨K0, hK0, f0⟩ : ∃ K0, H ++ [some ⟨4, true, cellsB b u⟩] = K0 ∧ Fr H K0 := ⟨_, rfl, Fr.app _ _⟩
  have b0 : K0[H.length]? = some (some ⟨4, true, cellsB b u⟩) := by rw [← hK0]; simp
  have q1 : loadA tI K0 (.ptr H.length 1) = some (.int .i64 b.test) := load_at b0 rfl rfl rfl
  have q2 : loadA tI K0 (.ptr H.length 2) = some (.int .i64 b.thn) := load_at b0 rfl rfl rfl
  have q3 : loadA tI K0 (.ptr H.length 3) = some (.int .i64 b.els) := load_at b0 rfl rfl rfl
  have hK0l : K0.length = H.length + 1 := by rw [← hK0]; simp
  simp only [cellsB] at hK0
  have hu2 := cells_of_one hu
  simp [Try.f141, tab, cellsB, hu, hu2, hK0, q2, q3, buildSliceA, zerosA, fillA, over]
  have hw : Row 1 (K0 ++ [some ⟨1, true, [.int .i64 b.thn, .int .i64 b.els]⟩]) (.sl K0.length 0 2) (ints [b.thn, b.els]) := by
    have := (Own.new (sz := 1) (K := K0) (es := ints [b.thn, b.els]) (ints_one _)).row
    simpa [ints] using this
  have fA := Fr.app K0 [some (⟨1, true, [.int .i64 b.thn, .int .i64 b.els]⟩ : Blk)]
  refine W_loop _ fun I hI => ?_
  have key : ∀ (r p : List Int) (ts : TS) (K : Hp) (w : AV), [b.thn, b.els] = p ++ r → NewS (fun n => ∃ t ∈ p, 0 ≤ t ∧ n ∈ Ls.getD t.toNat []) H w K → Fr (K0 ++ [some ⟨1, true, [.int .i64 b.thn, .int .i64 b.els]⟩]) K → (ts 1 = v ∧ ts 2 = .ptr H.length 0 ∧ ts 5 = w ∧ ts 14 = .sl K0.length 0 2 ∧ ts 15 = .int .i64 2 ∧ ts 16 = .int .i64 p.length) → I ts K := by
    intro r
    induction r with
    | nil =>
      intro p ts K w e hs hK hts
      apply hI
      simp at e
      subst e
      obtain ⟨L1, n1, n2, n3, n4, n5⟩ := hs
      have c0 := hK.2 _ _ (fA.2 _ _ b0 id) id
      have q1 : loadA tI K (.ptr H.length 1) = some (.int .i64 b.test) := load_at c0 rfl rfl rfl
      have q2 : loadA tI K (.ptr H.length 2) = some (.int .i64 b.thn) := load_at c0 rfl rfl rfl
      have q3 : loadA tI K (.ptr H.length 3) = some (.int .i64 b.els) := load_at c0 rfl rfl rfl
      have hm : ∀ n, n ∈ L1 ↔ (0 ≤ b.thn ∧ n ∈ Ls.getD b.thn.toNat []) ∨ (0 ≤ b.els ∧ n ∈ Ls.getD b.els.toNat []) := fun n => by rw [n3 n]; simp
      have h8 := goodN_few n2
      by_cases hte : b.thn = b.els
      · simp [hts, tab, q2, q3, hte]
        refine ⟨L1, n1, n2, fun n => ?_, n4, n5⟩
        rw [hm n]
        unfold behS
        constructor
        · rintro (h | h)
          · exact .inl h
          · exact .inr (.inl h)
        · rintro (h | h | h)
          · exact .inl h
          · exact .inr h
          · exact absurd hte h.1
      · simp [hts, tab, q1, q2, q3, hte]
        refine (l1PutE_ok L1 w b.test K (by omega) n2.2 n1).mono fun y K4 ⟨⟨L3, y1, y2, y3⟩, y4, y5⟩ => ?_
        simp [tab]
        refine ⟨L3, y1, ⟨fun n hn => ?_, y2⟩, fun n => ?_, fun b hb => (y5 b hb).elim (n4 b) fun h => Nat.le_trans n5.1 h, n5.trans y4⟩
        · rcases (y3 n).1 hn with rfl | h
          · exact hb.2.1
          · exact n2.1 n h
        · rw [y3 n, hm n]
          unfold behS
          constructor
          · rintro (h | h | h)
            · exact .inr (.inr ⟨hte, h⟩)
            · exact .inl h
            · exact .inr (.inl h)
          · rintro (h | h | h)
            · exact .inr (.inl h)
            · exact .inr (.inr h)
            · exact .inl h.2
    | cons x r ih =>
      intro p ts K w e hs hK hts
      apply hI
      have hx : x = b.thn ∨ x = b.els := by
        have : x ∈ [b.thn, b.els] := by rw [e]; simp
        simpa using this
      have hp2 : p.length + 1 + r.length = 2 := by
        have := congrArg List.length e
        simp at this
        omega
      have hlt : (p.length : Int) < 2 := by omega
      obtain ⟨b1, q, _, e1, e2⟩ := Row.get1 (hw.fr hK) (tab := tab) (e := 3) (ety := tI) rfl rfl rfl (i := p.length) (a := x) (by rw [e]; simp) .i64
      have hwp := wrap64 (x := p.length + 1) (by omega) (by omega)
      have hnew : ∀ L1 : List Int, x < 0 → ((fun n => ∃ t ∈ p, 0 ≤ t ∧ n ∈ Ls.getD t.toNat []) = fun n => ∃ t ∈ p ++ [x], 0 ≤ t ∧ n ∈ Ls.getD t.toNat []) := fun _ hx0 => funext fun n => propext (by
        constructor
        · rintro ⟨t, ht, h⟩; exact ⟨t, by simp [ht], h⟩
        · rintro ⟨t, ht, h⟩
          rcases List.mem_append.1 ht with ht | ht
          · exact ⟨t, ht, h⟩
          · simp at ht; subst ht; exact absurd h.1 (by omega))
      by_cases hx0 : x < 0
      · simp [hts, tab, hlt, e1, e2, hx0, hwp]
        exact ih (p ++ [x]) _ K w (by simp [e]) (by rw [← hnew [] hx0]; exact hs) hK (by simp [hts])
      have hxl : x < (Ls.length : Int) := by
        have h1 := hb.2.2.1
        have h2 := hb.2.2.2
        rcases hx with rfl | rfl <;> omega
      obtain ⟨b2, q2', u2, g1, g2, g3⟩ := (hv.fr (f0.trans (fA.trans hK))).getD (e := 25) rfl (by omega) hxl
      have hgd := getD_good hg x.toNat
      have h8d := goodN_few hgd
      have hlen := g3.len 3
      generalize hLx : Ls.getD x.toNat [] = Lx at g3 hgd h8d hlen
      simp [hts, tab, hlt, e1, e2, hx0, g1, g2, hlen]
      refine W_loop _ fun I2 hI2 => ?_
      have key2 : ∀ (r2 p2 : List Int) (ts : TS) (K2 : Hp) (w : AV), Lx = p2 ++ r2 → NewS (fun n => (∃ t ∈ p, 0 ≤ t ∧ n ∈ Ls.getD t.toNat []) ∨ n ∈ p2) H w K2 → Fr K K2 → (ts 1 = v ∧ ts 2 = .ptr H.length 0 ∧ ts 5 = w ∧ ts 14 = .sl K0.length 0 2 ∧ ts 15 = .int .i64 2 ∧ ts 16 = .int .i64 p.length ∧ ts 25 = u2 ∧ ts 26 = .int .i64 Lx.length ∧ ts 27 = .int .i64 p2.length) → I2 ts K2 := by
        intro r2
        induction r2 with
        | nil =>
          intro p2 ts K2 w ep hs2 hK2 hts
          apply hI2
          simp at ep
          simp [hts, tab, ep, hwp]
          refine ih (p ++ [x]) _ K2 w (by simp [e]) ?_ (hK.trans hK2) (by simp [hts])
          obtain ⟨L1, n1, n2, n3, n4, n5⟩ := hs2
          refine ⟨L1, n1, n2, fun n => (n3 n).trans ?_, n4, n5⟩
          rw [← ep, ← hLx]
          constructor
          · rintro (⟨t, ht, h⟩ | h)
            · exact ⟨t, by simp [ht], h⟩
            · exact ⟨x, by simp, by omega, h⟩
          · rintro ⟨t, ht, h⟩
            rcases List.mem_append.1 ht with ht | ht
            · exact .inl ⟨t, ht, h⟩
            · simp at ht; subst ht; exact .inr h.2
        | cons m r2 ih2 =>
          intro p2 ts K2 w ep hs2 hK2 hts
          apply hI2
          have hlt2 : (p2.length : Int) < Lx.length := by simp [ep]; omega
          obtain ⟨b', q', _, d1, d2⟩ := Row.get1 (g3.fr hK2) (tab := tab) (e := 3) (ety := tI) rfl rfl rfl (i := p2.length) (a := m) (by simp [ep]) .i64
          have hw2 := wrap64 (x := p2.length + 1) (by omega) (by omega)
          obtain ⟨L1, n1, n2, n3, n4, n5⟩ := hs2
          have h8 := goodN_few n2
          simp [hts, tab, hlt2, d1, d2]
          refine (l1PutE_ok L1 w m K2 (by omega) n2.2 n1).mono fun y K4 ⟨⟨L3, y1, y2, y3⟩, y4, y5⟩ => ?_
          simp [hts, tab, hw2]
          refine ih2 (p2 ++ [m]) _ K4 y (by simp [ep]) ⟨L3, y1, ⟨fun n hn => ?_, y2⟩, fun n => ?_, fun b hb => (y5 b hb).elim (n4 b) fun h => Nat.le_trans n5.1 h, n5.trans y4⟩ (hK2.trans y4) (by simp [hts])
          · rcases (y3 n).1 hn with rfl | h
            · exact hgd.1 n (by simp [ep])
            · exact n2.1 n h
          · rw [y3 n, n3 n]
            simp only [List.mem_append, List.mem_singleton]
            constructor
            · rintro (h | h | h)
              · exact .inr (.inr h)
              · exact .inl h
              · exact .inr (.inl h)
            · rintro (h | h | h)
              · exact .inr (.inl h)
              · exact .inr (.inr h)
              · exact .inl h
      exact key2 Lx [] _ K w rfl (by simpa using hs) (Fr.refl _) (by simp [hts])
  exact key [b.thn, b.els] [] _ _ .nil rfl ⟨[], (Own.nil 1 _).row, ⟨by simp, by simp⟩, by simp, Fresh.nil _, f0.trans fA⟩ (Fr.refl _) (by simp)
/-- A row of sets, each an array of eight truths. -/
structure ARow (K : Hp) (v : AV) (Ls : List (List Int)) (es : List (List AV)) : Prop where
  own : Own 8 K v es
  len : es.length = Ls.length
  sets : ∀ (k : Nat) (L : List Int) (c : List AV), Ls[k]? = some L → es[k]? = some c → Set8 c (· ∈ L)
theorem ARow.keeps {X : Nat → Prop} {K K' : Hp} {v : AV} {l : List (List Int)} {es : List (List AV)} (h : ARow K v l es) (k : Keeps X K K') (hn : ∀ b, v.at b → ¬ X b) : ARow K' v l es := ⟨h.own.keeps k hn, h.len, h.sets⟩
theorem ARow.fr {K K' : Hp} {v : AV} {l : List (List Int)} {es : List (List AV)} (h : ARow K v l es) (k : Fr K K') : ARow K' v l es := h.keeps k fun _ _ => id
theorem ARow.get {K : Hp} {v : AV} {l : List (List Int)} {es : List (List AV)} (h : ARow K v l es) {k : Nat} (hk : k < l.length) :
    ∃ b c, Set8 c (· ∈ l.getD k []) ∧ es[k]? = some c ∧ indexAddrA tab (.slice 106) K v (.int .i64 (k : Int)) = some (.ptr b (k * 8)) ∧ loadA tS8 K (.ptr b (k * 8)) = some (.agg c) ∧ ∀ j : Nat, j < 8 → loadA tB K (.ptr b (k * 8 + j)) = c[j]? := by
  have hk2 : k < es.length := by rw [h.len]; exact hk
  have he : es[k]? = some es[k] := List.getElem?_eq_getElem hk2
  have hrow : Row 8 K v (es.map id) := by simpa using h.own.row
  obtain ⟨b, q, _, h1, h2, h3⟩ := Row.get (enc := id) (ety := tS8) hrow (show tab 106 = some tS8 from rfl) he .i64
  obtain ⟨b', hb', f1, -⟩ := h.own.store (tab := tab) (e := 106) (ety := tS8) rfl he .i64
  rw [h1] at f1
  obtain ⟨rfl, rfl⟩ : b = b' ∧ q = k * 8 := by simpa using f1
  refine ⟨b, es[k], ?_, he, h1, h2 rfl, fun j hj => h3 tB j rfl rfl hj⟩
  refine h.sets k _ _ ?_ he
  rw [List.getD_eq_getElem?_getD, List.getElem?_eq_getElem hk]
  rfl
theorem idx8F {K : Hp} {b o j : Nat} (hj : j < 8) (k : IntKind) : indexAddrA tab (.arr 8 4) K (.ptr b o) (.int k (j : Int)) = some (.ptr b (o + j)) := by
  have hj' : (j : Int) < 8 := by omega
  simp [indexAddrA, tab, hj']
theorem set_same {α : Type} {l : List α} {i : Nat} {x : α} (h : l[i]? = some x) : l.set i x = l := by
  apply List.ext_getElem?
  intro j
  rw [List.getElem?_set]
  by_cases e : i = j
  · subst e
    rw [if_pos rfl, if_pos (List.getElem?_eq_some_iff.1 h).1, h]
  · rw [if_neg e]
set_option maxRecDepth 100000 in
theorem liveBehind_ok (b : Bk) (u : AV) (Ls : List (List Int)) (es : List (List AV)) (v : AV) (H : Hp) (hb : GoodB Ls.length b) (hu : u.one = true) (hl8 : Ls.length ≤ 1048576) (hv : ARow H v Ls es) : T Try.prog 144 [.agg (cellsB b u), v] H (fun r K => (∃ c, r = .agg c ∧ Set8 c (behS b Ls)) ∧ Fr H K) := by
  refine T.by tabOk Try.func144 (by kernel_rfl) rfl _ (by simp [Try.f144]) H _ ?_
  have hu2 := cells_of_one hu
  obtain ⟨K0, hK0, f0⟩ : ∃ K0, H ++ [some ⟨4, true, cellsB b u⟩, some ⟨8, true, List.replicate 8 (.bool false)⟩, some ⟨8, true, List.replicate 8 (.bool false)⟩] = K0 ∧ Fr H K0 := ⟨_, rfl, Fr.app _ _⟩
  have b0 : K0[H.length]? = some (some ⟨4, true, cellsB b u⟩) := by rw [← hK0]; simp
  have b1 : K0[H.length + 1]? = some (some ⟨8, true, List.replicate 8 (.bool false)⟩) := by rw [← hK0]; simp [-List.reduceReplicate]
  have b2 : K0[H.length + 2]? = some (some ⟨8, true, List.replicate 8 (.bool false)⟩) := by rw [← hK0]; simp [-List.reduceReplicate]
  have q2 : loadA tI K0 (.ptr H.length 2) = some (.int .i64 b.thn) := load_at b0 rfl rfl rfl
  have q3 : loadA tI K0 (.ptr H.length 3) = some (.int .i64 b.els) := load_at b0 rfl rfl rfl
  have hK0l : K0.length = H.length + 3 := by rw [← hK0]; simp
  have hst : storeA tS8 K0 (.ptr (H.length + 2) 0) (.agg (List.replicate 8 (.bool false))) = some K0 := by
    rw [storeA_eq, b2]
    show some (K0.set (H.length + 2) (some (⟨8, true, List.replicate 8 (.bool false)⟩ : Blk))) = some K0
    rw [set_same b2]
  simp only [cellsB] at hK0
  simp [Try.f144, tab, cellsB, hu, hu2, buildA, hK0, hst, q2, q3, buildSliceA, zerosA, fillA, over, -List.reduceReplicate]
  have hw : Row 1 (K0 ++ [some ⟨1, true, [.int .i64 b.thn, .int .i64 b.els]⟩]) (.sl K0.length 0 2) (ints [b.thn, b.els]) := by
    have := (Own.new (sz := 1) (K := K0) (es := ints [b.thn, b.els]) (ints_one _)).row
    simpa [ints] using this
  have fA := Fr.app K0 [some (⟨1, true, [.int .i64 b.thn, .int .i64 b.els]⟩ : Blk)]
  obtain ⟨K1, hK1⟩ : ∃ K1, K0 ++ [some ⟨1, true, [.int .i64 b.thn, .int .i64 b.els]⟩] = K1 := ⟨_, rfl⟩
  rw [hK1] at hw fA
  simp only [hK1]
  refine W_loop _ fun I hI => ?_
  have key : ∀ (r p : List Int) (ts : TS) (K : Hp) (c : List AV), [b.thn, b.els] = p ++ r → K[H.length + 2]? = some (some ⟨8, true, c⟩) → Set8 c (fun n => ∃ t ∈ p, 0 ≤ t ∧ n ∈ Ls.getD t.toNat []) → Keeps (fun b => b = H.length + 2) K1 K → (ts 1 = v ∧ ts 2 = .ptr H.length 0 ∧ ts 4 = .ptr (H.length + 1) 0 ∧ ts 5 = .ptr (H.length + 2) 0 ∧ ts 14 = .sl K0.length 0 2 ∧ ts 15 = .int .i64 2 ∧ ts 16 = .int .i64 p.length) → I ts K := by
    intro r
    induction r with
    | nil =>
      intro p ts K c e hc hs hK hts
      apply hI
      simp at e
      subst e
      have c0 := hK.2 _ _ (fA.2 _ _ b0 id) (by omega)
      have c1 := hK.2 _ _ (fA.2 _ _ b1 id) (by omega)
      have q1 : loadA tI K (.ptr H.length 1) = some (.int .i64 b.test) := load_at c0 rfl rfl rfl
      have q2 : loadA tI K (.ptr H.length 2) = some (.int .i64 b.thn) := load_at c0 rfl rfl rfl
      have q3 : loadA tI K (.ptr H.length 3) = some (.int .i64 b.els) := load_at c0 rfl rfl rfl
      have fK : Fr H K := Fr.then (f0.trans fA) hK (by rintro b rfl; omega)
      by_cases hte : b.thn = b.els
      · have hs' : Set8 c (behS b Ls) := hs.congr fun n _ => by
          unfold behS
          simp [hte]
        obtain ⟨K', k1, k2, k3, k4⟩ := hs'.over c1 (by simp)
        have hld := hs'.load hc
        have hl' := hs'.load k2
        simp [hts, tab, q2, q3, hte, hld, k1, hl', -List.reduceReplicate]
        exact ⟨hs', Fr.then fK k3 (by rintro b rfl; omega)⟩
      · obtain ⟨j, hj, hj8⟩ : ∃ j : Nat, b.test = j ∧ j < 8 := by
          have := hb.2.1
          unfold Nm at this
          obtain ⟨j, hj⟩ := Int.eq_ofNat_of_zero_le this.1
          exact ⟨j, hj, by omega⟩
        obtain ⟨K2, s1, s2, s3, s4⟩ := hs.store hc hj8 true
        have i8 := idx8F (K := K) (b := H.length + 2) (o := 0) hj8 .i64
        simp only [Nat.zero_add] at i8
        have hs' : Set8 (over c j [.bool true]) (behS b Ls) := (hs.put hj8 true).congr fun n _ => by
          unfold behS
          simp [hte, hj]
          by_cases hn : n = j <;> simp [hn]
        generalize over c j [.bool true] = c' at s2 hs'
        have c1' := s3.2 _ _ c1 (by omega)
        obtain ⟨K', k1, k2, k3, k4⟩ := hs'.over c1' (by simp)
        have hld := hs'.load s2
        have hl' := hs'.load k2
        rw [hj] at q1
        simp [hts, tab, q1, q2, q3, hte, i8, s1, hld, k1, hl', -List.reduceReplicate]
        exact ⟨hs', Fr.then (Fr.then fK s3 (by rintro b rfl; omega)) k3 (by rintro b rfl; omega)⟩
    | cons x r ih =>
      intro p ts K c e hc hs hK hts
      apply hI
      have hx : x = b.thn ∨ x = b.els := by
        have : x ∈ [b.thn, b.els] := by rw [e]; simp
        simpa using this
      have hp2 : p.length + 1 + r.length = 2 := by
        have := congrArg List.length e
        simp at this
        omega
      have hlt : (p.length : Int) < 2 := by omega
      obtain ⟨b1, q, _, e1, e2⟩ := Row.get1 (hw.keeps hK (by rintro b hb rfl; have : K0.length = H.length + 2 := hb; omega)) (tab := tab) (e := 3) (ety := tI) rfl rfl rfl (i := p.length) (a := x) (by rw [e]; simp) .i64
      have hwp := wrap64 (x := p.length + 1) (by omega) (by omega)
      simp [hts, tab, hlt, e1, e2, -List.reduceReplicate]
      have hvl := hv.own.lt
      refine W_loop _ fun I2 hI2 => ?_
      have key2 : ∀ (r2 i : Nat) (ts : TS) (K2 : Hp) (c : List AV), i + r2 = 8 → K2[H.length + 2]? = some (some ⟨8, true, c⟩) → Set8 c (fun n => (∃ t ∈ p, 0 ≤ t ∧ n ∈ Ls.getD t.toNat []) ∨ (n < i ∧ 0 ≤ x ∧ n ∈ Ls.getD x.toNat [])) → Keeps (fun b => b = H.length + 2) K1 K2 → (ts 1 = v ∧ ts 2 = .ptr H.length 0 ∧ ts 4 = .ptr (H.length + 1) 0 ∧ ts 5 = .ptr (H.length + 2) 0 ∧ ts 14 = .sl K0.length 0 2 ∧ ts 15 = .int .i64 2 ∧ ts 16 = .int .i64 p.length ∧ ts 7 = .int .i64 x ∧ ts 20 = .int .i64 i) → I2 ts K2 := by
        intro r2
        induction r2 with
        | zero =>
          intro i ts K2 c ei hc2 hs2 hK2 hts
          apply hI2
          obtain rfl : i = 8 := by omega
          simp [hts, tab, hwp, -List.reduceReplicate]
          refine ih (p ++ [x]) _ K2 c (by simp [e]) hc2 (hs2.congr fun n hn => ?_) hK2 (by simp [hts])
          constructor
          · rintro (⟨t, ht, h⟩ | h)
            · exact ⟨t, by simp [ht], h⟩
            · exact ⟨x, by simp, h.2⟩
          · rintro ⟨t, ht, h⟩
            rcases List.mem_append.1 ht with ht | ht
            · exact .inl ⟨t, ht, h⟩
            · simp at ht; subst ht; exact .inr ⟨by unfold Nm at hn; omega, h⟩
        | succ r2 ih2 =>
          intro i ts K2 c ei hc2 hs2 hK2 hts
          apply hI2
          have hi8 : i < 8 := by omega
          have hi8' : (i : Int) < 8 := by omega
          obtain ⟨t, g1, g2⟩ := hs2.at hc2 hi8
          have i8 := idx8F (K := K2) (b := H.length + 2) (o := 0) hi8 .i64
          simp only [Nat.zero_add] at i8
          have hw2 := wrap64 (x := i + 1) (by omega) (by omega)
          have fin : ∀ (t' : Bool), (t' = true ↔ (∃ t ∈ p, 0 ≤ t ∧ (i : Int) ∈ Ls.getD t.toNat []) ∨ (0 ≤ x ∧ (i : Int) ∈ Ls.getD x.toNat [])) → ∃ K3, storeA tB K2 (.ptr (H.length + 2) i) (.bool t') = some K3 ∧ ∀ ts, (ts 1 = v ∧ ts 2 = .ptr H.length 0 ∧ ts 4 = .ptr (H.length + 1) 0 ∧ ts 5 = .ptr (H.length + 2) 0 ∧ ts 14 = .sl K0.length 0 2 ∧ ts 15 = .int .i64 2 ∧ ts 16 = .int .i64 p.length ∧ ts 7 = .int .i64 x ∧ ts 20 = .int .i64 ((i + 1 : Nat) : Int)) → I2 ts K3 := fun t' ht' => by
            obtain ⟨K3, s1, s2, s3, s4⟩ := hs2.store hc2 hi8 t'
            refine ⟨K3, s1, fun ts hts => ih2 (i + 1) ts K3 _ (by omega) s2 ((hs2.put hi8 t').congr fun n hn => ?_) (hK2.trans s3) hts⟩
            by_cases hni : n = i
            · subst hni
              simp only [ne_eq, not_true_eq_false, false_and, or_false, true_and, ht']
              constructor
              · rintro (h | h)
                · exact .inl h
                · exact .inr ⟨by omega, h⟩
              · rintro (h | h)
                · exact .inl h
                · exact .inr h.2
            · simp only [hni, false_and, false_or, ne_eq, not_false_eq_true, true_and]
              constructor
              · rintro (h | h)
                · exact .inl h
                · exact .inr ⟨by omega, h.2⟩
              · rintro (h | h)
                · exact .inl h
                · exact .inr ⟨by omega, h.2⟩
          have hirr : ¬ ((i : Int) < i) := by omega
          cases t with
          | true =>
            obtain ⟨K3, s1, s2⟩ := fin true (by
              simp only [true_iff]
              rcases g2.1 rfl with h | h
              · exact .inl h
              · exact absurd h.1 hirr)
            simp [hts, tab, hi8', i8, g1, s1, hw2, -List.reduceReplicate]
            exact s2 _ (by simp [hts])
          | false =>
            have hno : ¬ ∃ t ∈ p, 0 ≤ t ∧ (i : Int) ∈ Ls.getD t.toNat [] := fun h => by cases g2.2 (.inl h)
            by_cases hx0 : 0 ≤ x
            · have hxl : x < (Ls.length : Int) := by
                have h1 := hb.2.2.1
                have h2 := hb.2.2.2
                rcases hx with rfl | rfl <;> omega
              obtain ⟨k, rfl⟩ := Int.eq_ofNat_of_zero_le hx0
              have hk : k < Ls.length := by omega
              have hv2 : ARow K2 v Ls es := ((hv.fr f0).fr fA).keeps hK2 (by rintro b hb rfl; have := hvl _ hb; omega)
              obtain ⟨b3, c3, a1, a2, a3, a4, a5⟩ := hv2.get hk
              obtain ⟨t3, d1, d2⟩ := a1.2 i hi8
              have i9 := idx8F (K := K2) (b := b3) (o := k * 8) hi8 .i64
              have a6 := a5 i hi8
              rw [d1] at a6
              obtain ⟨K3, s1, s2⟩ := fin t3 (by
                rw [d2]
                simp only [Int.toNat_natCast]
                exact ⟨fun h => .inr ⟨by omega, h⟩, fun h => h.elim (fun h => absurd h hno) fun h => h.2⟩)
              simp [hts, tab, hi8', i8, g1, a3, i9, a6, s1, hw2, -List.reduceReplicate]
              exact s2 _ (by simp [hts])
            · obtain ⟨K3, s1, s2⟩ := fin false (by
                simp only [Bool.false_eq_true, false_iff]
                rintro (h | h)
                · exact hno h
                · exact hx0 h.1)
              simp [hts, tab, hi8', i8, g1, hx0, s1, hw2, -List.reduceReplicate]
              exact s2 _ (by simp [hts])
      refine key2 8 0 _ K c rfl hc (hs.congr fun n hn => ?_) hK (by simp [hts])
      constructor
      · exact .inl
      · rintro (h | h)
        · exact h
        · unfold Nm at hn; omega
  refine key [b.thn, b.els] [] _ _ (List.replicate 8 (.bool false)) rfl (fA.2 _ _ b2 id) (Set8.none.congr (by simp)) (Keeps.refl _ _) (by simp)
end Go.Proofs.Ytdbnokeegocpbaa.Am
