/- What is needed ahead of code: both ways to reckon it come to the same. No condition. -/
import Derived.Test.YtdbnokeegocpbaaGreatLInstrs
import Derived.Test.YtdbnokeegocpbaaGreatLCur
namespace Go.Proofs.YtdbnokeegocpbaaGreat.Am
open Go Go.RowKit
set_option linter.unusedSimpArgs false
set_option linter.unusedVariables false

/-! ### names that rise -/
abbrev Srt (L : List Int) : Prop := L.Pairwise (· < ·)
theorem srt_ext : ∀ {L L' : List Int}, Srt L → Srt L' → (∀ n, n ∈ L ↔ n ∈ L') → L = L'
  | [], [], _, _, _ => rfl
  | [], b :: L', _, _, h => by have := (h b).2 (by simp); simp at this
  | a :: L, [], _, _, h => by have := (h a).1 (by simp); simp at this
  | a :: L, b :: L', h1, h2, h => by
    have g1 := List.pairwise_cons.1 h1
    have g2 := List.pairwise_cons.1 h2
    have hab : a = b := by
      have ha := (h a).1 (by simp)
      have hb := (h b).2 (by simp)
      rcases List.mem_cons.1 ha with e | ha
      · exact e
      rcases List.mem_cons.1 hb with e | hb
      · exact e.symm
      have := g2.1 a ha
      have := g1.1 b hb
      omega
    subst hab
    rw [srt_ext g1.2 g2.2 fun n => ?_]
    have := h n
    simp only [List.mem_cons] at this
    constructor
    · intro hn
      rcases this.1 (.inr hn) with e | h
      · subst e; have := g1.1 n hn; omega
      · exact h
    · intro hn
      rcases this.2 (.inr hn) with e | h
      · subst e; have := g2.1 n hn; omega
      · exact h
def GoodN (L : List Int) : Prop := (∀ n ∈ L, Nm n) ∧ Srt L
theorem goodN_few {L : List Int} (h : GoodN L) : L.length ≤ 8 := by
  have : ∀ (k : Nat) (L : List Int), Srt L → (∀ n ∈ L, 8 - (k : Int) ≤ n ∧ n ≤ 7) → L.length ≤ k := by
    intro k
    induction k with
    | zero =>
      intro L _ h
      cases L with
      | nil => simp
      | cons a L => have := h a (by simp); simp at this; omega
    | succ k ih =>
      intro L hs h
      cases L with
      | nil => simp
      | cons a L =>
        have g := List.pairwise_cons.1 hs
        have := ih L g.2 fun n hn => by
          have h1 := h n (by simp [hn])
          have h2 := g.1 n hn
          have h3 := h a (by simp)
          omega
        simp
        omega
  refine this 8 L h.2 fun n hn => ?_
  have := h.1 n hn
  unfold Nm at this
  omega
theorem l7Names_ok (L : List Int) (v : AV) (H : Hp) (hm : L.length ≤ 1048576) (hv : Row 1 H v (ints L)) : T Tryz.prog 42 [v] H (fun r K => (∃ t, r = .bool t ∧ (t = true ↔ GoodN L)) ∧ K = H) := by
  refine T.by tabOk Tryz.func42 (by kernel_rfl) rfl _ (by simp [Tryz.f42]) H _ ?_
  have hlen := hv.len 3
  simp [Tryz.f42, tab, hlen]
  refine W_loop _ fun I hI => ?_
  have key : ∀ (r p : List Int) (ts : TS), L = p ++ r → GoodN p → (ts 0 = v ∧ ts 5 = v ∧ ts 6 = .int .i64 L.length ∧ ts 7 = .int .i64 p.length) → I ts H := by
    intro r
    induction r with
    | nil =>
      intro p ts e hp hts
      apply hI
      simp at e
      subst e
      simp [hts, tab]
      exact hp
    | cons a r ih =>
      intro p ts e hp hts
      apply hI
      have hlt : (p.length : Int) < L.length := by simp [e]; omega
      obtain ⟨b, q, _, e1, e2⟩ := Row.get1 hv (tab := tab) (e := 3) (ety := tI) rfl rfl rfl (i := p.length) (a := a) (by simp [e]) .i64
      have hw := wrap64 (x := p.length + 1) (by omega) (by omega)
      simp [hts, tab, hlt, e1, e2]
      refine (l3Name_ok a H).mono fun y K ⟨y1, y2⟩ => ?_
      subst y1 y2
      by_cases ha : Nm a
      case neg =>
        simp [hts, tab, ha]
        exact fun h => ha (h.1 a (by simp [e]))
      rcases List.eq_nil_or_concat p with rfl | ⟨p', c, hp'⟩
      · simp at hts hw
        simp [hts, tab, ha]
        exact ih [a] _ (by simp [e]) ⟨by simpa using ha, by simp⟩ (by simp [hts, hw])
      rw [List.concat_eq_append] at hp'
      subst hp'
      have hpos : (0 : Int) < ((p' ++ [c]).length : Nat) := by simp
      have hw2 := wrap64 (x := (p'.length : Int)) (by simp at hlt; omega) (by simp at hlt; omega)
      obtain ⟨b2, q2, _, e3, e4⟩ := Row.get1 hv (tab := tab) (e := 3) (ety := tI) rfl rfl rfl (i := p'.length) (a := c) (by simp [e]) .i64
      simp at hts hpos hw hlt
      by_cases hca : a ≤ c
      · simp [hts, tab, ha, hpos, hw2, e3, e4, hca]
        intro h
        have h2 := h.2
        rw [e, List.append_assoc] at h2
        have := (List.pairwise_append.1 h2).2.1
        simp at this
        omega
      · simp [hts, tab, ha, hpos, hw2, e3, e4, hca, hw]
        refine ih (p' ++ [c] ++ [a]) _ (by simp [e]) ⟨fun n hn => ?_, ?_⟩ (by simp [hts]; omega)
        · rcases List.mem_append.1 hn with hn | hn
          · exact hp.1 n hn
          · simp at hn; subst hn; exact ha
        · refine List.pairwise_append.2 ⟨hp.2, by simp, fun x hx y hy => ?_⟩
          simp at hy
          subst hy
          rcases List.mem_append.1 hx with hx | hx
          · have := (List.pairwise_append.1 hp.2).2.2 x hx c (by simp)
            omega
          · simp at hx; omega
  exact key L [] _ rfl ⟨by simp, by simp⟩ (by simp)
theorem areNames_ok (L : List Int) (v : AV) (H : Hp) (hm : L.length ≤ 1048576) (hv : Row 1 H v (ints L)) : T Tryz.prog 37 [v] H (fun r K => (∃ t, r = .bool t ∧ (t = true ↔ GoodN L)) ∧ K = H) := by
  refine T.by tabOk Tryz.func37 (by kernel_rfl) rfl _ (by simp [Tryz.f37]) H _ ?_
  have hlen := hv.len 3
  simp [Tryz.f37, tab, hlen]
  refine W_loop _ fun I hI => ?_
  have key : ∀ (r p : List Int) (ts : TS), L = p ++ r → GoodN p → (ts 0 = v ∧ ts 5 = v ∧ ts 6 = .int .i64 L.length ∧ ts 7 = .int .i64 p.length) → I ts H := by
    intro r
    induction r with
    | nil =>
      intro p ts e hp hts
      apply hI
      simp at e
      subst e
      simp [hts, tab]
      exact hp
    | cons a r ih =>
      intro p ts e hp hts
      apply hI
      have hlt : (p.length : Int) < L.length := by simp [e]; omega
      obtain ⟨b, q, _, e1, e2⟩ := Row.get1 hv (tab := tab) (e := 3) (ety := tI) rfl rfl rfl (i := p.length) (a := a) (by simp [e]) .i64
      have hw := wrap64 (x := p.length + 1) (by omega) (by omega)
      simp [hts, tab, hlt, e1, e2]
      refine (isName_ok a H).mono fun y K ⟨y1, y2⟩ => ?_
      subst y1 y2
      by_cases ha : Nm a
      case neg =>
        simp [hts, tab, ha]
        exact fun h => ha (h.1 a (by simp [e]))
      rcases List.eq_nil_or_concat p with rfl | ⟨p', c, hp'⟩
      · simp at hts hw
        simp [hts, tab, ha]
        exact ih [a] _ (by simp [e]) ⟨by simpa using ha, by simp⟩ (by simp [hts, hw])
      rw [List.concat_eq_append] at hp'
      subst hp'
      have hpos : (0 : Int) < ((p' ++ [c]).length : Nat) := by simp
      have hw2 := wrap64 (x := (p'.length : Int)) (by simp at hlt; omega) (by simp at hlt; omega)
      obtain ⟨b2, q2, _, e3, e4⟩ := Row.get1 hv (tab := tab) (e := 3) (ety := tI) rfl rfl rfl (i := p'.length) (a := c) (by simp [e]) .i64
      simp at hts hpos hw hlt
      by_cases hca : a ≤ c
      · simp [hts, tab, ha, hpos, hw2, e3, e4, hca]
        intro h
        have h2 := h.2
        rw [e, List.append_assoc] at h2
        have := (List.pairwise_append.1 h2).2.1
        simp at this
        omega
      · simp [hts, tab, ha, hpos, hw2, e3, e4, hca, hw]
        refine ih (p' ++ [c] ++ [a]) _ (by simp [e]) ⟨fun n hn => ?_, ?_⟩ (by simp [hts]; omega)
        · rcases List.mem_append.1 hn with hn | hn
          · exact hp.1 n hn
          · simp at hn; subst hn; exact ha
        · refine List.pairwise_append.2 ⟨hp.2, by simp, fun x hx y hy => ?_⟩
          simp at hy
          subst hy
          rcases List.mem_append.1 hx with hx | hx
          · have := (List.pairwise_append.1 hp.2).2.2 x hx c (by simp)
            omega
          · simp at hx; omega
  exact key L [] _ rfl ⟨by simp, by simp⟩ (by simp)
/-! ### one step back -/
def uses (x : Ins) : List Int := if x.op = 1 then [] else if 3 ≤ x.op ∧ x.op ≤ 7 then [x.a, x.b] else [x.a]
def BackS (x : Ins) (plain : Bool) (S : Int → Prop) (n : Int) : Prop := (S n ∧ (x.op = 8 ∨ n ≠ x.dst)) ∨ ((x.op = 8 ∨ S x.dst ∨ plain = true) ∧ n ∈ uses x)
def codeS (l : List Ins) (plain : Bool) (S : Int → Prop) : Int → Prop := l.foldr (fun x S => BackS x plain S) S
theorem uses_name {x : Ins} (h : GoodI x) : ∀ n ∈ uses x, Nm n := by
  intro n hn
  unfold uses at hn
  split at hn
  · cases hn
  rename_i o1
  split at hn
  · rename_i o2
    rcases h with g | g | g | g
    · omega
    · omega
    · omega
    · simp at hn
      rcases hn with rfl | rfl
      · exact g.2.2.2.1
      · exact g.2.2.2.2.1
  · rename_i o2
    simp at hn
    subst hn
    rcases h with g | g | g | g
    · omega
    · exact g.2.2.1
    · exact g.2.2.1
    · omega
theorem l3Uses_ok (x : Ins) (H : Hp) : T Tryz.prog 99 [.agg x.enc] H (fun r K => Row 1 K r (ints (uses x)) ∧ Fresh H.length r ∧ Fr H K) := by
  refine T.by tabOk Tryz.func99 (by kernel_rfl) rfl _ (by simp [Tryz.f99]) H _ ?_
  obtain ⟨op, dst, a, b, n⟩ := x
  have f0 := Fr.app H [some ⟨5, true, [.int .i64 op, .int .i64 dst, .int .i64 a, .int .i64 b, .int .i64 n]⟩]
  by_cases o1 : op = 1
  · subst o1
    simp [Tryz.f99, tab, Ins.enc, loadB, uses]
    exact ⟨by simpa [ints] using (Own.nil 1 _).row, Fresh.nil _, f0⟩
  simp [Tryz.f99, tab, Ins.enc, loadB, o1]
  refine (l3Two_ok op _).mono fun r K ⟨e1, e2⟩ => ?_
  subst e1 e2
  by_cases o2 : 3 ≤ op ∧ op ≤ 7
  · simp only [decide_eq_true o2]
    simp [tab, loadB, buildSliceA, zerosA, fillA, over, uses, o1, o2]
    refine ⟨?_, fun c hc => ?_, Fr.app _ _⟩
    · have := (Own.new (sz := 1) (K := H ++ [some ⟨5, true, [.int .i64 op, .int .i64 dst, .int .i64 a, .int .i64 b, .int .i64 n]⟩]) (es := ints [a, b]) (ints_one _)).row
      simpa [ints] using this
    · cases hc; omega
  · simp only [decide_eq_false o2]
    have hu : uses ⟨op, dst, a, b, n⟩ = [a] := by simp only [uses, if_neg o1, if_neg o2]
    rw [hu]
    simp [tab, loadB, buildSliceA, zerosA, fillA, over]
    refine ⟨?_, fun c hc => ?_, Fr.app _ _⟩
    · have := (Own.new (sz := 1) (K := H ++ [some ⟨5, true, [.int .i64 op, .int .i64 dst, .int .i64 a, .int .i64 b, .int .i64 n]⟩]) (es := ints [a]) (ints_one _)).row
      simpa [ints] using this
    · cases hc; omega
theorem looks_ok (x : Ins) (H : Hp) (hx : GoodI x) : T Tryz.prog 72 [.agg x.enc] H (fun r K => Row 1 K r (ints (uses x)) ∧ Fresh H.length r ∧ Fr H K) := by
  refine T.by tabOk Tryz.func72 (by kernel_rfl) rfl _ (by simp [Tryz.f72]) H _ ?_
  have hop : x.op = 1 ∨ x.op = 2 ∨ x.op = 8 ∨ (3 ≤ x.op ∧ x.op ≤ 7) := by
    rcases hx with g | g | g | g
    · exact .inl g.1
    · exact .inr (.inl g.1)
    · exact .inr (.inr (.inl g.1))
    · exact .inr (.inr (.inr ⟨g.1, g.2.1⟩))
  clear hx
  obtain ⟨op, dst, a, b, n⟩ := x
  have f0 := Fr.app H [some ⟨5, true, [.int .i64 op, .int .i64 dst, .int .i64 a, .int .i64 b, .int .i64 n]⟩]
  have one : ∀ op : Int, Row 1 (H ++ [some ⟨5, true, [.int .i64 op, .int .i64 dst, .int .i64 a, .int .i64 b, .int .i64 n]⟩, some ⟨1, true, [.int .i64 a]⟩]) (.sl (H.length + 1) 0 1) (ints [a]) := fun op => by
    have := (Own.new (sz := 1) (K := H ++ [some ⟨5, true, [.int .i64 op, .int .i64 dst, .int .i64 a, .int .i64 b, .int .i64 n]⟩]) (es := ints [a]) (ints_one _)).row
    simpa [ints] using this
  simp only at hop
  rcases hop with rfl | rfl | rfl | o
  · simp [Tryz.f72, tab, Ins.enc, loadB, uses]
    exact ⟨by simpa [ints] using (Own.nil 1 _).row, Fresh.nil _, f0⟩
  · simp [Tryz.f72, tab, Ins.enc, loadB, uses, buildSliceA, zerosA, fillA, over]
    exact ⟨one 2, fun c hc => by cases hc; omega, Fr.app _ _⟩
  · simp [Tryz.f72, tab, Ins.enc, loadB, uses, buildSliceA, zerosA, fillA, over]
    exact ⟨one 8, fun c hc => by cases hc; omega, Fr.app _ _⟩
  · have o1 : ¬ op = 1 := by omega
    have o2 : ¬ op = 2 := by omega
    have o8 : ¬ op = 8 := by omega
    simp [Tryz.f72, tab, Ins.enc, loadB, uses, buildSliceA, zerosA, fillA, over, o1, o2, o8, o]
    refine ⟨?_, fun c hc => by cases hc; omega, Fr.app _ _⟩
    have := (Own.new (sz := 1) (K := H ++ [some ⟨5, true, [.int .i64 op, .int .i64 dst, .int .i64 a, .int .i64 b, .int .i64 n]⟩]) (es := ints [a, b]) (ints_one _)).row
    simpa [ints] using this
theorem l7Without_ok (L : List Int) (v : AV) (x : Int) (H : Hp) (hm : L.length ≤ 1048576) (hv : Row 1 H v (ints L)) : T Tryz.prog 98 [v, .int .i64 x] H (fun r K => Own 1 K r (ints (L.filter (· != x))) ∧ Fresh H.length r ∧ Fr H K) := by
  refine T.by tabOk Tryz.func98 (by kernel_rfl) rfl _ (by simp [Tryz.f98]) H _ ?_
  have hlen := hv.len 3
  simp [Tryz.f98, tab, hlen]
  refine W_loop _ fun I hI => ?_
  have key : ∀ (r p : List Int) (ts : TS) (K : Hp) (u : AV), L = p ++ r → Own 1 K u (ints (p.filter (· != x))) → Fresh H.length u → Fr H K → (ts 1 = .int .i64 x ∧ ts 5 = u ∧ ts 8 = v ∧ ts 9 = .int .i64 L.length ∧ ts 10 = .int .i64 p.length) → I ts K := by
    intro r
    induction r with
    | nil =>
      intro p ts K u e ho hf hK hts
      apply hI
      simp at e
      subst e
      simp [hts, tab]
      exact ⟨ho, hf, hK⟩
    | cons a r ih =>
      intro p ts K u e ho hf hK hts
      apply hI
      have hlt : (p.length : Int) < L.length := by simp [e]; omega
      obtain ⟨b, q, _, e1, e2⟩ := Row.get1 (hv.fr hK) (tab := tab) (e := 3) (ety := tI) rfl rfl rfl (i := p.length) (a := a) (by simp [e]) .i64
      have hw := wrap64 (x := p.length + 1) (by omega) (by omega)
      have hpl : (p.filter (· != x)).length ≤ 1048576 := by have := List.length_filter_le (· != x) p; simp [e] at hm; omega
      by_cases ha : a = x
      · simp [hts, tab, hlt, e1, e2, ha, hw]
        exact ih (p ++ [a]) _ K u (by simp [e]) (by simpa [ha] using ho) hf hK (by simp [hts])
      · obtain ⟨u', K', a1, a2, a3, a4⟩ := ho.push a hpl
        simp [hts, tab, hlt, e1, e2, ha, hw, buildSliceA, zerosA, fillA, over, a1]
        exact ih (p ++ [a]) _ K' u' (by simp [e]) (by simpa [ha] using a2) (fun b hb => (a4 b hb).elim (hf b) fun h => Nat.le_trans hK.1 h) (Fr.then hK a3 hf) (by simp [hts])
  exact key L [] _ H .nil rfl (by simpa [ints] using Own.nil 1 H) (Fresh.nil _) (Fr.refl H) (by simp)
end Go.Proofs.YtdbnokeegocpbaaGreat.Am
