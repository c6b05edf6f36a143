/- Live names of every block, as lists. No condition. -/
import Derived.Test.YtdbnokeegocpbaaLAliveSets
import Derived.Test.YtdbnokeegocpbaaLBlocks
namespace Go.Proofs.Ytdbnokeegocpbaa.Am
open Go Go.RowKit
set_option linter.unusedSimpArgs false
set_option linter.unusedVariables false

theorem LRow.keeps {X : Nat → Prop} {K K' : Hp} {v : AV} {l : List (List Int)} {us : List AV} (h : LRow K v l us) (k : Keeps X K K') (hn : ∀ b, (v.at b ∨ ∃ u ∈ us, u.at b) → ¬ X b) : LRow K' v l us := ⟨h.row.keeps k fun b hb => hn b (.inl hb), h.len, fun i t u a b => (h.inner i t u a b).keeps k fun c hc => hn c (.inr ⟨u, List.mem_of_getElem? b, hc⟩)⟩
theorem LRow.lt {K : Hp} {v : AV} {l : List (List Int)} {us : List AV} (h : LRow K v l us) : ∀ b, (v.at b ∨ ∃ u ∈ us, u.at b) → b < K.length := by
  rintro b (hb | ⟨u, hu, hb⟩)
  · exact h.row.lt b hb
  · obtain ⟨i, hi⟩ := List.mem_iff_getElem?.1 hu
    have hil : i < l.length := by rw [← h.len]; exact (List.getElem?_eq_some_iff.1 hi).1
    exact (h.inner i l[i] u (List.getElem?_eq_getElem hil) hi).lt b hb
theorem Keeps.after {X Y : Nat → Prop} {A B C : Hp} (h : Keeps X A B) (k : Keeps Y B C) (hY : ∀ b, Y b → X b ∨ A.length ≤ b) : Keeps X A C := ⟨Nat.le_trans h.1 k.1, fun b blk hb hn => k.2 b blk (h.2 b blk hb hn) fun hy => (hY b hy).elim hn fun hl => by have := lt_of_get hb; omega⟩
set_option maxRecDepth 100000 in
theorem liveLists_ok (f : List Bk) (ws : List AV) (fv : AV) (strong : Bool) (H : Hp) (hg : GoodF f) (hv : FRow H fv f ws) : T Try.prog 96 [fv, .bool strong] H (fun r K => (∃ us, LOwn K r (alive (!strong) f) us ∧ ∀ u ∈ us, Fresh H.length u) ∧ Fresh H.length r ∧ Fr H K) := by
  refine T.by tabOk Try.func96 (by kernel_rfl) rfl _ (by simp [Try.f96]) H _ ?_
  obtain ⟨K0, hK0, f0⟩ : ∃ K0, H ++ [some ⟨1, true, []⟩] = K0 ∧ Fr H K0 := ⟨_, rfl, Fr.app _ _⟩
  have own0 : Own 1 K0 (.sl H.length 0 0) [] := by
    have := Own.new (sz := 1) (K := H) (es := []) (by simp)
    simp at this
    rw [hK0] at this
    exact this
  have hup := alive_upp (!strong) f
  have h8 := hg.1.2
  simp [Try.f96, tab, buildSliceA, zerosA, fillA, over, hK0]
  refine (liveSets_ok f ws fv strong K0 hg (hv.fr f0)).mono fun x K1 ⟨⟨es, x1⟩, x2, x3⟩ => ?_
  have hxl := x1.own.row.len 106
  rw [x1.len, hup.len] at hxl
  simp [tab, hxl]
  generalize hA : alive (!strong) f = A at *
  have hxne : ∀ b, x.at b → ¬ b = H.length := fun b hb h => by have := x2 b hb; have := own0.lt H.length rfl; omega
  refine W_loop _ fun I hI => ?_
  have key : ∀ (r p : List (List Int)) (ts : TS) (K : Hp) (o : AV) (us : List AV), A = p ++ r → LOwn K o p us → (∀ u ∈ us, Fresh H.length u) → Fresh H.length o → (∀ b, o.at b → b = H.length ∨ K1.length ≤ b) → Keeps (fun b => b = H.length) K1 K → (ts 5 = o ∧ ts 11 = x ∧ ts 12 = .int .i64 f.length ∧ ts 13 = .int .i64 p.length) → I ts K := by
    intro r
    induction r with
    | nil =>
      intro p ts K o us e ho hf hfo hox hK hts
      apply hI
      simp at e
      have hpl : p.length = f.length := by rw [← e]; exact hup.len
      simp [hts, tab, hpl]
      rw [e]
      exact ⟨⟨us, ho, hf⟩, hfo, Fr.then (f0.trans x3) hK (by rintro b rfl; exact Nat.le_refl _)⟩
    | cons L r ih =>
      intro p ts K o us e ho hf hfo hox hK hts
      apply hI
      have hAl : A.length = f.length := hup.len
      have hpf : p.length < f.length := by rw [← hAl, e]; simp
      have hlt : (p.length : Int) < f.length := by omega
      obtain ⟨b1, c, a1, a2, a3, a4, a5⟩ := (x1.keeps hK hxne).get (k := p.length) (by omega)
      have hgd : A.getD p.length [] = L := by rw [e, List.getD_eq_getElem?_getD]; simp
      rw [hgd] at a1
      have hLg : GoodN L := hup.good L (by rw [e]; simp)
      have hone := a1.one
      simp only [List.all_eq_true] at hone
      have hone := eq_true hone
      have hc8 := a1.1
      have hwp := wrap64 (x := p.length + 1) (by omega) (by omega)
      obtain ⟨KA, hKA, fA⟩ : ∃ KA, K ++ [some ⟨8, true, List.replicate 8 (.bool false)⟩] = KA ∧ Fr K KA := ⟨_, rfl, Fr.app _ _⟩
      obtain ⟨KB, s1, s2, s3, s4⟩ := a1.over (K := KA) (b := K.length) (sz := 8) (c0 := List.replicate 8 (.bool false)) (by rw [← hKA]; simp [-List.reduceReplicate]) (by simp)
      have hld := a1.load s2
      have fB : Fr K KB := Fr.then fA s3 (by rintro b rfl; exact Nat.le_refl _)
      simp [hts, tab, hlt, a3, a4, hKA, s1, hld, -List.reduceReplicate]
      refine (listOf_ok c _ KB a1).mono fun y KC ⟨⟨L', y1, y2, y3⟩, y4, y5⟩ => ?_
      obtain rfl : L' = L := srt_ext y2.2 hLg.2 fun n => ⟨fun h => ((y3 n).1 h).2, fun h => (y3 n).2 ⟨hLg.1 n h, h⟩⟩
      have holt := ho.lt
      have fK1 := f0.1
      have fKx := x3.1
      obtain ⟨o', K', g1, g2, g3, g4⟩ := (ho.fr (fB.trans y5)).push y1 (by intro b hb hx; have := y4 b hb; have := fB.1; have := holt b hx; omega) (by rw [e] at hAl; simp at hAl; omega)
      have hy1 := y1.row.one
      have hy2 := y1.row.self
      have hxlt := x1.own.lt
      simp [hts, tab, hwp, buildSliceA, zerosA, fillA, over, hy1, hy2, g1]
      refine ih (p ++ [L']) _ K' o' (us ++ [y]) (by simp [e]) g2 (fun u hu => ?_) (fun b hb => ?_) (fun b hb => ?_) (hK.after (Keeps.trans (Fr.keeps (fB.trans y5)) g3) hox) (by simp [hts])
      · rcases List.mem_append.1 hu with hu | hu
        · exact hf u hu
        · simp at hu; subst hu; exact y4.mono (by have := fB.1; have := hK.1; omega)
      · rcases g4 b hb with h | h
        · exact hfo b h
        · have := y5.1; have := fB.1; have := hK.1; omega
      · rcases g4 b hb with h | h
        · exact hox b h
        · have := y5.1; have := fB.1; have := hK.1; omega
  exact key A [] _ K1 _ [] rfl ⟨by simpa [slots] using own0.fr x3, rfl, by simp, by simp, by simp⟩ (by simp) (fun b hb => by cases hb; exact Nat.le_refl _) (fun b hb => by cases hb; exact .inl rfl) (Keeps.refl _ _) (by simp)
open Classical in
noncomputable def liveRes (plain : Bool) (f : List Bk) : List (List Int) × Bool := if GoodF f then (alive plain f, true) else ([], false)
theorem liveRes_few (plain : Bool) (f : List Bk) : (liveRes plain f).1.length ≤ 8 ∧ ∀ L ∈ (liveRes plain f).1, L.length ≤ 8 := by
  unfold liveRes
  split
  · rename_i h
    have hup := alive_upp plain f
    exact ⟨by rw [hup.len]; exact h.1.2, fun L hL => goodN_few (hup.good L hL)⟩
  · simp
theorem specPlainLive_ok (f : List Bk) (ws : List AV) (v : AV) (H : Hp) (hm : f.length ≤ 1048576) (hmm : ∀ t ∈ f, t.code.length ≤ 1048576) (hv : FRow H v f ws) : T Try.prog 30 [v] H (fun r K => ∃ out, r = .tup [out, .bool (liveRes true f).2] ∧ (∃ us, LRow K out (liveRes true f).1 us) ∧ Fr H K) := by
  refine T.by tabOk Try.func30 (by kernel_rfl) rfl _ (by simp [Try.f30]) H _ ?_
  simp [Try.f30]
  refine (goodFlow_ok f ws v H hm hmm hv).mono fun r K ⟨⟨t, h1, h2⟩, h3⟩ => ?_
  subst h1
  cases t with
  | false =>
    have hg : ¬ GoodF f := fun h => by cases h2.2 h
    simp [tab, liveRes, hg]
    exact ⟨⟨[], (LOwn.nil K).look⟩, h3⟩
  | true =>
    have hg := h2.1 rfl
    simp [tab]
    refine (l7All_ok f ws v true K hg (hv.fr h3)).mono fun x K1 ⟨x1, x2⟩ => ?_
    simp [tab, liveRes, hg]
    exact ⟨x1, h3.trans x2⟩
theorem implPlainLive_ok (f : List Bk) (ws : List AV) (v : AV) (H : Hp) (hm : f.length ≤ 1048576) (hmm : ∀ t ∈ f, t.code.length ≤ 1048576) (hv : FRow H v f ws) : T Try.prog 31 [v] H (fun r K => ∃ out, r = .tup [out, .bool (liveRes true f).2] ∧ (∃ us, LOwn K out (liveRes true f).1 us ∧ ∀ u ∈ us, Fresh H.length u) ∧ Fresh H.length out ∧ Fr H K) := by
  refine T.by tabOk Try.func31 (by kernel_rfl) rfl _ (by simp [Try.f31]) H _ ?_
  simp [Try.f31]
  refine (isFlow_ok f ws v H hm hmm hv).mono fun r K ⟨⟨t, h1, h2⟩, h3⟩ => ?_
  subst h1
  cases t with
  | false =>
    have hg : ¬ GoodF f := fun h => by cases h2.2 h
    simp [tab, liveRes, hg]
    exact ⟨⟨[], LOwn.nil K, by simp⟩, Fresh.nil _, h3⟩
  | true =>
    have hg := h2.1 rfl
    simp [tab]
    refine (liveLists_ok f ws v false K hg (hv.fr h3)).mono fun x K1 ⟨⟨us, x1, x2⟩, x3, x4⟩ => ?_
    simp only [Bool.not_true, Bool.not_false] at x1
    simp [tab, liveRes, hg]
    exact ⟨⟨us, x1, fun u hu => (x2 u hu).mono h3.1⟩, x3.mono h3.1, h3.trans x4⟩
theorem specStrongLive_ok (f : List Bk) (ws : List AV) (v : AV) (H : Hp) (hm : f.length ≤ 1048576) (hmm : ∀ t ∈ f, t.code.length ≤ 1048576) (hv : FRow H v f ws) : T Try.prog 35 [v] H (fun r K => ∃ out, r = .tup [out, .bool (liveRes false f).2] ∧ (∃ us, LRow K out (liveRes false f).1 us) ∧ Fr H K) := by
  refine T.by tabOk Try.func35 (by kernel_rfl) rfl _ (by simp [Try.f35]) H _ ?_
  simp [Try.f35]
  refine (goodFlow_ok f ws v H hm hmm hv).mono fun r K ⟨⟨t, h1, h2⟩, h3⟩ => ?_
  subst h1
  cases t with
  | false =>
    have hg : ¬ GoodF f := fun h => by cases h2.2 h
    simp [tab, liveRes, hg]
    exact ⟨⟨[], (LOwn.nil K).look⟩, h3⟩
  | true =>
    have hg := h2.1 rfl
    simp [tab]
    refine (l7All_ok f ws v false K hg (hv.fr h3)).mono fun x K1 ⟨x1, x2⟩ => ?_
    simp [tab, liveRes, hg]
    exact ⟨x1, h3.trans x2⟩
theorem implStrongLive_ok (f : List Bk) (ws : List AV) (v : AV) (H : Hp) (hm : f.length ≤ 1048576) (hmm : ∀ t ∈ f, t.code.length ≤ 1048576) (hv : FRow H v f ws) : T Try.prog 36 [v] H (fun r K => ∃ out, r = .tup [out, .bool (liveRes false f).2] ∧ (∃ us, LOwn K out (liveRes false f).1 us ∧ ∀ u ∈ us, Fresh H.length u) ∧ Fresh H.length out ∧ Fr H K) := by
  refine T.by tabOk Try.func36 (by kernel_rfl) rfl _ (by simp [Try.f36]) H _ ?_
  simp [Try.f36]
  refine (isFlow_ok f ws v H hm hmm hv).mono fun r K ⟨⟨t, h1, h2⟩, h3⟩ => ?_
  subst h1
  cases t with
  | false =>
    have hg : ¬ GoodF f := fun h => by cases h2.2 h
    simp [tab, liveRes, hg]
    exact ⟨⟨[], LOwn.nil K, by simp⟩, Fresh.nil _, h3⟩
  | true =>
    have hg := h2.1 rfl
    simp [tab]
    refine (liveLists_ok f ws v true K hg (hv.fr h3)).mono fun x K1 ⟨⟨us, x1, x2⟩, x3, x4⟩ => ?_
    simp only [Bool.not_true, Bool.not_false] at x1
    simp [tab, liveRes, hg]
    exact ⟨⟨us, x1, fun u hu => (x2 u hu).mono h3.1⟩, x3.mono h3.1, h3.trans x4⟩
end Go.Proofs.Ytdbnokeegocpbaa.Am
