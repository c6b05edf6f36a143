/- What no one needs: both ways to find it. No condition. -/
import Derived.Test.YtdbnokeegocpbaaLAliveTop
namespace Go.Proofs.Ytdbnokeegocpbaa.Am
open Go Go.RowKit
set_option linter.unusedSimpArgs false
set_option linter.unusedVariables false

def deadP (code : List Ins) (S : Int → Prop) (n : Int) : Prop := ∃ (k : Nat) (x : Ins), n = k ∧ code[k]? = some x ∧ x.op ≠ 8 ∧ ¬ codeS (code.drop (k + 1)) false S x.dst
open Classical in
noncomputable def deadL (code : List Ins) (S : Int → Prop) : List Int := ((List.range code.length).map fun j : Nat => (j : Int)).filter fun n => decide (deadP code S n)
theorem range_srt (n : Nat) : Srt ((List.range n).map fun j : Nat => (j : Int)) := by
  show List.Pairwise _ _
  rw [List.pairwise_map]
  exact (List.pairwise_lt_range).imp fun h => by omega
theorem mem_deadL (code : List Ins) (S : Int → Prop) (n : Int) : n ∈ deadL code S ↔ deadP code S n := by
  unfold deadL
  simp only [List.mem_filter, List.mem_map, List.mem_range, decide_eq_true_eq]
  constructor
  · exact fun h => h.2
  · intro h
    obtain ⟨k, x, rfl, hk, h2⟩ := h
    exact ⟨⟨k, (List.getElem?_eq_some_iff.1 hk).1, rfl⟩, k, x, rfl, hk, h2⟩
theorem deadL_srt (code : List Ins) (S : Int → Prop) : Srt (deadL code S) := (range_srt _).filter _
theorem deadL_eq {L : List Int} {code : List Ins} {S : Int → Prop} (hs : Srt L) (h : ∀ n, n ∈ L ↔ deadP code S n) : L = deadL code S := srt_ext hs (deadL_srt code S) fun n => (h n).trans (mem_deadL code S n).symm
theorem below_len {L : List Int} {m : Nat} (hs : Srt L) (h : ∀ n ∈ L, 0 ≤ n ∧ n < (m : Int)) : L.length ≤ m := by
  have := (sub_len hs (range_srt m) fun n hn => by
    obtain ⟨h1, h2⟩ := h n hn
    obtain ⟨j, rfl⟩ := Int.eq_ofNat_of_zero_le h1
    exact List.mem_map.2 ⟨j, List.mem_range.2 (by omega), rfl⟩).1
  simpa using this
theorem deadL_len (code : List Ins) (S : Int → Prop) : (deadL code S).length ≤ code.length := below_len (deadL_srt code S) fun n hn => by
  rw [mem_deadL] at hn
  obtain ⟨k, x, rfl, hk, _⟩ := hn
  have := (List.getElem?_eq_some_iff.1 hk).1
  omega
/-- What is dead in every block. -/
noncomputable def deadAll (f : List Bk) : List (List Int) := f.map fun b => deadL b.code (behS b (alive false f))
theorem SRow.push {K : Hp} {v u : AV} {l : List (List Int)} {us : List AV} {t : List Int} (h : SRow K v l us) (hu : Row 1 K u (ints t)) (hl : l.length ≤ 1048576) :
    ∃ v' K', appendA 1 24 (K ++ [some ⟨1, true, [u]⟩]) v (.sl K.length 0 1) = some (v', K') ∧ ((∀ b, u.at b → ¬ v.at b) → SRow K' v' (l ++ [t]) (us ++ [u])) ∧ Keeps v.at K K' ∧ ∀ b, v'.at b → v.at b ∨ K.length ≤ b := by
  have hu1 := hu.one
  obtain ⟨v', K', a1, a2, a3, a4⟩ := (h.own.fr (Fr.app K [some ⟨1, true, [u]⟩])).append (bytes := 24) (x := .sl K.length 0 1) (new := [[u]]) (by decide) (by simp [rowOf]) (by simp) (by simp [slots, h.look.len]; omega) (by simp [slots, h.look.len]; omega)
  have f4 : Keeps v.at K K' := (Fr.keeps (Fr.app K _)).trans a3
  have a5 : ∀ b, v'.at b → v.at b ∨ K.length ≤ b := fun b hb => (a4 b hb).elim .inl fun h => .inr (by simp at h; omega)
  have hlt := h.look.lt
  have hult := hu.lt
  have a6 : Own 1 K' v' (slots (us ++ [u])) := by simpa [slots] using a2
  refine ⟨v', K', a1, fun hne => ⟨a6, ⟨a6.row, by simp [h.look.len], fun i t' w hi hw => ?_⟩, fun w hw b hb hb' => ?_⟩, f4, a5⟩
  · by_cases hil : i < l.length
    · rw [List.getElem?_append_left hil] at hi
      rw [List.getElem?_append_left (by rw [h.look.len]; exact hil)] at hw
      exact (h.look.inner i t' w hi hw).keeps f4 fun b h1 h2 => h.off w (List.mem_of_getElem? hw) b h1 h2
    · have hil2 : i = l.length := by
        have := (List.getElem?_eq_some_iff.1 hi).1
        simp at this
        omega
      subst hil2
      rw [← h.look.len] at hw
      simp at hi hw
      subst hi hw
      exact hu.keeps f4 hne
  · rcases a5 b hb' with h1 | h1
    · rcases List.mem_append.1 hw with hw | hw
      · exact h.off w hw b hb h1
      · simp at hw; subst hw; exact hne b hb h1
    · rcases List.mem_append.1 hw with hw | hw
      · have := hlt b (.inr ⟨w, hw, hb⟩); omega
      · simp at hw; subst hw; have := hult b hb; omega
/-- A rising list, made from a heap on. -/
def NewD (P : Int → Prop) (H0 : Hp) (u : AV) (K : Hp) : Prop := ∃ D, Row 1 K u (ints D) ∧ Srt D ∧ (∀ n, n ∈ D ↔ P n) ∧ Fresh H0.length u ∧ Fr H0 K
set_option maxRecDepth 100000 in
theorem l7Dead_ok (b : Bk) (u : AV) (L : List Int) (S : Int → Prop) (v : AV) (H : Hp) (hb : GoodC b.code) (hu : Row 5 H u (b.code.map Ins.enc)) (hg : GoodN L) (hS : ∀ n, n ∈ L ↔ S n) (hv : Row 1 H v (ints L)) : T Try.prog 143 [.agg (cellsB b u), v] H (NewD (deadP b.code S) H) := by
  refine T.by tabOk Try.func143 (by kernel_rfl) rfl _ (by simp [Try.f143]) H _ ?_
  have hu1 := hu.one
  have hu2 := hu.self
  have h30 := hb.1
  obtain ⟨K0, hK0, f0⟩ : ∃ K0, H ++ [some ⟨4, true, cellsB b u⟩] = K0 ∧ Fr H K0 := ⟨_, rfl, Fr.app _ _⟩
  have b0 : K0[H.length]? = some (some ⟨4, true, cellsB b u⟩) := by rw [← hK0]; simp
  have q0 : loadA tLN K0 (.ptr H.length 0) = some u := load_at b0 rfl rfl rfl
  have hlen := hu.len 102
  have hw0 := wrap64 (x := (b.code.length : Int) - 1) (by omega) (by omega)
  simp only [cellsB] at hK0
  simp [Try.f143, tab, cellsB, hu1, hu2, hK0, q0, hlen, hw0]
  refine W_loop _ fun I hI => ?_
  have key : ∀ (n : Nat) (p r : List Ins) (ts : TS) (K : Hp) (w o : AV), p.length = n → b.code = p ++ r → LiveAt (codeS r false S) v H w K → NewD (fun n => deadP b.code S n ∧ (p.length : Int) ≤ n) H o K → Fr K0 K → (ts 2 = .ptr H.length 0 ∧ ts 5 = o ∧ ts 6 = w ∧ ts 7 = .int .i64 ((p.length : Int) - 1)) → I ts K := by
    intro n
    induction n with
    | zero =>
      intro p r ts K w o hn e hw ho hK hts
      apply hI
      obtain rfl := List.eq_nil_of_length_eq_zero hn
      simp at hts
      simp [hts, tab]
      obtain ⟨D, d1, d2, d3, d4, d5⟩ := ho
      refine ⟨D, d1, d2, fun n => (d3 n).trans ⟨fun h => h.1, fun h => ⟨h, ?_⟩⟩, d4, d5⟩
      obtain ⟨k, _, rfl, _⟩ := h
      simp
    | succ n ih =>
      intro p r ts K w o hn e hw ho hK hts
      apply hI
      rcases List.eq_nil_or_concat p with rfl | ⟨p', a, hp'⟩
      · simp at hn
      rw [List.concat_eq_append] at hp'
      subst hp'
      have hn' : p'.length = n := by simpa using hn
      have hgt : (0 : Int) ≤ p'.length := by omega
      have hlt : p'.length < b.code.length := by rw [e]; simp
      have hga := hb.2 a (by rw [e]; simp)
      have hget : b.code[p'.length]? = some a := by rw [e]; simp
      have hdrop : b.code.drop (p'.length + 1) = r := by rw [e]; simp [List.drop_append]
      obtain ⟨L1, w1, w2, w3, w4, w5⟩ := hw
      obtain ⟨D, d1, d2, d3, d4, d5⟩ := ho
      have q1 : loadA tLN K (.ptr H.length 0) = some u := load_at (hK.2 _ _ b0 id) rfl rfl rfl
      obtain ⟨b1, q, _, e1, e2, -⟩ := (hu.fr w5).get (tab := tab) (e := 102) (ety := tN) rfl (i := p'.length) (a := a) hget .i64
      have e2 := e2 rfl
      have hwn := wrap64 (x := (p'.length : Int) - 1) (by omega) (by omega)
      obtain ⟨K1, hK1, f1⟩ : ∃ K1, K ++ [some ⟨5, true, a.enc⟩] = K1 ∧ Fr K K1 := ⟨_, rfl, Fr.app _ _⟩
      have hx0 : K1[K.length]? = some (some ⟨5, true, a.enc⟩) := by rw [← hK1]; simp
      have g0 : loadA tI K1 (.ptr K.length 0) = some (.int .i64 a.op) := load_at hx0 rfl rfl rfl
      have g1 : loadA tI K1 (.ptr K.length 1) = some (.int .i64 a.dst) := load_at hx0 rfl rfl rfl
      have h8 := goodN_few w2
      simp at hts
      simp only [Ins.enc] at hK1 e2
      have hdead : ∀ n, (deadP b.code S n ∧ (p'.length : Int) ≤ n) ↔ (n = p'.length ∧ a.op ≠ 8 ∧ a.dst ∉ L1) ∨ n ∈ D := fun n => by
        rw [d3 n]
        simp only [List.length_append, List.length_singleton, Int.natCast_add, Int.natCast_one]
        constructor
        · rintro ⟨h1, h2⟩
          by_cases hne : n = p'.length
          · left
            refine ⟨hne, ?_⟩
            obtain ⟨k, x, rfl, hk, h3, h4⟩ := h1
            have : k = p'.length := by omega
            subst this
            rw [hget] at hk
            cases hk
            rw [hdrop] at h4
            exact ⟨h3, fun h => h4 ((w3 _).1 h)⟩
          · exact .inr ⟨h1, by omega⟩
        · rintro (⟨rfl, h3, h4⟩ | ⟨h1, h2⟩)
          · exact ⟨⟨p'.length, a, rfl, hget, h3, by rw [hdrop]; exact fun h => h4 ((w3 _).2 h)⟩, Int.le_refl _⟩
          · exact ⟨h1, by omega⟩
      have hD30 : D.length ≤ b.code.length := below_len d2 fun n hn => by
        obtain ⟨⟨k, x, rfl, hk, _⟩, _⟩ := (d3 n).1 hn
        have := (List.getElem?_eq_some_iff.1 hk).1
        omega
      have hlive : ∀ K', Fr K K' → Row 1 K' w (ints L1) := fun K' h => w1.fr h
      have finish : ∀ (o' : AV) (K2 : Hp) (ts : TS), Fr K1 K2 → NewD (fun n => deadP b.code S n ∧ (p'.length : Int) ≤ n) H o' K2 → (ts 2 = .ptr H.length 0 ∧ ts 5 = o' ∧ ts 6 = w ∧ ts 7 = .int .i64 p'.length ∧ ts 8 = .ptr K.length 0) → T Try.prog 136 [.agg a.enc, w, .bool false] K2 (fun r' K3 => Fr K2 K3 ∧ LiveAt (codeS (a :: r) false S) v H r' K3 ∧ NewD (fun n => deadP b.code S n ∧ (p'.length : Int) ≤ n) H o' K3) := by
        intro o' K2 ts h2 ho' _
        refine (l7Back_ok a L1 w false K2 hga w2 (hlive _ (f1.trans h2))).mono fun y K3 ⟨L2, y1, y2, y3, y4, y5⟩ => ?_
        obtain ⟨D', c1, c2, c3, c4, c5⟩ := ho'
        refine ⟨y5, ⟨L2, y1, y2, fun n => ?_, fun b hb => (y4 b hb).elim (w4 b) fun h => .inr (Nat.le_trans (w5.1) (Nat.le_trans f1.1 (Nat.le_trans h2.1 h))), (w5.trans (f1.trans h2)).trans y5⟩, D', c1.fr y5, c2, c3, c4, c5.trans y5⟩
        refine (y3 n).trans ?_
        show BackS a false (· ∈ L1) n ↔ BackS a false (codeS r false S) n
        have : (fun x => x ∈ L1) = codeS r false S := funext fun n => propext (w3 n)
        rw [this]
      simp only [W_seq]
      refine W_cut (fun ts K2 => K2 = K ∧ ts 15 = .bool true ∧ ts 2 = .ptr H.length 0 ∧ ts 5 = o ∧ ts 6 = w ∧ ts 7 = .int .i64 p'.length) ?_ ?_
      · simp [hts, tab]
      rintro ts K2 ⟨rfl, t15, hts⟩
      simp only [post_sq, W_cond, evA, t15, W_skip, W_block, W_seq, if_true]
      refine W_cut (fun ts K3 => K3 = K1 ∧ ts 8 = .ptr K2.length 0 ∧ ts 2 = .ptr H.length 0 ∧ ts 5 = o ∧ ts 6 = w ∧ ts 7 = .int .i64 p'.length) ?_ ?_
      · simp (maxDischargeDepth := 9) [hts, tab, q1, e1, e2, storeB, over, hK1]
      rintro ts K3 ⟨rfl, hts⟩
      rw [post_sq, W_seq, W_seq]
      refine W_cut (fun ts K4 => K4 = K3 ∧ ts 32 = .bool (decide (a.op ≠ 8 ∧ a.dst ∉ L1)) ∧ ts 8 = .ptr K2.length 0 ∧ ts 2 = .ptr H.length 0 ∧ ts 5 = o ∧ ts 6 = w ∧ ts 7 = .int .i64 p'.length) ?_ ?_
      · by_cases o8 : a.op = 8
        · simp [hts, tab, g0, o8]
        · simp [hts, tab, g0, g1, o8]
          refine (l1Has_ok L1 w a.dst K3 (by omega) (hlive _ f1)).mono fun y K4 ⟨y1, y2⟩ => ?_
          subst y1 y2
          simp [hts, tab, o8]
      rintro ts K4 ⟨rfl, t32, hts⟩
      have hla : loadA tN K4 (.ptr K2.length 0) = some (.agg a.enc) := by simp [loadA, hx0, Ins.enc]
      by_cases hd : a.op ≠ 8 ∧ a.dst ∉ L1
      · simp only [decide_eq_true hd] at t32
        simp [hts, tab, t32]
        refine (l1PutE_ok D o p'.length K4 (by omega) d2 (d1.fr f1)).mono fun y K5 ⟨⟨D', y1, y2, y3⟩, y4, y5⟩ => ?_
        have hx5 := y4.2 _ _ hx0 id
        have hla5 : loadA tN K5 (.ptr K2.length 0) = some (.agg a.enc) := by simp [loadA, hx5, Ins.enc]
        have hnd : NewD (fun n => deadP b.code S n ∧ (p'.length : Int) ≤ n) H y K5 := ⟨D', y1, y2, fun n => by
          refine (y3 n).trans (Iff.trans ?_ (hdead n).symm)
          constructor
          · rintro (h | h)
            · exact .inl ⟨h, hd⟩
            · exact .inr h
          · rintro (h | h)
            · exact .inl h.1
            · exact .inr h, fun b hb => (y5 b hb).elim (d4 b) fun h => Nat.le_trans d5.1 (Nat.le_trans f1.1 h), d5.trans (f1.trans y4)⟩
        simp [hts, tab, hla5]
        refine (finish y K5 (put 5 y ts) y4 hnd (by simp [hts])).mono fun z K6 ⟨z1, z2, z3⟩ => ?_
        simp [hts, tab, hwn]
        exact ih p' (a :: r) _ K6 z y hn' (by simp [e]) z2 z3 (hK.trans (f1.trans (y4.trans z1))) (by simp [hts])
      · simp only [decide_eq_false hd] at t32
        have hnd : NewD (fun n => deadP b.code S n ∧ (p'.length : Int) ≤ n) H o K4 := ⟨D, d1.fr f1, d2, fun n => by
          refine Iff.trans ?_ (hdead n).symm
          exact ⟨.inr, fun h => h.elim (fun h => absurd h.2 hd) id⟩, d4, d5.trans f1⟩
        simp [hts, tab, t32, hla]
        refine (finish o K4 ts (Fr.refl _) hnd (by simp [hts])).mono fun z K6 ⟨z1, z2, z3⟩ => ?_
        simp [hts, tab, hwn]
        exact ih p' (a :: r) _ K6 z o hn' (by simp [e]) z2 z3 (hK.trans (f1.trans z1)) (by simp [hts])
  refine key b.code.length b.code [] _ K0 v .nil rfl (by simp) ⟨L, hv.fr f0, hg, hS, fun b hb => .inl hb, f0⟩ ⟨[], (Own.nil 1 _).row, by simp, fun n => ?_, Fresh.nil _, f0⟩ (Fr.refl _) (by simp)
  simp only [List.not_mem_nil, false_iff]
  rintro ⟨⟨k, x, rfl, hk, _⟩, h⟩
  have := (List.getElem?_eq_some_iff.1 hk).1
  omega
set_option maxRecDepth 100000 in
theorem l7DeadAt_ok (f : List Bk) (ws : List AV) (fv : AV) (H : Hp) (hg : GoodF f) (hv : FRow H fv f ws) : T Try.prog 97 [fv] H (fun r K => (∃ us, LRow K r (deadAll f) us) ∧ Fr H K) := by
  refine T.by tabOk Try.func97 (by kernel_rfl) rfl _ (by simp [Try.f97]) H _ ?_
  have hlen := hv.count 67
  have h8 := hg.1.2
  simp [Try.f97]
  refine (l7All_ok f ws fv false H hg hv).mono fun x K1 ⟨⟨xs, x1⟩, x2⟩ => ?_
  have hup := alive_upp false f
  simp [tab, hlen]
  refine W_loop _ fun I hI => ?_
  have key : ∀ (r p : List Bk) (ts : TS) (K : Hp) (o : AV) (us : List AV), f = p ++ r → SRow K o (p.map fun b => deadL b.code (behS b (alive false f))) us → Fresh K1.length o → Fr K1 K → (ts 3 = x ∧ ts 4 = o ∧ ts 9 = fv ∧ ts 10 = .int .i64 f.length ∧ ts 11 = .int .i64 p.length) → I ts K := by
    intro r
    induction r with
    | nil =>
      intro p ts K o us e ho hfo hK hts
      apply hI
      simp at e
      subst e
      simp [hts, tab]
      exact ⟨⟨us, ho.look⟩, x2.trans hK⟩
    | cons b r ih =>
      intro p ts K o us e ho hfo hK hts
      apply hI
      have hlt : (p.length : Int) < f.length := by simp [e]; omega
      have hbf : f[p.length]? = some b := by simp [e]
      have hgb := hg.2 b (by simp [e])
      obtain ⟨b1, q, u, hu, e1, e2, e3⟩ := (hv.fr (x2.trans hK)).get (e := 67) rfl hbf
      have hu1 := e3.one
      have hu2 := cells_of_one hu1
      obtain ⟨K', hK', fB⟩ : ∃ K', K ++ [some ⟨4, true, [u, .int .i64 b.test, .int .i64 b.thn, .int .i64 b.els]⟩] = K' ∧ Fr K K' := ⟨_, rfl, Fr.app K _⟩
      have hb : K'[K.length]? = some (some ⟨4, true, [u, .int .i64 b.test, .int .i64 b.thn, .int .i64 b.els]⟩) := by rw [← hK']; simp
      have q9 : loadA tK K' (.ptr K.length 0) = some (.agg (cellsB b u)) := by simp [loadA, hb, cellsB]
      simp only [cellsB] at e2 q9
      simp (maxDischargeDepth := 9) [hts, tab, hlt, e1, e2, hu1, hu2, storeB, over, hK']
      refine W_draw mixed (.look 0 (.look 1 (.look 2 (.look 3 (.act 4 [1] (.act 5 [] (.act 6 [] (.act 7 [] (.act 8 [] .done .stop) .stop) .stop) .stop) .stop))))) (by kernel_rfl) ?_
      simp (maxDischargeDepth := 9) [hts, tab, q9]
      refine (l7Behind_ok b u (alive false f) xs x K' (by rw [hup.len]; exact hgb) hu1 (by rw [hup.len]; omega) hup.good (x1.fr (hK.trans fB))).mono fun y K2 ⟨L1, y1, y2, y3, y4, y5⟩ => ?_
      have hb2 := y5.2 _ _ hb id
      have q9' : loadA tK K2 (.ptr K.length 0) = some (.agg (cellsB b u)) := by simp [loadA, hb2, cellsB]
      simp only [cellsB] at q9'
      simp [hts, tab, q9']
      refine (l7Dead_ok b u L1 (behS b (alive false f)) y K2 hgb.1 (e3.fr (fB.trans y5)) y2 y3 y1).mono fun w K3 ⟨D, d1, d2, d3, d4, d5⟩ => ?_
      obtain rfl := deadL_eq d2 d3
      have FK : Fr K K3 := fB.trans (y5.trans d5)
      have hw1 := d1.one
      have hw2 := d1.self
      have holt := ho.own.lt
      have hpl : p.length ≤ 1048576 := by simp [e] at h8; omega
      obtain ⟨o', K4, g1, g2, g3, g4⟩ := (ho.fr FK).push d1 (by simpa using hpl)
      have g5 := g2 fun b hb hx => by have := d4 b hb; have := holt b hx; have := fB.1; have := y5.1; omega
      have hwp := wrap64 (x := p.length + 1) (by omega) (by omega)
      simp (maxDischargeDepth := 9) [hts, tab, hwp, buildSliceA, zerosA, fillA, over, hw1, hw2, g1]
      refine ih (p ++ [b]) _ K4 o' _ (by simp [e]) (by simpa using g5) (fun b hb => (g4 b hb).elim (hfo b) fun h => ?_) (Fr.then (hK.trans FK) g3 hfo) (by simp [hts])
      have := FK.1
      have := hK.1
      omega
  exact key f [] _ K1 .nil [] rfl ⟨by simpa [slots] using Own.nil 1 K1, (LOwn.nil K1).look, by simp⟩ (Fresh.nil _) (Fr.refl _) (by simp)
set_option maxRecDepth 100000 in
theorem deadAt_ok (f : List Bk) (ws : List AV) (fv : AV) (H : Hp) (hg : GoodF f) (hv : FRow H fv f ws) : T Try.prog 98 [fv] H (fun r K => (∃ us, LOwn K r (deadAll f) us ∧ ∀ u ∈ us, Fresh H.length u) ∧ Fresh H.length r ∧ Fr H K) := by
  refine T.by tabOk Try.func98 (by kernel_rfl) rfl _ (by simp [Try.f98]) H _ ?_
  have hlen := hv.count 67
  have h8 := hg.1.2
  simp [Try.f98]
  refine (liveSets_ok f ws fv true H hg hv).mono fun x K1 ⟨⟨xs, x1⟩, x2, x3⟩ => ?_
  simp only [Bool.not_true] at x1
  have hup := alive_upp false f
  obtain ⟨K2, hK2, f2⟩ : ∃ K2, K1 ++ [some ⟨1, true, []⟩] = K2 ∧ Fr K1 K2 := ⟨_, rfl, Fr.app _ _⟩
  have own0 : Own 1 K2 (.sl K1.length 0 0) [] := by
    have := Own.new (sz := 1) (K := K1) (es := []) (by simp)
    simp at this
    rw [hK2] at this
    exact this
  simp [tab, hlen, buildSliceA, zerosA, fillA, over, hK2]
  refine W_loop _ fun I hI => ?_
  have key : ∀ (r p : List Bk) (ts : TS) (K : Hp) (o : AV) (us : List AV), f = p ++ r → LOwn K o (p.map fun b => deadL b.code (behS b (alive false f))) us → (∀ u ∈ us, Fresh K1.length u) → Fresh K1.length o → Fr K1 K → (ts 3 = x ∧ ts 4 = o ∧ ts 14 = fv ∧ ts 15 = .int .i64 f.length ∧ ts 16 = .int .i64 p.length) → I ts K := by
    intro r
    induction r with
    | nil =>
      intro p ts K o us e ho hf hfo hK hts
      apply hI
      simp at e
      subst e
      simp [hts, tab]
      exact ⟨⟨us, ho, fun u hu => (hf u hu).mono x3.1⟩, hfo.mono x3.1, x3.trans hK⟩
    | cons b r ih =>
      intro p ts K o us e ho hf hfo hK hts
      apply hI
      have hlt : (p.length : Int) < f.length := by simp [e]; omega
      have hbf : f[p.length]? = some b := by simp [e]
      have hgb := hg.2 b (by simp [e])
      have hgb' : GoodB (alive false f).length b := by rw [hup.len]; exact hgb
      have h30 := hgb.1.1
      obtain ⟨b1, q, u, hu, e1, e2, e3⟩ := (hv.fr (x3.trans hK)).get (e := 67) rfl hbf
      have hu1 := e3.one
      have hu2 := cells_of_one hu1
      have hul := e3.len 102
      obtain ⟨K', hK', fB⟩ : ∃ K', K ++ [some ⟨4, true, [u, .int .i64 b.test, .int .i64 b.thn, .int .i64 b.els]⟩] = K' ∧ Fr K K' := ⟨_, rfl, Fr.app K _⟩
      have hb : K'[K.length]? = some (some ⟨4, true, [u, .int .i64 b.test, .int .i64 b.thn, .int .i64 b.els]⟩) := by rw [← hK']; simp
      have hK'l : K'.length = K.length + 1 := by rw [← hK']; simp
      obtain ⟨K3, hK3, f3⟩ : ∃ K3, K' ++ [some ⟨1, true, []⟩] = K3 ∧ Fr K' K3 := ⟨_, rfl, Fr.app _ _⟩
      have ownD : Own 1 K3 (.sl K'.length 0 0) (ints []) := by
        have := Own.new (sz := 1) (K := K') (es := ints []) (ints_one _)
        simp [ints] at this
        rw [hK3] at this
        simpa [ints] using this
      have q0 : loadA tLN K3 (.ptr K.length 0) = some u := load_at (f3.2 _ _ hb id) rfl rfl rfl
      simp only [cellsB] at e2
      simp (maxDischargeDepth := 9) [hts, tab, hlt, e1, e2, hu1, hu2, storeB, over, hK', buildSliceA, zerosA, fillA, hK3, q0, hul]
      refine W_loop _ fun I2 hI2 => ?_
      have key2 : ∀ (rc pc : List Ins) (ts : TS) (Ki : Hp) (w : AV) (D : List Int), b.code = pc ++ rc → Own 1 Ki w (ints D) → Srt D → (∀ n, n ∈ D ↔ deadP b.code (behS b (alive false f)) n ∧ n < pc.length) → Fresh K'.length w → Fr K' Ki → (ts 3 = x ∧ ts 4 = o ∧ ts 14 = fv ∧ ts 15 = .int .i64 f.length ∧ ts 16 = .int .i64 p.length ∧ ts 6 = .ptr K.length 0 ∧ ts 7 = w ∧ ts 22 = u ∧ ts 23 = .int .i64 b.code.length ∧ ts 24 = .int .i64 pc.length) → I2 ts Ki := by
        intro rc
        induction rc with
        | nil =>
          intro pc ts Ki w D ec ho2 hsD hmD hfw hKi hts
          apply hI2
          simp at ec
          have hD : D = deadL b.code (behS b (alive false f)) := deadL_eq hsD fun n => (hmD n).trans ⟨fun h => h.1, fun h => ⟨h, by
            obtain ⟨k, x, rfl, hk, _⟩ := h
            have := (List.getElem?_eq_some_iff.1 hk).1
            rw [← ec]
            omega⟩⟩
          have hw1 := ho2.row.one
          have hw2 := ho2.row.self
          have holt := ho.lt
          have hpl : p.length ≤ 1048576 := by simp [e] at h8; omega
          have FK : Fr K Ki := fB.trans hKi
          obtain ⟨o', K4, g1, g2, g3, g4⟩ := (ho.fr FK).push ho2 (by intro b hb hx; have := hfw b hb; have := holt b hx; omega) (by simpa using hpl)
          have hwp := wrap64 (x := p.length + 1) (by omega) (by omega)
          have hcl : (b.code.length : Int) = pc.length := by rw [ec]
          simp (maxDischargeDepth := 9) [hts, tab, hcl, hwp, buildSliceA, zerosA, fillA, over, hw1, hw2, g1]
          refine ih (p ++ [b]) _ K4 o' (us ++ [w]) (by simp [e]) (by rw [hD] at g2; simpa using g2) (fun u hu => ?_) (fun b hb => (g4 b hb).elim (hfo b) fun h => ?_) (Fr.then (hK.trans FK) g3 hfo) (by simp [hts])
          · rcases List.mem_append.1 hu with hu | hu
            · exact hf u hu
            · simp at hu; subst hu; exact hfw.mono (by have := hK.1; omega)
          · have := FK.1; have := hK.1; omega
        | cons a rc ih2 =>
          intro pc ts Ki w D ec ho2 hsD hmD hfw hKi hts
          apply hI2
          have hltc : (pc.length : Int) < b.code.length := by simp [ec]; omega
          have hget : b.code[pc.length]? = some a := by rw [ec]; simp
          have hdrop : b.code.drop (pc.length + 1) = rc := by rw [ec]; simp [List.drop_append]
          have hga := hgb.1.2 a (by rw [ec]; simp)
          have hbi := hKi.2 _ _ hb id
          have e3i := (e3.fr fB).fr hKi
          obtain ⟨b2, q2, _, d1, d2, -⟩ := e3i.get (tab := tab) (e := 102) (ety := tN) rfl (i := pc.length) (a := a) hget .i64
          have d2 := d2 rfl
          obtain ⟨Kx, hKx, fx⟩ : ∃ Kx, Ki ++ [some ⟨5, true, a.enc⟩] = Kx ∧ Fr Ki Kx := ⟨_, rfl, Fr.app _ _⟩
          have hx0 : Kx[Ki.length]? = some (some ⟨5, true, a.enc⟩) := by rw [← hKx]; simp
          simp only [Ins.enc] at hKx d2
          have hwk := wrap64 (x := pc.length + 1) (by omega) (by omega)
          simp only [W_seq]
          refine W_cut (fun ts K9 => K9 = Ki ∧ ts 25 = .bool true ∧ ts 3 = x ∧ ts 4 = o ∧ ts 14 = fv ∧ ts 15 = .int .i64 f.length ∧ ts 16 = .int .i64 p.length ∧ ts 6 = .ptr K.length 0 ∧ ts 7 = w ∧ ts 22 = u ∧ ts 23 = .int .i64 b.code.length ∧ ts 24 = .int .i64 pc.length) ?_ ?_
          · simp [hts, tab, hltc]
          rintro ts Ki ⟨rfl, t25, hts⟩
          simp only [post_sq, W_cond, evA, t25, W_skip, W_block, W_seq, if_true]
          refine W_cut (fun ts K9 => K9 = Kx ∧ ts 3 = x ∧ ts 4 = o ∧ ts 14 = fv ∧ ts 15 = .int .i64 f.length ∧ ts 16 = .int .i64 p.length ∧ ts 6 = .ptr K.length 0 ∧ ts 7 = w ∧ ts 22 = u ∧ ts 23 = .int .i64 b.code.length ∧ ts 24 = .int .i64 pc.length ∧ ts 8 = .int .i64 pc.length ∧ ts 9 = .ptr Ki.length 0) ?_ ?_
          · simp (maxDischargeDepth := 9) [hts, tab, d1, d2, storeB, over, hKx]
          rintro ts K9 ⟨rfl, hts⟩
          rw [post_sq, W_seq]
          have FB : Fr K' K9 := hKi.trans fx
          have hbx := FB.2 _ _ hb id
          have e3x := e3i.fr fx
          have hpart := e3x.part (pc.length + 1) b.code.length (by omega) (by simp) (some (.int .i64 ((pc.length : Int) + 1))) none (by simp) (by simp)
          obtain ⟨u', s1, s2, -⟩ := hpart
          have hrc : ((b.code.map Ins.enc).drop (pc.length + 1)).take (b.code.length - (pc.length + 1)) = rc.map Ins.enc := by
            rw [← List.map_drop, hdrop]
            exact List.take_of_length_le (by simp [ec]; omega)
          rw [hrc] at s2
          refine W_cut (fun ts K4 => NextAt (codeS rc false (behS b (alive false f))) K9 (ts 10) K4 ∧ ts 3 = x ∧ ts 4 = o ∧ ts 14 = fv ∧ ts 15 = .int .i64 f.length ∧ ts 16 = .int .i64 p.length ∧ ts 6 = .ptr K.length 0 ∧ ts 7 = w ∧ ts 22 = u ∧ ts 23 = .int .i64 b.code.length ∧ ts 24 = .int .i64 pc.length ∧ ts 8 = .int .i64 pc.length ∧ ts 9 = .ptr Ki.length 0) ?_ ?_
          · refine W_draw mixed (.look 0 (.look 1 (.look 2 (.look 3 (.look 4 (.look 5 (.look 6 (.act 7 [1, 4] (.act 8 [] (.act 9 [] (.act 10 [] .done .stop) .stop) (.act 9 [1, 4] (.act 8 [] (.act 10 [] .done .stop) .stop) .stop)) (.act 9 [1, 4, 5] (.act 7 [1, 4] (.act 8 [] (.act 10 [] .done .stop) .stop) .stop) .stop))))))))) (by kernel_rfl) ?_
            have fZ : ∀ K : Hp, Fr K (K ++ [some ⟨8, true, List.replicate 8 (.bool false)⟩]) := fun K => Fr.app K _
            have Q0 : ∀ K2, Fr K9 K2 → loadA tLN K2 (.ptr K.length 0) = some u := fun K2 h => load_at (h.2 _ _ hbx id) rfl rfl rfl
            have Q9 : ∀ K2, Fr K9 K2 → loadA tK K2 (.ptr K.length 0) = some (.agg [u, .int .i64 b.test, .int .i64 b.thn, .int .i64 b.els]) := fun K2 h => by simp [loadA, h.2 _ _ hbx id]
            have LV : ∀ K2, Fr K9 K2 → liveA 5 K2 u = true := fun K2 h => (e3x.fr h).live
            have hrl : ∀ x ∈ rc, GoodI x := fun y hy => hgb.1.2 y (by rw [ec]; simp [hy])
            have hrl2 : rc.length ≤ 1048576 := by simp [ec] at h30; omega
            have hc8 : (alive false f).length ≤ 1048576 := by rw [hup.len]; omega
            have hxx : ∀ K2, Fr K9 K2 → ARow K2 x (alive false f) xs := fun K2 h => x1.fr ((hK.trans (fB.trans FB)).trans h)
            have r0 := Fr.refl K9
            have q0 := Q0 K9 r0
            have q9 := Q9 K9 r0
            have lv := LV K9 r0
            simp (maxDischargeDepth := 9) [hts, tab, q0, q9, lv, s1, hwk, -List.reduceReplicate]
            refine ⟨?_, ?_⟩
            · refine (liveBehind_ok b u (alive false f) xs x K9 hgb' hu1 hc8 (hxx _ r0)).mono fun y KA ⟨⟨c1, y1, y2⟩, y3⟩ => ?_
              subst y1
              have q0 := Q0 KA y3
              have lv := LV KA y3
              simp [hts, tab, q0, lv, s1, -List.reduceReplicate]
              refine ⟨?_, ?_⟩
              · refine (backStep_ok rc u' c1 _ true KA hrl hrl2 (s2.fr y3) y2).mono fun w2 KB ⟨⟨c2, z1, z2⟩, z3⟩ => ?_
                subst z1
                simp only [Bool.not_true] at z2
                obtain ⟨KC, hKC, fC⟩ : ∃ KC, KB ++ [some ⟨8, true, List.replicate 8 (.bool false)⟩] = KC ∧ Fr KB KC := ⟨_, rfl, fZ KB⟩
                obtain ⟨KD, g1, g2⟩ := next_put (K := K9) z2 (by rw [← hKC]; simp [-List.reduceReplicate] : KC[KB.length]? = _) (Nat.le_trans y3.1 z3.1) (y3.trans (z3.trans fC))
                simp [hts, tab, hKC, g1, -List.reduceReplicate]
                exact g2
              · obtain ⟨KB, hKB, fBB⟩ : ∃ KB, KA ++ [some ⟨8, true, List.replicate 8 (.bool false)⟩] = KB ∧ Fr KA KB := ⟨_, rfl, fZ KA⟩
                have q0 := Q0 KB (y3.trans fBB)
                have lv := LV KB (y3.trans fBB)
                have hz : KB[KA.length]? = some (some ⟨8, true, List.replicate 8 (.bool false)⟩) := by rw [← hKB]; simp [-List.reduceReplicate]
                simp [hts, tab, hKB, q0, lv, s1, -List.reduceReplicate]
                refine (backStep_ok rc u' c1 _ true KB hrl hrl2 (s2.fr (y3.trans fBB)) y2).mono fun w2 KC ⟨⟨c2, z1, z2⟩, z3⟩ => ?_
                subst z1
                simp only [Bool.not_true] at z2
                obtain ⟨KD, g1, g2⟩ := next_put (K := K9) z2 (z3.2 _ _ hz id) y3.1 (y3.trans (fBB.trans z3))
                simp [hts, tab, g1, -List.reduceReplicate]
                exact g2
            · obtain ⟨KA, hKA, fA⟩ : ∃ KA, K9 ++ [some ⟨8, true, List.replicate 8 (.bool false)⟩] = KA ∧ Fr K9 KA := ⟨_, rfl, fZ K9⟩
              have q0 := Q0 KA fA
              have q9 := Q9 KA fA
              have lv := LV KA fA
              have hz : KA[K9.length]? = some (some ⟨8, true, List.replicate 8 (.bool false)⟩) := by rw [← hKA]; simp [-List.reduceReplicate]
              simp [hts, tab, hKA, q0, q9, lv, s1, -List.reduceReplicate]
              refine (liveBehind_ok b u (alive false f) xs x KA hgb' hu1 hc8 (hxx _ fA)).mono fun y KB ⟨⟨c1, y1, y2⟩, y3⟩ => ?_
              subst y1
              have q0 := Q0 KB (fA.trans y3)
              have lv := LV KB (fA.trans y3)
              simp [hts, tab, q0, lv, s1, -List.reduceReplicate]
              refine (backStep_ok rc u' c1 _ true KB hrl hrl2 (s2.fr (fA.trans y3)) y2).mono fun w2 KC ⟨⟨c2, z1, z2⟩, z3⟩ => ?_
              subst z1
              simp only [Bool.not_true] at z2
              obtain ⟨KD, g1, g2⟩ := next_put (K := K9) z2 (z3.2 _ _ (y3.2 _ _ hz id) id) (Nat.le_refl _) (fA.trans (y3.trans z3))
              simp [hts, tab, g1, -List.reduceReplicate]
              exact g2
          rintro ts K4 ⟨⟨nb, c2, hnb, n1, n2, _, f4⟩, hts⟩
          have hx4 := f4.2 _ _ hx0 id
          have g0 : loadA tI K4 (.ptr Ki.length 0) = some (.int .i64 a.op) := load_at hx4 rfl rfl rfl
          have g1 : loadA tI K4 (.ptr Ki.length 1) = some (.int .i64 a.dst) := load_at hx4 rfl rfl rfl
          have hdead : ∀ n, (deadP b.code (behS b (alive false f)) n ∧ n < (pc.length : Int) + 1) ↔ n ∈ D ∨ (n = pc.length ∧ a.op ≠ 8 ∧ ¬ codeS rc false (behS b (alive false f)) a.dst) := fun n => by
            rw [hmD n]
            constructor
            · rintro ⟨h1, h2⟩
              by_cases hne : n = pc.length
              · right
                refine ⟨hne, ?_⟩
                obtain ⟨k, y, rfl, hk, h3, h4⟩ := h1
                have : k = pc.length := by omega
                subst this
                rw [hget] at hk
                cases hk
                rw [hdrop] at h4
                exact ⟨h3, h4⟩
              · exact .inl ⟨h1, by omega⟩
            · rintro (⟨h1, h2⟩ | ⟨rfl, h3, h4⟩)
              · exact ⟨h1, by omega⟩
              · exact ⟨⟨pc.length, a, rfl, hget, h3, by rw [hdrop]; exact h4⟩, by omega⟩
          have fi4 : Fr Ki K4 := fx.trans f4
          have ho4 := ho2.fr fi4
          have hskip : (a.op = 8 ∨ codeS rc false (behS b (alive false f)) a.dst) → ∀ n, n ∈ D ↔ deadP b.code (behS b (alive false f)) n ∧ n < ((pc ++ [a]).length : Int) := fun hs n => by
            have : ((pc ++ [a]).length : Int) = pc.length + 1 := by simp
            rw [this, hdead n]
            refine ⟨.inl, fun h => h.elim id fun h => ?_⟩
            rcases hs with hs | hs
            · exact absurd hs h.2.1
            · exact absurd hs h.2.2
          rw [post_sq, W_seq]
          by_cases o8 : a.op = 8
          · simp [hts, tab, g0, o8, hwk]
            exact ih2 (pc ++ [a]) _ K4 w D (by simp [ec]) ho4 hsD (hskip (.inl o8)) hfw (hKi.trans fi4) (by simp [hts])
          obtain ⟨j, hj, hj8⟩ := dst_name hga o8
          obtain ⟨t, m1, m2⟩ := n2.at n1 hj8
          have i8 := idx8F (K := K4) (b := nb) (o := 0) hj8 .i64
          simp only [Nat.zero_add] at i8
          rw [hj] at g1
          cases t with
          | true =>
            simp [hts, hnb, tab, g0, g1, o8, i8, m1, hwk]
            exact ih2 (pc ++ [a]) _ K4 w D (by simp [ec]) ho4 hsD (hskip (.inr (by rw [hj]; exact m2.1 rfl))) hfw (hKi.trans fi4) (by simp [hts])
          | false =>
            have hD30 : D.length ≤ b.code.length := below_len hsD fun n hn => by
              obtain ⟨⟨k, y, rfl, hk, _⟩, _⟩ := (hmD n).1 hn
              have := (List.getElem?_eq_some_iff.1 hk).1
              omega
            obtain ⟨w', K5, p1, p2, p3, p4⟩ := ho4.push (pc.length : Int) (by omega)
            have hnd : ¬ codeS rc false (behS b (alive false f)) a.dst := fun h => by rw [hj] at h; cases m2.2 h
            simp [hts, hnb, tab, g0, g1, o8, i8, m1, hwk, buildSliceA, zerosA, fillA, over, p1]
            refine ih2 (pc ++ [a]) _ K5 w' (D ++ [(pc.length : Int)]) (by simp [ec]) p2 (List.pairwise_append.2 ⟨hsD, by simp, fun n hn m hm => ?_⟩) (fun n => ?_) (fun b hb => (p4 b hb).elim (hfw b) fun h => ?_) (Fr.then (hKi.trans fi4) p3 hfw) (by simp [hts])
            · simp at hm
              subst hm
              exact ((hmD n).1 hn).2
            · have : ((pc ++ [a]).length : Int) = pc.length + 1 := by simp
              rw [this, hdead n]
              simp only [List.mem_append, List.mem_singleton]
              constructor
              · rintro (h | h)
                · exact .inl h
                · exact .inr ⟨h, o8, hnd⟩
              · rintro (h | h)
                · exact .inl h
                · exact .inr h.1
            · have := hKi.1; have := fi4.1; omega
      exact key2 b.code [] _ K3 (.sl K'.length 0 0) [] rfl ownD (by simp) (fun n => by
        simp only [List.not_mem_nil, false_iff, List.length_nil]
        rintro ⟨⟨k, y, rfl, _⟩, h⟩
        simp at h
        omega) (fun b hb => by cases hb; exact Nat.le_refl _) f3 (by simp [hts])
  exact key f [] _ K2 (.sl K1.length 0 0) [] rfl ⟨by simpa [slots] using own0, rfl, by simp, by simp, by simp⟩ (by simp) (fun b hb => by cases hb; exact Nat.le_refl _) f2 (by simp)
open Classical in
noncomputable def deadRes (f : List Bk) : List (List Int) × Bool := if GoodF f then (deadAll f, true) else ([], false)
theorem deadRes_few (f : List Bk) : (deadRes f).1.length ≤ 8 ∧ ∀ L ∈ (deadRes f).1, L.length ≤ 30 := by
  unfold deadRes
  split
  · rename_i h
    refine ⟨by simp [deadAll]; exact h.1.2, fun L hL => ?_⟩
    simp [deadAll] at hL
    obtain ⟨b, hb, rfl⟩ := hL
    exact Nat.le_trans (deadL_len _ _) (h.2 b hb).1.1
  · simp
theorem specDeadAt_ok (f : List Bk) (ws : List AV) (v : AV) (H : Hp) (hm : f.length ≤ 1048576) (hmm : ∀ t ∈ f, t.code.length ≤ 1048576) (hv : FRow H v f ws) : T Try.prog 37 [v] H (fun r K => ∃ out, r = .tup [out, .bool (deadRes f).2] ∧ (∃ us, LRow K out (deadRes f).1 us) ∧ Fr H K) := by
  refine T.by tabOk Try.func37 (by kernel_rfl) rfl _ (by simp [Try.f37]) H _ ?_
  simp [Try.f37]
  refine (goodFlow_ok f ws v H hm hmm hv).mono fun r K ⟨⟨t, h1, h2⟩, h3⟩ => ?_
  subst h1
  cases t with
  | false =>
    have hg : ¬ GoodF f := fun h => by cases h2.2 h
    simp [tab, deadRes, hg]
    exact ⟨⟨[], (LOwn.nil K).look⟩, h3⟩
  | true =>
    have hg := h2.1 rfl
    simp [tab]
    refine (l7DeadAt_ok f ws v K hg (hv.fr h3)).mono fun x K1 ⟨x1, x2⟩ => ?_
    simp [tab, deadRes, hg]
    exact ⟨x1, h3.trans x2⟩
theorem implDeadAt_ok (f : List Bk) (ws : List AV) (v : AV) (H : Hp) (hm : f.length ≤ 1048576) (hmm : ∀ t ∈ f, t.code.length ≤ 1048576) (hv : FRow H v f ws) : T Try.prog 38 [v] H (fun r K => ∃ out, r = .tup [out, .bool (deadRes f).2] ∧ (∃ us, LOwn K out (deadRes f).1 us ∧ ∀ u ∈ us, Fresh H.length u) ∧ Fresh H.length out ∧ Fr H K) := by
  refine T.by tabOk Try.func38 (by kernel_rfl) rfl _ (by simp [Try.f38]) H _ ?_
  simp [Try.f38]
  refine (isFlow_ok f ws v H hm hmm hv).mono fun r K ⟨⟨t, h1, h2⟩, h3⟩ => ?_
  subst h1
  cases t with
  | false =>
    have hg : ¬ GoodF f := fun h => by cases h2.2 h
    simp [tab, deadRes, hg]
    exact ⟨⟨[], LOwn.nil K, by simp⟩, Fresh.nil _, h3⟩
  | true =>
    have hg := h2.1 rfl
    simp [tab]
    refine (deadAt_ok f ws v K hg (hv.fr h3)).mono fun x K1 ⟨⟨us, x1, x2⟩, x3, x4⟩ => ?_
    simp [tab, deadRes, hg]
    exact ⟨⟨us, x1, fun u hu => (x2 u hu).mono h3.1⟩, x3.mono h3.1, h3.trans x4⟩
end Go.Proofs.Ytdbnokeegocpbaa.Am
