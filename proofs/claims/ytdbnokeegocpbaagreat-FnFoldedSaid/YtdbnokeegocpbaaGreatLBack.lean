/- Back through code. No condition. -/
import Derived.Test.YtdbnokeegocpbaaGreatLSets
import Derived.Test.YtdbnokeegocpbaaGreatLCur
namespace Go.Proofs.YtdbnokeegocpbaaGreat.Am
open Go Go.RowKit
set_option linter.unusedSimpArgs false
set_option linter.unusedVariables false

theorem put_srt {L A B : List Int} {x : Int} (hL : Srt L) (e : L = A ++ B) (hA : ∀ a ∈ A, a < x) (hB : ∀ b ∈ B.head?, x < b) : Srt ([] ++ A ++ [x] ++ B) := by
  subst e
  have h := List.pairwise_append.1 hL
  have hxb : ∀ b ∈ B, x < b := by
    cases B with
    | nil => simp
    | cons c B =>
      have hc := hB c rfl
      intro b hb
      rcases List.mem_cons.1 hb with rfl | hb
      · exact hc
      · have := (List.pairwise_cons.1 h.2.1).1 b hb
        omega
  simp only [List.nil_append, List.append_assoc]
  refine List.pairwise_append.2 ⟨h.1, List.pairwise_cons.2 ⟨hxb, h.2.1⟩, fun a ha b hb => ?_⟩
  rcases List.mem_cons.1 hb with rfl | hb
  · exact hA a ha
  · exact h.2.2 a ha b hb
theorem put_mem {L A B : List Int} (e : L = A ++ B) (x : Int) (n : Int) : n ∈ [] ++ A ++ [x] ++ B ↔ n = x ∨ n ∈ L := by
  subst e
  simp only [List.nil_append, List.mem_append, List.mem_singleton]
  constructor
  · rintro ((h | h) | h)
    · exact .inr (.inl h)
    · exact .inl h
    · exact .inr (.inr h)
  · rintro (h | h | h)
    · exact .inl (.inr h)
    · exact .inl (.inl h)
    · exact .inr h
set_option maxRecDepth 100000 in
theorem l1PutE_ok (L : List Int) (v : AV) (x : Int) (H : Hp) (hm : L.length ≤ 1048576) (hL : Srt L) (hv : Row 1 H v (ints L)) : T Tryz.prog 100 [v, .int .i64 x] H (fun r K => (∃ L', Row 1 K r (ints L') ∧ Srt L' ∧ ∀ n, n ∈ L' ↔ n = x ∨ n ∈ L) ∧ Fr H K ∧ ∀ b, r.at b → v.at b ∨ H.length ≤ b) := by
  refine T.by tabOk Tryz.func100 (by kernel_rfl) rfl _ (by simp [Tryz.f100]) H _ ?_
  have hlen := hv.len 3
  have hlen : lenA (.slice 3) v = some (.int .i64 L.length) := by simpa using hlen
  have hlv := hv.live
  simp [Tryz.f100]
  refine W_loop _ fun I hI => ?_
  have key : ∀ (B A : List Int) (ts : TS), L = A ++ B → (∀ a ∈ A, a < x) → (ts 0 = v ∧ ts 1 = .int .i64 x ∧ ts 5 = .int .i64 A.length) → I ts H := by
    have done : ∀ (B A : List Int) (ts : TS), L = A ++ B → (∀ a ∈ A, a < x) → (∀ b ∈ B.head?, ¬ b < x) → (ts 0 = v ∧ ts 1 = .int .i64 x ∧ ts 5 = .int .i64 A.length) → I ts H := by
      intro B A ts eA hAx hb hts
      apply hI
      have hAl : A.length + B.length = L.length := by rw [eA]; simp
      obtain ⟨u1, p1, p2, p3⟩ := Row.cut (A := []) (B := A) (C := B) (by simpa [← eA] using hv) none (some (.int .i64 A.length)) rfl (by simp [boundA])
      obtain ⟨u2, K3, a1, a2, a3, a4⟩ := (Own.nil 1 H).join (es := []) p2 (by simp; omega)
      obtain ⟨u3, K4, b1, b2, b3, b4⟩ := a2.push x (by simp; omega)
      have f3 : Fr H K3 := a3
      have f4 : Fr H K4 := Fr.then f3 b3 fun b hb => (a4 b hb).elim (fun h => h.elim) id
      obtain ⟨u4, p4, p5, p6⟩ := Row.cut (A := A) (B := B) (C := []) (by simpa [← eA] using hv.fr f4) (some (.int .i64 A.length)) none rfl (by simp [boundA])
      obtain ⟨u5, K5, c1, c2, c3, c4⟩ := b2.join (es := [] ++ A ++ [x]) p5 (by simp; omega)
      have hu2 : ∀ b, u2.at b → H.length ≤ b := fun b hb => (a4 b hb).elim (fun h => h.elim) id
      have hu3 : ∀ b, u3.at b → H.length ≤ b := fun b hb => (b4 b hb).elim (hu2 b) (fun h => Nat.le_trans f3.1 h)
      have hu5 : ∀ b, u5.at b → H.length ≤ b := fun b hb => (c4 b hb).elim (hu3 b) (fun h => Nat.le_trans f4.1 h)
      have f5 : Fr H K5 := Fr.then f4 c3 hu3
      have hlv4 := (hv.fr f4).live
      cases B with
      | nil =>
        have hno : ¬ (A.length : Int) < L.length := by simp at hAl; omega
        simp (maxDischargeDepth := 9) [hts, tab, hlen, hno, hlv, p1, a1, b1, p4, c1, buildSliceA, zerosA, hlv4]
        exact ⟨⟨_, c2.row, put_srt hL eA hAx (by simp), put_mem eA x⟩, f5, fun b hb => .inr (hu5 b hb)⟩
      | cons b B =>
        have hno : (A.length : Int) < L.length := by simp at hAl; omega
        have hbx := hb b rfl
        obtain ⟨b1', q1, _, g1, g2⟩ := Row.get1 hv (tab := tab) (e := 3) (ety := tI) rfl rfl rfl (i := A.length) (a := b) (by simp [eA]) .i64
        by_cases hbe : b = x
        · simp (maxDischargeDepth := 9) [hts, tab, hlen, hno, g1, g2, hbx, hbe]
          exact ⟨⟨_, hv, hL, fun n => ⟨.inr, fun h => h.elim (fun h => by rw [h, eA, ← hbe]; simp) id⟩⟩, Fr.refl _, fun b hb => .inl hb⟩
        · simp (maxDischargeDepth := 9) [hts, tab, hlen, hno, g1, g2, hbx, hbe, hlv, p1, a1, b1, p4, c1, buildSliceA, zerosA, hlv4]
          exact ⟨⟨_, c2.row, put_srt hL eA hAx (by simp; omega), put_mem eA x⟩, f5, fun b hb => .inr (hu5 b hb)⟩
    intro B
    induction B with
    | nil => exact fun A ts eA hAx hts => done [] A ts eA hAx (by simp) hts
    | cons b B ih =>
      intro A ts eA hAx hts
      by_cases hbx : b < x
      case neg => exact done (b :: B) A ts eA hAx (fun y hy => by simp at hy; subst hy; exact hbx) hts
      apply hI
      have hAl : A.length + (B.length + 1) = L.length := by rw [eA]; simp
      have hlt : (A.length : Int) < L.length := by omega
      obtain ⟨b1', q1, _, g1, g2⟩ := Row.get1 hv (tab := tab) (e := 3) (ety := tI) rfl rfl rfl (i := A.length) (a := b) (by simp [eA]) .i64
      have hw := wrap64 (x := A.length + 1) (by omega) (by omega)
      simp (maxDischargeDepth := 9) [hts, tab, hlen, hlt, g1, g2, hbx, hw]
      exact ih (A ++ [b]) _ (by simp [eA]) (fun a ha => by
        rcases List.mem_append.1 ha with h | h
        · exact hAx a h
        · simp at h; subst h; exact hbx) (by simp [hts])
  exact key L [] _ rfl (by simp) (by simp)
theorem l1Has_ok (l : List Int) (u : AV) (n : Int) (H : Hp) (hm : l.length ≤ 1048576) (hv : Row 1 H u (ints l)) : T Tryz.prog 28 [u, .int .i64 n] H (fun r K => r = .bool (decide (n ∈ l)) ∧ K = H) := by
  refine T.by tabOk Tryz.func28 (by kernel_rfl) rfl _ (by simp [Tryz.f28]) H _ ?_
  have hlen := hv.len 3
  simp [Tryz.f28, tab, hlen]
  refine W_loop _ fun I hI => ?_
  have key : ∀ (r p : List Int) (ts : TS), l = p ++ r → n ∉ p → (ts 1 = .int .i64 n ∧ ts 7 = u ∧ ts 8 = .int .i64 l.length ∧ ts 9 = .int .i64 p.length) → I ts H := by
    intro r
    induction r with
    | nil =>
      intro p ts e hn hts
      apply hI
      simp at e
      subst e
      simp [hts, tab, hn]
    | cons a r ih =>
      intro p ts e hn hts
      apply hI
      have hlt : (p.length : Int) < l.length := by simp [e]; omega
      obtain ⟨b, q, _, e1, e2⟩ := Row.get1 hv (tab := tab) (e := 3) (ety := tI) rfl rfl rfl (i := p.length) (a := a) (by simp [e]) .i64
      have hw := wrap64 (x := p.length + 1) (by omega) (by omega)
      by_cases ha : a = n
      · subst ha
        simp [hts, tab, hlt, e1, e2]
        simp [e]
      · simp [hts, tab, hlt, e1, e2, ha, hw]
        exact ih (p ++ [a]) _ (by simp [e]) (by simp [hn]; exact fun h => ha h.symm) (by simp [hts])
  exact key l [] _ rfl (by simp) (by simp)
theorem BackS.congr {x : Ins} {plain : Bool} {S S' : Int → Prop} (hx : GoodI x) (h : ∀ n, Nm n → (S n ↔ S' n)) (n : Int) (hn : Nm n) : BackS x plain S n ↔ BackS x plain S' n := by
  have hd : x.op = 8 ∨ Nm x.dst := by
    rcases hx with g | g | g | g
    · exact .inr g.2.1
    · exact .inr g.2.1
    · exact .inl g.1
    · exact .inr g.2.2.1
  unfold BackS
  rw [h n hn]
  rcases hd with hd | hd
  · simp [hd]
  · rw [h x.dst hd]
theorem codeS_congr {plain : Bool} {S S' : Int → Prop} (h : ∀ n, Nm n → (S n ↔ S' n)) : ∀ (l : List Ins), (∀ x ∈ l, GoodI x) → ∀ n, Nm n → (codeS l plain S n ↔ codeS l plain S' n)
  | [], _ => h
  | x :: l, hl => BackS.congr (hl x (by simp)) (codeS_congr h l fun y hy => hl y (by simp [hy]))
/-- A list of good names that tells a set, in a heap that grew. -/
def LiveAt (S : Int → Prop) (v : AV) (H0 : Hp) (u : AV) (K : Hp) : Prop := ∃ L1, Row 1 K u (ints L1) ∧ GoodN L1 ∧ (∀ n, n ∈ L1 ↔ S n) ∧ (∀ b, u.at b → v.at b ∨ H0.length ≤ b) ∧ Fr H0 K
set_option maxRecDepth 100000 in
theorem l7Back_ok (x : Ins) (L : List Int) (v : AV) (plain : Bool) (H : Hp) (hx : GoodI x) (hg : GoodN L) (hv : Row 1 H v (ints L)) : T Tryz.prog 74 [.agg x.enc, v, .bool plain] H (LiveAt (BackS x plain (· ∈ L)) v H) := by
  refine T.by tabOk Tryz.func74 (by kernel_rfl) rfl _ (by simp [Tryz.f74]) H _ ?_
  have h8 := goodN_few hg
  obtain ⟨K0, hK0, f0⟩ : ∃ K0, H ++ [some ⟨5, true, x.enc⟩] = K0 ∧ Fr H K0 := ⟨_, rfl, Fr.app _ _⟩
  have hb0 : K0[H.length]? = some (some ⟨5, true, x.enc⟩) := by rw [← hK0]; simp
  simp only [Tryz.f74]
  rw [W_seq]
  refine W_cut (fun ts K => K = K0 ∧ ts 1 = v ∧ ts 2 = .bool plain ∧ ts 3 = .ptr H.length 0) ?_ ?_
  · simp [Ins.enc] at hK0
    simp [tab, Ins.enc, hK0]
  rintro ts K ⟨rfl, t1, t2, t3⟩
  have q0 : loadA tI K (.ptr H.length 0) = some (.int .i64 x.op) := load_at hb0 rfl rfl rfl
  have q1 : loadA tI K (.ptr H.length 1) = some (.int .i64 x.dst) := load_at hb0 rfl rfl rfl
  rw [post_sq, W_seq]
  refine W_cut (fun ts K1 => K1 = K ∧ ts 1 = v ∧ ts 2 = .bool plain ∧ ts 3 = .ptr H.length 0 ∧ ts 7 = .bool (decide (x.op = 8 ∨ x.dst ∈ L))) ?_ ?_
  · by_cases o8 : x.op = 8
    · simp [tab, t1, t2, t3, q0, o8]
    · simp [tab, t1, t2, t3, q0, q1, o8]
      refine (l1Has_ok L v x.dst K (by omega) (hv.fr f0)).mono fun y K1 ⟨y1, y2⟩ => ?_
      subst y1 y2
      simp [tab, t1, t2, t3, o8]
  rintro ts K1 ⟨rfl, t1, t2, t3, t7⟩
  rw [post_sq, W_seq]
  refine W_cut (fun ts K2 => LiveAt (fun n => n ∈ L ∧ (x.op = 8 ∨ n ≠ x.dst)) v H (ts 1) K2 ∧ Fr K1 K2 ∧ ts 2 = .bool plain ∧ ts 3 = .ptr H.length 0 ∧ ts 7 = .bool (decide (x.op = 8 ∨ x.dst ∈ L))) ?_ ?_
  · by_cases o8 : x.op = 8
    · simp [tab, t1, t2, t3, t7, q0, o8]
      exact ⟨⟨L, hv.fr f0, hg, fun n => by simp, fun b hb => .inl hb, f0⟩, Fr.refl _⟩
    · simp [tab, t1, t2, t3, t7, q0, q1, o8]
      refine (l7Without_ok L v x.dst K1 (by omega) (hv.fr f0)).mono fun y K2 ⟨y1, y2, y3⟩ => ?_
      simp [tab, t2, t3, t7, o8]
      refine ⟨⟨_, y1.row, ⟨fun n hn => hg.1 n (List.mem_filter.1 hn).1, hg.2.filter _⟩, fun n => by simp, fun b hb => .inr (Nat.le_trans f0.1 (y2 b hb)), f0.trans y3⟩, y3⟩
  rintro ts K2 ⟨⟨L1, hu, hg1, hm1, hub, f1⟩, f2, t2, t3, t7⟩
  generalize t1 : ts 1 = u at hu hub
  have hb2 := f2.2 _ _ hb0 id
  have hlx : loadA tN K2 (.ptr H.length 0) = some (.agg x.enc) := by simp [loadA, hb2, Ins.enc]
  by_cases hn : (x.op = 8 ∨ x.dst ∈ L) ∨ plain = true
  case neg =>
    have n1 : ¬ (x.op = 8 ∨ x.dst ∈ L) := fun h => hn (.inl h)
    have n2 : plain = false := by cases plain <;> simp_all
    simp only [decide_eq_false n1] at t7
    simp [tab, t1, t2, t3, t7, n2]
    refine ⟨L1, hu, hg1, fun n => (hm1 n).trans ?_, hub, f1⟩
    unfold BackS
    constructor
    · rintro ⟨h1, h2⟩; exact .inl ⟨h1, h2⟩
    · rintro (h | ⟨h, -⟩)
      · exact h
      · exact absurd (h.elim (fun h => .inl (.inl h)) fun h => h.elim (fun h => .inl (.inr h)) fun h => by cases h) hn
  have hus := uses_name hx
  rw [post_sq, W_seq, W_seq]
  refine W_cut (fun ts K => K = K2 ∧ ts 1 = u ∧ ts 3 = .ptr H.length 0 ∧ ts 29 = .bool true) ?_ ?_
  · by_cases hd : x.op = 8 ∨ x.dst ∈ L
    · simp only [decide_eq_true hd] at t7
      simp [tab, t1, t2, t3, t7]
    · have hp : plain = true := hn.elim (fun h => absurd h hd) id
      simp only [decide_eq_false hd] at t7
      simp [tab, t1, t2, t3, t7, hp]
  rintro ts K ⟨rfl, t1, t3, t29⟩
  simp [tab, t1, t3, t29, hlx]
  refine (l3Uses_ok x K).mono fun w K3 ⟨hw, hwf, f3⟩ => ?_
  have hlen := hw.len 3
  simp [tab, hlen]
  refine W_loop _ fun I hI => ?_
  have key : ∀ (r p : List Int) (ts : TS) (K : Hp) (u2 : AV) (L2 : List Int), uses x = p ++ r → Row 1 K u2 (ints L2) → GoodN L2 → (∀ n, n ∈ L2 ↔ n ∈ L1 ∨ n ∈ p) → (∀ b, u2.at b → v.at b ∨ H.length ≤ b) → Fr K3 K → (ts 1 = u2 ∧ ts 31 = w ∧ ts 32 = .int .i64 (uses x).length ∧ ts 33 = .int .i64 p.length) → I ts K := by
    have hul : (uses x).length ≤ 2 := by unfold uses; split <;> (try split) <;> simp
    intro r
    induction r with
    | nil =>
      intro p ts K u2 L2 e h1 h2 h3 h4 hK hts
      apply hI
      simp at e
      simp [hts, tab, e]
      refine ⟨L2, h1, h2, fun n => (h3 n).trans ?_, h4, f1.trans (f3.trans hK)⟩
      rw [hm1 n, ← e]
      unfold BackS
      constructor
      · rintro (h | h)
        · exact .inl h
        · exact .inr ⟨hn.elim (fun h => h.elim .inl fun h => .inr (.inl h)) fun h => .inr (.inr h), h⟩
      · rintro (h | h)
        · exact .inl h
        · exact .inr h.2
    | cons a r ih =>
      intro p ts K u2 L2 e h1 h2 h3 h4 hK hts
      apply hI
      have hlt : (p.length : Int) < (uses x).length := by simp [e]; omega
      obtain ⟨b, q, _, e1, e2⟩ := Row.get1 (hw.fr hK) (tab := tab) (e := 3) (ety := tI) rfl rfl rfl (i := p.length) (a := a) (by simp [e]) .i64
      have hw := wrap64 (x := p.length + 1) (by omega) (by omega)
      have h28 := goodN_few h2
      simp [hts, tab, hlt, e1, e2]
      refine (l1PutE_ok L2 u2 a K (by omega) h2.2 h1).mono fun y K4 ⟨⟨L3, y1, y2, y3⟩, y4, y5⟩ => ?_
      simp [hts, tab, hw]
      refine ih (p ++ [a]) _ K4 y L3 (by simp [e]) y1 ⟨fun n hn => ?_, y2⟩ (fun n => ?_) (fun b hb => (y5 b hb).elim (h4 b) fun h => .inr (Nat.le_trans f1.1 (Nat.le_trans f3.1 (Nat.le_trans hK.1 h)))) (hK.trans y4) (by simp [hts])
      · rcases (y3 n).1 hn with rfl | h
        · exact hus n (by simp [e])
        · exact h2.1 n h
      · rw [y3 n, h3 n]
        simp only [List.mem_append, List.mem_singleton]
        constructor
        · rintro (h | h | h)
          · exact .inr (.inr h)
          · exact .inl h
          · exact .inr (.inl h)
        · rintro (h | h | h)
          · exact .inr (.inl h)
          · exact .inr (.inr h)
          · exact .inl h
  exact key (uses x) [] _ K3 u L1 rfl (hu.fr f3) hg1 (by simp) hub (Fr.refl _) (by simp [t1])
theorem goodC_few {l : List Ins} (h : GoodC l) : l.length ≤ 30 := h.1
set_option maxRecDepth 100000 in
theorem l7Code_ok (l : List Ins) (w : AV) (L : List Int) (v : AV) (plain : Bool) (H : Hp) (hl : ∀ x ∈ l, GoodI x) (hm : l.length ≤ 1048576) (hw : Row 5 H w (l.map Ins.enc)) (hg : GoodN L) (hv : Row 1 H v (ints L)) : T Tryz.prog 43 [w, v, .bool plain] H (LiveAt (codeS l plain (· ∈ L)) v H) := by
  refine T.by tabOk Tryz.func43 (by kernel_rfl) rfl _ (by simp [Tryz.f43]) H _ ?_
  have hlen := hw.len 53
  have hw0 := wrap64 (x := (l.length : Int) - 1) (by omega) (by omega)
  simp [Tryz.f43, tab, hlen, hw0]
  refine W_loop _ fun I hI => ?_
  have key : ∀ (n : Nat) (p r : List Ins) (ts : TS) (K : Hp) (u : AV), p.length = n → l = p ++ r → LiveAt (codeS r plain (· ∈ L)) v H u K → (ts 0 = w ∧ ts 1 = u ∧ ts 2 = .bool plain ∧ ts 7 = .int .i64 ((p.length : Int) - 1)) → I ts K := by
    intro n
    induction n with
    | zero =>
      intro p r ts K u hn e hu hts
      apply hI
      obtain rfl := List.eq_nil_of_length_eq_zero hn
      simp at e hts
      subst e
      simp [hts, tab]
      exact hu
    | succ n ih =>
      intro p r ts K u hn e hu hts
      apply hI
      rcases List.eq_nil_or_concat p with rfl | ⟨p', a, hp'⟩
      · simp at hn
      rw [List.concat_eq_append] at hp'
      subst hp'
      have hn' : p'.length = n := by simpa using hn
      have hgt : (0 : Int) ≤ p'.length := by omega
      have hlt : p'.length < l.length := by simp [e]
      obtain ⟨L1, hr, hg1, hm1, hub, hK⟩ := hu
      obtain ⟨b, q, _, e1, e2, -⟩ := (hw.fr hK).get (tab := tab) (e := 53) (ety := tN) rfl (i := p'.length) (a := a) (by simp [e]) .i64
      have e2 := e2 rfl
      have hwn := wrap64 (x := (p'.length : Int) - 1) (by omega) (by omega)
      simp at hts
      simp [hts, tab, e1, e2]
      refine (l7Back_ok a L1 u plain K (hl a (by simp [e])) hg1 hr).mono fun y K2 ⟨L2, y1, y2, y3, y4, y5⟩ => ?_
      simp [hts, tab, hwn]
      refine ih p' (a :: r) _ K2 y hn' (by simp [e]) ⟨L2, y1, y2, fun n => ?_, fun b hb => (y4 b hb).elim (hub b) fun h => .inr (Nat.le_trans hK.1 h), hK.trans y5⟩ (by simp [hts])
      refine (y3 n).trans ?_
      show BackS a plain (· ∈ L1) n ↔ BackS a plain (codeS r plain (· ∈ L)) n
      have : (fun x => x ∈ L1) = codeS r plain (· ∈ L) := funext fun n => propext (hm1 n)
      rw [this]
  exact key l.length l [] _ H v rfl (by simp) ⟨L, hv, hg, fun n => Iff.rfl, fun b hb => .inl hb, Fr.refl _⟩ (by simp)
def Bit (p : Prop) (v : AV) : Prop := ∃ t, v = .bool t ∧ (t = true ↔ p)
/-- The set in the block at a place, the rest kept. -/
def SetAt (S : Int → Prop) (h : Nat) (c0 : List AV) (K K3 : Hp) : Prop := ∃ c1, K3[h]? = some (some ⟨8, true, c1⟩) ∧ Set8 c1 S ∧ K3[h + 1]? = some (some ⟨8, true, c0⟩) ∧ Keeps (fun b => b = h) K K3
theorem dst_name {x : Ins} (h : GoodI x) (o : ¬ x.op = 8) : ∃ j : Nat, x.dst = j ∧ j < 8 := by
  have hd : Nm x.dst := by
    rcases h with g | g | g | g
    · exact g.2.1
    · exact g.2.1
    · exact absurd g.1 o
    · exact g.2.2.1
  unfold Nm at hd
  obtain ⟨j, hj⟩ := Int.eq_ofNat_of_zero_le hd.1
  exact ⟨j, hj, by omega⟩
set_option maxRecDepth 100000 in
theorem backStep_ok (l : List Ins) (w : AV) (c : List AV) (S : Int → Prop) (strong : Bool) (H : Hp) (hl : ∀ x ∈ l, GoodI x) (hm : l.length ≤ 1048576) (hw : Row 5 H w (l.map Ins.enc)) (hc : Set8 c S) : T Tryz.prog 39 [w, .agg c, .bool strong] H (fun r K => (∃ c', r = .agg c' ∧ Set8 c' (codeS l (!strong) S)) ∧ Fr H K) := by
  refine T.by tabOk Tryz.func39 (by kernel_rfl) rfl _ (by simp [Tryz.f39]) H _ ?_
  have hlen := hw.len 53
  have hw0 := wrap64 (x := (l.length : Int) - 1) (by omega) (by omega)
  have hone := hc.one
  simp only [List.all_eq_true] at hone
  have hone := eq_true hone
  have hc8 := hc.1
  simp [Tryz.f39, tab, hlen, hw0, hone, hc8, -List.reduceReplicate]
  refine W_loop _ fun I hI => ?_
  have key : ∀ (n : Nat) (p r : List Ins) (ts : TS) (K : Hp) (c c0 : List AV), p.length = n → l = p ++ r → K[H.length]? = some (some ⟨8, true, c⟩) → Set8 c (codeS r (!strong) S) → K[H.length + 1]? = some (some ⟨8, true, c0⟩) → c0.length = 8 → Fr H K → (ts 0 = w ∧ ts 2 = .bool strong ∧ ts 4 = .ptr H.length 0 ∧ ts 6 = .ptr (H.length + 1) 0 ∧ ts 7 = .int .i64 ((p.length : Int) - 1)) → I ts K := by
    intro n
    induction n with
    | zero =>
      intro p r ts K c c0 hn e h1 hs h0 h00 hK hts
      apply hI
      obtain rfl := List.eq_nil_of_length_eq_zero hn
      simp at e hts
      subst e
      obtain ⟨K', k1, k2, k3, k4⟩ := hs.over h0 h00
      have hld := hs.load h1
      have hl' := hs.load k2
      simp [hts, tab, hld, k1, hl', -List.reduceReplicate]
      exact ⟨hs, Fr.then hK k3 (by rintro b rfl; omega)⟩
    | succ n ih =>
      intro p r ts K c c0 hn e h1 hs h0 h00 hK hts
      apply hI
      rcases List.eq_nil_or_concat p with rfl | ⟨p', a, hp'⟩
      · simp at hn
      rw [List.concat_eq_append] at hp'
      subst hp'
      have hn' : p'.length = n := by simpa using hn
      have hgt : (0 : Int) ≤ p'.length := by omega
      have hlt : p'.length < l.length := by simp [e]
      have hga := hl a (by simp [e])
      obtain ⟨b, q, _, e1, e2, -⟩ := (hw.fr hK).get (tab := tab) (e := 53) (ety := tN) rfl (i := p'.length) (a := a) (by simp [e]) .i64
      have e2 := e2 rfl
      have hwn := wrap64 (x := (p'.length : Int) - 1) (by omega) (by omega)
      simp at hts
      simp only [W_seq]
      refine W_cut (fun ts K1 => K1 = K ∧ ts 15 = .int .i64 p'.length ∧ ts 16 = .bool true ∧ ts 0 = w ∧ ts 2 = .bool strong ∧ ts 4 = .ptr H.length 0 ∧ ts 6 = .ptr (H.length + 1) 0 ∧ ts 7 = .int .i64 p'.length) ?_ ?_
      · simp [hts, tab]
      rintro ts K1 ⟨rfl, -, t16, hts⟩
      simp only [post_sq, W_cond, evA, t16, W_skip, W_block, W_seq, if_true]
      obtain ⟨K0, hK0, f0⟩ : ∃ K0, K1 ++ [some ⟨5, true, a.enc⟩] = K0 ∧ Fr K1 K0 := ⟨_, rfl, Fr.app _ _⟩
      have hx0 : K0[K1.length]? = some (some ⟨5, true, a.enc⟩) := by rw [← hK0]; simp
      have hsep : H.length + 1 < K1.length := lt_of_get h0
      refine W_cut (fun ts K2 => K2 = K0 ∧ ts 8 = .ptr K1.length 0 ∧ ts 0 = w ∧ ts 2 = .bool strong ∧ ts 4 = .ptr H.length 0 ∧ ts 6 = .ptr (H.length + 1) 0 ∧ ts 7 = .int .i64 p'.length) ?_ ?_
      · simp only [Ins.enc] at hK0 e2
        simp (maxDischargeDepth := 9) [hts, tab, e1, e2, storeB, over, hK0]
      rintro ts K2 ⟨rfl, hts⟩
      have q0 : loadA tI K2 (.ptr K1.length 0) = some (.int .i64 a.op) := load_at hx0 rfl rfl rfl
      have q1 : loadA tI K2 (.ptr K1.length 1) = some (.int .i64 a.dst) := load_at hx0 rfl rfl rfl
      have h1' := f0.2 _ _ h1 id
      have h0' := f0.2 _ _ h0 id
      simp only [post_sq, W_seq]
      refine W_cut (fun ts K => K = K2 ∧ Bit (a.op = 8 ∨ codeS r (!strong) S a.dst ∨ (!strong) = true) (ts 9) ∧ ts 8 = .ptr K1.length 0 ∧ ts 0 = w ∧ ts 2 = .bool strong ∧ ts 4 = .ptr H.length 0 ∧ ts 6 = .ptr (H.length + 1) 0 ∧ ts 7 = .int .i64 p'.length) ?_ ?_
      · by_cases o8 : a.op = 8
        · simp [hts, tab, q0, o8]
          exact ⟨true, rfl, by simp⟩
        cases strong with
        | false =>
          simp [hts, tab, q0, o8]
          exact ⟨true, rfl, by simp⟩
        | true =>
          obtain ⟨j, hj, hj8⟩ := dst_name hga o8
          obtain ⟨t, g1, g2⟩ := hs.at h1' hj8
          have i8 := idx8 (o := 0) h1' (by simp [hs.1]) hj8 .i64
          simp only [Nat.zero_add] at i8
          rw [hj] at q1
          simp [hts, tab, q0, o8, q1, i8, g1]
          exact ⟨t, rfl, by simpa [o8, hj] using g2⟩
      rintro ts K ⟨rfl, ⟨t, t9, ht⟩, hts⟩
      rw [post_sq, W_seq]
      refine W_cut (fun ts K3 => SetAt (fun n => codeS r (!strong) S n ∧ (a.op = 8 ∨ n ≠ a.dst)) H.length c0 K K3 ∧ K3[K1.length]? = some (some ⟨5, true, a.enc⟩) ∧ ts 9 = .bool t ∧ ts 8 = .ptr K1.length 0 ∧ ts 0 = w ∧ ts 2 = .bool strong ∧ ts 4 = .ptr H.length 0 ∧ ts 6 = .ptr (H.length + 1) 0 ∧ ts 7 = .int .i64 p'.length) ?_ ?_
      · by_cases o8 : a.op = 8
        · simp [hts, tab, q0, o8, t9]
          exact ⟨⟨c, h1', hs.congr (by simp), h0', Keeps.refl _ _⟩, hx0⟩
        · obtain ⟨j, hj, hj8⟩ := dst_name hga o8
          obtain ⟨K', k1, k2, k3, k4⟩ := hs.store h1' hj8 false
          have i8 := idx8 (o := 0) h1' (by simp [hs.1]) hj8 .i64
          simp only [Nat.zero_add] at i8
          rw [hj] at q1
          simp [hts, tab, q0, o8, q1, i8, k1, t9]
          exact ⟨⟨_, k2, (hs.put hj8 false).congr fun n _ => by rw [hj]; simp; exact And.comm, k3.2 _ _ h0' (by simp), k3⟩, k3.2 _ _ hx0 (by simp; omega)⟩
      rintro ts K3 ⟨⟨c1, a1, a2, a3, a4⟩, hx3, t9, hts⟩
      have hlx : loadA tN K3 (.ptr K1.length 0) = some (.agg a.enc) := by simp [loadA, hx3, Ins.enc]
      have hfr3 : Fr H K3 := Fr.then (hK.trans f0) a4 (by rintro b rfl; exact Nat.le_refl _)
      cases t with
      | false =>
        simp [hts, tab, t9, hwn]
        refine ih p' (a :: r) _ K3 c1 c0 hn' (by simp [e]) a1 (a2.congr fun n _ => ?_) a3 h00 hfr3 (by simp [hts])
        show _ ↔ BackS a (!strong) (codeS r (!strong) S) n
        unfold BackS
        constructor
        · rintro h; exact .inl h
        · rintro (h | h)
          · exact h
          · exact absurd (ht.2 h.1) (by simp)
      | true =>
        have hus := uses_name hga
        simp [hts, tab, t9, hlx]
        refine (looks_ok a K3 hga).mono fun u K4 ⟨hu, huf, f4⟩ => ?_
        have hulen := hu.len 3
        simp [tab, hulen]
        refine W_loop _ fun I2 hI2 => ?_
        have hul : (uses a).length ≤ 2 := by unfold uses; split <;> (try split) <;> simp
        have key2 : ∀ (r2 p2 : List Int) (ts : TS) (K : Hp) (c2 : List AV), uses a = p2 ++ r2 → K[H.length]? = some (some ⟨8, true, c2⟩) → Set8 c2 (fun n => (codeS r (!strong) S n ∧ (a.op = 8 ∨ n ≠ a.dst)) ∨ n ∈ p2) → K[H.length + 1]? = some (some ⟨8, true, c0⟩) → Keeps (fun b => b = H.length) K4 K → (ts 0 = w ∧ ts 2 = .bool strong ∧ ts 4 = .ptr H.length 0 ∧ ts 6 = .ptr (H.length + 1) 0 ∧ ts 7 = .int .i64 p'.length ∧ ts 44 = u ∧ ts 45 = .int .i64 (uses a).length ∧ ts 46 = .int .i64 p2.length) → I2 ts K := by
          intro r2
          induction r2 with
          | nil =>
            intro p2 ts K c2 ep g1 g2 g3 g4 hts
            apply hI2
            simp at ep
            simp [hts, tab, ep, hwn]
            refine ih p' (a :: r) _ K c2 c0 hn' (by simp [e]) g1 (g2.congr fun n _ => ?_) g3 h00 (Fr.then (hfr3.trans f4) g4 (by rintro b rfl; exact Nat.le_refl _)) (by simp [hts])
            show _ ↔ BackS a (!strong) (codeS r (!strong) S) n
            unfold BackS
            rw [ep]
            constructor
            · rintro (h | h)
              · exact .inl h
              · exact .inr ⟨ht.1 rfl, h⟩
            · rintro (h | h)
              · exact .inl h
              · exact .inr h.2
          | cons m r2 ih2 =>
            intro p2 ts K c2 ep g1 g2 g3 g4 hts
            apply hI2
            have hlt2 : (p2.length : Int) < (uses a).length := by simp [ep]; omega
            obtain ⟨b', q', _, d1, d2⟩ := Row.get1 (hu.keeps g4 (by rintro b hb rfl; have := huf _ hb; have := lt_of_get a3; omega)) (tab := tab) (e := 3) (ety := tI) rfl rfl rfl (i := p2.length) (a := m) (by simp [ep]) .i64
            have hw2 := wrap64 (x := p2.length + 1) (by omega) (by omega)
            have hnm := hus m (by simp [ep])
            unfold Nm at hnm
            obtain ⟨j, rfl⟩ := Int.eq_ofNat_of_zero_le hnm.1
            have hj8 : j < 8 := by omega
            obtain ⟨K', k1, k2, k3, k4⟩ := g2.store g1 hj8 true
            have i8 := idx8 (o := 0) g1 (by simp [g2.1]) hj8 .i64
            simp only [Nat.zero_add] at i8
            simp [hts, tab, hlt2, d1, d2, i8, k1, hw2]
            refine ih2 (p2 ++ [(j : Int)]) _ K' _ (by simp [ep]) k2 ((g2.put hj8 true).congr fun n _ => ?_) (k3.2 _ _ g3 (by simp)) (g4.trans k3) (by simp [hts])
            by_cases hnj : n = j <;> simp [hnj]
        exact key2 (uses a) [] _ K4 c1 rfl (f4.2 _ _ a1 id) (a2.congr (by simp)) (f4.2 _ _ a3 id) (Keeps.refl _ _) (by simp [hts])
  exact key l.length l [] _ _ c (List.replicate 8 (.bool false)) rfl (by simp) (by simp [-List.reduceReplicate]) hc (by simp [-List.reduceReplicate]) (by simp) (Fr.app H _) (by simp)
open Classical in
/-- The good names of a set, as they rise. -/
noncomputable def setN (S : Int → Prop) : List Int := ((List.range 8).map fun j : Nat => (j : Int)).filter fun n => decide (S n)
theorem mem_setN (S : Int → Prop) (n : Int) : n ∈ setN S ↔ Nm n ∧ S n := by
  unfold setN Nm
  simp only [List.mem_filter, List.mem_map, List.mem_range, decide_eq_true_eq]
  constructor
  · rintro ⟨⟨j, hj, rfl⟩, h⟩; exact ⟨by omega, h⟩
  · rintro ⟨h1, h⟩
    obtain ⟨j, rfl⟩ := Int.eq_ofNat_of_zero_le h1.1
    exact ⟨⟨j, by omega, rfl⟩, h⟩
theorem setN_good (S : Int → Prop) : GoodN (setN S) := by
  refine ⟨fun n hn => ((mem_setN S n).1 hn).1, ?_⟩
  refine List.Pairwise.filter _ ?_
  rw [List.pairwise_map]
  exact (List.pairwise_lt_range).imp fun h => by omega
theorem setN_eq {L : List Int} {S : Int → Prop} (hg : GoodN L) (h : ∀ n, n ∈ L ↔ Nm n ∧ S n) : L = setN S := srt_ext hg.2 (setN_good S).2 fun n => (h n).trans (mem_setN S n).symm
theorem setN_eq' {L : List Int} {S : Int → Prop} (hg : GoodN L) (h : ∀ n, n ∈ L ↔ S n) : L = setN S := setN_eq hg fun n => ⟨fun hn => ⟨hg.1 n hn, (h n).1 hn⟩, fun hn => (h n).2 hn.2⟩
theorem setN_len (S : Int → Prop) : (setN S).length ≤ 8 := goodN_few (setN_good S)
end Go.Proofs.YtdbnokeegocpbaaGreat.Am
