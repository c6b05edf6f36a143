/- Code: both ways to ask whether it is good come to the same. No condition. -/
import Derived.Test.YtdbnokeegocpbaaGreatLWords
namespace Go.Proofs.YtdbnokeegocpbaaGreat.Am
open Go Go.RowKit
set_option linter.unusedSimpArgs false
set_option linter.unusedVariables false

structure Ins where
  op : Int
  dst : Int
  a : Int
  b : Int
  n : Int
  deriving DecidableEq
def Ins.enc (x : Ins) : List AV := [.int .i64 x.op, .int .i64 x.dst, .int .i64 x.a, .int .i64 x.b, .int .i64 x.n]
abbrev inss (l : List Ins) : List (List AV) := l.map Ins.enc
abbrev tN : Ty := ⟨.struct [(0, 3), (1, 3), (2, 3), (3, 3), (4, 3)], 5, 40, [.int .i64 0, .int .i64 0, .int .i64 0, .int .i64 0, .int .i64 0], true⟩
def Nm (v : Int) : Prop := 0 ≤ v ∧ v ≤ 7
instance (v : Int) : Decidable (Nm v) := inferInstanceAs (Decidable (_ ∧ _))
def GoodI (x : Ins) : Prop := (x.op = 1 ∧ Nm x.dst ∧ x.a = 0 ∧ x.b = 0 ∧ 0 ≤ x.n ∧ x.n ≤ 65535) ∨ (x.op = 2 ∧ Nm x.dst ∧ Nm x.a ∧ x.b = 0 ∧ x.n = 0) ∨ (x.op = 8 ∧ x.dst = 0 ∧ Nm x.a ∧ x.b = 0 ∧ x.n = 0) ∨ (3 ≤ x.op ∧ x.op ≤ 7 ∧ Nm x.dst ∧ Nm x.a ∧ Nm x.b ∧ x.n = 0)
instance (x : Ins) : Decidable (GoodI x) := inferInstanceAs (Decidable (_ ∨ _))
def GoodC (l : List Ins) : Prop := l.length ≤ 30 ∧ ∀ x ∈ l, GoodI x
theorem l3Name_ok (v : Int) (H : Hp) : T Tryz.prog 54 [.int .i64 v] H (fun r H' => r = .bool (decide (Nm v)) ∧ H' = H) := by
  refine T.by tabOk Tryz.func54 (by kernel_rfl) rfl _ (by simp [Tryz.f54]) H _ ?_
  simp [Tryz.f54, tab]
  refine (l1In_ok v 0 7 H).mono fun r K ⟨e1, e2⟩ => ?_
  subst e1 e2
  simp
  by_cases h1 : 0 ≤ v <;> by_cases h2 : v ≤ 7 <;> simp [Nm, h1, h2]
theorem isName_ok (v : Int) (H : Hp) : T Tryz.prog 48 [.int .i64 v] H (fun r H' => r = .bool (decide (Nm v)) ∧ H' = H) := by
  refine T.by tabOk Tryz.func48 (by kernel_rfl) rfl _ (by simp [Tryz.f48]) H _ ?_
  simp [Tryz.f48, tab]
  refine (in_ok v 0 7 H).mono fun r K ⟨e1, e2⟩ => ?_
  subst e1 e2
  simp
  by_cases h1 : 0 ≤ v <;> by_cases h2 : v ≤ 7 <;> simp [Nm, h1, h2]
theorem l3Two_ok (v : Int) (H : Hp) : T Tryz.prog 59 [.int .i64 v] H (fun r H' => r = .bool (decide (3 ≤ v ∧ v ≤ 7)) ∧ H' = H) := by
  refine T.by tabOk Tryz.func59 (by kernel_rfl) rfl _ (by simp [Tryz.f59]) H _ ?_
  simp [Tryz.f59, tab]
  refine (l1In_ok v 3 7 H).mono fun r K ⟨e1, e2⟩ => ?_
  subst e1 e2
  simp
/-- What a question that looks into a new block answers. -/
def Says (p : Prop) (H : Hp) (r : AV) (K : Hp) : Prop := (∃ t, r = .bool t ∧ (t = true ↔ p)) ∧ Fr H K
theorem Says.no {p : Prop} {H K : Hp} (hp : ¬ p) (h : Fr H K) : Says p H (.bool false) K := ⟨⟨false, rfl, by simp [hp]⟩, h⟩
theorem Says.of {p q : Prop} [Decidable q] {H K : Hp} (hp : q ↔ p) (h : Fr H K) : Says p H (.bool (decide q)) K := ⟨⟨_, rfl, by simpa using hp⟩, h⟩
theorem Says.beq {p : Prop} {n m : Int} {H K : Hp} (hp : n = m ↔ p) (h : Fr H K) : Says p H (.bool (n == m)) K := ⟨⟨_, rfl, by simpa using hp⟩, h⟩
theorem Says.yes {p : Prop} {H K : Hp} (hp : p) (h : Fr H K) : Says p H (.bool true) K := ⟨⟨true, rfl, by simp [hp]⟩, h⟩
set_option maxRecDepth 100000 in
theorem l3Good_ok (x : Ins) (H : Hp) : T Tryz.prog 73 [.agg x.enc] H (Says (GoodI x) H) := by
  refine T.by tabOk Tryz.func73 (by kernel_rfl) rfl _ (by simp [Tryz.f73]) H _ ?_
  obtain ⟨op, dst, a, b, n⟩ := x
  have f0 : Fr H (H ++ [some ⟨5, true, [.int .i64 op, .int .i64 dst, .int .i64 a, .int .i64 b, .int .i64 n]⟩]) := Fr.app _ _
  by_cases o1 : op = 1
  · subst o1
    simp [Tryz.f73, tab, Ins.enc, loadB]
    refine (l3Name_ok dst _).mono fun r K ⟨e1, e2⟩ => ?_
    subst e1 e2
    by_cases c1 : Nm dst
    case neg =>
      simp [c1, tab]
      exact Says.no (by simp [GoodI, c1]) f0
    by_cases c2 : a = 0
    case neg =>
      simp [c1, c2, tab, loadB]
      exact Says.no (by simp [GoodI, c2]) f0
    subst c2
    have c2 := trivial
    by_cases c3 : b = 0
    case neg =>
      simp [c1, c2, c3, tab, loadB]
      exact Says.no (by simp [GoodI, c3]) f0
    subst c3
    have c3 := trivial
    simp [c1, c2, c3, tab, loadB]
    refine (l1Word_ok n _).mono fun r K ⟨e1, e2⟩ => ?_
    subst e1 e2
    simp [tab]
    refine ⟨⟨_, rfl, ?_⟩, f0⟩
    simp [GoodI, c1]
  by_cases o2 : op = 2
  · subst o2
    simp [Tryz.f73, tab, Ins.enc, loadB]
    refine (l3Name_ok dst _).mono fun r K ⟨e1, e2⟩ => ?_
    subst e1 e2
    by_cases c1 : Nm dst
    case neg =>
      simp [c1, tab]
      exact Says.no (by simp [GoodI, c1]) f0
    simp [c1, tab, loadB]
    refine (l3Name_ok a _).mono fun r K ⟨e1, e2⟩ => ?_
    subst e1 e2
    by_cases c2 : Nm a
    case neg =>
      simp [c2, tab]
      exact Says.no (by simp [GoodI, c2]) f0
    by_cases c3 : b = 0
    case neg =>
      simp [c2, c3, tab, loadB]
      exact Says.no (by simp [GoodI, c3]) f0
    subst c3
    have c3 := trivial
    simp [c2, c3, tab, loadB]
    exact Says.beq (by simp [GoodI, c1, c2, c3]) f0
  by_cases o8 : op = 8
  · subst o8
    by_cases c1 : dst = 0
    case neg =>
      simp [Tryz.f73, tab, Ins.enc, loadB, c1]
      exact Says.no (by simp [GoodI, c1]) f0
    subst c1
    have c1 := trivial
    simp [Tryz.f73, tab, Ins.enc, loadB, c1]
    refine (l3Name_ok a _).mono fun r K ⟨e1, e2⟩ => ?_
    subst e1 e2
    by_cases c2 : Nm a
    case neg =>
      simp [c2, tab]
      exact Says.no (by simp [GoodI, c2]) f0
    by_cases c3 : b = 0
    case neg =>
      simp [c2, c3, tab, loadB]
      exact Says.no (by simp [GoodI, c3]) f0
    subst c3
    have c3 := trivial
    simp [c2, c3, tab, loadB]
    exact Says.beq (by simp [GoodI, c1, c2, c3]) f0
  simp [Tryz.f73, tab, Ins.enc, loadB, o1, o2, o8]
  refine (l3Two_ok op _).mono fun r K ⟨e1, e2⟩ => ?_
  subst e1 e2
  by_cases c0 : 3 ≤ op ∧ op ≤ 7
  case neg =>
    simp [c0, tab]
    exact Says.no (fun h => by rcases h with h | h | h | h; exact o1 h.1; exact o2 h.1; exact o8 h.1; exact c0 ⟨h.1, h.2.1⟩) f0
  simp [c0, tab, loadB]
  refine (l3Name_ok dst _).mono fun r K ⟨e1, e2⟩ => ?_
  subst e1 e2
  by_cases c1 : Nm dst
  case neg =>
    simp [c1, tab]
    exact Says.no (by simp [GoodI, o1, o2, o8, c1]) f0
  simp [c1, tab, loadB]
  refine (l3Name_ok a _).mono fun r K ⟨e1, e2⟩ => ?_
  subst e1 e2
  by_cases c2 : Nm a
  case neg =>
    simp [c2, tab]
    exact Says.no (by simp [GoodI, o1, o2, o8, c2]) f0
  simp [c2, tab, loadB]
  refine (l3Name_ok b _).mono fun r K ⟨e1, e2⟩ => ?_
  subst e1 e2
  by_cases c3 : Nm b
  case neg =>
    simp [c3, tab]
    exact Says.no (by simp [GoodI, o1, o2, o8, c3]) f0
  simp [c3, tab, loadB]
  exact Says.beq (by simp [GoodI, c0, c1, c2, c3, o1, o2, o8]) f0
set_option maxRecDepth 100000 in
theorem isInstr_ok (x : Ins) (H : Hp) : T Tryz.prog 71 [.agg x.enc] H (Says (GoodI x) H) := by
  refine T.by tabOk Tryz.func71 (by kernel_rfl) rfl _ (by simp [Tryz.f71]) H _ ?_
  obtain ⟨op, dst, a, b, n⟩ := x
  have f0 : Fr H (H ++ [some ⟨5, true, [.int .i64 op, .int .i64 dst, .int .i64 a, .int .i64 b, .int .i64 n]⟩]) := Fr.app _ _
  have n0 : Nm 0 := by decide
  simp [Tryz.f71, tab, Ins.enc, loadB]
  refine (isName_ok dst _).mono fun r K ⟨e1, e2⟩ => ?_
  subst e1 e2
  by_cases c1 : Nm dst
  case neg =>
    simp [c1, tab]
    exact Says.no (by simp [GoodI, c1]; intro _ h; rw [h] at c1; exact absurd n0 c1) f0
  simp [c1, tab, loadB]
  refine (isName_ok a _).mono fun r K ⟨e1, e2⟩ => ?_
  subst e1 e2
  by_cases c2 : Nm a
  case neg =>
    simp [c2, tab]
    exact Says.no (by simp [GoodI, c2]; intro _ _ h; rw [h] at c2; exact absurd n0 c2) f0
  simp [c2, tab, loadB]
  refine (isName_ok b _).mono fun r K ⟨e1, e2⟩ => ?_
  subst e1 e2
  by_cases c3 : Nm b
  case neg =>
    have hb : ¬ b = 0 := fun h => c3 (h ▸ n0)
    simp [c3, tab]
    exact Says.no (by simp [GoodI, c3, hb]) f0
  simp [c3, tab, loadB]
  refine (isWord_ok n _).mono fun r K ⟨e1, e2⟩ => ?_
  subst e1 e2
  by_cases c4 : 0 ≤ n ∧ n ≤ 65535
  case neg =>
    have hn : ¬ n = 0 := fun h => c4 (by omega)
    simp [c4, tab]
    refine Says.no ?_ f0
    simp only [GoodI, hn, and_false, or_false]
    exact fun h => c4 ⟨h.2.2.2.2.1, h.2.2.2.2.2⟩
  by_cases o1 : op = 1
  · subst o1
    by_cases d1 : a = 0
    case neg =>
      simp [c4, tab, loadB, d1]
      exact Says.no (by simp [GoodI, d1]) f0
    subst d1
    have d1 := trivial
    simp [c4, tab, loadB]
    exact Says.beq (by simp [GoodI, c1, c2, c3, c4]) f0
  by_cases o2 : op = 2
  · subst o2
    by_cases d1 : b = 0
    case neg =>
      simp [c4, tab, loadB, d1]
      exact Says.no (by simp [GoodI, d1]) f0
    subst d1
    have d1 := trivial
    simp [c4, tab, loadB]
    exact Says.beq (by simp [GoodI, c1, c2, c3, c4]) f0
  by_cases c0 : 3 ≤ op ∧ op ≤ 7
  · have o : op = 3 ∨ op = 4 ∨ op = 5 ∨ op = 6 ∨ op = 7 := by omega
    have hg : GoodI ⟨op, dst, a, b, n⟩ ↔ n = 0 := by
      have o8 : ¬ op = 8 := by omega
      simp [GoodI, o1, o2, o8, c0, c1, c2, c3]
    have hs := Says.beq hg.symm f0
    rcases o with rfl | rfl | rfl | rfl | rfl <;> simp [c4, tab, loadB] <;> exact hs
  by_cases o8 : op = 8
  · subst o8
    by_cases d0 : dst = 0
    case neg =>
      simp [c4, tab, loadB, d0]
      exact Says.no (by simp [GoodI, d0]) f0
    subst d0
    have d0 := trivial
    by_cases d1 : b = 0
    case neg =>
      simp [c4, tab, loadB, d0, d1]
      exact Says.no (by simp [GoodI, d1]) f0
    subst d1
    have d1 := trivial
    simp [c4, tab, loadB]
    exact Says.beq (by simp [GoodI, c1, c2, c3, c4]) f0
  have o3 : ¬ op = 3 := by omega
  have o4 : ¬ op = 4 := by omega
  have o5 : ¬ op = 5 := by omega
  have o6 : ¬ op = 6 := by omega
  have o7 : ¬ op = 7 := by omega
  simp [c4, tab, loadB, o1, o2, o3, o4, o5, o6, o7, o8]
  exact Says.no (fun h => by rcases h with h | h | h | h; exact o1 h.1; exact o2 h.1; exact o8 h.1; exact c0 ⟨h.1, h.2.1⟩) f0
def AsksIns (g : FuncId) (caps : List AV) (p : Ins → Bool) (H : Hp) : Prop := ∀ (K : Hp) (m : Ins), Fr H K → T Tryz.prog g (.agg m.enc :: caps) K (fun r K' => r = .bool (p m) ∧ Fr K K')
theorem indexIns_ok (l : List Ins) (v : AV) (g : FuncId) (caps : List AV) (p : Ins → Bool) (H : Hp) (hm : l.length ≤ 1048576) (hv : Row 5 H v (l.map Ins.enc)) (hf : AsksIns g caps p H) : T Tryz.prog 97 [v, .fn g caps] H (fun r K => (∃ i : Int, r = .int .i64 i ∧ (0 ≤ i ↔ ∃ m ∈ l, p m = true)) ∧ Fr H K) := by
  refine T.by tabOk Tryz.func97 (by kernel_rfl) rfl _ (by simp [Tryz.f97]) H _ ?_
  have hlen := hv.len 53
  simp [Tryz.f97, tab, hlen]
  refine W_loop _ fun I hI => ?_
  have key : ∀ (r q : List Ins) (ts : TS) (K : Hp), l = q ++ r → Fr H K → (∀ m ∈ q, p m = false) → (ts 0 = v ∧ ts 1 = .fn g caps ∧ ts 7 = .int .i64 l.length ∧ ts 8 = .int .i64 q.length) → I ts K := by
    intro r
    induction r with
    | nil =>
      intro q ts K e hK hq hts
      apply hI
      simp at e
      subst e
      simp [hts, tab]
      exact ⟨fun m hm => by simp [hq m hm], hK⟩
    | cons a r ih =>
      intro q ts K e hK hq hts
      apply hI
      have hlt : (q.length : Int) < l.length := by simp [e]; omega
      obtain ⟨b, o, _, e1, e2, -⟩ := (hv.fr hK).get (tab := tab) (e := 53) (ety := tN) rfl (i := q.length) (a := a) (by simp [e]) .i64
      have e2 := e2 rfl
      have hw := wrap64 (x := q.length + 1) (by omega) (by omega)
      simp (maxDischargeDepth := 9) [hts, tab, hlt, e1, e2]
      refine (hf K a hK).mono fun y K1 ⟨y1, f1⟩ => ?_
      subst y1
      cases hp : p a with
      | true =>
        simp [hts, hp]
        exact ⟨⟨a, by simp [e], hp⟩, hK.trans f1⟩
      | false =>
        simp [hts, hp, hw]
        exact ih (q ++ [a]) _ _ (by simp [e]) (hK.trans f1) (fun m hm => by
          rcases List.mem_append.1 hm with hm | hm
          · exact hq m hm
          · simp at hm; subst hm; exact hp) (by simp [hts])
  exact key l [] _ H rfl (Fr.refl H) (by simp) (by simp)
theorem containsIns_ok (l : List Ins) (v : AV) (g : FuncId) (caps : List AV) (p : Ins → Bool) (H : Hp) (hm : l.length ≤ 1048576) (hv : Row 5 H v (l.map Ins.enc)) (hf : AsksIns g caps p H) : T Tryz.prog 69 [v, .fn g caps] H (fun r K => (∃ t, r = .bool t ∧ (t = true ↔ ∃ m ∈ l, p m = true)) ∧ Fr H K) := by
  refine T.by tabOk Tryz.func69 (by kernel_rfl) rfl _ (by simp [Tryz.f69]) H _ ?_
  simp [Tryz.f69]
  refine (indexIns_ok l v g caps p H hm hv hf).mono fun r K ⟨⟨i, e1, e2⟩, e3⟩ => ?_
  subst e1
  by_cases h0 : 0 ≤ i
  · simp [tab, h0]
    exact ⟨e2.1 h0, e3⟩
  · simp [tab, h0]
    refine ⟨fun x hx => ?_, e3⟩
    cases hp : p x with
    | false => rfl
    | true => exact absurd (e2.2 ⟨x, hx, hp⟩) h0
theorem goodCode_ok (l : List Ins) (v : AV) (H : Hp) (hm : l.length ≤ 1048576) (hv : Row 5 H v (l.map Ins.enc)) : T Tryz.prog 41 [v] H (Says (GoodC l) H) := by
  refine T.by tabOk Tryz.func41 (by kernel_rfl) rfl _ (by simp [Tryz.f41]) H _ ?_
  have hlen := hv.len 53
  simp [Tryz.f41, tab, hlen]
  refine W_loop _ fun I hI => ?_
  have key : ∀ (r p : List Ins) (ts : TS) (K : Hp), l = p ++ r → Fr H K → (∀ x ∈ p, GoodI x) → (ts 0 = v ∧ ts 5 = v ∧ ts 6 = .int .i64 l.length ∧ ts 7 = .int .i64 p.length) → I ts K := by
    intro r
    induction r with
    | nil =>
      intro p ts K e hK hp hts
      apply hI
      simp at e
      subst e
      simp [hts, tab, hlen]
      by_cases h30 : l.length ≤ 30
      · have h30' : (l.length : Int) ≤ 30 := by omega
        simp [h30']
        exact Says.yes ⟨h30, hp⟩ hK
      · have h30' : ¬ (l.length : Int) ≤ 30 := by omega
        simp [h30']
        exact Says.no (fun h => h30 h.1) hK
    | cons a r ih =>
      intro p ts K e hK hp hts
      apply hI
      have hlt : (p.length : Int) < l.length := by simp [e]; omega
      obtain ⟨b, q, _, e1, e2, -⟩ := (hv.fr hK).get (tab := tab) (e := 53) (ety := tN) rfl (i := p.length) (a := a) (by simp [e]) .i64
      have e2 := e2 rfl
      have hw := wrap64 (x := p.length + 1) (by omega) (by omega)
      have hal : a.enc.length = 5 := rfl
      have fB := Fr.app K [some ⟨5, true, a.enc⟩]
      simp (maxDischargeDepth := 9) [hts, tab, hlt, e1, e2, Ins.enc, loadB]
      refine (l3Good_ok a _).mono fun y K1 ⟨⟨t, y1, y2⟩, f1⟩ => ?_
      subst y1
      have f2 : Fr H K1 := hK.trans (fB.trans f1)
      cases t with
      | true =>
        simp [hts, hw, tab]
        exact ih (p ++ [a]) _ _ (by simp [e]) f2 (fun x hx => by
          rcases List.mem_append.1 hx with hx | hx
          · exact hp x hx
          · simp at hx; subst hx; exact y2.1 rfl) (by simp [hts])
      | false =>
        simp [hts, hw, tab]
        exact Says.no (fun h => by have := y2.2 (h.2 a (by simp [e])); cases this) f2
  exact key l [] _ H rfl (Fr.refl H) (by simp) (by simp)
open Classical in
theorem badIns_ok (H : Hp) : AsksIns 70 [] (fun x => decide (¬ GoodI x)) H := by
  intro K m hK
  refine T.by tabOk Tryz.func70 (by kernel_rfl) rfl _ (by simp [Tryz.f70]) K _ ?_
  have fB := Fr.app K [some ⟨5, true, m.enc⟩]
  simp [Tryz.f70, tab, Ins.enc, loadB]
  refine (isInstr_ok m _).mono fun r K1 ⟨⟨t, y1, y2⟩, f1⟩ => ?_
  subst y1
  have f2 : Fr K K1 := fB.trans f1
  cases t with
  | true =>
    have := y2.1 rfl
    simp [this]
    exact f2
  | false =>
    have : ¬ GoodI m := fun h => by cases y2.2 h
    simp [this]
    exact f2
theorem isCode_ok (l : List Ins) (v : AV) (H : Hp) (hm : l.length ≤ 1048576) (hv : Row 5 H v (l.map Ins.enc)) : T Tryz.prog 36 [v] H (Says (GoodC l) H) := by
  refine T.by tabOk Tryz.func36 (by kernel_rfl) rfl _ (by simp [Tryz.f36]) H _ ?_
  have hlen := hv.len 53
  by_cases h30 : l.length ≤ 30
  case neg =>
    have h30' : ¬ (l.length : Int) ≤ 30 := by omega
    simp [Tryz.f36, tab, hlen, h30']
    exact Says.no (fun h => h30 h.1) (Fr.refl H)
  have h30' : (l.length : Int) ≤ 30 := by omega
  simp [Tryz.f36, tab, hlen, h30']
  refine (containsIns_ok l v _ [] _ H hm hv (badIns_ok H)).mono fun r K ⟨⟨t, e1, e2⟩, e3⟩ => ?_
  subst e1
  cases t with
  | true =>
    simp
    refine Says.no (fun h => ?_) e3
    obtain ⟨m, hm1, hm2⟩ := e2.1 rfl
    simp at hm2
    exact hm2 (h.2 m hm1)
  | false =>
    simp
    refine Says.yes ⟨h30, fun x hx => ?_⟩ e3
    refine Classical.byContradiction fun hn => ?_
    have := e2.2 ⟨x, hx, by simp [hn]⟩
    cases this
end Go.Proofs.YtdbnokeegocpbaaGreat.Am
