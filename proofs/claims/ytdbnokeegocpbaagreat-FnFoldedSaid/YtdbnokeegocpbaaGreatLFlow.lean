/- Flows: both ways to ask whether one is good come to the same. No condition. -/
import Derived.Test.YtdbnokeegocpbaaGreatLCode
namespace Go.Proofs.YtdbnokeegocpbaaGreat.Am
open Go Go.RowKit
set_option linter.unusedSimpArgs false
set_option linter.unusedVariables false

structure Bk where
  code : List Ins
  test : Int
  thn : Int
  els : Int
  deriving DecidableEq
abbrev tK : Ty := ⟨.struct [(0, 38), (1, 3), (2, 3), (3, 3)], 4, 48, [.nil, .int .i64 0, .int .i64 0, .int .i64 0], false⟩
abbrev tLN : Ty := ⟨.slice 53, 1, 24, [.nil], false⟩
def cellsB (b : Bk) (u : AV) : List AV := [u, .int .i64 b.test, .int .i64 b.thn, .int .i64 b.els]
/-- A flow, looked at. -/
structure FRow (K : Hp) (v : AV) (l : List Bk) (us : List AV) : Prop where
  row : Row 4 K v (List.zipWith cellsB l us)
  len : us.length = l.length
  inner : ∀ (i : Nat) (t : Bk) (u : AV), l[i]? = some t → us[i]? = some u → Row 5 K u (t.code.map Ins.enc)
theorem FRow.fr {K K' : Hp} {v : AV} {l : List Bk} {us : List AV} (h : FRow K v l us) (k : Fr K K') : FRow K' v l us := ⟨h.row.fr k, h.len, fun i t u a b => (h.inner i t u a b).fr k⟩
theorem FRow.count {K : Hp} {v : AV} {l : List Bk} {us : List AV} (h : FRow K v l us) (e : Nat) : lenA (.slice e) v = some (.int .i64 l.length) := by
  have := h.row.len e
  rw [this]
  simp [h.len]
theorem FRow.get {K : Hp} {v : AV} {l : List Bk} {us : List AV} (h : FRow K v l us) {e : Nat} (he : tab e = some tK) {i : Nat} {t : Bk} (hi : l[i]? = some t) :
    ∃ b q u, us[i]? = some u ∧ indexAddrA tab (.slice e) K v (.int .i64 i) = some (.ptr b q) ∧ loadA tK K (.ptr b q) = some (.agg (cellsB t u)) ∧ Row 5 K u (t.code.map Ins.enc) := by
  have hlt : i < us.length := by rw [h.len]; exact (List.getElem?_eq_some_iff.1 hi).1
  have hu : us[i]? = some us[i] := List.getElem?_eq_getElem hlt
  have hz : (l.zip us)[i]? = some (t, us[i]) := by rw [List.getElem?_zip_eq_some]; exact ⟨hi, hu⟩
  have hr : Row 4 K v ((l.zip us).map fun p => cellsB p.1 p.2) := by
    have := h.row
    rwa [← List.map_uncurry_zip_eq_zipWith] at this
  obtain ⟨b, q, _, h1, h2, -⟩ := Row.get (ety := tK) hr he hz .i64
  exact ⟨b, q, us[i], hu, h1, h2 rfl, h.inner i t _ hi hu⟩
def GoodB (n : Nat) (b : Bk) : Prop := GoodC b.code ∧ Nm b.test ∧ (-1 ≤ b.thn ∧ b.thn ≤ (n : Int) - 1) ∧ (-1 ≤ b.els ∧ b.els ≤ (n : Int) - 1)
def GoodF (l : List Bk) : Prop := (1 ≤ l.length ∧ l.length ≤ 8) ∧ ∀ b ∈ l, GoodB l.length b
set_option maxRecDepth 100000 in
theorem goodFlow_ok (l : List Bk) (us : List AV) (v : AV) (H : Hp) (hm : l.length ≤ 1048576) (hmm : ∀ t ∈ l, t.code.length ≤ 1048576) (hv : FRow H v l us) : T Tryz.prog 21 [v] H (Says (GoodF l) H) := by
  refine T.by tabOk Tryz.func21 (by kernel_rfl) rfl _ (by simp [Tryz.f21]) H _ ?_
  have hlen := hv.count 51
  have hwn := wrap64 (x := (l.length : Int) - 1) (by omega) (by omega)
  simp [Tryz.f21, tab, hlen]
  refine W_loop _ fun I hI => ?_
  have key : ∀ (r p : List Bk) (ts : TS) (K : Hp), l = p ++ r → Fr H K → (∀ x ∈ p, GoodB l.length x) → (ts 0 = v ∧ ts 5 = v ∧ ts 6 = .int .i64 l.length ∧ ts 7 = .int .i64 p.length) → I ts K := by
    intro r
    induction r with
    | nil =>
      intro p ts K e hK hp hts
      apply hI
      simp at e
      subst e
      simp [hts, tab, hlen]
      refine (l1In_ok _ 1 8 K).mono fun y K1 ⟨y1, y2⟩ => ?_
      subst y1 y2
      simp
      refine ⟨⟨_, rfl, ?_⟩, hK⟩
      simp
      exact ⟨fun h => ⟨by omega, hp⟩, fun h => by have := h.1; omega⟩
    | cons a r ih =>
      intro p ts K e hK hp hts
      apply hI
      have hlt : (p.length : Int) < l.length := by simp [e]; omega
      have ha : a ∈ l := by simp [e]
      obtain ⟨b, q, u, hu, e1, e2, e3⟩ := (hv.fr hK).get (e := 51) rfl (i := p.length) (t := a) (by simp [e])
      have hu1 := e3.one
      have hu2 := cells_of_one hu1
      have hw := wrap64 (x := p.length + 1) (by omega) (by omega)
      obtain ⟨K', hK', fB⟩ : ∃ K', K ++ [some ⟨4, true, [u, .int .i64 a.test, .int .i64 a.thn, .int .i64 a.els]⟩] = K' ∧ Fr K K' := ⟨_, rfl, Fr.app K _⟩
      have hb : K'[K.length]? = some (some ⟨4, true, [u, .int .i64 a.test, .int .i64 a.thn, .int .i64 a.els]⟩) := by rw [← hK']; simp
      have q0 : loadA tLN K' (.ptr K.length 0) = some u := load_at hb rfl rfl rfl
      have bad : ¬ GoodB l.length a → ¬ GoodF l := fun h g => h (g.2 a ha)
      simp (maxDischargeDepth := 9) [hts, tab, hlt, e1, e2, cellsB, hu1, hu2, hK', q0]
      refine (goodCode_ok a.code u K' (hmm a ha) (e3.fr fB)).mono fun y K1 ⟨⟨t, y1, y2⟩, f1⟩ => ?_
      subst y1
      have F1 : Fr H K1 := (hK.trans fB).trans f1
      have hb1 := f1.2 _ _ hb id
      have q1 : loadA tI K1 (.ptr K.length 1) = some (.int .i64 a.test) := load_at hb1 rfl rfl rfl
      have q2 : loadA tI K1 (.ptr K.length 2) = some (.int .i64 a.thn) := load_at hb1 rfl rfl rfl
      have q3 : loadA tI K1 (.ptr K.length 3) = some (.int .i64 a.els) := load_at hb1 rfl rfl rfl
      cases t with
      | false =>
        simp [hts, tab]
        exact Says.no (bad fun h => by cases y2.2 h.1) F1
      | true =>
        have c0 := y2.1 rfl
        simp [hts, tab, q1]
        refine (l3Name_ok _ _).mono fun y K2 ⟨y1, y2⟩ => ?_
        subst y1 y2
        by_cases c1 : Nm a.test
        case neg =>
          simp [hts, tab, c1]
          exact Says.no (bad fun h => c1 h.2.1) F1
        simp [hts, tab, c1, q2, hlen, hwn]
        refine (l1In_ok _ _ _ _).mono fun y K2 ⟨y1, y2⟩ => ?_
        subst y1 y2
        by_cases c2 : -1 ≤ a.thn ∧ a.thn ≤ (l.length : Int) - 1
        case neg =>
          simp only [decide_eq_false c2]
          simp [hts, tab]
          exact Says.no (bad fun h => c2 h.2.2.1) F1
        simp only [decide_eq_true c2]
        simp [hts, tab, q3, hlen, hwn]
        refine (l1In_ok _ _ _ _).mono fun y K2 ⟨y1, y2⟩ => ?_
        subst y1 y2
        by_cases c3 : -1 ≤ a.els ∧ a.els ≤ (l.length : Int) - 1
        case neg =>
          simp only [decide_eq_false c3]
          simp [hts, tab]
          exact Says.no (bad fun h => c3 h.2.2.2) F1
        simp only [decide_eq_true c3]
        simp [hts, tab, hw]
        exact ih (p ++ [a]) _ _ (by simp [e]) F1 (fun x hx => by
          rcases List.mem_append.1 hx with hx | hx
          · exact hp x hx
          · simp at hx; subst hx; exact ⟨c0, c1, c2, c3⟩) (by simp [hts])
  exact key l [] _ H rfl (Fr.refl H) (by simp) (by simp)
def AsksB (g : FuncId) (caps : List AV) (p : Bk → Prop) (l : List Bk) (H : Hp) : Prop := ∀ (K : Hp) (m : Bk) (u : AV), Fr H K → m ∈ l → Row 5 K u (m.code.map Ins.enc) → T Tryz.prog g (.agg (cellsB m u) :: caps) K (fun r K' => (∃ t, r = .bool t ∧ (t = true ↔ p m)) ∧ Fr K K')
theorem indexB_ok (l : List Bk) (us : List AV) (v : AV) (g : FuncId) (caps : List AV) (p : Bk → Prop) (H : Hp) (hm : l.length ≤ 1048576) (hv : FRow H v l us) (hf : AsksB g caps p l H) : T Tryz.prog 78 [v, .fn g caps] H (fun r K => (∃ i : Int, r = .int .i64 i ∧ (0 ≤ i ↔ ∃ m ∈ l, p m)) ∧ Fr H K) := by
  refine T.by tabOk Tryz.func78 (by kernel_rfl) rfl _ (by simp [Tryz.f78]) H _ ?_
  have hlen := hv.count 51
  simp [Tryz.f78, tab, hlen]
  refine W_loop _ fun I hI => ?_
  have key : ∀ (r q : List Bk) (ts : TS) (K : Hp), l = q ++ r → Fr H K → (∀ m ∈ q, ¬ p m) → (ts 0 = v ∧ ts 1 = .fn g caps ∧ ts 7 = .int .i64 l.length ∧ ts 8 = .int .i64 q.length) → I ts K := by
    intro r
    induction r with
    | nil =>
      intro q ts K e hK hq hts
      apply hI
      simp at e
      subst e
      simp [hts, tab]
      exact ⟨hq, hK⟩
    | cons a r ih =>
      intro q ts K e hK hq hts
      apply hI
      have hlt : (q.length : Int) < l.length := by simp [e]; omega
      obtain ⟨b, o, u, hu, e1, e2, e3⟩ := (hv.fr hK).get (e := 51) rfl (i := q.length) (t := a) (by simp [e])
      have hw := wrap64 (x := q.length + 1) (by omega) (by omega)
      simp (maxDischargeDepth := 9) [hts, tab, hlt, e1, e2]
      refine (hf K a u hK (by simp [e]) e3).mono fun y K1 ⟨⟨t, y1, y2⟩, f1⟩ => ?_
      subst y1
      cases t with
      | true =>
        simp [hts]
        exact ⟨⟨a, by simp [e], y2.1 rfl⟩, hK.trans f1⟩
      | false =>
        simp [hts, hw]
        exact ih (q ++ [a]) _ _ (by simp [e]) (hK.trans f1) (fun m hm => by
          rcases List.mem_append.1 hm with hm | hm
          · exact hq m hm
          · simp at hm; subst hm; exact fun h => by cases y2.2 h) (by simp [hts])
  exact key l [] _ H rfl (Fr.refl H) (by simp) (by simp)
theorem containsB_ok (l : List Bk) (us : List AV) (v : AV) (g : FuncId) (caps : List AV) (p : Bk → Prop) (H : Hp) (hm : l.length ≤ 1048576) (hv : FRow H v l us) (hf : AsksB g caps p l H) : T Tryz.prog 46 [v, .fn g caps] H (fun r K => (∃ t, r = .bool t ∧ (t = true ↔ ∃ m ∈ l, p m)) ∧ Fr H K) := by
  refine T.by tabOk Tryz.func46 (by kernel_rfl) rfl _ (by simp [Tryz.f46]) H _ ?_
  simp [Tryz.f46]
  refine (indexB_ok l us v g caps p H hm hv hf).mono fun r K ⟨⟨i, e1, e2⟩, e3⟩ => ?_
  subst e1
  by_cases h0 : 0 ≤ i
  · simp [tab, h0]
    exact ⟨e2.1 h0, e3⟩
  · simp [tab, h0]
    exact ⟨fun x hx hp => h0 (e2.2 ⟨x, hx, hp⟩), e3⟩
set_option maxRecDepth 100000 in
theorem badB_ok (l : List Bk) (c : Nat) (H : Hp) (hm : l.length ≤ 1048576) (hmm : ∀ t ∈ l, t.code.length ≤ 1048576) (hc : loadA tI H (.ptr c 0) = some (.int .i64 l.length)) : AsksB 47 [.ptr c 0] (fun b => ¬ GoodB l.length b) l H := by
  intro K a u hK ha hr
  refine T.by tabOk Tryz.func47 (by kernel_rfl) rfl _ (by simp [Tryz.f47]) K _ ?_
  have hu1 := hr.one
  have hu2 := cells_of_one hu1
  have hwn := wrap64 (x := (l.length : Int) - 1) (by omega) (by omega)
  obtain ⟨K', hK', fB⟩ : ∃ K', K ++ [some ⟨4, true, [u, .int .i64 a.test, .int .i64 a.thn, .int .i64 a.els]⟩] = K' ∧ Fr K K' := ⟨_, rfl, Fr.app K _⟩
  have hb : K'[K.length]? = some (some ⟨4, true, [u, .int .i64 a.test, .int .i64 a.thn, .int .i64 a.els]⟩) := by rw [← hK']; simp
  have q0 : loadA tLN K' (.ptr K.length 0) = some u := load_at hb rfl rfl rfl
  simp (maxDischargeDepth := 9) [Tryz.f47, tab, cellsB, hu1, hu2, hK', q0]
  refine (isCode_ok a.code u K' (hmm a ha) (hr.fr fB)).mono fun y K1 ⟨⟨t, y1, y2⟩, f1⟩ => ?_
  subst y1
  have F1 : Fr K K1 := fB.trans f1
  have hb1 := f1.2 _ _ hb id
  have q1 : loadA tI K1 (.ptr K.length 1) = some (.int .i64 a.test) := load_at hb1 rfl rfl rfl
  have q2 : loadA tI K1 (.ptr K.length 2) = some (.int .i64 a.thn) := load_at hb1 rfl rfl rfl
  have q3 : loadA tI K1 (.ptr K.length 3) = some (.int .i64 a.els) := load_at hb1 rfl rfl rfl
  have hc1 : loadA tI K1 (.ptr c 0) = some (.int .i64 l.length) := by rw [Fr.load (Keeps.trans hK F1) (by rw [hc]; rfl)]; exact hc
  cases t with
  | false =>
    simp [tab]
    exact ⟨fun h => (by cases y2.2 h.1), F1⟩
  | true =>
    have c0 := y2.1 rfl
    simp [tab, q1]
    refine (isName_ok _ _).mono fun y K2 ⟨y1, y2⟩ => ?_
    subst y1 y2
    by_cases c1 : Nm a.test
    case neg =>
      simp [tab, c1]
      exact ⟨fun h => c1 h.2.1, F1⟩
    simp [tab, c1, q2, hc1, hwn]
    refine (in_ok _ _ _ _).mono fun y K2 ⟨y1, y2⟩ => ?_
    subst y1 y2
    by_cases c2 : -1 ≤ a.thn ∧ a.thn ≤ (l.length : Int) - 1
    case neg =>
      simp only [decide_eq_false c2]
      simp [tab]
      exact ⟨fun h => c2 h.2.2.1, F1⟩
    simp only [decide_eq_true c2]
    simp [tab, q3, hc1, hwn]
    refine (in_ok _ _ _ _).mono fun y K2 ⟨y1, y2⟩ => ?_
    subst y1 y2
    by_cases c3 : -1 ≤ a.els ∧ a.els ≤ (l.length : Int) - 1
    case neg =>
      simp only [decide_eq_false c3]
      simp [tab]
      exact ⟨fun h => c3 h.2.2.2, F1⟩
    simp only [decide_eq_true c3]
    simp [tab]
    exact ⟨⟨c0, c1, c2, c3⟩, F1⟩
theorem isFlow_ok (l : List Bk) (us : List AV) (v : AV) (H : Hp) (hm : l.length ≤ 1048576) (hmm : ∀ t ∈ l, t.code.length ≤ 1048576) (hv : FRow H v l us) : T Tryz.prog 16 [v] H (Says (GoodF l) H) := by
  refine T.by tabOk Tryz.func16 (by kernel_rfl) rfl _ (by simp [Tryz.f16]) H _ ?_
  have hlen := hv.count 51
  have fB := Fr.app H [some ⟨1, true, [.int .i64 l.length]⟩]
  simp [Tryz.f16, tab, hlen, storeB, over, loadB]
  refine (in_ok _ 1 8 _).mono fun y K1 ⟨y1, y2⟩ => ?_
  subst y1 y2
  by_cases c : (1 : Int) ≤ l.length ∧ (l.length : Int) ≤ 8
  case neg =>
    simp only [decide_eq_false c]
    simp [tab]
    exact Says.no (fun h => c (by have := h.1; omega)) fB
  simp only [decide_eq_true c]
  simp [tab]
  refine (containsB_ok l us v _ _ _ _ hm (hv.fr fB) (badB_ok l H.length _ hm hmm (by simp [loadB]))).mono fun r K ⟨⟨t, e1, e2⟩, e3⟩ => ?_
  subst e1
  cases t with
  | true =>
    simp
    obtain ⟨m, hm1, hm2⟩ := e2.1 rfl
    exact Says.no (fun h => hm2 (h.2 m hm1)) (fB.trans e3)
  | false =>
    simp
    refine Says.yes ⟨by omega, fun x hx => ?_⟩ (fB.trans e3)
    refine Classical.byContradiction fun hn => ?_
    have := e2.2 ⟨x, hx, hn⟩
    cases this
end Go.Proofs.YtdbnokeegocpbaaGreat.Am
