/- Good tasks: both ways to ask come to the same. No condition. -/
import Derived.Test.YtcadaadoodpnmaaLTasks
namespace Go.Proofs.Ytcadaadoodpnmaa.Am
open Go Go.RowKit
set_option linter.unusedSimpArgs false
set_option linter.unusedVariables false

theorem l1In_ok (x a b : Int) (H : Hp) : T Try.prog 43 [.int .i64 x, .int .i64 a, .int .i64 b] H (fun r H' => r = .bool (decide (a ≤ x ∧ x ≤ b)) ∧ H' = H) := by
  refine T.by tabOk Try.func43 (by kernel_rfl) rfl _ (by simp [Try.f43]) H _ ?_
  by_cases h1 : a ≤ x <;> by_cases h2 : x ≤ b <;> simp [Try.f43, tab, h1, h2]
theorem in_ok (x a b : Int) (H : Hp) : T Try.prog 52 [.int .i64 x, .int .i64 a, .int .i64 b] H (fun r H' => r = .bool (decide (a ≤ x ∧ x ≤ b)) ∧ H' = H) := by
  refine T.by tabOk Try.func52 (by kernel_rfl) rfl _ (by simp [Try.f52]) H _ ?_
  by_cases h1 : a ≤ x <;> by_cases h2 : x ≤ b <;> simp [Try.f52, tab, h1, h2]
def AfterAt (i : Nat) (l : List Int) (j : Nat) : Prop := ∀ a, l[j]? = some a → 0 ≤ a ∧ a < i ∧ ∀ b, 0 < j → l[j - 1]? = some b → b < a
def GoodAt (i : Nat) (t : Task) : Prop := 1 ≤ t.long ∧ t.long ≤ 20 ∧ ∀ j, AfterAt i t.after j
def GoodT (l : List Task) : Prop := l.length ≤ 12 ∧ ∀ (i : Nat) (t : Task), l[i]? = some t → GoodAt i t
set_option maxRecDepth 100000 in
theorem specGood_ok (l : List Task) (us : List AV) (v : AV) (H : Hp) (hm : l.length ≤ 1048576) (hmm : ∀ t ∈ l, t.after.length ≤ 1048576) (hv : TRow H v l us) : T Try.prog 14 [v] H (Told (GoodT l) H) := by
  refine T.by tabOk Try.func14 (by kernel_rfl) rfl _ (by simp [Try.f14]) H _ ?_
  have hlen := hv.count 49
  simp [Try.f14, tab, hlen]
  refine W_loop _ fun I hI => ?_
  have key : ∀ (r p : List Task) (ts : TS) (K : Hp), l = p ++ r → Fr H K → (∀ (i : Nat) (t : Task), p[i]? = some t → GoodAt i t) → (ts 0 = v ∧ ts 7 = v ∧ ts 8 = .int .i64 l.length ∧ ts 9 = .int .i64 p.length) → I ts K := by
    intro r
    induction r with
    | nil =>
      intro p ts K hl hK hp hts
      apply hI
      simp at hl
      subst hl
      simp [hts, hlen, tab]
      refine Told.of ?_ hK
      simp
      exact ⟨fun h => ⟨by omega, hp⟩, fun h => by have := h.1; omega⟩
    | cons a r ih =>
      intro p ts K hl hK hp hts
      apply hI
      have hlt : (p.length : Int) < l.length := by simp [hl]; omega
      obtain ⟨b, q, u, hu, e1, e2, _, _, hr⟩ := hv.get (e := 49) rfl (i := p.length) (t := a) (by simp [hl])
      have hbad : ¬ GoodAt p.length a → ¬ GoodT l := fun h g => h (g.2 p.length a (by simp [hl]))
      have hfr := hK.app' [some ⟨2, true, [.int .i64 a.long, u]⟩]
      have hul := hr.len 3
      simp (maxDischargeDepth := 9) [hts, hlen, tab, hlt, hK.index, hK.load, e1, e2, hr.one, hr.self]
      refine (l1In_ok _ _ _ _).mono fun x K1 ⟨hx, hk⟩ => ?_
      subst hx hk
      by_cases c1 : 1 ≤ a.long ∧ a.long ≤ 20
      case neg =>
        simp [hts, c1, tab]
        exact Told.no (hbad fun h => c1 ⟨h.1, h.2.1⟩) hfr
      simp (maxDischargeDepth := 9) [hts, c1, tab, hul]
      refine W_loop _ fun I2 hI2 => ?_
      have key2 : ∀ (r2 p2 : List Int) (ts : TS), a.after = p2 ++ r2 → (∀ j, j < p2.length → AfterAt p.length a.after j) → (ts 0 = v ∧ ts 7 = v ∧ ts 8 = .int .i64 l.length ∧ ts 9 = .int .i64 p.length ∧ ts 3 = .int .i64 p.length ∧ ts 4 = .ptr K.length 0 ∧ ts 19 = u ∧ ts 20 = .int .i64 a.after.length ∧ ts 21 = .int .i64 p2.length) → I2 ts (K ++ [some ⟨2, true, [.int .i64 a.long, u]⟩]) := by
        intro r2
        induction r2 with
        | nil =>
          intro p2 ts ep hp2 hts
          apply hI2
          simp at ep
          subst ep
          have hw := wrap64 (x := p.length + 1) (by omega) (by omega)
          simp [hts, hw]
          refine ih (p ++ [a]) _ _ (by simp [hl]) hfr ?_ (by simp [hts])
          intro i t hi
          rcases get_snoc hi with hi | ⟨rfl, rfl⟩
          · exact hp i t hi
          · refine ⟨c1.1, c1.2, fun j => ?_⟩
            by_cases hj : j < a.after.length
            · exact hp2 j hj
            · intro b hb
              rw [List.getElem?_eq_none (by omega)] at hb
              cases hb
        | cons x r2 ih2 =>
          intro p2 ts ep hp2 hts
          apply hI2
          have hal := hmm a (by simp [hl])
          have hlt2 : (p2.length : Int) < a.after.length := by simp [ep]; omega
          have hx : a.after[p2.length]? = some x := by simp [ep]
          obtain ⟨b2, q2, _, f1, f2⟩ := Row.get1 hr (tab := tab) (e := 3) (ety := tI) rfl rfl rfl hx .i64
          have hbad2 : ¬ AfterAt p.length a.after p2.length → ¬ GoodT l := fun h => hbad fun g => h (g.2.2 p2.length)
          by_cases c2 : x < 0
          · simp (maxDischargeDepth := 9) [hts, tab, hlt2, hK.index, hK.load, f1, f2, c2]
            exact Told.no (hbad2 fun h => by have := (h x hx).1; omega) hfr
          by_cases c3 : (p.length : Int) ≤ x
          · simp (maxDischargeDepth := 9) [hts, tab, hlt2, hK.index, hK.load, f1, f2, c2, c3]
            exact Told.no (hbad2 fun h => by have := (h x hx).2.1; omega) hfr
          have hw := wrap64 (x := p2.length + 1) (by omega) (by omega)
          have next : AfterAt p.length a.after p2.length → ∀ j, j < (p2 ++ [x]).length → AfterAt p.length a.after j := fun h j hj => by
            simp at hj
            by_cases e : j = p2.length
            · subst e; exact h
            · exact hp2 j (by omega)
          rcases List.eq_nil_or_concat p2 with rfl | ⟨p3, y, e3⟩
          · simp (maxDischargeDepth := 9) [hts, tab, hlt2, hK.index, hK.load, f1, f2, c2, c3, hw] at hlt2 f1 hw ⊢
            simp (maxDischargeDepth := 9) [hts, tab, hlt2, hK.index, hK.load, f1, f2, c2, c3, hw]
            refine ih2 [x] _ (by simpa using ep) (next fun a' ha' => ?_) (by simp [hts])
            rw [hx] at ha'
            cases ha'
            exact ⟨by omega, by omega, fun b hb => by simp at hb⟩
          · rw [List.concat_eq_append] at e3
            subst e3
            have hy : a.after[p3.length]? = some y := by simp [ep]
            obtain ⟨b3, q3, _, g1, g2⟩ := Row.get1 hr (tab := tab) (e := 3) (ety := tI) rfl rfl rfl hy .i64
            have hlp : p3.length < a.after.length := (List.getElem?_eq_some_iff.1 hy).1
            have hw3 := wrap64 (x := p3.length) (by omega) (by omega)
            have hpos : (0 : Int) < p3.length + 1 := by omega
            simp at hlt2 f1 hw
            by_cases c4 : x ≤ y
            · simp (maxDischargeDepth := 9) [hts, tab, hlt2, hK.index, hK.load, f1, f2, c2, c3, hpos, hw3, g1, g2, c4]
              exact Told.no (hbad2 fun h => by have := (h x hx).2.2 y (by simp) (by simpa using hy); omega) hfr
            · simp (maxDischargeDepth := 9) [hts, tab, hlt2, hK.index, hK.load, f1, f2, c2, c3, hpos, hw3, g1, g2, c4, hw]
              refine ih2 (p3 ++ [y] ++ [x]) _ (by simpa using ep) (next fun a' ha' => ?_) (by simp [hts]; omega)
              rw [hx] at ha'
              cases ha'
              refine ⟨by omega, by omega, fun b hb hb2 => ?_⟩
              have hb3 : a.after[p3.length]? = some b := by simpa using hb2
              rw [hy] at hb3
              cases hb3
              omega
      exact key2 a.after [] _ (by simp) (by simp) (by simp [hts])
  exact key l [] _ _ rfl (Fr.refl H) (by simp) (by simp)
set_option maxRecDepth 100000 in
theorem implGood0_ok (l : List Task) (us : List AV) (v : AV) (H : Hp) (hm : l.length ≤ 1048576) (hmm : ∀ t ∈ l, t.after.length ≤ 1048576) (hv : TRow H v l us) : T Try.prog 45 [v] H (Told (GoodT l) H) := by
  refine T.by tabOk Try.func45 (by kernel_rfl) rfl _ (by simp [Try.f45]) H _ ?_
  have hlen := hv.count 49
  simp [Try.f45, tab, hlen]
  refine W_loop _ fun I hI => ?_
  have key : ∀ (r p : List Task) (ts : TS) (K : Hp), l = p ++ r → Fr H K → (∀ (i : Nat) (t : Task), p[i]? = some t → GoodAt i t) → (ts 0 = v ∧ ts 7 = v ∧ ts 8 = .int .i64 l.length ∧ ts 9 = .int .i64 p.length) → I ts K := by
    intro r
    induction r with
    | nil =>
      intro p ts K hl hK hp hts
      apply hI
      simp at hl
      subst hl
      simp [hts, hlen, tab]
      refine Told.of ?_ hK
      simp
      exact ⟨fun h => ⟨by omega, hp⟩, fun h => by have := h.1; omega⟩
    | cons a r ih =>
      intro p ts K hl hK hp hts
      apply hI
      have hlt : (p.length : Int) < l.length := by simp [hl]; omega
      obtain ⟨b, q, u, hu, e1, e2, _, _, hr⟩ := hv.get (e := 49) rfl (i := p.length) (t := a) (by simp [hl])
      have hbad : ¬ GoodAt p.length a → ¬ GoodT l := fun h g => h (g.2 p.length a (by simp [hl]))
      have hfr := hK.app' [some ⟨2, true, [.int .i64 a.long, u]⟩]
      have hul := hr.len 3
      simp (maxDischargeDepth := 9) [hts, hlen, tab, hlt, hK.index, hK.load, e1, e2, hr.one, hr.self]
      refine (in_ok _ _ _ _).mono fun x K1 ⟨hx, hk⟩ => ?_
      subst hx hk
      by_cases c1 : 1 ≤ a.long ∧ a.long ≤ 20
      case neg =>
        simp [hts, c1, tab]
        exact Told.no (hbad fun h => c1 ⟨h.1, h.2.1⟩) hfr
      simp (maxDischargeDepth := 9) [hts, c1, tab, hul]
      refine W_loop _ fun I2 hI2 => ?_
      have key2 : ∀ (r2 p2 : List Int) (ts : TS), a.after = p2 ++ r2 → (∀ j, j < p2.length → AfterAt p.length a.after j) → (ts 0 = v ∧ ts 7 = v ∧ ts 8 = .int .i64 l.length ∧ ts 9 = .int .i64 p.length ∧ ts 3 = .int .i64 p.length ∧ ts 4 = .ptr K.length 0 ∧ ts 19 = u ∧ ts 20 = .int .i64 a.after.length ∧ ts 21 = .int .i64 p2.length) → I2 ts (K ++ [some ⟨2, true, [.int .i64 a.long, u]⟩]) := by
        intro r2
        induction r2 with
        | nil =>
          intro p2 ts ep hp2 hts
          apply hI2
          simp at ep
          subst ep
          have hw := wrap64 (x := p.length + 1) (by omega) (by omega)
          simp [hts, hw]
          refine ih (p ++ [a]) _ _ (by simp [hl]) hfr ?_ (by simp [hts])
          intro i t hi
          rcases get_snoc hi with hi | ⟨rfl, rfl⟩
          · exact hp i t hi
          · refine ⟨c1.1, c1.2, fun j => ?_⟩
            by_cases hj : j < a.after.length
            · exact hp2 j hj
            · intro b hb
              rw [List.getElem?_eq_none (by omega)] at hb
              cases hb
        | cons x r2 ih2 =>
          intro p2 ts ep hp2 hts
          apply hI2
          have hal := hmm a (by simp [hl])
          have hlt2 : (p2.length : Int) < a.after.length := by simp [ep]; omega
          have hx : a.after[p2.length]? = some x := by simp [ep]
          obtain ⟨b2, q2, _, f1, f2⟩ := Row.get1 hr (tab := tab) (e := 3) (ety := tI) rfl rfl rfl hx .i64
          have hbad2 : ¬ AfterAt p.length a.after p2.length → ¬ GoodT l := fun h => hbad fun g => h (g.2.2 p2.length)
          have hwi := wrap64 (x := p.length - 1) (by omega) (by omega)
          simp (maxDischargeDepth := 9) [hts, tab, hlt2, hK.index, hK.load, f1, f2, hwi]
          refine (in_ok _ _ _ _).mono fun x' K1 ⟨hx', hk⟩ => ?_
          subst hx' hk
          by_cases c2 : 0 ≤ x ∧ x ≤ (p.length : Int) - 1
          case neg =>
            simp (maxDischargeDepth := 9) [hts, tab, c2]
            exact Told.no (hbad2 fun h => by have := h x hx; omega) hfr
          have hw := wrap64 (x := p2.length + 1) (by omega) (by omega)
          have next : AfterAt p.length a.after p2.length → ∀ j, j < (p2 ++ [x]).length → AfterAt p.length a.after j := fun h j hj => by
            simp at hj
            by_cases e : j = p2.length
            · subst e; exact h
            · exact hp2 j (by omega)
          rcases List.eq_nil_or_concat p2 with rfl | ⟨p3, y, e3⟩
          · simp at hlt2 f1 hw
            simp (maxDischargeDepth := 9) [hts, tab, hlt2, hK.index, hK.load, f1, f2, c2, hw]
            refine ih2 [x] _ (by simpa using ep) (next fun a' ha' => ?_) (by simp [hts])
            rw [hx] at ha'
            cases ha'
            exact ⟨by omega, by omega, fun b hb => by simp at hb⟩
          · rw [List.concat_eq_append] at e3
            subst e3
            have hy : a.after[p3.length]? = some y := by simp [ep]
            obtain ⟨b3, q3, _, g1, g2⟩ := Row.get1 hr (tab := tab) (e := 3) (ety := tI) rfl rfl rfl hy .i64
            have hlp : p3.length < a.after.length := (List.getElem?_eq_some_iff.1 hy).1
            have hw3 := wrap64 (x := p3.length) (by omega) (by omega)
            have hpos : (0 : Int) < p3.length + 1 := by omega
            simp at hlt2 f1 hw
            by_cases c4 : x ≤ y
            · simp (maxDischargeDepth := 9) [hts, tab, hlt2, hK.index, hK.load, f1, f2, c2, hpos, hw3, g1, g2, c4]
              exact Told.no (hbad2 fun h => by have := (h x hx).2.2 y (by simp) (by simpa using hy); omega) hfr
            · simp (maxDischargeDepth := 9) [hts, tab, hlt2, hK.index, hK.load, f1, f2, c2, hpos, hw3, g1, g2, c4, hw]
              refine ih2 (p3 ++ [y] ++ [x]) _ (by simpa using ep) (next fun a' ha' => ?_) (by simp [hts]; omega)
              rw [hx] at ha'
              cases ha'
              refine ⟨by omega, by omega, fun b hb hb2 => ?_⟩
              have hb3 : a.after[p3.length]? = some b := by simpa using hb2
              rw [hy] at hb3
              cases hb3
              omega
      exact key2 a.after [] _ (by simp) (by simp) (by simp [hts])
  exact key l [] _ _ rfl (Fr.refl H) (by simp) (by simp)
theorem implGood_ok (l : List Task) (us : List AV) (v : AV) (H : Hp) (hm : l.length ≤ 1048576) (hmm : ∀ t ∈ l, t.after.length ≤ 1048576) (hv : TRow H v l us) : T Try.prog 16 [v] H (Told (GoodT l) H) := by
  refine T.by tabOk Try.func16 (by kernel_rfl) rfl _ (by simp [Try.f16]) H _ ?_
  simp [Try.f16]
  refine (implGood0_ok l us v H hm hmm hv).mono fun r K ⟨⟨t, h1, h2⟩, h3⟩ => ?_
  subst h1
  simp
  exact Told.of h2 h3
end Go.Proofs.Ytcadaadoodpnmaa.Am
