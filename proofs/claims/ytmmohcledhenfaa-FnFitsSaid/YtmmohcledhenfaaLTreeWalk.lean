/- Trees and patterns: both ways walked. No condition. -/
import Derived.Test.YtmmohcledhenfaaLTreeMath
namespace Go.Proofs.Ytmmohcledhenfaa.Am
open Go Go.RowKit
set_option linter.unusedSimpArgs false
set_option linter.unusedVariables false

abbrev tL : Ty := ⟨.slice 3, 1, 24, [.nil], false⟩
abbrev tP : Ty := ⟨.struct [(0, 22), (1, 3)], 2, 32, [.nil, .int .i64 0], false⟩
theorem containsI_ok (L : List Int) (v : AV) (n : Int) (H : Hp) (hm : L.length ≤ 1048576) (hv : Row 1 H v (ints L)) : T Try.prog 72 [v, .int .i64 n] H (fun r K => r = .bool (decide (n ∈ L)) ∧ K = H) := by
  have hidx : T Try.prog 78 [v, .int .i64 n] H (fun r K => (∃ i : Int, r = .int .i64 i ∧ (0 ≤ i ↔ n ∈ L)) ∧ K = H) := by
    refine T.by tabOk Try.func78 (by kernel_rfl) rfl _ (by simp [Try.f78]) H _ ?_
    have hlen := hv.len 3
    simp [Try.f78, tab, hlen]
    refine W_loop _ fun I hI => ?_
    have key : ∀ (r p : List Int) (ts : TS), L = p ++ r → n ∉ p → (ts 0 = v ∧ ts 1 = .int .i64 n ∧ ts 7 = .int .i64 L.length ∧ ts 8 = .int .i64 p.length) → I ts H := by
      intro r
      induction r with
      | nil =>
        intro p ts e hn hts
        apply hI
        simp at e
        subst e
        simp [hts, tab, hn]
      | cons a r ih =>
        intro p ts e hn hts
        apply hI
        have hlt : (p.length : Int) < L.length := by simp [e]; omega
        obtain ⟨b, q, _, e1, e2⟩ := Row.get1 hv (tab := tab) (e := 3) (ety := tI) rfl rfl rfl (i := p.length) (a := a) (by simp [e]) .i64
        have hw := wrap64 (x := p.length + 1) (by omega) (by omega)
        by_cases ha : n = a
        · subst ha
          simp [hts, tab, hlt, e1, e2]
          simp [e]
        · simp [hts, tab, hlt, e1, e2, ha, hw]
          exact ih (p ++ [a]) _ (by simp [e]) (by simp [hn, ha]) (by simp [hts])
    exact key L [] _ rfl (by simp) (by simp)
  refine T.by tabOk Try.func72 (by kernel_rfl) rfl _ (by simp [Try.f72]) H _ ?_
  simp [Try.f72]
  refine hidx.mono fun r K ⟨⟨i, h1, h2⟩, h3⟩ => ?_
  subst h1 h3
  simp [tab, h2]
theorem l9Arity_ok (a : Int) (H : Hp) : T Try.prog 70 [.int .i64 a] H (fun r K => r = .int .i64 (ar a) ∧ K = H) := by
  refine T.by tabOk Try.func70 (by kernel_rfl) rfl _ (by simp [Try.f70]) H _ ?_
  unfold ar
  by_cases h0 : a = 0
  · simp [Try.f70, tab, h0]
  by_cases h1 : a = 1
  · simp [Try.f70, tab, h1]
  by_cases h2 : a = 2
  · simp [Try.f70, tab, h2]
  by_cases h5 : a = 5
  · simp [Try.f70, tab, h5]
  by_cases h3 : a = 3
  · simp [Try.f70, tab, h3]
  by_cases h4 : a = 4
  · simp [Try.f70, tab, h4]
  simp [Try.f70, tab, h0, h1, h2, h3, h4, h5]
theorem below_ok (a : Int) (H : Hp) : T Try.prog 77 [.int .i64 a] H (fun r K => r = .int .i64 (ar a) ∧ K = H) := by
  refine T.by tabOk Try.func77 (by kernel_rfl) rfl _ (by simp [Try.f77]) H _ ?_
  unfold ar
  by_cases h0 : a = 0
  · simp [Try.f77, tab, h0]
  by_cases h1 : a = 1
  · simp [Try.f77, tab, h1]
  by_cases h2 : a = 2
  · simp [Try.f77, tab, h2]
  by_cases h5 : a = 5
  · simp [Try.f77, tab, h5]
  by_cases h3 : a = 3
  · simp [Try.f77, tab, h3]
  by_cases h4 : a = 4
  · simp [Try.f77, tab, h4]
  simp [Try.f77, tab, h0, h1, h2, h3, h4, h5]
theorem l9End_ok (any : Bool) (t : List Int) (i : Nat) (v : AV) (H : Hp) (hm : t.length ≤ 1048576) (hi : i ≤ t.length) (hv : Row 1 H v (ints t)) : T Try.prog 51 [v, .int .i64 i, .bool any] H (fun r K => r = .int .i64 (endS any t i) ∧ K = H) := by
  refine T.by tabOk Try.func51 (by kernel_rfl) rfl _ (by simp [Try.f51]) H _ ?_
  have hlen := hv.len 3
  simp only [ints_length] at hlen
  simp [Try.f51]
  refine W_loop _ fun I hI => ?_
  have key : ∀ (r p : List Int) (n : Nat) (ts : TS), t = p ++ r → n + 2 * r.length ≤ 10000000 → endS any t i = (match scan any r n with | none => 0 | some c => ((p.length + c : Nat) : Int)) → (ts 0 = v ∧ ts 1 = .int .i64 p.length ∧ ts 2 = .bool any ∧ ts 7 = .int .i64 n) → I ts H := by
    intro r
    induction r with
    | nil =>
      intro p n ts e hn hres hts
      apply hI
      simp at e
      subst e
      cases n with
      | zero =>
        simp [scan] at hres
        simp [hts, tab, hres]
      | succ n =>
        simp [scan] at hres
        have h1 : (0 : Int) < (n : Int) + 1 := by omega
        simp [hts, tab, hlen, hres, h1]
    | cons a r ih =>
      intro p n ts e hn hres hts
      apply hI
      cases n with
      | zero =>
        simp [scan] at hres
        simp [hts, tab, hres]
      | succ n =>
        have h1 : (0 : Int) < (n : Int) + 1 := by omega
        have hlt : (p.length : Int) < t.length := by simp [e]; omega
        have hle : ¬ (t.length : Int) ≤ p.length := by omega
        obtain ⟨b, q, _, e1, e2⟩ := Row.get1 hv (tab := tab) (e := 3) (ety := tI) rfl rfl rfl (i := p.length) (a := a) (by simp [e]) .i64
        simp only [scan] at hres
        have hb := ar_le a
        simp [hts, tab, hlen, h1, hle, e1, e2]
        refine (l9Arity_ok a H).mono fun x K ⟨x1, x2⟩ => ?_
        subst x1 x2
        by_cases hneg : ar a < 0
        · rw [if_pos (.inl hneg)] at hres
          simp [hts, tab, hneg, hres]
        have go : ∀ ts' : TS, (ts' 0 = v ∧ ts' 1 = .int .i64 (p.length + 1) ∧ ts' 2 = .bool any ∧ ts' 7 = .int .i64 (n + ar a)) → endS any t i = (match (scan any r (n + (ar a).toNat)).map (· + 1) with | none => 0 | some c => ((p.length + c : Nat) : Int)) → I ts' K := fun ts' h2 h3 => ih (p ++ [a]) (n + (ar a).toNat) ts' (by simp [e]) (by simp at hn; omega) (by
          rw [h3]
          cases scan any r (n + (ar a).toNat) with
          | none => rfl
          | some c =>
            show ((p.length + (c + 1) : Nat) : Int) = (((p ++ [a]).length + c : Nat) : Int)
            rw [List.length_append, List.length_singleton, Nat.add_assoc, Nat.add_comm 1 c]) (by simp [h2]; omega)
        have hwp := wrap64 (x := (p.length : Int) + 1) (by omega) (by omega)
        have hw1 := wrap64 (x := ar a - 1) (by omega) (by omega)
        have hw2 := wrap64 (x := (n : Int) + 1 + (ar a - 1)) (by simp at hn; omega) (by simp at hn; omega)
        have hsum : (n : Int) + 1 + (ar a - 1) = n + ar a := by omega
        rw [hsum] at hw2
        by_cases h0 : a = 0
        · cases any with
          | false =>
            rw [if_pos (.inr ⟨h0, rfl⟩)] at hres
            subst h0
            have har : ar 0 = 0 := rfl
            simp [hts, tab, har, e1, e2, hres]
          | true =>
            rw [if_neg (by simp [hneg])] at hres
            subst h0
            have har : ar 0 = 0 := rfl
            have hwm := wrap64 (x := -1) (by omega) (by omega)
            have hwn : IntKind.i64.wrap ((n : Int) + 1 + -1) = n := by rw [wrap64 (x := (n : Int) + 1 + -1) (by simp at hn; omega) (by simp at hn; omega)]; omega
            simp [hts, tab, har, e1, e2]
            refine (l9Arity_ok 0 K).mono fun x K' ⟨x1, x2⟩ => ?_
            subst x1 x2
            simp [hts, tab, har, hwm, hwn, hwp]
            exact go _ (by simp [hts, har]) hres
        · rw [if_neg (by simp [hneg, h0])] at hres
          simp [hts, tab, hneg, e1, e2, h0]
          refine (l9Arity_ok a K).mono fun x K' ⟨x1, x2⟩ => ?_
          subst x1 x2
          simp [hts, tab, hw1, hsum, hw2, hwp]
          exact go _ (by simp [hts]) hres
  exact key (t.drop i) (t.take i) 1 _ (List.take_append_drop i t).symm (by simp; omega) (by unfold endS; rw [List.length_take, Nat.min_eq_left hi]; cases scan any (t.drop i) 1 <;> rfl) (by simp [hi])
theorem endOf_ok (t : List Int) (i : Nat) (v : AV) (H : Hp) (hm : t.length ≤ 1048576) (hi : i ≤ t.length) (hv : Row 1 H v (ints t)) : T Try.prog 71 [v, .int .i64 i] H (fun r K => r = .int .i64 (endI t i) ∧ K = H) := by
  refine T.by tabOk Try.func71 (by kernel_rfl) rfl _ (by simp [Try.f71]) H _ ?_
  have hlen := hv.len 3
  simp only [ints_length] at hlen
  simp [Try.f71]
  refine W_loop _ fun I hI => ?_
  have key : ∀ (r p : List Int) (n : Nat) (ts : TS), t = p ++ r → n + 2 * r.length ≤ 10000000 → endI t i = (match scan true r n with | none => -1 | some c => ((p.length + c : Nat) : Int)) → (ts 0 = v ∧ ts 1 = .int .i64 p.length ∧ ts 5 = .int .i64 n) → I ts H := by
    intro r
    induction r with
    | nil =>
      intro p n ts e hn hres hts
      apply hI
      simp at e
      subst e
      have hp0 : ¬ (t.length : Int) < 0 := by omega
      cases n with
      | zero =>
        simp [scan] at hres
        simp [hts, tab, hres]
      | succ n =>
        simp [scan] at hres
        have h1 : (0 : Int) < (n : Int) + 1 := by omega
        simp [hts, tab, hlen, hres, h1, hp0]
    | cons a r ih =>
      intro p n ts e hn hres hts
      apply hI
      have hp0 : ¬ (p.length : Int) < 0 := by omega
      cases n with
      | zero =>
        simp [scan] at hres
        simp [hts, tab, hres]
      | succ n =>
        have h1 : (0 : Int) < (n : Int) + 1 := by omega
        have hlt : (p.length : Int) < t.length := by simp [e]; omega
        have hle : ¬ (t.length : Int) ≤ p.length := by omega
        obtain ⟨b, q, _, e1, e2⟩ := Row.get1 hv (tab := tab) (e := 3) (ety := tI) rfl rfl rfl (i := p.length) (a := a) (by simp [e]) .i64
        simp only [scan] at hres
        have hb := ar_le a
        simp [hts, tab, hlen, h1, hle, hp0, e1, e2]
        refine (below_ok a H).mono fun x K ⟨x1, x2⟩ => ?_
        subst x1 x2
        by_cases hneg : ar a < 0
        · rw [if_pos (.inl hneg)] at hres
          simp [hts, tab, hneg, hres]
        have hwp := wrap64 (x := (p.length : Int) + 1) (by omega) (by omega)
        have hw1 := wrap64 (x := (n : Int) + 1 + ar a) (by simp at hn; omega) (by simp at hn; omega)
        have hw2 := wrap64 (x := (n : Int) + 1 + ar a - 1) (by simp at hn; omega) (by simp at hn; omega)
        rw [if_neg (by simp [hneg])] at hres
        simp [hts, tab, hneg, e1, e2]
        refine (below_ok a K).mono fun x K' ⟨x1, x2⟩ => ?_
        subst x1 x2
        simp [hts, tab, hw1, hw2, hwp]
        refine ih (p ++ [a]) (n + (ar a).toNat) _ (by simp [e]) (by simp at hn; omega) ?_ (by simp [hts, hw1, hw2, hwp]; omega)
        rw [hres]
        cases scan true r (n + (ar a).toNat) with
        | none => rfl
        | some c =>
          show ((p.length + (c + 1) : Nat) : Int) = (((p ++ [a]).length + c : Nat) : Int)
          rw [List.length_append, List.length_singleton, Nat.add_assoc, Nat.add_comm 1 c]
  exact key (t.drop i) (t.take i) 1 _ (List.take_append_drop i t).symm (by simp; omega) (by unfold endI; rw [List.length_take, Nat.min_eq_left hi]; cases scan true (t.drop i) 1 <;> rfl) (by simp [hi])
theorem scan_some {any : Bool} {t : List Int} : endS any t 0 = (t.length : Int) ↔ (scan any t 1 = some t.length ∨ (scan any t 1 = none ∧ t.length = 0)) := by
  unfold endS
  simp only [List.drop_zero]
  cases scan any t 1 with
  | none => simp only [reduceCtorEq, false_or, true_and]; omega
  | some c => simp only [Option.some.injEq, reduceCtorEq, false_and, or_false]; omega
theorem specTree_ok (t : List Int) (v : AV) (H : Hp) (hm : t.length ≤ 1048576) (hv : Row 1 H v (ints t)) : T Try.prog 20 [v] H (fun r K => r = .bool (decide (GT t)) ∧ K = H) := by
  refine T.by tabOk Try.func20 (by kernel_rfl) rfl _ (by simp [Try.f20]) H _ ?_
  have hlen := hv.len 3
  simp only [ints_length] at hlen
  simp [Try.f20, tab, hlen]
  refine (l1In_ok _ 1 40 H).mono fun x K ⟨x1, x2⟩ => ?_
  subst x1 x2
  by_cases h1 : (1 : Int) ≤ t.length ∧ (t.length : Int) ≤ 40
  case neg =>
    have hn : ¬ GT t := fun h => h1 ⟨by have := h.1; omega, by have := h.2.1; omega⟩
    simp [tab, h1, hn]
  simp [tab, h1]
  refine (l9End_ok false t 0 v K hm (by omega) hv).mono fun x K' ⟨x1, x2⟩ => ?_
  subst x1 x2
  have hiff : endS false t 0 = (t.length : Int) ↔ GT t := by
    rw [scan_some]
    unfold GT
    constructor
    · rintro (h | ⟨h, h'⟩)
      · exact ⟨by omega, by omega, h⟩
      · omega
    · exact fun h => .inl h.2.2
  have hd : (endS false t 0 == (t.length : Int)) = decide (GT t) := by
    show decide (endS false t 0 = (t.length : Int)) = _
    exact decide_eq_decide.2 hiff
  simp [tab, hlen, hd]
theorem implTree_ok (t : List Int) (v : AV) (H : Hp) (hm : t.length ≤ 1048576) (hv : Row 1 H v (ints t)) : T Try.prog 52 [v] H (fun r K => r = .bool (decide (GT t)) ∧ K = H) := by
  refine T.by tabOk Try.func52 (by kernel_rfl) rfl _ (by simp [Try.f52]) H _ ?_
  have hlen := hv.len 3
  simp only [ints_length] at hlen
  simp [Try.f52, tab, hlen]
  refine (in_ok _ 1 40 H).mono fun x K ⟨x1, x2⟩ => ?_
  subst x1 x2
  by_cases h1 : (1 : Int) ≤ t.length ∧ (t.length : Int) ≤ 40
  case neg =>
    have hn : ¬ GT t := fun h => h1 ⟨by have := h.1; omega, by have := h.2.1; omega⟩
    simp [tab, h1, hn]
  simp [tab, h1]
  refine (endOf_ok t 0 v K hm (by omega) hv).mono fun x K' ⟨x1, x2⟩ => ?_
  subst x1 x2
  have hiff : endI t 0 = (t.length : Int) ↔ scan true t 1 = some t.length := by
    unfold endI
    simp only [List.drop_zero]
    cases scan true t 1 with
    | none => simp only [reduceCtorEq, iff_false] <;> omega
    | some c => simp only [Option.some.injEq] <;> omega
  have hb := scan_both t 1 t.length
  rw [List.take_length] at hb
  by_cases h2 : scan true t 1 = some t.length
  case neg =>
    have hn : ¬ GT t := fun h => h2 (hb.1 h.2.2).1
    have he : ¬ endI t 0 = (t.length : Int) := fun h => h2 (hiff.1 h)
    simp [tab, hlen, he, hn]
  have he : endI t 0 = (t.length : Int) := hiff.2 h2
  simp [tab, hlen, he]
  refine (containsI_ok t v 0 K' hm hv).mono fun x K ⟨x1, x2⟩ => ?_
  subst x1 x2
  have hiff2 : (0 : Int) ∉ t ↔ GT t := ⟨fun h => ⟨by omega, by omega, hb.2 ⟨h2, h⟩⟩, fun h => (hb.1 h.2.2).2⟩
  have hd : (!decide ((0 : Int) ∈ t)) = decide (GT t) := by
    rw [← decide_not]
    exact decide_eq_decide.2 hiff2
  simp [tab, hd]
theorem endS_iff {l : List Int} (h : 1 ≤ l.length) : endS true l 0 = (l.length : Int) ↔ scan true l 1 = some l.length := by
  rw [scan_some]
  constructor
  · rintro (h' | ⟨h', h''⟩)
    · exact h'
    · omega
  · exact .inl
theorem endI_iff {l : List Int} : endI l 0 = (l.length : Int) ↔ scan true l 1 = some l.length := by
  unfold endI
  simp only [List.drop_zero]
  cases scan true l 1 with
  | none => simp only [reduceCtorEq, iff_false] <;> omega
  | some c => simp only [Option.some.injEq] <;> omega
end Go.Proofs.Ytmmohcledhenfaa.Am
