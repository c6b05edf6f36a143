/- The sort of few numbers. No condition. -/
import Derived.Test.YtdbnokeegocpbaaGreatLFoldMath
import Derived.Test.YtdbnokeegocpbaaGreatLBits
namespace Go.Proofs.YtdbnokeegocpbaaGreat.Am
open Go Go.RowKit
set_option linter.unusedSimpArgs false
set_option linter.unusedVariables false

def insB (c : Int → Int → Int) (x : Int) : List Int → List Int
  | [] => [x]
  | p :: q => if c x p < 0 then p :: insB c x q else x :: p :: q
def ins (c : Int → Int → Int) (P : List Int) (x : Int) : List Int := (insB c x P.reverse).reverse
theorem insB_perm (c : Int → Int → Int) (x : Int) : ∀ q, (insB c x q).Perm (x :: q)
  | [] => List.Perm.refl _
  | p :: q => by
    unfold insB
    split
    · exact ((insB_perm c x q).cons p).trans (List.Perm.swap x p q)
    · exact List.Perm.refl _
theorem ins_perm (c : Int → Int → Int) (P : List Int) (x : Int) : (ins c P x).Perm (x :: P) :=
  (List.reverse_perm _).trans ((insB_perm c x _).trans ((List.reverse_perm P).cons x))
def lessC (x y : Int) : Int := if x < y then -1 else 1
theorem isNaN_ok (x : Int) (H : Hp) : T Tryz.prog 107 [.int .i64 x] H (fun r K => r = .bool false ∧ K = H) := by
  refine T.by tabOk Tryz.func107 (by kernel_rfl) rfl _ (by simp [Tryz.f107]) H _ ?_
  simp [Tryz.f107, tab]
theorem cmpLess_ok (x y : Int) (H : Hp) : T Tryz.prog 89 [.int .i64 x, .int .i64 y] H (fun r K => r = .bool (decide (x < y)) ∧ K = H) := by
  refine T.by tabOk Tryz.func89 (by kernel_rfl) rfl _ (by simp [Tryz.f89]) H _ ?_
  simp [Tryz.f89, tab]
  refine (isNaN_ok x H).mono fun r K ⟨e1, e2⟩ => ?_
  subst e1 e2
  simp [tab]
set_option maxRecDepth 100000 in
theorem insOrd_ok (s : List Int) (v : AV) (H : Hp) (hm : s.length ≤ 1048576) (hv : Own 1 H v (ints s)) : T Tryz.prog 83 [v, .int .i64 0, .int .i64 s.length] H (fun r K => Own 1 K v (ints (s.foldl (ins lessC) [])) ∧ Keeps v.at H K) := by
  refine T.by tabOk Tryz.func83 (by kernel_rfl) rfl _ (by simp [Tryz.f83]) H _ ?_
  have w1 := wrap64 (x := 1) (by omega) (by omega)
  simp [Tryz.f83, w1]
  refine W_loop _ fun I hI => ?_
  have fin : ∀ (ts : TS) (K : Hp) (i : Nat), s.length ≤ i → Own 1 K v (ints (s.foldl (ins lessC) [])) → Keeps v.at H K → (ts 2 = .int .i64 s.length ∧ ts 6 = .int .i64 i) → I ts K := by
    intro ts K i hi ho hK hts
    apply hI
    have : ¬ (i : Int) < s.length := by omega
    simp [hts, this]
    exact ⟨ho, hK⟩
  have key : ∀ (r P : List Int) (ts : TS) (K : Hp), r.foldl (ins lessC) P = s.foldl (ins lessC) [] → (∀ x ∈ P ++ r, x ∈ s) → P.length + r.length = s.length → Own 1 K v (ints (P ++ r)) → Keeps v.at H K → (ts 0 = v ∧ ts 1 = .int .i64 0 ∧ ts 2 = .int .i64 s.length ∧ ts 6 = .int .i64 P.length) → I ts K := by
    intro r
    induction r with
    | nil =>
      intro P ts K e hmem hl ho hK hts
      have e : P = s.foldl (ins lessC) [] := e
      refine fin ts K P.length (by simp at hl; omega) ?_ hK ⟨hts.2.2.1, hts.2.2.2⟩
      rw [← e]
      simpa using ho
    | cons x r ih =>
      intro P ts K e hmem hl ho hK hts
      apply hI
      have hlt : (P.length : Int) < s.length := by simp at hl; omega
      simp [hts, hlt]
      refine W_loop _ fun I2 hI2 => ?_
      have key2 : ∀ (j : Nat) (P1 P2 : List Int) (ts : TS) (K : Hp), P1.length = j → (insB lessC x P1.reverse).reverse ++ P2 = ins lessC P x → P1.length + P2.length = P.length → (∀ y ∈ P1 ++ x :: P2 ++ r, y ∈ s) → Own 1 K v (ints (P1 ++ x :: P2 ++ r)) → Keeps v.at H K → (ts 0 = v ∧ ts 1 = .int .i64 0 ∧ ts 2 = .int .i64 s.length ∧ ts 6 = .int .i64 P.length ∧ ts 7 = .int .i64 j) → I2 ts K := by
        intro j
        induction j with
        | zero =>
          intro P1 P2 ts K hj e2 hl2 hmem2 ho hK hts
          apply hI2
          obtain rfl := List.eq_nil_of_length_eq_zero hj
          have hw := wrap64 (x := P.length + 1) (by omega) (by omega)
          simp only [W_seq]
          refine W_draw mixed (.look 0 (.look 1 (.look 2 (.look 3 (.look 4 (.look 5 (.look 6 (.look 7 (.look 8 (.look 9 (.look 10 (.look 11 (.look 12 (.act 13 [] (.look 14 .done) .stop)))))))))))))) (by kernel_rfl) ?_
          simp [hts, tab, hw]
          have e3 : x :: P2 = ins lessC P x := by simpa [insB] using e2
          refine ih (ins lessC P x) _ _ e ?_ ?_ ?_ hK ?_
          · intro y hy; rw [← e3] at hy; exact hmem2 y (by simpa using hy)
          · rw [← e3]; simp at hl hl2 ⊢; omega
          · rw [← e3]; simpa using ho
          · simp [hts, ← e3]; simp at hl2; omega
        | succ j ih2 =>
          intro P1 P2 ts K hj e2 hl2 hmem2 ho hK hts
          apply hI2
          rcases List.eq_nil_or_concat P1 with rfl | ⟨P1', p, e3⟩
          · simp at hj
          rw [List.concat_eq_append] at e3
          subst e3
          simp at hj
          subst hj
          have hpos : (0 : Int) < P1'.length + 1 := by omega
          have hw := wrap64 (x := P.length + 1) (by omega) (by omega)
          have hl3 : P1'.length + 1 + P2.length = P.length := by simpa using hl2
          have hw0 := wrap64 (x := P1'.length) (by omega) (by omega)
          have hx : (P1' ++ [p] ++ x :: P2 ++ r)[P1'.length + 1]? = some x := by simp
          have hp : (P1' ++ [p] ++ x :: P2 ++ r)[P1'.length]? = some p := by simp
          obtain ⟨b1, q1, _, f1, f2⟩ := Row.get1 ho.row (tab := tab) (e := 3) (ety := tI) rfl rfl rfl hx .i64
          obtain ⟨b2, q2, _, g1, g2⟩ := Row.get1 ho.row (tab := tab) (e := 3) (ety := tI) rfl rfl rfl hp .i64
          simp at f1
          simp only [W_seq]
          refine W_draw mixed (.look 0 (.look 1 (.look 2 (.look 3 (.look 4 (.look 5 (.look 6 (.look 7 (.look 8 (.look 9 (.look 10 (.look 11 (.look 12 (.act 13 [] (.look 14 .done) .stop)))))))))))))) (by kernel_rfl) ?_
          simp (maxDischargeDepth := 9) [hts, tab, hpos, f1, f2, g1, g2, hw0]
          refine (cmpLess_ok x p K).mono fun y K' ⟨y1, y2⟩ => ?_
          subst y1 y2
          by_cases hcx : x < p
          case neg =>
            have hcx' : ¬ lessC x p < 0 := by unfold lessC; rw [if_neg hcx]; decide
            simp [hts, tab, hcx, hw]
            have e4 : P1' ++ [p] ++ x :: P2 = ins lessC P x := by
              rw [← e2]
              simp [insB, hcx']
            refine ih (ins lessC P x) _ _ e ?_ ?_ ?_ hK ?_
            · intro y hy; rw [← e4] at hy; exact hmem2 y (by simpa using hy)
            · rw [← e4]; simp at hl ⊢; omega
            · rw [← e4]; simpa using ho
            · simp [hts, ← e4]; omega
          simp [hts, tab, hcx]
          refine W_draw mixed (.look 0 (.look 1 (.look 2 (.look 3 (.look 4 (.look 5 (.look 6 (.look 7 (.look 8 (.look 9 (.look 10 (.look 11 (.look 12 (.look 13 (.look 14 (.act 15 [] (.look 16 (.act 17 [] .done .stop)) .stop)))))))))))))))) (by kernel_rfl) ?_
          obtain ⟨b', hb', s1, s2⟩ := ho.store (tab := tab) (e := 3) (ety := tI) rfl (i := P1'.length + 1) (c := [.int .i64 x]) (ints_get hx) .i64
          obtain ⟨K2, s3, s4, s5, s6⟩ := s2 tI 0 (.int .i64 p) rfl rfl (by decide)
          have e5 : (ints (P1' ++ [p] ++ x :: P2 ++ r)).set (P1'.length + 1) (over [.int .i64 x] 0 [.int .i64 p]) = ints (P1' ++ [p] ++ p :: P2 ++ r) := by
            simp [ints, List.set_append]
          simp only [cells_int, e5] at s4
          have hp2 : (P1' ++ [p] ++ p :: P2 ++ r)[P1'.length]? = some p := by simp
          obtain ⟨b'', hb'', t1, t2⟩ := s4.store (tab := tab) (e := 3) (ety := tI) rfl (i := P1'.length) (c := [.int .i64 p]) (ints_get hp2) .i64
          obtain ⟨K3, t3, t4, t5, t6⟩ := t2 tI 0 (.int .i64 x) rfl rfl (by decide)
          have e6 : (ints (P1' ++ [p] ++ p :: P2 ++ r)).set P1'.length (over [.int .i64 p] 0 [.int .i64 x]) = ints (P1' ++ x :: (p :: P2) ++ r) := by
            simp [ints, List.set_append]
          simp only [cells_int, e6] at t4
          simp at s1 s3 t1 t3
          rw [f1] at s1
          cases s1
          simp (maxDischargeDepth := 9) [hts, tab, f1, f2, g1, g2, hw0, s3, t1, t3]
          refine ih2 P1' (p :: P2) _ _ rfl ?_ (by simp; omega) (fun y hy => hmem2 y (by simp at hy ⊢; rcases hy with h | h | h | h | h <;> simp [h])) t4 ((hK.trans s5).trans t5) (by simp [hts])
          have hcx' : lessC x p < 0 := by unfold lessC; rw [if_pos hcx]; decide
          rw [← e2]
          simp [insB, hcx']
      exact key2 P.length P [] _ _ rfl (by simp [ins]) (by simp) (by simpa using hmem) (by simpa using ho) hK (by simp [hts])
  cases s with
  | nil => exact fin _ _ 1 (by simp) hv (Keeps.refl _ _) (by simp)
  | cons x s => exact key s [x] _ _ (by simp [ins, insB]) (by simp) (by simp; omega) (by simpa using hv) (Keeps.refl _ _) (by simp)
theorem insOrd_sorted : ∀ (s P : List Int), P.Pairwise (· ≤ ·) → (s.foldl (ins lessC) P).Pairwise (· ≤ ·) ∧ (s.foldl (ins lessC) P).Perm (P ++ s)
  | [], P, h => ⟨h, by simp⟩
  | x :: s, P, h => by
    have key : ∀ q : List Int, q.Pairwise (· ≥ ·) → (insB lessC x q).Pairwise (· ≥ ·) := by
      intro q
      induction q with
      | nil => simp [insB]
      | cons p q ih =>
        intro hq
        obtain ⟨h1, h2⟩ := List.pairwise_cons.1 hq
        unfold insB
        split
        next hl =>
          have hxp : x < p := by
            unfold lessC at hl
            split at hl
            · assumption
            · omega
          refine List.pairwise_cons.2 ⟨fun y hy => ?_, ih h2⟩
          rcases List.mem_cons.1 ((insB_perm lessC x q).mem_iff.1 hy) with rfl | hy
          · show y ≤ p; omega
          · exact h1 y hy
        next hl =>
          have hxp : p ≤ x := by
            unfold lessC at hl
            split at hl
            · omega
            · omega
          refine List.pairwise_cons.2 ⟨fun y hy => ?_, hq⟩
          rcases List.mem_cons.1 hy with rfl | hy
          · exact hxp
          · have := h1 y hy; show y ≤ x; have : y ≤ p := this; omega
    have hins : (ins lessC P x).Pairwise (· ≤ ·) := by
      unfold ins
      rw [List.pairwise_reverse]
      exact key _ (by rw [List.pairwise_reverse]; exact h)
    obtain ⟨h1, h2⟩ := insOrd_sorted s (ins lessC P x) hins
    refine ⟨h1, h2.trans ?_⟩
    have := (ins_perm lessC P x).append_right s
    refine this.trans ?_
    simpa using (List.perm_middle (a := x) (l₁ := P) (l₂ := s)).symm
set_option maxRecDepth 100000 in
theorem pdq_ok (s : List Int) (v : AV) (lim : Int) (H : Hp) (hm : s.length ≤ 12) (hv : Own 1 H v (ints s)) : T Tryz.prog 61 [v, .int .i64 0, .int .i64 s.length, .int .i64 lim] H (fun r K => Own 1 K v (ints (s.foldl (ins lessC) [])) ∧ Keeps v.at H K) := by
  refine T.by tabOk Tryz.func61 (by kernel_rfl) rfl _ (by simp [Tryz.f61]) H _ ?_
  have hw := wrap64 (x := (s.length : Int)) (by omega) (by omega)
  have h12 : (s.length : Int) ≤ 12 := by omega
  simp [Tryz.f61, tab]
  refine W_loop _ fun I hI => hI _ _ ?_
  simp [tab, hw, h12]
  refine (insOrd_ok s v H (by omega) hv).mono fun r K ⟨e1, e2⟩ => ?_
  simp [tab]
  exact ⟨e1, e2⟩
theorem sort_ok (s : List Int) (v : AV) (H : Hp) (hm : s.length ≤ 12) (hv : Own 1 H v (ints s)) : T Tryz.prog 26 [v] H (fun r K => Own 1 K v (ints (s.foldl (ins lessC) [])) ∧ Keeps v.at H K) := by
  refine T.by tabOk Tryz.func26 (by kernel_rfl) rfl _ (by simp [Tryz.f26]) H _ ?_
  have hlen := hv.row.len 3
  simp only [ints_length] at hlen
  have hw : IntKind.u64.wrap (s.length : Int) = s.length := by simp [IntKind.wrap, IntKind.bits, IntKind.signed]; omega
  simp [Tryz.f26, tab, hlen, hw]
  refine (bitsLen_ok s.length (by omega) H).mono fun r K ⟨⟨x, e1⟩, e2⟩ => ?_
  subst e1 e2
  simp [tab]
  refine (pdq_ok s v x K hm hv).mono fun r K ⟨e1, e2⟩ => ?_
  simp [tab]
  exact ⟨e1, e2⟩
end Go.Proofs.YtdbnokeegocpbaaGreat.Am
