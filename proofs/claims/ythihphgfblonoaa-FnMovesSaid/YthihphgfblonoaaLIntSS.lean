/- The laws' own helpers for [][]int. No condition. -/
import Derived.Test.YthihphgfblonoaaLInts
namespace Go.Proofs.Ythihphgfblonoaa.Am
open Go Go.RowKit
set_option linter.unusedSimpArgs false
set_option linter.unusedVariables false

abbrev tL : Ty := ⟨.slice 3, 1, 24, [.nil], false⟩
def slots (us : List AV) : List (List AV) := us.map fun u => [u]
/-- A row of rows of numbers, looked at. -/
structure LRow (K : Hp) (v : AV) (l : List (List Int)) (us : List AV) : Prop where
  row : Row 1 K v (slots us)
  len : us.length = l.length
  inner : ∀ (i : Nat) (t : List Int) (u : AV), l[i]? = some t → us[i]? = some u → Row 1 K u (ints t)
theorem LRow.fr {K K' : Hp} {v : AV} {l : List (List Int)} {us : List AV} (h : LRow K v l us) (k : Fr K K') : LRow K' v l us := ⟨h.row.fr k, h.len, fun i t u a b => (h.inner i t u a b).fr k⟩
theorem LRow.count {K : Hp} {v : AV} {l : List (List Int)} {us : List AV} (h : LRow K v l us) (e : Nat) : lenA (.slice e) v = some (.int .i64 l.length) := by
  have := h.row.len e
  rw [this]
  simp [slots, h.len]
theorem LRow.get {K : Hp} {v : AV} {l : List (List Int)} {us : List AV} (h : LRow K v l us) {e : Nat} (he : tab e = some tL) {i : Nat} {t : List Int} (hi : l[i]? = some t) :
    ∃ b q u, us[i]? = some u ∧ indexAddrA tab (.slice e) K v (.int .i64 i) = some (.ptr b q) ∧ loadA tL K (.ptr b q) = some u ∧ Row 1 K u (ints t) := by
  have hlt : i < us.length := by rw [h.len]; exact (List.getElem?_eq_some_iff.1 hi).1
  have hu : us[i]? = some us[i] := List.getElem?_eq_getElem hlt
  obtain ⟨b, q, _, h1, h2⟩ := Row.get1 (f := fun u => u) h.row (tab := tab) he rfl rfl hu .i64
  exact ⟨b, q, us[i], hu, h1, h2, h.inner i t _ hi hu⟩
/-- A row of rows that was made. -/
structure LOwn (K : Hp) (v : AV) (l : List (List Int)) (us : List AV) : Prop where
  row : Own 1 K v (slots us)
  len : us.length = l.length
  inner : ∀ (i : Nat) (t : List Int) (u : AV), l[i]? = some t → us[i]? = some u → Own 1 K u (ints t)
  apart : ∀ (i j : Nat) (u u' : AV) (b : Nat), us[i]? = some u → us[j]? = some u' → i ≠ j → u.at b → ¬ u'.at b
  off : ∀ u ∈ us, ∀ b, u.at b → ¬ v.at b
theorem LOwn.look {K : Hp} {v : AV} {l : List (List Int)} {us : List AV} (h : LOwn K v l us) : LRow K v l us := ⟨h.row.row, h.len, fun i t u a b => (h.inner i t u a b).row⟩
theorem LOwn.fr {K K' : Hp} {v : AV} {l : List (List Int)} {us : List AV} (h : LOwn K v l us) (k : Fr K K') : LOwn K' v l us := ⟨h.row.fr k, h.len, fun i t u a b => (h.inner i t u a b).fr k, h.apart, h.off⟩
theorem LOwn.keeps {X : Nat → Prop} {K K' : Hp} {v : AV} {l : List (List Int)} {us : List AV} (h : LOwn K v l us) (k : Keeps X K K') (hn : ∀ b, (v.at b ∨ ∃ u ∈ us, u.at b) → ¬ X b) : LOwn K' v l us := ⟨h.row.keeps k fun b hb => hn b (.inl hb), h.len, fun i t u a b => (h.inner i t u a b).keeps k fun c hc => hn c (.inr ⟨u, List.mem_of_getElem? b, hc⟩), h.apart, h.off⟩
theorem LOwn.lt {K : Hp} {v : AV} {l : List (List Int)} {us : List AV} (h : LOwn K v l us) : ∀ b, (v.at b ∨ ∃ u ∈ us, u.at b) → b < K.length := by
  rintro b (hb | ⟨u, hu, hb⟩)
  · exact h.row.lt b hb
  · obtain ⟨i, hi⟩ := List.mem_iff_getElem?.1 hu
    have hil : i < l.length := by rw [← h.len]; exact (List.getElem?_eq_some_iff.1 hi).1
    exact (h.inner i l[i] u (List.getElem?_eq_getElem hil) hi).lt b hb
theorem LOwn.nil (K : Hp) : LOwn K .nil [] [] := ⟨by simpa [slots] using Own.nil 1 K, rfl, by simp, by simp, by simp⟩
/-- One more row is put behind. -/
theorem LOwn.push {K : Hp} {v u : AV} {l : List (List Int)} {us : List AV} {t : List Int} (h : LOwn K v l us) (hu : Own 1 K u (ints t)) (hne : ∀ b, u.at b → ¬ (v.at b ∨ ∃ w ∈ us, w.at b)) (hl : l.length ≤ 1048576) :
    ∃ v' K', appendA 1 24 (K ++ [some ⟨1, true, [u]⟩]) v (.sl K.length 0 1) = some (v', K') ∧ LOwn K' v' (l ++ [t]) (us ++ [u]) ∧ Keeps v.at K K' ∧ ∀ b, v'.at b → v.at b ∨ K.length ≤ b := by
  have hu1 := hu.row.one
  obtain ⟨v', K', a1, a2, a3, a4⟩ := (h.row.fr (Fr.app K [some ⟨1, true, [u]⟩])).append (bytes := 24) (x := .sl K.length 0 1) (new := [[u]]) (by decide) (by simp [rowOf]) (by simp) (by simp [slots, h.len]; omega) (by simp [slots, h.len]; omega)
  have f4 : Keeps v.at K K' := (Fr.keeps (Fr.app K _)).trans a3
  have a5 : ∀ b, v'.at b → v.at b ∨ K.length ≤ b := fun b hb => (a4 b hb).elim .inl fun h => .inr (by simp at h; omega)
  have hlt := h.lt
  have hult := hu.lt
  refine ⟨v', K', a1, ⟨by simpa [slots] using a2, by simp [h.len], ?_, ?_, ?_⟩, f4, a5⟩
  · intro i t' w hi hw
    by_cases hil : i < l.length
    · rw [List.getElem?_append_left hil] at hi
      rw [List.getElem?_append_left (by rw [h.len]; exact hil)] at hw
      exact (h.inner i t' w hi hw).keeps f4 fun b h1 h2 => h.off w (List.mem_of_getElem? hw) b h1 h2
    · have hil2 : i = l.length := by
        have := (List.getElem?_eq_some_iff.1 hi).1
        simp at this
        omega
      subst hil2
      simp at hi
      rw [← h.len] at hw
      simp at hw
      subst hi hw
      exact hu.keeps f4 fun b h1 h2 => hne b h1 (.inl h2)
  · intro i j w w' b hi hj hij hb hb'
    have hcase : ∀ {k : Nat} {x : AV}, (us ++ [u])[k]? = some x → us[k]? = some x ∨ (k = us.length ∧ x = u) := by
      intro k x hk
      rcases get_snoc hk with h | ⟨h1, h2⟩
      · exact .inl h
      · exact .inr ⟨h1, h2.symm⟩
    rcases hcase hi with hi2 | ⟨hi2, e2⟩ <;> rcases hcase hj with hj2 | ⟨hj2, e3⟩
    · exact h.apart i j w w' b hi2 hj2 hij hb hb'
    · rw [e3] at hb'
      exact hne b hb' (.inr ⟨w, List.mem_of_getElem? hi2, hb⟩)
    · rw [e2] at hb
      exact hne b hb (.inr ⟨w', List.mem_of_getElem? hj2, hb'⟩)
    · omega
  · intro w hw b hb hb'
    rcases List.mem_append.1 hw with hw | hw
    · rcases a5 b hb' with h1 | h1
      · exact h.off w hw b hb h1
      · have := hlt b (.inr ⟨w, hw, hb⟩)
        omega
    · simp at hw
      subst hw
      rcases a5 b hb' with h1 | h1
      · exact hne b hb (.inl h1)
      · have := hult b hb
        omega
theorem eqIntSS_ok (l l' : List (List Int)) (us us' : List AV) (v v' : AV) (H : Hp) (hm : l.length ≤ 1048576) (hmm : ∀ t ∈ l, t.length ≤ 140737488355328) (hv : LRow H v l us) (hv' : LRow H v' l' us') : T Try.prog 30 [v, v'] H (fun r K => r = .bool (decide (l = l')) ∧ K = H) := by
  refine T.by tabOk Try.func30 (by kernel_rfl) rfl _ (by simp [Try.f30]) H _ ?_
  have hlen := hv.count 29
  have hlen' := hv'.count 29
  by_cases hl : l.length = l'.length
  case neg =>
    have hne : (l.length : Int) ≠ l'.length := by omega
    have hne2 : l ≠ l' := fun e => hl (by rw [e])
    simp [Try.f30, tab, hlen, hlen', hne, hne2, hl]
  simp [Try.f30, tab, hlen, hlen', hl]
  refine W_loop _ fun I hI => ?_
  have key : ∀ (r p r' : List (List Int)) (ts : TS), l = p ++ r → l' = p ++ r' → (ts 0 = v ∧ ts 1 = v' ∧ ts 5 = .int .i64 p.length) → I ts H := by
    intro r
    induction r with
    | nil =>
      intro p r' ts e e' hts
      apply hI
      obtain _ | ⟨a', r'⟩ := r'
      case cons => simp [e, e'] at hl
      simp at e e'
      subst e e'
      simp [hts, hlen, tab]
    | cons a r ih =>
      intro p r' ts e e' hts
      obtain _ | ⟨a', r'⟩ := r'
      · simp [e, e'] at hl
      apply hI
      have hlt : (p.length : Int) < l.length := by simp [e]; omega
      obtain ⟨b, q, u, _, e1, e2, e3⟩ := hv.get (e := 29) rfl (i := p.length) (t := a) (by simp [e])
      obtain ⟨b', q', u', _, e1', e2', e3'⟩ := hv'.get (e := 29) rfl (i := p.length) (t := a') (by simp [e'])
      simp [hts, hlen, tab, hlt]
      refine W_draw mixed (.look 0 (.look 1 (.look 2 (.look 3 (.look 4 (.look 5 (.look 6 (.look 7 (.act 8 [] (.look 9 .done) .stop))))))))) (by kernel_rfl) ?_
      simp [hts, tab, e1, e2, e1', e2']
      refine (eqIntS_ok a a' u u' H (hmm a (by simp [e])) e3 e3').mono fun x K ⟨x1, x2⟩ => ?_
      subst x1 x2
      by_cases ha : a = a'
      · subst ha
        have hw := wrap64 (x := p.length + 1) (by omega) (by omega)
        simp [hts, hw, tab, e1, e2, e1', e2']
        exact ih (p ++ [a]) r' _ (by simp [e]) (by simp [e']) (by simp [hts])
      · simp [ha, hts, tab, e1, e2, e1', e2', e, e']
  exact key l [] l' _ rfl rfl (by simp)
def upss (k : Int) : List Nat → List (List Int)
  | [] => []
  | n :: r => up k n :: upss (k + n) r
theorem upss_length (k : Int) (ns : List Nat) : (upss k ns).length = ns.length := by
  induction ns generalizing k with
  | nil => rfl
  | cons n r ih => simp [upss, ih]
theorem markIntSS_ok (l : List (List Int)) (us : List AV) (v : AV) (H : Hp) (hm : l.length ≤ 1048576) (hmm : ∀ t ∈ l, t.length ≤ 1048576) (hv : LOwn H v l us) : T Try.prog 31 [v, .int .i64 1] H (fun r K => r = .int .i64 (1 + ((l.map List.length).sum : Nat)) ∧ LRow K v (upss 1 (l.map List.length)) us ∧ Keeps (fun b => ∃ u ∈ us, u.at b) H K) := by
  refine T.by tabOk Try.func31 (by kernel_rfl) rfl _ (by simp [Try.f31]) H _ ?_
  have hlen := hv.look.count 29
  simp [Try.f31, tab]
  refine W_loop _ fun I hI => ?_
  have key : ∀ (r p : List (List Int)) (ts : TS) (K : Hp) (k : Nat) (q : List (List Int)), l = p ++ r → k = 1 + (p.map List.length).sum → k ≤ 1 + 1048576 * p.length → q.length = p.length → LOwn K v (q ++ r) us → upss 1 (l.map List.length) = q ++ upss k (r.map List.length) → Keeps (fun b => ∃ u ∈ us, u.at b) H K → (ts 0 = v ∧ ts 1 = .int .i64 k ∧ ts 5 = .int .i64 p.length) → I ts K := by
    intro r
    induction r with
    | nil =>
      intro p ts K k q e hk hkb hq ho hu hK hts
      apply hI
      simp at e
      subst e
      simp [upss] at hu
      simp at ho
      have hlen := ho.look.count 29
      rw [hq] at hlen
      simp [hts, tab, hlen, hu]
      exact ⟨by omega, ho.look, hK⟩
    | cons a r ih =>
      intro p ts K k q e hk hkb hq ho hu hK hts
      apply hI
      have hlt : (p.length : Int) < l.length := by simp [e]; omega
      have hlen : lenA (.slice 29) v = some (.int .i64 l.length) := hlen
      obtain ⟨b, qq, u, huu, e1, e2, e3⟩ := ho.look.get (e := 29) rfl (i := p.length) (t := a) (by rw [← hq]; simp)
      have hal := hmm a (by simp [e])
      have hpl : p.length + 1 ≤ 1048576 := by simp [e] at hm; omega
      simp [hts, tab, hlen, hlt, e1, e2]
      have hin := ho.inner p.length a u (by rw [← hq]; simp) huu
      refine (markIntS_ok _ u k K (by omega) (by simp; omega) hin).mono fun x K3 ⟨x1, x2, x3, x4⟩ => ?_
      subst x1
      have hw := wrap64 (x := p.length + 1) (by omega) (by omega)
      simp [hts, tab, hw]
      simp at x2
      refine ih (p ++ [a]) _ K3 (k + a.length) (q ++ [up k a.length]) (by simp [e]) (by simp; omega) (by simp; omega) (by simp [hq]) ?_ (by rw [hu]; simp [upss]) (hK.trans (x3.mono fun b hb => ⟨u, List.mem_of_getElem? huu, hb⟩)) (by simp [hts])
      refine ⟨ho.row.keeps x3 fun b h1 h2 => ho.off u (List.mem_of_getElem? huu) b h2 h1, by simpa using ho.len, fun i t w hi hw => ?_, ho.apart, ho.off⟩
      by_cases hip : i = p.length
      · subst hip
        rw [huu] at hw
        cases hw
        have : t = up k a.length := by
          rw [← hq] at hi
          simp at hi
          exact hi.symm
        rw [this]
        exact x2
      · refine (ho.inner i t w ?_ hw).keeps x3 fun b h1 h2 => ho.apart p.length i u w b huu hw (fun h => hip h.symm) h2 h1
        rw [← hi]
        by_cases hip2 : i < q.length
        · rw [List.getElem?_append_left hip2, List.append_assoc, List.getElem?_append_left hip2]
        · rw [List.getElem?_append_right (by omega), List.append_assoc, List.getElem?_append_right (by omega)]
          obtain ⟨j, hj⟩ : ∃ j, i - q.length = j + 1 := ⟨i - q.length - 1, by omega⟩
          rw [hj]
          simp
  exact key l [] _ H 1 [] rfl (by simp) (by simp) rfl (by simpa using hv) (by simp) (Keeps.refl _ _) (by simp)
theorem heldIntSS_ok (ns : List Nat) (us : List AV) (v : AV) (H : Hp) (hm : ns.length ≤ 1048576) (hmm : ∀ n ∈ ns, n ≤ 1048576) (hv : LRow H v (upss 1 ns) us) : T Try.prog 32 [v, .int .i64 1] H (fun r K => r = .int .i64 (1 + (ns.sum : Nat)) ∧ K = H) := by
  refine T.by tabOk Try.func32 (by kernel_rfl) rfl _ (by simp [Try.f32]) H _ ?_
  have hlen := hv.count 29
  rw [upss_length] at hlen
  simp [Try.f32, tab]
  refine W_loop _ fun I hI => ?_
  have key : ∀ (r p : List Nat) (ts : TS) (k : Nat) (q : List (List Int)), ns = p ++ r → k = 1 + p.sum → k ≤ 1 + 1048576 * p.length → q.length = p.length → upss 1 ns = q ++ upss k r → (ts 0 = v ∧ ts 1 = .int .i64 k ∧ ts 5 = .int .i64 p.length) → I ts H := by
    intro r
    induction r with
    | nil =>
      intro p ts k q e hk hkb hq hu hts
      apply hI
      simp at e
      subst e
      simp [hts, tab, hlen]
      omega
    | cons a r ih =>
      intro p ts k q e hk hkb hq hu hts
      apply hI
      have hlt : (p.length : Int) < ns.length := by simp [e]; omega
      obtain ⟨b, qq, u, huu, e1, e2, e3⟩ := hv.get (e := 29) rfl (i := p.length) (t := up k a) (by rw [hu, ← hq]; simp [upss])
      have hal := hmm a (by simp [e])
      have hpl : p.length + 1 ≤ 1048576 := by simp [e] at hm; omega
      simp [hts, tab, hlen, hlt, e1, e2]
      refine (heldIntS_ok a u k H (by omega) (by omega) e3).mono fun x K ⟨x1, x2⟩ => ?_
      subst x1 x2
      have hno : ¬ (k : Int) + a < 0 := by omega
      have hw := wrap64 (x := p.length + 1) (by omega) (by omega)
      simp [hts, tab, hno, hw]
      exact ih (p ++ [a]) _ (k + a) (q ++ [up k a]) (by simp [e]) (by simp; omega) (by simp; omega) (by simp [hq]) (by rw [hu]; simp [upss]) (by simp [hts])
  exact key ns [] _ 1 [] rfl (by simp) (by simp) rfl (by simp) (by simp)
end Go.Proofs.Ythihphgfblonoaa.Am
