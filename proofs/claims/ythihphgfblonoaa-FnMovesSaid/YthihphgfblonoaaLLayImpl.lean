/- Moves laid in turn, as the program does it. No condition. -/
import Derived.Test.YthihphgfblonoaaLLaySpec
namespace Go.Proofs.Ythihphgfblonoaa.Am
open Go Go.RowKit
set_option linter.unusedSimpArgs false
set_option linter.unusedVariables false

theorem flatten_take {sz : Nat} : ∀ {es : List (List AV)} (n : Nat), (∀ e ∈ es, e.length = sz) → es.flatten.take (n * sz) = (es.take n).flatten
  | es, 0, _ => by simp
  | [], n + 1, _ => by simp
  | e :: es, n + 1, h => by
    have he := h e (by simp)
    rw [List.flatten_cons, Nat.succ_mul, Nat.add_comm, ← he, List.take_append, he, List.take_of_length_le (by omega), List.take_succ_cons, List.flatten_cons]
    congr 1
    rw [Nat.add_sub_cancel_left]
    exact flatten_take n fun x hx => h x (by simp [hx])
/-- A block of moves. -/
def MBlk (K : Hp) (b : Nat) (M : List Move) : Prop := K[b]? = some (some ⟨2, true, (moves M).flatten⟩)
theorem flat_len2 (M : List Move) : (moves M).flatten.length = M.length * 2 := by rw [flatten_length (moves_one M), List.length_map]
theorem MBlk.row {K : Hp} {b : Nat} {M : List Move} (h : MBlk K b M) (o n : Nat) (hn : o + n ≤ M.length) : Row 2 K (.sl b o n) (moves ((M.drop o).take n)) := by
  have hl : (moves ((M.drop o).take n)).length = n := by simp; omega
  refine ⟨moves_one _, .inr ⟨b, o, _, by rw [hl], h, rfl, ?_, ?_⟩⟩
  · rw [hl]
    show ((moves M).flatten.drop (o * 2)).take (n * 2) = _
    rw [flatten_drop o (moves_one M), flatten_take n fun e he => moves_one M e (List.mem_of_mem_drop he)]
    simp [moves, List.map_take, List.map_drop]
  · rw [hl]
    show _ ≤ (moves M).flatten.length
    rw [flat_len2]
    exact Nat.mul_le_mul_right _ hn
theorem MBlk.keeps {X : Nat → Prop} {K K' : Hp} {b : Nat} {M : List Move} (h : MBlk K b M) (k : Keeps X K K') (hn : ¬ X b) : MBlk K' b M := k.2 b _ h hn
theorem MBlk.live {K : Hp} {b : Nat} {M : List Move} (h : MBlk K b M) (o n : Nat) : liveA 2 K (.sl b o n) = true := by
  unfold MBlk at h
  simp [liveA, h]
theorem MBlk.set {K : Hp} {b : Nat} {M : List Move} (h : MBlk K b M) {i : Nat} (hi : i < M.length) (m : Move) : ∃ K', storeA tM K (.ptr b (i * 2)) (.agg m.enc) = some K' ∧ MBlk K' b (M.set i m) ∧ Keeps (fun c => c = b) K K' ∧ K'.length = K.length := by
  have hfl := flat_len2 M
  obtain ⟨K', s1, s2, s3, s4⟩ := store_at h rfl (ty := tM) (o := i * 2) (v := .agg m.enc) rfl rfl (by show i * 2 + 2 ≤ (moves M).flatten.length; omega)
  refine ⟨K', s1, ?_, s3, s4⟩
  have h1 := over_flatten (sz := 2) (es := moves M) i 0 m.enc M[i].enc (moves_one M) (by simp [hi]) (by simp [Move.enc])
  simp only [Nat.add_zero, AV.cells] at h1 s2
  rw [h1] at s2
  have h2 : (moves M).set i (over M[i].enc 0 m.enc) = moves (M.set i m) := by simp [moves, List.map_set, Move.enc, over]
  rw [h2] at s2
  exact s2
theorem over_moves (M : List Move) (o : Nat) (N : List Move) (h : o + N.length ≤ M.length) : over (moves M).flatten (o * 2) (moves N).flatten = (moves (M.take o ++ N ++ M.drop (o + N.length))).flatten := by
  have h1 : (moves N).flatten.length = N.length * 2 := flat_len2 N
  rw [over, h1, flatten_take o (moves_one M), ← Nat.add_mul, flatten_drop (o + N.length) (moves_one M)]
  simp [moves, List.map_take, List.map_drop]
theorem MBlk.clear {K : Hp} {b : Nat} {M : List Move} (h : MBlk K b M) (o n : Nat) (hn : o + n ≤ M.length) : ∃ K', clearA 2 [.int .i64 0, .int .i64 0] K (.sl b o n) = some K' ∧ MBlk K' b (M.take o ++ List.replicate n ⟨0, 0⟩ ++ M.drop (o + n)) ∧ Keeps (fun c => c = b) K K' := by
  by_cases h0 : n = 0
  · subst h0
    exact ⟨K, by simp [clearA], by simpa using h, Keeps.refl _ _⟩
  · have hz : zerosA [AV.int .i64 0, .int .i64 0] n = (moves (List.replicate n ⟨0, 0⟩)).flatten := by
      rw [zeros_flatten]
      simp [moves, Move.enc]
    have hfl := flat_len2 M
    have hov := over_moves M o (List.replicate n ⟨0, 0⟩) (by simpa using hn)
    rw [← hz, List.length_replicate] at hov
    have h' : K[b]? = some (some ⟨2, true, (moves M).flatten⟩) := h
    have hc : (o + n) * 2 ≤ (moves M).flatten.length := by rw [hfl]; exact Nat.mul_le_mul_right _ hn
    refine ⟨K.set b (some ⟨2, true, over (moves M).flatten (o * 2) (zerosA [AV.int .i64 0, .int .i64 0] n)⟩), ?_, ?_, Keeps.set K b _⟩
    · simp only [clearA, if_neg h0, rowAt, h']
      simp only [hc, and_true, if_true]
      simp
    · rw [MBlk, List.getElem?_set_self (lt_of_get h'), hov]
theorem MBlk.shift {K : Hp} {b : Nat} {M : List Move} (h : MBlk K b M) (i j n : Nat) (hi : i + n ≤ M.length) (hj : j + n ≤ M.length) : ∃ K', appendA 2 16 K (.sl b 0 i) (.sl b j n) = some (.sl b 0 (i + n), K') ∧ MBlk K' b (M.take i ++ (M.drop j).take n ++ M.drop (i + n)) ∧ Keeps (fun c => c = b) K K' := by
  have hr := (h.row j n hj).whole
  have hln : (moves ((M.drop j).take n)).length = n := by simp; omega
  rw [hln] at hr
  have hfl := flat_len2 M
  have h' : K[b]? = some (some ⟨2, true, (moves M).flatten⟩) := h
  have hc : (0 + i) * 2 ≤ (moves M).flatten.length := by rw [hfl]; exact Nat.mul_le_mul_right _ (by omega)
  have hc2 : (0 + i + n) * 2 ≤ (moves M).flatten.length := by rw [hfl]; exact Nat.mul_le_mul_right _ (by omega)
  have hov := over_moves M i ((M.drop j).take n) (by simp; omega)
  have hlen : ((M.drop j).take n).length = n := by simp; omega
  rw [hlen] at hov
  by_cases h0 : n = 0
  · subst h0
    refine ⟨K, ?_, by simpa using h, Keeps.refl _ _⟩
    simp only [appendA, hr, h']
    rw [if_pos ⟨by decide, trivial, trivial, hc⟩]
    simp
  · refine ⟨K.set b (some ⟨2, true, over (moves M).flatten ((0 + i) * 2) (moves ((M.drop j).take n)).flatten⟩), ?_, ?_, Keeps.set K b _⟩
    · simp only [appendA, hr, h']
      rw [if_pos ⟨by decide, trivial, trivial, hc⟩, if_neg h0, if_pos hc2]
    · rw [MBlk, List.getElem?_set_self (lt_of_get h'), Nat.zero_add, hov]
def AsksM (X : Nat → Prop) (g : FuncId) (caps : List AV) (p : Move → Bool) (H : Hp) : Prop := ∀ (K : Hp) (m : Move), Keeps X H K → T Try.prog g (.agg m.enc :: caps) K (fun r K' => r = .bool (p m) ∧ Fr K K')
theorem AsksM.later {X : Nat → Prop} {g : FuncId} {caps : List AV} {p : Move → Bool} {H K : Hp} (h : AsksM X g caps p H) (hK : Keeps X H K) : AsksM X g caps p K := fun K' m hK' => h K' m (hK.trans hK')
theorem indexM_ok (l : List Move) (v : AV) (X : Nat → Prop) (g : FuncId) (caps : List AV) (p : Move → Bool) (H : Hp) (hm : l.length ≤ 1048576) (hv : Row 2 H v (moves l)) (hf : AsksM X g caps p H) : T Try.prog 66 [v, .fn g caps] H (fun r K => r = .int .i64 (idx (l.findIdx? p)) ∧ Fr H K) := by
  refine T.by tabOk Try.func66 (by kernel_rfl) rfl _ (by simp [Try.f66]) H _ ?_
  have hlen := hv.len 51
  simp [Try.f66, tab, hlen]
  refine W_loop _ fun I hI => ?_
  have key : ∀ (r q : List Move) (ts : TS) (K : Hp), l = q ++ r → Fr H K → (∀ m ∈ q, p m = false) → (ts 0 = v ∧ ts 1 = .fn g caps ∧ ts 7 = .int .i64 l.length ∧ ts 8 = .int .i64 q.length) → I ts K := by
    intro r
    induction r with
    | nil =>
      intro q ts K e hK hq hts
      apply hI
      simp at e
      subst e
      simp [hts, tab, find_miss hq, idx]
      exact hK
    | cons a r ih =>
      intro q ts K e hK hq hts
      apply hI
      have hlt : (q.length : Int) < l.length := by simp [e]; omega
      obtain ⟨b, o, _, e1, e2, -⟩ := (hv.fr hK).get (tab := tab) (e := 51) (ety := tM) rfl (i := q.length) (a := a) (by simp [e]) .i64
      have e2 := e2 rfl
      have hw := wrap64 (x := q.length + 1) (by omega) (by omega)
      simp (maxDischargeDepth := 9) [hts, tab, hlt, e1, e2]
      refine (hf K a (Fr.keeps hK)).mono fun y K1 ⟨y1, f1⟩ => ?_
      subst y1
      cases hp : p a with
      | true =>
        simp [hts, hp]
        refine ⟨?_, hK.trans f1⟩
        rw [e, find_hit hq hp]
        rfl
      | false =>
        simp [hts, hp, hw]
        exact ih (q ++ [a]) _ _ (by simp [e]) (hK.trans f1) (fun m hm => by
          rcases List.mem_append.1 hm with hm | hm
          · exact hq m hm
          · simp at hm; subst hm; exact hp) (by simp [hts])
  exact key l [] _ H rfl (Fr.refl H) (by simp) (by simp)
theorem containsM_ok (l : List Move) (v : AV) (X : Nat → Prop) (g : FuncId) (caps : List AV) (p : Move → Bool) (H : Hp) (hm : l.length ≤ 1048576) (hv : Row 2 H v (moves l)) (hf : AsksM X g caps p H) : T Try.prog 50 [v, .fn g caps] H (fun r K => r = .bool (l.any p) ∧ Fr H K) := by
  refine T.by tabOk Try.func50 (by kernel_rfl) rfl _ (by simp [Try.f50]) H _ ?_
  simp [Try.f50]
  refine (indexM_ok l v X g caps p H hm hv hf).mono fun r K ⟨e1, e2⟩ => ?_
  subst e1
  cases hi : l.findIdx? p with
  | none =>
    have : l.any p = false := by
      rw [List.any_eq_false]
      intro m hm
      have := List.findIdx?_eq_none_iff.1 hi m hm
      simp [this]
    simp [idx, this]
    exact e2
  | some i =>
    have : l.any p = true := by
      obtain ⟨h1, h2, _⟩ := List.findIdx?_eq_some_iff_getElem.1 hi
      exact List.any_eq_true.2 ⟨_, List.getElem_mem h1, h2⟩
    have h0 : (0 : Int) ≤ (i : Int) := by omega
    simp [idx, this]
    exact e2
theorem del_ok (H : Hp) (X : Nat → Prop) : AsksM X 72 [] (fun m => m.fr == m.to) H := by
  intro K m hK
  refine T.by tabOk Try.func72 (by kernel_rfl) rfl _ (by simp [Try.f72]) K _ ?_
  simp [Try.f72, tab, Move.enc, loadB]
  exact Fr.app K _
set_option maxRecDepth 100000 in
theorem deleteFunc_ok (b : Nat) (M : List Move) (g : FuncId) (caps : List AV) (p : Move → Bool) (H : Hp) (hm : M.length ≤ 1048576) (hb : MBlk H b M) (hf : AsksM (fun c => c = b) g caps p H) : T Try.prog 71 [.sl b 0 M.length, .fn g caps] H (fun r K => ∃ M', r = .sl b 0 (M.filter fun m => !p m).length ∧ MBlk K b M' ∧ M'.length = M.length ∧ M'.take (M.filter fun m => !p m).length = (M.filter fun m => !p m) ∧ Keeps (fun c => c = b) H K) := by
  refine T.by tabOk Try.func71 (by kernel_rfl) rfl _ (by simp [Try.f71]) H _ ?_
  simp [Try.f71]
  have hrow : Row 2 H (.sl b 0 M.length) (moves M) := by have := hb.row 0 M.length (by omega); simpa using this
  refine (indexM_ok M (.sl b 0 M.length) _ g caps p H hm hrow hf).mono fun r K ⟨e1, f1⟩ => ?_
  subst e1
  cases hi : M.findIdx? p with
  | none =>
    have hall : M.filter (fun m => !p m) = M := by
      rw [List.filter_eq_self]
      intro m hm
      have := List.findIdx?_eq_none_iff.1 hi m hm
      simp [this]
    simp [idx, tab]
    exact ⟨by rw [hall], M, hb.keeps f1 id, rfl, by rw [hall]; simp, Fr.keeps f1⟩
  | some i =>
    obtain ⟨hil, hpi, hbefore⟩ := List.findIdx?_eq_some_iff_getElem.1 hi
    have hne : ¬ (i : Int) = -1 := by omega
    have hw := wrap64 (x := i + 1) (by omega) (by omega)
    simp [idx, tab, hne, hw]
    refine W_loop _ fun I hI => ?_
    have key : ∀ (r q : List Move) (n : Nat) (N : List Move) (ts : TS) (K : Hp), M = q ++ r → n < q.length → N.length = M.length → N.take n = (q.filter fun m => !p m) → N.drop q.length = r → MBlk K b N → Keeps (fun c => c = b) H K → (ts 0 = .sl b 0 M.length ∧ ts 1 = .fn g caps ∧ ts 5 = .int .i64 n ∧ ts 6 = .int .i64 q.length) → I ts K := by
      intro r
      induction r with
      | nil =>
        intro q n N ts K e hn hN ht hd hbN hK hts
        apply hI
        simp at e
        subst e
        obtain ⟨K', c1, c2, c3⟩ := hbN.clear n (M.length - n) (by omega)
        have hlv := hbN.live 0 M.length
        have hlv2 := c2.live 0 M.length
        have hfl : (M.filter fun m => !p m).length = n := by rw [← ht, List.length_take]; omega
        have hnn : n ≤ M.length := by omega
        have e1 : (M.length : Int).toNat - n = M.length - n := by omega
        have hs1 : sliceA (.sl b 0 M.length) (some (.int .i64 n)) none = some (.sl b n (M.length - n)) := by simp [sliceA, hnn]
        have hs2 : sliceA (.sl b 0 M.length) none (some (.int .i64 n)) = some (.sl b 0 n) := by simp [sliceA, hnn]
        simp [hts, tab, hlv, hs1, c1, hlv2, hs2]
        refine ⟨hfl.symm, _, c2, by simp; omega, ?_, hK.trans c3⟩
        rw [hfl, List.append_assoc, List.take_append_of_le_length (by simp; omega), List.take_of_length_le (by simp; omega), ht]
      | cons a r ih =>
        intro q n N ts K e hn hN ht hd hbN hK hts
        apply hI
        have hlt : (q.length : Int) < M.length := by simp [e]; omega
        have hql : q.length < N.length := by simp [hN, e]
        have hget : N[q.length]? = some a := by
          have := congrArg (·[0]?) hd
          simpa using this
        have hrowN : Row 2 K (.sl b 0 M.length) (moves N) := by have := hbN.row 0 M.length (by omega); rw [List.drop_zero, List.take_of_length_le (by omega)] at this; exact this
        obtain ⟨b', o, _, e1, e2, -⟩ := hrowN.get (tab := tab) (e := 51) (ety := tM) rfl hget .i64
        have e2 := e2 rfl
        have fB := Fr.app K [some ⟨2, true, [.int .i64 a.fr, .int .i64 a.to]⟩]
        have hw1 := wrap64 (x := q.length + 1) (by omega) (by omega)
        have hw2 := wrap64 (x := n + 1) (by omega) (by omega)
        have hdn : N.drop (q ++ [a]).length = r := by
          rw [List.length_append, List.length_singleton, ← List.drop_drop, hd]
          rfl
        simp (maxDischargeDepth := 9) [hts, tab, hlt, e1, e2, Move.enc, loadB]
        refine (hf (K ++ [some ⟨2, true, [.int .i64 a.fr, .int .i64 a.to]⟩]) a (hK.trans (Fr.keeps fB))).mono fun y K1 ⟨y1, f1⟩ => ?_
        subst y1
        have hb1 := hbN.keeps (fB.trans f1) id
        cases hp : p a with
        | true =>
          simp [hts, hp, hw1, tab]
          refine ih (q ++ [a]) n N _ K1 (by simp [e]) (by simp; omega) hN (by rw [ht]; simp [hp]) hdn hb1 (hK.trans (Fr.keeps (fB.trans f1))) (by simp [hts])
        | false =>
          obtain ⟨K2, s1, s2, s3, s4⟩ := hb1.set (i := n) (by omega) a
          have hla : loadA tM K1 (.ptr K.length 0) = some (.agg a.enc) := by
            rw [f1.load (by simp [loadB])]
            simp [loadB, Move.enc]
          have hrow1 : Row 2 K1 (.sl b 0 M.length) (moves N) := hrowN.fr (fB.trans f1)
          have hnl : n < N.length := by omega
          obtain ⟨b2, o2, _, e3, _, -⟩ := hrow1.get (tab := tab) (e := 51) (ety := tM) rfl (List.getElem?_eq_getElem hnl) .i64
          have hk : indexAddrA tab (.slice 51) K1 (.sl b 0 M.length) (.int .i64 n) = some (.ptr b (n * 2)) := by
            have h1 : K1[b]? = some (some ⟨2, true, (moves N).flatten⟩) := hb1
            have h2 : (n : Int) < M.length := by omega
            simp [indexAddrA, tab, h1, h2]
          simp (maxDischargeDepth := 9) [hts, hp, hw1, hw2, tab, hla, hk, s1]
          refine ih (q ++ [a]) (n + 1) (N.set n a) _ K2 (by simp [e]) (by simp; omega) (by simpa using hN) ?_ ?_ s2 ((hK.trans (Fr.keeps (fB.trans f1))).trans s3) (by simp [hts])
          · rw [List.filter_append, ← ht]
            simp [hp]
            rw [List.take_succ_eq_append_getElem (by simpa using hnl)]
            simp
            exact List.take_set_of_le (Nat.le_refl n)
          · rw [List.drop_set_of_lt (by simp; omega)]
            exact hdn
    have hq : M = (M.take (i + 1)) ++ M.drop (i + 1) := (List.take_append_drop _ _).symm
    have hql : (M.take (i + 1)).length = i + 1 := by rw [List.length_take]; omega
    refine key (M.drop (i + 1)) (M.take (i + 1)) i M _ K hq (by omega) rfl ?_ (by rw [hql]) (hb.keeps f1 id) (Fr.keeps f1) (by simp [hql])
    rw [List.take_succ_eq_append_getElem hil, List.filter_append]
    have h1 : (M.take i).filter (fun m => !p m) = M.take i := by
      rw [List.filter_eq_self]
      intro m hm
      obtain ⟨j, hj, rfl⟩ := List.getElem_of_mem hm
      rw [List.length_take] at hj
      have := hbefore j (by omega)
      simpa using this
    rw [h1]
    simp [hpi]
set_option maxRecDepth 100000 in
theorem delete_ok (b n i : Nat) (M : List Move) (H : Hp) (hm : M.length ≤ 1048576) (hb : MBlk H b M) (hn : n ≤ M.length) (hi : i < n) : T Try.prog 75 [.sl b 0 n, .int .i64 i, .int .i64 (i + 1)] H (fun r K => ∃ M', r = .sl b 0 (n - 1) ∧ MBlk K b M' ∧ M'.length = M.length ∧ M'.take (n - 1) = (M.take n).eraseIdx i ∧ Keeps (fun c => c = b) H K) := by
  refine T.by tabOk Try.func75 (by kernel_rfl) rfl _ (by simp [Try.f75]) H _ ?_
  have hne : ¬ (i : Int) = i + 1 := by omega
  have hlv := hb.live 0 n
  have h1 : (i : Int) ≤ i + 1 := by omega
  have h2 : (i : Int) + 1 ≤ n := by omega
  have h3 : (0 : Int) ≤ i := by omega
  simp [Try.f75, tab, hne, h1, h2, h3]
  obtain ⟨K1, s1, s2, s3⟩ := hb.shift i (i + 1) (n - (i + 1)) (by omega) (by omega)
  have hin : i + (n - (i + 1)) = n - 1 := by omega
  rw [hin] at s1 s2
  have hs1 : sliceA (.sl b 0 n) none (some (.int .i64 i)) = some (.sl b 0 i) := by
    have : i ≤ n := by omega
    simp [sliceA, this]
  have hs2 : sliceA (.sl b 0 n) (some (.int .i64 (i + 1))) none = some (.sl b (i + 1) (n - (i + 1))) := by
    have : (0 : Int) ≤ (i : Int) + 1 := by omega
    simp [sliceA, this, h2]
  have hlv1 := s2.live 0 n
  refine W_draw mixed (.look 0 (.look 1 (.look 2 (.look 3 (.look 4 (.look 5 (.act 6 [] (.act 7 [] .done .stop) .stop))))))) (by kernel_rfl) ?_
  obtain ⟨M1, hM1⟩ : ∃ M1, M1 = M.take i ++ (M.drop (i + 1)).take (n - (i + 1)) ++ M.drop (n - 1) := ⟨_, rfl⟩
  rw [← hM1] at s2
  have hM1l : M1.length = M.length := by rw [hM1]; simp; omega
  obtain ⟨K2, c1, c2, c3⟩ := s2.clear (n - 1) 1 (by omega)
  have hblk : K1[b]? = some (some ⟨2, true, (moves M1).flatten⟩) := s2
  have hfl := flat_len2 M1
  have hs3 : sliceX 2 K1 (.sl b 0 (n - 1)) (some (.int .i64 ((n - 1 : Nat) : Int))) (some (.int .i64 n)) = some (.sl b (n - 1) 1) := by
    have e1 : ((n - 1 : Nat) : Int) ≤ n := by omega
    have e2 : n * 2 ≤ (moves M1).flatten.length := by omega
    simp only [sliceX, boundA_int, hblk]
    rw [if_pos ⟨by omega, e1, trivial, trivial, by decide, by simpa using e2⟩]
    have e3 : n - (n - 1) = 1 := by omega
    simp [e3]
  have hs3' : sliceA (.sl b 0 (n - 1)) (some (.int .i64 ((n - 1 : Nat) : Int))) (some (.int .i64 n)) = none := by
    have : ¬ n ≤ n - 1 := by omega
    simp [sliceA, this]
  have hlv2 := s2.live 0 (n - 1)
  simp [tab, hlv, hlv1, hs1, hs2, s1, hs3, hs3', hlv2, c1]
  refine ⟨_, c2, by simp; omega, ?_, s3.trans c3⟩
  rw [List.append_assoc, List.take_append_of_le_length (by simp; omega), List.take_take, Nat.min_self, hM1, List.append_assoc]
  rw [List.eraseIdx_eq_take_drop_succ]
  rw [← List.append_assoc, List.take_append_of_le_length (by simp; omega), List.take_of_length_le (by simp; omega)]
  congr 1
  · rw [List.take_take]; congr 1; omega
  · rw [List.drop_take]
theorem from_ok (c : Nat) (m : Move) (X : Nat → Prop) (H : Hp) (hc : loadA tI H (.ptr c 1) = some (.int .i64 m.to)) (hX : ¬ X c) : AsksM X 74 [.ptr c 0] (fun o => o.fr == m.to) H := by
  intro K o hK
  refine T.by tabOk Try.func74 (by kernel_rfl) rfl _ (by simp [Try.f74]) K _ ?_
  have h1 : loadA tI K (.ptr c 1) = some (.int .i64 m.to) := by rw [Keeps.load hK (by rw [hc]; rfl) (fun b hb => by cases hb; exact hX)]; exact hc
  simp [Try.f74, tab, Move.enc, loadB, h1]
  exact Fr.app K _
abbrev tLM : Ty := ⟨.slice 51, 1, 24, [.nil], false⟩
theorem free_ok (c : Nat) (l : List Move) (v : AV) (H : Hp) (hm : l.length ≤ 1048576) (hv : Row 2 H v (moves l)) (hc : loadA tLM H (.ptr c 0) = some v) : AsksM (fun _ => False) 73 [.ptr c 0] (freeIn l) H := by
  intro K m hK
  refine T.by tabOk Try.func73 (by kernel_rfl) rfl _ (by simp [Try.f73]) K _ ?_
  have h1 : loadA tLM K (.ptr c 0) = some v := by rw [Fr.load hK (by rw [hc]; rfl)]; exact hc
  have fB := Fr.app K [some ⟨2, true, [.int .i64 m.fr, .int .i64 m.to]⟩]
  simp [Try.f73, tab, Move.enc, h1]
  refine (containsM_ok l v (fun _ => False) _ _ _ _ hm (hv.fr (Keeps.trans hK fB)) (from_ok K.length m _ _ (by simp [loadB]) id)).mono fun r K1 ⟨e1, e2⟩ => ?_
  subst e1
  simp
  refine ⟨?_, fB.trans e2⟩
  unfold freeIn
  rw [List.any_eq_not_all_not]
  rfl
theorem append_sl {sz by_ b o n : Nat} {K K' : Hp} {x u : AV} (h : appendA sz by_ K (.sl b o n) x = some (u, K')) : u ≠ .nil := by
  simp only [appendA] at h
  repeat' split at h
  all_goals first
    | (cases h; done)
    | (cases h; exact fun e => by cases e)
set_option maxRecDepth 100000 in
theorem layMoves_ok (l : List Move) (v : AV) (H : Hp) (hm : l.length ≤ 1000) (hv : Row 2 H v (moves l)) : T Try.prog 60 [v] H (fun r K => Own 2 K r (moves (lay l)) ∧ Fresh H.length r ∧ Fr H K) := by
  refine T.by tabOk Try.func60 (by kernel_rfl) rfl _ (by simp [Try.f60]) H _ ?_
  have f0 := Fr.app H [some ⟨2, true, []⟩]
  obtain ⟨u1, K1, a1, a2, a3, a4⟩ := (own_zeroM H).joinM (es := []) (hv.fr f0) (by simp; omega)
  simp at a2
  have f1 : Fr H K1 := Fr.then f0 a3 fun b hb => by cases hb; exact Nat.le_refl _
  have hu1 : ∀ b, u1.at b → H.length ≤ b := fun b hb => (a4 b hb).elim (fun h => by cases h; exact Nat.le_refl _) (fun h => by simp at h; omega)
  obtain ⟨b, hub, hB⟩ : ∃ b, u1 = .sl b 0 l.length ∧ MBlk K1 b l := by
    rcases a2.2 with ⟨rfl, h2⟩ | ⟨b, h1, h2⟩
    · exact absurd rfl (append_sl a1)
    · exact ⟨b, by simpa using h1, h2⟩
  simp [Try.f60, tab, buildSliceA, zerosA, a1]
  subst hub
  refine (deleteFunc_ok b l _ [] (fun m => m.fr == m.to) K1 (by omega) hB (del_ok K1 _)).mono fun r K2 ⟨M, e1, hM, hMl, hMt, k2⟩ => ?_
  subst e1
  have hfl : (l.filter fun m => !(m.fr == m.to)) = left0 l := rfl
  rw [hfl] at hMt
  simp [hfl, tab, buildSliceA, zerosA]
  have f2 : Fr H K2 := Fr.then f1 k2 fun c hc => by subst hc; exact hu1 _ rfl
  obtain ⟨K3, hK3⟩ : ∃ K3, K3 = K2 ++ [some ⟨1, true, [.sl b 0 (left0 l).length]⟩, some ⟨2, true, []⟩] := ⟨_, rfl⟩
  have f3 : Fr K2 K3 := hK3 ▸ Fr.app K2 _
  have hbl : b < K2.length := lt_of_get hM
  have hl0 := left0_len l
  have h31 : K3[K2.length]? = some (some ⟨1, true, [.sl b 0 (left0 l).length]⟩) := by rw [hK3]; simp
  have o31 : Own 2 K3 (.sl (K2.length + 1) 0 0) (moves []) := by
    have := own_zeroM (K2 ++ [some ⟨1, true, [.sl b 0 (left0 l).length]⟩])
    rw [hK3]
    simpa using this
  rw [← hK3]
  refine W_loop _ fun I2 hI2 => ?_
  have key2 : ∀ (n : Nat) (left out : List Move) (M : List Move) (ts : TS) (K : Hp) (w : AV), left.length ≤ n → left.length + out.length ≤ 1000 → emit n left out = laid l → K[K2.length]? = some (some ⟨1, true, [.sl b 0 left.length]⟩) → MBlk K b M → left.length ≤ M.length → M.length = l.length → M.take left.length = left → Own 2 K w (moves out) → (∀ c, w.at c → K2.length < c) → Fr H K → (ts 3 = .ptr K2.length 0 ∧ ts 4 = w) → I2 ts K := by
    have done : ∀ (left out : List Move) (M : List Move) (ts : TS) (K : Hp) (w : AV), left.length + out.length ≤ 1000 → freeAt left = none → (left, out) = laid l → K[K2.length]? = some (some ⟨1, true, [.sl b 0 left.length]⟩) → MBlk K b M → left.length ≤ M.length → M.take left.length = left → Own 2 K w (moves out) → (∀ c, w.at c → K2.length < c) → Fr H K → (ts 3 = .ptr K2.length 0 ∧ ts 4 = w) → I2 ts K := by
      intro left out M ts K w hll hnone hlaid hbox hMb hle htk ho2 hf2 hK hts
      apply hI2
      have hrow : Row 2 K (.sl b 0 left.length) (moves left) := by have := hMb.row 0 left.length (by omega); rwa [List.drop_zero, htk] at this
      have hld : loadA tLM K (.ptr K2.length 0) = some (.sl b 0 left.length) := load_at hbox rfl rfl rfl
      simp [hts, tab, hld]
      refine (indexM_ok left (.sl b 0 left.length) _ _ _ (freeIn left) K (by omega) hrow (free_ok K2.length left _ K (by omega) hrow hld)).mono fun x K4 ⟨e1, f4⟩ => ?_
      subst e1
      have hfn : left.findIdx? (freeIn left) = none := hnone
      have hld4 : loadA tLM K4 (.ptr K2.length 0) = some (.sl b 0 left.length) := by rw [f4.load (by rw [hld]; rfl)]; exact hld
      simp [hts, tab, hfn, idx, hld4]
      refine (ringsIn_ok left _ K4 (by omega) (hrow.fr f4)).mono fun rr K1 ⟨rus, r1, r2, r3⟩ => ?_
      have hrc := r1.look.count 29
      have hrl : (rings left).length ≤ 10 := ringsTo_len left 10
      have hri := rings_inner left
      have hrp := rings_pos left
      simp [hts, tab, hrc]
      refine W_loop _ fun I3 hI3 => ?_
      have key3 : ∀ (r p : List (List Int)) (O : List Move) (ts : TS) (K2 : Hp) (w : AV), rings left = p ++ r → O = out ++ p.flatMap ringMoves → Own 2 K2 w (moves O) → (∀ b, w.at b → ¬ (rr.at b ∨ ∃ x ∈ rus, x.at b)) → Fresh H.length w → LRow K2 rr (rings left) rus → (∀ b, (rr.at b ∨ ∃ x ∈ rus, x.at b) → b < K2.length) → Fr H K2 → (ts 4 = w ∧ ts 34 = rr ∧ ts 35 = .int .i64 (rings left).length ∧ ts 36 = .int .i64 p.length) → I3 ts K2 := by
        intro r
        induction r with
        | nil =>
          intro p O ts K2 w e hO ho3 hne3 hf3 hrr hlt3 hK2 hts
          apply hI3
          simp at e
          have hlay : O = lay l := by rw [hO, ← e, lay, ← hlaid]
          simp [hts, tab, e]
          rw [← hlay]
          exact ⟨ho3, hf3, hK2⟩
        | cons R r ih3 =>
          intro p O ts K2 w e hO ho3 hne3 hf3 hrr hlt3 hK2 hts
          apply hI3
          have hlt : (p.length : Int) < (rings left).length := by rw [e]; simp; omega
          obtain ⟨b, q, uR, huR, e1, e2, e3⟩ := hrr.get (e := 29) rfl (i := p.length) (t := R) (by rw [e]; simp)
          have hR11 := hri R (by rw [e]; simp)
          have hR0 := hrp R (by rw [e]; simp)
          have hOl : O.length ≤ 2000 := by
            have h1 := flat_len p fun r hr => hri r (by rw [e]; simp [hr])
            have h2 : p.length ≤ 10 := by have := congrArg List.length e; simp at this; omega
            rw [hO, List.length_append]
            omega
          obtain ⟨p0, R', rfl⟩ : ∃ p0 R', R = p0 :: R' := by
            cases R with
            | nil => simp at hR0
            | cons a b => exact ⟨a, b, rfl⟩
          have hlR := e3.len 3
          have hlR : lenA (.slice 3) uR = some (.int .i64 (R'.length + 1 : Nat)) := by simpa using hlR
          have hlR' : lenA (.slice 3) uR = some (.int .i64 ((R'.length : Int) + 1)) := by rw [hlR]; simp
          obtain ⟨b1, q1, _, x1, x2⟩ := Row.get1 e3 (tab := tab) (e := 3) (ety := tI) rfl rfl rfl (i := 0) (a := p0) rfl .i64
          simp at x1
          obtain ⟨w', K3, a1, a2, a3, a4⟩ := ho3.pushM ⟨p0, 10⟩ (by omega)
          have huw : ∀ b, uR.at b → ¬ w.at b := fun b h1 h2 => hne3 b h2 (.inr ⟨uR, List.mem_of_getElem? huR, h1⟩)
          have e3' := e3.keeps a3 huw
          obtain ⟨b2, q2, _, x3, x4⟩ := Row.get1 e3' (tab := tab) (e := 3) (ety := tI) rfl rfl rfl (i := 0) (a := p0) rfl .i64
          simp at x3
          have hw1 := wrap64 (x := (R'.length : Int)) (by simp at hR11; omega) (by simp at hR11; omega)
          have hw2 := wrap64 (x := p.length + 1) (by omega) (by omega)
          simp (maxDischargeDepth := 9) [hts, tab, hlt, e1, e2, x1, x2, fillA, over, buildSliceA, zerosA, a1, x3, x4, hlR', hw1]
          refine W_loop _ fun I4 hI4 => ?_
          have key4 : ∀ (i : Nat) (to : Int) (O4 : List Move) (ts : TS) (K4 : Hp) (w4 : AV), i ≤ R'.length → O4 ++ chainOf to (R'.take i).reverse = O ++ ringMoves (p0 :: R') → Own 2 K4 w4 (moves O4) → (∀ b, w4.at b → ¬ (rr.at b ∨ ∃ x ∈ rus, x.at b)) → Fresh H.length w4 → LRow K4 rr (rings left) rus → (∀ b, (rr.at b ∨ ∃ x ∈ rus, x.at b) → b < K4.length) → Fr H K4 → (ts 4 = w4 ∧ ts 7 = uR ∧ ts 9 = .int .i64 to ∧ ts 10 = .int .i64 i ∧ ts 34 = rr ∧ ts 35 = .int .i64 (rings left).length ∧ ts 36 = .int .i64 p.length) → I4 ts K4 := by
            intro i
            induction i with
            | zero =>
              intro to O4 ts K4 w4 hi hO4 ho4 hne4 hf4 hrr4 hlt4 hK4 hts
              apply hI4
              have hO4l : O4.length ≤ 3000 := by
                have h1 := congrArg List.length hO4
                have h2 := ringMoves_len (p0 :: R')
                simp at h1 h2 hR11
                omega
              obtain ⟨w5, K5, d1, d2, d3, d4⟩ := ho4.pushM ⟨10, to⟩ (by omega)
              simp (maxDischargeDepth := 9) [hts, tab, fillA, over, buildSliceA, zerosA, d1, hw2]
              have hne5 : ∀ b, w5.at b → ¬ (rr.at b ∨ ∃ x ∈ rus, x.at b) := fun b hb => (d4 b hb).elim (hne4 b) fun h hx => by have := hlt4 b hx; omega
              refine ih3 (p ++ [p0 :: R']) _ _ K5 w5 (by simp [e]) ?_ d2 hne5 (fun b hb => (d4 b hb).elim (hf4 b) fun h => Nat.le_trans hK4.1 h) ?_ (fun b hb => Nat.lt_of_lt_of_le (hlt4 b hb) d3.1) (Fr.then hK4 d3 hf4) (by simp [hts])
              · simp [chainOf] at hO4
                rw [hO4, hO]
                simp
              · exact ⟨hrr4.row.keeps d3 fun b h1 h2 => hne4 b h2 (.inl h1), hrr4.len, fun j t x hj hx => (hrr4.inner j t x hj hx).keeps d3 fun b h1 h2 => hne4 b h2 (.inr ⟨x, List.mem_of_getElem? hx, h1⟩)⟩
            | succ i ih4 =>
              intro to O4 ts K4 w4 hi hO4 ho4 hne4 hf4 hrr4 hlt4 hK4 hts
              apply hI4
              have hpos : (0 : Int) < (i : Int) + 1 := by omega
              have hget : (p0 :: R')[i + 1]? = some R'[i] := by simp
              have eR := hrr4.inner p.length (p0 :: R') uR (by rw [e]; simp) huR
              obtain ⟨b5, q5, _, y1, y2⟩ := Row.get1 eR (tab := tab) (e := 3) (ety := tI) rfl rfl rfl hget .i64
              have hO4l : O4.length ≤ 3000 := by
                have h1 := congrArg List.length hO4
                have h2 := ringMoves_len (p0 :: R')
                simp [chainOf_len] at h1 h2 hR11
                omega
              obtain ⟨w5, K5, d1, d2, d3, d4⟩ := ho4.pushM ⟨R'[i], to⟩ (by omega)
              have eR5 := eR.keeps d3 fun b h1 h2 => hne4 b h2 (.inr ⟨uR, List.mem_of_getElem? huR, h1⟩)
              obtain ⟨b6, q6, _, y3, y4⟩ := Row.get1 eR5 (tab := tab) (e := 3) (ety := tI) rfl rfl rfl hget .i64
              have hw3 := wrap64 (x := (i : Int)) (by simp at hR11; omega) (by simp at hR11; omega)
              simp at y1 y3
              simp (maxDischargeDepth := 9) [hts, tab, hpos, y1, y2, fillA, over, buildSliceA, zerosA, d1, y3, y4, hw3]
              have hne5 : ∀ b, w5.at b → ¬ (rr.at b ∨ ∃ x ∈ rus, x.at b) := fun b hb => (d4 b hb).elim (hne4 b) fun h hx => by have := hlt4 b hx; omega
              refine ih4 R'[i] (O4 ++ [⟨R'[i], to⟩]) _ K5 w5 (by omega) ?_ d2 hne5 (fun b hb => (d4 b hb).elim (hf4 b) fun h => Nat.le_trans hK4.1 h) ?_ (fun b hb => Nat.lt_of_lt_of_le (hlt4 b hb) d3.1) (Fr.then hK4 d3 hf4) (by simp [hts])
              · rw [← hO4]
                have e6 : R'.take (i + 1) = R'.take i ++ [R'[i]] := (List.take_append_getElem (by omega)).symm
                rw [e6, List.reverse_append]
                simp [chainOf]
              · exact ⟨hrr4.row.keeps d3 fun b h1 h2 => hne4 b h2 (.inl h1), hrr4.len, fun j t x hj hx => (hrr4.inner j t x hj hx).keeps d3 fun b h1 h2 => hne4 b h2 (.inr ⟨x, List.mem_of_getElem? hx, h1⟩)⟩
          have hne3' : ∀ b, w'.at b → ¬ (rr.at b ∨ ∃ x ∈ rus, x.at b) := fun b hb => (a4 b hb).elim (hne3 b) fun h hx => by have := hlt3 b hx; omega
          refine key4 R'.length p0 (O ++ [⟨p0, 10⟩]) _ K3 w' (Nat.le_refl _) (by rw [List.take_of_length_le (Nat.le_refl _)]; simp [ringMoves]) a2 hne3' (fun b hb => (a4 b hb).elim (hf3 b) fun h => Nat.le_trans hK2.1 h) ?_ (fun b hb => Nat.lt_of_lt_of_le (hlt3 b hb) a3.1) (Fr.then hK2 a3 hf3) (by simp [hts])
          exact ⟨hrr.row.keeps a3 fun b h1 h2 => hne3 b h2 (.inl h1), hrr.len, fun j t x hj hx => (hrr.inner j t x hj hx).keeps a3 fun b h1 h2 => hne3 b h2 (.inr ⟨x, List.mem_of_getElem? hx, h1⟩)⟩
      have hfw : Fresh H.length w := fun c hc => by have := hf2 c hc; have := f2.1; omega
      exact key3 (rings left) [] out _ K1 w rfl (by simp) (ho2.fr (f4.trans r3)) (fun c h1 h2 => by have := ho2.lt c h1; have := r2 c h2; have := f4.1; omega) hfw r1.look r1.lt ((hK.trans f4).trans r3) (by simp [hts])
    intro n
    induction n with
    | zero =>
      intro left out M ts K w hn hll hem hbox hMb hle hMl htk ho2 hf2 hK hts
      obtain rfl : left = [] := List.eq_nil_of_length_eq_zero (by omega)
      exact done [] out M ts K w hll rfl hem hbox hMb hle htk ho2 hf2 hK hts
    | succ n ih2 =>
      intro left out M ts K w hn hll hem hbox hMb hle hMl htk ho2 hf2 hK hts
      cases hfa : freeAt left with
      | none => exact done left out M ts K w hll hfa (by rw [← hem, emit, hfa]) hbox hMb hle htk ho2 hf2 hK hts
      | some i =>
        have hil := freeAt_lt hfa
        apply hI2
        have hrow : Row 2 K (.sl b 0 left.length) (moves left) := by have := hMb.row 0 left.length (by omega); rwa [List.drop_zero, htk] at this
        have hld : loadA tLM K (.ptr K2.length 0) = some (.sl b 0 left.length) := load_at hbox rfl rfl rfl
        simp [hts, tab, hld]
        refine (indexM_ok left (.sl b 0 left.length) _ _ _ (freeIn left) K (by omega) hrow (free_ok K2.length left _ K (by omega) hrow hld)).mono fun x K4 ⟨e1, f4⟩ => ?_
        subst e1
        have hfn : left.findIdx? (freeIn left) = some i := hfa
        have hld4 : loadA tLM K4 (.ptr K2.length 0) = some (.sl b 0 left.length) := by rw [f4.load (by rw [hld]; rfl)]; exact hld
        have hi0 : ¬ (i : Int) < 0 := by omega
        have hget : left[i]? = some left[i] := List.getElem?_eq_getElem hil
        obtain ⟨b1, q1, _, x1, x2, -⟩ := (hrow.fr f4).get (tab := tab) (e := 51) (ety := tM) rfl hget .i64
        have x2 := x2 rfl
        have ho4 := ho2.fr f4
        obtain ⟨w', K5, a1, a2, a3, a4⟩ := ho4.pushM left[i] (by omega)
        have hbox5 : K5[K2.length]? = some (some ⟨1, true, [.sl b 0 left.length]⟩) := a3.2 _ _ (f4.2 _ _ hbox id) fun h => by have := hf2 _ h; omega
        have hld5 : loadA tLM K5 (.ptr K2.length 0) = some (.sl b 0 left.length) := load_at hbox5 rfl rfl rfl
        have hM5 := (hMb.keeps f4 id).keeps a3 fun h => by have := hf2 _ h; omega
        have hw := wrap64 (x := i + 1) (by omega) (by omega)
        have hf5 : ∀ c, w'.at c → K2.length < c := fun c hc => (a4 c hc).elim (hf2 c) fun h => by have := lt_of_get (f4.2 _ _ hbox id); omega
        simp (maxDischargeDepth := 9) [hts, tab, hfn, idx, hi0, hld4, x1, x2, Move.enc, buildSliceA, zerosA, fillA, over, a1, hld5, hw]
        refine (delete_ok b left.length i M K5 (by omega) hM5 hle hil).mono fun x K6 ⟨M', e1, hM', hMl', hMt', k6⟩ => ?_
        subst e1
        have hbox6 : K6[K2.length]? = some (some ⟨1, true, [.sl b 0 left.length]⟩) := k6.2 _ _ hbox5 fun h => by omega
        obtain ⟨K7, s1, s2, s3, s4⟩ := store_at hbox6 rfl (ty := tLM) (o := 0) (v := .sl b 0 (left.length - 1)) rfl rfl (by simp)
        simp [over] at s2
        have hel : (left.eraseIdx i).length = left.length - 1 := List.length_eraseIdx_of_lt hil
        simp [hts, tab, s1]
        refine ih2 (left.eraseIdx i) (out ++ [left[i]]) M' _ K7 w' (by omega) (by simp; omega) ?_ (by rw [hel]; exact s2) (hM'.keeps s3 fun h => by omega) (by omega) (by omega) (by rw [hel, hMt', htk]) (((a2.keeps k6 fun c hc e => by have := hf5 c hc; omega)).keeps s3 fun c hc e => by have := hf5 c hc; omega) hf5 ?_ (by simp [hts])
        · rw [← hem, emit, hfa]
          simp only [hget]
          rfl
        · have hFr5 : Fr H K5 := Fr.then (hK.trans f4) a3 fun c hc => by have := hf2 c hc; have := f2.1; omega
          exact Fr.then (Fr.then hFr5 k6 fun c hc => by subst hc; exact hu1 _ rfl) s3 fun c hc => by have := f2.1; omega
  exact key2 (left0 l).length (left0 l) [] M _ K3 _ (Nat.le_refl _) (by simp; omega) rfl h31 (hM.keeps f3 id) (by omega) hMl hMt o31 (fun c hc => by cases hc; omega) (f2.trans f3) (by simp)
end Go.Proofs.Ythihphgfblonoaa.Am
