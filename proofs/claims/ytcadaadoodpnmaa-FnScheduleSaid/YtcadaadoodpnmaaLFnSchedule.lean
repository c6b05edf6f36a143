/- The law of FnSchedule. No condition. -/
import Derived.Test.YtcadaadoodpnmaaLTimes
import Derived.Test.YtcadaadoodpnmaaLDrawSched
import Derived.Test.YtcadaadoodpnmaaLGrahamList
import Derived.Test.YtcadaadoodpnmaaLSchedImpl
namespace Go.Proofs.Ytcadaadoodpnmaa.Am
open Go Go.RowKit
set_option linter.unusedSimpArgs false
set_option linter.unusedVariables false

theorem bytes_open (H : Hp) (x : AV) (h : SSl 1 1 (SInt .u8) H [x]) : ∃ bs, Row 1 H x (bytesA bs) ∧ (∀ y ∈ bs, 0 ≤ y ∧ y ≤ 255) ∧ bs.length ≤ 140737488355328 := by
  obtain ⟨v, es, e1, h1, h2, h3, h4⟩ := h
  cases e1
  obtain ⟨xs, rfl, hxs⟩ := map_of_all (enc := fun x : Int => [AV.int .u8 x]) (q := fun y => 0 ≤ y ∧ y ≤ 255) (es := es) (fun e he => by
    obtain ⟨n, rfl, hn⟩ := h4 e he
    refine ⟨n, rfl, ?_⟩
    simpa [Lit.wf, IntKind.min, IntKind.max, IntKind.signed, IntKind.bits] using hn)
  refine ⟨xs, h1, hxs, ?_⟩
  simp at h3
  omega
theorem Tell.is {a b : Prop} {H : Hp} {r : AV} {K : Hp} (h : Tell a b H r K) : ∃ s t, r = .tup [.bool s, .bool t] ∧ (s = true ↔ a) ∧ (t = true ↔ b) ∧ Fr H K := by
  obtain ⟨⟨s, t, h1, h2, h3⟩, h4⟩ := h
  exact ⟨s, t, h1, h2, h3, h4⟩
theorem bool_eq {a b : Bool} {p : Prop} (h1 : a = true ↔ p) (h2 : b = true ↔ p) : a = b := by
  cases a <;> cases b <;> simp_all
/-! ### what is shown of schedules -/
theorem Lst.sans {l : List Task} {n : Int} {q : List Int × Int} (h : Lst l n q) (hg : GoodT l) (hn : 1 ≤ n ∧ n ≤ 4) (hq : q.2 ≤ 1000) : SAns l n q.1 := by
  have hl := h.sch.len
  refine ⟨⟨hg, hn.1, hn.2, hl, fun x hx => ?_⟩, fun p hp hbad => ?_⟩
  · obtain ⟨i, hi⟩ := List.mem_iff_getElem?.1 hx
    have hil := (List.getElem?_eq_some_iff.1 hi).1
    have h1 := h.sch.lo i (by omega)
    have h2 := h.up i (by omega)
    have h3 := lng_pos hg (by omega : i < l.length)
    rw [stt_of hi] at h1 h2
    omega
  · obtain ⟨i, hi, h1, h2, h3⟩ := zip_mem hl hp
    rcases hbad with ⟨a, ha, q', hq', hlt⟩ | hb
    · rw [h3] at ha
      have hal := aft_lt hg ha
      obtain ⟨u, u1, u2, u3, u4⟩ := zip_get hl (by omega : a.toNat < l.length)
      rw [u4] at hq'
      cases hq'
      have := h.sch.pre i hi a ha
      simp only at hlt
      omega
    · have := h.sch.few p.2 (by rw [h2]; exact h.sch.lo i hi)
      omega
theorem tdiv_le {a n b : Int} (hn : 1 ≤ n) (ha : 0 ≤ a) (h : a ≤ n * b) : (a + n - 1).tdiv n ≤ b := by
  rw [Int.tdiv_eq_ediv_of_nonneg (by omega)]
  have : (a + n - 1) / n < b + 1 := by
    rw [Int.ediv_lt_iff_lt_mul (by omega)]
    rw [Int.add_mul, Int.mul_comm b n]
    omega
  omega
theorem tdiv_ge {a n : Int} (hn : 1 ≤ n) (ha : 0 ≤ a) : a ≤ n * (a + n - 1).tdiv n := by
  rw [Int.tdiv_eq_ediv_of_nonneg (by omega)]
  have h1 := Int.mul_ediv_add_emod (a + n - 1) n
  have h2 := Int.emod_lt_of_pos (a + n - 1) (by omega : 0 < n)
  omega
theorem Sch.least {l : List Task} {n : Int} {s : List Int} (h : Sch l n s) (hg : GoodT l) (hn : 1 ≤ n) {T : Nat} (hT : ∀ i, i < l.length → stt s i + lng l i ≤ T) : leastOf l n ≤ T := by
  have h1 := h.chain hg (by omega : (0 : Int) ≤ T) hT
  have h2 := h.work hg (by omega) hT
  have hw := (work_le hg.longs).1
  have h3 := tdiv_le hn hw h2
  unfold leastOf
  omega
theorem Lst.top_le {l : List Task} {n : Int} {q : List Int × Int} (h : Lst l n q) (hg : GoodT l) (hn : 1 ≤ n ∧ n ≤ 4) : 0 ≤ q.2 ∧ q.2 ≤ 1000 := by
  have hgr := h.graham hg hn.1
  have hc := chain_bound hg
  have hw := work_le hg.longs
  have hl := hg.1
  have h0 : 0 ≤ q.2 := by
    rcases h.top with e | ⟨i, hi, e⟩
    · omega
    · have := h.sch.lo i hi
      have := lng_pos hg hi
      omega
  refine ⟨h0, ?_⟩
  have h1 : (n - 1) * Am.chain l ≤ 3 * 240 := Int.mul_le_mul (by omega) hc.2 hc.1 (by omega)
  have h2 : 1 * q.2 ≤ n * q.2 := Int.mul_le_mul_of_nonneg_right hn.1 h0
  omega
/-- What the law asks of a list schedule. -/
theorem Lst.asked {l : List Task} {n : Int} {q : List Int × Int} (h : Lst l n q) (hg : GoodT l) (hn : 1 ≤ n ∧ n ≤ 4) : leastOf l n ≤ q.2 ∧ n * q.2 ≤ Am.work l + (n - 1) * Am.chain l ∧ n * q.2 ≤ (2 * n - 1) * leastOf l n := by
  have h0 := h.top_le hg hn
  have hgr := h.graham hg hn.1
  have hw := work_le hg.longs
  refine ⟨?_, hgr, ?_⟩
  · have := h.sch.least hg hn.1 (T := q.2.toNat) fun i hi => by have := h.up i hi; omega
    omega
  · have h1 := tdiv_ge hn.1 hw.1
    have h2 : (work l + n - 1).tdiv n ≤ leastOf l n := by unfold leastOf; omega
    have h3 : Am.chain l ≤ leastOf l n := by unfold leastOf; omega
    have h4 : n * (work l + n - 1).tdiv n ≤ n * leastOf l n := Int.mul_le_mul_of_nonneg_left h2 (by omega)
    have h5 : (n - 1) * Am.chain l ≤ (n - 1) * leastOf l n := Int.mul_le_mul_of_nonneg_left h3 (by omega)
    have h6 : (2 * n - 1) * leastOf l n = n * leastOf l n + (n - 1) * leastOf l n := by rw [← Int.add_mul]; congr 1; omega
    omega
/-- When all is over. -/
def lastOf (l : List Task) (s : List Int) (k : Nat) (m : Int) : Prop := 0 ≤ m ∧ m ≤ 1020 ∧ ∀ i, i < k → stt s i + lng l i ≤ m
set_option maxRecDepth 100000 in
theorem fnSchedule_law (v w : AV) (bs cs : List Int) (H : Hp) (hv : Row 1 H v (bytesA bs)) (hb : ∀ y ∈ bs, 0 ≤ y ∧ y ≤ 255) (hbl : bs.length ≤ 140737488355328) (hw : Row 1 H w (bytesA cs)) (hc : ∀ y ∈ cs, 0 ≤ y ∧ y ≤ 255) (hcl : cs.length ≤ 140737488355328) : T Try.prog 11 [v, w] H (fun r K => r = .bool true) := by
  refine T.by tabOk Try.func11 (by kernel_rfl) rfl _ (by simp [Try.f11]) H _ ?_
  have hlv := hv.len 5
  have hlw := hw.len 5
  have hlv : lenA (.slice 5) v = some (.int .i64 bs.length) := by simpa [bytesA] using hlv
  have hlw : lenA (.slice 5) w = some (.int .i64 cs.length) := by simpa [bytesA] using hlw
  have hw0 := wrap64 (x := bs.length + cs.length) (by omega) (by omega)
  by_cases hbig : 1048576 < (bs.length : Int) + cs.length
  · simp [Try.f11, tab, hlv, hlw, hw0, hbig]
  have hBv : Bytes H v := ⟨bs, hv, hb, by omega⟩
  have hBw : Bytes H w := ⟨cs, hw, hc, by omega⟩
  simp [Try.f11, tab, hlv, hlw, hw0, hbig]
  refine (drawList_ok v H hBv).mono fun z K1 ⟨⟨x, n, y, l, o, e1, hT, ho, hol⟩, f1⟩ => ?_
  subst e1
  obtain ⟨us, hx⟩ := hT.row
  have hm : l.length ≤ 1048576 := by have := hT.2.1; omega
  have hmm : ∀ t ∈ l, t.after.length ≤ 1048576 := fun t ht => by have := hT.2.2 t ht; omega
  obtain ⟨q, hq⟩ : ∃ q, LOk l n o → Sim l n o 0 (List.replicate l.length (-1), 0) q := by
    by_cases h : LOk l n o
    · obtain ⟨q, hq⟩ := sim_all h.1 h.2.1.1 h.2.2
      exact ⟨q, fun _ => hq⟩
    · exact ⟨([], 0), fun h' => absurd h' h⟩
  have hsl : (lres l n o q).1.length ≤ 13 := by
    unfold lres
    split
    · rename_i h
      have := (hq h).length
      have := hT.2.1
      simp at *
      omega
    · simp
  simp
  refine (implList_ok l n o q us x y K1 hm hmm (by omega) hq hx ho).mono fun z K2 hans => ?_
  obtain ⟨r1, e1, o1, _, f2⟩ := hans.get
  subst e1
  simp
  refine (specList_ok l n o q us x y K2 hm hmm (by omega) hq (hx.fr f2) (ho.fr f2)).mono fun z K3 hans => ?_
  obtain ⟨r2, e1, o2, _, f3⟩ := hans.get
  subst e1
  simp [tab]
  refine (sameInts_ok _ _ r1 r2 K3 (by omega) (o1.fr f3).row o2.row).mono fun z K' ⟨e1, e2⟩ => ?_
  subst e1 e2
  have hx3 := hx.fr (f2.trans f3)
  have g1 := o1.fr f3
  have fH : Fr H K' := (f1.trans f2).trans f3
  simp [-post_sq, tab]
  simp only [post_sq, W_seq]
  refine W_cut (fun ts K => K = K' ∧ ts 1 = w ∧ ts 5 = x ∧ ts 6 = .int .i64 n ∧ ts 8 = r1 ∧ ts 9 = .int .i64 (lres l n o q).2.1 ∧ ts 10 = .bool (lres l n o q).2.2) (by simp) ?_
  rintro ts K ⟨rfl, t1, t5, t6, t8, t9, t10⟩
  simp only [post_sq, W_seq]
  refine W_cut (fun ts' K' => K' = K ∧ ts' 1 = w ∧ ts' 5 = x ∧ ts' 6 = .int .i64 n ∧ ts' 8 = r1 ∧ ts' 9 = .int .i64 (lres l n o q).2.1 ∧ ts' 10 = .bool (lres l n o q).2.2 ∧ ts' 75 = .bool (lres l n o q).2.2) (by simp [t1, t5, t6, t8, t9, t10]) ?_
  rintro ts K' ⟨rfl, t1, t5, t6, t8, t9, t10, t75⟩
  simp only [post_sq, W_seq]
  refine W_cut (fun ts K => ts 1 = w ∧ Fr H K) ?_ ?_
  · by_cases hok : LOk l n o
    case neg =>
      have e : lres l n o q = ([], 0, false) := if_neg hok
      simp only [e] at t75
      simp [t1, t75]
      exact fH
    have e : lres l n o q = (q.1, q.2, true) := if_pos hok
    simp only [e] at t75 t9 t10 g1
    obtain ⟨hg, hn, hord⟩ := hok
    have hL := (hq ⟨hg, hn, hord⟩).lst hg hn.1 hord
    have htop := hL.top_le hg hn
    have hsa := hL.sans hg hn htop.2
    have hask := hL.asked hg hn
    have hcb := chain_bound hg
    have hwl := work_le hg.longs
    have hl12 := hg.1
    simp [t1, t5, t6, t8, t9, t10, t75]
    refine (implSched_ok l n q.1 us x r1 K' hm hmm (by simp [e] at hsl; omega) hx3 g1.row).mono fun z K1 h => ?_
    obtain ⟨s1, s2, e1, e2, e3, f4⟩ := h.is
    subst e1
    obtain rfl := e2.2 hsa
    obtain rfl := e3.2 hsa.1
    simp [t1, t5, t6, t8, t9, t10]
    refine (implChain_ok l us x K1 hm hmm (hx3.fr f4)).mono fun z K2 ⟨e1, f5⟩ => ?_
    subst e1
    simp [t1, t5, t6, t8, t9, t10]
    refine (implWork_ok l us x K2 hm hmm (hx3.fr (f4.trans f5))).mono fun z K3 ⟨e1, f6⟩ => ?_
    subst e1
    simp [t1, t5, t6, t8, t9, t10]
    refine (implLeast_ok l n us x K3 hm hmm (hx3.fr ((f4.trans f5).trans f6))).mono fun z K4 ⟨e1, f7⟩ => ?_
    subst e1
    have hcr : cres l = (chain l, true) := if_pos hg
    have hwr : wres l = (work l, true) := if_pos hg
    have hmr : mres l n = (leastOf l n, true) := if_pos ⟨hg, hn⟩
    have b1 : 0 ≤ n * q.2 := Int.mul_nonneg (by omega) htop.1
    have b2 : n * q.2 ≤ 4 * 1000 := Int.mul_le_mul hn.2 htop.2 htop.1 (by omega)
    have b3 : 0 ≤ (n - 1) * chain l := Int.mul_nonneg (by omega) hcb.1
    have b4 : (n - 1) * chain l ≤ 3 * 240 := Int.mul_le_mul (by omega) hcb.2 hcb.1 (by omega)
    have b0 : 0 ≤ leastOf l n := by unfold leastOf; omega
    have b5 : 0 ≤ (2 * n - 1) * leastOf l n := Int.mul_nonneg (by omega) b0
    have b6 : (2 * n - 1) * leastOf l n ≤ 7 * 1000 := Int.mul_le_mul (by omega) (by omega) b0 (by omega)
    have w1 := wrap64 (x := n * q.2) (by omega) (by omega)
    have w2 := wrap64 (x := n - 1) (by omega) (by omega)
    have w3 := wrap64 (x := (n - 1) * chain l) (by omega) (by omega)
    have w4 := wrap64 (x := work l + (n - 1) * chain l) (by omega) (by omega)
    have w5 := wrap64 (x := 2 * n) (by omega) (by omega)
    have w6 := wrap64 (x := 2 * n - 1) (by omega) (by omega)
    have w7 := wrap64 (x := (2 * n - 1) * leastOf l n) (by omega) (by omega)
    have n1 : ¬ q.2 < leastOf l n := by omega
    have n2 : ¬ work l + (n - 1) * chain l < n * q.2 := by omega
    have n3 : ¬ (2 * n - 1) * leastOf l n < n * q.2 := by omega
    simp [t1, t5, t6, t8, t9, t10, tab, hcr, hwr, hmr, w1, w2, w3, w4, w5, w6, w7, n1, n2, n3]
    exact (((fH.trans f4).trans f5).trans f6).trans f7
  clear t1 t5 t6 t8 t9 t10 t75 hx3 g1 hx ho hT hans o1 o2
  rintro ts K ⟨t1, hK⟩
  simp [t1]
  refine (drawSched_ok w K (hBw.fr hK)).mono fun z K1 ⟨⟨x, n, y, l, s, e1, hT, hs, hsl⟩, f1⟩ => ?_
  subst e1
  obtain ⟨us, hx⟩ := hT.row
  have hm : l.length ≤ 1048576 := by have := hT.2.1; omega
  have hmm : ∀ t ∈ l, t.after.length ≤ 1048576 := fun t ht => by have := hT.2.2 t ht; omega
  simp
  refine (implSched_ok l n s us x y K1 hm hmm (by omega) hx hs).mono fun z K2 h => ?_
  obtain ⟨b1, b2, e1, e2, e3, f2⟩ := h.is
  subst e1
  have hx2 := hx.fr f2
  have hs2 := hs.fr f2
  simp
  refine (specSched_ok l n s us x y K2 hm hmm (by omega) hx2 hs2).mono fun z K3 h => ?_
  obtain ⟨c1, c2, e1, e4, e5, f3⟩ := h.is
  subst e1
  obtain rfl := bool_eq e2 e4
  obtain rfl := bool_eq e3 e5
  have hx3 := hx2.fr f3
  have hs3 := hs2.fr f3
  by_cases hans : SAns l n s
  case neg =>
    have : b1 = false := by
      cases b1 with
      | false => rfl
      | true => exact absurd (e2.1 rfl) hans
    subst this
    cases b2 <;> simp [tab]
  obtain rfl := e2.2 hans
  obtain rfl := e3.2 hans.1
  have hsch := hans.sch
  obtain ⟨⟨hg, hn0, hn1, hl, hsr⟩, _⟩ := hans
  have hl12 := hg.1
  simp [tab]
  refine (implLeast_ok l n us x K3 hm hmm hx3).mono fun z K4 ⟨e1, f4⟩ => ?_
  subst e1
  have hmr : mres l n = (leastOf l n, true) := if_pos ⟨hg, hn0, hn1⟩
  have hx4 := hx3.fr f4
  have hs4 := hs3.fr f4
  have hlen := hx4.count 49
  simp [tab, hlen, hmr]
  refine W_loop _ fun I hI => ?_
  have key : ∀ (d k : Nat) (m : Int) (ts : TS), k + d = l.length → lastOf l s k m → (ts 22 = x ∧ ts 24 = y ∧ ts 29 = .int .i64 (leastOf l n) ∧ ts 30 = .bool true ∧ ts 31 = .int .i64 m ∧ ts 184 = .int .i64 l.length ∧ ts 185 = .int .i64 k) → I ts K4 := by
    intro d
    induction d with
    | zero =>
      intro k m ts e hm hts
      apply hI
      obtain rfl : k = l.length := by omega
      have hle := hsch.least hg hn0 (T := m.toNat) fun i hi => by have := hm.2.2 i hi; have := hm.1; omega
      have hle2 : leastOf l n ≤ m := by have := hm.1; omega
      simp [hts, tab, hle2]
    | succ d ih =>
      intro k m ts e hm hts
      apply hI
      have hlt : (k : Int) < l.length := by omega
      have hkl : k < l.length := by omega
      obtain ⟨t, ht, htl, _⟩ := lng_get hkl
      obtain ⟨b, q, u, hu, e1, _, e3, _, _⟩ := hx4.get (e := 49) rfl (i := k) ht
      have hsk : s[k]? = some (stt s k) := stt_get (by omega)
      obtain ⟨b', q', _, y1, y2⟩ := Row.get1 hs4 (tab := tab) (e := 3) (ety := tI) rfl rfl rfl hsk .i64
      have hsb := hsr _ (List.mem_of_getElem? hsk)
      have htb := hg.longs t (List.mem_of_getElem? ht)
      have w1 := wrap64 (x := stt s k + t.long) (by omega) (by omega)
      have w2 := wrap64 (x := k + 1) (by omega) (by omega)
      simp (maxDischargeDepth := 9) [hts, tab, hlt]
      refine W_draw mixed (.look 0 (.look 1 (.look 2 (.look 3 (.look 4 (.look 5 (.look 6 (.look 7 (.look 8 (.look 9 (.look 10 (.look 11 .done)))))))))))) (by kernel_rfl) ?_
      by_cases hc : m < stt s k + t.long
      · simp (maxDischargeDepth := 9) [hts, tab, e1, e3, y1, y2, w1, hc]
        refine W_draw mixed (.look 0 (.look 1 (.look 2 (.look 3 (.look 4 (.look 5 (.look 6 (.look 7 (.look 8 (.look 9 (.act 10 [] .done .stop))))))))))) (by kernel_rfl) ?_
        simp (maxDischargeDepth := 9) [hts, tab, e1, e3, y1, y2, w1, hc, w2]
        refine ih (k + 1) (stt s k + t.long) _ (by omega) ⟨by omega, by omega, fun i hi => ?_⟩ (by simp [hts])
        by_cases hik : i = k
        · subst hik; omega
        · have := hm.2.2 i (by omega); omega
      · simp (maxDischargeDepth := 9) [hts, tab, e1, e3, y1, y2, w1, hc, w2]
        refine ih (k + 1) m _ (by omega) ⟨hm.1, hm.2.1, fun i hi => ?_⟩ (by simp [hts])
        by_cases hik : i = k
        · subst hik; omega
        · exact hm.2.2 i (by omega)
  exact key l.length 0 0 _ (by omega) ⟨by omega, by omega, fun i hi => by omega⟩ (by simp)
theorem law_in (H : Hp) (x0 x1 : AV) (h0 : SSl 1 1 (SInt .u8) H [x0]) (h1 : SSl 1 1 (SInt .u8) H [x1]) : T Try.prog 11 [x0, x1] H (fun r K => r = .bool true) := by
  obtain ⟨bs, a1, a2, a3⟩ := bytes_open H x0 h0
  obtain ⟨cs, b1, b2, b3⟩ := bytes_open H x1 h1
  exact fnSchedule_law x0 x1 bs cs H a1 a2 a3 b1 b2 b3
end Go.Proofs.Ytcadaadoodpnmaa.Am
