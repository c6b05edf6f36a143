/- The law of FnBounds. No condition. -/
import Derived.Test.YtfndikfaibbjoaaLDrawSpans
import Derived.Test.YtfndikfaibbjoaaLTops
namespace Go.Proofs.Ytfndikfaibbjoaa.Am
open Go Go.RowKit
set_option linter.unusedSimpArgs false
set_option linter.unusedVariables false

theorem bytes_open (H : Hp) (x : AV) (h : SSl 1 1 (SInt .u8) H [x]) : ∃ bs, Row 1 H x (bytesA bs) ∧ (∀ y ∈ bs, 0 ≤ y ∧ y ≤ 255) ∧ bs.length ≤ 140737488355328 := by
  obtain ⟨v, es, e1, h1, h2, h3, h4⟩ := h
  cases e1
  obtain ⟨xs, rfl, hxs⟩ := map_of_all (enc := fun x : Int => [AV.int .u8 x]) (q := fun y => 0 ≤ y ∧ y ≤ 255) (es := es) (fun e he => by
    obtain ⟨n, rfl, hn⟩ := h4 e he
    refine ⟨n, rfl, ?_⟩
    simpa [Lit.wf, IntKind.min, IntKind.max, IntKind.signed, IntKind.bits] using hn)
  refine ⟨xs, h1, hxs, ?_⟩
  simp at h3
  omega
theorem and_mask {x : Int} (h0 : 0 ≤ x) (h1 : x ≤ 1099511627776) : IntKind.i64.wrap (((x % 2 ^ IntKind.i64.bits).toNat &&& 65535 % 2 ^ IntKind.i64.bits : Nat) : Int) = x % 65536 := by
  show IntKind.i64.wrap (((x % 18446744073709551616).toNat &&& 65535 : Nat) : Int) = x % 65536
  have e1 : (x % 18446744073709551616).toNat = x.toNat := by omega
  have e2 : (65535 : Nat) = 2 ^ 16 - 1 := by decide
  rw [e1, e2, Nat.and_two_pow_sub_one_eq_mod]
  rw [wrap64 (by omega) (by omega)]
  omega
theorem hasW_iff (a : Rng) (w : Int) : hasW a w = true ↔ (GoodR a ∧ 0 ≤ w ∧ w ≤ 65535) ∧ a.em = false ∧ a.lo ≤ w ∧ w ≤ a.hi := by
  simp [hasW, okW]
theorem joinR_good {a b : Rng} (ha : GoodR a) (hb : GoodR b) : GoodR (joinR a b) := by
  unfold joinR
  split
  · exact hb
  split
  · exact ha
  · rename_i h1 h2
    rcases ha with h | ⟨h3, h4⟩
    · exact absurd h.1 h1
    rcases hb with h | ⟨h5, h6⟩
    · exact absurd h.1 h2
    exact .inr ⟨rfl, by simp only; omega, by simp only; omega, by simp only; omega⟩
theorem widenR_good {a b : Rng} (ha : GoodR a) (hb : GoodR b) : GoodR (widenR a b) := by
  unfold widenR
  split
  · exact hb
  split
  · exact ha
  · rename_i h1 h2
    rcases ha with h | ⟨h3, h4⟩
    · exact absurd h.1 h1
    rcases hb with h | ⟨h5, h6⟩
    · exact absurd h.1 h2
    exact .inr ⟨rfl, by simp only; split <;> omega, by simp only; split <;> split <;> omega, by simp only; split <;> omega⟩
theorem meetR_good {a b : Rng} (ha : GoodR a) (hb : GoodR b) : GoodR (meetR a b) := by
  unfold meetR
  split
  · exact .inl ⟨rfl, rfl, rfl⟩
  · rename_i h1
    rcases ha with h | ⟨h3, h4⟩
    · exact absurd (.inl h.1) h1
    rcases hb with h | ⟨h5, h6⟩
    · exact absurd (.inr (.inl h.1)) h1
    have h7 : ¬ min a.hi b.hi < max a.lo b.lo := fun h => h1 (.inr (.inr h))
    exact .inr ⟨rfl, by simp only; omega, by simp only; omega, by simp only; omega⟩
theorem has_join {a b : Rng} {w : Int} (ha : GoodR a) (hb : GoodR b) (h : hasW a w = true ∨ hasW b w = true) : hasW (joinR a b) w = true := by
  simp only [hasW_iff] at h ⊢
  refine ⟨⟨joinR_good ha hb, by rcases h with h | h <;> exact h.1.2⟩, ?_⟩
  unfold joinR
  rcases h with ⟨h1, h2, h3⟩ | ⟨h1, h2, h3⟩
  · rw [h2]
    simp only [Bool.false_eq_true, if_false]
    split
    · exact ⟨h2, h3⟩
    · simp only; exact ⟨trivial, by omega, by omega⟩
  · split
    · exact ⟨h2, h3⟩
    · rw [h2]
      simp only [Bool.false_eq_true, if_false]
      exact ⟨trivial, by omega, by omega⟩
theorem has_widen {a b : Rng} {w : Int} (ha : GoodR a) (hb : GoodR b) (h : hasW a w = true ∨ hasW b w = true) : hasW (widenR a b) w = true := by
  simp only [hasW_iff] at h ⊢
  have hw : 0 ≤ w ∧ w ≤ 65535 := by rcases h with h | h <;> exact h.1.2
  refine ⟨⟨widenR_good ha hb, hw⟩, ?_⟩
  unfold widenR
  rcases h with ⟨h1, h2, h3⟩ | ⟨h1, h2, h3⟩
  · rw [h2]
    simp only [Bool.false_eq_true, if_false]
    split
    · exact ⟨h2, h3⟩
    · refine ⟨?_, ?_, ?_⟩ <;> first | rfl | trivial | (split <;> omega) | (simp only; split <;> omega)
  · split
    · exact ⟨h2, h3⟩
    · rw [h2]
      simp only [Bool.false_eq_true, if_false]
      refine ⟨?_, ?_, ?_⟩ <;> first | rfl | trivial | (split <;> omega) | (simp only; split <;> omega)
theorem has_meet {a b : Rng} {w : Int} (ha : GoodR a) (hb : GoodR b) : hasW (meetR a b) w = (hasW a w && hasW b w) := by
  rw [Bool.eq_iff_iff, Bool.and_eq_true]
  simp only [hasW_iff]
  have hm := meetR_good ha hb
  unfold meetR at hm ⊢
  split
  · rename_i h
    constructor
    · rintro ⟨_, h2, _⟩
      cases h2
    · rintro ⟨⟨_, h1, h2⟩, ⟨_, h3, h4⟩⟩
      rw [h1, h3] at h
      simp at h
      omega
  · rename_i h
    rw [if_neg h] at hm
    have h1 : a.em = false := by cases he : a.em; rfl; exact absurd (.inl he) h
    have h2 : b.em = false := by cases he : b.em; rfl; exact absurd (.inr (.inl he)) h
    simp [h1, h2, ha, hb, hm]
    omega
theorem has_span {lo hi w : Int} (h0 : 0 ≤ lo) (h : lo ≤ w) (h1 : w ≤ hi) : hasW (spanR lo hi) (w % 65536) = true := by
  rw [hasW_iff]
  refine ⟨⟨spanR_good (by omega), by omega, by omega⟩, ?_⟩
  unfold spanR
  split
  · exact ⟨rfl, by simp only; omega, by simp only; omega⟩
  · exact ⟨rfl, by simp only; omega, by simp only; omega⟩
theorem has_add {a b : Rng} {n k : Int} (ha : hasW a n = true) (hb : hasW b k = true) : hasW (twoR 3 a b) ((n + k) % 65536) = true := by
  simp only [hasW_iff] at ha hb
  obtain ⟨⟨ga, _⟩, h1, h2, h3⟩ := ha
  obtain ⟨⟨gb, _⟩, h4, h5, h6⟩ := hb
  have := good_range ga
  have := good_range gb
  have e : twoR 3 a b = spanR (a.lo + b.lo) (a.hi + b.hi) := by simp [twoR, h1, h4]
  rw [e]
  exact has_span (by omega) (by omega) (by omega)
theorem has_mul {a b : Rng} {n k : Int} (ha : hasW a n = true) (hb : hasW b k = true) : hasW (twoR 5 a b) ((n * k) % 65536) = true := by
  simp only [hasW_iff] at ha hb
  obtain ⟨⟨ga, _⟩, h1, h2, h3⟩ := ha
  obtain ⟨⟨gb, _⟩, h4, h5, h6⟩ := hb
  have := good_range ga
  have := good_range gb
  have e : twoR 5 a b = spanR (a.lo * b.lo) (a.hi * b.hi) := by simp [twoR, h1, h4]
  rw [e]
  exact has_span (Int.mul_nonneg (by omega) (by omega)) (Int.mul_le_mul h2 h5 (by omega) (by omega)) (Int.mul_le_mul h3 h6 (by omega) (by omega))
def At (K : Hp) (c : Nat) (x : Rng) : Prop := K[c]? = some (some ⟨3, true, x.enc⟩)
theorem At.fr {K K' : Hp} {c : Nat} {x : Rng} (h : At K c x) (k : Fr K K') : At K' c x := k.2 _ _ h id
theorem At.ld {K : Hp} {c : Nat} {x : Rng} (h : At K c x) : loadA tR K (.ptr c 0) = some (.agg [.bool x.em, .int .i64 x.lo, .int .i64 x.hi]) := by
  unfold At at h
  simp [loadA, h, Rng.enc]
theorem At.new (K : Hp) (x : Rng) : At (K ++ [some ⟨3, true, [.bool x.em, .int .i64 x.lo, .int .i64 x.hi]⟩]) K.length x := by simp [At, Rng.enc]
theorem At.lo {K : Hp} {c : Nat} {x : Rng} (h : At K c x) : loadA tI K (.ptr c 1) = some (.int .i64 x.lo) := load_at h rfl rfl rfl
theorem At.hi {K : Hp} {c : Nat} {x : Rng} (h : At K c x) : loadA tI K (.ptr c 2) = some (.int .i64 x.hi) := load_at h rfl rfl rfl
/-- A new block for a range. -/
theorem room (K : Hp) (x : Rng) : ∃ K', K ++ [some ⟨3, true, [.bool x.em, .int .i64 x.lo, .int .i64 x.hi]⟩] = K' ∧ At K' K.length x ∧ Fr K K' := ⟨_, rfl, At.new K x, Fr.app K _⟩
theorem isGood_ok (a : Rng) (H : Hp) : T Try.prog 43 [.agg a.enc] H (fun r K => r = .bool (decide (GoodR a)) ∧ Fr H K) := by
  refine T.by tabOk Try.func43 (by kernel_rfl) rfl _ (by simp [Try.f43]) H _ ?_
  have f0 := Fr.app H [some ⟨3, true, a.enc⟩]
  simp [Try.f43, tab, Rng.enc, loadB]
  refine (isSpan_ok a _).mono fun r K ⟨e1, f1⟩ => ?_
  subst e1
  simp
  exact f0.trans f1
theorem rngs_len {l : List Ins} {R : List Rng} (h1 : GoodC l) (h2 : GoodRs R) : (stepR l R).length = 8 := (stepR_good l h1.2 h2).1
set_option maxRecDepth 100000 in
set_option maxHeartbeats 4000000 in
theorem fnBounds_law (v w : AV) (bs cs : List Int) (H : Hp) (hv : Row 1 H v (bytesA bs)) (hb : ∀ y ∈ bs, 0 ≤ y ∧ y ≤ 255) (hbl : bs.length ≤ 140737488355328) (hw : Row 1 H w (bytesA cs)) (hc : ∀ y ∈ cs, 0 ≤ y ∧ y ≤ 255) (hcl : cs.length ≤ 140737488355328) : T Try.prog 8 [v, w] H (fun r K => r = .bool true) := by
  refine T.by tabOk Try.func8 (by kernel_rfl) rfl _ (by simp [Try.f8]) H _ ?_
  have hlv := hv.len 5
  have hlw := hw.len 5
  have hlv : lenA (.slice 5) v = some (.int .i64 bs.length) := by simpa [bytesA] using hlv
  have hlw : lenA (.slice 5) w = some (.int .i64 cs.length) := by simpa [bytesA] using hlw
  have hw0 := wrap64 (x := bs.length + cs.length) (by omega) (by omega)
  by_cases hbig : 1048576 < (bs.length : Int) + cs.length
  · simp [Try.f8, tab, hlv, hlw, hw0, hbig]
  have hBv : Bytes H v := ⟨bs, hv, hb, by omega⟩
  have hBw : Bytes H w := ⟨cs, hw, hc, by omega⟩
  simp [Try.f8, tab, hlv, hlw, hw0, hbig]
  refine (drawJoin_ok v H hBv).mono fun z K0 ⟨⟨a, b, e1⟩, f0⟩ => ?_
  subst e1
  have F0 : Fr H K0 := f0
  obtain ⟨P0, hP0⟩ : ∃ P, P = K0 ++ [some ⟨3, true, [.bool a.em, .int .i64 a.lo, .int .i64 a.hi]⟩, some ⟨3, true, [.bool b.em, .int .i64 b.lo, .int .i64 b.hi]⟩] := ⟨_, rfl⟩
  have g0 : Fr K0 P0 := hP0 ▸ Fr.app K0 _
  have A5 : At P0 K0.length a := by rw [hP0]; simp [At, Rng.enc]
  have A6 : At P0 (K0.length + 1) b := by rw [hP0]; simp [At, Rng.enc]
  have hPf : Fr H P0 := F0.trans g0
  simp [tab, Rng.enc, storeB, over]
  rw [← hP0]
  obtain ⟨RJ, hRJ⟩ : ∃ R, R = pres joinR a b := ⟨_, rfl⟩
  obtain ⟨RM, hRM⟩ : ∃ R, R = pres meetR a b := ⟨_, rfl⟩
  obtain ⟨RW, hRW⟩ : ∃ R, R = pres widenR a b := ⟨_, rfl⟩
  obtain ⟨RS, hRS⟩ : ∃ R, R = pres (twoR 3) a b := ⟨_, rfl⟩
  obtain ⟨RP, hRP⟩ : ∃ R, R = pres (twoR 5) a b := ⟨_, rfl⟩
  refine (implJoin_ok a b _).mono fun r K1 ⟨e1, f1⟩ => ?_
  subst e1
  rw [← hRJ]
  obtain ⟨P1, hP1, B1, g1⟩ := room K1 RJ.1
  replace A5 := A5.fr (f1.trans g1)
  replace A6 := A6.fr (f1.trans g1)
  replace hPf := hPf.trans (f1.trans g1)
  simp [tab, Rng.enc, storeB, over, hP1, A5.ld, A6.ld]
  refine (specJoin_ok a b _).mono fun r K2 ⟨e1, f2⟩ => ?_
  subst e1
  rw [← hRJ]
  obtain ⟨P2, hP2, B2, g2⟩ := room K2 RJ.1
  replace A5 := A5.fr (f2.trans g2)
  replace A6 := A6.fr (f2.trans g2)
  replace B1 := B1.fr (f2.trans g2)
  replace hPf := hPf.trans (f2.trans g2)
  simp [tab, Rng.enc, storeB, over, hP2, A5.ld, A6.ld]
  refine (implMeet_ok a b _).mono fun r K3 ⟨e1, f3⟩ => ?_
  subst e1
  rw [← hRM]
  obtain ⟨P3, hP3, B3, g3⟩ := room K3 RM.1
  replace A5 := A5.fr (f3.trans g3)
  replace A6 := A6.fr (f3.trans g3)
  replace B1 := B1.fr (f3.trans g3)
  replace B2 := B2.fr (f3.trans g3)
  replace hPf := hPf.trans (f3.trans g3)
  simp [tab, Rng.enc, storeB, over, hP3, A5.ld, A6.ld]
  refine (specMeet_ok a b _).mono fun r K4 ⟨e1, f4⟩ => ?_
  subst e1
  rw [← hRM]
  obtain ⟨P4, hP4, B4, g4⟩ := room K4 RM.1
  replace A5 := A5.fr (f4.trans g4)
  replace A6 := A6.fr (f4.trans g4)
  replace B1 := B1.fr (f4.trans g4)
  replace B2 := B2.fr (f4.trans g4)
  replace B3 := B3.fr (f4.trans g4)
  replace hPf := hPf.trans (f4.trans g4)
  simp [tab, Rng.enc, storeB, over, hP4, A5.ld, A6.ld]
  refine (implWiden_ok a b _).mono fun r K5 ⟨e1, f5⟩ => ?_
  subst e1
  rw [← hRW]
  obtain ⟨P5, hP5, B5, g5⟩ := room K5 RW.1
  replace A5 := A5.fr (f5.trans g5)
  replace A6 := A6.fr (f5.trans g5)
  replace B1 := B1.fr (f5.trans g5)
  replace B2 := B2.fr (f5.trans g5)
  replace B3 := B3.fr (f5.trans g5)
  replace B4 := B4.fr (f5.trans g5)
  replace hPf := hPf.trans (f5.trans g5)
  simp [tab, Rng.enc, storeB, over, hP5, A5.ld, A6.ld]
  refine (specWiden_ok a b _).mono fun r K6 ⟨e1, f6⟩ => ?_
  subst e1
  rw [← hRW]
  obtain ⟨P6, hP6, B6, g6⟩ := room K6 RW.1
  replace A5 := A5.fr (f6.trans g6)
  replace A6 := A6.fr (f6.trans g6)
  replace B1 := B1.fr (f6.trans g6)
  replace B2 := B2.fr (f6.trans g6)
  replace B3 := B3.fr (f6.trans g6)
  replace B4 := B4.fr (f6.trans g6)
  replace B5 := B5.fr (f6.trans g6)
  replace hPf := hPf.trans (f6.trans g6)
  simp [tab, Rng.enc, storeB, over, hP6, A5.ld, A6.ld]
  refine (implAdd_ok a b _).mono fun r K7 ⟨e1, f7⟩ => ?_
  subst e1
  rw [← hRS]
  obtain ⟨P7, hP7, B7, g7⟩ := room K7 RS.1
  replace A5 := A5.fr (f7.trans g7)
  replace A6 := A6.fr (f7.trans g7)
  replace B1 := B1.fr (f7.trans g7)
  replace B2 := B2.fr (f7.trans g7)
  replace B3 := B3.fr (f7.trans g7)
  replace B4 := B4.fr (f7.trans g7)
  replace B5 := B5.fr (f7.trans g7)
  replace B6 := B6.fr (f7.trans g7)
  replace hPf := hPf.trans (f7.trans g7)
  simp [tab, Rng.enc, storeB, over, hP7, A5.ld, A6.ld]
  refine (specAdd_ok a b _).mono fun r K8 ⟨e1, f8⟩ => ?_
  subst e1
  rw [← hRS]
  obtain ⟨P8, hP8, B8, g8⟩ := room K8 RS.1
  replace A5 := A5.fr (f8.trans g8)
  replace A6 := A6.fr (f8.trans g8)
  replace B1 := B1.fr (f8.trans g8)
  replace B2 := B2.fr (f8.trans g8)
  replace B3 := B3.fr (f8.trans g8)
  replace B4 := B4.fr (f8.trans g8)
  replace B5 := B5.fr (f8.trans g8)
  replace B6 := B6.fr (f8.trans g8)
  replace B7 := B7.fr (f8.trans g8)
  replace hPf := hPf.trans (f8.trans g8)
  simp [tab, Rng.enc, storeB, over, hP8, A5.ld, A6.ld]
  refine (implMul_ok a b _).mono fun r K9 ⟨e1, f9⟩ => ?_
  subst e1
  rw [← hRP]
  obtain ⟨P9, hP9, B9, g9⟩ := room K9 RP.1
  replace A5 := A5.fr (f9.trans g9)
  replace A6 := A6.fr (f9.trans g9)
  replace B1 := B1.fr (f9.trans g9)
  replace B2 := B2.fr (f9.trans g9)
  replace B3 := B3.fr (f9.trans g9)
  replace B4 := B4.fr (f9.trans g9)
  replace B5 := B5.fr (f9.trans g9)
  replace B6 := B6.fr (f9.trans g9)
  replace B7 := B7.fr (f9.trans g9)
  replace B8 := B8.fr (f9.trans g9)
  replace hPf := hPf.trans (f9.trans g9)
  simp [tab, Rng.enc, storeB, over, hP9, A5.ld, A6.ld]
  refine (specMul_ok a b _).mono fun r K10 ⟨e1, f10⟩ => ?_
  subst e1
  rw [← hRP]
  obtain ⟨P10, hP10, B10, g10⟩ := room K10 RP.1
  replace A5 := A5.fr (f10.trans g10)
  replace A6 := A6.fr (f10.trans g10)
  replace B1 := B1.fr (f10.trans g10)
  replace B2 := B2.fr (f10.trans g10)
  replace B3 := B3.fr (f10.trans g10)
  replace B4 := B4.fr (f10.trans g10)
  replace B5 := B5.fr (f10.trans g10)
  replace B6 := B6.fr (f10.trans g10)
  replace B7 := B7.fr (f10.trans g10)
  replace B8 := B8.fr (f10.trans g10)
  replace B9 := B9.fr (f10.trans g10)
  replace hPf := hPf.trans (f10.trans g10)
  simp [-post_sq, tab, Rng.enc, storeB, over, hP10]
  simp only [post_sq, W_seq]
  refine W_cut (fun ts K => Fr P10 K ∧ ts 171 = .bool false ∧ ts 1 = w ∧ ts 5 = .ptr K0.length 0 ∧ ts 6 = .ptr (K0.length + 1) 0 ∧ ts 7 = .ptr K1.length 0 ∧ ts 8 = .bool RJ.2 ∧ ts 11 = .ptr K3.length 0 ∧ ts 15 = .ptr K5.length 0 ∧ ts 19 = .ptr K7.length 0 ∧ ts 23 = .ptr K9.length 0) ?_ ?_
  · refine W_draw mixed (.look 0 (.look 1 (.look 2 (.look 3 (.look 4 (.look 5 (.look 6 (.look 7 (.look 8 (.look 9 (.look 10 (.look 11 (.look 12 (.look 13 (.look 14 (.look 15 (.look 16 (.look 17 (.look 18 (.look 19 (.look 20 (.look 21 (.look 22 (.look 23 (.look 24 (.look 25 (.look 26 (.look 27 (.look 28 (.look 29 (.look 30 (.look 31 (.look 32 (.look 33 (.look 34 (.look 35 (.look 36 (.look 37 (.look 38 (.look 39 (.look 40 (.look 41 (.look 42 (.look 43 (.look 44 (.look 45 (.look 46 (.look 47 (.look 48 (.look 49 (.look 51 (.act 50 [51] (.act 52 [] (.look 53 (.look 54 .done)) .stop) .stop)))))))))))))))))))))))))))))))))))))))))))))))))))) (by kernel_rfl) ?_
    simp [tab, A5.ld, A6.ld, B1.ld, B2.ld, B3.ld, B4.ld, B5.ld, B6.ld, B7.ld, B8.ld, B9.ld, B10.ld]
    refine (isGood_ok a _).mono fun r K11 ⟨e1, f11⟩ => ?_
    subst e1
    simp [tab, (A5.fr f11).ld]
    refine (goodRange_ok a _).mono fun r K12 ⟨e1, f12⟩ => ?_
    subst e1
    simp [tab]
    exact f11.trans f12
  rintro ts K ⟨fK, t171, t1, t5, t6, t7, t8, t11, t15, t19, t23⟩
  simp only [post_sq, W_seq]
  refine W_cut (fun ts K' => K' = K ∧ ts 1 = w ∧ ts 5 = .ptr K0.length 0 ∧ ts 6 = .ptr (K0.length + 1) 0 ∧ ts 7 = .ptr K1.length 0 ∧ ts 8 = .bool RJ.2 ∧ ts 11 = .ptr K3.length 0 ∧ ts 15 = .ptr K5.length 0 ∧ ts 19 = .ptr K7.length 0 ∧ ts 23 = .ptr K9.length 0) (by simp [t171, t1, t5, t6, t7, t8, t11, t15, t19, t23]) ?_
  rintro ts K' ⟨rfl, t1, t5, t6, t7, t8, t11, t15, t19, t23⟩
  replace A5 := A5.fr fK
  replace A6 := A6.fr fK
  replace B1 := B1.fr fK
  replace B3 := B3.fr fK
  replace B5 := B5.fr fK
  replace B7 := B7.fr fK
  replace B9 := B9.fr fK
  replace hPf := hPf.trans fK
  simp [t1]
  refine (drawHas_ok w K' (hBw.fr hPf)).mono fun z K1' ⟨⟨x, y, e1⟩, h1⟩ => ?_
  subst e1
  obtain ⟨Q1, hQ1, C1, q1⟩ := room K1' x
  simp [tab, Rng.enc, storeB, over, hQ1, C1.ld]
  refine (implHas_ok x y Q1).mono fun z K2' ⟨e1, h2⟩ => ?_
  subst e1
  simp [tab, (C1.fr h2).ld]
  refine (specHas_ok x y K2').mono fun z K3' ⟨e1, h3⟩ => ?_
  subst e1
  have hQ : Fr K' K3' := ((h1.trans q1).trans h2).trans h3
  simp [-post_sq, tab]
  simp only [post_sq, W_seq]
  refine W_cut (fun ts K => K = K3' ∧ ts 196 = .bool false ∧ ts 1 = w ∧ ts 5 = .ptr K0.length 0 ∧ ts 6 = .ptr (K0.length + 1) 0 ∧ ts 7 = .ptr K1.length 0 ∧ ts 8 = .bool RJ.2 ∧ ts 11 = .ptr K3.length 0 ∧ ts 15 = .ptr K5.length 0 ∧ ts 19 = .ptr K7.length 0 ∧ ts 23 = .ptr K9.length 0) (by simp [tab, t1, t5, t6, t7, t8, t11, t15, t19, t23]) ?_
  rintro ts K ⟨rfl, t196, t1, t5, t6, t7, t8, t11, t15, t19, t23⟩
  simp only [post_sq, W_seq]
  refine W_cut (fun ts K' => K' = K ∧ ts 1 = w ∧ ts 5 = .ptr K0.length 0 ∧ ts 6 = .ptr (K0.length + 1) 0 ∧ ts 7 = .ptr K1.length 0 ∧ ts 8 = .bool RJ.2 ∧ ts 11 = .ptr K3.length 0 ∧ ts 15 = .ptr K5.length 0 ∧ ts 19 = .ptr K7.length 0 ∧ ts 23 = .ptr K9.length 0) (by simp [t196, t1, t5, t6, t7, t8, t11, t15, t19, t23]) ?_
  rintro ts K'' ⟨rfl, t1, t5, t6, t7, t8, t11, t15, t19, t23⟩
  replace A5 := A5.fr hQ
  replace A6 := A6.fr hQ
  replace B1 := B1.fr hQ
  replace B3 := B3.fr hQ
  replace B5 := B5.fr hQ
  replace B7 := B7.fr hQ
  replace B9 := B9.fr hQ
  replace hPf := hPf.trans hQ
  simp only [post_sq, W_seq]
  refine W_cut (fun ts K => K = K'' ∧ ts 197 = .bool RJ.2 ∧ ts 1 = w ∧ ts 5 = .ptr K0.length 0 ∧ ts 6 = .ptr (K0.length + 1) 0 ∧ ts 7 = .ptr K1.length 0 ∧ ts 8 = .bool RJ.2 ∧ ts 11 = .ptr K3.length 0 ∧ ts 15 = .ptr K5.length 0 ∧ ts 19 = .ptr K7.length 0 ∧ ts 23 = .ptr K9.length 0) (by simp [t1, t5, t6, t7, t8, t11, t15, t19, t23]) ?_
  rintro ts K ⟨rfl, t197, t1, t5, t6, t7, t8, t11, t15, t19, t23⟩
  simp only [post_sq, W_seq]
  obtain ⟨z1, hz1⟩ : ∃ z1, z1 = K1.length := ⟨_, rfl⟩
  obtain ⟨z3, hz3⟩ : ∃ z, z = K3.length := ⟨_, rfl⟩
  obtain ⟨z5, hz5⟩ : ∃ z, z = K5.length := ⟨_, rfl⟩
  obtain ⟨z7, hz7⟩ : ∃ z, z = K7.length := ⟨_, rfl⟩
  obtain ⟨z9, hz9⟩ : ∃ z, z = K9.length := ⟨_, rfl⟩
  rw [← hz1] at t7 B1
  rw [← hz3] at t11 B3
  rw [← hz5] at t15 B5
  rw [← hz7] at t19 B7
  rw [← hz9] at t23 B9
  refine W_cut (fun ts K' => ts 1 = w ∧ Fr H K') ?_ ?_
  · cases hok : RJ.2 with
    | false =>
      rw [hok] at t197
      simp [t1, t197]
      exact hPf
    | true =>
      rw [hok] at t197
      have hg : GoodR a ∧ GoodR b := by
        refine Classical.byContradiction fun hn => ?_
        rw [hRJ, pres, if_neg hn] at hok
        cases hok
      obtain ⟨ga, gb⟩ := hg
      have eJ : RJ.1 = joinR a b := by rw [hRJ, pres, if_pos ⟨ga, gb⟩]
      have eM : RM.1 = meetR a b := by rw [hRM, pres, if_pos ⟨ga, gb⟩]
      have eW : RW.1 = widenR a b := by rw [hRW, pres, if_pos ⟨ga, gb⟩]
      have eS : RS.1 = twoR 3 a b := by rw [hRS, pres, if_pos ⟨ga, gb⟩]
      have eP : RP.1 = twoR 5 a b := by rw [hRP, pres, if_pos ⟨ga, gb⟩]
      rw [eJ] at B1
      rw [eM] at B3
      rw [eW] at B5
      rw [eS] at B7
      rw [eP] at B9
      simp [t1, t5, t6, t7, t8, t11, t15, t19, t23, t197]
      refine W_draw mixed (.look 0 (.look 1 (.look 2 (.look 3 (.look 4 (.look 5 (.look 6 (.look 7 (.look 8 (.look 13 (.act 9 [1, 3, 5, 7] (.look 10 (.act 11 [] (.look 12 .done) .stop)) .stop))))))))))) (by kernel_rfl) ?_
      simp [t1, t5, t6, tab, A5.lo, A5.hi, A6.lo, A6.hi]
      refine (numberOf_ok cs w K (by omega) (hw.fr hPf) hc).mono fun z Kz ⟨⟨num, e1, n0, n1⟩, e2⟩ => ?_
      subst e1 e2
      obtain ⟨L, hL⟩ : ∃ L : List Int, L = [a.lo, a.hi, b.lo, b.hi, num.tmod 65536] := ⟨_, rfl⟩
      obtain ⟨Kb, hKb⟩ : ∃ Kb, Kz ++ [some ⟨1, true, [.int .i64 a.lo, .int .i64 a.hi, .int .i64 b.lo, .int .i64 b.hi, .int .i64 (num.tmod 65536)]⟩] = Kb := ⟨_, rfl⟩
      have fb : Fr Kz Kb := hKb ▸ Fr.app Kz _
      have rL : Row 1 Kb (.sl Kz.length 0 5) (ints L) := by
        have := ints_row Kz L
        rw [hL] at this ⊢
        rw [← hKb]
        simpa using this
      have hL5 : L.length = 5 := by rw [hL]; rfl
      simp [t1, t5, t6, t7, t11, t15, t19, t23, tab, A5.lo, A5.hi, A6.lo, A6.hi, buildSliceA, zerosA, fillA, over, hKb]
      refine W_loop _ fun I hI => ?_
      have key : ∀ (d i : Nat) (ts : TS) (K : Hp), i + d = 5 → Fr Kb K → (ts 1 = w ∧ ts 5 = .ptr K0.length 0 ∧ ts 6 = .ptr (K0.length + 1) 0 ∧ ts 7 = .ptr z1 0 ∧ ts 11 = .ptr z3 0 ∧ ts 15 = .ptr z5 0 ∧ ts 19 = .ptr z7 0 ∧ ts 23 = .ptr z9 0 ∧ ts 209 = .sl Kz.length 0 5 ∧ ts 210 = .int .i64 5 ∧ ts 211 = .int .i64 i) → I ts K := by
        intro d
        induction d with
        | zero =>
          intro i ts K e hK hts
          apply hI
          obtain rfl : i = 5 := by omega
          simp [hts, tab]
          exact (hPf.trans fb).trans hK
        | succ d ih =>
          intro i ts K e hK hts
          apply hI
          have hlt : (i : Int) < 5 := by omega
          have hget : L[i]? = some L[i] := List.getElem?_eq_getElem (by omega)
          generalize L[i] = n at hget
          have hf := fb.trans hK
          obtain ⟨b1, q1, _, x1, x2⟩ := Row.get1 (rL.fr hK) (tab := tab) (e := 3) (ety := tI) rfl rfl rfl hget .i64
          have hw1 := wrap64 (x := i + 1) (by omega) (by omega)
          simp (maxDischargeDepth := 9) [hts, tab, hlt, x1, x2, (A5.fr hf).ld]
          refine (inRange_ok a n K).mono fun z K1 ⟨e1, f1⟩ => ?_
          subst e1
          have hf1 := hf.trans f1
          simp [hts, tab, (A6.fr hf1).ld]
          refine (inRange_ok b n K1).mono fun z K2 ⟨e1, f2⟩ => ?_
          subst e1
          have hf2 := hf1.trans f2
          simp [-post_sq, tab]
          simp only [post_sq, W_seq]
          refine W_cut (fun ts K => Fr K2 K ∧ ts 246 = .bool false ∧ ts 1 = w ∧ ts 5 = .ptr K0.length 0 ∧ ts 6 = .ptr (K0.length + 1) 0 ∧ ts 7 = .ptr z1 0 ∧ ts 11 = .ptr z3 0 ∧ ts 15 = .ptr z5 0 ∧ ts 19 = .ptr z7 0 ∧ ts 23 = .ptr z9 0 ∧ ts 209 = .sl Kz.length 0 5 ∧ ts 210 = .int .i64 5 ∧ ts 211 = .int .i64 i ∧ ts 34 = .int .i64 n ∧ ts 35 = .bool (hasW a n)) ?_ ?_
          · have hm := has_meet (w := n) ga gb
            by_cases huv : hasW a n = true ∨ hasW b n = true
            · have hj := has_join ga gb huv
              have hwd := has_widen ga gb huv
              have hor : (hasW a n || hasW b n) = true := by simpa using huv
              cases hu : hasW a n with
              | true =>
                simp [hts, tab, hu, (B1.fr hf2).ld]
                refine (inRange_ok _ n K2).mono fun z K3 ⟨e1, f3⟩ => ?_
                subst e1
                have hf3 := hf2.trans f3
                simp [hts, tab, hu, hj, (B5.fr hf3).ld]
                refine (inRange_ok _ n K3).mono fun z K4 ⟨e1, f4⟩ => ?_
                subst e1
                have hf4 := hf3.trans f4
                simp [hts, tab, hu, hwd, (B3.fr hf4).ld]
                refine (inRange_ok _ n K4).mono fun z K5 ⟨e1, f5⟩ => ?_
                subst e1
                rw [hm, hu]
                cases hv2 : hasW b n <;> simp [hts, tab, hu, hv2] <;> exact (f3.trans f4).trans f5
              | false =>
                have hv2 : hasW b n = true := huv.resolve_left (by simp [hu])
                simp [hts, tab, hu, hv2, (B1.fr hf2).ld]
                refine (inRange_ok _ n K2).mono fun z K3 ⟨e1, f3⟩ => ?_
                subst e1
                have hf3 := hf2.trans f3
                simp [hts, tab, hu, hv2, hj, (B5.fr hf3).ld]
                refine (inRange_ok _ n K3).mono fun z K4 ⟨e1, f4⟩ => ?_
                subst e1
                have hf4 := hf3.trans f4
                simp [hts, tab, hu, hv2, hwd, (B3.fr hf4).ld]
                refine (inRange_ok _ n K4).mono fun z K5 ⟨e1, f5⟩ => ?_
                subst e1
                rw [hm, hu]
                simp [hts, tab, hu, hv2]
                exact (f3.trans f4).trans f5
            · have hu : hasW a n = false := by simpa using fun h => huv (.inl h)
              have hv2 : hasW b n = false := by simpa using fun h => huv (.inr h)
              simp [hts, tab, hu, hv2, (B3.fr hf2).ld]
              refine (inRange_ok _ n K2).mono fun z K5 ⟨e1, f5⟩ => ?_
              subst e1
              rw [hm, hu]
              simp [hts, tab, hu, hv2]
              exact f5
          clear hts
          rintro ts K3 ⟨f3, t246, hts⟩
          have hf3 := hf2.trans f3
          obtain ⟨Kc, hKc⟩ : ∃ Kc, K3 ++ [some ⟨1, true, [.int .i64 b.lo, .int .i64 b.hi]⟩] = Kc := ⟨_, rfl⟩
          have fc : Fr K3 Kc := hKc ▸ Fr.app K3 _
          have rB : Row 1 Kc (.sl K3.length 0 2) (ints [b.lo, b.hi]) := by
            have := ints_row K3 [b.lo, b.hi]
            rw [← hKc]
            simpa using this
          simp (maxDischargeDepth := 9) [hts, t246, tab, (A6.fr hf3).lo, (A6.fr hf3).hi, buildSliceA, zerosA, fillA, over, hKc]
          refine W_loop _ fun I2 hI2 => ?_
          have key2 : ∀ (d j : Nat) (ts : TS) (K : Hp), j + d = 2 → Fr Kc K → (ts 1 = w ∧ ts 5 = .ptr K0.length 0 ∧ ts 6 = .ptr (K0.length + 1) 0 ∧ ts 7 = .ptr z1 0 ∧ ts 11 = .ptr z3 0 ∧ ts 15 = .ptr z5 0 ∧ ts 19 = .ptr z7 0 ∧ ts 23 = .ptr z9 0 ∧ ts 209 = .sl Kz.length 0 5 ∧ ts 210 = .int .i64 5 ∧ ts 211 = .int .i64 i ∧ ts 34 = .int .i64 n ∧ ts 35 = .bool (hasW a n) ∧ ts 251 = .sl K3.length 0 2 ∧ ts 252 = .int .i64 2 ∧ ts 253 = .int .i64 j) → I2 ts K := by
            intro d
            induction d with
            | zero =>
              intro j ts K e2 hK2 hts
              apply hI2
              obtain rfl : j = 2 := by omega
              simp [hts, tab, hw1]
              exact ih (i + 1) _ K (by omega) (((((hK.trans f1).trans f2).trans f3).trans fc).trans hK2) (by simp [hts])
            | succ d ih2 =>
              intro j ts K e2 hK2 hts
              apply hI2
              have hlt2 : (j : Int) < 2 := by omega
              obtain ⟨k, hget2⟩ : ∃ k, [b.lo, b.hi][j]? = some k := by
                rcases (by omega : j = 0 ∨ j = 1) with rfl | rfl
                · exact ⟨_, rfl⟩
                · exact ⟨_, rfl⟩
              have hf4 := (hf3.trans fc).trans hK2
              obtain ⟨b2, q2, _, x3, x4⟩ := Row.get1 (rB.fr hK2) (tab := tab) (e := 3) (ety := tI) rfl rfl rfl hget2 .i64
              have hw2 := wrap64 (x := j + 1) (by omega) (by omega)
              cases hu : hasW a n with
              | false =>
                rw [hu] at hts
                simp (maxDischargeDepth := 9) [hts, tab, hlt2, x3, x4, hw2]
                exact ih2 (j + 1) _ K (by omega) hK2 (by simp [hts, hu])
              | true =>
                rw [hu] at hts
                simp (maxDischargeDepth := 9) [hts, tab, hlt2, x3, x4, hw2, (A6.fr hf4).ld]
                refine (inRange_ok b k K).mono fun z K5 ⟨e1, f5⟩ => ?_
                subst e1
                have hf5 := hf4.trans f5
                cases hk : hasW b k with
                | false =>
                  simp [hts, tab, hw2]
                  exact ih2 (j + 1) _ K5 (by omega) (hK2.trans f5) (by simp [hts, hu])
                | true =>
                  have hn2 := ((hasW_iff a n).1 hu).1.2
                  have hk2 := ((hasW_iff b k).1 hk).1.2
                  have hmul := mul_range hn2 hk2
                  have w1 := wrap64 (x := n + k) (by omega) (by omega)
                  have w2 := wrap64 (x := n * k) (by omega) (by omega)
                  have m1 := and_mask (x := n + k) (by omega) (by omega)
                  have m2 := and_mask (x := n * k) (by omega) (by omega)
                  simp [hts, tab, hw2, w1, m1, (B7.fr hf5).ld]
                  refine (inRange_ok _ _ K5).mono fun z K6 ⟨e1, f6⟩ => ?_
                  subst e1
                  have hf6 := hf5.trans f6
                  simp [hts, tab, hw2, w2, m2, has_add hu hk, (B9.fr hf6).ld]
                  refine (inRange_ok _ _ K6).mono fun z K7 ⟨e1, f7⟩ => ?_
                  subst e1
                  simp [hts, tab, hw2, has_mul hu hk]
                  exact ih2 (j + 1) _ K7 (by omega) (((hK2.trans f5).trans f6).trans f7) (by simp [hts, hu])
          exact key2 2 0 _ Kc rfl (Fr.refl _) (by simp [hts])
      exact key 5 0 _ Kb rfl (Fr.refl _) (by simp [t1, t5, t6, t7, t11, t15, t19, t23])
  rintro ts K2 ⟨t1, hK2⟩
  simp [t1]
  refine (drawStep_ok w K2 (hBw.fr hK2)).mono fun z K3 ⟨⟨u, r, l, R, e1, o1, hl, o2, hR⟩, d1⟩ => ?_
  subst e1
  simp
  refine (implSteps_ok l R u r K3 (by omega) (by omega) o1.row o2.row).mono fun z K4 ⟨c, e1, c2, c3, c4⟩ => ?_
  subst e1
  simp
  refine (specSteps_ok l R u r K4 (by omega) (by omega) (o1.fr c4).row (o2.fr c4).row).mono fun z K5 ⟨d, e1, d2, d3, d4⟩ => ?_
  subst e1
  have c5 := c2.fr d4
  have hlc := c5.row.len 24
  have hld := d2.row.len 24
  simp [tab, hlc, hld]
  refine W_loop _ fun I hI => ?_
  have key : ∀ (r p : List Rng) (ts : TS), (sres l R).1 = p ++ r → (ts 41 = c ∧ ts 43 = d ∧ ts 311 = .int .i64 (sres l R).1.length ∧ ts 312 = .int .i64 p.length) → I ts K5 := by
    intro r
    induction r with
    | nil =>
      intro p ts e hts
      apply hI
      simp at e
      simp [hts, tab, e]
    | cons x r ih =>
      intro p ts e hts
      apply hI
      have hlen1 := congrArg List.length e
      simp at hlen1
      have hlt : (p.length : Int) < (sres l R).1.length := by omega
      obtain ⟨b1, o1, _, x1, x2, -⟩ := c5.row.get (tab := tab) (e := 24) (ety := tR) rfl (i := p.length) (a := x) (by rw [e]; simp) .i64
      obtain ⟨b2, o2, _, x3, x4, -⟩ := d2.row.get (tab := tab) (e := 24) (ety := tR) rfl (i := p.length) (a := x) (by rw [e]; simp) .i64
      have x2 := x2 rfl
      have x4 := x4 rfl
      have hsl : (sres l R).1.length ≤ 8 := by
        unfold sres
        split
        · rename_i h
          exact Nat.le_of_eq (rngs_len h.1 h.2)
        · simp
      have hw1 := wrap64 (x := p.length + 1) (by omega) (by omega)
      simp (maxDischargeDepth := 9) [hts, tab, hlt]
      refine W_draw mixed (.look 0 (.look 1 (.look 2 (.look 3 (.look 4 (.look 5 (.look 6 (.look 7 (.look 8 .done))))))))) (by kernel_rfl) ?_
      simp (maxDischargeDepth := 9) [hts, tab, x1, x2, x3, x4, Rng.enc, hw1]
      exact ih (p ++ [x]) _ (by simp [e]) (by simp [hts])
  exact key _ [] _ rfl (by simp)
theorem law_in (H : Hp) (x0 x1 : AV) (h0 : SSl 1 1 (SInt .u8) H [x0]) (h1 : SSl 1 1 (SInt .u8) H [x1]) : T Try.prog 8 [x0, x1] H (fun r K => r = .bool true) := by
  obtain ⟨bs, a1, a2, a3⟩ := bytes_open H x0 h0
  obtain ⟨cs, b1, b2, b3⟩ := bytes_open H x1 h1
  exact fnBounds_law x0 x1 bs cs H a1 a2 a3 b1 b2 b3
end Go.Proofs.Ytfndikfaibbjoaa.Am
