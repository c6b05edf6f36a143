/- The cursor of the draws: it goes on, and what is drawn is in its bounds. No condition. -/
import Derived.Test.YthihphgfblonoaaLInts
namespace Go.Proofs.Ythihphgfblonoaa.Am
open Go Go.RowKit
set_option linter.unusedSimpArgs false
set_option linter.unusedVariables false

abbrev tBS : Ty := ⟨.slice 5, 1, 24, [.nil], false⟩
abbrev tU8 : Ty := ⟨.int .u8, 1, 1, [.int .u8 0], false⟩
abbrev tU64 : Ty := ⟨.int .u64, 1, 8, [.int .u64 0], false⟩
def bytesA (l : List Int) : List (List AV) := l.map fun x => [AV.int .u8 x]
def CurAt (K : Hp) (c : Nat) (v : AV) (k s : Int) : Prop := K[c]? = some (some ⟨3, true, [v, .int .i64 k, .int .u64 s]⟩)
/-- A cursor that was moved at most n times. -/
structure Cur (K : Hp) (c : Nat) (n : Int) : Prop where
  at_ : ∃ v bs k s, CurAt K c v k s ∧ 0 ≤ k ∧ k ≤ n ∧ Row 1 K v (bytesA bs) ∧ (∀ x ∈ bs, 0 ≤ x ∧ x ≤ 255) ∧ bs.length ≤ 1048576 ∧ (∀ b, v.at b → b < c) ∧ v.one = true
theorem Cur.lt {K : Hp} {c : Nat} {n : Int} (h : Cur K c n) : c < K.length := by
  obtain ⟨v, bs, k, s, h, _⟩ := h.at_
  exact lt_of_get h
theorem Cur.mono {K : Hp} {c : Nat} {n m : Int} (h : Cur K c n) (hm : n ≤ m) : Cur K c m := by
  obtain ⟨v, bs, k, s, h1, h2, h3, h4⟩ := h.at_
  exact ⟨v, bs, k, s, h1, h2, by omega, h4⟩
theorem Cur.keeps {X : Nat → Prop} {K K' : Hp} {c : Nat} {n : Int} (h : Cur K c n) (hk : Keeps X K K') (hX : ∀ b, X b → c < b) : Cur K' c n := by
  obtain ⟨v, bs, k, s, h1, h2, h3, h4, h5, h6, h7, h8⟩ := h.at_
  exact ⟨v, bs, k, s, hk.2 c _ h1 fun hx => by have := hX c hx; omega, h2, h3, h4.keeps hk fun b hb hx => by have := hX b hx; have := h7 b hb; omega, h5, h6, h7, h8⟩
theorem Cur.fr {K K' : Hp} {c : Nat} {n : Int} (h : Cur K c n) (hk : Fr K K') : Cur K' c n := h.keeps hk fun _ h => h.elim
/-- Bytes that came as an argument. -/
def Bytes (H : Hp) (v : AV) : Prop := ∃ bs, Row 1 H v (bytesA bs) ∧ (∀ x ∈ bs, 0 ≤ x ∧ x ≤ 255) ∧ bs.length ≤ 1048576
theorem Bytes.fr {H K : Hp} {v : AV} (h : Bytes H v) (k : Fr H K) : Bytes K v := by
  obtain ⟨bs, h1, h2⟩ := h
  exact ⟨bs, h1.fr k, h2⟩
theorem Bytes.one {H : Hp} {v : AV} (h : Bytes H v) : v.one = true := by
  obtain ⟨bs, h1, _⟩ := h
  exact h1.one
theorem Row.lt {sz : Nat} {K : Hp} {v : AV} {es : List (List AV)} (h : Row sz K v es) : ∀ b, v.at b → b < K.length := by
  rintro b hb
  rcases h.2 with ⟨rfl, _⟩ | ⟨b', o, blk, rfl, h1, _⟩
  · exact hb.elim
  · cases hb
    exact lt_of_get h1
theorem cur_new {H : Hp} {v : AV} (h : Bytes H v) : Cur (H ++ [some ⟨3, true, [v, .int .i64 0, .int .u64 0]⟩]) H.length 0 := by
  obtain ⟨bs, h1, h2, h3⟩ := h
  exact ⟨v, bs, 0, 0, by simp [CurAt], by omega, by omega, h1.fr (Fr.app H _), h2, h3, h1.lt, h1.one⟩
/-- Only the cursor moved. -/
abbrev Moves (c : Nat) (K K' : Hp) : Prop := Keeps (fun b => b = c) K K'
theorem shr_and (n : Int) : 0 ≤ IntKind.i64.wrap (IntKind.u64.wrap (BitVec.ofInt 64 n &&& BitVec.ofInt 64 255).toNat) ∧ IntKind.i64.wrap (IntKind.u64.wrap (BitVec.ofInt 64 n &&& BitVec.ofInt 64 255).toNat) ≤ 255 := by
  have h : (BitVec.ofInt 64 n &&& BitVec.ofInt 64 255).toNat ≤ 255 := by
    rw [BitVec.toNat_and]
    exact Nat.le_trans Nat.and_le_right (by decide)
  generalize (BitVec.ofInt 64 n &&& BitVec.ofInt 64 255).toNat = x at h
  have h1 : IntKind.u64.wrap (x : Int) = x := by simp [IntKind.wrap, IntKind.bits, IntKind.signed]; omega
  rw [h1]
  have h2 := wrap64 (x := (x : Int)) (by omega) (by omega)
  rw [h2]
  omega
set_option maxRecDepth 100000 in
theorem next_ok (c : Nat) (n : Int) (H : Hp) (hn : n ≤ 1099511627776) (hc : Cur H c n) : T Try.prog 80 [.ptr c 0] H (fun r K => (∃ x, r = .int .i64 x ∧ 0 ≤ x ∧ x ≤ 255) ∧ Cur K c (n + 1) ∧ Moves c H K) := by
  refine T.by tabOk Try.func80 (by kernel_rfl) rfl _ (by simp [Try.f80]) H _ ?_
  obtain ⟨v, bs, k, s, hb, hk0, hkn, hv, hbs, hbl, hvc, hv1⟩ := hc.at_
  have hlt := hc.lt
  have l0 : loadA tBS H (.ptr c 0) = some v := load_at hb rfl rfl rfl
  have l1 : loadA tI H (.ptr c 1) = some (.int .i64 k) := load_at hb rfl rfl rfl
  have l2 : loadA tU64 H (.ptr c 2) = some (.int .u64 s) := load_at hb rfl rfl rfl
  have hlen := hv.len 5
  have hlen : lenA (.slice 5) v = some (.int .i64 bs.length) := by simpa [bytesA] using hlen
  have hw := wrap64 (x := k + 1) (by omega) (by omega)
  simp [Try.f80]
  refine W_cut (fun ts K => K = H ∧ ts 0 = .ptr c 0 ∧ ts 3 = .int .i64 0 ∧ ts 13 = .bool (decide (k < bs.length))) ?_ ?_
  · refine W_draw mixed (.look 0 (.look 1 (.look 2 (.look 3 (.look 4 (.look 5 (.look 6 (.look 7 (.look 8 (.look 9 .done)))))))))) (by kernel_rfl) ?_
    simp [tab, l0, l1, hlen]
  rintro ts K ⟨rfl, t0, t3, t13⟩
  simp only [post_sq, W_seq]
  refine W_cut (fun ts K' => K = K' ∧ ts 0 = .ptr c 0 ∧ ∃ b, ts 3 = .int .i64 b ∧ 0 ≤ b ∧ b ≤ 255) ?_ ?_
  · by_cases hlt2 : k < bs.length
    · obtain ⟨i, rfl⟩ := Int.eq_ofNat_of_zero_le hk0
      have hi : bs[i]? = some bs[i] := List.getElem?_eq_getElem (by omega)
      have hib := hbs _ (List.mem_of_getElem? hi)
      obtain ⟨b1, q1, _, f1, f2⟩ := Row.get1 hv (tab := tab) (e := 5) (ety := tU8) rfl rfl rfl hi .i64
      have hw2 := wrap64 (x := bs[i]) (by omega) (by omega)
      simp only [decide_eq_true hlt2] at t13
      simp [t13]
      refine W_draw mixed (.look 0 (.look 1 (.look 2 (.look 3 (.look 4 (.look 5 (.look 6 (.look 7 (.look 8 (.look 9 (.look 10 (.act 11 [] .done .stop)))))))))))) (by kernel_rfl) ?_
      simp [t0, t3, tab, l0, l1, f1, f2, hw2]
      exact hib
    · simp only [decide_eq_false hlt2] at t13
      simp [t0, t3, t13]
  rintro ts K' ⟨rfl, t0, b, t3, b0, b1⟩
  clear t13
  obtain ⟨K1, s1, hb1, m1, n1⟩ := store_at (ty := tI) hb rfl (o := 1) (v := .int .i64 (k + 1)) rfl rfl (by simp)
  simp [over] at hb1
  have l2' : loadA tU64 K1 (.ptr c 2) = some (.int .u64 s) := load_at hb1 rfl rfl rfl
  have key : ∀ s' : Int, ∃ K2, storeA tU64 K1 (.ptr c 2) (.int .u64 s') = some K2 ∧ Moves c K K2 ∧ CurAt K2 c v (k + 1) s' := by
    intro s'
    obtain ⟨K2, s2, hb2, m2, n2⟩ := store_at (ty := tU64) hb1 rfl (o := 2) (v := .int .u64 s') rfl rfl (by simp)
    simp [over] at hb2
    exact ⟨K2, s2, m1.trans m2, hb2⟩
  obtain ⟨K2, s2, m2, c2⟩ := key (IntKind.u64.wrap (IntKind.u64.wrap (IntKind.u64.wrap (s * 6364136223846793005) + IntKind.u64.wrap b) + 1442695040888963407))
  generalize hs' : IntKind.u64.wrap (IntKind.u64.wrap (IntKind.u64.wrap (s * 6364136223846793005) + IntKind.u64.wrap b) + 1442695040888963407) = s' at s2 c2
  have l0' : loadA tBS K2 (.ptr c 0) = some v := load_at c2 rfl rfl rfl
  have l1' : loadA tI K2 (.ptr c 1) = some (.int .i64 (k + 1)) := load_at c2 rfl rfl rfl
  have l3' : loadA tU64 K2 (.ptr c 2) = some (.int .u64 s') := load_at c2 rfl rfl rfl
  have hend : Cur K2 c (n + 1) := ⟨v, bs, k + 1, s', c2, by omega, by omega, hv.keeps m2 fun b hb h => by have := hvc b hb; omega, hbs, hbl, hvc, hv1⟩
  simp [t0, t3, tab, l1, hw, s1, l2', hs', s2]
  refine W_draw mixed (.look 0 (.look 1 (.look 2 (.look 3 (.look 4 (.look 5 (.look 6 (.look 7 (.look 8 (.look 9 .done)))))))))) (by kernel_rfl) ?_
  by_cases hle : k + 1 ≤ bs.length
  · simp [t0, t3, tab, l0', l1', hlen, hle]
    exact ⟨⟨b0, b1⟩, hend, m2⟩
  · simp [t0, t3, tab, l0', l1', l3', hlen, hle]
    exact ⟨shr_and _, hend, m2⟩
set_option maxRecDepth 100000 in
theorem pick_ok (c : Nat) (m n : Int) (H : Hp) (hn : n ≤ 1000000000000) (hc : Cur H c n) : T Try.prog 76 [.ptr c 0, .int .i64 m] H (fun r K => (∃ x, r = .int .i64 x ∧ 0 ≤ x ∧ (x = 0 ∨ x < m)) ∧ Cur K c (n + 2) ∧ Moves c H K) := by
  refine T.by tabOk Try.func76 (by kernel_rfl) rfl _ (by simp [Try.f76]) H _ ?_
  by_cases h1 : m ≤ 1
  · simp [Try.f76, tab, h1]
    exact ⟨hc.mono (by omega), Keeps.refl _ _⟩
  have hm0 : m ≠ 0 := by omega
  simp [Try.f76, tab, h1]
  refine (next_ok c n H (by omega) hc).mono fun r K ⟨⟨x, e1, x0, x1⟩, c1, m1⟩ => ?_
  subst e1
  by_cases h2 : 200 < m
  · have hw := wrap64 (x := x * 256) (by omega) (by omega)
    simp [tab, h2, hw]
    refine (next_ok c (n + 1) K (by omega) c1).mono fun r K2 ⟨⟨y, e1, y0, y1⟩, c2, m2⟩ => ?_
    subst e1
    have hw := wrap64 (x := x * 256 + y) (by omega) (by omega)
    simp [tab, hw, hm0]
    exact ⟨⟨Int.tmod_nonneg _ (by omega), .inr (Int.tmod_lt_of_pos _ (by omega))⟩, c2.mono (by omega), m1.trans m2⟩
  · simp [tab, h2, hm0]
    exact ⟨⟨Int.tmod_nonneg _ (by omega), .inr (Int.tmod_lt_of_pos _ (by omega))⟩, c1.mono (by omega), m1⟩
theorem one_ok (c : Nat) (m n : Int) (H : Hp) (hn : n ≤ 1000000000000) (hc : Cur H c n) : T Try.prog 64 [.ptr c 0, .int .i64 m] H (fun r K => (∃ x, r = .bool x) ∧ Cur K c (n + 2) ∧ Moves c H K) := by
  refine T.by tabOk Try.func64 (by kernel_rfl) rfl _ (by simp [Try.f64]) H _ ?_
  simp [Try.f64, tab]
  refine (pick_ok c m n H hn hc).mono fun r K ⟨⟨x, e1, x0, x1⟩, c1, m1⟩ => ?_
  subst e1
  simp [tab]
  exact ⟨by omega, c1, m1⟩
theorem among_ok (c : Nat) (L : List Int) (w : AV) (n : Int) (H : Hp) (hn : n ≤ 1000000000000) (hL : 0 < L.length) (hm : L.length ≤ 1048576) (hc : Cur H c n) (hw : Row 1 H w (ints L)) (hwc : ∀ b, w.at b → b ≠ c) : T Try.prog 78 [.ptr c 0, w] H (fun r K => (∃ x, r = .int .i64 x ∧ x ∈ L) ∧ Cur K c (n + 2) ∧ Moves c H K) := by
  refine T.by tabOk Try.func78 (by kernel_rfl) rfl _ (by simp [Try.f78]) H _ ?_
  have hlen := hw.len 3
  simp [Try.f78, tab, hlen]
  refine (pick_ok c L.length n H hn hc).mono fun r K ⟨⟨x, e1, x0, x1⟩, c1, m1⟩ => ?_
  subst e1
  obtain ⟨i, rfl⟩ := Int.eq_ofNat_of_zero_le x0
  have hi : L[i]? = some L[i] := List.getElem?_eq_getElem (by omega)
  have hw' := hw.keeps m1 hwc
  obtain ⟨b1, q1, _, f1, f2⟩ := Row.get1 hw' (tab := tab) (e := 3) (ety := tI) rfl rfl rfl hi .i64
  simp [tab, f1, f2]
  exact ⟨c1, m1⟩
/-- A row behind which one number is put. -/
theorem Own.push {K : Hp} {v : AV} {es : List Int} (h : Own 1 K v (ints es)) (x : Int) (hl : es.length ≤ 1048576) :
    ∃ u K', appendA 1 8 (K ++ [some ⟨1, true, [.int .i64 x]⟩]) v (.sl K.length 0 1) = some (u, K') ∧ Own 1 K' u (ints (es ++ [x])) ∧ Keeps v.at K K' ∧ ∀ b, u.at b → v.at b ∨ K.length ≤ b := by
  obtain ⟨u, K', a1, a2, a3, a4⟩ := (h.fr (Fr.app K [some ⟨1, true, [.int .i64 x]⟩])).append (bytes := 8) (x := .sl K.length 0 1) (new := [[.int .i64 x]]) (by decide) (by simp [rowOf]) (by simp) (by simp; omega) (by simp; omega)
  refine ⟨u, K', a1, by simpa [ints] using a2, (Fr.keeps (Fr.app K _)).trans a3, fun b hb => ?_⟩
  rcases a4 b hb with h | h
  · exact .inl h
  · simp at h
    exact .inr (by omega)
/-- A row behind which another one is put. -/
theorem Own.join {K : Hp} {v w : AV} {es fs : List Int} (h : Own 1 K v (ints es)) (hw : Row 1 K w (ints fs)) (hl : es.length + fs.length ≤ 2097152) :
    ∃ u K', appendA 1 8 K v w = some (u, K') ∧ Own 1 K' u (ints (es ++ fs)) ∧ Keeps v.at K K' ∧ ∀ b, u.at b → v.at b ∨ K.length ≤ b := by
  obtain ⟨u, K', a1, a2, a3, a4⟩ := h.append (bytes := 8) (x := w) (new := ints fs) (by decide) (by have := hw.whole; simpa using this) (ints_one fs) (by simp; omega) (by simp; omega)
  exact ⟨u, K', a1, by simpa [ints_append] using a2, a3, a4⟩
/-- A part of a row of numbers. -/
theorem Row.cut {K : Hp} {v : AV} {A B C : List Int} (h : Row 1 K v (ints (A ++ B ++ C))) (lo hi : Option AV) (hlo : boundA 0 lo = some (A.length : Int)) (hhi : boundA ((A.length + B.length + C.length : Nat) : Int) hi = some ((A.length + B.length : Nat) : Int)) : ∃ u, sliceA v lo hi = some u ∧ Row 1 K u (ints B) ∧ ∀ b, u.at b → v.at b := by
  obtain ⟨u, p1, p2, p3⟩ := h.part A.length (A.length + B.length) (by omega) (by simp) lo hi hlo (by rw [ints_length, List.length_append, List.length_append]; exact hhi)
  refine ⟨u, p1, ?_, p3⟩
  have : ((ints (A ++ B ++ C)).drop A.length).take (A.length + B.length - A.length) = ints B := by
    simp [ints]
  rwa [this] at p2
end Go.Proofs.Ythihphgfblonoaa.Am
