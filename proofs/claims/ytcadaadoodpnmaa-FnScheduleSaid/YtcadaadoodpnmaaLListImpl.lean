/- The list schedule, the program's way. No condition. -/
import Derived.Test.YtcadaadoodpnmaaLListSpec
import Derived.Test.YtcadaadoodpnmaaLFuncs
namespace Go.Proofs.Ytcadaadoodpnmaa.Am
open Go Go.RowKit
set_option linter.unusedSimpArgs false
set_option linter.unusedVariables false

theorem ons_set {l : List Task} {s : List Int} {k : Nat} {m x : Int} {t : Task} (hk : s[k]? = some x) (hx : x < 0) (hm : 0 ≤ m) (ht : l[k]? = some t) (hl : 1 ≤ t.long) : ons (l.zip (s.set k m)) m = ons (l.zip s) m + 1 := by
  induction s generalizing k l with
  | nil => simp at hk
  | cons a s ih =>
    cases l with
    | nil => simp at ht
    | cons t0 l =>
      cases k with
      | zero =>
        simp at hk ht
        subst hk ht
        have h1 : ¬ 0 ≤ a := by omega
        have h2 : m < m + t0.long := by omega
        simp [ons, List.countP_cons, h1, h2, hm]
      | succ k =>
        simp at hk ht
        have := ih hk ht
        simp only [ons, List.set_cons_succ, List.zip_cons_cons, List.countP_cons] at this ⊢
        omega
def waitOn (l : List Task) (s : List Int) (m : Int) (a : Int) : Prop := stt s a.toNat < 0 ∨ m < stt s a.toNat + lng l a.toNat
instance (l : List Task) (s : List Int) (m a : Int) : Decidable (waitOn l s m a) := inferInstanceAs (Decidable (_ ∨ _))
theorem ready_wait (l : List Task) (s : List Int) (k : Nat) (m : Int) : Ready l s k m ↔ stt s k < 0 ∧ ¬ ∃ a ∈ aft l k, waitOn l s m a := by
  unfold Ready waitOn
  refine and_congr_right fun _ => ?_
  constructor
  · rintro h ⟨a, ha, h2⟩
    have := h a ha
    omega
  · intro h a ha
    refine Classical.byContradiction fun h2 => h ⟨a, ha, ?_⟩
    omega
abbrev tLT' : Ty := ⟨.slice 49, 1, 24, [.nil], false⟩
abbrev tLI' : Ty := ⟨.slice 3, 1, 24, [.nil], false⟩
theorem w1_ok (l : List Task) (s : List Int) (us : List AV) (v w : AV) (b1 b2 b3 : Nat) (m : Int) (o : List Int) (H : Hp) (hg : GoodT l) (hs : s.length = l.length) (hb : ∀ x ∈ s, -1 ≤ x ∧ x ≤ 100000) (hv : TRow H v l us) (hw : Row 1 H w (ints s))
    (h1 : loadA tLI' H (.ptr b1 0) = some w) (h2 : loadA tLT' H (.ptr b2 0) = some v) (h3 : loadA tI H (.ptr b3 0) = some (.int .i64 m)) (hl : ∀ a ∈ o, 0 ≤ a ∧ a < l.length) :
    Asks 74 [.ptr b1 0, .ptr b2 0, .ptr b3 0] (waitOn l s m) o H := by
  intro K a hK ha
  refine T.by tabOk Try.func74 (by kernel_rfl) rfl _ (by simp [Try.f74]) K _ ?_
  simp [Try.f74]
  have hga := hl a ha
  obtain ⟨i, rfl⟩ := Int.eq_ofNat_of_zero_le hga.1
  have hil : i < l.length := by omega
  obtain ⟨t2, ht2, hl2, _⟩ := lng_get hil
  have hx := stt_get (s := s) (by omega : i < s.length)
  have hxb := hb _ (List.mem_of_getElem? hx)
  have hlb := lng_le hg i
  obtain ⟨b4, c4, _, j1, j2⟩ := Row.get1 hw (tab := tab) (e := 3) (ety := tI) rfl rfl rfl hx .i64
  obtain ⟨b5, c5, u5, _, k1, _, k3, _, _⟩ := hv.get (e := 49) rfl ht2
  have hw2 := wrap64 (x := stt s i + t2.long) (by omega) (by omega)
  refine W_draw mixed (.look 0 (.look 1 (.look 2 (.look 3 (.look 4 (.look 5 (.look 6 (.look 7 (.look 8 (.look 9 (.look 10 (.look 11 (.look 12 (.look 13 (.look 14 (.look 15 (.look 16 (.look 17 (.look 18 (.act 19 [] .done .stop)))))))))))))))))))) (by kernel_rfl) ?_
  by_cases c1 : stt s i < 0
  · simp (maxDischargeDepth := 9) [tab, hK.index, hK.load, h1, h2, h3, j1, j2, c1, waitOn]
    exact Fr.refl _
  by_cases c2 : m < stt s i + t2.long
  · simp (maxDischargeDepth := 9) [tab, hK.index, hK.load, h1, h2, h3, j1, j2, k1, k3, c1, hw2, c2, waitOn, hl2]
    exact Fr.refl _
  · simp (maxDischargeDepth := 9) [tab, hK.index, hK.load, h1, h2, h3, j1, j2, k1, k3, c1, hw2, c2, waitOn, hl2]
    exact Fr.refl _
/-- What memory holds while the list is made. -/
structure Bx (H : Hp) (v : AV) (c len : Nat) (s : List Int) (K : Hp) : Prop where
  fr : Fr H K
  lt : H.length + 1 < c
  b3 : K[H.length]? = some (some ⟨1, true, [v]⟩)
  b8 : K[c]? = some (some ⟨1, true, [.sl (H.length + 1) 0 len]⟩)
  own : Own 1 K (.sl (H.length + 1) 0 len) (ints s)
theorem Bx.keeps {H : Hp} {v : AV} {c len : Nat} {s : List Int} {K K' : Hp} {X : Nat → Prop} (h : Bx H v c len s K) (k : Keeps X K K') (hX : ∀ b, X b → c < b) : Bx H v c len s K' :=
  ⟨Fr.then h.fr k fun b hb => by have := hX b hb; have := h.lt; omega, h.lt, k.2 _ _ h.b3 fun hx => by have := hX _ hx; have := h.lt; omega, k.2 _ _ h.b8 fun hx => by have := hX _ hx; omega, h.own.keeps k fun b hb hx => by
    have h1 : H.length + 1 = b := hb
    have := hX _ hx
    have := h.lt
    omega⟩
theorem Bx.app {H : Hp} {v : AV} {c len : Nat} {s : List Int} {K : Hp} (h : Bx H v c len s K) (L : Hp) : Bx H v c len s (K ++ L) := h.keeps (Fr.app K L) fun _ h => h.elim
theorem Bx.l3 {H : Hp} {v : AV} {c len : Nat} {s : List Int} {K : Hp} (h : Bx H v c len s K) : loadA tLT' K (.ptr H.length 0) = some v := load_at h.b3 rfl rfl rfl
theorem Bx.l8 {H : Hp} {v : AV} {c len : Nat} {s : List Int} {K : Hp} (h : Bx H v c len s K) : loadA tLI' K (.ptr c 0) = some (.sl (H.length + 1) 0 len) := load_at h.b8 rfl rfl rfl
theorem Bx.put {H : Hp} {v : AV} {c len : Nat} {s : List Int} {K : Hp} (h : Bx H v c len s K) {i : Nat} {x : Int} (hx : s[i]? = some x) (y : Int) : indexAddrA tab (.slice 3) K (.sl (H.length + 1) 0 len) (.int .i64 i) = some (.ptr (H.length + 1) i) ∧
    ∃ K', storeA tI K (.ptr (H.length + 1) i) (.int .i64 y) = some K' ∧ Bx H v c len (s.set i y) K' ∧ Keeps (fun b => H.length + 1 = b) K K' ∧ K'.length = K.length := by
  obtain ⟨b', hb', g1, g2⟩ := h.own.store (tab := tab) (e := 3) (ety := tI) rfl (i := i) (c := [.int .i64 x]) (ints_get hx) .i64
  obtain ⟨K2, g3, g4, g5, g6⟩ := g2 tI 0 (.int .i64 y) rfl rfl (by decide)
  have e : (ints s).set i (over [.int .i64 x] 0 [.int .i64 y]) = ints (s.set i y) := by simp [ints, List.map_set]
  simp only [cells_int, e] at g4
  simp only [AV.sl.injEq] at hb'
  obtain ⟨rfl, _, _⟩ := hb'
  simp at g1 g3
  have hne : ∀ b, (AV.sl (H.length + 1) 0 len).at b → H.length + 1 = b := fun b hb => hb
  refine ⟨g1, K2, g3, ⟨Fr.then h.fr g5 fun b hb => by have := hne b hb; omega, h.lt, g5.2 _ _ h.b3 fun hx => by have := hne _ hx; omega, g5.2 _ _ h.b8 fun hx => by have := hne _ hx; have := h.lt; omega, g4⟩, g5, g6⟩
set_option maxRecDepth 100000 in
theorem listTimes_ok (l : List Task) (n : Int) (o : List Int) (q : List Int × Int) (us : List AV) (v w : AV) (H : Hp) (hok : LOk l n o) (hmm : ∀ t ∈ l, t.after.length ≤ 1048576) (hmo : o.length ≤ 1048576) (hq : Sim l n o 0 (List.replicate l.length (-1), 0) q) (hv : TRow H v l us) (hw : Row 1 H w (ints o)) : T Try.prog 61 [v, .int .i64 n, w] H (fun r K => ∃ out, r = .tup [out, .int .i64 q.2] ∧ Own 1 K out (ints q.1) ∧ Fresh H.length out ∧ Fr H K) := by
  refine T.by tabOk Try.func61 (by kernel_rfl) rfl _ (by simp [Try.f61]) H _ ?_
  obtain ⟨hg, hn, ho⟩ := hok
  have hl12 := hg.1
  have hlen := hv.count 49
  have hlw := hw.len 3
  obtain ⟨K0, m1, m2, m3⟩ := make_ok (ety := tI) (K := H ++ [some ⟨1, true, [v]⟩]) (n := l.length) rfl (by decide) (by simp; omega) (by omega)
  have hc0 := m2.lt _ rfl
  simp at m1 m2 hc0
  have B0 : Bx H v K0.length l.length (List.replicate l.length 0) (K0 ++ [some ⟨1, true, [.sl (H.length + 1) 0 l.length]⟩]) := by
    refine ⟨((Fr.app H _).trans m3).trans (Fr.app _ _), by omega, ?_, by simp, ?_⟩
    · exact (Fr.app K0 _).2 _ _ (m3.2 _ _ (by simp) id) id
    · have := m2.fr (Fr.app K0 [some ⟨1, true, [.sl (H.length + 1) 0 l.length]⟩])
      simpa [ints] using this
  have hl8 := B0.l8
  simp [Try.f61, tab, hlen, hv.row.one, hv.row.self, m1]
  refine W_loop _ fun I hI => ?_
  have key : ∀ (j i : Nat) (ts : TS) (K : Hp), i + j = l.length → Bx H v K0.length l.length (List.replicate i (-1) ++ List.replicate j 0) K → (ts 1 = .int .i64 n ∧ ts 2 = w ∧ ts 3 = .ptr H.length 0 ∧ ts 8 = .ptr K0.length 0 ∧ ts 23 = .int .i64 l.length ∧ ts 24 = .int .i64 i) → I ts K := by
    intro j
    induction j with
    | succ j ih =>
      intro i ts K e hB hts
      apply hI
      have hlt : (i : Int) < l.length := by omega
      have hw1 := wrap64 (x := i + 1) (by omega) (by omega)
      obtain ⟨g1, K2, g3, g4, g5, g6⟩ := hB.put (i := i) (x := 0) (by rw [List.getElem?_append_right (by simp)]; simp [List.replicate_succ]) (-1)
      simp [hts, tab, hlt, hB.l8, g1, g3, hw1]
      refine ih (i + 1) _ _ (by omega) ?_ (by simp [hts])
      have e : (List.replicate i (-1) ++ List.replicate (j + 1) 0).set i (-1) = List.replicate (i + 1) (-1) ++ List.replicate j (0 : Int) := by
        rw [List.set_append_right _ _ (by simp), List.replicate_succ' (n := i)]
        simp [List.replicate_succ]
      rw [e] at g4
      exact g4
    | zero =>
      intro i ts K e hB hts
      apply hI
      obtain rfl : i = l.length := by omega
      simp at hB
      simp [hts, tab]
      refine W_loop _ fun I2 hI2 => ?_
      have key2 : ∀ (m : Nat) (p q' : List Int × Int), Sim l n o m p q' → q' = q → Inv1 l m p.1 → 0 ≤ p.2 → p.2 ≤ 20000 → ∀ (ts : TS) (K : Hp) (d : Nat), Bx H v K0.length l.length p.1 K → K0.length < d → K[d]? = some (some ⟨1, true, [.int .i64 m]⟩) → (ts 1 = .int .i64 n ∧ ts 2 = w ∧ ts 3 = .ptr H.length 0 ∧ ts 8 = .ptr K0.length 0 ∧ ts 10 = .int .i64 ((l.length : Int) - unb p.1) ∧ ts 11 = .int .i64 p.2 ∧ ts 12 = .ptr d 0) → I2 ts K := by
        intro m p q' hs
        induction hs with
        | @stop m p h0 =>
          intro hqq hinv he0 he1 ts K d hB hd hb12 hts
          apply hI2
          subst hqq
          simp [hts, tab, h0, hB.l3, hB.l8, hlen]
          exact ⟨hB.own, fun b hb => by have : H.length + 1 = b := hb; omega, hB.fr⟩
        | @go m p q' hm1 hu hs ih2 =>
          intro hqq hinv he0 he1 ts K d hB hd hb12 hts
          apply hI2
          have hul := unb_le p.1
          have hsl := hinv.len
          have hlt0 : (l.length : Int) - unb p.1 < l.length := by omega
          have hbs : ∀ x ∈ p.1, -1 ≤ x ∧ x ≤ 100000 := fun x hx => ⟨hinv.lo x hx, by have := hinv.hi x hx; omega⟩
          have hfit := fits_of hg hbs
          have hzl : (l.zip p.1).length = l.length := by simp [hsl]
          have hl12' := load_at hb12 (ty := tI) rfl rfl (o := 0) rfl
          simp [hts, tab, hlt0, hu, hB.l3, hB.l8, hlen]
          refine W_loop _ fun I3 hI3 => ?_
          have key3 : ∀ (r z1 : Ts) (ts : TS), l.zip p.1 = z1 ++ r → (ts 1 = .int .i64 n ∧ ts 2 = w ∧ ts 3 = .ptr H.length 0 ∧ ts 8 = .ptr K0.length 0 ∧ ts 10 = .int .i64 ((l.length : Int) - unb p.1) ∧ ts 11 = .int .i64 p.2 ∧ ts 12 = .ptr d 0 ∧ ts 13 = .int .i64 (ons z1 m) ∧ ts 37 = .sl (H.length + 1) 0 l.length ∧ ts 38 = .int .i64 l.length ∧ ts 39 = .int .i64 z1.length) → I3 ts K := by
            intro r
            induction r with
            | nil =>
              intro z1 ts ez hts
              apply hI3
              simp at ez
              subst ez
              have hnl : ¬ ((l.zip p.1).length : Int) < l.length := by omega
              simp [hts, tab, hsl, hlw]
              refine W_loop _ fun I4 hI4 => ?_
              have key4 : ∀ (r o1 : List Int) (p' : List Int × Int) (ts : TS) (K : Hp), o = o1 ++ r → pass l n m r p' = pass l n m o p → Inv1 l ((m : Int) + 1) p'.1 → 0 ≤ p'.2 → p'.2 ≤ 20000 → Bx H v K0.length l.length p'.1 K → K[d]? = some (some ⟨1, true, [.int .i64 m]⟩) → (ts 1 = .int .i64 n ∧ ts 2 = w ∧ ts 3 = .ptr H.length 0 ∧ ts 8 = .ptr K0.length 0 ∧ ts 10 = .int .i64 ((l.length : Int) - unb p'.1) ∧ ts 11 = .int .i64 p'.2 ∧ ts 12 = .ptr d 0 ∧ ts 13 = .int .i64 (ons (l.zip p'.1) m) ∧ ts 60 = w ∧ ts 61 = .int .i64 o.length ∧ ts 62 = .int .i64 o1.length) → I4 ts K := by
                intro r
                induction r with
                | nil =>
                  intro o1 p' ts K eo ep hinv he0 he1 hB hb12 hts
                  apply hI4
                  simp at eo
                  subst eo
                  have ep : p' = pass l n m o p := ep
                  subst ep
                  have hw1 := wrap64 (x := m + 1) (by omega) (by omega)
                  have hl12' := load_at hb12 (ty := tI) rfl rfl (o := 0) rfl
                  simp (maxDischargeDepth := 9) [hts, tab, hl12', hw1]
                  exact ih2 hqq (by exact_mod_cast hinv) he0 he1 _ _ K.length (hB.app _) (lt_of_get hB.b8) (by simp) (by simp [hts])
                | cons k r ih4 =>
                  intro o1 p' ts K eo ep hinv he0 he1 hB hb12 hts
                  apply hI4
                  have hk := ho.2.1 k (by simp [eo])
                  obtain ⟨i, rfl⟩ := Int.eq_ofNat_of_zero_le hk.1
                  have hil : i < l.length := by omega
                  have hlt : (o1.length : Int) < o.length := by simp [eo]; omega
                  have hsl := hinv.len
                  have hbs : ∀ x ∈ p'.1, -1 ≤ x ∧ x ≤ 100000 := fun x hx => ⟨hinv.lo x hx, by have := hinv.hi x hx; omega⟩
                  have hK := hB.fr
                  obtain ⟨b1, c1, _, e1, e2⟩ := Row.get1 hw (tab := tab) (e := 3) (ety := tI) rfl rfl rfl (i := o1.length) (a := (i : Int)) (by simp [eo]) .i64
                  obtain ⟨t, ht, hlg, haft⟩ := lng_get hil
                  obtain ⟨b2, c2, u, _, f1, _, f3, f4, hr⟩ := hv.get (e := 49) rfl ht
                  have hlb := lng_le hg i
                  have hgt := hg.2 i t ht
                  have hal := hmm t (List.mem_of_getElem? ht)
                  have hw1 := wrap64 (x := o1.length + 1) (by omega) (by omega)
                  have ep : pass l n m r (stepS l n m p' i) = pass l n m o p := ep
                  have hstep := hinv.step (l := l) (n := n) (m := m) (by omega) (i : Int)
                  have hl12' := load_at hb12 (ty := tI) rfl rfl (o := 0) rfl
                  have hul := unb_le p'.1
                  have hol : ons (l.zip p'.1) m ≤ (l.zip p'.1).length := List.countP_le_length
                  have hzl' : (l.zip p'.1).length = l.length := by simp [hsl]
                  simp (maxDischargeDepth := 9) [hts, tab, hlt, hK.index, hK.load, e1, e2, hB.l3, f1, f4]
                  refine (containsFunc_ok t.after u _ _ (waitOn l p'.1 m) K (by omega) (hr.fr hK) (w1_ok l p'.1 us v _ _ _ _ m t.after K hg hsl hbs (hv.fr hK) hB.own.row hB.l8 hB.l3 hl12' (fun a ha => by
                    obtain ⟨j, hj⟩ := List.mem_iff_getElem?.1 ha
                    have := hgt.2.2 j a hj
                    omega))).mono fun y K1 ⟨y1, y2⟩ => ?_
                  subst y1
                  have B1 := hB.keeps y2 fun _ h => h.elim
                  have hb1 := y2.2 _ _ hb12 id
                  have hK1 := B1.fr
                  have hl1 := load_at hb1 (ty := tI) rfl rfl (o := 0) rfl
                  have hx := stt_get (s := p'.1) (by omega : i < p'.1.length)
                  obtain ⟨b4, c4, _, j1, j2⟩ := Row.get1 B1.own.row (tab := tab) (e := 3) (ety := tI) rfl rfl rfl hx .i64
                  have hcan : Can l n p'.1 i m ↔ (ons (l.zip p'.1) m : Int) < n ∧ stt p'.1 i < 0 ∧ ¬ ∃ a ∈ t.after, waitOn l p'.1 m a := by
                    unfold Can
                    rw [ready_wait, haft]
                  have skip : ¬ Can l n p'.1 i m → ∀ ts' : TS, (ts' 1 = .int .i64 n ∧ ts' 2 = w ∧ ts' 3 = .ptr H.length 0 ∧ ts' 8 = .ptr K0.length 0 ∧ ts' 10 = .int .i64 ((l.length : Int) - unb p'.1) ∧ ts' 11 = .int .i64 p'.2 ∧ ts' 12 = .ptr d 0 ∧ ts' 13 = .int .i64 (ons (l.zip p'.1) m) ∧ ts' 60 = w ∧ ts' 61 = .int .i64 o.length ∧ ts' 62 = .int .i64 (o1 ++ [(i : Int)]).length) → I4 ts' K1 := fun hc ts' hts' => by
                    have hst : stepS l n m p' i = p' := by simp only [stepS, Int.toNat_natCast, if_neg hc]
                    exact ih4 (o1 ++ [(i : Int)]) p' _ _ (by simp [eo]) (by rw [hst] at ep; exact ep) hinv he0 he1 B1 hb1 hts'
                  by_cases d1 : (ons (l.zip p'.1) m : Int) < n
                  case neg =>
                    simp [hts, tab, d1, hw1]
                    exact skip (fun h => d1 (hcan.1 h).1) _ (by simp [hts])
                  by_cases d2 : stt p'.1 i < 0
                  case neg =>
                    simp [hts, tab, d1, B1.l8, j1, j2, d2, hw1]
                    exact skip (fun h => d2 (hcan.1 h).2.1) _ (by simp [hts])
                  by_cases d3 : ∃ a ∈ t.after, waitOn l p'.1 m a
                  case pos =>
                    rw [decide_eq_true d3]
                    simp [hts, tab, d1, B1.l8, j1, j2, d2, hw1]
                    exact skip (fun h => (hcan.1 h).2.2 d3) _ (by simp [hts])
                  rw [decide_eq_false d3]
                  have hc := hcan.2 ⟨d1, d2, d3⟩
                  have hst : stepS l n m p' i = (p'.1.set i m, max p'.2 (m + lng l i)) := by simp only [stepS, Int.toNat_natCast, if_pos hc]
                  rw [hst] at ep hstep
                  have hun := unb_set hx d2 (by omega : (0 : Int) ≤ m)
                  have hos := ons_set hx d2 (by omega : (0 : Int) ≤ m) ht hgt.1
                  obtain ⟨g1, K2, g3, g4, g5, g6⟩ := B1.put hx m
                  have hb2 := g5.2 _ _ hb1 (by omega)
                  have hl2 := load_at hb2 (ty := tI) rfl rfl (o := 0) rfl
                  have hK2 := g4.fr
                  rw [j1] at g1
                  cases g1
                  have hw2 := wrap64 (x := (l.length : Int) - unb p'.1 + 1) (by omega) (by omega)
                  have hw3 := wrap64 (x := m + t.long) (by omega) (by omega)
                  have hw4 := wrap64 (x := (ons (l.zip p'.1) m : Int) + 1) (by omega) (by omega)
                  simp [hts, tab, d1, B1.l8, j1, j2, d2, hl1, g3]
                  refine W_draw mixed (.look 0 (.look 1 (.look 2 (.look 3 (.look 4 (.look 5 (.look 6 (.look 7 (.look 8 (.act 9 [] .done .stop)))))))))) (by kernel_rfl) ?_
                  simp (maxDischargeDepth := 9) [hts, tab, hl2, g4.l3, hK2.index, hK2.load, f1, f3, hw1, hw2, hw3, hw4]
                  refine ih4 (o1 ++ [(i : Int)]) _ _ _ (by simp [eo]) ep hstep (by simp only; omega) (by simp only; omega) g4 hb2 ?_
                  simp [hts]
                  omega
              exact key4 o [] p _ _ rfl rfl ⟨hinv.len, hinv.lo, fun x hx => by have := hinv.hi x hx; omega⟩ he0 he1 hB hb12 (by simp [hts])
            | cons a r ih3 =>
              intro z1 ts ez hts
              apply hI3
              obtain ⟨t, x⟩ := a
              have hlt : (z1.length : Int) < l.length := by rw [← hzl]; simp [ez]; omega
              have hzi : (l.zip p.1)[z1.length]? = some (t, x) := by simp [ez]
              have hti := (List.getElem?_zip_eq_some.1 hzi).1
              have hxi := (List.getElem?_zip_eq_some.1 hzi).2
              have hxm := hinv.hi x (List.mem_of_getElem? hxi)
              have hst := hfit.st (t, x) (List.mem_of_getElem? hzi)
              have hlo := hfit.long (t, x) (List.mem_of_getElem? hzi)
              simp only at hst hlo
              have hql : ons z1 m ≤ z1.length := List.countP_le_length
              obtain ⟨b1, c1, _, e1, e2⟩ := Row.get1 hB.own.row (tab := tab) (e := 3) (ety := tI) rfl rfl rfl hxi .i64
              obtain ⟨b2, c2, u, _, f1, _, f3, _⟩ := hv.get (e := 49) rfl hti
              have hw1 := wrap64 (x := z1.length + 1) (by omega) (by omega)
              have hw2 := wrap64 (x := ons z1 m + 1) (by omega) (by omega)
              have hw3 := wrap64 (x := x + t.long) (by omega) (by omega)
              have hon : ons (z1 ++ [(t, x)]) m = ons z1 m + (if 0 ≤ x ∧ x ≤ m ∧ m < x + t.long then 1 else 0) := by
                simp [ons, List.countP_append, List.countP_cons]
              have hKf := hB.fr
              simp [hts, tab, hlt, e1, e2]
              refine W_draw mixed (.look 0 (.look 1 (.look 2 (.look 3 (.look 4 (.look 5 (.look 6 (.look 7 (.look 8 (.look 9 (.look 10 (.look 11 (.look 12 .done))))))))))))) (by kernel_rfl) ?_
              by_cases d1 : 0 ≤ x
              · by_cases d2 : (m : Int) < x + t.long
                · rw [if_pos ⟨d1, by omega, d2⟩] at hon
                  simp (maxDischargeDepth := 9) [hts, tab, d1, d2, hB.l3, hKf.index, hKf.load, f1, f3, hw1, hw2, hw3, hl12']
                  exact ih3 (z1 ++ [(t, x)]) _ (by simp [ez]) (by simp [hts, hon])
                · rw [if_neg (fun h => d2 h.2.2)] at hon
                  simp (maxDischargeDepth := 9) [hts, tab, d1, d2, hB.l3, hKf.index, hKf.load, f1, f3, hw1, hw2, hw3, hl12']
                  exact ih3 (z1 ++ [(t, x)]) _ (by simp [ez]) (by simp [hts, hon])
              · rw [if_neg (fun h => d1 h.1)] at hon
                simp (maxDischargeDepth := 9) [hts, tab, d1, hw1, hw2]
                exact ih3 (z1 ++ [(t, x)]) _ (by simp [ez]) (by simp [hts, hon])
          exact key3 (l.zip p.1) [] _ rfl (by simp [hts, ons])
      have h0 : unb (List.replicate l.length (-1)) = l.length := by simp [unb, List.countP_replicate]
      have hKK := hB.l3
      refine key2 0 _ q hq rfl ⟨by simp, fun x hx => by rw [List.eq_of_mem_replicate hx]; omega, fun x hx => by rw [List.eq_of_mem_replicate hx]; omega⟩ (by simp) (by simp) _ _ K.length (hB.app _) (lt_of_get hB.b8) (by simp) (by simp [hts, h0])
  exact key l.length 0 _ _ (by omega) (by simpa using B0) (by simp)
theorem implList_ok (l : List Task) (n : Int) (o : List Int) (q : List Int × Int) (us : List AV) (v w : AV) (H : Hp) (hm : l.length ≤ 1048576) (hmm : ∀ t ∈ l, t.after.length ≤ 1048576) (hmo : o.length ≤ 1048576) (hq : LOk l n o → Sim l n o 0 (List.replicate l.length (-1), 0) q) (hv : TRow H v l us) (hw : Row 1 H w (ints o)) : T Try.prog 34 [v, .int .i64 n, w] H (LAns l n o q H) := by
  refine T.by tabOk Try.func34 (by kernel_rfl) rfl _ (by simp [Try.f34]) H _ ?_
  have hlen := hv.count 49
  simp [Try.f34]
  refine (implGood0_ok l us v H hm hmm hv).mono fun r K ⟨⟨t, h1, h2⟩, hK⟩ => ?_
  subst h1
  have no : ∀ {K : Hp}, Fr H K → ¬ LOk l n o → LAns l n o q H (.tup [.nil, .int .i64 0, .bool false]) K := fun hK h => ⟨hK, .inr ⟨h, rfl⟩⟩
  cases t with
  | false =>
    simp [tab]
    exact no hK fun h => by simpa using h2.2 h.1
  | true =>
    have hg := h2.1 rfl
    simp [tab]
    refine (in_ok n 1 4 K).mono fun r K1 ⟨e1, e2⟩ => ?_
    subst e1 e2
    by_cases hn : 1 ≤ n ∧ n ≤ 4
    case neg =>
      simp [tab, hn]
      exact no hK fun h => hn h.2.1
    simp [tab, hn, hlen]
    refine (isOrder_ok l.length o w K1 hm hmo (hw.fr hK)).mono fun r K2 ⟨⟨t, e1, e2⟩, e3⟩ => ?_
    subst e1 e3
    cases t with
    | false =>
      simp [tab]
      exact no hK fun h => by simpa using e2.2 h.2.2
    | true =>
      have hok : LOk l n o := ⟨hg, hn, e2.1 rfl⟩
      simp [tab]
      refine (listTimes_ok l n o q us v w K2 hok hmm hmo (hq hok) (hv.fr hK) (hw.fr hK)).mono fun r K3 ⟨out, a1, a2, a3, a4⟩ => ?_
      subst a1
      simp
      exact ⟨hK.trans a4, .inl ⟨hok, out, rfl, a2, a3.mono hK.1⟩⟩
end Go.Proofs.Ytcadaadoodpnmaa.Am
