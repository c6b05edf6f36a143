/- Schedules: no schedule is shorter than the least time, and a list schedule is never as long as twice that (Graham). No condition. -/
import Derived.Test.YtcadaadoodpnmaaLGraham
namespace Go.Proofs.Ytcadaadoodpnmaa.Am
open Go Go.RowKit
set_option linter.unusedSimpArgs false
set_option linter.unusedVariables false

structure Sch (l : List Task) (n : Int) (s : List Int) : Prop where
  len : s.length = l.length
  lo : ∀ i, i < l.length → 0 ≤ stt s i
  pre : ∀ i, i < l.length → ∀ a ∈ aft l i, stt s a.toNat + lng l a.toNat ≤ stt s i
  few : ∀ m : Int, 0 ≤ m → (ons (l.zip s) m : Int) ≤ n
theorem aft_lt {l : List Task} (hg : GoodT l) {i : Nat} {a : Int} (ha : a ∈ aft l i) : 0 ≤ a ∧ a.toNat < i ∧ i < l.length := by
  unfold aft at ha
  split at ha
  · rename_i t ht
    obtain ⟨j, hj⟩ := List.mem_iff_getElem?.1 ha
    have := (hg.2 i t ht).2.2 j a hj
    exact ⟨this.1, by have := this.2.1; omega, (List.getElem?_eq_some_iff.1 ht).1⟩
  · cases ha
theorem lng_pos {l : List Task} (hg : GoodT l) {i : Nat} (h : i < l.length) : 1 ≤ lng l i := by
  obtain ⟨t, h1, h2, _⟩ := lng_get h
  rw [h2]
  exact (hg.2 i t h1).1
theorem zip_get {l : List Task} {s : List Int} (hl : s.length = l.length) {i : Nat} (h : i < l.length) : ∃ t, l[i]? = some t ∧ t.long = lng l i ∧ t.after = aft l i ∧ (l.zip s)[i]? = some (t, stt s i) := by
  obtain ⟨t, h1, h2, h3⟩ := lng_get h
  exact ⟨t, h1, h2.symm, h3.symm, List.getElem?_zip_eq_some.2 ⟨h1, stt_get (by omega)⟩⟩
theorem zip_mem {l : List Task} {s : List Int} (hl : s.length = l.length) {p : Task × Int} (hp : p ∈ l.zip s) : ∃ i, i < l.length ∧ p.1.long = lng l i ∧ p.2 = stt s i ∧ p.1.after = aft l i := by
  obtain ⟨i, hi⟩ := List.mem_iff_getElem?.1 hp
  have hlt : i < l.length := by
    have := (List.getElem?_eq_some_iff.1 hi).1
    simp at this
    omega
  obtain ⟨t, h1, h2, h3, h4⟩ := zip_get hl hlt
  rw [h4] at hi
  cases hi
  exact ⟨i, hlt, h2, rfl, h3⟩
theorem last_of {α : Type} (f : α → Int) (P : α → Prop) : ∀ (z : List α), (∃ p ∈ z, P p) → ∃ p ∈ z, P p ∧ ∀ q ∈ z, P q → f q ≤ f p
  | [], h => by obtain ⟨p, h, _⟩ := h; cases h
  | x :: z, h => by
    by_cases hz : ∃ p ∈ z, P p
    · obtain ⟨p, h1, h2, h3⟩ := last_of f P z hz
      by_cases hx : P x ∧ f p ≤ f x
      · refine ⟨x, by simp, hx.1, fun q hq hP => ?_⟩
        rcases List.mem_cons.1 hq with rfl | hq
        · exact Int.le_refl _
        · have := h3 q hq hP
          omega
      · refine ⟨p, by simp [h1], h2, fun q hq hP => ?_⟩
        rcases List.mem_cons.1 hq with rfl | hq
        · have : ¬ f p ≤ f q := fun h => hx ⟨hP, h⟩
          omega
        · exact h3 q hq hP
    · obtain ⟨p, h1, h2⟩ := h
      rcases List.mem_cons.1 h1 with rfl | h1
      · refine ⟨p, by simp, h2, fun q hq hP => ?_⟩
        rcases List.mem_cons.1 hq with rfl | hq
        · exact Int.le_refl _
        · exact absurd ⟨q, hq, hP⟩ hz
      · exact absurd ⟨p, h1, h2⟩ hz
theorem SAns.sch {l : List Task} {n : Int} {s : List Int} (h : SAns l n s) : Sch l n s := by
  obtain ⟨⟨hg, hn0, hn1, hl, hs⟩, hb⟩ := h
  have hs0 : ∀ i, i < l.length → 0 ≤ stt s i := fun i hi => (hs _ (List.mem_of_getElem? (stt_get (by omega)))).1
  refine ⟨hl, hs0, fun i hi a ha => ?_, fun m hm => ?_⟩
  · obtain ⟨h0, h1, h2⟩ := aft_lt hg ha
    obtain ⟨t, t1, t2, t3, t4⟩ := zip_get hl hi
    obtain ⟨u, u1, u2, u3, u4⟩ := zip_get hl (by omega : a.toNat < l.length)
    refine Classical.byContradiction fun hc => hb _ (List.mem_of_getElem? t4) (.inl ⟨a, by simpa [t3] using ha, _, u4, ?_⟩)
    simp only
    omega
  · by_cases hr : ∃ p ∈ l.zip s, 0 ≤ p.2 ∧ p.2 ≤ m ∧ m < p.2 + p.1.long
    · obtain ⟨p, h1, h2, h3⟩ := last_of (fun p : Task × Int => p.2) (fun p => 0 ≤ p.2 ∧ p.2 ≤ m ∧ m < p.2 + p.1.long) _ hr
      have h4 : ¬ n < ons (l.zip s) p.2 := fun h => hb p h1 (.inr h)
      have h5 : ons (l.zip s) m ≤ ons (l.zip s) p.2 := by
        refine List.countP_mono_left fun q hq hP => ?_
        simp only [decide_eq_true_eq] at hP ⊢
        have := h3 q hq hP
        omega
      omega
    · have : ons (l.zip s) m = 0 := by
        unfold ons
        rw [List.countP_eq_zero]
        intro p hp hP
        exact hr ⟨p, hp, by simpa using hP⟩
      omega
theorem Sch.chain {l : List Task} {n : Int} {s : List Int} (h : Sch l n s) (hg : GoodT l) {T : Int} (h0 : 0 ≤ T) (hT : ∀ i, i < l.length → stt s i + lng l i ≤ T) : chain l ≤ T := by
  have key : ∀ (d i : Nat), l.length - i = d → i < l.length → stt s i + rk l i ≤ T := by
    intro d
    induction d using Nat.strongRecOn with
    | _ d ih =>
      intro i hd hi
      rcases rk_is hi with e | ⟨j, h1, h2, h3, h4⟩
      · rw [e]
        exact hT i hi
      · have h5 := ih (l.length - j) (by omega) j rfl h2
        have h6 := h.pre j h2 i h3
        simp only [Int.toNat_natCast] at h6
        omega
  exact chain_le h0 fun i hi => by
    have := key _ i rfl hi
    have := h.lo i hi
    omega
theorem tot_le (f g : Nat → Nat) : ∀ T, (∀ t, t < T → f t ≤ g t) → tot f T ≤ tot g T
  | 0, _ => Nat.le_refl _
  | T + 1, h => by
    have := tot_le f g T fun t ht => h t (by omega)
    have := h T (by omega)
    simp only [tot]
    omega
theorem tot_const (c : Nat) : ∀ T, tot (fun _ => c) T = c * T
  | 0 => rfl
  | T + 1 => by simp only [tot, tot_const c T, Nat.mul_succ]
theorem tot_mul (c : Nat) (f : Nat → Nat) : ∀ T, tot (fun t => c * f t) T = c * tot f T
  | 0 => rfl
  | T + 1 => by simp only [tot, tot_mul c f T, Nat.mul_add]
theorem Sch.total {l : List Task} {n : Int} {s : List Int} (h : Sch l n s) (hg : GoodT l) {T : Nat} (hT : ∀ i, i < l.length → stt s i + lng l i ≤ T) : (tot (fun t => ons (l.zip s) t) T : Int) = work l := by
  rw [tot_ons T (l.zip s) fun p hp => ?_, fst_zip h.len]
  obtain ⟨i, hi, h1, h2, _⟩ := zip_mem h.len hp
  have := lng_pos hg hi
  have := h.lo i hi
  have := hT i hi
  omega
theorem Sch.work {l : List Task} {n : Int} {s : List Int} (h : Sch l n s) (hg : GoodT l) (hn : 0 ≤ n) {T : Nat} (hT : ∀ i, i < l.length → stt s i + lng l i ≤ T) : work l ≤ n * T := by
  rw [← h.total hg hT]
  have h1 := tot_le (fun t => ons (l.zip s) t) (fun _ => n.toNat) T fun t _ => by
    have := h.few t (by omega)
    omega
  rw [tot_const] at h1
  have h2 : ((n.toNat * T : Nat) : Int) = n * T := by rw [Int.natCast_mul, Int.toNat_of_nonneg hn]
  omega
/-! ### the list schedule -/
def Busy (l : List Task) (n : Int) (s : List Int) (k : Nat) (t : Int) : Prop := n ≤ ons (l.zip s) t ∨ ∃ a ∈ aft l k, stt s a.toNat < 0 ∨ t < stt s a.toNat + lng l a.toNat
structure Inv2 (l : List Task) (n m M : Int) (p : List Int × Int) : Prop where
  inv : Inv1 l m p.1
  pre : ∀ i, i < l.length → 0 ≤ stt p.1 i → ∀ a ∈ aft l i, 0 ≤ stt p.1 a.toNat ∧ stt p.1 a.toNat + lng l a.toNat ≤ stt p.1 i
  few : ∀ t : Int, 0 ≤ t → (ons (l.zip p.1) t : Int) ≤ n
  up : ∀ i, i < l.length → 0 ≤ stt p.1 i → stt p.1 i + lng l i ≤ p.2
  top : p.2 = 0 ∨ ∃ i, i < l.length ∧ 0 ≤ stt p.1 i ∧ p.2 = stt p.1 i + lng l i
  grd : ∀ i, i < l.length → ∀ t : Int, 0 ≤ t → t < M → (stt p.1 i < 0 ∨ t < stt p.1 i) → Busy l n p.1 i t
theorem stt_set {s : List Int} {k : Nat} (hk : k < s.length) (m : Int) (i : Nat) : stt (s.set k m) i = if i = k then m else stt s i := by
  unfold stt
  rw [List.getElem?_set]
  by_cases e : k = i
  · subst e
    simp [hk]
  · rw [if_neg e, if_neg fun h => e h.symm]
theorem ons_put (m t : Int) (hm : 0 ≤ m) : ∀ (l : List Task) (s : List Int) (k : Nat) (u : Task) (x : Int), l[k]? = some u → s[k]? = some x → x < 0 → ons (l.zip (s.set k m)) t = ons (l.zip s) t + if m ≤ t ∧ t < m + u.long then 1 else 0
  | [], _, _, _, _, h, _, _ => by simp at h
  | _ :: _, [], _, _, _, _, h, _ => by simp at h
  | a :: l, b :: s, 0, u, x, h1, h2, h3 => by
    simp at h1 h2
    subst h1 h2
    rw [List.set_cons_zero, List.zip_cons_cons, List.zip_cons_cons, ons_cons, ons_cons]
    have : ¬ (0 ≤ b ∧ b ≤ t ∧ t < b + a.long) := by omega
    simp only [if_neg this]
    by_cases c : m ≤ t ∧ t < m + a.long
    · rw [if_pos c, if_pos (by omega)]
    · rw [if_neg c, if_neg (by omega)]
  | a :: l, b :: s, k + 1, u, x, h1, h2, h3 => by
    have ih := ons_put m t hm l s k u x (by simpa using h1) (by simpa using h2) h3
    rw [List.set_cons_succ, List.zip_cons_cons, List.zip_cons_cons, ons_cons, ons_cons, ih]
    omega
theorem ons_late {l : List Task} {s : List Int} {m t : Int} (hi : ∀ x ∈ s, x ≤ m) (hmt : m ≤ t) : ons (l.zip s) t ≤ ons (l.zip s) m := by
  refine List.countP_mono_left fun q hq hP => ?_
  simp only [decide_eq_true_eq] at hP ⊢
  have := hi q.2 (List.of_mem_zip hq).2
  omega
theorem Busy.step {l : List Task} {n m : Int} {p : List Int × Int} (hg : GoodT l) (hl : p.1.length = l.length) (hm : 0 ≤ m) {i : Nat} {t : Int} (ht : t ≤ m) (h : Busy l n p.1 i t) (k : Int) (hk : 0 ≤ k ∧ k < l.length) : Busy l n (stepS l n m p k).1 i t := by
  unfold stepS
  split
  case isFalse => exact h
  rename_i hc
  have hkl : k.toNat < l.length := by omega
  obtain ⟨u, u1, u2, u3, u4⟩ := zip_get hl hkl
  have hlt : stt p.1 k.toNat < 0 := hc.2.1
  have hlg := lng_pos hg hkl
  rcases h with h | ⟨a, ha, h⟩
  · left
    simp only
    rw [ons_put m t hm l p.1 k.toNat u _ u1 (stt_get (by omega)) hlt]
    omega
  · right
    refine ⟨a, ha, ?_⟩
    simp only
    rw [stt_set (by omega)]
    by_cases e : a.toNat = k.toNat
    · rw [if_pos e, e]
      omega
    · rw [if_neg e]
      exact h
theorem Inv2.step {l : List Task} {n m : Int} {p : List Int × Int} (hg : GoodT l) (hm : 0 ≤ m) (h : Inv2 l n (m + 1) m p) (k : Int) (hk : 0 ≤ k ∧ k < l.length) : Inv2 l n (m + 1) m (stepS l n m p k) := by
  have hkl : k.toNat < l.length := by omega
  have hlg := lng_pos hg hkl
  have hl := h.inv.len
  obtain ⟨u, u1, u2, u3, u4⟩ := zip_get hl hkl
  refine ⟨h.inv.step hm k, ?_, ?_, ?_, ?_, fun i hi t h0 h1 h2 => ?_⟩
  · intro i hi h0 a ha
    unfold stepS at h0 ⊢
    split at h0
    case isFalse hc =>
      rw [if_neg hc]
      exact h.pre i hi h0 a ha
    rename_i hc
    rw [if_pos hc]
    simp only at h0 ⊢
    have hlt : stt p.1 k.toNat < 0 := hc.2.1
    rw [stt_set (by omega)] at h0
    rw [stt_set (by omega), stt_set (by omega)]
    by_cases e : i = k.toNat
    · subst e
      rw [if_pos rfl]
      have h5 := hc.2.2 a ha
      have h6 := aft_lt hg ha
      rw [if_neg (by omega)]
      exact h5
    · rw [if_neg e] at h0 ⊢
      have h5 := h.pre i hi h0 a ha
      rw [if_neg (fun e2 => by rw [e2] at h5; omega)]
      exact h5
  · intro t h0
    unfold stepS
    split
    case isFalse => exact h.few t h0
    rename_i hc
    simp only
    have hlt : stt p.1 k.toNat < 0 := hc.2.1
    rw [ons_put m t hm l p.1 k.toNat u _ u1 (stt_get (by omega)) hlt]
    have h5 := h.few t h0
    split
    · have h6 : ons (l.zip p.1) t ≤ ons (l.zip p.1) m := ons_late (fun x hx => by have := h.inv.hi x hx; omega) (by omega)
      have h7 := hc.1
      omega
    · omega
  · intro i hi h0
    unfold stepS at h0 ⊢
    split at h0
    case isFalse hc =>
      rw [if_neg hc]
      exact h.up i hi h0
    rename_i hc
    rw [if_pos hc]
    simp only at h0 ⊢
    rw [stt_set (by omega)] at h0 ⊢
    by_cases e : i = k.toNat
    · subst e
      rw [if_pos rfl]
      omega
    · rw [if_neg e] at h0 ⊢
      have := h.up i hi h0
      omega
  · unfold stepS
    split
    case isFalse => exact h.top
    rename_i hc
    simp only
    have hlt : stt p.1 k.toNat < 0 := hc.2.1
    by_cases e : p.2 ≤ m + lng l k.toNat
    · exact .inr ⟨k.toNat, hkl, by rw [stt_set (by omega), if_pos rfl]; exact hm, by rw [stt_set (by omega), if_pos rfl]; omega⟩
    · right
      rcases h.top with h5 | ⟨i, h5, h6, h7⟩
      · omega
      · exact ⟨i, h5, by rw [stt_set (by omega), if_neg (fun e2 => by rw [e2] at h6; omega)]; exact h6, by rw [stt_set (by omega), if_neg (fun e2 => by rw [e2] at h6; omega)]; omega⟩
  · refine Busy.step hg hl hm (by omega) (h.grd i hi t h0 h1 ?_) k hk
    unfold stepS at h2
    split at h2
    case isFalse => exact h2
    rename_i hc
    have hlt : stt p.1 k.toNat < 0 := hc.2.1
    simp only at h2
    rw [stt_set (by omega)] at h2
    by_cases e : i = k.toNat
    · subst e
      exact .inl hlt
    · rw [if_neg e] at h2
      exact h2
theorem step_set {l : List Task} {n m : Int} {p : List Int × Int} (hl : p.1.length = l.length) (hm : 0 ≤ m) (k : Int) (hk : 0 ≤ k ∧ k < l.length) (i : Nat) (h : 0 ≤ stt p.1 i) : 0 ≤ stt (stepS l n m p k).1 i := by
  unfold stepS
  split
  · simp only
    rw [stt_set (by omega)]
    split
    · exact hm
    · exact h
  · exact h
theorem Inv2.pass {l : List Task} {n m : Int} (hg : GoodT l) (hm : 0 ≤ m) (D : Nat → Prop) : ∀ (o : List Int) {p : List Int × Int}, (∀ k ∈ o, 0 ≤ k ∧ k < l.length) → Inv2 l n (m + 1) m p → (∀ i, i < l.length → D i → 0 ≤ stt p.1 i ∨ Busy l n p.1 i m) → Inv2 l n (m + 1) m (pass l n m o p) ∧ ∀ i, i < l.length → D i ∨ (i : Int) ∈ o → 0 ≤ stt (Am.pass l n m o p).1 i ∨ Busy l n (Am.pass l n m o p).1 i m
  | [], p, _, h, hD => ⟨h, fun i hi hd => hD i hi (hd.elim id fun h => by cases h)⟩
  | k :: o, p, ho, h, hD => by
    have hk := ho k (by simp)
    obtain ⟨h1, h2⟩ := Inv2.pass hg hm (fun i => D i ∨ (i : Int) = k) o (fun j hj => ho j (by simp [hj])) (h.step hg hm k hk) fun i hi hd => by
      rcases hd with hd | e
      · rcases hD i hi hd with h5 | h5
        · exact .inl (step_set h.inv.len hm k hk i h5)
        · exact .inr (Busy.step hg h.inv.len hm (by omega) h5 k hk)
      · subst e
        have hl := h.inv.len
        by_cases hc : Can l n p.1 i m
        · left
          simp only [stepS, Int.toNat_natCast, if_pos hc]
          rw [stt_set (by omega), if_pos rfl]
          exact hm
        · by_cases h0 : 0 ≤ stt p.1 i
          · exact .inl (step_set hl hm i hk i h0)
          · right
            have e2 : stepS l n m p i = p := by simp only [stepS, Int.toNat_natCast, if_neg hc]
            rw [e2]
            refine Classical.byContradiction fun hb => hc ⟨?_, by omega, fun a ha => ?_⟩
            · exact Classical.byContradiction fun h => hb (.inl (by omega))
            · exact Classical.byContradiction fun h => hb (.inr ⟨a, ha, by omega⟩)
    exact ⟨h1, fun i hi hd => h2 i hi (by
      rcases hd with hd | hd
      · exact .inl (.inl hd)
      · rcases List.mem_cons.1 hd with hd | hd
        · exact .inl (.inr hd)
        · exact .inr hd)⟩
theorem Sim.inv {l : List Task} {n : Int} {o : List Int} (hg : GoodT l) (ho : OrderT l.length o) {m : Nat} {p q : List Int × Int} (h : Sim l n o m p q) : Inv2 l n m m p → ∃ M : Int, Inv2 l n M M q ∧ unb q.1 = 0 := by
  induction h with
  | stop hu => exact fun h => ⟨_, h, hu⟩
  | @go m p q hm hu hs ih =>
    intro h
    have h1 : Inv2 l n ((m : Int) + 1) m p := ⟨⟨h.inv.len, h.inv.lo, fun x hx => by have := h.inv.hi x hx; omega⟩, h.pre, h.few, h.up, h.top, h.grd⟩
    obtain ⟨h2, h3⟩ := Inv2.pass hg (by omega : (0 : Int) ≤ m) (fun _ => False) o ho.2.1 h1 fun _ _ h => h.elim
    refine ih ⟨by exact_mod_cast h2.inv, h2.pre, h2.few, h2.up, h2.top, fun i hi t h4 h5 h6 => ?_⟩
    by_cases e : t < m
    · exact h2.grd i hi t h4 e h6
    · obtain rfl : t = m := by omega
      rcases h3 i hi (.inr (((order_iff _ _).1 ho).2 i hi)) with h7 | h7
      · have := h2.inv.stt (by omega) i
        omega
      · exact h7
structure Lst (l : List Task) (n : Int) (q : List Int × Int) : Prop where
  sch : Sch l n q.1
  up : ∀ i, i < l.length → stt q.1 i + lng l i ≤ q.2
  top : q.2 = 0 ∨ ∃ i, i < l.length ∧ q.2 = stt q.1 i + lng l i
  grd : ∀ i, i < l.length → ∀ t : Int, 0 ≤ t → t < stt q.1 i → n ≤ ons (l.zip q.1) t ∨ ∃ a ∈ aft l i, t < stt q.1 a.toNat + lng l a.toNat
theorem unb_zero {s : List Int} (h : unb s = 0) (i : Nat) : 0 ≤ stt s i := by
  unfold stt
  split
  · rename_i x hx
    have := List.countP_eq_zero.1 h x (List.mem_of_getElem? hx)
    simpa using this
  · omega
theorem Sim.lst {l : List Task} {n : Int} {o : List Int} (hg : GoodT l) (hn : 1 ≤ n) (ho : OrderT l.length o) {q : List Int × Int} (h : Sim l n o 0 (List.replicate l.length (-1), 0) q) : Lst l n q := by
  have hst : ∀ i, i < l.length → stt (List.replicate l.length (-1 : Int)) i = -1 := fun i hi => stt_of (by simp [List.getElem?_replicate, hi])
  obtain ⟨M, hM, hu⟩ := Sim.inv hg ho h ⟨⟨by simp, fun x hx => by rw [List.eq_of_mem_replicate hx]; omega, fun x hx => by rw [List.eq_of_mem_replicate hx]; omega⟩, fun i hi h0 => by rw [hst i hi] at h0; omega, fun t ht => by
    have : ons (l.zip (List.replicate l.length (-1))) t = 0 := by
      unfold ons
      rw [List.countP_eq_zero]
      intro p hp hP
      have := List.eq_of_mem_replicate (List.of_mem_zip hp).2
      simp at hP
      omega
    rw [this]
    omega, fun i hi h0 => by rw [hst i hi] at h0; omega, .inl rfl, fun i hi t h0 h1 => by omega⟩
  have h0 := unb_zero hu
  refine ⟨⟨hM.inv.len, fun i _ => h0 i, fun i hi a ha => (hM.pre i hi (h0 i) a ha).2, hM.few⟩, fun i hi => hM.up i hi (h0 i), ?_, fun i hi t ht hlt => ?_⟩
  · rcases hM.top with h | ⟨i, a, b, c⟩
    · exact .inl h
    · exact .inr ⟨i, a, c⟩
  · have hlM : stt q.1 i < M := hM.inv.hi _ (List.mem_of_getElem? (stt_get (by rw [hM.inv.len]; exact hi)))
    rcases hM.grd i hi t ht (by omega) (.inr hlt) with h | ⟨a, ha, h | h⟩
    · exact .inl h
    · have := h0 a.toNat
      omega
    · exact .inr ⟨a, ha, h⟩
theorem Lst.some {l : List Task} {n : Int} {q : List Int × Int} (h : Lst l n q) (hg : GoodT l) (hn : 1 ≤ n) : ∀ (i : Nat), i < l.length → ∀ t : Int, 0 ≤ t → t < stt q.1 i + lng l i → 1 ≤ ons (l.zip q.1) t := by
  intro i
  induction i using Nat.strongRecOn with
  | _ i ih =>
    intro hi t h0 h1
    by_cases hs : stt q.1 i ≤ t
    · obtain ⟨u, u1, u2, u3, u4⟩ := zip_get h.sch.len hi
      refine List.countP_pos_iff.2 ⟨_, List.mem_of_getElem? u4, ?_⟩
      have := h.sch.lo i hi
      simp only [decide_eq_true_eq]
      omega
    · rcases h.grd i hi t h0 (by omega) with h5 | ⟨a, ha, h5⟩
      · omega
      · have := aft_lt hg ha
        exact ih a.toNat this.2.1 (by omega) t h0 h5
/-- The moments at which something is free. -/
def idle (l : List Task) (n : Int) (s : List Int) (t : Nat) : Nat := if (ons (l.zip s) t : Int) < n then 1 else 0
theorem idle_le (l : List Task) (n : Int) (s : List Int) (t : Nat) : idle l n s t ≤ 1 := by
  unfold idle
  split <;> omega
theorem Lst.idles {l : List Task} {n : Int} {q : List Int × Int} (h : Lst l n q) (hg : GoodT l) : ∀ (i : Nat), i < l.length → (tot (idle l n q.1) (stt q.1 i + lng l i).toNat : Int) + rk l i - lng l i ≤ Am.chain l := by
  intro i
  induction i using Nat.strongRecOn with
  | _ i ih =>
    intro hi
    have hs0 := h.sch.lo i hi
    have hlg := lng_pos hg hi
    have e : (stt q.1 i + lng l i).toNat = (stt q.1 i).toNat + (lng l i).toNat := by omega
    have h1 := tot_more (idle l n q.1) (idle_le l n q.1) (stt q.1 i).toNat (lng l i).toNat
    rw [e]
    have h2 := chain_ge hi
    by_cases hex : ∃ a ∈ aft l i, True
    · obtain ⟨a, ha, _, hmax⟩ := last_of (fun a : Int => stt q.1 a.toNat + lng l a.toNat) (fun _ => True) _ hex
      have hal := aft_lt hg ha
      have h3 := ih a.toNat hal.2.1 (by omega)
      have h4 := h.sch.pre i hi a ha
      have h5 := rk_ge (l := l) hal.2.1 hi (by rw [Int.toNat_of_nonneg hal.1]; exact ha)
      have h6 := h.sch.lo a.toNat (by omega)
      have h7 := lng_pos hg (by omega : a.toNat < l.length)
      have h8 := tot_flat (idle l n q.1) (stt q.1 a.toNat + lng l a.toNat).toNat (stt q.1 i).toNat (by omega) fun t t1 t2 => by
        rcases h.grd i hi t (by omega) (by omega) with g | ⟨b, hb, g⟩
        · simp only [idle]
          rw [if_neg (by omega)]
        · have := hmax b hb trivial
          omega
      omega
    · have h8 := tot_flat (idle l n q.1) 0 (stt q.1 i).toNat (by omega) fun t t1 t2 => by
        rcases h.grd i hi t (by omega) (by omega) with g | ⟨b, hb, g⟩
        · simp only [idle]
          rw [if_neg (by omega)]
        · exact absurd ⟨b, hb, trivial⟩ hex
      simp only [tot] at h8
      omega
theorem Lst.graham {l : List Task} {n : Int} {q : List Int × Int} (h : Lst l n q) (hg : GoodT l) (hn : 1 ≤ n) : n * q.2 ≤ Am.work l + (n - 1) * Am.chain l := by
  have hc := chain_nonneg l
  have hw : 0 ≤ Am.work l := work_nonneg fun t ht => (hg.longs t ht).1
  have hp : 0 ≤ (n - 1) * Am.chain l := Int.mul_nonneg (by omega) hc
  rcases h.top with e | ⟨i, hi, e⟩
  · rw [e]
    omega
  · have h1 := h.idles hg i hi
    rw [← e] at h1
    have h2 := rk_low hi
    have h0 : 0 ≤ q.2 := by
      have := h.sch.lo i hi
      have := lng_pos hg hi
      omega
    have h3 := h.sch.total hg (T := q.2.toNat) fun j hj => by have := h.up j hj; omega
    have h4 := tot_le (fun _ => n.toNat) (fun t => ons (l.zip q.1) t + (n - 1).toNat * idle l n q.1 t) q.2.toNat fun t ht => by
      have h5 := h.some hg hn i hi t (by omega) (by omega)
      simp only [idle]
      split
      · omega
      · omega
    rw [tot_const, tot_add, tot_mul] at h4
    have h6 : ((n.toNat * q.2.toNat : Nat) : Int) = n * q.2 := by rw [Int.natCast_mul, Int.toNat_of_nonneg (by omega), Int.toNat_of_nonneg h0]
    have h7 : (((n - 1).toNat * tot (idle l n q.1) q.2.toNat : Nat) : Int) ≤ (n - 1) * Am.chain l := by
      rw [Int.natCast_mul, Int.toNat_of_nonneg (by omega)]
      exact Int.mul_le_mul_of_nonneg_left (by omega) (by omega)
    omega
end Go.Proofs.Ytcadaadoodpnmaa.Am
