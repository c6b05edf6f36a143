/- The list schedule, reckoned: it comes to its end. No condition. -/
import Derived.Test.YtcadaadoodpnmaaLSched
import Derived.Test.YtcadaadoodpnmaaLOrder
namespace Go.Proofs.Ytcadaadoodpnmaa.Am
open Go Go.RowKit
set_option linter.unusedSimpArgs false
set_option linter.unusedVariables false

def lng (l : List Task) (i : Nat) : Int := match l[i]? with | some t => t.long | none => 0
def aft (l : List Task) (i : Nat) : List Int := match l[i]? with | some t => t.after | none => []
def stt (s : List Int) (i : Nat) : Int := match s[i]? with | some x => x | none => 0
def Ready (l : List Task) (s : List Int) (k : Nat) (m : Int) : Prop := stt s k < 0 ∧ ∀ a ∈ aft l k, 0 ≤ stt s a.toNat ∧ stt s a.toNat + lng l a.toNat ≤ m
instance (l : List Task) (s : List Int) (k : Nat) (m : Int) : Decidable (Ready l s k m) := inferInstanceAs (Decidable (_ ∧ _))
def Can (l : List Task) (n : Int) (s : List Int) (k : Nat) (m : Int) : Prop := (ons (l.zip s) m : Int) < n ∧ Ready l s k m
instance (l : List Task) (n : Int) (s : List Int) (k : Nat) (m : Int) : Decidable (Can l n s k m) := inferInstanceAs (Decidable (_ ∧ _))
def stepS (l : List Task) (n m : Int) (p : List Int × Int) (k : Int) : List Int × Int := if Can l n p.1 k.toNat m then (p.1.set k.toNat m, max p.2 (m + lng l k.toNat)) else p
def pass (l : List Task) (n m : Int) (o : List Int) (p : List Int × Int) : List Int × Int := o.foldl (stepS l n m) p
def unb (s : List Int) : Nat := s.countP fun x => decide (x < 0)
inductive Sim (l : List Task) (n : Int) (o : List Int) : Nat → List Int × Int → List Int × Int → Prop
  | stop {m : Nat} {p : List Int × Int} : unb p.1 = 0 → Sim l n o m p p
  | go {m : Nat} {p q : List Int × Int} : m < 10000 → 0 < unb p.1 → Sim l n o (m + 1) (pass l n m o p) q → Sim l n o m p q
/-- What holds of the starts ahead of the moment m. -/
structure Inv1 (l : List Task) (m : Int) (s : List Int) : Prop where
  len : s.length = l.length
  lo : ∀ x ∈ s, -1 ≤ x
  hi : ∀ x ∈ s, x < m
theorem unb_set {s : List Int} {k : Nat} {x m : Int} (hk : s[k]? = some x) (hx : x < 0) (hm : 0 ≤ m) : unb (s.set k m) + 1 = unb s := by
  induction s generalizing k with
  | nil => simp at hk
  | cons a s ih =>
    cases k with
    | zero =>
      simp at hk
      subst hk
      have : ¬ m < 0 := by omega
      simp [unb, List.countP_cons, hx, this]
    | succ k =>
      simp at hk
      have := ih hk
      simp only [unb, List.set_cons_succ, List.countP_cons] at this ⊢
      omega
theorem stt_of {s : List Int} {k : Nat} {x : Int} (h : s[k]? = some x) : stt s k = x := by simp [stt, h]
theorem Can.at {l : List Task} {n : Int} {s : List Int} {k : Nat} {m : Int} (h : Can l n s k m) : ∃ x, s[k]? = some x ∧ x < 0 := by
  have := h.2.1
  unfold stt at this
  split at this
  · rename_i x hx
    exact ⟨x, hx, this⟩
  · omega
theorem step_or {l : List Task} {n m : Int} (hm : 0 ≤ m) (p : List Int × Int) (k : Int) : stepS l n m p k = p ∨ unb (stepS l n m p k).1 < unb p.1 := by
  unfold stepS
  split
  · rename_i h
    obtain ⟨x, hx, h0⟩ := h.at
    have := unb_set hx h0 hm
    exact .inr (by simp only; omega)
  · exact .inl rfl
theorem pass_or {l : List Task} {n m : Int} (hm : 0 ≤ m) : ∀ (o : List Int) (p : List Int × Int), (pass l n m o p = p ∧ ∀ k ∈ o, ¬ Can l n p.1 k.toNat m) ∨ unb (pass l n m o p).1 < unb p.1
  | [], p => .inl ⟨rfl, by simp⟩
  | k :: o, p => by
    have hle : ∀ (o : List Int) (p : List Int × Int), unb (pass l n m o p).1 ≤ unb p.1 := by
      intro o
      induction o with
      | nil => intro p; exact Nat.le_refl _
      | cons k o ih =>
        intro p
        have h1 := ih (stepS l n m p k)
        have h2 := step_or (l := l) (n := n) hm p k
        show unb (pass l n m o (stepS l n m p k)).1 ≤ _
        rcases h2 with h2 | h2
        · rw [h2] at h1 ⊢; exact h1
        · omega
    show (pass l n m o (stepS l n m p k) = p ∧ _) ∨ unb (pass l n m o (stepS l n m p k)).1 < unb p.1
    by_cases hc : Can l n p.1 k.toNat m
    · right
      have h1 := hle o (stepS l n m p k)
      have h2 : unb (stepS l n m p k).1 < unb p.1 := by
        obtain ⟨x, hx, h0⟩ := hc.at
        have := unb_set hx h0 hm
        simp only [stepS, if_pos hc]
        omega
      omega
    · have e : stepS l n m p k = p := by simp only [stepS, if_neg hc]
      rw [e]
      rcases pass_or hm o p with ⟨h1, h2⟩ | h
      · exact .inl ⟨h1, fun j hj => by
          rcases List.mem_cons.1 hj with rfl | hj
          · exact hc
          · exact h2 j hj⟩
      · exact .inr h
theorem Inv1.step {l : List Task} {n m : Int} (hm : 0 ≤ m) {p : List Int × Int} (h : Inv1 l (m + 1) p.1) (k : Int) : Inv1 l (m + 1) (stepS l n m p k).1 := by
  unfold stepS
  split
  · refine ⟨by simp [h.len], fun x hx => ?_, fun x hx => ?_⟩
    · rcases List.mem_or_eq_of_mem_set hx with hx | rfl
      · exact h.lo x hx
      · omega
    · rcases List.mem_or_eq_of_mem_set hx with hx | rfl
      · exact h.hi x hx
      · omega
  · exact h
theorem Inv1.pass {l : List Task} {n m : Int} (hm : 0 ≤ m) : ∀ (o : List Int) {p : List Int × Int}, Inv1 l (m + 1) p.1 → Inv1 l (m + 1) (pass l n m o p).1
  | [], p, h => h
  | k :: o, p, h => Inv1.pass hm o (h.step hm k)
/-- Where all that was begun is over, something can be begun. -/
theorem can_some {l : List Task} {n m : Int} {o s : List Int} (hg : GoodT l) (hn : 1 ≤ n) (ho : OrderT l.length o) (hl : s.length = l.length) (hm : 0 ≤ m) (hover : ∀ i, 0 ≤ stt s i → i < l.length → stt s i + lng l i ≤ m) (hu : 0 < unb s) : ∃ k ∈ o, Can l n s k.toNat m := by
  have hex : ∃ k : Nat, k < l.length ∧ stt s k < 0 := by
    obtain ⟨x, hx, h0⟩ := List.countP_pos_iff.1 hu
    obtain ⟨k, hk⟩ := List.mem_iff_getElem?.1 hx
    exact ⟨k, by rw [← hl]; exact (List.getElem?_eq_some_iff.1 hk).1, by rw [stt_of hk]; simpa using h0⟩
  have hmin : ∃ k : Nat, k < l.length ∧ stt s k < 0 ∧ ∀ j, j < k → 0 ≤ stt s j := by
    obtain ⟨k, h1, h2⟩ := hex
    induction k using Nat.strongRecOn with
    | _ k ih =>
      by_cases h : ∀ j, j < k → 0 ≤ stt s j
      · exact ⟨k, h1, h2, h⟩
      · simp only [Classical.not_forall] at h
        obtain ⟨j, hj, hs⟩ := h
        exact ih j hj (by omega) (by omega)
  obtain ⟨k, h1, h2, h3⟩ := hmin
  refine ⟨k, ((order_iff _ _).1 ho).2 k h1, ?_, by simpa using h2, fun a ha => ?_⟩
  · have : ons (l.zip s) m = 0 := by
      unfold ons
      rw [List.countP_eq_zero]
      rintro ⟨t, x⟩ hp
      obtain ⟨i, hi⟩ := List.mem_iff_getElem?.1 hp
      obtain ⟨hi1, hi2⟩ := List.getElem?_zip_eq_some.1 hi
      have hil : i < l.length := (List.getElem?_eq_some_iff.1 hi1).1
      have h4 := hover i
      rw [stt_of hi2] at h4
      have e : lng l i = t.long := by simp [lng, hi1]
      rw [e] at h4
      simp
      intro h5 h6
      have := h4 h5 hil
      omega
    omega
  · simp only [Int.toNat_natCast] at ha
    have ht : l[k]? = some l[k] := List.getElem?_eq_getElem h1
    have hgk := hg.2 k _ ht
    simp only [aft, ht] at ha
    obtain ⟨j, hj⟩ := List.mem_iff_getElem?.1 ha
    have hga := hgk.2.2 j a hj
    have h5 := h3 a.toNat (by omega)
    exact ⟨h5, hover a.toNat h5 (by omega)⟩
theorem lng_le {l : List Task} (hg : GoodT l) (i : Nat) : 0 ≤ lng l i ∧ lng l i ≤ 20 := by
  unfold lng
  split
  · rename_i t ht
    have := hg.2 i t ht
    exact ⟨by have := this.1; omega, this.2.1⟩
  · omega
theorem Inv1.stt {l : List Task} {m : Int} {s : List Int} (h : Inv1 l m s) (hm : 0 ≤ m) (i : Nat) : stt s i < m ∨ stt s i = 0 := by
  unfold Am.stt
  split
  · rename_i x hx
    exact .inl (h.hi x (List.mem_of_getElem? hx))
  · exact .inr rfl
theorem sim_ends {l : List Task} {n : Int} {o : List Int} (hg : GoodT l) (hn : 1 ≤ n) (ho : OrderT l.length o) : ∀ (u d m : Nat) (p : List Int × Int), m + 21 * u + d < 10000 → unb p.1 ≤ u → Inv1 l m p.1 → (∀ i, 0 ≤ stt p.1 i → i < l.length → stt p.1 i + lng l i ≤ m + d) → ∃ q, Sim l n o m p q := by
  intro u
  induction u with
  | zero => intro d m p _ h1 _ _; exact ⟨p, .stop (by omega)⟩
  | succ u ihu =>
    intro d
    induction d with
    | zero =>
      intro m p h0 h1 h2 h3
      by_cases hu : unb p.1 = 0
      · exact ⟨p, .stop hu⟩
      obtain ⟨k, hk, hc⟩ := can_some (m := (m : Int)) hg hn ho h2.len (by omega) (fun i a b => by have := h3 i a b; omega) (by omega : 0 < unb p.1)
      rcases pass_or (l := l) (n := n) (m := m) (by omega) o p with ⟨_, hno⟩ | hlt
      · exact absurd hc (hno k hk)
      · have h4 : Inv1 l ((m : Int) + 1) p.1 := ⟨h2.len, h2.lo, fun x hx => by have := h2.hi x hx; omega⟩
        have h5 := h4.pass (n := n) (by omega) o
        obtain ⟨q, hq⟩ := ihu 20 (m + 1) _ (by omega) (by omega : unb (pass l n m o p).1 ≤ u) (by exact_mod_cast h5) (fun i a b => by
          have h6 := lng_le hg i
          rcases h5.stt (by omega) i with h7 | h7 <;> omega)
        exact ⟨q, .go (by omega) (by omega) hq⟩
    | succ d ihd =>
      intro m p h0 h1 h2 h3
      by_cases hu : unb p.1 = 0
      · exact ⟨p, .stop hu⟩
      have h4 : Inv1 l ((m : Int) + 1) p.1 := ⟨h2.len, h2.lo, fun x hx => by have := h2.hi x hx; omega⟩
      have h5 := h4.pass (n := n) (by omega) o
      rcases pass_or (l := l) (n := n) (m := m) (by omega) o p with ⟨he, hno⟩ | hlt
      · obtain ⟨q, hq⟩ := ihd (m + 1) p (by omega) h1 (by exact_mod_cast h4) (fun i a b => by have := h3 i a b; omega)
        exact ⟨q, .go (by omega) (by omega) (by rw [he]; exact hq)⟩
      · obtain ⟨q, hq⟩ := ihu 20 (m + 1) _ (by omega) (by omega : unb (pass l n m o p).1 ≤ u) (by exact_mod_cast h5) (fun i a b => by
          have h6 := lng_le hg i
          rcases h5.stt (by omega) i with h7 | h7 <;> omega)
        exact ⟨q, .go (by omega) (by omega) hq⟩
/-- How far it goes. -/
theorem sim_all {l : List Task} {n : Int} {o : List Int} (hg : GoodT l) (hn : 1 ≤ n) (ho : OrderT l.length o) : ∃ q, Sim l n o 0 (List.replicate l.length (-1), 0) q :=
  sim_ends hg hn ho l.length 0 0 _ (by have := hg.1; omega) (by simp only [unb]; exact Nat.le_trans List.countP_le_length (by simp)) ⟨by simp, fun x hx => by rw [List.eq_of_mem_replicate hx]; omega, fun x hx => by rw [List.eq_of_mem_replicate hx]; omega⟩ (fun i h hi => by
    rw [stt_of (by rw [List.getElem?_replicate, if_pos hi])] at h
    omega)
end Go.Proofs.Ytcadaadoodpnmaa.Am
