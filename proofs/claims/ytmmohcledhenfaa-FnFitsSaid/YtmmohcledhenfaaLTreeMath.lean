/- Trees in a row, patterns, and where a pattern fits: the plain law. No condition. -/
import Derived.Test.YtmmohcledhenfaaLWords
namespace Go.Proofs.Ytmmohcledhenfaa.Am
open Go Go.RowKit
set_option linter.unusedSimpArgs false
set_option linter.unusedVariables false

/-- How many trees a kind is of. -/
def ar (a : Int) : Int := if a = 0 then 0 else if a = 1 then 0 else if a = 2 then 0 else if a = 5 then 1 else if a = 3 then 2 else if a = 4 then 2 else -1
theorem ar_le (a : Int) : -1 ≤ ar a ∧ ar a ≤ 2 := by
  unfold ar
  repeat' split
  all_goals omega

/-- How many kinds from the front are n trees; any: whether a 0 may stand there. -/
def scan (any : Bool) : List Int → Nat → Option Nat
  | _, 0 => some 0
  | [], _ + 1 => none
  | a :: l, n + 1 => if ar a < 0 ∨ (a = 0 ∧ any = false) then none else (scan any l (n + (ar a).toNat)).map (· + 1)
theorem scan_le (any : Bool) : ∀ (l : List Int) (n c : Nat), scan any l n = some c → c ≤ l.length
  | l, 0, c, h => by
    cases l <;> simp [scan] at h <;> omega
  | [], n + 1, c, h => by simp [scan] at h
  | a :: l, n + 1, c, h => by
    simp only [scan] at h
    split at h
    · cases h
    · obtain ⟨d, h1, rfl⟩ := Option.map_eq_some_iff.1 h
      have := scan_le any l _ d h1
      simp
      exact this
/-- Where 0 may not stand. -/
theorem scan_both : ∀ (l : List Int) (n c : Nat), scan false l n = some c ↔ scan true l n = some c ∧ (0 : Int) ∉ l.take c
  | l, 0, c => by
    cases l <;> simp [scan] <;> (intro h; subst h; simp)
  | [], n + 1, c => by simp [scan]
  | a :: l, n + 1, c => by
    simp only [scan]
    by_cases h1 : ar a < 0
    · rw [if_pos (.inl h1), if_pos (.inl h1)]
      simp
    · by_cases h2 : a = 0
      · rw [if_pos (.inr ⟨h2, trivial⟩)]
        constructor
        · intro h; cases h
        · rintro ⟨h3, h4⟩
          rw [if_neg (by simp [h1])] at h3
          obtain ⟨d, h5, rfl⟩ := Option.map_eq_some_iff.1 h3
          exact absurd (by rw [h2]; simp) h4
      · rw [if_neg (by simp [h1, h2]), if_neg (by simp [h1])]
        constructor
        · intro h
          obtain ⟨d, h5, rfl⟩ := Option.map_eq_some_iff.1 h
          obtain ⟨h6, h7⟩ := (scan_both l _ d).1 h5
          refine ⟨by rw [h6]; rfl, ?_⟩
          have h2' : ¬ (0 : Int) = a := fun e => h2 e.symm
          simp [h2', h7]
        · rintro ⟨h3, h4⟩
          obtain ⟨d, h5, rfl⟩ := Option.map_eq_some_iff.1 h3
          have h2' : ¬ (0 : Int) = a := fun e => h2 e.symm
          rw [(scan_both l _ d).2 ⟨h5, by simpa [h2'] using h4⟩]
          rfl

/-- A scan of one and of others more. -/
theorem scan_split (any : Bool) : ∀ (l : List Int) (n m c : Nat), scan any l (n + m) = some c → ∃ c1 c2, scan any l n = some c1 ∧ scan any (l.drop c1) m = some c2 ∧ c = c1 + c2
  | l, 0, m, c, h => ⟨0, c, by cases l <;> rfl, by simpa using h, by omega⟩
  | [], n + 1, m, c, h => by
    rw [show n + 1 + m = (n + m) + 1 from by omega] at h
    simp [scan] at h
  | a :: l, n + 1, m, c, h => by
    rw [show n + 1 + m = (n + m) + 1 from by omega] at h
    simp only [scan] at h ⊢
    by_cases e : ar a < 0 ∨ (a = 0 ∧ any = false)
    · rw [if_pos e] at h
      cases h
    · rw [if_neg e] at h ⊢
      obtain ⟨d, h1, rfl⟩ := Option.map_eq_some_iff.1 h
      rw [show n + m + (ar a).toNat = (n + (ar a).toNat) + m from by omega] at h1
      obtain ⟨c1, c2, h2, h3, rfl⟩ := scan_split any l _ m d h1
      exact ⟨c1 + 1, c2, by rw [h2]; rfl, by simpa using h3, by omega⟩
theorem scan_pos (any : Bool) : ∀ (l : List Int) (n c : Nat), scan any l (n + 1) = some c → 1 ≤ c
  | [], n, c, h => by simp [scan] at h
  | a :: l, n, c, h => by
    simp only [scan] at h
    split at h
    · cases h
    · obtain ⟨d, _, rfl⟩ := Option.map_eq_some_iff.1 h
      omega
/-- At each place of a tree begins a tree. -/
theorem scan_suffix (any : Bool) : ∀ (i : Nat) (l : List Int) (n : Nat), scan any l n = some l.length → i < l.length → ∃ m c, scan any (l.drop i) (m + 1) = some c
  | 0, l, n, h, hi => by
    cases n with
    | zero =>
      have : l.length = 0 := by
        have h' : scan any l 0 = some 0 := by cases l <;> rfl
        rw [h'] at h
        exact (Option.some.inj h).symm
      omega
    | succ n => exact ⟨n, _, h⟩
  | i + 1, l, n, h, hi => by
    cases l with
    | nil => simp at hi
    | cons a l =>
      cases n with
      | zero => simp [scan] at h
      | succ n =>
        simp only [scan] at h
        split at h
        · cases h
        · obtain ⟨d, h1, h2⟩ := Option.map_eq_some_iff.1 h
          have hd : d = l.length := by simpa using h2
          rw [hd] at h1
          simp only [List.length_cons] at hi
          exact scan_suffix any i l _ h1 (by omega)
theorem scan_at (t : List Int) (ht : scan false t 1 = some t.length) (i : Nat) (hi : i < t.length) : ∃ c, scan false (t.drop i) 1 = some c := by
  obtain ⟨m, c, h⟩ := scan_suffix false i t 1 ht hi
  rw [Nat.add_comm] at h
  obtain ⟨c1, _, h1, _⟩ := scan_split false _ 1 m c h
  exact ⟨c1, h1⟩
/-- Where the trees stand for which any may stand: nothing where the kinds are others. -/
def fitsF (t : List Int) : Nat → List Int → Option (List Int)
  | _, [] => some []
  | i, a :: ks => if a = 0 then (match scan false (t.drop i) 1 with | none => none | some c => (fitsF t (i + c) ks).map ((i : Int) :: ·)) else if t[i]? = some a then fitsF t (i + 1) ks else none

/-- The answer, out of fitsF's. -/
def fitsR (hs : List Int) : Option (List Int) → List Int × Bool
  | none => ([], false)
  | some l => (hs ++ l, true)

/-- Where the holes lie. -/
theorem fitsF_range (t : List Int) : ∀ (ks : List Int) (i n c : Nat) (l : List Int), scan true ks n = some ks.length → scan false (t.drop i) n = some c → i ≤ t.length → fitsF t i ks = some l → ∀ h ∈ l, (i : Int) ≤ h ∧ h < (t.length : Int)
  | [], i, n, c, l, h1, h2, hi, hf => by
    simp only [fitsF, Option.some.injEq] at hf
    subst hf
    simp
  | a :: ks, i, n, c, l, h1, h2, hi, hf => by
    cases n with
    | zero => simp [scan] at h1
    | succ n =>
      have hlt : i < t.length := by
        have h3 := scan_pos false _ n c h2
        have h4 := scan_le false _ _ c h2
        simp at h4
        omega
      simp only [List.length_cons, scan] at h1
      split at h1
      · cases h1
      · obtain ⟨d, h3, h4⟩ := Option.map_eq_some_iff.1 h1
        have hd : d = ks.length := by simpa using h4
        subst hd
        simp only [fitsF] at hf
        by_cases e : a = 0
        · rw [if_pos e] at hf
          have h5 : scan false (t.drop i) (1 + n) = some c := by rw [Nat.add_comm]; exact h2
          obtain ⟨c1, c2, h6, h7, _⟩ := scan_split false _ 1 n c h5
          rw [h6] at hf
          have h8 := scan_le false _ _ c1 h6
          simp at h8
          have har : ar a = 0 := by rw [e]; rfl
          rw [har] at h3
          obtain ⟨l', h9, rfl⟩ := Option.map_eq_some_iff.1 hf
          have ih := fitsF_range t ks (i + c1) n c2 l' (by simpa using h3) (by rw [← List.drop_drop]; exact h7) (by omega) h9
          intro h hh
          rcases List.mem_cons.1 hh with rfl | hh
          · omega
          · have := ih h hh
            omega
        · rw [if_neg e] at hf
          split at hf
          · rename_i e2
            have hsc : scan false (t.drop (i + 1)) (n + (ar a).toNat) = some (c - 1) := by
              have e3 : t[i] = a := by rw [List.getElem?_eq_getElem hlt] at e2; exact Option.some.inj e2
              rw [List.drop_eq_getElem_cons hlt, e3] at h2
              simp only [scan] at h2
              split at h2
              · cases h2
              · obtain ⟨d, h9, h10⟩ := Option.map_eq_some_iff.1 h2
                rw [h9, ← h10]
                simp
            have ih := fitsF_range t ks (i + 1) _ _ l h3 hsc (by omega) hf
            intro h hh
            have := ih h hh
            omega
          · cases hf
theorem fitsF_len (t : List Int) : ∀ (ks : List Int) (i : Nat) (l : List Int), fitsF t i ks = some l → l.length ≤ ks.length
  | [], i, l, h => by
    simp only [fitsF, Option.some.injEq] at h
    subst h
    simp
  | a :: ks, i, l, h => by
    simp only [fitsF] at h
    split at h
    · split at h
      · cases h
      · obtain ⟨l', h1, rfl⟩ := Option.map_eq_some_iff.1 h
        have := fitsF_len t ks _ l' h1
        simp
        exact this
    · split at h
      · have := fitsF_len t ks _ l h
        simp
        omega
      · cases h

def GT (t : List Int) : Prop := 1 ≤ t.length ∧ t.length ≤ 40 ∧ scan false t 1 = some t.length
def GP (l : List Int) (c : Int) : Prop := 1 ≤ l.length ∧ l.length ≤ 10 ∧ l.getD 0 0 ≠ 0 ∧ scan true l 1 = some l.length ∧ 1 ≤ c ∧ c ≤ 100
instance (t : List Int) : Decidable (GT t) := inferInstanceAs (Decidable (_ ∧ _))
instance (l : List Int) (c : Int) : Decidable (GP l c) := inferInstanceAs (Decidable (_ ∧ _))
def endS (any : Bool) (t : List Int) (i : Nat) : Int := match scan any (t.drop i) 1 with | none => 0 | some c => ((i + c : Nat) : Int)
def endI (t : List Int) (i : Nat) : Int := match scan true (t.drop i) 1 with | none => -1 | some c => ((i + c : Nat) : Int)
/-- As many holes as there are noughts. -/
theorem fitsF_count (t : List Int) : ∀ (ks : List Int) (i : Nat) (l : List Int), fitsF t i ks = some l → l.length = ks.count 0
  | [], i, l, h => by
    simp only [fitsF, Option.some.injEq] at h
    subst h
    simp
  | a :: ks, i, l, h => by
    simp only [fitsF] at h
    split at h
    · rename_i e
      split at h
      · cases h
      · obtain ⟨l', h1, rfl⟩ := Option.map_eq_some_iff.1 h
        rw [e, List.count_cons_self, List.length_cons, fitsF_count t ks _ l' h1]
    · rename_i e
      split at h
      · rw [List.count_cons_of_ne e, fitsF_count t ks _ l h]
      · cases h
/-- The holes rise. -/
theorem fitsF_up (t : List Int) : ∀ (ks : List Int) (i : Nat) (l : List Int), fitsF t i ks = some l → (∀ h ∈ l, (i : Int) ≤ h) ∧ l.Pairwise (· < ·)
  | [], i, l, h => by
    simp only [fitsF, Option.some.injEq] at h
    subst h
    simp
  | a :: ks, i, l, h => by
    simp only [fitsF] at h
    split at h
    · split at h
      · cases h
      · rename_i c hc
        have h1c := scan_pos false _ 0 c hc
        obtain ⟨l', h1, rfl⟩ := Option.map_eq_some_iff.1 h
        obtain ⟨h2, h3⟩ := fitsF_up t ks _ l' h1
        refine ⟨fun x hx => ?_, List.pairwise_cons.2 ⟨fun x hx => ?_, h3⟩⟩
        · rcases List.mem_cons.1 hx with rfl | hx
          · omega
          · have := h2 x hx; omega
        · have := h2 x hx; omega
    · split at h
      · obtain ⟨h2, h3⟩ := fitsF_up t ks _ l h
        exact ⟨fun x hx => by have := h2 x hx; omega, h3⟩
      · cases h
/-- What a pattern that fits tells. -/
theorem fits_tells {t : List Int} (ht : GT t) {i : Nat} (hi : i < t.length) {K : List Int} {c : Int} (hK : GP K c) {l : List Int} (h : fitsF t i K = some l) :
    l.length = K.count 0 ∧ t[i]? = K[0]? ∧ (∀ x ∈ l, (i : Int) < x ∧ x < (t.length : Int)) ∧ l.Pairwise (· < ·) := by
  obtain ⟨c1, h1⟩ := scan_at t ht.2.2 i hi
  have hr := fitsF_range t K i 1 c1 l hK.2.2.2.1 h1 (by omega) h
  have hc := fitsF_count t K i l h
  have hp := (fitsF_up t K i l h).2
  obtain ⟨a, ks, rfl⟩ : ∃ a ks, K = a :: ks := by
    match K, hK.1 with
    | a :: ks, _ => exact ⟨a, ks, rfl⟩
  have ha : a ≠ 0 := by have := hK.2.2.1; simpa using this
  have h0 := h
  simp only [fitsF] at h0
  rw [if_neg ha] at h0
  split at h0
  · rename_i e
    have hl := (fitsF_up t ks (i + 1) l h0).1
    exact ⟨hc, by rw [e]; rfl, fun x hx => by have := hl x hx; have := hr x hx; omega, hp⟩
  · cases h0
end Go.Proofs.Ytmmohcledhenfaa.Am
