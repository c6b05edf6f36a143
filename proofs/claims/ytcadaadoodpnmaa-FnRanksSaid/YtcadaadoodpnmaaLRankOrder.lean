/- The order by ranks: two ways to sort come to the same. No condition. -/
import Derived.Test.YtcadaadoodpnmaaLSort
import Derived.Test.YtcadaadoodpnmaaLRanksFn
namespace Go.Proofs.Ytcadaadoodpnmaa.Am
open Go Go.RowKit
set_option linter.unusedSimpArgs false
set_option linter.unusedVariables false

def rkat (R : List Int) (a : Int) : Int := R.getD a.toNat 0
def insS (R : List Int) (k : Int) : List Int → List Int
  | [] => [k]
  | a :: P => if rkat R k ≤ rkat R a then a :: insS R k P else k :: a :: P
def upto (n : Nat) : List Int := (List.range n).map fun i : Nat => (i : Int)
def ord (R : List Int) (n : Nat) : List Int := (upto n).foldl (fun P k => insS R k P) []
def Desc (R : List Int) (P : List Int) : Prop := P.Pairwise fun a b => rkat R b ≤ rkat R a
theorem insS_perm (R : List Int) (k : Int) : ∀ P, (insS R k P).Perm (k :: P)
  | [] => List.Perm.refl _
  | a :: P => by
    unfold insS
    split
    · exact ((insS_perm R k P).cons a).trans (List.Perm.swap k a P)
    · exact List.Perm.refl _
theorem insS_desc (R : List Int) (k : Int) : ∀ P, Desc R P → Desc R (insS R k P)
  | [], _ => by simp [insS, Desc]
  | a :: P, h => by
    have h1 := List.pairwise_cons.1 h
    unfold insS
    split
    · rename_i hk
      refine List.pairwise_cons.2 ⟨fun b hb => ?_, insS_desc R k P h1.2⟩
      rcases List.mem_cons.1 ((insS_perm R k P).mem_iff.1 hb) with rfl | hb
      · exact hk
      · exact h1.1 b hb
    · rename_i hk
      refine List.pairwise_cons.2 ⟨fun b hb => ?_, h⟩
      rcases List.mem_cons.1 hb with rfl | hb
      · omega
      · have := h1.1 b hb
        omega
theorem insS_high (R : List Int) (k : Int) : ∀ P Q : List Int, (∀ a ∈ P, rkat R k ≤ rkat R a) → insS R k (P ++ Q) = P ++ insS R k Q
  | [], _, _ => rfl
  | a :: P, Q, h => by
    rw [List.cons_append, insS, if_pos (h a (by simp)), insS_high R k P Q fun b hb => h b (by simp [hb])]
    rfl
theorem insS_low (R : List Int) (k p : Int) (hp : ¬ rkat R k ≤ rkat R p) : ∀ Q, insS R k (Q ++ [p]) = insS R k Q ++ [p]
  | [] => by simp [insS, hp]
  | a :: Q => by
    rw [List.cons_append, insS, insS, insS_low R k p hp Q]
    split <;> simp
theorem ins_insS (R : List Int) (k : Int) (P : List Int) (h : Desc R P) : ins (fun a b => rkat R b - rkat R a) P k = insS R k P := by
  obtain ⟨Q, rfl⟩ : ∃ Q, P = Q.reverse := ⟨P.reverse, by simp⟩
  induction Q with
  | nil => simp [ins, insB, insS]
  | cons p Q ih =>
    rw [List.reverse_cons] at h ⊢
    have h1 := List.pairwise_append.1 h
    unfold ins at ih ⊢
    rw [List.reverse_append, List.reverse_reverse, List.reverse_singleton, List.singleton_append, insB]
    split
    · rename_i hk
      rw [insS_low R k p (by omega), ← ih h1.1]
      simp
    · rename_i hk
      have h2 : ∀ a ∈ Q.reverse ++ [p], rkat R k ≤ rkat R a := by
        intro a ha
        rcases List.mem_append.1 ha with ha | ha
        · have := h1.2.2 a ha p (by simp)
          omega
        · simp at ha
          subst ha
          omega
      have h3 := insS_high R k (Q.reverse ++ [p]) [] h2
      rw [List.append_nil] at h3
      rw [h3]
      simp [insS]
theorem fold_ins (R : List Int) : ∀ (l P : List Int), Desc R P → l.foldl (ins fun a b => rkat R b - rkat R a) P = l.foldl (fun P k => insS R k P) P
  | [], _, _ => rfl
  | k :: l, P, h => by
    rw [List.foldl_cons, List.foldl_cons, ins_insS R k P h, fold_ins R l _ (insS_desc R k P h)]
theorem ord_ins (R : List Int) (n : Nat) : (upto n).foldl (ins fun a b => rkat R b - rkat R a) [] = ord R n := fold_ins R _ _ List.Pairwise.nil
theorem upto_succ (n : Nat) : upto (n + 1) = upto n ++ [(n : Int)] := by simp [upto, List.range_succ]
theorem ord_succ (R : List Int) (n : Nat) : ord R (n + 1) = insS R n (ord R n) := by simp [ord, upto_succ, List.foldl_append]
theorem ord_desc (R : List Int) : ∀ n, Desc R (ord R n)
  | 0 => List.Pairwise.nil
  | n + 1 => by
    rw [ord_succ]
    exact insS_desc R n _ (ord_desc R n)
theorem upto_length (n : Nat) : (upto n).length = n := by simp [upto]
theorem upto_mem (n : Nat) (a : Int) : a ∈ upto n ↔ 0 ≤ a ∧ a < n := by
  simp only [upto, List.mem_map, List.mem_range]
  constructor
  · rintro ⟨i, h, rfl⟩
    omega
  · intro h
    exact ⟨a.toNat, by omega, by omega⟩
theorem ord_perm (R : List Int) : ∀ n, (ord R n).Perm (upto n)
  | 0 => List.Perm.refl _
  | n + 1 => by
    rw [ord_succ, upto_succ]
    exact (insS_perm R n _).trans (((ord_perm R n).cons _).trans (List.perm_append_singleton _ _).symm)
theorem ord_length (R : List Int) (n : Nat) : (ord R n).length = n := by rw [(ord_perm R n).length_eq, upto_length]
theorem ord_mem (R : List Int) (n : Nat) (a : Int) : a ∈ ord R n ↔ 0 ≤ a ∧ a < n := by rw [(ord_perm R n).mem_iff, upto_mem]
theorem rk_get (R : List Int) (a : Int) (h0 : 0 ≤ a) (h1 : a < R.length) : R[a.toNat]? = some (rkat R a) := by
  rw [rkat, List.getD_eq_getElem?_getD, List.getElem?_eq_getElem (by omega)]
  rfl
end Go.Proofs.Ytcadaadoodpnmaa.Am
