/- What is known of words: facts, told in plain words. No condition. -/
import Derived.Test.YtdbnokeegocpbaaGreatLFlowMath
namespace Go.Proofs.YtdbnokeegocpbaaGreat.Am
open Go Go.RowKit
set_option linter.unusedSimpArgs false
set_option linter.unusedVariables false

structure Fct where
  top : Bool
  known : Bool
  n : Int
  deriving DecidableEq
def Fct.enc (x : Fct) : List AV := [.bool x.top, .bool x.known, .int .i64 x.n]
abbrev topF : Fct := ⟨true, false, 0⟩
abbrev botF : Fct := ⟨false, false, 0⟩
abbrev isF (n : Int) : Fct := ⟨false, true, n⟩
def GoodFc (x : Fct) : Prop := (0 ≤ x.n ∧ x.n ≤ 65535) ∧ ((x.known = true ∧ x.top = false) ∨ (x.n = 0 ∧ x.known = false))
instance (x : Fct) : Decidable (GoodFc x) := inferInstanceAs (Decidable (_ ∧ _))
def joinF (a b : Fct) : Fct := if a.top = true then b else if b.top = true ∨ a = b then a else botF
def doI (op a b : Int) : Int := if op = 3 then (a + b) % 65536 else if op = 4 then (a - b) % 65536 else if op = 5 then (a * b) % 65536 else if op = 6 then (if a < b then 1 else 0) else (if a = b then 1 else 0)
def fc (R : List Fct) (i : Int) : Fct := R.getD i.toNat topF
def twoF (op : Int) (a b : Fct) : Fct := if a.known = true ∧ b.known = true then isF (doI op a.n b.n) else if op = 5 ∧ (a = isF 0 ∨ b = isF 0) then isF 0 else botF
def factI (x : Ins) (R : List Fct) : Fct := if x.op = 1 then isF x.n else if x.op = 2 then fc R x.a else twoF x.op (fc R x.a) (fc R x.b)
def stepF1 (R : List Fct) (x : Ins) : List Fct := if x.op = 8 then R else R.set x.dst.toNat (factI x R)
def stepF (l : List Ins) (R : List Fct) : List Fct := l.foldl stepF1 R
/-- Eight facts, none of which is still to come. -/
def GoodFs (R : List Fct) : Prop := R.length = 8 ∧ ∀ x ∈ R, GoodFc x ∧ x.top = false
theorem doI_word {op a b : Int} : 0 ≤ doI op a b ∧ doI op a b ≤ 65535 := by
  unfold doI
  have h : ∀ x : Int, 0 ≤ x % 65536 ∧ x % 65536 ≤ 65535 := fun x => by omega
  split
  · exact h _
  split
  · exact h _
  split
  · exact h _
  split <;> split <;> omega
theorem isF_good {n : Int} (h : 0 ≤ n ∧ n ≤ 65535) : GoodFc (isF n) ∧ (isF n).top = false := ⟨⟨h, .inl ⟨rfl, rfl⟩⟩, rfl⟩
theorem botF_good : GoodFc botF ∧ botF.top = false := ⟨⟨by simp, .inr ⟨rfl, rfl⟩⟩, rfl⟩
theorem twoF_good (op : Int) {a b : Fct} : GoodFc (twoF op a b) ∧ (twoF op a b).top = false := by
  unfold twoF
  split
  · exact isF_good doI_word
  split
  · exact isF_good (by omega)
  · exact botF_good
theorem fc_get {R : List Fct} (h : R.length = 8) {i : Int} (hi : Nm i) : R[i.toNat]? = some (fc R i) := by
  unfold Nm at hi
  rw [fc, List.getD_eq_getElem?_getD, List.getElem?_eq_getElem (by omega)]
  rfl
theorem fc_good {R : List Fct} (h : GoodFs R) {i : Int} (hi : Nm i) : GoodFc (fc R i) ∧ (fc R i).top = false := h.2 _ (List.mem_of_getElem? (fc_get h.1 hi))
theorem factI_good {R : List Fct} (h : GoodFs R) {x : Ins} (hx : GoodI x) : GoodFc (factI x R) ∧ (factI x R).top = false := by
  unfold factI
  split
  · rename_i o
    rcases hx with g | g | g | g
    · exact isF_good g.2.2.2.2
    all_goals omega
  split
  · rename_i o
    rcases hx with g | g | g | g
    · omega
    · exact fc_good h g.2.2.1
    · omega
    · omega
  · exact twoF_good _
theorem GoodFs.set {R : List Fct} (h : GoodFs R) (i : Nat) {y : Fct} (hy : GoodFc y ∧ y.top = false) : GoodFs (R.set i y) := ⟨by simpa using h.1, fun r hr => by
  rcases List.mem_or_eq_of_mem_set hr with hr | rfl
  · exact h.2 r hr
  · exact hy⟩
theorem stepF1_good {R : List Fct} (h : GoodFs R) {x : Ins} (hx : GoodI x) : GoodFs (stepF1 R x) := by
  unfold stepF1
  split
  · exact h
  · exact h.set _ (factI_good h hx)
theorem stepF_good : ∀ (l : List Ins) {R : List Fct}, (∀ x ∈ l, GoodI x) → GoodFs R → GoodFs (stepF l R)
  | [], R, _, h => h
  | x :: l, R, hl, h => stepF_good l (fun y hy => hl y (by simp [hy])) (stepF1_good h (hl x (by simp)))
/-! ### flows -/
def updF : Upd Fct where
  up a b := if b.top = true then a else joinF a b
  z := topF
  mu a := if a.top = true then 2 else if a = botF then 0 else 1
  fall a b h := by
    by_cases hb : b.top = true
    · rw [if_pos hb] at h; exact absurd rfl h
    simp only [if_neg hb] at h ⊢
    unfold joinF at h ⊢
    by_cases ha : a.top = true
    · simp only [ha, if_true, if_neg hb]
      split <;> omega
    · simp only [if_neg ha] at h ⊢
      by_cases hab : b.top = true ∨ a = b
      · rw [if_pos hab] at h; exact absurd rfl h
      · rw [if_neg hab] at h ⊢
        have : ¬ a = botF := fun e => h e.symm
        simp [this]
theorem updF_up {a b : Fct} (hb : b.top = false) : updF.up a b = joinF a b := by simp [updF, hb]
/-- What a block tells to which blocks. -/
def nxF (ways : Bool) (b : Bk) (R : List Fct) : List (Int × List Fct) :=
  if (fc R 0).top = true then [] else
    let out := stepF b.code R
    let t := fc out b.test
    if ways = true ∧ t.known = true then (if t.n ≠ 0 then [(b.thn, out)] else [(b.els, out)]) else [(b.thn, out), (b.els, out)]
/-- A row that is still to come, or that is known. -/
def RowF (R : List Fct) : Prop := R = List.replicate 8 topF ∨ GoodFs R
theorem RowF.len {R : List Fct} (h : RowF R) : R.length = 8 := by
  rcases h with rfl | h
  · simp
  · exact h.1
theorem RowF.top {R : List Fct} (h : RowF R) : ((fc R 0).top = true ∧ R = List.replicate 8 topF) ∨ ((fc R 0).top = false ∧ GoodFs R) := by
  rcases h with rfl | h
  · exact .inl ⟨rfl, rfl⟩
  · refine .inr ⟨?_, h⟩
    have := fc_good h (i := 0) (by decide)
    exact this.2
theorem mem_nxF {ways : Bool} {b : Bk} {R : List Fct} {p : Int × List Fct} (h : p ∈ nxF ways b R) : (fc R 0).top = false ∧ p.2 = stepF b.code R ∧ (p.1 = b.thn ∨ p.1 = b.els) := by
  unfold nxF at h
  split at h
  · simp at h
  · rename_i h0
    refine ⟨by simpa using h0, ?_⟩
    simp only at h
    split at h
    · split at h
      · simp at h; subst h; exact ⟨rfl, .inl rfl⟩
      · simp at h; subst h; exact ⟨rfl, .inr rfl⟩
    · simp at h
      rcases h with rfl | rfl
      · exact ⟨rfl, .inl rfl⟩
      · exact ⟨rfl, .inr rfl⟩
theorem fitsF {f : List Bk} (hg : GoodF f) (ways : Bool) : FitsG RowF (nxF ways) f := by
  intro b hb R hR hP p hp
  obtain ⟨h1, h2, h3⟩ := mem_nxF hp
  have hgb := hg.2 b hb
  rcases hP.top with ⟨h, _⟩ | ⟨_, h⟩
  · rw [h] at h1; cases h1
  · rw [h2]
    refine ⟨?_, (stepF_good b.code hgb.1.2 h).1⟩
    rcases h3 with h3 | h3 <;> rw [h3]
    · exact hgb.2.2.1.2
    · exact hgb.2.2.2.2
theorem joinF_good {a b : Fct} (ha : GoodFc a) (hb : GoodFc b ∧ b.top = false) : GoodFc (joinF a b) ∧ (joinF a b).top = false := by
  unfold joinF
  split
  · exact hb
  · rename_i h
    split
    · exact ⟨ha, by simpa using h⟩
    · exact botF_good
theorem come_rowF {n to : Nat} (hto : to < n) {out : List Fct} (ho : GoodFs out) {S : List (List Fct)} (h : Wide n S) (hP : AllG RowF S) : AllG RowF (comeG updF to out 0 S) := by
  rw [comeG_eq updF hto ho.1 h]
  intro r hr
  rcases List.mem_or_eq_of_mem_set hr with hr | rfl
  · exact hP r hr
  · right
    have hrow := h.row hto
    refine ⟨by simp [hrow.1, ho.1], fun x hx => ?_⟩
    obtain ⟨i, hi⟩ := List.mem_iff_getElem?.1 hx
    rw [List.getElem?_zipWith] at hi
    cases ea : (rowG S to)[i]? with
    | none => rw [ea] at hi; simp at hi
    | some a =>
      cases eb : out[i]? with
      | none => rw [ea, eb] at hi; simp at hi
      | some b =>
        rw [ea, eb] at hi
        simp at hi
        have hb := ho.2 b (List.mem_of_getElem? eb)
        rw [← hi, updF_up hb.2]
        refine joinF_good ?_ hb
        rcases hP _ (List.mem_of_getElem? hrow.2) with he | he
        · rw [he] at ea
          rw [List.eq_of_mem_replicate (List.mem_of_getElem? ea)]
          decide
        · exact (he.2 a (List.mem_of_getElem? ea)).1
theorem keepsF {f : List Bk} (hg : GoodF f) (ways : Bool) : KeepsG updF RowF (nxF ways) f := by
  intro b hb S k hk h hP
  have hrow := h.row hk
  have hRk := hP _ (List.mem_of_getElem? hrow.2)
  have hgb := hg.2 b hb
  have : ∀ (l : List (Int × List Fct)) (S : List (List Fct)), (∀ p ∈ l, p.1 ≤ (f.length : Int) - 1 ∧ GoodFs p.2) → Wide f.length S → AllG RowF S → AllG RowF (comesG updF l S) := by
    intro l
    induction l with
    | nil => exact fun S _ _ h => h
    | cons p l ih =>
      intro S hl hw hP
      obtain ⟨to, out⟩ := p
      have h0 := hl (to, out) (by simp)
      simp only at h0
      refine ih _ (fun q hq => hl q (by simp [hq])) ?_ ?_
      · split
        · exact hw
        · exact comeG_wide updF (by omega) out 0 S hw
      · split
        · exact hP
        · exact come_rowF (by omega) h0.2 hw hP
  refine this _ S (fun p hp => ?_) h hP
  have hfit := fitsF hg ways b hb _ hrow.1 hRk p hp
  obtain ⟨h1, h2, h3⟩ := mem_nxF hp
  refine ⟨hfit.1, ?_⟩
  rcases hRk.top with ⟨h, _⟩ | ⟨_, h⟩
  · rw [h] at h1; cases h1
  · rw [h2]; exact stepF_good b.code hgb.1.2 h
def startF (f : List Bk) (vars : List Fct) : List (List Fct) := (List.replicate f.length (List.replicate 8 topF)).set 0 vars
theorem startF_zero {f : List Bk} {vars : List Fct} (h : 1 ≤ f.length) : rowG (startF f vars) 0 = vars := by
  unfold startF
  rw [rowG_set (by simp; omega), if_pos rfl]
theorem startF_more {f : List Bk} {vars : List Fct} {i : Nat} (hi : i < f.length) (h0 : i ≠ 0) : rowG (startF f vars) i = List.replicate 8 topF := by
  unfold startF
  rw [rowG_set (by simp; omega), if_neg h0]
  unfold rowG
  rw [List.getD_eq_getElem?_getD, List.getElem?_replicate, if_pos hi]
  rfl
theorem startF_wide {f : List Bk} {vars : List Fct} (hv : GoodFs vars) : Wide f.length (startF f vars) ∧ AllG RowF (startF f vars) := by
  refine ⟨⟨by simp [startF], fun r hr => ?_⟩, fun r hr => ?_⟩
  · rcases List.mem_or_eq_of_mem_set hr with hr | rfl
    · rw [List.eq_of_mem_replicate hr]; simp
    · exact hv.1
  · rcases List.mem_or_eq_of_mem_set hr with hr | rfl
    · exact .inl (List.eq_of_mem_replicate hr)
    · exact .inr hv
theorem sum_le (l : List Nat) (c : Nat) (h : ∀ x ∈ l, x ≤ c) : l.sum ≤ c * l.length := by
  induction l with
  | nil => simp
  | cons a l ih =>
    have := ih fun x hx => h x (by simp [hx])
    have := h a (by simp)
    simp [Nat.mul_add]
    omega
theorem sumG_le {α : Type} (U : Upd α) (c : Nat) (hc : ∀ a, U.mu a ≤ c) {n : Nat} {S : List (List α)} (h : Wide n S) : sumG U S ≤ c * 8 * n := by
  have := sum_le (S.map fun r => (r.map U.mu).sum) (c * 8) fun x hx => by
    obtain ⟨r, hr, rfl⟩ := List.mem_map.1 hx
    have := sum_le (r.map U.mu) c fun y hy => by
      obtain ⟨a, _, rfl⟩ := List.mem_map.1 hy
      exact hc a
    rw [List.length_map, h.2 r hr] at this
    exact this
  unfold sumG
  rw [List.length_map, h.1] at this
  exact this
theorem muF_le (a : Fct) : updF.mu a ≤ 2 := by
  show (if _ then _ else _) ≤ 2
  split
  · omega
  · split <;> omega
/-- What is known ahead of every block. -/
def flowF (ways : Bool) (f : List Bk) (vars : List Fct) : List (List Fct) := (iterG updF (nxF ways) f (16 * f.length + 1) 0 (startF f vars)).1
end Go.Proofs.YtdbnokeegocpbaaGreat.Am
