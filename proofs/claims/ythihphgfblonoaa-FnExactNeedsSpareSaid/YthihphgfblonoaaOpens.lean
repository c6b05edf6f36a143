/- What a value of a type that was read as data holds, kind by kind: for the rows of the seat Ythihphgfblonoaa. No condition. -/
import Derived.Test.YthihphgfblonoaaWMore
import Derived.Test.YthihphgfblonoaaWSized
import Derived.Deep.Slices
import Derived.DataReads
import Derived.ChangeArms
import Derived.SizedLaws
namespace Go.Proofs.Ythihphgfblonoaa.Opens
open Go.RowKit Go.Proofs.YthihphgfblonoaaW.PrintWords Go.Proofs.YthihphgfblonoaaW.PrintLast Go.ChangeShapes Go.WideShapes

/-- What can be read at a type has cells of a kind, and meets q. -/
def Opens (P : Program) (t : TypeId) {α : Type} (d : Kd α) (q : α → Prop) : Prop :=
  ∀ {H : Type} {enc : TypeId × Value → H} {W : World} {base : Nat} {spare : Nat → Bool} {held : Bool} {fuel : Nat} {cs : List Value} {x : DataW H × List MemPlace},
    DataW.trod enc P W base spare held fuel t cs = some x → (∀ n ∈ x.1.weights P t, n ≤ reachBytes) → ∃ a, d.K W a cs ∧ q a

theorem opens_int {P : Program} {t : TypeId} {k : IntKind} (ht : P.underlying t = some (.int k)) : Opens P t (Kd.int k) (fun x => (Lit.int k x).wf = true) := by
  intro H enc W base spare held fuel cs x h _
  obtain ⟨n, rfl, _, hw⟩ := DataW.trod_int ht h
  exact ⟨n, rfl, hw⟩
theorem opens_bool {P : Program} {t : TypeId} (ht : P.underlying t = some .bool) : Opens P t Kd.bool (fun _ => True) := by
  intro H enc W base spare held fuel cs x h _
  obtain ⟨n, rfl, _⟩ := DataW.trod_bool ht h
  exact ⟨n, rfl, trivial⟩
theorem weights_all {H : Type} {P : Program} {e : TypeId} : ∀ {l : List (DataW H)} {y : DataW H} {n : Nat}, y ∈ l → n ∈ y.weights P e → n ∈ DataW.weightsAll P e l
  | [], _, _, h, _ => by cases h
  | z :: l, y, n, h, hn => by
    unfold DataW.weightsAll
    rcases List.mem_cons.1 h with rfl | h
    · exact List.mem_append.2 (.inl hn)
    · exact List.mem_append.2 (.inr (weights_all h hn))
theorem opens_slice {P : Program} {t e : TypeId} {α : Type} {d : Kd α} {q : α → Prop} {B : Nat} (z : α) (ht : P.underlying t = some (.slice e)) (hd : Opens P e d q) (hs : P.cellsOf e = d.sz) (hB : P.bytesOf e = B) :
    Opens P t (Kd.slice e d) (fun xs => xs.length ≤ maxLen ∧ xs.length * B ≤ 140737488351232 ∧ ∀ x ∈ xs, q x) := by
  intro H enc W base spare held fuel cs x h hw
  rcases Go.Deep.open_slice ht h with ⟨rfl, rfl⟩ | ⟨a, len, cap, m, n, D, Pl, rfl, hb, hl, hm, hmm, rfl, hx⟩
  · exact ⟨[], ⟨none, 0, rfl, Nat.le_refl _, rfl, by simp, fun h => absurd h (by simp)⟩, by simp, by simp, by simp⟩
  · haveI : Inhabited α := ⟨z⟩
    have hle : len ≤ m := by rw [hmm]; split <;> omega
    have hw1 : (len + (m - len)) * B ≤ reachBytes := by
      refine hw _ ?_
      simp only [DataW.weights, ht, hB]
      simp
    have hw2 : ∀ i, i < len → ∀ n ∈ (D i).weights P e, n ≤ reachBytes := by
      intro i hi k hk
      refine hw _ ?_
      simp only [DataW.weights, ht]
      exact List.mem_cons_of_mem _ (List.mem_append.2 (.inl (weights_all (List.mem_map.2 ⟨i, List.mem_range.2 hi, rfl⟩) hk)))
    obtain ⟨f, hf⟩ := Go.Deep.choose_lt (α := α) (n := len) (p := fun i y => ∃ cs', W.cells? base (a.add (i * P.cellsOf e)) (P.cellsOf e) = some cs' ∧ d.K W y cs' ∧ q y) (fun i hi => by
      obtain ⟨cs', h1, h2⟩ := hx i (by omega)
      obtain ⟨y, h3, h4⟩ := hd h2 (hw2 i hi)
      exact ⟨y, cs', h1, h3, h4⟩)
    have hlen : ((List.range len).map f).length = len := by simp
    refine ⟨(List.range len).map f, ⟨some a, cap, by rw [hlen], by rw [hlen]; exact hl, hlen ▸ rfl, by rw [hlen]; unfold maxLen at hm; omega, fun _ => ⟨a, rfl, fun j p hj => ?_⟩⟩, by rw [hlen]; omega, by rw [hlen]; exact Nat.le_trans (Nat.mul_le_mul_right _ (by omega)) hw1, ?_⟩
    · have hjl : j < len := by
        have := (List.getElem?_eq_some_iff.1 hj).1
        rwa [hlen] at this
      have hp : p = f j := by
        rw [List.getElem?_map, List.getElem?_range hjl] at hj
        exact (Option.some.inj hj).symm
      subst hp
      obtain ⟨cs', h1, h2, _⟩ := hf j hjl
      obtain ⟨_, h5, h6⟩ := World.cells?_some h1
      refine ⟨cs', d.K_len h2, h2, fun i u hu => ?_⟩
      have hi : i < cs'.length := (List.getElem?_eq_some_iff.1 hu).1
      rw [hs] at h1 h6 h5
      have := h6 i (by omega)
      rw [Go.Deep.add_add] at this
      rw [this, hu]
    · intro y hy
      obtain ⟨i, hi, rfl⟩ := List.mem_map.1 hy
      exact (hf i (List.mem_range.1 hi)).elim fun _ h => h.2.2
/-- The same of fields, one behind the other. -/
def OpensF (P : Program) (fs : List Field) (off : Nat) {α : Type} (d : Kd α) (q : α → Prop) : Prop :=
  ∀ {H : Type} {enc : TypeId × Value → H} {W : World} {base : Nat} {spare : Nat → Bool} {held : Bool} {fuel : Nat} {cs : List Value} {xs : List (DataW H × List MemPlace)},
    xs.length = fs.length → (∀ (i : Nat) (f : Field), fs[i]? = some f → DataW.trod enc P W base spare held fuel f.type ((cs.drop f.offset).take (P.cellsOf f.type)) = xs[i]?) →
    (∀ n ∈ DataW.weightsEach P (fs.map (·.type)) (xs.map (·.1)), n ≤ reachBytes) → cs.length = off + d.sz → ∃ a, d.K W a (cs.drop off) ∧ q a
theorem opensF_last {P : Program} {f : Field} {off : Nat} {α : Type} {d : Kd α} {q : α → Prop} (hd : Opens P f.type d q) (ho : f.offset = off) (hs : P.cellsOf f.type = d.sz) : OpensF P [f] off d q := by
  intro H enc W base spare held fuel cs xs hl h hw hc
  match xs, hl with
  | [x], _ =>
    have h0 := h 0 f rfl
    rw [ho, hs, List.take_of_length_le (by simp; omega)] at h0
    exact hd h0 (fun n hn => hw n (by simp [DataW.weightsEach, hn]))
theorem opensF_cons {P : Program} {f : Field} {fs : List Field} {off off' : Nat} {α β : Type} {d : Kd α} {q : α → Prop} {d' : Kd β} {q' : β → Prop} (hd : Opens P f.type d q) (ho : f.offset = off) (hs : P.cellsOf f.type = d.sz) (hf : OpensF P fs off' d' q') (hoff : off' = off + d.sz) :
    OpensF P (f :: fs) off (Kd.pair d d') (fun x => q x.1 ∧ q' x.2) := by
  intro H enc W base spare held fuel cs xs hl h hw hc
  match xs, hl with
  | x :: xs, hl =>
    have hc' : cs.length = off + (d.sz + d'.sz) := hc
    have h0 := h 0 f rfl
    rw [ho, hs] at h0
    obtain ⟨a, h1, h2⟩ := hd h0 (fun n hn => hw n (by simp only [List.map_cons, DataW.weightsEach]; exact List.mem_append.2 (.inl hn)))
    obtain ⟨b, h3, h4⟩ := hf (xs := xs) (by simpa using hl) (fun i g hg => by simpa using h (i + 1) g (by simpa using hg)) (fun n hn => hw n (by simp only [List.map_cons, DataW.weightsEach]; exact List.mem_append.2 (.inr hn))) (by omega)
    refine ⟨(a, b), ⟨(cs.drop off).take d.sz, cs.drop off', ?_, h1, h3⟩, h2, h4⟩
    rw [hoff, ← List.drop_drop]
    exact (List.take_append_drop _ _).symm
theorem opens_struct {P : Program} {t : TypeId} {fs : Array Field} {α : Type} {d : Kd α} {q : α → Prop} (ht : P.underlying t = some (.struct fs)) (hf : OpensF P fs.toList 0 d q) (hs : P.cellsOf t = d.sz) : Opens P t d q := by
  intro H enc W base spare held fuel cs x h hw
  obtain ⟨xs, n, rfl, rfl, hc, hl, hx⟩ := DataW.trod_struct ht h
  obtain ⟨a, h1, h2⟩ := hf (cs := cs) (xs := xs) (by simpa using hl) (fun i f hi => hx i f (by simpa using hi)) (fun k hk => hw k (by simpa only [DataW.weights, ht] using hk)) (by omega)
  exact ⟨a, h1, h2⟩
theorem opens_iso {P : Program} {t : TypeId} {α β : Type} {d : Kd α} {q : α → Prop} (h : Opens P t d q) (g : β → α) (g' : α → β) (hg : ∀ a, g (g' a) = a) : Opens P t (Kd.iso d g) (fun b => q (g b)) := by
  intro H enc W base spare held fuel cs x hx hw
  obtain ⟨a, h1, h2⟩ := h hx hw
  exact ⟨g' a, by show d.K W (g (g' a)) cs; rw [hg]; exact h1, by show q (g (g' a)); rw [hg]; exact h2⟩
/-- An argument's own weight. -/
theorem weight_of {H : Type} {P : Program} {ts : List TypeId} {ds : List (DataW H)} {j : Nat} {t : TypeId} {d : DataW H} (hsz : (DataW.weightsEach P ts ds).all (· ≤ reachBytes) = true) (ht : ts[j]? = some t) (hd : ds[j]? = some d) : ∀ n ∈ d.weights P t, n ≤ reachBytes := by
  intro n hn
  have := List.all_eq_true.1 hsz n (DataW.weights_mem_each ht hd n hn)
  simpa using this
end Go.Proofs.Ythihphgfblonoaa.Opens
