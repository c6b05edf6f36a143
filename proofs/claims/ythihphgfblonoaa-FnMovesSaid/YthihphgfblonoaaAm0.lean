/- The abstract heap: values with numbered blocks in place of addresses and capacities, and how they stand to the model's memory. No condition. -/
import Derived.Calls
import Derived.Below
import Derived.Laws.World
import Derived.Laws.Cells
namespace Go.Proofs.Ythihphgfblonoaa.Am
open Go Go.RowKit

/-- A value whose addresses are numbers of abstract blocks. -/
inductive AV where
  | bool (b : Bool)
  | int (k : IntKind) (n : Int)
  | nil
  | sl (b o len : Nat)
  | ptr (b o : Nat)
  | fn (f : FuncId) (caps : List AV)
  | agg (l : List AV)
  | tup (l : List AV)
  | und
  deriving Inhabited

/-- A block: the cells of one element, may it be written, its cells. -/
structure Blk where
  sz : Nat
  rw : Bool
  cells : List AV

/-- All blocks; 'none': a block that an append has given up. -/
abbrev Hp := List (Option Blk)

/-- Where an abstract block lies. -/
structure Place where
  block : Nat
  off : Nat
  cap : Nat
  sz : Nat

def ad (b o : Nat) : Addr := ⟨b, o, none⟩

mutual
def VR (m : List Place) : AV → Value → Prop
  | .bool b, v => v = .bool b
  | .int k n, v => v = .int k n
  | .nil, v => ∃ A, v = .slice A 0 0
  | .sl b o len, v => ∃ p A c, m[b]? = some p ∧ v = .slice A len c ∧ ((A = some (ad p.block (p.off + o * p.sz)) ∧ c = p.cap - o ∧ o + len ≤ p.cap) ∨ (len = 0 ∧ c = 0 ∧ p.cap ≤ o))
  | .ptr b o, v => ∃ p, m[b]? = some p ∧ v = .pointer (some (ad p.block (p.off + o)))
  | .fn f caps, v => ∃ cs : List Value, v = .func (.func f) #[] cs.toArray ∧ VRs m caps cs
  | .agg l, v => ∃ cs : List Value, v = .agg cs.toArray ∧ VRs m l cs
  | .tup l, v => ∃ cs : List Value, v = .tuple cs.toArray ∧ VRs m l cs
  | .und, _ => True
def VRs (m : List Place) : List AV → List Value → Prop
  | [], vs => vs = []
  | a :: l, vs => ∃ v r, vs = v :: r ∧ VR m a v ∧ VRs m l r
end

/-- Places only grow. -/
def Ext (m m' : List Place) : Prop := ∀ (i : Nat) (p : Place), m[i]? = some p → m'[i]? = some p
theorem Ext.refl (m : List Place) : Ext m m := fun _ _ h => h
theorem Ext.trans {a b c : List Place} (h : Ext a b) (k : Ext b c) : Ext a c := fun i p hp => k i p (h i p hp)
theorem Ext.snoc (m : List Place) (p : Place) : Ext m (m ++ [p]) := fun i q h => by
  have : i < m.length := (List.getElem?_eq_some_iff.1 h).1
  rw [List.getElem?_append_left this]
  exact h

mutual
theorem VR.ext {m m' : List Place} (h : Ext m m') : ∀ {a : AV} {v : Value}, VR m a v → VR m' a v
  | .bool _, _, k => k
  | .int _ _, _, k => k
  | .nil, _, k => k
  | .sl _ _ _, _, k => by
    obtain ⟨p, A, c, hp, k⟩ := k
    exact ⟨p, A, c, h _ _ hp, k⟩
  | .ptr _ _, _, k => by
    obtain ⟨p, hp, r⟩ := k
    exact ⟨p, h _ _ hp, r⟩
  | .fn _ _, _, k => by
    obtain ⟨cs, e, k⟩ := k
    exact ⟨cs, e, VRs.ext h k⟩
  | .agg _, _, k => by
    obtain ⟨cs, e, k⟩ := k
    exact ⟨cs, e, VRs.ext h k⟩
  | .tup _, _, k => by
    obtain ⟨cs, e, k⟩ := k
    exact ⟨cs, e, VRs.ext h k⟩
  | .und, _, _ => trivial
theorem VRs.ext {m m' : List Place} (h : Ext m m') : ∀ {l : List AV} {vs : List Value}, VRs m l vs → VRs m' l vs
  | [], _, k => k
  | _ :: _, _, k => by
    obtain ⟨v, r, e, k1, k2⟩ := k
    exact ⟨v, r, e, VR.ext h k1, VRs.ext h k2⟩
end

theorem VRs.length {m : List Place} : ∀ {l : List AV} {vs : List Value}, VRs m l vs → vs.length = l.length
  | [], _, k => by cases k; rfl
  | _ :: _, _, k => by
    obtain ⟨v, r, rfl, _, k2⟩ := k
    simp [VRs.length k2]
theorem VRs.get {m : List Place} : ∀ {l : List AV} {vs : List Value}, VRs m l vs → ∀ (i : Nat) (a : AV), l[i]? = some a → ∃ v, vs[i]? = some v ∧ VR m a v
  | [], _, _, i, a, h => by simp at h
  | x :: l, _, k, i, a, h => by
    obtain ⟨v, r, rfl, k1, k2⟩ := k
    cases i with
    | zero => simp at h; subst h; exact ⟨v, by simp, k1⟩
    | succ i => simp at h ⊢; exact VRs.get k2 i a h
theorem VRs.of {m : List Place} : ∀ {l : List AV} {vs : List Value}, vs.length = l.length → (∀ (i : Nat) (a : AV), l[i]? = some a → ∃ v, vs[i]? = some v ∧ VR m a v) → VRs m l vs
  | [], vs, hl, _ => by cases vs <;> simp_all [VRs]
  | x :: l, [], hl, _ => by simp at hl
  | x :: l, v :: vs, hl, h => by
    refine ⟨v, vs, rfl, ?_, VRs.of (by simpa using hl) (fun i a hi => by simpa using h (i + 1) a (by simpa using hi))⟩
    obtain ⟨v', e, k⟩ := h 0 x rfl
    simp at e
    subst e
    exact k
theorem VRs.append {m : List Place} {l l' : List AV} {vs vs' : List Value} (h : VRs m l vs) (h' : VRs m l' vs') : VRs m (l ++ l') (vs ++ vs') := by
  refine VRs.of (by simp [h.length, h'.length]) fun i a hi => ?_
  by_cases hlt : i < l.length
  · rw [List.getElem?_append_left hlt] at hi
    obtain ⟨v, e, k⟩ := h.get i a hi
    exact ⟨v, by rw [List.getElem?_append_left (by rw [h.length]; exact hlt)]; exact e, k⟩
  · rw [List.getElem?_append_right (by omega)] at hi
    obtain ⟨v, e, k⟩ := h'.get _ a hi
    exact ⟨v, by rw [List.getElem?_append_right (by rw [h.length]; omega), h.length]; exact e, k⟩
theorem VRs.take {m : List Place} {l : List AV} {vs : List Value} (h : VRs m l vs) (n : Nat) : VRs m (l.take n) (vs.take n) := by
  refine VRs.of (by simp [h.length]) fun i a hi => ?_
  rw [List.getElem?_take] at hi ⊢
  split at hi
  · rename_i hlt
    rw [if_pos hlt]
    exact h.get i a hi
  · cases hi
theorem VRs.drop {m : List Place} {l : List AV} {vs : List Value} (h : VRs m l vs) (n : Nat) : VRs m (l.drop n) (vs.drop n) := by
  refine VRs.of (by simp [h.length]) fun i a hi => ?_
  rw [List.getElem?_drop] at hi ⊢
  exact h.get _ a hi
theorem VRs.map {m : List Place} {α : Type} (f : α → AV) (g : α → Value) (h : ∀ x, VR m (f x) (g x)) : ∀ l : List α, VRs m (l.map f) (l.map g)
  | [] => rfl
  | x :: l => ⟨g x, l.map g, rfl, h x, VRs.map f g h l⟩

/-- A value of one cell. -/
def AV.one : AV → Bool
  | .agg _ | .tup _ | .und => false
  | _ => true
theorem VR.one {m : List Place} {a : AV} {v : Value} (h : VR m a v) (h1 : a.one = true) : v.oneCell' = true := by
  cases a <;> simp [AV.one] at h1
  · cases h; rfl
  · cases h; rfl
  · obtain ⟨A, rfl⟩ := h; rfl
  · obtain ⟨p, A, c, _, rfl, _⟩ := h; rfl
  · obtain ⟨p, _, rfl⟩ := h; rfl
  · obtain ⟨cs, rfl, _⟩ := h; rfl
def AV.cells : AV → List AV
  | .agg l => l
  | a => [a]
theorem VR.cells {m : List Place} {a : AV} {v : Value} (h : VR m a v) (h1 : a.one = true ∨ ∃ l, a = .agg l) : VRs m a.cells v.cells.toList := by
  rcases h1 with h1 | ⟨l, rfl⟩
  · have ho := h.one h1
    have e1 : a.cells = [a] := by cases a <;> simp_all [AV.cells, AV.one]
    have e2 : v.cells = #[v] := by cases v <;> simp_all [Value.cells, Value.oneCell']
    rw [e1, e2]
    exact ⟨v, [], rfl, h, rfl⟩
  · obtain ⟨cs, rfl, k⟩ := h
    simpa [AV.cells, Value.cells] using k

/-- The abstract heap tells what lies in memory. -/
structure BlkAt (m : List Place) (b : Blk) (p : Place) (w : World) : Prop where
  sz : p.sz = b.sz
  one : ∀ a ∈ b.cells, a.one = true
  at_ : ∃ cur T fz, w.heap[p.block]? = some (.cells cur T fz) ∧ (b.rw = true → fz = (0, 0) ∧ p.off + p.cap * p.sz ≤ cur.size ∧ b.cells.length ≤ p.cap * p.sz) ∧
    ∀ (j : Nat) (a : AV), b.cells[j]? = some a → ∃ v, cur[p.off + j]? = some v ∧ VR m a v
structure Rel (m : List Place) (H : Hp) (w : World) : Prop where
  len : m.length = H.length
  blk : ∀ (i : Nat) (b : Blk), H[i]? = some (some b) → ∃ p, m[i]? = some p ∧ BlkAt m b p w
  inj : ∀ (i j : Nat) (b c : Blk) (p q : Place), H[i]? = some (some b) → H[j]? = some (some c) → m[i]? = some p → m[j]? = some q → b.rw = true → i ≠ j → p.block ≠ q.block

/-- A block of the model's memory that may be written. -/
def FP (m : List Place) (H : Hp) (k : Nat) : Prop := ∃ (i : Nat) (b : Blk) (p : Place), H[i]? = some (some b) ∧ b.rw = true ∧ m[i]? = some p ∧ p.block = k

/-- A stretch of the run. -/
structure Step (m : List Place) (H : Hp) (w : World) (m' : List Place) (H' : Hp) (w' : World) : Prop where
  ext : Ext m m'
  rel : Rel m' H' w'
  os : w'.os = w.os
  tape : w'.tape = w.tape
  output : w'.output = w.output
  size : w.heap.size ≤ w'.heap.size
  keep : ∀ k, k < w.heap.size → ¬ FP m H k → w'.heap[k]? = w.heap[k]?
  fp : ∀ k, k < w.heap.size → FP m' H' k → FP m H k

theorem Step.refl {m : List Place} {H : Hp} {w : World} (h : Rel m H w) : Step m H w m H w := ⟨Ext.refl m, h, rfl, rfl, rfl, Nat.le_refl _, fun _ _ _ => rfl, fun _ _ h => h⟩
theorem Step.drew {m : List Place} {H : Hp} {w : World} (h : Rel m H w) : Step m H w m H { w with drawn := w.drawn + 1 } :=
  ⟨Ext.refl m, ⟨h.len, fun i b hi => by
    obtain ⟨p, hp, k⟩ := h.blk i b hi
    exact ⟨p, hp, ⟨k.sz, k.one, k.at_⟩⟩, h.inj⟩, rfl, rfl, rfl, Nat.le_refl _, fun _ _ _ => rfl, fun _ _ h => h⟩
theorem Step.trans {m m1 m2 : List Place} {H H1 H2 : Hp} {w w1 w2 : World} (h : Step m H w m1 H1 w1) (k : Step m1 H1 w1 m2 H2 w2) : Step m H w m2 H2 w2 :=
  ⟨h.ext.trans k.ext, k.rel, k.os.trans h.os, k.tape.trans h.tape, k.output.trans h.output, Nat.le_trans h.size k.size,
    fun i hi hn => (k.keep i (Nat.lt_of_lt_of_le hi h.size) (fun f => hn (h.fp i hi f))).trans (h.keep i hi hn),
    fun i hi f => h.fp i hi (k.fp i (Nat.lt_of_lt_of_le hi h.size) f)⟩

/-- Where nothing may be written, all that was stays. -/
theorem Step.below {m m' : List Place} {H H' : Hp} {w w' : World} (h : Step m H w m' H' w') (hr : ∀ (i : Nat) (b : Blk), H[i]? = some (some b) → b.rw = false) : Below w.heap.size w w' :=
  ⟨h.os, h.tape, h.output, h.size, fun k hk => h.keep k hk (fun ⟨i, b, p, hi, hb, _⟩ => by rw [hr i b hi] at hb; cases hb)⟩
end Go.Proofs.Ythihphgfblonoaa.Am
