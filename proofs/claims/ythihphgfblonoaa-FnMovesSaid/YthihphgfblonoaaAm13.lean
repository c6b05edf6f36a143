/- Frames, and rows that a function owns, on the abstract heap. No condition. -/
import Derived.Test.YthihphgfblonoaaAm12
namespace Go.Proofs.Ythihphgfblonoaa.Am
open Go Go.RowKit
set_option linter.unusedSimpArgs false
set_option linter.unusedVariables false

theorem vcDraw.of {P : Program} {tab : Tab} {n : Nat} {ops : Array Oper} {Q : TS → Hp → Prop} {ts : TS} {H : Hp} (hm : P.follows .mixedOrders = true) (p : Plan) (hok : drawOk ops p = true) (h : vcPlan P tab n ops Q p ts H) : vcDraw P tab n ops Q ts H := ⟨hm, p, hok, h⟩
@[simp] theorem vc_draw (P : Program) (tab : Tab) (n : Nat) (Q : Ex → TS → Hp → Prop) (ts : TS) (H : Hp) (id : Nat) (ops : Array Oper) : vc P tab n (.region id ops true) Q ts H = vcDraw P tab n ops (Q .normal) ts H := rfl
attribute [simp] vcPlan chkAll chkAt

/-! ### frames -/
def AV.at : AV → Nat → Prop
  | .sl b _ _, c => b = c
  | .ptr b _, c => b = c
  | _, _ => False
def Keeps (X : Nat → Prop) (K K' : Hp) : Prop := K.length ≤ K'.length ∧ ∀ (b : Nat) (blk : Blk), K[b]? = some (some blk) → ¬ X b → K'[b]? = some (some blk)
abbrev Fr (K K' : Hp) : Prop := Keeps (fun _ => False) K K'
theorem Keeps.refl (X : Nat → Prop) (K : Hp) : Keeps X K K := ⟨Nat.le_refl _, fun _ _ h _ => h⟩
theorem Fr.refl (K : Hp) : Fr K K := Keeps.refl _ K
theorem Keeps.mono {X Y : Nat → Prop} {K K' : Hp} (h : Keeps X K K') (hXY : ∀ b, X b → Y b) : Keeps Y K K' := ⟨h.1, fun b blk hb hn => h.2 b blk hb fun hx => hn (hXY b hx)⟩
theorem Keeps.trans {X : Nat → Prop} {A B C : Hp} (h : Keeps X A B) (k : Keeps X B C) : Keeps X A C := ⟨Nat.le_trans h.1 k.1, fun b blk hb hn => k.2 b blk (h.2 b blk hb hn) hn⟩
theorem Fr.keeps {X : Nat → Prop} {K K' : Hp} (h : Fr K K') : Keeps X K K' := h.mono fun _ h => h.elim
theorem Fr.then {X : Nat → Prop} {K K1 K2 : Hp} (h : Fr K K1) (k : Keeps X K1 K2) (hX : ∀ b, X b → K.length ≤ b) : Fr K K2 :=
  ⟨Nat.le_trans h.1 k.1, fun b blk hb _ => k.2 b blk (h.2 b blk hb (fun h => h)) fun hx => by
    have h1 := hX b hx
    have h2 := (List.getElem?_eq_some_iff.1 hb).1
    omega⟩
theorem Fr.app (K L : Hp) : Fr K (K ++ L) := ⟨by simp, fun b blk hb _ => by rw [List.getElem?_append_left (List.getElem?_eq_some_iff.1 hb).1]; exact hb⟩
theorem Fr.app' {H K : Hp} (h : Fr H K) (L : Hp) : Fr H (K ++ L) := h.trans (Fr.app K L)
theorem Keeps.set (K : Hp) (b : Nat) (x : Option Blk) : Keeps (fun c => c = b) K (K.set b x) := ⟨by simp, fun c blk hc hn => by rw [List.getElem?_set_ne (fun e => hn e.symm)]; exact hc⟩
theorem Fr.le {K K' : Hp} (h : Fr K K') : K.length ≤ K'.length := h.1
theorem lt_of_get {K : Hp} {b : Nat} {x : Option Blk} (h : K[b]? = some x) : b < K.length := (List.getElem?_eq_some_iff.1 h).1

/-! ### what is looked at in a heap that was kept -/
def loadB (ty : Ty) (x : Option (Option Blk)) (o : Nat) : Option AV := match x with
  | some (some blk) => if o + ty.size ≤ blk.cells.length then (if ty.k.agg then some (.agg ((blk.cells.drop o).take ty.size)) else blk.cells[o]?) else none
  | _ => none
theorem loadA_eq (ty : Ty) (H : Hp) (b o : Nat) : loadA ty H (.ptr b o) = loadB ty H[b]? o := rfl
def storeB (ty : Ty) (x : Option (Option Blk)) (o : Nat) (v : AV) : Option Blk := match x with
  | some (some blk) => if blk.rw = true ∧ v.cells.length = ty.size ∧ v.cells.all AV.one = true ∧ o + ty.size ≤ blk.cells.length then some { blk with cells := over blk.cells o v.cells } else none
  | _ => none
theorem storeA_eq (ty : Ty) (H : Hp) (b o : Nat) (v : AV) : storeA ty H (.ptr b o) v = (storeB ty H[b]? o v).map fun blk => H.set b (some blk) := by
  unfold storeA storeB
  simp only
  cases H[b]? with
  | none => rfl
  | some y =>
    cases y with
    | none => rfl
    | some blk =>
      simp only
      split <;> rfl
theorem Keeps.load {X : Nat → Prop} {K K' : Hp} (h : Keeps X K K') {ty : Ty} {a : AV} (hs : (loadA ty K a).isSome = true) (hn : ∀ b, a.at b → ¬ X b) : loadA ty K' a = loadA ty K a := by
  cases a with
  | ptr b o =>
    rw [loadA_eq] at hs
    cases hb : K[b]? with
    | none => rw [hb] at hs; cases hs
    | some x =>
      cases x with
      | none => rw [hb] at hs; cases hs
      | some blk => rw [loadA_eq, loadA_eq, hb, h.2 b blk hb (hn b rfl)]
  | _ => rfl
theorem Keeps.index {X : Nat → Prop} {K K' : Hp} (h : Keeps X K K') {tab : Tab} {k : TyK} {x i : AV} (hs : (indexAddrA tab k K x i).isSome = true) (hn : ∀ b, x.at b → ¬ X b) : indexAddrA tab k K' x i = indexAddrA tab k K x i := by
  unfold indexAddrA at hs ⊢
  split
  · split
    · rename_i e b o len
      cases hb : K[b]? with
      | none => exfalso; simp [hb] at hs
      | some y =>
        cases y with
        | none => exfalso; simp [hb] at hs
        | some blk => rw [h.2 b blk hb (hn b rfl)]
    · rfl
    · rfl
  · rfl
theorem Keeps.row {X : Nat → Prop} {K K' : Hp} (h : Keeps X K K') {sz : Nat} {x : AV} (hs : (rowOf sz K x).isSome = true) (hn : ∀ b, x.at b → ¬ X b) : rowOf sz K' x = rowOf sz K x := by
  cases x with
  | sl b o n =>
    unfold rowOf at hs ⊢
    simp only at hs ⊢
    cases hb : K[b]? with
    | none => rw [hb] at hs; cases hs
    | some y =>
      cases y with
      | none => rw [hb] at hs; cases hs
      | some blk => rw [h.2 b blk hb (hn b rfl)]
  | _ => rfl
theorem Keeps.live {X : Nat → Prop} {K K' : Hp} (h : Keeps X K K') {sz : Nat} {x : AV} (hs : liveA sz K x = true) (hn : ∀ b, x.at b → ¬ X b) : liveA sz K' x = true := by
  cases x with
  | sl b o n =>
    unfold liveA at hs ⊢
    simp only at hs ⊢
    cases hb : K[b]? with
    | none => rw [hb] at hs; cases hs
    | some y =>
      cases y with
      | none => rw [hb] at hs; cases hs
      | some blk => rw [hb] at hs; rw [h.2 b blk hb (hn b rfl)]; exact hs
  | _ => rfl
theorem Fr.load {K K' : Hp} (h : Fr K K') {ty : Ty} {a : AV} (hs : (loadA ty K a).isSome = true) : loadA ty K' a = loadA ty K a := Keeps.load h hs fun _ _ => id
theorem Fr.index {K K' : Hp} (h : Fr K K') {tab : Tab} {k : TyK} {x i : AV} (hs : (indexAddrA tab k K x i).isSome = true) : indexAddrA tab k K' x i = indexAddrA tab k K x i := Keeps.index h hs fun _ _ => id
theorem Fr.row {K K' : Hp} (h : Fr K K') {sz : Nat} {x : AV} (hs : (rowOf sz K x).isSome = true) : rowOf sz K' x = rowOf sz K x := Keeps.row h hs fun _ _ => id
theorem Fr.live {K K' : Hp} (h : Fr K K') {sz : Nat} {x : AV} (hs : liveA sz K x = true) : liveA sz K' x = true := Keeps.live h hs fun _ _ => id
@[simp] theorem load_app {K L : Hp} {ty : Ty} {a : AV} (hs : (loadA ty K a).isSome = true) : loadA ty (K ++ L) a = loadA ty K a := (Fr.app K L).load hs
@[simp] theorem index_app {K L : Hp} {tab : Tab} {k : TyK} {x i : AV} (hs : (indexAddrA tab k K x i).isSome = true) : indexAddrA tab k (K ++ L) x i = indexAddrA tab k K x i := (Fr.app K L).index hs
@[simp] theorem row_app {K L : Hp} {sz : Nat} {x : AV} (hs : (rowOf sz K x).isSome = true) : rowOf sz (K ++ L) x = rowOf sz K x := (Fr.app K L).row hs
@[simp] theorem live_app {K L : Hp} {sz : Nat} {x : AV} (hs : liveA sz K x = true) : liveA sz (K ++ L) x = true := (Fr.app K L).live hs
@[simp] theorem load_new (K L : Hp) (ty : Ty) (i o : Nat) : loadA ty (K ++ L) (.ptr (K.length + i) o) = loadB ty L[i]? o := by rw [loadA_eq, List.getElem?_append_right (by omega)]; simp
@[simp] theorem load_new0 (K L : Hp) (ty : Ty) (o : Nat) : loadA ty (K ++ L) (.ptr K.length o) = loadB ty L[0]? o := load_new K L ty 0 o
@[simp] theorem store_new (K L : Hp) (ty : Ty) (i o : Nat) (v : AV) : storeA ty (K ++ L) (.ptr (K.length + i) o) v = (storeB ty L[i]? o v).map fun blk => K ++ L.set i (some blk) := by
  have h1 : ∀ x, List.set (K ++ L) (K.length + i) x = K ++ L.set i x := fun x => by
    rw [List.set_append_right _ _ (by omega)]
    simp
  rw [storeA_eq, List.getElem?_append_right (by omega)]
  simp only [h1, Nat.add_sub_cancel_left]
@[simp] theorem store_new0 (K L : Hp) (ty : Ty) (o : Nat) (v : AV) : storeA ty (K ++ L) (.ptr K.length o) v = (storeB ty L[0]? o v).map fun blk => K ++ L.set 0 (some blk) := store_new K L ty 0 o v
attribute [simp] loadB storeB over
@[simp] theorem index_new (tab : Tab) (K L : Hp) (i o n e : Nat) (k : IntKind) (j : Int) (b : Blk) (ety : Ty) (h : L[i]? = some (some b)) (he : tab e = some ety) (hz : b.sz = ety.size) (h0 : 0 ≤ j) (h1 : j < (n : Int)) : indexAddrA tab (.slice e) (K ++ L) (.sl (K.length + i) o n) (.int k j) = some (.ptr (K.length + i) ((o + j.toNat) * ety.size)) := by
  have : (K ++ L)[K.length + i]? = some (some b) := by rw [List.getElem?_append_right (by omega)]; simpa using h
  simp [indexAddrA, he, this, hz, h0, h1]

/-! ### rows -/
theorem Row.keeps {X : Nat → Prop} {sz : Nat} {K K' : Hp} {v : AV} {es : List (List AV)} (h : Row sz K v es) (k : Keeps X K K') (hn : ∀ b, v.at b → ¬ X b) : Row sz K' v es := by
  refine ⟨h.1, ?_⟩
  rcases h.2 with h | ⟨b, o, blk, rfl, hb, r⟩
  · exact .inl h
  · exact .inr ⟨b, o, blk, rfl, k.2 b blk hb (hn b rfl), r⟩
theorem Row.fr {sz : Nat} {K K' : Hp} {v : AV} {es : List (List AV)} (h : Row sz K v es) (k : Fr K K') : Row sz K' v es := h.keeps k fun _ _ => id
/-- The whole row, as an append or a copy reads it. -/
theorem Row.whole {sz : Nat} {K : Hp} {v : AV} {es : List (List AV)} (h : Row sz K v es) : rowOf sz K v = some (es.flatten, es.length) := by
  rcases h.2 with ⟨rfl, rfl⟩ | ⟨b, o, blk, rfl, hb, hs, hc, hl⟩
  · rfl
  · simp [rowOf, hb, hs, hl, hc]
theorem Row.live {sz : Nat} {K : Hp} {v : AV} {es : List (List AV)} (h : Row sz K v es) : liveA sz K v = true := by
  rcases h.2 with ⟨rfl, rfl⟩ | ⟨b, o, blk, rfl, hb, hs, hc, hl⟩
  · rfl
  · simp [liveA, hb, hs]
/-- A part of a row. -/
theorem Row.part {sz : Nat} {K : Hp} {v : AV} {es : List (List AV)} (h : Row sz K v es) (i j : Nat) (hij : i ≤ j) (hj : j ≤ es.length) (lo hi : Option AV) (hlo : boundA 0 lo = some (i : Int)) (hhi : boundA es.length hi = some (j : Int)) : ∃ u, sliceA v lo hi = some u ∧ Row sz K u ((es.drop i).take (j - i)) ∧ ∀ b, u.at b → v.at b := by
  have hlen : ((es.drop i).take (j - i)).length = j - i := by simp; omega
  have hone : ∀ e ∈ (es.drop i).take (j - i), e.length = sz := fun e he => h.1 e (List.mem_of_mem_drop (List.mem_of_mem_take he))
  rcases h.2 with ⟨rfl, rfl⟩ | ⟨b, o, blk, rfl, hb, hs, hc, hl⟩
  · simp at hj
    subst hj
    obtain rfl : i = 0 := by omega
    refine ⟨.nil, ?_, ⟨by simp, .inl ⟨rfl, by simp⟩⟩, fun b h => h⟩
    have hhi' : boundA 0 hi = some 0 := by simpa using hhi
    simp [sliceA, hlo, hhi']
  · refine ⟨.sl b (o + i) (j - i), ?_, ⟨hone, .inr ⟨b, o + i, blk, by rw [hlen], hb, hs, ?_, ?_⟩⟩, fun b h => h⟩
    · have h1 : (i : Int) ≤ j := by omega
      have h2 : (j : Int) ≤ es.length := by omega
      simp [sliceA, hlo, hhi, h1, h2]
    · have e1 : (es.drop i).take (j - i) = (es.take j).drop i := by rw [List.drop_take]
      have h3 : (es.take j).flatten = es.flatten.take (j * sz) := by
        have := flatten_drop (es := es) j h.1
        have h4 : es.flatten = (es.take j).flatten ++ (es.drop j).flatten := by rw [← List.flatten_append, List.take_append_drop]
        have h5 : (es.take j).flatten.length = j * sz := by
          rw [flatten_length (fun e he => h.1 e (List.mem_of_mem_take he)), List.length_take, Nat.min_eq_left hj]
        rw [h4, List.take_left' h5]
      rw [hlen, e1, ← flatten_drop i (fun e he => h.1 e (List.mem_of_mem_take he)), h3, ← hc, List.take_take, List.drop_take, List.drop_drop, Nat.add_mul]
      have h6 : min (j * sz) (es.length * sz) = j * sz := Nat.min_eq_left (Nat.mul_le_mul_right _ hj)
      rw [h6, Nat.sub_mul]
    · rw [hlen]
      exact Nat.le_trans (Nat.mul_le_mul_right _ (by omega)) hl
theorem Row.get {tab : Tab} {H : Hp} {v : AV} {α : Type} {enc : α → List AV} {l : List α} {ety : Ty} {e : Nat} (h : Row ety.size H v (l.map enc)) (he : tab e = some ety) {i : Nat} {a : α} (hi : l[i]? = some a) (k : IntKind) :
    ∃ b q, v.at b ∧ indexAddrA tab (.slice e) H v (.int k i) = some (.ptr b q) ∧ (ety.k.agg = true → loadA ety H (.ptr b q) = some (.agg (enc a))) ∧ ∀ (fty : Ty) (o : Nat), fty.k.agg = false → fty.size = 1 → o < ety.size → loadA fty H (.ptr b (q + o)) = (enc a)[o]? := by
  have hlt : i < l.length := (List.getElem?_eq_some_iff.1 hi).1
  have hlt' : i < (l.map enc).length := by simpa using hlt
  have hea : (l.map enc)[i]'hlt' = enc a := by
    have := (List.getElem?_eq_some_iff.1 hi).2
    simp [this]
  rcases h.2 with ⟨rfl, h0⟩ | ⟨b, o, blk, rfl, hb, hs, hc, hl⟩
  · rw [h0] at hlt'
    simp at hlt'
  · obtain ⟨blk2, h1, h2, _, h3, h4⟩ := h.cells i hlt'
    rw [hea] at h4
    have hi' : (i : Int) < ((l.map enc).length : Int) := by exact_mod_cast hlt'
    refine ⟨b, (o + i) * ety.size, rfl, ?_, fun ha => ?_, fun fty j ha hz hj => ?_⟩
    · simp only [indexAddrA, he, h1, h2]
      rw [if_pos ⟨trivial, by omega, hi'⟩]
      simp
    · simp [loadA, h1, ha, h4, h3]
    · have h5 : (o + i) * ety.size + j + 1 ≤ blk2.cells.length := by omega
      rw [← h4]
      simp [loadA, h1, ha, hz, h5, hj, List.getElem?_take, List.getElem?_drop]

theorem Row.get1 {tab : Tab} {H : Hp} {v : AV} {α : Type} {f : α → AV} {l : List α} {ety : Ty} {e : Nat} (h : Row 1 H v (l.map fun a => [f a])) (he : tab e = some ety) (hz : ety.size = 1) (ha : ety.k.agg = false) {i : Nat} {a : α} (hi : l[i]? = some a) (k : IntKind) :
    ∃ b q, v.at b ∧ indexAddrA tab (.slice e) H v (.int k i) = some (.ptr b q) ∧ loadA ety H (.ptr b q) = some (f a) := by
  rw [← hz] at h
  obtain ⟨b, q, h1, h2, _, h3⟩ := h.get he hi k
  exact ⟨b, q, h1, h2, by simpa using h3 ety 0 ha hz (by omega)⟩
/-- A row that the function has made, and that fills its block. -/
def Own (sz : Nat) (K : Hp) (v : AV) (es : List (List AV)) : Prop :=
  (∀ e ∈ es, e.length = sz) ∧ ((v = .nil ∧ es = []) ∨ ∃ b, v = .sl b 0 es.length ∧ K[b]? = some (some ⟨sz, true, es.flatten⟩))
theorem Own.row {sz : Nat} {K : Hp} {v : AV} {es : List (List AV)} (h : Own sz K v es) : Row sz K v es := by
  refine ⟨h.1, ?_⟩
  rcases h.2 with h1 | ⟨b, rfl, hb⟩
  · exact .inl h1
  · have := flatten_length h.1
    exact .inr ⟨b, 0, _, rfl, hb, rfl, by simpa using List.take_of_length_le (by omega), by simp [this]⟩
theorem Own.keeps {X : Nat → Prop} {sz : Nat} {K K' : Hp} {v : AV} {es : List (List AV)} (h : Own sz K v es) (k : Keeps X K K') (hn : ∀ b, v.at b → ¬ X b) : Own sz K' v es := by
  refine ⟨h.1, ?_⟩
  rcases h.2 with h | ⟨b, rfl, hb⟩
  · exact .inl h
  · exact .inr ⟨b, rfl, k.2 b _ hb (hn b rfl)⟩
theorem Own.fr {sz : Nat} {K K' : Hp} {v : AV} {es : List (List AV)} (h : Own sz K v es) (k : Fr K K') : Own sz K' v es := h.keeps k fun _ _ => id
theorem Own.nil (sz : Nat) (K : Hp) : Own sz K .nil [] := ⟨by simp, .inl ⟨rfl, rfl⟩⟩
theorem Own.lt {sz : Nat} {K : Hp} {v : AV} {es : List (List AV)} (h : Own sz K v es) : ∀ b, v.at b → b < K.length := by
  intro b hb
  rcases h.2 with ⟨rfl, _⟩ | ⟨b', rfl, h'⟩
  · cases hb
  · cases hb
    exact lt_of_get h'
theorem Own.new {sz : Nat} {K : Hp} {es : List (List AV)} (h : ∀ e ∈ es, e.length = sz) : Own sz (K ++ [some ⟨sz, true, es.flatten⟩]) (.sl K.length 0 es.length) es :=
  ⟨h, .inr ⟨K.length, rfl, by simp⟩⟩
/-- All blocks of the value are at least a. -/
def Fresh (a : Nat) (v : AV) : Prop := ∀ b, v.at b → a ≤ b
theorem Fresh.nil (a : Nat) : Fresh a .nil := fun _ h => h.elim
theorem Fresh.mono {a a' : Nat} {v : AV} (h : Fresh a v) (k : a' ≤ a) : Fresh a' v := fun b hb => Nat.le_trans k (h b hb)
theorem Own.append {sz bytes : Nat} {K : Hp} {v x : AV} {es new : List (List AV)} (h : Own sz K v es) (hsz : 0 < sz) (hx : rowOf sz K x = some (new.flatten, new.length)) (hnew : ∀ e ∈ new, e.length = sz)
    (hb : (es.length + new.length) * bytes ≤ 140737488355328) (hl : es.length + new.length ≤ 9223372036854775807) :
    ∃ u K', appendA sz bytes K v x = some (u, K') ∧ Own sz K' u (es ++ new) ∧ Keeps v.at K K' ∧ ∀ b, u.at b → v.at b ∨ K.length ≤ b := by
  have hall : ∀ e ∈ es ++ new, e.length = sz := fun e he => (List.mem_append.1 he).elim (h.1 e) (hnew e)
  by_cases hn : new = []
  · subst hn
    refine ⟨v, K, ?_, by simpa using h, Keeps.refl _ _, fun b hb => .inl hb⟩
    rcases h.2 with ⟨rfl, rfl⟩ | ⟨b, rfl, hb⟩
    · simp [appendA, hx]
    · have := flatten_length h.1
      simp [appendA, hx, hb, this, hsz]
  · have hpos : 0 < new.length := List.length_pos_iff.2 hn
    rcases h.2 with ⟨rfl, rfl⟩ | ⟨b, rfl, hblk⟩
    · refine ⟨.sl K.length 0 new.length, K ++ [some ⟨sz, true, new.flatten⟩], ?_, by simpa using Own.new hnew, (Fr.app K _).keeps, fun b hb => .inr (by cases hb; exact Nat.le_refl _)⟩
      simp at hb hl
      simp [appendA, hx, hb, hl]
      omega
    · have hf := flatten_length h.1
      have hblt := lt_of_get hblk
      refine ⟨.sl K.length 0 (es.length + new.length), K.set b none ++ [some ⟨sz, true, es.flatten ++ new.flatten⟩], ?_, ⟨hall, .inr ⟨K.length, by simp, ?_⟩⟩, ?_, fun b' hb' => .inr (by cases hb'; exact Nat.le_refl _)⟩
      · have h1 : ¬ ((es.length + new.length) * sz ≤ es.length * sz) := by
          rw [Nat.add_mul]
          have := Nat.mul_pos hpos hsz
          omega
        have h2 : List.take (es.length * sz) es.flatten = es.flatten := List.take_of_length_le (by omega)
        have hn0 : ¬ new.length = 0 := by omega
        simp [appendA, hx, hblk, hf, hsz, hn, hn0, h1, hb, hl, h2]
      · have : (K.set b none).length = K.length := by simp
        rw [← this]
        simp
      · exact ((Keeps.set K b none).trans ((Fr.app _ _).keeps)).mono fun c hc => by subst hc; rfl
theorem over_flatten {sz : Nat} : ∀ {es : List (List AV)} (i : Nat) (o : Nat) (x : List AV) (e : List AV), (∀ e ∈ es, e.length = sz) → es[i]? = some e → o + x.length ≤ sz → over es.flatten (i * sz + o) x = (es.set i (over e o x)).flatten
  | [], i, o, x, e, _, h, _ => by simp at h
  | f :: es, 0, o, x, e, hl, h, ho => by
    simp at h
    subst h
    have hf := hl f (by simp)
    simp only [over, Nat.zero_mul, Nat.zero_add, List.flatten_cons, List.set_cons_zero]
    rw [List.take_append_of_le_length (by omega), List.drop_append_of_le_length (by omega)]
    simp
  | f :: es, i + 1, o, x, e, hl, h, ho => by
    have hf := hl f (by simp)
    have ih := over_flatten (es := es) i o x e (fun e he => hl e (by simp [he])) (by simpa using h) ho
    simp only [List.flatten_cons, List.set_cons_succ, ← ih]
    simp only [over]
    have e1 : (i + 1) * sz + o = f.length + (i * sz + o) := by rw [Nat.succ_mul]; omega
    rw [e1, List.take_length_add_append, Nat.add_assoc, List.drop_length_add_append]
    simp
/-- A store into an element, or into a field of one. -/
theorem Own.store {tab : Tab} {K : Hp} {v : AV} {es : List (List AV)} {ety : Ty} {e : Nat} (h : Own ety.size K v es) (he : tab e = some ety) {i : Nat} {c : List AV} (hi : es[i]? = some c) (k : IntKind) :
    ∃ b, v = .sl b 0 es.length ∧ indexAddrA tab (.slice e) K v (.int k i) = some (.ptr b (i * ety.size)) ∧ ∀ (fty : Ty) (o : Nat) (x : AV), x.cells.length = fty.size → x.cells.all AV.one = true → o + fty.size ≤ ety.size →
      ∃ K', storeA fty K (.ptr b (i * ety.size + o)) x = some K' ∧ Own ety.size K' v (es.set i (over c o x.cells)) ∧ Keeps v.at K K' ∧ K'.length = K.length := by
  have hlt : i < es.length := (List.getElem?_eq_some_iff.1 hi).1
  have hc : c.length = ety.size := h.1 c (List.mem_of_getElem? hi)
  rcases h.2 with ⟨rfl, rfl⟩ | ⟨b, rfl, hb⟩
  · simp at hlt
  · have hf := flatten_length h.1
    refine ⟨b, rfl, ?_, fun fty o x hx h1 ho => ?_⟩
    · simp [indexAddrA, he, hb]
      exact hlt
    · have h2 : i * ety.size + o + fty.size ≤ es.length * ety.size := by
        have : (i + 1) * ety.size ≤ es.length * ety.size := Nat.mul_le_mul_right _ hlt
        rw [Nat.succ_mul] at this
        omega
      refine ⟨K.set b (some ⟨ety.size, true, (es.set i (over c o x.cells)).flatten⟩), ?_, ⟨fun f hf => ?_, .inr ⟨b, by simp, ?_⟩⟩, (Keeps.set K b _).mono fun c hc => by subst hc; rfl, by simp⟩
      · rw [storeA_eq, hb]
        simp only [storeB, hf]
        rw [if_pos ⟨trivial, hx, h1, h2⟩]
        simp only [Option.map_some, over_flatten i o x.cells c h.1 hi (by omega)]
      · rcases List.mem_or_eq_of_mem_set hf with hf | rfl
        · exact h.1 f hf
        · rw [over_length _ _ _ (by omega)]; exact hc
      · rw [List.getElem?_set_self (lt_of_get hb)]
theorem wrap64 {x : Int} (h1 : -9223372036854775808 ≤ x) (h2 : x ≤ 9223372036854775807) : IntKind.i64.wrap x = x := by
  unfold IntKind.wrap
  simp [IntKind.bits, IntKind.signed]
  split <;> omega
theorem zeros_flatten (z : List AV) : ∀ n : Nat, zerosA z n = (List.replicate n z).flatten
  | 0 => rfl
  | n + 1 => by rw [zerosA, zeros_flatten z n, List.replicate_succ, List.flatten_cons]
/-- A slice that is made. -/
theorem make_ok {ety : Ty} {K : Hp} {n : Nat} (hz : ety.zero.length = ety.size) (hp : 0 < ety.size) (hb : ety.bytes * n ≤ 281474976710656) (hn : n ≤ 9223372036854775807) :
    ∃ K', makeSliceA ety K (.int .i64 n) (.int .i64 n) = some (.sl K.length 0 n, K') ∧ Own ety.size K' (.sl K.length 0 n) (List.replicate n ety.zero) ∧ Fr K K' := by
  refine ⟨K ++ [some ⟨ety.size, true, zerosA ety.zero n⟩], ?_, ⟨fun e he => ?_, .inr ⟨K.length, by simp, ?_⟩⟩, Fr.app _ _⟩
  · have h1 : (ety.bytes : Int) * n ≤ 281474976710656 := by rw [← Int.natCast_mul]; omega
    have h2 : (n : Int) ≤ 9223372036854775807 := by omega
    simp [makeSliceA, h1, h2, hz, hp]
  · rw [List.eq_of_mem_replicate he, hz]
  · simp [zeros_flatten]
attribute [simp] fillA
theorem load_at {K : Hp} {b : Nat} {blk : Blk} (hb : K[b]? = some (some blk)) {ty : Ty} (ha : ty.k.agg = false) (hs : ty.size = 1) {o : Nat} {x : AV} (hx : blk.cells[o]? = some x) : loadA ty K (.ptr b o) = some x := by
  have := (List.getElem?_eq_some_iff.1 hx).1
  unfold loadA
  simp only [hb, ha, hs]
  rw [if_pos (by omega)]
  exact hx
theorem store_at {K : Hp} {b : Nat} {blk : Blk} (hb : K[b]? = some (some blk)) (hrw : blk.rw = true) {ty : Ty} {o : Nat} {v : AV} (h1 : v.cells.length = ty.size) (h2 : v.cells.all AV.one = true) (ho : o + ty.size ≤ blk.cells.length) :
    ∃ K', storeA ty K (.ptr b o) v = some K' ∧ K'[b]? = some (some { blk with cells := Am.over blk.cells o v.cells }) ∧ Keeps (fun c => c = b) K K' ∧ K'.length = K.length := by
  refine ⟨K.set b (some { blk with cells := Am.over blk.cells o v.cells }), ?_, by rw [List.getElem?_set_self (lt_of_get hb)], Keeps.set K b _, by simp⟩
  rw [storeA_eq, hb]
  simp only [storeB]
  rw [if_pos ⟨hrw, h1, h2, ho⟩]
  rfl
end Go.Proofs.Ythihphgfblonoaa.Am
