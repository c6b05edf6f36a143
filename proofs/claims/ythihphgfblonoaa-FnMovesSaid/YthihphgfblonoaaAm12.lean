/- Rows of elements on the abstract heap. No condition. -/
import Derived.Test.YthihphgfblonoaaAm11
namespace Go.Proofs.Ythihphgfblonoaa.Am
open Go Go.RowKit
set_option linter.unusedSimpArgs false
set_option linter.unusedVariables false

section
variable (P : Program) (tab : Tab) (n : Nat) (Q : Ex → TS → Hp → Prop) (ts : TS) (H : Hp)
@[simp] theorem vc_skip : vc P tab n .skip Q ts H = Q .normal ts H := rfl
@[simp] theorem vc_region (id : Nat) (ops : Array Oper) : vc P tab n (.region id ops false) Q ts H = vcOps P tab n ops (Q .normal) ops.toList ts H := rfl
@[simp] theorem vc_seq (a b : Code) : vc P tab n (.seq a b) Q ts H = vc P tab n a (fun x ts' H' => match x with | .normal => vc P tab n b Q ts' H' | x => Q x ts' H') ts H := rfl
@[simp] theorem vc_cond (c : Operand) (a b : Code) : vc P tab n (.cond c a b) Q ts H = (match evA ts c with | .bool t => if t = true then vc P tab n a Q ts H else vc P tab n b Q ts H | _ => False) := rfl
@[simp] theorem vc_block (id : Nat) (b : Code) : vc P tab n (.block id b) Q ts H = vc P tab n b (fun x ts' H' => match x with | .exit i => if i = id then Q .normal ts' H' else Q (.exit i) ts' H' | x => Q x ts' H') ts H := rfl
@[simp] theorem vc_exit (id : Nat) : vc P tab n (.exit id) Q ts H = Q (.exit id) ts H := rfl
@[simp] theorem vc_ret : vc P tab n .ret Q ts H = Q .ret ts H := rfl
theorem vc_loop (b : Code) (h : ∀ I : TS → Hp → Prop, (∀ ts H, vc P tab n b (fun x ts' H' => match x with | .normal => I ts' H' | x => Q x ts' H') ts H → I ts H) → I ts H) : vc P tab n (.loop b) Q ts H := h
end
attribute [simp] vcOps vcOp wantedA dstOk exec evA ofConst ofConst1 putO put binopA boolOk resA resV start tyOf elemTy
attribute [simp] eqlA fitsA fitCell eqCells cmpA slice3A
@[simp] theorem boundA_none (d : Int) : boundA d none = some d := rfl
@[simp] theorem boundA_int (d : Int) (k : IntKind) (i : Int) : boundA d (some (.int k i)) = some i := rfl
attribute [simp] VRs VR allocA fieldAddrA maxA minA placesA buildA partA fieldA
@[simp] theorem one_int (k : IntKind) (n : Int) : (AV.int k n).one = true := rfl
@[simp] theorem one_bool (b : Bool) : (AV.bool b).one = true := rfl
@[simp] theorem one_nil : AV.nil.one = true := rfl
@[simp] theorem one_sl (b o n : Nat) : (AV.sl b o n).one = true := rfl
@[simp] theorem one_ptr (b o : Nat) : (AV.ptr b o).one = true := rfl
@[simp] theorem one_fn (f : FuncId) (l : List AV) : (AV.fn f l).one = true := rfl
@[simp] theorem cells_int (k : IntKind) (n : Int) : (AV.int k n).cells = [.int k n] := rfl
@[simp] theorem cells_bool (b : Bool) : (AV.bool b).cells = [.bool b] := rfl
@[simp] theorem cells_nil : AV.nil.cells = [.nil] := rfl
@[simp] theorem cells_sl (b o n : Nat) : (AV.sl b o n).cells = [.sl b o n] := rfl
@[simp] theorem cells_ptr (b o : Nat) : (AV.ptr b o).cells = [.ptr b o] := rfl
@[simp] theorem cells_fn (f : FuncId) (l : List AV) : (AV.fn f l).cells = [.fn f l] := rfl
@[simp] theorem cells_agg (l : List AV) : (AV.agg l).cells = l := rfl
theorem cells_of_one {a : AV} (h : a.one = true) : a.cells = [a] := by cases a <;> simp_all [AV.cells, AV.one]
@[simp] theorem lenA_nil (e : Nat) : lenA (.slice e) .nil = some (.int .i64 0) := rfl
@[simp] theorem lenA_sl (e b o n : Nat) : lenA (.slice e) (.sl b o n) = some (.int .i64 n) := rfl
@[simp] theorem agg_struct (fs : List (Nat × Nat)) : (TyK.struct fs).agg = true := rfl
@[simp] theorem agg_arr (n e : Nat) : (TyK.arr n e).agg = true := rfl
@[simp] theorem agg_int (k : IntKind) : (TyK.int k).agg = false := rfl
@[simp] theorem agg_bool : TyK.bool.agg = false := rfl
@[simp] theorem agg_slice (e : Nat) : (TyK.slice e).agg = false := rfl

/-- One heap is the beginning of another. -/
def Pre (H K : Hp) : Prop := ∃ G, K = H ++ G
theorem Pre.refl (H : Hp) : Pre H H := ⟨[], by simp⟩
theorem Pre.trans {A B C : Hp} (h : Pre A B) (k : Pre B C) : Pre A C := by
  obtain ⟨G, rfl⟩ := h
  obtain ⟨G', rfl⟩ := k
  exact ⟨G ++ G', by simp⟩
theorem Pre.snoc {A B : Hp} (h : Pre A B) (x : Option Blk) : Pre A (B ++ [x]) := h.trans ⟨[x], rfl⟩
theorem Pre.get {H K : Hp} (h : Pre H K) {b : Nat} {blk : Blk} (hb : H[b]? = some (some blk)) : K[b]? = some (some blk) := by
  obtain ⟨G, rfl⟩ := h
  rw [List.getElem?_append_left (List.getElem?_eq_some_iff.1 hb).1]
  exact hb
theorem Pre.len {H K : Hp} (h : Pre H K) : H.length ≤ K.length := by
  obtain ⟨G, rfl⟩ := h
  simp
theorem Pre.set {H K : Hp} (h : Pre H K) {b : Nat} (hb : H.length ≤ b) (x : Option Blk) : Pre H (K.set b x) := by
  obtain ⟨G, rfl⟩ := h
  exact ⟨G.set (b - H.length) x, by rw [List.set_append_right _ _ hb]⟩
@[simp] theorem set_concat {α : Type} (l : List α) (a b : α) : (l ++ [a]).set l.length b = l ++ [b] := by
  rw [List.set_append_right _ _ (Nat.le_refl _)]
  simp
theorem set_concat_ne {α : Type} (l : List α) (a b : α) (i : Nat) (h : i < l.length) : (l ++ [a]).set i b = l.set i b ++ [a] := List.set_append_left _ _ h
theorem get_concat_ne {α : Type} (l : List α) (a : α) (i : Nat) (h : i < l.length) : (l ++ [a])[i]? = l[i]? := List.getElem?_append_left h

/-- A slice whose elements have the given cells. -/
def Row (sz : Nat) (H : Hp) (v : AV) (es : List (List AV)) : Prop :=
  (∀ e ∈ es, e.length = sz) ∧ ((v = .nil ∧ es = []) ∨ ∃ b o blk, v = .sl b o es.length ∧ H[b]? = some (some blk) ∧ blk.sz = sz ∧ (blk.cells.drop (o * sz)).take (es.length * sz) = es.flatten ∧ (o + es.length) * sz ≤ blk.cells.length)
theorem flatten_length {sz : Nat} : ∀ {es : List (List AV)}, (∀ e ∈ es, e.length = sz) → es.flatten.length = es.length * sz
  | [], _ => by simp
  | e :: es, h => by
    rw [List.flatten_cons, List.length_append, h e (by simp), flatten_length (fun x hx => h x (by simp [hx])), List.length_cons, Nat.succ_mul]
    omega
theorem flatten_drop {sz : Nat} : ∀ {es : List (List AV)} (i : Nat), (∀ e ∈ es, e.length = sz) → es.flatten.drop (i * sz) = (es.drop i).flatten
  | es, 0, _ => by simp
  | [], i + 1, _ => by simp
  | e :: es, i + 1, h => by
    rw [List.flatten_cons, Nat.succ_mul, Nat.add_comm, ← List.drop_drop, ← h e (by simp), List.drop_left, h e (by simp), flatten_drop i (fun x hx => h x (by simp [hx])), List.drop_succ_cons]
theorem Row.pre {sz : Nat} {H K : Hp} {v : AV} {es : List (List AV)} (h : Row sz H v es) (k : Pre H K) : Row sz K v es := by
  refine ⟨h.1, ?_⟩
  rcases h.2 with h | ⟨b, o, blk, e, hb, r⟩
  · exact .inl h
  · exact .inr ⟨b, o, blk, e, k.get hb, r⟩
theorem Row.len {sz : Nat} {H : Hp} {v : AV} {es : List (List AV)} (h : Row sz H v es) (e : Nat) : lenA (.slice e) v = some (.int .i64 es.length) := by
  rcases h.2 with ⟨rfl, rfl⟩ | ⟨b, o, blk, rfl, _⟩ <;> simp
theorem Row.cells {sz : Nat} {H : Hp} {b o n : Nat} {es : List (List AV)} (h : Row sz H (.sl b o n) es) (i : Nat) (hi : i < es.length) : ∃ blk, H[b]? = some (some blk) ∧ blk.sz = sz ∧ n = es.length ∧ (o + i) * sz + sz ≤ blk.cells.length ∧ (blk.cells.drop ((o + i) * sz)).take sz = es[i] := by
  rcases h.2 with ⟨h, _⟩ | ⟨b, o, blk, e, hb, hs, hc, hl⟩
  · cases h
  · cases e
    have h1 := flatten_length h.1
    have h2 : (o + es.length) * sz = (o + i) * sz + sz + (es.length - i - 1) * sz := by
      have : o + es.length = (o + i) + 1 + (es.length - i - 1) := by omega
      rw [this, Nat.add_mul, Nat.add_mul]
      omega
    refine ⟨blk, hb, hs, rfl, by omega, ?_⟩
    have h3 : (es.flatten.drop (i * sz)).take sz = es[i] := by
      rw [flatten_drop i h.1, List.drop_eq_getElem_cons hi, List.flatten_cons, List.take_left' (h.1 _ (List.getElem_mem hi))]
    rw [← h3, ← hc, List.drop_take, List.take_take, List.drop_drop, Nat.add_mul]
    congr 1
    have h4 : es.length * sz = i * sz + sz + (es.length - i - 1) * sz := by
      have : es.length = i + 1 + (es.length - i - 1) := by omega
      have e := congrArg (· * sz) this
      simp only [Nat.add_mul] at e
      omega
    omega
theorem Row.one {sz : Nat} {H : Hp} {v : AV} {es : List (List AV)} (h : Row sz H v es) : v.one = true := by
  rcases h.2 with ⟨rfl, _⟩ | ⟨_, _, _, rfl, _⟩ <;> rfl
theorem Row.self {sz : Nat} {H : Hp} {v : AV} {es : List (List AV)} (h : Row sz H v es) : v.cells = [v] := cells_of_one h.one
/-- An element, read. -/
theorem Row.at {tab : Tab} {H : Hp} {v : AV} {es : List (List AV)} {ety : Ty} {e : Nat} (he : tab e = some ety) (h : Row ety.size H v es) (k : IntKind) (i : Int) (h0 : 0 ≤ i) (hi : i < (es.length : Int)) :
    ∃ b q blk, indexAddrA tab (.slice e) H v (.int k i) = some (.ptr b q) ∧ H[b]? = some (some blk) ∧ q + ety.size ≤ blk.cells.length ∧ (blk.cells.drop q).take ety.size = es[i.toNat]'(by omega) := by
  rcases h.2 with ⟨rfl, rfl⟩ | ⟨b, o, blk, rfl, hb, hs, hc, hl⟩
  · simp at hi
    omega
  · obtain ⟨blk2, h1, h2, _, h3, h4⟩ := h.cells i.toNat (by omega)
    refine ⟨b, (o + i.toNat) * ety.size, blk2, ?_, h1, h3, h4⟩
    simp [indexAddrA, he, h1, h2, h0, hi]
theorem Row.at_agg {tab : Tab} {H : Hp} {v : AV} {es : List (List AV)} {ety : Ty} {e : Nat} (he : tab e = some ety) (ha : ety.k.agg = true) (h : Row ety.size H v es) (k : IntKind) (i : Int) (h0 : 0 ≤ i) (hi : i < (es.length : Int)) :
    ∃ b q, indexAddrA tab (.slice e) H v (.int k i) = some (.ptr b q) ∧ loadA ety H (.ptr b q) = some (.agg (es[i.toNat]'(by omega))) := by
  obtain ⟨b, q, blk, h1, h2, h3, h4⟩ := h.at he k i h0 hi
  exact ⟨b, q, h1, by simp [loadA, h2, h3, ha, h4]⟩
theorem Row.at_one {tab : Tab} {H : Hp} {v : AV} {es : List (List AV)} {ety : Ty} {e : Nat} (he : tab e = some ety) (ha : ety.k.agg = false) (hs : ety.size = 1) (h : Row ety.size H v es) (k : IntKind) (i : Int) (h0 : 0 ≤ i) (hi : i < (es.length : Int)) {x : AV} (hx : es[i.toNat]? = some [x]) :
    ∃ b q, indexAddrA tab (.slice e) H v (.int k i) = some (.ptr b q) ∧ loadA ety H (.ptr b q) = some x := by
  obtain ⟨b, q, blk, h1, h2, h3, h4⟩ := h.at he k i h0 hi
  refine ⟨b, q, h1, ?_⟩
  rw [hs] at h3 h4
  have h5 : es[i.toNat]'(by omega) = [x] := by
    rw [List.getElem?_eq_getElem (by omega)] at hx
    exact Option.some.inj hx
  rw [h5] at h4
  have h6 : blk.cells[q]? = some x := by
    have := congrArg (·[0]?) h4
    simp only [List.getElem?_take, List.getElem?_drop] at this
    simpa using this
  simp [loadA, h2, hs, h3, ha, h6]
end Go.Proofs.Ythihphgfblonoaa.Am
