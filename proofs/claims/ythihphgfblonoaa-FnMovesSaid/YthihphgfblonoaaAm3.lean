/- The operations on the abstract heap, and that the model's operations meet them. No condition. -/
import Derived.Test.YthihphgfblonoaaAm2
import Derived.Laws.MakeOwn
namespace Go.Proofs.Ythihphgfblonoaa.Am
open Go Go.RowKit
set_option linter.unusedSimpArgs false
set_option linter.unusedVariables false

inductive TyK where
  | int (k : IntKind)
  | bool
  | other
  | slice (e : Nat)
  | struct (fs : List (Nat × Nat))
  | arr (n e : Nat)
/-- What is asked of a type: its kind, its cells, its bytes, its zero value. -/
structure Ty where
  k : TyK
  size : Nat
  bytes : Nat
  zero : List AV
  eq : Bool := false
def TyK.agg : TyK → Bool
  | .struct _ | .arr _ _ => true
  | _ => false
def kindOk (d : TypeDesc) : TyK → Prop
  | .int k => d = .int k
  | .bool => d = .bool
  | .slice e => d = .slice e
  | .struct fs => ∃ fields, d = .struct fields ∧ fields.toList.map (fun f => (f.offset, f.type)) = fs
  | .arr n e => d = .array n e
  | .other => (match d with | .struct _ | .array _ _ => false | _ => true) = true
/-- No field is blank. -/
def namesOk (P : Program) (t : TypeId) : Bool := match P.underlying t with
  | some (.struct fs) => fs.toList.all fun f => f.name != "_"
  | _ => true
structure TyOk (P : Program) (t : TypeId) (ty : Ty) : Prop where
  info : ∃ i z, P.info? t = some i ∧ i.size = ty.size ∧ i.bytes = ty.bytes ∧ i.zero = some z ∧ z.cells.size = i.size ∧ VRs [] ty.zero z.cells.toList
  one : ∀ a ∈ ty.zero, a.one = true
  kind : ∃ d, P.underlying t = some d ∧ kindOk d ty.k
  eq_ : ty.eq = true → P.stoodInHeld t = false ∧ P.eqGuardType P.depth t = false ∧ namesOk P t = true
abbrev Tab := Nat → Option Ty
def TabOk (P : Program) (tab : Tab) : Prop := ∀ t ty, tab t = some ty → TyOk P t ty

section
variable {P : Program} {tab : Tab} (hT : TabOk P tab)
include hT
theorem TabOk.sizeOf {t : Nat} {ty : Ty} (h : tab t = some ty) (w : World) : (Go.sizeOf t).run P w = .ok ty.size w := by
  obtain ⟨⟨i, z, hi, h1, _⟩, _, _, _⟩ := hT t ty h
  simp [Go.sizeOf, typeInfo, hi, h1]
theorem TabOk.isAgg {t : Nat} {ty : Ty} (h : tab t = some ty) (w : World) : (Go.isAgg t).run P w = .ok ty.k.agg w := by
  obtain ⟨_, _, ⟨d, hd, hk⟩, _⟩ := hT t ty h
  cases hty : ty.k <;> rw [hty] at hk <;> simp only [kindOk] at hk
  · subst hk; simp [Go.isAgg, run_underlying hd, TyK.agg]
  · subst hk; simp [Go.isAgg, run_underlying hd, TyK.agg]
  · simp only [Go.isAgg, Sem.run_bind, run_underlying hd, Result.andThen_ok, TyK.agg]
    cases d <;> simp at hk <;> rfl
  · subst hk; simp [Go.isAgg, run_underlying hd, TyK.agg]
  · obtain ⟨f, rfl, _⟩ := hk; simp [Go.isAgg, run_underlying hd, TyK.agg]
  · subst hk; simp [Go.isAgg, run_underlying hd, TyK.agg]
end

/-! ### loads and stores -/
def loadA (ty : Ty) (H : Hp) : AV → Option AV
  | .ptr b o => match H[b]? with
    | some (some blk) => if o + ty.size ≤ blk.cells.length then (if ty.k.agg then some (.agg ((blk.cells.drop o).take ty.size)) else blk.cells[o]?) else none
    | _ => none
  | _ => none
theorem VRs.ofArray {m : List Place} {l : List AV} {vs : List Value} (h : VRs m l vs) : VR m (.agg l) (.agg vs.toArray) := ⟨vs, rfl, h⟩
theorem load_sound {P : Program} {tab : Tab} (hT : TabOk P tab) {m : List Place} {H : Hp} {w : World} (h : Rel m H w) {t : Nat} {ty : Ty} (ht : tab t = some ty) {x v : AV} {xv : Value} (hx : VR m x xv) (hl : loadA ty H x = some v) :
    ∃ v', (Instr.loadAt t xv).run P w = .ok v' w ∧ VR m v v' := by
  cases x <;> simp only [loadA] at hl <;> try cases hl
  rename_i b o
  cases hb : H[b]? with
  | none => rw [hb] at hl; cases hl
  | some ob =>
    cases ob with
    | none => rw [hb] at hl; cases hl
    | some blk =>
      rw [hb] at hl
      simp only at hl
      obtain ⟨p, hp, rfl⟩ := hx
      split at hl
      · rename_i hlen
        split at hl
        · rename_i hagg
          cases hl
          obtain ⟨vs, h1, h2⟩ := h.load hb hp o ty.size hlen
          have hvl : vs.length = ty.size := by rw [h2.length]; simp; omega
          have hrun := run_loadCells_list (P := P) w (ad p.block (p.off + o)) vs h1
          rw [hvl] at hrun
          refine ⟨.agg vs.toArray, ?_, h2.ofArray⟩
          simp [Instr.loadAt, Instr.sureAddr, loadVar, hT.isAgg ht, hagg, hT.sizeOf ht, hrun]
        · rename_i hagg
          obtain ⟨cur, T, fz, hc, _, hcc⟩ := (h.place hb hp).at_
          obtain ⟨v', e, k⟩ := hcc o v hl
          have hcell : w.cell? (ad p.block (p.off + o)) = some v' := by rw [cell_ad hc]; exact e
          refine ⟨v', ?_, k⟩
          simp [Instr.loadAt, Instr.sureAddr, loadVar, hT.isAgg ht, hagg, hcell]
      · cases hl
def storeA (ty : Ty) (H : Hp) : AV → AV → Option Hp
  | .ptr b o, x => match H[b]? with
    | some (some blk) => if blk.rw = true ∧ x.cells.length = ty.size ∧ x.cells.all AV.one = true ∧ o + ty.size ≤ blk.cells.length then some (H.set b (some { blk with cells := over blk.cells o x.cells })) else none
    | _ => none
  | _, _ => none
theorem one_cells {x : AV} (h : x.cells.all AV.one = true) : x.one = true ∨ ∃ l, x = .agg l := by
  cases x <;> simp_all [AV.cells, AV.one]
theorem store_sound {P : Program} {tab : Tab} (hT : TabOk P tab) {m : List Place} {H H' : Hp} {w : World} (h : Rel m H w) {t : Nat} {ty : Ty} (ht : tab t = some ty) {a x : AV} {av xv : Value} (ha : VR m a av) (hx : VR m x xv) (hs : storeA ty H a x = some H') :
    ∃ w', (Instr.storeAt t av xv).run P w = .ok () w' ∧ Step m H w m H' w' := by
  cases a <;> simp only [storeA] at hs <;> try cases hs
  rename_i b o
  cases hb : H[b]? with
  | none => rw [hb] at hs; cases hs
  | some ob =>
    cases ob with
    | none => rw [hb] at hs; cases hs
    | some blk =>
      rw [hb] at hs
      simp only at hs
      obtain ⟨p, hp, rfl⟩ := ha
      split at hs
      · rename_i hc
        obtain ⟨hrw, hlen, hone, hfit⟩ := hc
        cases hs
        have hcs := hx.cells (one_cells hone)
        obtain ⟨w', hr, hst⟩ := step_store (P := P) h hb hp hrw o x.cells xv.cells.toList hcs (by simpa using hone) (by omega)
        refine ⟨w', ?_, hst⟩
        have hsz : xv.cells.size = ty.size := by rw [← hlen, ← hcs.length]; simp
        simp [Instr.storeAt, Instr.sureAddr, storeVar, hT.sizeOf ht, hsz, hr]
      · cases hs

/-! ### new blocks -/
def allocA (H : Hp) (cells : List AV) : Option (AV × Hp) :=
  if cells.all AV.one = true then some (.ptr H.length 0, H ++ [some ⟨cells.length, true, cells⟩]) else none
theorem alloc_sound {m : List Place} {H H' : Hp} {w : World} (h : Rel m H w) {cells : List AV} {cs : Array Value} {v : AV} (T : TypeId) (hc : VRs m cells cs.toList) (ha : allocA H cells = some (v, H')) :
    ∃ m', VR m' v (.pointer (some ⟨w.heap.size, 0, none⟩)) ∧ Step m H w m' H' (w.alloc (.cells cs T)) := by
  unfold allocA at ha
  split at ha
  · rename_i hone
    cases ha
    have hlen := hc.length
    have hst := step_new h ⟨cells.length, true, cells⟩ cs T 1 ⟨cs.toList, [], by simp, hc⟩ (by simpa using hone) (by simp at hlen ⊢; omega) (by simp)
    exact ⟨_, ⟨_, by rw [← h.len]; simp; rfl, rfl⟩, hst⟩
  · cases ha

theorem VRs.nil_ext {m : List Place} {l : List AV} {vs : List Value} (h : VRs [] l vs) : VRs m l vs := h.ext (fun i p hp => by simp at hp)

/-! ### whole numbers, bools -/
def binopA (eq : Bool) (op : BinOp) : AV → AV → Option AV
  | .int k a, .int k' b =>
    match op with
    | .shl => if b < 0 then none else some (.int k (k.wrap (a * 2 ^ min b.toNat k.bits)))
    | .shr => if b < 0 then none else some (.int k (a.fdiv (2 ^ min b.toNat k.bits)))
    | _ => if k ≠ k' then none else match op with
      | .add => some (.int k (k.wrap (a + b)))
      | .sub => some (.int k (k.wrap (a - b)))
      | .mul => some (.int k (k.wrap (a * b)))
      | .quo => if b = 0 then none else some (.int k (k.wrap (a.tdiv b)))
      | .rem => if b = 0 then none else some (.int k (a.tmod b))
      | .and => some (.int k (k.wrap (BitVec.ofInt k.bits a &&& BitVec.ofInt k.bits b).toNat))
      | .or => some (.int k (k.wrap (BitVec.ofInt k.bits a ||| BitVec.ofInt k.bits b).toNat))
      | .xor => some (.int k (k.wrap (BitVec.ofInt k.bits a ^^^ BitVec.ofInt k.bits b).toNat))
      | .eql => some (.bool (a == b))
      | .neq => some (.bool (a != b))
      | .lss => some (.bool (decide (a < b)))
      | .leq => some (.bool (decide (a ≤ b)))
      | .gtr => some (.bool (decide (a > b)))
      | .geq => some (.bool (decide (a ≥ b)))
      | _ => none
  | .bool a, .bool b => match op with
    | .eql => some (.bool (a == b))
    | .neq => some (.bool (a != b))
    | _ => none
  | _, _ => none
def boolOk (tab : Tab) (t : Nat) : AV → Bool
  | .bool _ => (tab t).any (fun ty => match ty.k with | .bool => true | _ => false)
  | _ => true
theorem run_eq_bool {P : Program} {t : TypeId} (hd : P.underlying t = some .bool) (a b : Bool) (w : World) : (Op.equal t (.bool a) (.bool b)).run P w = .ok (a == b) w := by
  unfold Op.equal
  obtain ⟨d, hdd⟩ : ∃ d, Op.maxDepth = d + 1 := ⟨9999, rfl⟩
  rw [hdd]
  simp [Op.equalIn, run_underlying hd]
theorem binop_sound {P : Program} {tab : Tab} (hT : TabOk P tab) {m : List Place} {w : World} {t : Nat} {op : BinOp} {x y v : AV} {xo yo : Operand} {xv yv : Value} (hx : VR m x xv) (hy : VR m y yv)
    (hb : boolOk tab t x = true) (h : binopA false op x y = some v) :
    ∃ v', (do eqGuard op t xo yo xv yv; binOp op t xv yv : Sem Value).run P w = .ok v' w ∧ VR m v v' := by
  cases x <;> cases y <;> simp only [binopA] at h <;> try cases h
  · rename_i a b
    cases hx
    cases hy
    simp only [boolOk] at hb
    cases htt : tab t with
    | none => rw [htt] at hb; simp at hb
    | some ty =>
      rw [htt] at hb
      simp only [Option.any_some] at hb
      obtain ⟨_, _, ⟨d, hd, hk⟩, _⟩ := hT t ty htt
      cases hkk : ty.k <;> rw [hkk] at hb hk <;> simp at hb
      simp only [kindOk] at hk
      subst hk
      cases op <;> simp at h <;> subst h
      · exact ⟨_, by simp [eqGuard, binOp, run_eq_bool hd], rfl⟩
      · exact ⟨.bool (a != b), by simp [eqGuard, binOp, run_eq_bool hd, bne], rfl⟩
  · rename_i k a k' b
    cases hx
    cases hy
    cases op <;> simp only [] at h
    all_goals (repeat' split at h)
    all_goals (first | (cases h; done) | skip)
    all_goals (cases h)
    all_goals (try (rename_i hk; simp only [ne_eq, Decidable.not_not] at hk))
    all_goals (try subst hk)
    all_goals (refine ⟨_, ?_, rfl⟩)
    all_goals (simp_all [eqGuard, binOp, Op.intArith, Op.intDiv, Op.intBits, Op.intCmp, Op.shift])
    all_goals (intro hneg; exact absurd hneg (by omega))
end Go.Proofs.Ythihphgfblonoaa.Am
