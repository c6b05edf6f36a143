/- One operation on the abstract heap, and that the model's operation meets it. No condition. -/
import Derived.Test.YthihphgfblonoaaAm5
namespace Go.Proofs.Ythihphgfblonoaa.Am
open Go Go.RowKit
set_option linter.unusedSimpArgs false
set_option linter.unusedVariables false

/-! ### copy and clear -/
def rowAt (sz : Nat) (H : Hp) (b o len : Nat) : Option Blk :=
  match H[b]? with
  | some (some blk) => if blk.sz = sz ∧ blk.rw = true ∧ (o + len) * sz ≤ blk.cells.length then some blk else none
  | _ => none
def copyA (sz : Nat) (H : Hp) (d s : AV) : Option (AV × Hp) :=
  match rowOf sz H s with
  | none => none
  | some (news, n) => match d with
    | .nil => some (.int .i64 0, H)
    | .sl b o len => if min n len = 0 then some (.int .i64 0, H) else match rowAt sz H b o len with
      | some blk => some (.int .i64 (min n len : Nat), H.set b (some { blk with cells := over blk.cells (o * sz) (news.take (min n len * sz)) }))
      | none => none
    | _ => none
theorem copy_sound {P : Program} {m : List Place} {H H' : Hp} {w : World} (h : Rel m H w) {t t2 ty e : TypeId} {i : TypeInfo} (ht : P.underlying t = some (.slice e)) (hi : P.info? e = some i)
    {d s v : AV} {dv sv : Value} (hd : VR m d dv) (hs : VR m s sv) (ha : copyA i.size H d s = some (v, H')) :
    ∃ v' w', (Builtin.copy_ #[t, t2] ty #[dv, sv]).run P w = .ok v' w' ∧ VR m v v' ∧ Step m H w m H' w' := by
  unfold copyA at ha
  cases hr : rowOf i.size H s with
  | none => rw [hr] at ha; cases ha
  | some q =>
    obtain ⟨news, n⟩ := q
    rw [hr] at ha
    simp only at ha
    obtain ⟨vs, hv, hlen, hfc⟩ := rowOf_run (P := P) h hs hr
    have hf := fun k hk => (hfc w.drawn k hk : (Builtin.firstCells i.size k sv).run P w = _)
    cases d <;> simp only at ha <;> try cases ha
    · obtain ⟨A, rfl⟩ := hd
      have h0 := hf 0 (Nat.zero_le _)
      simp at h0
      exact ⟨.int .i64 0, w, by cases A <;> simp [Builtin.copy_, run_underlying ht, sizeOf, typeInfo, hi, hlen, h0, goInt, storeCells], rfl, Step.refl h⟩
    · rename_i b o len
      obtain ⟨p, A, c, hp, rfl, hA⟩ := hd
      split at ha
      · rename_i h00
        cases ha
        have h0 := hf 0 (Nat.zero_le _)
        simp at h0
        refine ⟨.int .i64 0, w, ?_, rfl, Step.refl h⟩
        cases A <;> simp [Builtin.copy_, run_underlying ht, sizeOf, typeInfo, hi, hlen, h00, h0, goInt, storeCells]
      · rename_i h00
        split at ha
        · rename_i blk hrow
          cases ha
          unfold rowAt at hrow
          split at hrow
          · rename_i blk2 hb
            split at hrow
            · rename_i hc
              cases hrow
              obtain ⟨hsz, hrw, hfit⟩ := hc
              have hpsz := (h.place hb hp).sz
              rcases hA with ⟨rfl, rfl, hcap⟩ | ⟨rfl, rfl, hcap⟩
              · have hk := hf (min n len) (Nat.min_le_left _ _)
                have hnl := rowOf_length hr
                have hmul : min n len * i.size ≤ len * i.size := Nat.mul_le_mul_right _ (Nat.min_le_right _ _)
                have hmul2 : min n len * i.size ≤ n * i.size := Nat.mul_le_mul_right _ (Nat.min_le_left _ _)
                obtain ⟨w', hrun, hst⟩ := step_store (P := P) h hb hp hrw (o * i.size) (news.take (min n len * i.size)) (vs.take (min n len * i.size)) (hv.take _) (fun a ha => rowOf_one h hr a (List.mem_of_mem_take ha)) (by
                  simp only [List.length_take]
                  rw [Nat.add_mul] at hfit
                  omega)
                refine ⟨.int .i64 (min n len : Nat), w', ?_, rfl, hst⟩
                have hmin : Nat.min n len = min n len := rfl
                rw [hpsz, hsz]
                simp [Builtin.copy_, run_underlying ht, sizeOf, typeInfo, hi, hlen, hk, goInt, hrun]
              · simp at h00
            · cases hrow
          · cases hrow
        · cases ha
def clearA (sz : Nat) (zero : List AV) (H : Hp) : AV → Option Hp
  | .nil => some H
  | .sl b o len => if len = 0 then some H else match rowAt sz H b o len with
    | some blk => if 0 < sz ∧ zero.length = sz then some (H.set b (some { blk with cells := over blk.cells (o * sz) (zerosA zero len) })) else none
    | none => none
  | _ => none
theorem clear_sound {P : Program} {tab : Tab} (hT : TabOk P tab) {m : List Place} {H H' : Hp} {w : World} (h : Rel m H w) {t ty0 e : TypeId} {ty ety : Ty} (ht : tab t = some ty) (hk : ty.k = .slice e) (he : tab e = some ety)
    {x : AV} {xv : Value} (hx : VR m x xv) (ha : clearA ety.size ety.zero H x = some H') :
    ∃ w', (Builtin.clear_ #[t] ty0 #[xv]).run P w = .ok (.tuple #[]) w' ∧ Step m H w m H' w' := by
  obtain ⟨_, _, ⟨d, hd, hkk⟩, _⟩ := hT t ty ht
  rw [hk] at hkk
  simp only [kindOk] at hkk
  subst hkk
  cases x <;> simp only [clearA] at ha <;> try cases ha
  · obtain ⟨A, rfl⟩ := hx
    exact ⟨w, by cases A <;> simp [Builtin.clear_, run_underlying hd], Step.refl h⟩
  · rename_i b o len
    obtain ⟨p, A, c, hp, rfl, hA⟩ := hx
    split at ha
    · rename_i h0
      subst h0
      cases ha
      exact ⟨w, by cases A <;> simp [Builtin.clear_, run_underlying hd], Step.refl h⟩
    · rename_i h0
      split at ha
      · rename_i blk hrow
        split at ha
        · rename_i hz
          cases ha
          unfold rowAt at hrow
          split at hrow
          · rename_i blk2 hb
            split at hrow
            · rename_i hc
              cases hrow
              obtain ⟨hsz, hrw, hfit⟩ := hc
              have hpsz := (h.place hb hp).sz
              rcases hA with ⟨rfl, rfl, hcap⟩ | ⟨rfl, rfl, hcap⟩
              · obtain ⟨z, hzr, hzs, hzv⟩ := hT.zeroValue he w
                have hone := (hT e ety he).one
                have hzs2 := zeros_sound (hzv m) len (.inl (by omega))
                obtain ⟨w', hrun, hst⟩ := step_store (P := P) h hb hp hrw (o * ety.size) (zerosA ety.zero len) _ hzs2 (zerosA_one hone _) (by
                  rw [zerosA_length, hz.2]
                  rw [Nat.add_mul] at hfit
                  omega)
                refine ⟨w', ?_, hst⟩
                rw [hpsz, hsz]
                obtain ⟨q, rfl⟩ : ∃ q, len = q + 1 := ⟨len - 1, by omega⟩
                simp only [Builtin.clear_, Sem.run_bind]
                simp [run_underlying hd, hzr, Builtin.zeroCells]
                simp at hrun
                rw [hrun]
                rfl
              · exact absurd rfl h0
            · cases hrow
          · cases hrow
        · cases ha
      · cases ha

/-! ### operands -/
def ofConst1 : Value → AV
  | .bool b => .bool b
  | .int k n => .int k n
  | .slice none 0 0 => .nil
  | _ => .und
def ofConst : Value → AV
  | .agg cs => .agg (cs.toList.map ofConst1)
  | v => ofConst1 v
theorem ofConst1_ok (m : List Place) (v : Value) : VR m (ofConst1 v) v := by
  unfold ofConst1
  split <;> simp [VR]
theorem ofConst_ok (m : List Place) (v : Value) : VR m (ofConst v) v := by
  unfold ofConst
  split
  · rename_i cs
    refine ⟨cs.toList, by simp, ?_⟩
    have := VRs.map (m := m) ofConst1 id (fun v => ofConst1_ok m v) cs.toList
    simpa using this
  · exact ofConst1_ok m v
abbrev TS := Nat → AV
def evA (ts : TS) : Operand → AV
  | .tmp t => ts t
  | .const v => ofConst v
  | .global _ => .und
  | .func f => .fn f []

/-! ### one operation -/
def tyOf (tab : Tab) (t : Nat) (f : Ty → Option (AV × Hp)) : Option (AV × Hp) := match tab t with | some ty => f ty | none => none
def elemTy (tab : Tab) (ty : Ty) (f : Ty → Option (AV × Hp)) : Option (AV × Hp) := match ty.k with | .slice e => tyOf tab e f | _ => none
def exec (tab : Tab) (ev : Operand → AV) (H : Hp) : Op → Option (AV × Hp)
  | .move x => some (ev x, H)
  | .assign x => some (ev x, H)
  | .pick c a b => match ev c with | .bool c => some (if c then ev a else ev b, H) | _ => none
  | .alloc t => tyOf tab t fun ty => allocA H ty.zero
  | .box t x => if (ev x).cells.all AV.one = true then allocA H (ev x).cells else none
  | .build t parts => tyOf tab t fun ty => (buildA tab ty (parts.toList.map fun (i, x) => (i, ev x))).map (·, H)
  | .buildSlice t n parts => tyOf tab t fun ty => elemTy tab ty fun ety => buildSliceA ety H n (parts.toList.map fun (i, x) => (i, ev x))
  | .load t a => tyOf tab t fun ty => (loadA ty H (ev a)).map (·, H)
  | .store t a x => tyOf tab t fun ty => (storeA ty H (ev a) (ev x)).map (.und, ·)
  | .nilCheck x => match ev x with | .ptr b o => some (.ptr b o, H) | _ => none
  | .binOp op t x y _ => match ev x, ev y with
    | .agg l, .agg r => (eqlA tab t l r).bind fun b => (cmpA op b).map (·, H)
    | a, b => if boolOk tab t a = true then (binopA false op a b).map (·, H) else none
  | .unOp .not _ x => match ev x with | .bool b => some (.bool !b, H) | _ => none
  | .unOp .neg _ x => match ev x with | .int k n => some (.int k (k.wrap (0 - n)), H) | _ => none
  | .convert s d x => match ev x with | .int _ n => (tyOf tab s fun _ => tyOf tab d fun ty => match ty.k with | .int k => some (.int k (k.wrap n), H) | _ => none) | _ => none
  | .makeFunc (.func f) first caps => if first.size = 0 then some (.fn f (caps.toList.map ev), H) else none
  | .makeSlice t n c => tyOf tab t fun ty => elemTy tab ty fun ety => makeSliceA ety H (ev n) (ev c)
  | .slice t x lo hi none => tyOf tab t fun ty => elemTy tab ty fun ety => if liveA ety.size H (ev x) = true then ((sliceA (ev x) (lo.map ev) (hi.map ev)).or (sliceX ety.size H (ev x) (lo.map ev) (hi.map ev))).map (·, H) else none
  | .slice t x lo hi (some mx) => tyOf tab t fun ty => elemTy tab ty fun _ => if slice3A (ev x) (lo.map ev) (hi.map ev) (some (ev mx)) = true then some (.und, H) else none
  | .fieldAddr t x j => tyOf tab t fun ty => match ty.k with | .struct fs => (fieldAddrA tab fs j (ev x)).map (·, H) | _ => none
  | .field t x j => tyOf tab t fun ty => match ty.k with | .struct fs => (fieldA tab fs j (ev x)).map (·, H) | _ => none
  | .indexAddr t x i => tyOf tab t fun ty => (indexAddrA tab ty.k H (ev x) (ev i)).map (·, H)
  | .index t x i => tyOf tab t fun ty => match ty.k with | .arr n e => (indexA tab n e (ev x) (ev i)).map (·, H) | _ => none
  | .extract x i => match ev x with | .tup l => (l[i]?).map (·, H) | _ => none
  | .call { callee := .builtin b, args, argTypes } => match b, argTypes.toList, args.toList with
    | .len, [t], [x] => tyOf tab t fun ty => (lenA ty.k (ev x)).map (·, H)
    | .append, [t, t2], [s, x] => tyOf tab t fun ty => elemTy tab ty fun ety => tyOf tab t2 fun ty2 => elemTy tab ty2 fun _ => appendA ety.size ety.bytes H (ev s) (ev x)
    | .copy, [t, t2], [d, s] => tyOf tab t fun ty => elemTy tab ty fun ety => copyA ety.size H (ev d) (ev s)
    | .clear, [t], [x] => tyOf tab t fun ty => elemTy tab ty fun ety => (clearA ety.size ety.zero H (ev x)).map (.tup [], ·)
    | .max, _, x :: r => match ev x with | .int k n => (maxA n (r.map ev)).map fun y => (.int k y, H) | _ => none
    | .min, _, x :: r => match ev x with | .int k n => (minA n (r.map ev)).map fun y => (.int k y, H) | _ => none
    | _, _, _ => none
  | _ => none

theorem tyOf_some {tab : Tab} {t : Nat} {f : Ty → Option (AV × Hp)} {r : AV × Hp} (h : tyOf tab t f = some r) : ∃ ty, tab t = some ty ∧ f ty = some r := by
  unfold tyOf at h
  split at h
  · rename_i ty e
    exact ⟨ty, e, h⟩
  · cases h
theorem elemTy_some {tab : Tab} {ty : Ty} {f : Ty → Option (AV × Hp)} {r : AV × Hp} (h : elemTy tab ty f = some r) : ∃ e ety, ty.k = .slice e ∧ tab e = some ety ∧ f ety = some r := by
  unfold elemTy at h
  split at h
  · rename_i e hk
    obtain ⟨ety, h1, h2⟩ := tyOf_some h
    exact ⟨e, ety, hk, h1, h2⟩
  · cases h
theorem map_some {α β : Type} {o : Option α} {f : α → β} {r : β} (h : o.map f = some r) : ∃ x, o = some x ∧ f x = r := by
  cases o with
  | none => cases h
  | some x => exact ⟨x, rfl, Option.some.inj h⟩
theorem parts_map {m : List Place} {ev : Operand → AV} {ρ : Operand → Value} (hρ : ∀ x, VR m (ev x) (ρ x)) : ∀ l : List (Nat × Operand), Parts m (l.map fun (i, x) => (i, ev x)) (l.map fun (i, x) => (i, ρ x))
  | [] => .nil
  | (i, x) :: l => .cons (hρ x) (parts_map hρ l)
theorem arr_map {α β : Type} (a : Array α) (f : α → β) : a.map f = (a.toList.map f).toArray := by
  apply Array.ext'
  simp

/-- What came of an operation. -/
def Came (P : Program) (m : List Place) (H : Hp) (w : World) (s : Sem Next) (v : AV) (H' : Hp) : Prop :=
  ∃ nx w' m', s.run P w = .ok nx w' ∧ Step m H w m' H' w' ∧ ((∃ v', nx = .value v' ∧ VR m' v v') ∨ (nx = .skip ∧ v = .und))
theorem Came.quiet {P : Program} {m : List Place} {H : Hp} {w : World} (h : Rel m H w) {s : Sem Value} {v : AV} (k : ∃ v', s.run P w = .ok v' w ∧ VR m v v') : Came P m H w (do pure (.value (← s))) v H := by
  obtain ⟨v', hr, hv⟩ := k
  exact ⟨_, w, m, by simp [hr], Step.refl h, .inl ⟨v', rfl, hv⟩⟩
theorem Came.make {P : Program} {m : List Place} {H H' : Hp} {w : World} {s : Sem Value} {v : AV} (k : ∃ v' w' m', s.run P w = .ok v' w' ∧ VR m' v v' ∧ Step m H w m' H' w') : Came P m H w (do pure (.value (← s))) v H' := by
  obtain ⟨v', w', m', hr, hv, hs⟩ := k
  exact ⟨_, w', m', by simp [hr], hs, .inl ⟨v', rfl, hv⟩⟩

theorem exec_sound {P : Program} {tab : Tab} (hT : TabOk P tab) {m : List Place} {H H' : Hp} {w : World} (h : Rel m H w) {ev : Operand → AV} {ρ : Operand → Value} (hρ : ∀ x, VR m (ev x) (ρ x)) (o : Oper) {v : AV} (he : exec tab ev H o.op = some (v, H')) :
    Came P m H w (execOp ρ o) v H' := by
  obtain ⟨dst, op, type, pos, after, guard⟩ := o
  simp only at he
  cases op <;> simp only [exec] at he <;> try (cases he; done)
  case move x => cases he; exact ⟨_, w, m, rfl, Step.refl h, .inl ⟨_, rfl, hρ x⟩⟩
  case assign x => cases he; exact ⟨_, w, m, rfl, Step.refl h, .inl ⟨_, rfl, hρ x⟩⟩
  case pick c a b =>
    have hc := hρ c
    split at he
    · rename_i cb hcb
      rw [hcb] at hc
      cases he
      have hc' : ρ c = .bool cb := hc
      refine ⟨.value (if cb then ρ a else ρ b), w, m, by simp [execOp, hc', asBool], Step.refl h, .inl ⟨_, rfl, ?_⟩⟩
      cases cb
      · exact hρ b
      · exact hρ a
    · cases he
  case alloc t =>
    obtain ⟨ty, ht, he⟩ := tyOf_some he
    obtain ⟨z, hz, hzs, hzv⟩ := hT.zeroValue ht w
    obtain ⟨m', hv, hs⟩ := alloc_sound h t (hzv m) he
    refine Came.make ⟨_, _, m', ?_, hv, hs⟩
    simp [Instr.alloc, hz, newVar, newRow]
  case box t x =>
    split at he
    · rename_i hone
      obtain ⟨m', hv, hs⟩ := alloc_sound h t ((hρ x).cells (one_cells hone)) he
      refine Came.make ⟨_, _, m', ?_, hv, hs⟩
      simp [Instr.box, newVar, newRow]
    · cases he
  case build t parts =>
    obtain ⟨ty, ht, he⟩ := tyOf_some he
    obtain ⟨r, hr, e⟩ := map_some he
    cases e
    have := build_sound hT (w := w) ht (parts_map hρ parts.toList) hr
    refine Came.quiet h ?_
    rw [arr_map]
    exact this
  case buildSlice t n parts =>
    obtain ⟨ty, ht, he⟩ := tyOf_some he
    obtain ⟨e, ety, hk, h2, he⟩ := elemTy_some he
    have := buildSlice_sound hT h ht hk h2 n (parts_map hρ parts.toList) he
    refine Came.make ?_
    rw [arr_map]
    exact this
  case load t a =>
    obtain ⟨ty, ht, he⟩ := tyOf_some he
    obtain ⟨r, hr, e⟩ := map_some he
    cases e
    exact Came.quiet h (load_sound hT h ht (hρ a) hr)
  case store t a x =>
    obtain ⟨ty, ht, he⟩ := tyOf_some he
    obtain ⟨r, hr, e⟩ := map_some he
    cases e
    obtain ⟨w', hr, hs⟩ := store_sound hT h ht (hρ a) (hρ x) hr
    exact ⟨.skip, w', m, by simp [execOp, hr], hs, .inr ⟨rfl, rfl⟩⟩
  case nilCheck x =>
    have hx := hρ x
    split at he
    · rename_i b o hbo
      cases he
      rw [hbo] at hx
      obtain ⟨p, hp, e⟩ := hx
      exact ⟨.value (ρ x), w, m, by simp [execOp, e], Step.refl h, .inl ⟨_, rfl, p, hp, e⟩⟩
    · cases he
  case binOp op t x y t2 =>
    split at he
    · rename_i l r hl hr
      obtain ⟨b, hb, he⟩ := Option.bind_eq_some_iff.1 he
      obtain ⟨u, hu, e⟩ := map_some he
      cases e
      have hx := hρ x
      have hy := hρ y
      rw [hl] at hx
      rw [hr] at hy
      exact Came.quiet h (eql_sound hT hx hy hb hu)
    · split at he
      · rename_i hb
        obtain ⟨r, hr, e⟩ := map_some he
        cases e
        exact Came.quiet h (binop_sound hT (hρ x) (hρ y) hb hr)
      · cases he
  case unOp op t x =>
    have hx := hρ x
    cases op <;> simp only at he <;> try (cases he; done)
    · split at he
      · rename_i k n hn
        cases he
        rw [hn] at hx
        have hx' : ρ x = .int k n := hx
        exact Came.quiet h ⟨_, by simp [Op.unary, hx', Op.intArith], rfl⟩
      · cases he
    · split at he
      · rename_i b hb
        cases he
        rw [hb] at hx
        have hx' : ρ x = .bool b := hx
        exact Came.quiet h ⟨_, by simp [Op.unary, hx'], rfl⟩
      · cases he
  case convert s d x =>
    have hx := hρ x
    split at he
    · rename_i k0 n hn
      rw [hn] at hx
      have hx' : ρ x = .int k0 n := hx
      obtain ⟨sty, hs, he⟩ := tyOf_some he
      obtain ⟨dty, hd, he⟩ := tyOf_some he
      split at he
      · rename_i k hk
        cases he
        obtain ⟨_, _, ⟨ds, h1, _⟩, _⟩ := hT s sty hs
        obtain ⟨_, _, ⟨dd, h2, hk2⟩, _⟩ := hT d dty hd
        rw [hk] at hk2
        simp only [kindOk] at hk2
        subst hk2
        exact Came.quiet h ⟨.int k (k.wrap n), by simp [convert, run_underlying h1, run_underlying h2, hx', Conv.intToInt], rfl⟩
      · cases he
    · cases he
  case makeFunc fn first caps =>
    cases fn <;> simp only at he <;> try (cases he; done)
    split at he
    · rename_i f hf
      cases he
      have hff : first = #[] := Array.eq_empty_of_size_eq_zero hf
      subst hff
      exact Came.quiet h ⟨_, rfl, ⟨caps.toList.map ρ, by rw [arr_map caps, Array.map_empty], VRs.map ev ρ hρ caps.toList⟩⟩
    · cases he
  case makeSlice t n c =>
    obtain ⟨ty, ht, he⟩ := tyOf_some he
    obtain ⟨e, ety, hk, h2, he⟩ := elemTy_some he
    exact Came.make (makeSlice_sound hT h ht hk h2 (hρ n) (hρ c) he)
  case slice t x lo hi mx =>
    have vro : ∀ y : Option Operand, VRo m (y.map ev) (y.map ρ) := fun y => by
      cases y with
      | none => trivial
      | some y => exact hρ y
    cases mx with
    | none =>
      simp only at he
      obtain ⟨ty, ht, he⟩ := tyOf_some he
      obtain ⟨e, ety, hk, h2, he⟩ := elemTy_some he
      split at he
      · rename_i hl
        obtain ⟨r, hr, e⟩ := map_some he
        cases e
        rcases Option.or_eq_some_iff.1 hr with hr | ⟨_, hr⟩
        · exact Came.quiet h (slice_sound hT h ht hk h2 (hρ x) (vro lo) (vro hi) hl hr)
        · exact Came.quiet h (sliceX_sound hT h ht hk h2 (hρ x) (vro lo) (vro hi) hr)
      · cases he
    | some mx =>
      simp only at he
      obtain ⟨ty, ht, he⟩ := tyOf_some he
      obtain ⟨e, ety, hk, h2, he⟩ := elemTy_some he
      split at he
      · rename_i hl
        cases he
        exact Came.quiet h (slice3_sound hT ht hk h2 (hρ x) (vro lo) (vro hi) (vro (some mx)) hl)
      · cases he
  case fieldAddr t x j =>
    obtain ⟨ty, ht, he⟩ := tyOf_some he
    split at he
    · rename_i fs hk
      obtain ⟨r, hr, e⟩ := map_some he
      cases e
      exact Came.quiet h (fieldAddr_sound hT ht hk j (hρ x) hr)
    · cases he
  case field t x j =>
    obtain ⟨ty, ht, he⟩ := tyOf_some he
    split at he
    · rename_i fs hk
      obtain ⟨r, hr, e⟩ := map_some he
      cases e
      exact Came.quiet h (field_sound hT ht hk j (hρ x) hr)
    · cases he
  case indexAddr t x i =>
    obtain ⟨ty, ht, he⟩ := tyOf_some he
    obtain ⟨r, hr, e⟩ := map_some he
    cases e
    exact Came.quiet h (indexAddr_sound hT h ht (hρ x) (hρ i) hr)
  case index t x i =>
    obtain ⟨ty, ht, he⟩ := tyOf_some he
    split at he
    · rename_i n e hk
      obtain ⟨r, hr, e⟩ := map_some he
      cases e
      exact Came.quiet h (index_sound hT ht hk (hρ x) (hρ i) hr)
    · cases he
  case extract x i =>
    have hx := hρ x
    split at he
    · rename_i l hl
      obtain ⟨r, hr, e⟩ := map_some he
      cases e
      rw [hl] at hx
      obtain ⟨cs, hcs, hv⟩ := hx
      obtain ⟨v', e, k⟩ := hv.get i _ hr
      exact Came.quiet h ⟨v', by simp [Instr.extract, hcs, e], k⟩
    · cases he
  case call c =>
    obtain ⟨callee, args, argTypes⟩ := c
    cases callee <;> simp only at he <;> try (cases he; done)
    rename_i b
    split at he
    · rename_i t x hat har
      obtain ⟨ty, ht, he⟩ := tyOf_some he
      obtain ⟨r, hr, e⟩ := map_some he
      cases e
      obtain ⟨v', hrun, k⟩ := len_sound hT (w := w) (ty0 := type) ht (hρ x) hr
      have e1 : argTypes = #[t] := by rw [← Array.toArray_toList (xs := argTypes), hat]
      have e2 : args.map ρ = #[ρ x] := by rw [arr_map, har]; rfl
      exact ⟨_, w, m, by simp [execOp, resolve, e1, e2, invoke, builtin, hrun], Step.refl h, .inl ⟨v', rfl, k⟩⟩
    · rename_i t t2 s x hat har
      obtain ⟨ty, ht, he⟩ := tyOf_some he
      obtain ⟨e, ety, hk, h2, he⟩ := elemTy_some he
      obtain ⟨ty2, ht2, he⟩ := tyOf_some he
      obtain ⟨e2, ety2, hk2, _, he⟩ := elemTy_some he
      obtain ⟨_, _, ⟨d, hd, hkd⟩, _⟩ := hT t ty ht
      rw [hk] at hkd
      simp only [kindOk] at hkd
      subst hkd
      obtain ⟨_, _, ⟨d2, hd2, hkd2⟩, _⟩ := hT t2 ty2 ht2
      rw [hk2] at hkd2
      simp only [kindOk] at hkd2
      subst hkd2
      obtain ⟨⟨i, z, hi, h1, hby, h3, h4, h5⟩, _, _⟩ := hT e ety h2
      rw [← h1, ← hby] at he
      obtain ⟨v', w', m', hrun, k, hst⟩ := append_sound h (ty := type) hd hd2 hi h3 h4 (hρ s) (hρ x) he
      have e1 : argTypes = #[t, t2] := by rw [← Array.toArray_toList (xs := argTypes), hat]
      have e2 : args.map ρ = #[ρ s, ρ x] := by rw [arr_map, har]; rfl
      exact ⟨_, w', m', by simp [execOp, resolve, e1, e2, invoke, builtin, hrun], hst, .inl ⟨v', rfl, k⟩⟩
    · rename_i t t2 d s hat har
      obtain ⟨ty, ht, he⟩ := tyOf_some he
      obtain ⟨e, ety, hk, h2, he⟩ := elemTy_some he
      obtain ⟨_, _, ⟨dd, hd, hkd⟩, _⟩ := hT t ty ht
      rw [hk] at hkd
      simp only [kindOk] at hkd
      subst hkd
      obtain ⟨⟨i, z, hi, h1, hby, h3, h4, h5⟩, _, _⟩ := hT e ety h2
      rw [← h1] at he
      obtain ⟨v', w', hrun, k, hst⟩ := copy_sound h (t2 := t2) (ty := type) hd hi (hρ d) (hρ s) he
      have e1 : argTypes = #[t, t2] := by rw [← Array.toArray_toList (xs := argTypes), hat]
      have e2 : args.map ρ = #[ρ d, ρ s] := by rw [arr_map, har]; rfl
      exact ⟨_, w', m, by simp [execOp, resolve, e1, e2, invoke, builtin, hrun], hst, .inl ⟨v', rfl, k⟩⟩
    · rename_i t x hat har
      obtain ⟨ty, ht, he⟩ := tyOf_some he
      obtain ⟨e, ety, hk, h2, he⟩ := elemTy_some he
      obtain ⟨r, hr, e⟩ := map_some he
      cases e
      obtain ⟨w', hrun, hst⟩ := clear_sound hT h (ty0 := type) ht hk h2 (hρ x) hr
      have e1 : argTypes = #[t] := by rw [← Array.toArray_toList (xs := argTypes), hat]
      have e2 : args.map ρ = #[ρ x] := by rw [arr_map, har]; rfl
      exact ⟨_, w', m, by simp [execOp, resolve, e1, e2, invoke, builtin, hrun], hst, .inl ⟨_, rfl, ⟨[], rfl, rfl⟩⟩⟩
    · rename_i x r har
      have hx := hρ x
      split at he
      · rename_i k n hn
        rw [hn] at hx
        have hx' : ρ x = .int k n := hx
        obtain ⟨y, hy, e⟩ := map_some he
        cases e
        have hrun := max_run (P := P) (w := w) k (VRs.map ev ρ hρ r) hy
        have e2 : args.map ρ = (Value.int k n :: r.map ρ).toArray := by rw [arr_map, har, ← hx']; rfl
        exact ⟨_, w, m, by simp [execOp, resolve, e2, invoke, builtin, Builtin.max_, hrun], Step.refl h, .inl ⟨_, rfl, rfl⟩⟩
      · cases he
    · rename_i x r har
      have hx := hρ x
      split at he
      · rename_i k n hn
        rw [hn] at hx
        have hx' : ρ x = .int k n := hx
        obtain ⟨y, hy, e⟩ := map_some he
        cases e
        have hrun := min_run (P := P) (w := w) k (VRs.map ev ρ hρ r) hy
        have e2 : args.map ρ = (Value.int k n :: r.map ρ).toArray := by rw [arr_map, har, ← hx']; rfl
        exact ⟨_, w, m, by simp [execOp, resolve, e2, invoke, builtin, Builtin.min_, hrun], Step.refl h, .inl ⟨_, rfl, rfl⟩⟩
      · cases he
    · cases he
end Go.Proofs.Ythihphgfblonoaa.Am
