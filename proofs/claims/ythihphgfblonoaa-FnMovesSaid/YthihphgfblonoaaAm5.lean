/- Literals, made slices, copy, clear, len, max and min on the abstract heap. No condition. -/
import Derived.Test.YthihphgfblonoaaAm4
namespace Go.Proofs.Ythihphgfblonoaa.Am
open Go Go.RowKit
set_option linter.unusedSimpArgs false
set_option linter.unusedVariables false

/-! ### literals -/
def fillA (place : Nat → Option (Nat × Nat)) : List AV → List (Nat × AV) → Option (List AV)
  | cells, [] => some cells
  | cells, (i, v) :: rest => match place i with
    | some (off, size) => if v.cells.length = size ∧ off + size ≤ cells.length ∧ (v.cells.all AV.one = true) then fillA place (over cells off v.cells) rest else none
    | none => none
inductive Parts (m : List Place) : List (Nat × AV) → List (Nat × Value) → Prop
  | nil : Parts m [] []
  | cons {i : Nat} {a : AV} {v : Value} {l : List (Nat × AV)} {r : List (Nat × Value)} : VR m a v → Parts m l r → Parts m ((i, a) :: l) ((i, v) :: r)
theorem VRs.over {m : List Place} {l xs : List AV} {vs ys : List Value} (h : VRs m l vs) (hx : VRs m xs ys) (o : Nat) : VRs m (over l o xs) (over vs o ys) := by
  unfold Am.over
  have := hx.length
  rw [this]
  exact (((h.take o).append hx).append (h.drop _))
theorem foldl_over (off : Nat) : ∀ (vs : List Value) (j : Nat) (cs : Array Value), off + j + vs.length ≤ cs.size → ((vs.zipIdx j).foldl (fun cs (c, i) => cs.setIfInBounds (off + i) c) cs).toList = over cs.toList (off + j) vs
  | [], j, cs, h => by simp [over]
  | v :: vs, j, cs, h => by
    simp only [List.length_cons] at h
    rw [List.zipIdx_cons, List.foldl_cons, foldl_over off vs (j + 1) _ (by simp; omega)]
    simp only [Array.toList_setIfInBounds]
    apply List.ext_getElem?
    intro i
    rw [over_get _ _ _ (by simp; omega), over_get _ _ _ (by simp; omega)]
    by_cases e : i = off + j
    · subst e
      rw [if_neg (by omega), if_pos (by simp only [List.length_cons]; omega), List.getElem?_set_self (by simp; omega)]
      simp
    · by_cases e2 : off + (j + 1) ≤ i ∧ i < off + (j + 1) + vs.length
      · rw [if_pos e2, if_pos (by simp only [List.length_cons]; omega)]
        obtain ⟨q, hq⟩ : ∃ q, i - (off + j) = q + 1 := ⟨i - (off + j) - 1, by omega⟩
        rw [hq, List.getElem?_cons_succ]
        congr 1
        omega
      · rw [if_neg e2, if_neg (by simp only [List.length_cons]; omega), List.getElem?_set_ne (by omega)]
theorem fill_sound {m : List Place} {place : Nat → Option (Nat × Nat)} : ∀ {parts : List (Nat × AV)} {pv : List (Nat × Value)} {cells r : List AV} {cs : Array Value}, Parts m parts pv → VRs m cells cs.toList → fillA place cells parts = some r →
    ∃ rs : Array Value, Instr.fill place cs pv = some rs ∧ VRs m r rs.toList
  | _, _, _, _, cs, .nil, hc, h => by
    simp only [fillA] at h
    cases h
    exact ⟨cs, rfl, hc⟩
  | _, _, cells, r, cs, .cons (i := i) (a := a) (v := v) hv hp, hc, h => by
    simp only [fillA] at h
    cases hpl : place i with
    | none => rw [hpl] at h; cases h
    | some q =>
      obtain ⟨off, size⟩ := q
      rw [hpl] at h
      simp only at h
      split at h
      · rename_i hcond
        obtain ⟨h1, h2, h3⟩ := hcond
        have hvc := hv.cells (one_cells h3)
        have hl1 : v.cells.size = size := by rw [← h1, ← hvc.length]; simp
        have hl2 : cs.size = cells.length := by rw [← hc.length]; simp
        have hfo := foldl_over off v.cells.toList 0 cs (by simp; omega)
        have hz : (v.cells.zipIdx.foldl (fun cs (c, j) => cs.setIfInBounds (off + j) c) cs).toList = over cs.toList off v.cells.toList := by
          rw [Nat.add_zero] at hfo
          rw [← hfo, ← Array.foldl_toList, Array.toList_zipIdx]
        obtain ⟨rs, e, k⟩ := fill_sound hp (by rw [hz]; exact hc.over hvc off) h
        refine ⟨rs, ?_, k⟩
        simp only [Instr.fill, hpl]
        rw [if_neg (by simp; omega)]
        exact e
      · cases h
def placesA (tab : Tab) (fs : List (Nat × Nat)) : Option (List (Nat × Nat)) := fs.mapM fun (o, ft) => (tab ft).map fun fty => (o, fty.size)
theorem places_sound {P : Program} {tab : Tab} (hT : TabOk P tab) (w : World) : ∀ (fields : List Field) (ps : List (Nat × Nat)), placesA tab (fields.map (fun f => (f.offset, f.type))) = some ps →
    (fields.mapM fun f => (do pure (f.offset, ← sizeOf f.type) : Sem (Nat × Nat))).run P w = .ok ps w
  | [], ps, h => by simp [placesA] at h; subst h; rfl
  | f :: fields, ps, h => by
    simp only [placesA, List.map_cons, List.mapM_cons] at h
    cases hft : tab f.type with
    | none => rw [hft] at h; simp at h
    | some fty =>
      rw [hft] at h
      simp only [Option.map_some, Option.bind_eq_bind, Option.bind_some, Option.pure_def] at h
      cases hr : placesA tab (fields.map (fun f => (f.offset, f.type))) with
      | none => rw [placesA] at hr; rw [hr] at h; simp at h
      | some qs =>
        have hr' := hr
        rw [placesA] at hr
        rw [hr] at h
        simp at h
        subst h
        have ih := places_sound hT w fields qs hr'
        simp only [List.mapM_cons, Sem.run_bind, hT.sizeOf hft, Result.andThen_ok, Sem.run_pure]
        rw [ih]
        rfl
def buildA (tab : Tab) (ty : Ty) (parts : List (Nat × AV)) : Option AV :=
  match ty.k with
  | .struct fs => match placesA tab fs with
    | some ps => (fillA (fun i => ps[i]?) ty.zero parts).map AV.agg
    | none => none
  | .arr _ e => match tab e with
    | some ety => (fillA (fun i => some (i * ety.size, ety.size)) ty.zero parts).map AV.agg
    | none => none
  | _ => none
theorem TabOk.zeroValue {P : Program} {tab : Tab} (hT : TabOk P tab) {t : Nat} {ty : Ty} (h : tab t = some ty) (w : World) : ∃ z, (Go.zeroValue t).run P w = .ok z w ∧ z.cells.size = ty.size ∧ ∀ m, VRs m ty.zero z.cells.toList := by
  obtain ⟨⟨i, z, hi, h1, h2, h3, h4, h5⟩, _, _⟩ := hT t ty h
  exact ⟨z, by simp [Go.zeroValue, typeInfo, hi, h3], by omega, fun m => h5.nil_ext⟩
theorem build_sound {P : Program} {tab : Tab} (hT : TabOk P tab) {m : List Place} {w : World} {t : Nat} {ty : Ty} (ht : tab t = some ty) {parts : List (Nat × AV)} {pv : List (Nat × Value)} {v : AV} (hp : Parts m parts pv) (h : buildA tab ty parts = some v) :
    ∃ v', (Instr.build t pv.toArray).run P w = .ok v' w ∧ VR m v v' := by
  obtain ⟨z, hz, hzs, hzv⟩ := hT.zeroValue ht w
  obtain ⟨_, _, ⟨d, hd, hk⟩, _⟩ := hT t ty ht
  unfold buildA at h
  split at h
  · rename_i fs hkk
    rw [hkk] at hk
    obtain ⟨fields, rfl, hfs⟩ := hk
    split at h
    · rename_i ps hps
      rw [← hfs] at hps
      have hrun := places_sound hT w fields.toList ps hps
      cases hf : fillA (fun i => ps[i]?) ty.zero parts with
      | none => rw [hf] at h; cases h
      | some r =>
        rw [hf] at h
        cases h
        obtain ⟨rs, e, k⟩ := fill_sound hp (hzv m) hf
        refine ⟨.agg rs, ?_, ⟨rs.toList, by simp, k⟩⟩
        have hrun' : (fields.mapM fun f => (do pure (f.offset, ← sizeOf f.type) : Sem (Nat × Nat))).run P w = .ok ps.toArray w := by
          rw [Array.mapM_eq_mapM_toList]
          simp only [Sem.run_map, hrun, Result.andThen_ok]
        have e' : Instr.fill (fun i => ps.toArray[i]?) z.cells pv = some rs := by simpa using e
        simp only [Instr.build, Sem.run_bind, hz, Result.andThen_ok, run_underlying hd, hrun', List.toList_toArray, e']
        rfl
    · cases h
  · rename_i n e hkk
    rw [hkk] at hk
    simp only [kindOk] at hk
    subst hk
    split at h
    · rename_i ety he
      cases hf : fillA (fun i => some (i * ety.size, ety.size)) ty.zero parts with
      | none => rw [hf] at h; cases h
      | some r =>
        rw [hf] at h
        cases h
        obtain ⟨rs, e, k⟩ := fill_sound hp (hzv m) hf
        refine ⟨.agg rs, ?_, ⟨rs.toList, by simp, k⟩⟩
        simp [Instr.build, hz, run_underlying hd, hT.sizeOf he, e]
    · cases h
  · cases h

/-! ### rows of zero values -/
def zerosA (z : List AV) : Nat → List AV
  | 0 => []
  | n + 1 => z ++ zerosA z n
theorem zerosA_length (z : List AV) (n : Nat) : (zerosA z n).length = n * z.length := by
  induction n with
  | zero => simp [zerosA]
  | succ n ih => simp [zerosA, ih, Nat.succ_mul]; omega
theorem zerosA_one {z : List AV} (h : ∀ a ∈ z, a.one = true) (n : Nat) : ∀ a ∈ zerosA z n, a.one = true := by
  induction n with
  | zero => simp [zerosA]
  | succ n ih =>
    intro a ha
    rcases List.mem_append.1 ha with ha | ha
    · exact h a ha
    · exact ih a ha
theorem zerosA_get (z : List AV) : ∀ (n i : Nat), i < n * z.length → (zerosA z n)[i]? = z[i % z.length]?
  | 0, i, h => by simp at h
  | n + 1, i, h => by
    simp only [zerosA]
    rw [Nat.succ_mul] at h
    by_cases e : i < z.length
    · rw [List.getElem?_append_left e, Nat.mod_eq_of_lt e]
    · rw [List.getElem?_append_right (by omega), zerosA_get z n (i - z.length) (by omega)]
      congr 1
      rw [Nat.mod_eq_sub_mod (a := i) (by omega)]
theorem zeros_sound {m : List Place} {z : List AV} {zs : Array Value} (h : VRs m z zs.toList) (n : Nat) (hz : 0 < z.length ∨ n = 0) : VRs m (zerosA z n) ((Array.range (n * zs.size)).map (zs[· % zs.size]!)).toList := by
  have hl : zs.size = z.length := by rw [← h.length]; simp
  refine VRs.of (by rw [zerosA_length]; simp [hl]) fun i a hi => ?_
  have hlt : i < n * z.length := by rw [← zerosA_length]; exact (List.getElem?_eq_some_iff.1 hi).1
  rw [zerosA_get z n i hlt] at hi
  obtain ⟨v, e, k⟩ := h.get _ a hi
  refine ⟨v, ?_, k⟩
  rw [Array.getElem?_toList, Array.getElem?_map, Array.getElem?_range, if_pos (by rw [hl]; exact hlt), hl]
  simp only [Option.map_some, Option.some.injEq]
  rw [Array.getElem?_toList] at e
  simp [getElem!_def, e]
theorem map_range0 (f : Nat → Value) : Array.map f (Array.range 0) = #[] := by
  apply Array.ext'
  simp
def makeSliceA (ety : Ty) (H : Hp) (n c : AV) : Option (AV × Hp) :=
  match n, c with
  | .int .i64 n, .int .i64 c => if n = c ∧ 0 ≤ n ∧ n ≤ 9223372036854775807 ∧ (ety.bytes : Int) * n ≤ 281474976710656 ∧ 0 < ety.size ∧ ety.zero.length = ety.size then some (.sl H.length 0 n.toNat, H ++ [some ⟨ety.size, true, zerosA ety.zero n.toNat⟩]) else none
  | _, _ => none
theorem makeSlice_sound {P : Program} {tab : Tab} (hT : TabOk P tab) {m : List Place} {H H' : Hp} {w : World} (h : Rel m H w) {t e : Nat} {ty ety : Ty} (ht : tab t = some ty) (hk : ty.k = .slice e) (he : tab e = some ety) {n c v : AV} {nv cv : Value} (hn : VR m n nv) (hc : VR m c cv) (ha : makeSliceA ety H n c = some (v, H')) :
    ∃ v' w' m', (Instr.makeSlice t nv cv).run P w = .ok v' w' ∧ VR m' v v' ∧ Step m H w m' H' w' := by
  unfold makeSliceA at ha
  split at ha
  · rename_i n c
    split at ha
    · rename_i hcond
      obtain ⟨rfl, h0, hmax, hby, hs0, hzl⟩ := hcond
      cases ha
      cases hn
      cases hc
      obtain ⟨⟨i, z, hi, h1, h2, h3, h4, h5⟩, hone, _⟩ := hT e ety he
      obtain ⟨_, _, ⟨d, hd, hkk⟩, _⟩ := hT t ty ht
      rw [hk] at hkk
      simp only [kindOk] at hkk
      subst hkk
      have hw : IntKind.i64.wrap n = n := by
        simp [IntKind.wrap, IntKind.signed, IntKind.bits]
        omega
      have hzs := zeros_sound (m := m) (h5.nil_ext) n.toNat (.inl (by omega))
      have hzz : z.cells.size = ety.size := by omega
      rw [hzz] at hzs
      have hst := step_new h ⟨ety.size, true, zerosA ety.zero n.toNat⟩ ((Array.range (n.toNat * ety.size)).map (z.cells[· % ety.size]!)) e n.toNat ⟨_, [], (List.append_nil _).symm, hzs⟩ (zerosA_one hone _) (by simp) (by rw [zerosA_length, hzl]; exact Nat.le_refl _)
      refine ⟨.slice (some ⟨w.heap.size, 0, none⟩) n.toNat n.toNat, _, _, ?_, ⟨_, _, _, by rw [← h.len]; simp; rfl, rfl, .inl ⟨by simp [ad], by simp, by simp⟩⟩, hst⟩
      have hb1 : ¬ (n < 0) := by omega
      have hb2 : ¬ (281474976710656 < (ety.bytes : Int) * n) := by omega
      simp only [Instr.makeSlice, Sem.run_bind, run_underlying hd, Result.andThen_ok, asInt, asIntOf, Sem.run_pure, typeInfo, run_program, hi, hw, h2]
      simp [hb1, hb2, hT.sizeOf he, Go.zeroValue, typeInfo, hi, h3, newRow, h1, hzz]
      intro hz
      simp only [hz, map_range0]
    · cases ha
  · cases ha

def buildSliceA (ety : Ty) (H : Hp) (n : Nat) (parts : List (Nat × AV)) : Option (AV × Hp) :=
  if n * ety.size ≤ 16777216 ∧ 0 < ety.size ∧ ety.zero.length = ety.size then
    match fillA (fun i => some (i * ety.size, ety.size)) (zerosA ety.zero n) parts with
    | some cells => some (.sl H.length 0 n, H ++ [some ⟨ety.size, true, cells⟩])
    | none => none
  else none
theorem fillA_one {place : Nat → Option (Nat × Nat)} : ∀ {parts : List (Nat × AV)} {cells r : List AV}, (∀ a ∈ cells, a.one = true) → fillA place cells parts = some r → (∀ a ∈ r, a.one = true) ∧ r.length = cells.length
  | [], cells, r, h1, h => by simp only [fillA] at h; cases h; exact ⟨h1, rfl⟩
  | (i, v) :: rest, cells, r, h1, h => by
    simp only [fillA] at h
    split at h
    · rename_i off size hpl
      split at h
      · rename_i hc
        obtain ⟨e1, e2, e3⟩ := hc
        obtain ⟨a1, a2⟩ := fillA_one (cells := over cells off v.cells) (by
          intro a ha
          simp only [over, List.mem_append] at ha
          rcases ha with (ha | ha) | ha
          · exact h1 a (List.mem_of_mem_take ha)
          · exact (List.all_eq_true.1 e3) a ha
          · exact h1 a (List.mem_of_mem_drop ha)) h
        exact ⟨a1, by rw [a2, over_length _ _ _ (by omega)]⟩
      · cases h
    · cases h
theorem buildSlice_sound {P : Program} {tab : Tab} (hT : TabOk P tab) {m : List Place} {H H' : Hp} {w : World} (h : Rel m H w) {t e : Nat} {ty ety : Ty} (ht : tab t = some ty) (hk : ty.k = .slice e) (he : tab e = some ety) (n : Nat) {parts : List (Nat × AV)} {pv : List (Nat × Value)} {v : AV} (hp : Parts m parts pv) (ha : buildSliceA ety H n parts = some (v, H')) :
    ∃ v' w' m', (Instr.buildSlice t n pv.toArray).run P w = .ok v' w' ∧ VR m' v v' ∧ Step m H w m' H' w' := by
  unfold buildSliceA at ha
  split at ha
  · rename_i hcond
    obtain ⟨hb, hs0, hzl⟩ := hcond
    split at ha
    · rename_i cells hf
      cases ha
      obtain ⟨⟨i, z, hi, h1, h2, h3, h4, h5⟩, hone, _⟩ := hT e ety he
      obtain ⟨_, _, ⟨d, hd, hkk⟩, _⟩ := hT t ty ht
      rw [hk] at hkk
      simp only [kindOk] at hkk
      subst hkk
      have hzz : z.cells.size = ety.size := by omega
      have hzs := zeros_sound (m := m) (h5.nil_ext) n (.inl (by omega))
      rw [hzz] at hzs
      obtain ⟨rs, e1, k⟩ := fill_sound hp hzs hf
      obtain ⟨ho, hl⟩ := fillA_one (zerosA_one hone n) hf
      rw [zerosA_length, hzl] at hl
      have hrl : rs.size = n * ety.size := by have := k.length; simp at this; omega
      have hst := step_new h ⟨ety.size, true, cells⟩ rs e n ⟨_, [], (List.append_nil _).symm, k⟩ ho (by rw [hrl]; exact Nat.le_refl _) (by rw [hl]; exact Nat.le_refl _)
      refine ⟨.slice (some ⟨w.heap.size, 0, none⟩) n n, _, _, ?_, ⟨_, _, _, by rw [← h.len]; simp; rfl, rfl, .inl ⟨by simp [ad], by simp, by simp⟩⟩, hst⟩
      have hnb : ¬ (16777216 < n * ety.size) := by omega
      by_cases hz : n * ety.size = 0
      · have e2 : Instr.fill (fun i => some (i * ety.size, ety.size)) (Array.map (fun x => (#[] : Array Value)[x % 0]!) (Array.range (n * ety.size))) pv = some rs := by
          simp only [hz, map_range0] at e1 ⊢
          exact e1
        simp only [Instr.buildSlice, Sem.run_bind, run_underlying hd, Result.andThen_ok, hT.sizeOf he, hnb, if_false, Sem.run_pure, hz]
        simp only [hz] at e1 e2
        simp [newRow]
        simp at e2
        simp [e2]
      · simp only [Instr.buildSlice, Sem.run_bind, run_underlying hd, Result.andThen_ok, hT.sizeOf he]
        simp [hnb, hz, Go.zeroValue, typeInfo, hi, h3, newRow, hzz, e1]
    · cases ha
  · cases ha

/-! ### builtins -/
def lenA (k : TyK) : AV → Option AV
  | .nil => match k with | .slice _ => some (.int .i64 0) | _ => none
  | .sl _ _ n => match k with | .slice _ => some (.int .i64 n) | _ => none
  | _ => none
theorem len_sound {P : Program} {tab : Tab} (hT : TabOk P tab) {m : List Place} {w : World} {t ty0 : Nat} {ty : Ty} (ht : tab t = some ty) {x v : AV} {xv : Value} (hx : VR m x xv) (h : lenA ty.k x = some v) :
    ∃ v', (Builtin.len_ #[t] ty0 #[xv]).run P w = .ok v' w ∧ VR m v v' := by
  obtain ⟨_, _, ⟨d, hd, hk⟩, _⟩ := hT t ty ht
  cases x <;> simp only [lenA] at h <;> try cases h
  · split at h
    · rename_i e hkk
      rw [hkk] at hk
      simp only [kindOk] at hk
      subst hk
      cases h
      obtain ⟨A, rfl⟩ := hx
      exact ⟨_, by simp [Builtin.len_, run_underlying hd, goInt], rfl⟩
    · cases h
  · split at h
    · rename_i e hkk
      rw [hkk] at hk
      simp only [kindOk] at hk
      subst hk
      cases h
      obtain ⟨p, A, c, hp, rfl, hA⟩ := hx
      exact ⟨_, by simp [Builtin.len_, run_underlying hd, goInt], rfl⟩
    · cases h
def maxA : Int → List AV → Option Int
  | x, [] => some x
  | x, .int _ y :: r => maxA (if y > x then y else x) r
  | _, _ => none
def minA : Int → List AV → Option Int
  | x, [] => some x
  | x, .int _ y :: r => minA (if y < x then y else x) r
  | _, _ => none
theorem max_run {P : Program} {m : List Place} {w : World} (k : IntKind) : ∀ {l : List AV} {vs : List Value} {x y : Int}, VRs m l vs → maxA x l = some y → (vs.foldlM Builtin.max2 (.int k x)).run P w = .ok (.int k y) w
  | [], _, x, y, h, e => by cases h; simp [maxA] at e; subst e; rfl
  | a :: l, _, x, y, h, e => by
    obtain ⟨v, r, rfl, h1, h2⟩ := h
    cases a <;> simp only [maxA] at e <;> try cases e
    cases h1
    simp [List.foldlM_cons, Builtin.max2, max_run k h2 e]
theorem min_run {P : Program} {m : List Place} {w : World} (k : IntKind) : ∀ {l : List AV} {vs : List Value} {x y : Int}, VRs m l vs → minA x l = some y → (vs.foldlM Builtin.min2 (.int k x)).run P w = .ok (.int k y) w
  | [], _, x, y, h, e => by cases h; simp [minA] at e; subst e; rfl
  | a :: l, _, x, y, h, e => by
    obtain ⟨v, r, rfl, h1, h2⟩ := h
    cases a <;> simp only [minA] at e <;> try cases e
    cases h1
    simp [List.foldlM_cons, Builtin.min2, min_run k h2 e]
end Go.Proofs.Ythihphgfblonoaa.Am
