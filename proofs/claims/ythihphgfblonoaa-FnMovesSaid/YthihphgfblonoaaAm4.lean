/- More operations on the abstract heap: slices, parts, literals, builtins. No condition. -/
import Derived.Test.YthihphgfblonoaaAm3
import Derived.Laws.StructEq
import Derived.ChangeKeysEq
namespace Go.Proofs.Ythihphgfblonoaa.Am
open Go Go.RowKit
set_option linter.unusedSimpArgs false
set_option linter.unusedVariables false

/-! ### addresses -/
def fieldAddrA (tab : Tab) (fs : List (Nat × Nat)) (j : Nat) : AV → Option AV
  | .ptr b o => match fs[j]? with
    | some (off, ft) => match tab ft with
      | some fty => if fty.size = 0 then none else some (.ptr b (o + off))
      | none => none
    | none => none
  | _ => none
theorem field_of {fs : List (Nat × Nat)} {fields : Array Field} (h : fields.toList.map (fun f => (f.offset, f.type)) = fs) {j off ft : Nat} (hj : fs[j]? = some (off, ft)) : ∃ f, fields[j]? = some f ∧ f.offset = off ∧ f.type = ft := by
  subst h
  rw [List.getElem?_map] at hj
  cases hf : fields.toList[j]? with
  | none => rw [hf] at hj; cases hj
  | some f =>
    rw [hf] at hj
    simp at hj
    exact ⟨f, by simpa using hf, hj.1, hj.2⟩
theorem fieldAddr_sound {P : Program} {tab : Tab} (hT : TabOk P tab) {m : List Place} {w : World} {t : Nat} {ty : Ty} {fs : List (Nat × Nat)} (ht : tab t = some ty) (hk : ty.k = .struct fs) {x v : AV} {xv : Value} (j : Nat) (hx : VR m x xv) (h : fieldAddrA tab fs j x = some v) :
    ∃ v', (Instr.fieldAt t xv j).run P w = .ok v' w ∧ VR m v v' := by
  cases x <;> simp only [fieldAddrA] at h <;> try cases h
  obtain ⟨p, hp, rfl⟩ := hx
  split at h
  · rename_i off ft hj
    split at h
    · rename_i fty hft
      split at h
      · cases h
      · rename_i hz
        cases h
        obtain ⟨_, _, ⟨d, hd, hkk⟩, _⟩ := hT t ty ht
        rw [hk] at hkk
        obtain ⟨fields, rfl, hfs⟩ := hkk
        obtain ⟨f, hf, rfl, rfl⟩ := field_of hfs hj
        refine ⟨_, ?_, p, hp, rfl⟩
        simp [Instr.fieldAt, run_underlying hd, hf, Instr.sureAddr, fieldPlace, hT.sizeOf hft, hz, ad_add, Nat.add_assoc]
    · cases h
  · cases h
def indexAddrA (tab : Tab) (k : TyK) (H : Hp) (x i : AV) : Option AV :=
  match i with
  | .int _ i => match k, x with
    | .slice e, .sl b o len => match tab e, H[b]? with
      | some ety, some (some blk) => if blk.sz = ety.size ∧ 0 ≤ i ∧ i < (len : Int) then some (.ptr b ((o + i.toNat) * ety.size)) else none
      | _, _ => none
    | .arr n e, .ptr b o => match tab e with
      | some ety => if 0 ≤ i ∧ i < (n : Int) then some (.ptr b (o + i.toNat * ety.size)) else none
      | none => none
    | _, _ => none
  | _ => none
theorem indexAddr_sound {P : Program} {tab : Tab} (hT : TabOk P tab) {m : List Place} {H : Hp} {w : World} (h : Rel m H w) {t : Nat} {ty : Ty} (ht : tab t = some ty) {x i v : AV} {xv iv : Value} (hx : VR m x xv) (hi : VR m i iv) (ha : indexAddrA tab ty.k H x i = some v) :
    ∃ v', (Instr.indexAt t xv iv).run P w = .ok v' w ∧ VR m v v' := by
  cases i <;> simp only [indexAddrA] at ha <;> try cases ha
  rename_i k i
  cases hi
  obtain ⟨_, _, ⟨d, hd, hk⟩, _⟩ := hT t ty ht
  split at ha
  · rename_i e b o len hkk
    rw [hkk] at hk
    simp only [kindOk] at hk
    subst hk
    split at ha
    · rename_i ety blk he hb
      split at ha
      · rename_i hc
        cases ha
        obtain ⟨p, A, c, hp, rfl, hA⟩ := hx
        have hsz := (h.place hb hp).sz
        rcases hA with ⟨rfl, rfl, _⟩ | ⟨rfl, _, _⟩
        · refine ⟨.pointer (some (ad p.block (p.off + (o + i.toNat) * ety.size))), ?_, p, hp, rfl⟩
          have e1 : p.off + o * p.sz + i.toNat * ety.size = p.off + (o + i.toNat) * ety.size := by rw [hsz, hc.1, Nat.add_mul]; omega
          simp [Instr.indexAt, asIntOf, run_underlying hd, hc.2.1, hc.2.2, hT.sizeOf he, ad_add, e1]
        · omega
      · cases ha
    · cases ha
  · rename_i n e b o hkk
    rw [hkk] at hk
    simp only [kindOk] at hk
    subst hk
    split at ha
    · rename_i ety he
      split at ha
      · rename_i hc
        cases ha
        obtain ⟨p, hp, rfl⟩ := hx
        refine ⟨.pointer (some (ad p.block (p.off + (o + i.toNat * ety.size)))), ?_, p, hp, rfl⟩
        simp [Instr.indexAt, asIntOf, run_underlying hd, Instr.sureAddr, hc.1, hc.2, hT.sizeOf he, ad_add, Nat.add_assoc]
      · cases ha
    · cases ha
  · cases ha

/-! ### parts of values -/
def partA (ty : Ty) (l : List AV) (o : Nat) : Option AV := if ty.k.agg then (if o + ty.size ≤ l.length then some (.agg ((l.drop o).take ty.size)) else none) else l[o]?
theorem part_sound {P : Program} {tab : Tab} (hT : TabOk P tab) {m : List Place} {w : World} {t : Nat} {ty : Ty} (ht : tab t = some ty) {l : List AV} {cs : List Value} {v : AV} (o : Nat) (hl : VRs m l cs) (h : partA ty l o = some v) :
    ∃ v', (part t cs.toArray o).run P w = .ok v' w ∧ VR m v v' := by
  unfold partA at h
  split at h
  · rename_i hagg
    split at h
    · rename_i hlen
      cases h
      refine ⟨.agg ((cs.drop o).take ty.size).toArray, ?_, ((hl.drop o).take ty.size).ofArray⟩
      simp [part, hT.isAgg ht, hagg, hT.sizeOf ht]
    · cases h
  · rename_i hagg
    obtain ⟨v', e, k⟩ := hl.get o v h
    exact ⟨v', by simp [part, hT.isAgg ht, hagg, e], k⟩
def fieldA (tab : Tab) (fs : List (Nat × Nat)) (j : Nat) : AV → Option AV
  | .agg l => match fs[j]? with
    | some (off, ft) => match tab ft with
      | some fty => partA fty l off
      | none => none
    | none => none
  | _ => none
theorem field_sound {P : Program} {tab : Tab} (hT : TabOk P tab) {m : List Place} {w : World} {t : Nat} {ty : Ty} {fs : List (Nat × Nat)} (ht : tab t = some ty) (hk : ty.k = .struct fs) {x v : AV} {xv : Value} (j : Nat) (hx : VR m x xv) (h : fieldA tab fs j x = some v) :
    ∃ v', (Instr.field t xv j).run P w = .ok v' w ∧ VR m v v' := by
  cases x <;> simp only [fieldA] at h <;> try cases h
  obtain ⟨cs, rfl, hcs⟩ := hx
  split at h
  · rename_i off ft hj
    split at h
    · rename_i fty hft
      obtain ⟨_, _, ⟨d, hd, hkk⟩, _⟩ := hT t ty ht
      rw [hk] at hkk
      obtain ⟨fields, rfl, hfs⟩ := hkk
      obtain ⟨f, hf, rfl, rfl⟩ := field_of hfs hj
      obtain ⟨v', hr, k⟩ := part_sound hT (w := w) hft _ hcs h
      exact ⟨v', by simp [Instr.field, run_underlying hd, hf, asAgg, hr], k⟩
    · cases h
  · cases h
def indexA (tab : Tab) (n e : Nat) (x i : AV) : Option AV :=
  match x, i with
  | .agg l, .int _ i => match tab e with
    | some ety => if 0 ≤ i ∧ i < (n : Int) then partA ety l (i.toNat * ety.size) else none
    | none => none
  | _, _ => none
theorem index_sound {P : Program} {tab : Tab} (hT : TabOk P tab) {m : List Place} {w : World} {t n e : Nat} {ty : Ty} (ht : tab t = some ty) (hk : ty.k = .arr n e) {x i v : AV} {xv iv : Value} (hx : VR m x xv) (hi : VR m i iv) (h : indexA tab n e x i = some v) :
    ∃ v', (Instr.index t xv iv).run P w = .ok v' w ∧ VR m v v' := by
  cases x <;> cases i <;> simp only [indexA] at h <;> try cases h
  obtain ⟨cs, rfl, hcs⟩ := hx
  cases hi
  split at h
  · rename_i ety he
    split at h
    · rename_i hc
      obtain ⟨_, _, ⟨d, hd, hkk⟩, _⟩ := hT t ty ht
      rw [hk] at hkk
      simp only [kindOk] at hkk
      subst hkk
      obtain ⟨v', hr, k⟩ := part_sound hT (w := w) he _ hcs h
      exact ⟨v', by simp [Instr.index, asIntOf, run_underlying hd, hc.1, hc.2, hT.sizeOf he, hr], k⟩
    · cases h
  · cases h

/-! ### a slice of a slice -/
def boundA (d : Int) : Option AV → Option Int
  | none => some d
  | some (.int _ i) => some i
  | _ => none
def sliceA (x : AV) (lo hi : Option AV) : Option AV :=
  match x with
  | .nil => match boundA 0 lo, boundA 0 hi with
    | some l, some h => if l = 0 ∧ h = 0 then some .nil else none
    | _, _ => none
  | .sl b o len => match boundA 0 lo, boundA len hi with
    | some l, some h => if 0 ≤ l ∧ l ≤ h ∧ h ≤ (len : Int) then some (.sl b (o + l.toNat) (h.toNat - l.toNat)) else none
    | _, _ => none
  | _ => none
def liveA (sz : Nat) (H : Hp) : AV → Bool
  | .sl b _ _ => match H[b]? with
    | some (some blk) => decide (blk.sz = sz)
    | _ => false
  | _ => true
def VRo (m : List Place) : Option AV → Option Value → Prop
  | none, none => True
  | some a, some v => VR m a v
  | _, _ => False
theorem slice_sound {P : Program} {tab : Tab} (hT : TabOk P tab) {m : List Place} {H : Hp} {w : World} (h : Rel m H w) {t e : Nat} {ty ety : Ty} (ht : tab t = some ty) (hk : ty.k = .slice e) (he : tab e = some ety) {x v : AV} {xv : Value} {lo hi : Option AV} {lov hiv : Option Value} (hx : VR m x xv) (hlo : VRo m lo lov) (hhi : VRo m hi hiv)
    (hb : liveA ety.size H x = true) (ha : sliceA x lo hi = some v) :
    ∃ v', (Instr.sliceAt t xv lov hiv none).run P w = .ok v' w ∧ VR m v v' := by
  obtain ⟨_, _, ⟨d, hd, hkk⟩, _⟩ := hT t ty ht
  rw [hk] at hkk
  simp only [kindOk] at hkk
  subst hkk
  cases x <;> simp only [sliceA] at ha <;> try cases ha
  · obtain ⟨A, rfl⟩ := hx
    refine ⟨.slice A 0 0, ?_, ?_⟩
    · cases lo <;> cases lov <;> simp only [VRo] at hlo <;> cases hi <;> cases hiv <;> simp only [VRo] at hhi
      · simp [Instr.sliceAt, Instr.slice, Instr.sliceBounds, run_underlying hd, hT.sizeOf he]
      · rename_i a av
        cases a <;> simp [boundA] at ha
        cases hhi
        obtain ⟨rfl, rfl⟩ := ha
        simp [Instr.sliceAt, Instr.slice, Instr.sliceBounds, Instr.sliceBound, asIntOf, run_underlying hd, hT.sizeOf he]
      · rename_i a av
        cases a <;> simp [boundA] at ha
        cases hlo
        obtain ⟨rfl, rfl⟩ := ha
        simp [Instr.sliceAt, Instr.slice, Instr.sliceBounds, Instr.sliceBound, asIntOf, run_underlying hd, hT.sizeOf he]
      · rename_i a av b bv
        cases a <;> cases b <;> simp [boundA] at ha
        cases hlo
        cases hhi
        obtain ⟨⟨rfl, rfl⟩, rfl⟩ := ha
        simp [Instr.sliceAt, Instr.slice, Instr.sliceBounds, Instr.sliceBound, asIntOf, run_underlying hd, hT.sizeOf he]
    · split at ha
      · split at ha
        · cases ha; exact ⟨A, rfl⟩
        · cases ha
      · cases ha
  · rename_i b o len
    obtain ⟨p, A, c, hp, rfl, hA⟩ := hx
    have hsz : p.sz = ety.size := by
      simp only [liveA] at hb
      cases hbb : H[b]? with
      | none => rw [hbb] at hb; simp at hb
      | some ob =>
        cases ob with
        | none => rw [hbb] at hb; simp at hb
        | some blk => rw [hbb] at hb; simp at hb; exact (h.place hbb hp).sz.trans hb
    split at ha
    · rename_i l hh hl1 hh1
      split at ha
      · rename_i hc
        cases ha
        have hlc : len ≤ c := by rcases hA with ⟨_, rfl, _⟩ | ⟨rfl, rfl, _⟩ <;> omega
        have hbounds : (Instr.sliceBounds true len c lov hiv none).run P w = .ok (l.toNat, hh.toNat, c) w := by
          cases lo <;> cases lov <;> simp only [VRo] at hlo <;> cases hi <;> cases hiv <;> simp only [VRo] at hhi
          · simp [boundA] at hl1 hh1
            subst hl1 hh1
            simp [Instr.sliceBounds]
          · rename_i a av
            cases a <;> simp [boundA] at hh1
            cases hhi
            simp [boundA] at hl1
            subst hl1 hh1
            have := Int.le_trans hc.2.2 (Int.ofNat_le.2 hlc)
            simp [Instr.sliceBounds, Instr.sliceBound, asIntOf, hc.2.1, this]
          · rename_i a av
            cases a <;> simp [boundA] at hl1
            cases hlo
            simp [boundA] at hh1
            subst hl1 hh1
            simp [Instr.sliceBounds, Instr.sliceBound, asIntOf, hc.1, hc.2.1]
          · rename_i a av b bv
            cases a <;> simp [boundA] at hl1
            cases b <;> simp [boundA] at hh1
            cases hlo
            cases hhi
            subst hl1 hh1
            have h1 := Int.le_trans hc.2.2 (Int.ofNat_le.2 hlc)
            have h2 := Int.le_trans hc.1 hc.2.1
            have h3 := Int.max_eq_left h2
            simp [Instr.sliceBounds, Instr.sliceBound, asIntOf, h1, h2, h3, hc.1, hc.2.1]
        have hrun : (Instr.sliceAt t (.slice A len c) lov hiv none).run P w = .ok (.slice (if c = l.toNat then A else A.map (·.add (l.toNat * ety.size))) (hh.toNat - l.toNat) (c - l.toNat)) w := by
          simp [Instr.sliceAt, Instr.slice, run_underlying hd, hbounds, hT.sizeOf he]
        refine ⟨_, hrun, p, _, _, hp, rfl, ?_⟩
        rcases hA with ⟨rfl, rfl, hcap⟩ | ⟨rfl, rfl, hcap⟩
        · by_cases e1 : p.cap - o = l.toNat
          · exact .inr ⟨by omega, by omega, by omega⟩
          · refine .inl ⟨?_, by omega, by omega⟩
            rw [if_neg e1]
            simp only [Option.map_some, ad_add, hsz, Nat.add_mul]
            rw [Nat.add_assoc]
        · exact .inr ⟨by omega, by omega, by omega⟩
      · cases ha
    · cases ha
/-- A part of a slice that goes beyond its end, within its block. -/
def sliceX (sz : Nat) (H : Hp) (x : AV) (lo hi : Option AV) : Option AV :=
  match x with
  | .sl b o len => match boundA 0 lo, boundA len hi with
    | some l, some h => match H[b]? with
      | some (some blk) => if 0 ≤ l ∧ l ≤ h ∧ blk.rw = true ∧ blk.sz = sz ∧ 0 < sz ∧ (o + h.toNat) * sz ≤ blk.cells.length then some (.sl b (o + l.toNat) (h.toNat - l.toNat)) else none
      | _ => none
    | _, _ => none
  | _ => none
theorem sliceX_sound {P : Program} {tab : Tab} (hT : TabOk P tab) {m : List Place} {H : Hp} {w : World} (h : Rel m H w) {t e : Nat} {ty ety : Ty} (ht : tab t = some ty) (hk : ty.k = .slice e) (he : tab e = some ety) {x v : AV} {xv : Value} {lo hi : Option AV} {lov hiv : Option Value} (hx : VR m x xv) (hlo : VRo m lo lov) (hhi : VRo m hi hiv)
    (ha : sliceX ety.size H x lo hi = some v) :
    ∃ v', (Instr.sliceAt t xv lov hiv none).run P w = .ok v' w ∧ VR m v v' := by
  obtain ⟨_, _, ⟨d, hd, hkk⟩, _⟩ := hT t ty ht
  rw [hk] at hkk
  simp only [kindOk] at hkk
  subst hkk
  cases x <;> simp only [sliceX] at ha <;> try cases ha
  rename_i b o len
  obtain ⟨p, A, c, hp, rfl, hA⟩ := hx
  split at ha
  · rename_i l hh hl1 hh1
    split at ha
    · rename_i blk hbb
      split at ha
      · rename_i hc0
        cases ha
        obtain ⟨hc1, hc2, hrw, hbsz, hpos, hfit⟩ := hc0
        have hpl := h.place hbb hp
        have hsz : p.sz = ety.size := hpl.sz.trans hbsz
        obtain ⟨cur, T, fz, _, hr, _⟩ := hpl.at_
        have hcap := (hr hrw).2.2
        rw [hsz] at hcap
        have hle : o + hh.toNat ≤ p.cap := Nat.le_of_mul_le_mul_right (Nat.le_trans hfit hcap) hpos
        have hlc : len ≤ c := by rcases hA with ⟨_, rfl, _⟩ | ⟨rfl, rfl, _⟩ <;> omega
        have hhc : hh ≤ (c : Int) := by rcases hA with ⟨_, rfl, _⟩ | ⟨rfl, rfl, _⟩ <;> omega
        have hbounds : (Instr.sliceBounds true len c lov hiv none).run P w = .ok (l.toNat, hh.toNat, c) w := by
          cases lo <;> cases lov <;> simp only [VRo] at hlo <;> cases hi <;> cases hiv <;> simp only [VRo] at hhi
          · simp [boundA] at hl1 hh1
            subst hl1 hh1
            simp [Instr.sliceBounds]
          · rename_i a av
            cases a <;> simp [boundA] at hh1
            cases hhi
            simp [boundA] at hl1
            subst hl1 hh1
            simp [Instr.sliceBounds, Instr.sliceBound, asIntOf, hc2, hhc]
          · rename_i a av
            cases a <;> simp [boundA] at hl1
            cases hlo
            simp [boundA] at hh1
            subst hl1 hh1
            simp [Instr.sliceBounds, Instr.sliceBound, asIntOf, hc1, hc2]
          · rename_i a av b bv
            cases a <;> simp [boundA] at hl1
            cases b <;> simp [boundA] at hh1
            cases hlo
            cases hhi
            subst hl1 hh1
            have h2 := Int.le_trans hc1 hc2
            have h3 := Int.max_eq_left h2
            simp [Instr.sliceBounds, Instr.sliceBound, asIntOf, hhc, h2, h3, hc1, hc2]
        have hrun : (Instr.sliceAt t (.slice A len c) lov hiv none).run P w = .ok (.slice (if c = l.toNat then A else A.map (·.add (l.toNat * ety.size))) (hh.toNat - l.toNat) (c - l.toNat)) w := by
          simp [Instr.sliceAt, Instr.slice, run_underlying hd, hbounds, hT.sizeOf he]
        refine ⟨_, hrun, p, _, _, hp, rfl, ?_⟩
        rcases hA with ⟨rfl, rfl, hcap⟩ | ⟨rfl, rfl, hcap⟩
        · by_cases e1 : p.cap - o = l.toNat
          · exact .inr ⟨by omega, by omega, by omega⟩
          · refine .inl ⟨?_, by omega, by omega⟩
            rw [if_neg e1]
            simp only [Option.map_some, ad_add, hsz, Nat.add_mul]
            rw [Nat.add_assoc]
        · exact .inr ⟨by omega, by omega, by omega⟩
      · cases ha
    · cases ha
  · cases ha
/-- The bounds of a slice with three numbers are looked at; what comes of it is left open. -/
def slice3A (x : AV) (lo hi mx : Option AV) : Bool :=
  match x with
  | .sl _ _ len => match boundA 0 lo, hi, mx with
    | some l, some (.int _ h), some (.int _ m) => decide (0 ≤ l ∧ l ≤ h ∧ h ≤ m ∧ m ≤ (len : Int))
    | _, _, _ => false
  | _ => false
theorem slice3_sound {P : Program} {tab : Tab} (hT : TabOk P tab) {m : List Place} {w : World} {t e : Nat} {ty ety : Ty} (ht : tab t = some ty) (hk : ty.k = .slice e) (he : tab e = some ety) {x : AV} {xv : Value} {lo hi mx : Option AV} {lov hiv mxv : Option Value} (hx : VR m x xv) (hlo : VRo m lo lov) (hhi : VRo m hi hiv) (hmx : VRo m mx mxv)
    (ha : slice3A x lo hi mx = true) :
    ∃ v', (Instr.sliceAt t xv lov hiv mxv).run P w = .ok v' w ∧ VR m .und v' := by
  obtain ⟨_, _, ⟨d, hd, hkk⟩, _⟩ := hT t ty ht
  rw [hk] at hkk
  simp only [kindOk] at hkk
  subst hkk
  cases x <;> simp only [slice3A] at ha <;> try cases ha
  rename_i b o len
  obtain ⟨p, A, c, hp, rfl, hA⟩ := hx
  have hlc : len ≤ c := by rcases hA with ⟨_, rfl, _⟩ | ⟨rfl, rfl, _⟩ <;> omega
  split at ha
  · rename_i l k1 h k2 mm hl1
    simp only [decide_eq_true_eq] at ha
    obtain ⟨h1, h2, h3, h4⟩ := ha
    have h5 : mm ≤ (c : Int) := by omega
    have h6 : 0 ≤ h := by omega
    have h7 : 0 ≤ mm := by omega
    cases hiv <;> simp only [VRo] at hhi
    cases mxv <;> simp only [VRo] at hmx
    cases hhi
    cases hmx
    cases lo with
    | none =>
      cases lov <;> simp only [VRo] at hlo
      simp [Instr.sliceAt, Instr.slice, Instr.sliceBounds, Instr.sliceBound, asIntOf, run_underlying hd, hT.sizeOf he, h3, h5, h6, h7, Int.max_eq_left, VR]
    | some a =>
      cases lov <;> simp only [VRo] at hlo
      cases a <;> simp [boundA] at hl1
      cases hlo
      subst hl1
      simp [Instr.sliceAt, Instr.slice, Instr.sliceBounds, Instr.sliceBound, asIntOf, run_underlying hd, hT.sizeOf he, h1, h2, h3, h5, h6, h7, Int.max_eq_left, VR]
  · cases ha
/-! ### equal structs -/
def fitCell (tab : Tab) (t : Nat) : AV → Bool
  | .int k _ => match tab t with
    | some ty => match ty.k with
      | .int k' => decide (k = k')
      | _ => false
    | none => false
  | .bool _ => match tab t with
    | some ty => match ty.k with
      | .bool => true
      | _ => false
    | none => false
  | _ => false
def fitsA (tab : Tab) : List (Nat × Nat) → Nat → List AV → Bool
  | [], _, [] => true
  | (o, t) :: fs, i, a :: l => decide (o = i) && fitCell tab t a && fitsA tab fs (i + 1) l
  | _, _, _ => false
def eqCells : List AV → List AV → Bool
  | .int _ a :: l, .int _ b :: r => a == b && eqCells l r
  | .bool a :: l, .bool b :: r => a == b && eqCells l r
  | _, _ => true
def eqlA (tab : Tab) (t : Nat) (l r : List AV) : Option Bool := match tab t with
  | some ty => match ty.k with
    | .struct fs => if ty.eq = true ∧ fitsA tab fs 0 l = true ∧ fitsA tab fs 0 r = true then some (eqCells l r) else none
    | .arr n e => match tab e with
      | some ety => if ty.eq = true ∧ ety.size = 1 ∧ l.length = n ∧ r.length = n ∧ l.all (fitCell tab e) = true ∧ r.all (fitCell tab e) = true then some (eqCells l r) else none
      | none => none
    | _ => none
  | none => none
def cmpA (op : BinOp) (b : Bool) : Option AV := match op with
  | .eql => some (.bool b)
  | .neq => some (.bool !b)
  | _ => none
theorem eqFields_sound {P : Program} {tab : Tab} (hT : TabOk P tab) {m m2 : List Place} {w : World} (d : Nat) (xs ys : List Value) : ∀ (fs : List Field) (i : Nat) (l r : List AV), (∀ f ∈ fs, f.name ≠ "_") → fitsA tab (fs.map fun f => (f.offset, f.type)) i l = true → fitsA tab (fs.map fun f => (f.offset, f.type)) i r = true → VRs m l (xs.drop i) → VRs m2 r (ys.drop i) →
    (Op.eqFields (d + 1) xs.toArray ys.toArray fs).run P w = .ok (eqCells l r) w
  | [], i, l, r, _, hl, hr, _, _ => by
    cases l <;> simp [fitsA] at hl
    cases r <;> simp [fitsA] at hr
    simp [Op.eqFields, eqCells]
  | f :: fs, i, l, r, hn, hl, hr, hx, hy => by
    cases l with
    | nil => simp [fitsA] at hl
    | cons a l =>
      cases r with
      | nil => simp [fitsA] at hr
      | cons c r =>
        simp only [List.map_cons, fitsA, Bool.and_eq_true, decide_eq_true_eq] at hl hr
        obtain ⟨v, vs, e1, k1, k2⟩ := hx
        obtain ⟨u, us, e2, k3, k4⟩ := hy
        have x0 : xs[i]? = some v := by have := congrArg (·[0]?) e1; simpa using this
        have y0 : ys[i]? = some u := by have := congrArg (·[0]?) e2; simpa using this
        have x1 : xs.drop (i + 1) = vs := by rw [← List.tail_drop, e1]; rfl
        have y1 : ys.drop (i + 1) = us := by rw [← List.tail_drop, e2]; rfl
        have ih := eqFields_sound hT (P := P) (w := w) d xs ys fs (i + 1) l r (fun g hg => hn g (by simp [hg])) hl.2 hr.2 (x1 ▸ k2) (y1 ▸ k4)
        have hname := hn f (by simp)
        have ho := hl.1.1
        cases a <;> simp only [fitCell] at hl <;> try (simp at hl; done)
        · rename_i p
          cases htt : tab f.type with
          | none => rw [htt] at hl; simp at hl
          | some ty =>
            rw [htt] at hl
            dsimp only at hl
            obtain ⟨_, _, ⟨dd, hd, hk⟩, _⟩ := hT _ _ htt
            cases hkk : ty.k <;> rw [hkk] at hl hk <;> simp at hl
            simp only [kindOk] at hk
            subst hk
            cases c <;> simp only [fitCell, htt, hkk] at hr <;> try (simp at hr; done)
            rename_i q
            cases k1
            cases k3
            have hag : (Go.isAgg f.type).run P w = .ok false w := by rw [hT.isAgg htt, hkk]; rfl
            simp [Op.eqFields, hname, part, hag, ho, x0, y0, run_equalIn_bool', hd, eqCells]
            cases hpq : p == q <;> simp_all
        · rename_i k p
          cases htt : tab f.type with
          | none => rw [htt] at hl; simp at hl
          | some ty =>
            rw [htt] at hl
            dsimp only at hl
            obtain ⟨_, _, ⟨dd, hd, hk⟩, _⟩ := hT _ _ htt
            cases hkk : ty.k <;> rw [hkk] at hl hk <;> simp at hl
            rename_i k'
            simp only [kindOk] at hk
            subst hk
            cases c <;> simp only [fitCell, htt, hkk] at hr <;> try (simp at hr; done)
            rename_i k2' q
            simp at hr
            cases k1
            cases k3
            have hag : (Go.isAgg f.type).run P w = .ok false w := by rw [hT.isAgg htt, hkk]; rfl
            have e3 := hl.1.2
            have e4 := hr.1.2
            subst e4
            subst e3
            simp [Op.eqFields, hname, part, hag, ho, x0, y0, run_equalIn_int, hd, eqCells]
            cases hpq : p == q <;> simp_all
theorem eqItems_sound {P : Program} {tab : Tab} (hT : TabOk P tab) {m m2 : List Place} {w : World} (d : Nat) {e : Nat} {ety : Ty} (he : tab e = some ety) (xs ys : List Value) : ∀ (l r : List AV) (i : Nat), l.length = r.length → l.all (fitCell tab e) = true → r.all (fitCell tab e) = true → VRs m l (xs.drop i) → VRs m2 r (ys.drop i) →
    (Op.eqItems (d + 1) e 1 xs.toArray ys.toArray (List.range' i l.length)).run P w = .ok (eqCells l r) w
  | [], r, i, hn, _, _, _, _ => by
    cases r <;> simp at hn
    simp [Op.eqItems, eqCells]
  | a :: l, [], i, hn, _, _, _, _ => by simp at hn
  | a :: l, c :: r, i, hn, hl, hr, hx, hy => by
    simp only [List.all_cons, Bool.and_eq_true] at hl hr
    obtain ⟨v, vs, e1, k1, k2⟩ := hx
    obtain ⟨u, us, e2, k3, k4⟩ := hy
    have x0 : xs[i]? = some v := by have := congrArg (·[0]?) e1; simpa using this
    have y0 : ys[i]? = some u := by have := congrArg (·[0]?) e2; simpa using this
    have x1 : xs.drop (i + 1) = vs := by rw [← List.tail_drop, e1]; rfl
    have y1 : ys.drop (i + 1) = us := by rw [← List.tail_drop, e2]; rfl
    have ih := eqItems_sound hT (P := P) (w := w) d he xs ys l r (i + 1) (by simpa using hn) hl.2 hr.2 (x1 ▸ k2) (y1 ▸ k4)
    have h1 := hl.1
    have h2 := hr.1
    obtain ⟨_, _, ⟨dd, hd, hk⟩, _⟩ := hT _ _ he
    cases a <;> simp only [fitCell, he] at h1 <;> try (simp at h1; done)
    · cases hkk : ety.k <;> rw [hkk] at h1 hk <;> simp at h1
      simp only [kindOk] at hk
      subst hk
      cases c <;> simp only [fitCell, he, hkk] at h2 <;> try (simp at h2; done)
      cases k1
      cases k3
      rename_i p q
      have hag : (Go.isAgg e).run P w = .ok false w := by rw [hT.isAgg he, hkk]; rfl
      simp [List.range'_succ, Op.eqItems, part, hag, x0, y0, run_equalIn_bool', hd, eqCells]
      cases hpq : p == q <;> simp_all
    · cases hkk : ety.k <;> rw [hkk] at h1 hk <;> simp at h1
      simp only [kindOk] at hk
      subst hk
      cases c <;> simp only [fitCell, he, hkk] at h2 <;> try (simp at h2; done)
      simp at h2
      cases k1
      cases k3
      subst h1
      subst h2
      rename_i p k q
      have hag : (Go.isAgg e).run P w = .ok false w := by rw [hT.isAgg he, hkk]; rfl
      simp [List.range'_succ, Op.eqItems, part, hag, x0, y0, run_equalIn_int, hd, eqCells]
      cases hpq : p == q <;> simp_all
theorem eql_sound {P : Program} {tab : Tab} (hT : TabOk P tab) {m m2 : List Place} {w : World} {op : BinOp} {t : Nat} {l r : List AV} {b : Bool} {v : AV} {xv yv : Value} {xo yo : Operand} (hx : VR m (.agg l) xv) (hy : VR m2 (.agg r) yv) (h : eqlA tab t l r = some b) (hv : cmpA op b = some v) :
    ∃ v', (do eqGuard op t xo yo xv yv; binOp op t xv yv : Sem Value).run P w = .ok v' w ∧ VR m v v' := by
  obtain ⟨xs, rfl, kx⟩ := hx
  obtain ⟨ys, rfl, ky⟩ := hy
  unfold eqlA at h
  split at h
  · rename_i ty htt
    split at h
    · rename_i fs hfs
      split at h
      · rename_i hc
        cases h
        obtain ⟨_, _, ⟨d, hd, hk⟩, he⟩ := hT t ty htt
        obtain ⟨h1, h2, h3⟩ := he hc.1
        rw [hfs] at hk
        obtain ⟨fields, rfl, hfl⟩ := hk
        have hfo : P.fieldsOf t = fields := by simp [Program.fieldsOf, hd]
        have hS : P.underlying t = some (.struct (P.fieldsOf t)) := by rw [hfo]; exact hd
        have hn : ∀ f ∈ fields.toList, f.name ≠ "_" := by
          simp only [namesOk, hd, List.all_eq_true] at h3
          intro f hf
          simpa using h3 f hf
        have hrun : (Op.equalIn 10000 t (.agg xs.toArray) (.agg ys.toArray)).run P w = .ok (eqCells l r) w := by
          rw [show (10000 : Nat) = 9999 + 1 from rfl, run_equalIn_agg w 9999 t _ _ hS h1, hfo]
          exact eqFields_sound hT 9998 xs ys fields.toList 0 l r hn (by rw [hfl]; exact hc.2.1) (by rw [hfl]; exact hc.2.2) (by simpa using kx) (by simpa using ky)
        cases op <;> simp only [cmpA] at hv <;> cases hv
        · exact ⟨_, by simp [run_eqGuard_agg, h2, run_eql_struct, hrun], rfl⟩
        · exact ⟨_, by simp [run_eqGuard_agg, h2, run_neq_struct, hrun], rfl⟩
      · cases h
    · rename_i n e hfs
      split at h
      · rename_i ety hte
        split at h
        · rename_i hc
          cases h
          obtain ⟨_, _, ⟨d, hd, hk⟩, he⟩ := hT t ty htt
          obtain ⟨h1, h2, h3⟩ := he hc.1
          rw [hfs] at hk
          simp only [kindOk] at hk
          subst hk
          obtain ⟨⟨i, z, hi, hsz, _⟩, _, _, _⟩ := hT e ety hte
          have hco : P.cellsOf e = 1 := by simp [Program.cellsOf, hi, hsz, hc.2.1]
          have hrun : (Op.equalIn 10000 t (.agg xs.toArray) (.agg ys.toArray)).run P w = .ok (eqCells l r) w := by
            rw [show (10000 : Nat) = 9998 + 1 + 1 from rfl, run_equalIn_array w (9998 + 1) _ _ hd hi, hco, List.range_eq_range', ← hc.2.2.1]
            exact eqItems_sound hT 9998 hte xs ys l r 0 (by omega) hc.2.2.2.2.1 hc.2.2.2.2.2 (by simpa using kx) (by simpa using ky)
          cases op <;> simp only [cmpA] at hv <;> cases hv
          · exact ⟨_, by simp [run_eqGuard_agg, h2, run_eql_struct, hrun], rfl⟩
          · exact ⟨_, by simp [run_eqGuard_agg, h2, run_neq_struct, hrun], rfl⟩
        · cases h
      · cases h
    · cases h
  · cases h
end Go.Proofs.Ythihphgfblonoaa.Am
