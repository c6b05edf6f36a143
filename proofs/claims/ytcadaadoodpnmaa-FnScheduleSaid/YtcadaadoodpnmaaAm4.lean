/- More operations on the abstract heap: slices, parts, literals, builtins. No condition. -/
import Derived.Test.YtcadaadoodpnmaaAm3
namespace Go.Proofs.Ytcadaadoodpnmaa.Am
open Go Go.RowKit
set_option linter.unusedSimpArgs false
set_option linter.unusedVariables false

/-! ### addresses -/
def fieldAddrA (tab : Tab) (fs : List (Nat × Nat)) (j : Nat) : AV → Option AV
  | .ptr b o => match fs[j]? with
    | some (off, ft) => match tab ft with
      | some fty => if fty.size = 0 then none else some (.ptr b (o + off))
      | none => none
    | none => none
  | _ => none
theorem field_of {fs : List (Nat × Nat)} {fields : Array Field} (h : fields.toList.map (fun f => (f.offset, f.type)) = fs) {j off ft : Nat} (hj : fs[j]? = some (off, ft)) : ∃ f, fields[j]? = some f ∧ f.offset = off ∧ f.type = ft := by
  subst h
  rw [List.getElem?_map] at hj
  cases hf : fields.toList[j]? with
  | none => rw [hf] at hj; cases hj
  | some f =>
    rw [hf] at hj
    simp at hj
    exact ⟨f, by simpa using hf, hj.1, hj.2⟩
theorem fieldAddr_sound {P : Program} {tab : Tab} (hT : TabOk P tab) {m : List Place} {w : World} {t : Nat} {ty : Ty} {fs : List (Nat × Nat)} (ht : tab t = some ty) (hk : ty.k = .struct fs) {x v : AV} {xv : Value} (j : Nat) (hx : VR m x xv) (h : fieldAddrA tab fs j x = some v) :
    ∃ v', (Instr.fieldAt t xv j).run P w = .ok v' w ∧ VR m v v' := by
  cases x <;> simp only [fieldAddrA] at h <;> try cases h
  obtain ⟨p, hp, rfl⟩ := hx
  split at h
  · rename_i off ft hj
    split at h
    · rename_i fty hft
      split at h
      · cases h
      · rename_i hz
        cases h
        obtain ⟨_, _, d, hd, hkk⟩ := hT t ty ht
        rw [hk] at hkk
        obtain ⟨fields, rfl, hfs⟩ := hkk
        obtain ⟨f, hf, rfl, rfl⟩ := field_of hfs hj
        refine ⟨_, ?_, p, hp, rfl⟩
        simp [Instr.fieldAt, run_underlying hd, hf, Instr.sureAddr, fieldPlace, hT.sizeOf hft, hz, ad_add, Nat.add_assoc]
    · cases h
  · cases h
def indexAddrA (tab : Tab) (k : TyK) (H : Hp) (x i : AV) : Option AV :=
  match i with
  | .int _ i => match k, x with
    | .slice e, .sl b o len => match tab e, H[b]? with
      | some ety, some (some blk) => if blk.sz = ety.size ∧ 0 ≤ i ∧ i < (len : Int) then some (.ptr b ((o + i.toNat) * ety.size)) else none
      | _, _ => none
    | .arr n e, .ptr b o => match tab e with
      | some ety => if 0 ≤ i ∧ i < (n : Int) then some (.ptr b (o + i.toNat * ety.size)) else none
      | none => none
    | _, _ => none
  | _ => none
theorem indexAddr_sound {P : Program} {tab : Tab} (hT : TabOk P tab) {m : List Place} {H : Hp} {w : World} (h : Rel m H w) {t : Nat} {ty : Ty} (ht : tab t = some ty) {x i v : AV} {xv iv : Value} (hx : VR m x xv) (hi : VR m i iv) (ha : indexAddrA tab ty.k H x i = some v) :
    ∃ v', (Instr.indexAt t xv iv).run P w = .ok v' w ∧ VR m v v' := by
  cases i <;> simp only [indexAddrA] at ha <;> try cases ha
  rename_i k i
  cases hi
  obtain ⟨_, _, d, hd, hk⟩ := hT t ty ht
  split at ha
  · rename_i e b o len hkk
    rw [hkk] at hk
    simp only [kindOk] at hk
    subst hk
    split at ha
    · rename_i ety blk he hb
      split at ha
      · rename_i hc
        cases ha
        obtain ⟨p, A, c, hp, rfl, hA⟩ := hx
        have hsz := (h.place hb hp).sz
        rcases hA with ⟨rfl, rfl, _⟩ | ⟨rfl, _, _⟩
        · refine ⟨.pointer (some (ad p.block (p.off + (o + i.toNat) * ety.size))), ?_, p, hp, rfl⟩
          have e1 : p.off + o * p.sz + i.toNat * ety.size = p.off + (o + i.toNat) * ety.size := by rw [hsz, hc.1, Nat.add_mul]; omega
          simp [Instr.indexAt, asIntOf, run_underlying hd, hc.2.1, hc.2.2, hT.sizeOf he, ad_add, e1]
        · omega
      · cases ha
    · cases ha
  · rename_i n e b o hkk
    rw [hkk] at hk
    simp only [kindOk] at hk
    subst hk
    split at ha
    · rename_i ety he
      split at ha
      · rename_i hc
        cases ha
        obtain ⟨p, hp, rfl⟩ := hx
        refine ⟨.pointer (some (ad p.block (p.off + (o + i.toNat * ety.size)))), ?_, p, hp, rfl⟩
        simp [Instr.indexAt, asIntOf, run_underlying hd, Instr.sureAddr, hc.1, hc.2, hT.sizeOf he, ad_add, Nat.add_assoc]
      · cases ha
    · cases ha
  · cases ha

/-! ### parts of values -/
def partA (ty : Ty) (l : List AV) (o : Nat) : Option AV := if ty.k.agg then (if o + ty.size ≤ l.length then some (.agg ((l.drop o).take ty.size)) else none) else l[o]?
theorem part_sound {P : Program} {tab : Tab} (hT : TabOk P tab) {m : List Place} {w : World} {t : Nat} {ty : Ty} (ht : tab t = some ty) {l : List AV} {cs : List Value} {v : AV} (o : Nat) (hl : VRs m l cs) (h : partA ty l o = some v) :
    ∃ v', (part t cs.toArray o).run P w = .ok v' w ∧ VR m v v' := by
  unfold partA at h
  split at h
  · rename_i hagg
    split at h
    · rename_i hlen
      cases h
      refine ⟨.agg ((cs.drop o).take ty.size).toArray, ?_, ((hl.drop o).take ty.size).ofArray⟩
      simp [part, hT.isAgg ht, hagg, hT.sizeOf ht]
    · cases h
  · rename_i hagg
    obtain ⟨v', e, k⟩ := hl.get o v h
    exact ⟨v', by simp [part, hT.isAgg ht, hagg, e], k⟩
def fieldA (tab : Tab) (fs : List (Nat × Nat)) (j : Nat) : AV → Option AV
  | .agg l => match fs[j]? with
    | some (off, ft) => match tab ft with
      | some fty => partA fty l off
      | none => none
    | none => none
  | _ => none
theorem field_sound {P : Program} {tab : Tab} (hT : TabOk P tab) {m : List Place} {w : World} {t : Nat} {ty : Ty} {fs : List (Nat × Nat)} (ht : tab t = some ty) (hk : ty.k = .struct fs) {x v : AV} {xv : Value} (j : Nat) (hx : VR m x xv) (h : fieldA tab fs j x = some v) :
    ∃ v', (Instr.field t xv j).run P w = .ok v' w ∧ VR m v v' := by
  cases x <;> simp only [fieldA] at h <;> try cases h
  obtain ⟨cs, rfl, hcs⟩ := hx
  split at h
  · rename_i off ft hj
    split at h
    · rename_i fty hft
      obtain ⟨_, _, d, hd, hkk⟩ := hT t ty ht
      rw [hk] at hkk
      obtain ⟨fields, rfl, hfs⟩ := hkk
      obtain ⟨f, hf, rfl, rfl⟩ := field_of hfs hj
      obtain ⟨v', hr, k⟩ := part_sound hT (w := w) hft _ hcs h
      exact ⟨v', by simp [Instr.field, run_underlying hd, hf, asAgg, hr], k⟩
    · cases h
  · cases h
def indexA (tab : Tab) (n e : Nat) (x i : AV) : Option AV :=
  match x, i with
  | .agg l, .int _ i => match tab e with
    | some ety => if 0 ≤ i ∧ i < (n : Int) then partA ety l (i.toNat * ety.size) else none
    | none => none
  | _, _ => none
theorem index_sound {P : Program} {tab : Tab} (hT : TabOk P tab) {m : List Place} {w : World} {t n e : Nat} {ty : Ty} (ht : tab t = some ty) (hk : ty.k = .arr n e) {x i v : AV} {xv iv : Value} (hx : VR m x xv) (hi : VR m i iv) (h : indexA tab n e x i = some v) :
    ∃ v', (Instr.index t xv iv).run P w = .ok v' w ∧ VR m v v' := by
  cases x <;> cases i <;> simp only [indexA] at h <;> try cases h
  obtain ⟨cs, rfl, hcs⟩ := hx
  cases hi
  split at h
  · rename_i ety he
    split at h
    · rename_i hc
      obtain ⟨_, _, d, hd, hkk⟩ := hT t ty ht
      rw [hk] at hkk
      simp only [kindOk] at hkk
      subst hkk
      obtain ⟨v', hr, k⟩ := part_sound hT (w := w) he _ hcs h
      exact ⟨v', by simp [Instr.index, asIntOf, run_underlying hd, hc.1, hc.2, hT.sizeOf he, hr], k⟩
    · cases h
  · cases h

/-! ### a slice of a slice -/
def boundA (d : Int) : Option AV → Option Int
  | none => some d
  | some (.int _ i) => some i
  | _ => none
def sliceA (x : AV) (lo hi : Option AV) : Option AV :=
  match x with
  | .nil => match boundA 0 lo, boundA 0 hi with
    | some l, some h => if l = 0 ∧ h = 0 then some .nil else none
    | _, _ => none
  | .sl b o len => match boundA 0 lo, boundA len hi with
    | some l, some h => if 0 ≤ l ∧ l ≤ h ∧ h ≤ (len : Int) then some (.sl b (o + l.toNat) (h.toNat - l.toNat)) else none
    | _, _ => none
  | _ => none
def liveA (sz : Nat) (H : Hp) : AV → Bool
  | .sl b _ _ => match H[b]? with
    | some (some blk) => decide (blk.sz = sz)
    | _ => false
  | _ => true
def VRo (m : List Place) : Option AV → Option Value → Prop
  | none, none => True
  | some a, some v => VR m a v
  | _, _ => False
theorem slice_sound {P : Program} {tab : Tab} (hT : TabOk P tab) {m : List Place} {H : Hp} {w : World} (h : Rel m H w) {t e : Nat} {ty ety : Ty} (ht : tab t = some ty) (hk : ty.k = .slice e) (he : tab e = some ety) {x v : AV} {xv : Value} {lo hi : Option AV} {lov hiv : Option Value} (hx : VR m x xv) (hlo : VRo m lo lov) (hhi : VRo m hi hiv)
    (hb : liveA ety.size H x = true) (ha : sliceA x lo hi = some v) :
    ∃ v', (Instr.sliceAt t xv lov hiv none).run P w = .ok v' w ∧ VR m v v' := by
  obtain ⟨_, _, d, hd, hkk⟩ := hT t ty ht
  rw [hk] at hkk
  simp only [kindOk] at hkk
  subst hkk
  cases x <;> simp only [sliceA] at ha <;> try cases ha
  · obtain ⟨A, rfl⟩ := hx
    refine ⟨.slice A 0 0, ?_, ?_⟩
    · cases lo <;> cases lov <;> simp only [VRo] at hlo <;> cases hi <;> cases hiv <;> simp only [VRo] at hhi
      · simp [Instr.sliceAt, Instr.slice, Instr.sliceBounds, run_underlying hd, hT.sizeOf he]
      · rename_i a av
        cases a <;> simp [boundA] at ha
        cases hhi
        obtain ⟨rfl, rfl⟩ := ha
        simp [Instr.sliceAt, Instr.slice, Instr.sliceBounds, Instr.sliceBound, asIntOf, run_underlying hd, hT.sizeOf he]
      · rename_i a av
        cases a <;> simp [boundA] at ha
        cases hlo
        obtain ⟨rfl, rfl⟩ := ha
        simp [Instr.sliceAt, Instr.slice, Instr.sliceBounds, Instr.sliceBound, asIntOf, run_underlying hd, hT.sizeOf he]
      · rename_i a av b bv
        cases a <;> cases b <;> simp [boundA] at ha
        cases hlo
        cases hhi
        obtain ⟨⟨rfl, rfl⟩, rfl⟩ := ha
        simp [Instr.sliceAt, Instr.slice, Instr.sliceBounds, Instr.sliceBound, asIntOf, run_underlying hd, hT.sizeOf he]
    · split at ha
      · split at ha
        · cases ha; exact ⟨A, rfl⟩
        · cases ha
      · cases ha
  · rename_i b o len
    obtain ⟨p, A, c, hp, rfl, hA⟩ := hx
    have hsz : p.sz = ety.size := by
      simp only [liveA] at hb
      cases hbb : H[b]? with
      | none => rw [hbb] at hb; simp at hb
      | some ob =>
        cases ob with
        | none => rw [hbb] at hb; simp at hb
        | some blk => rw [hbb] at hb; simp at hb; exact (h.place hbb hp).sz.trans hb
    split at ha
    · rename_i l hh hl1 hh1
      split at ha
      · rename_i hc
        cases ha
        have hlc : len ≤ c := by rcases hA with ⟨_, rfl, _⟩ | ⟨rfl, rfl, _⟩ <;> omega
        have hbounds : (Instr.sliceBounds true len c lov hiv none).run P w = .ok (l.toNat, hh.toNat, c) w := by
          cases lo <;> cases lov <;> simp only [VRo] at hlo <;> cases hi <;> cases hiv <;> simp only [VRo] at hhi
          · simp [boundA] at hl1 hh1
            subst hl1 hh1
            simp [Instr.sliceBounds]
          · rename_i a av
            cases a <;> simp [boundA] at hh1
            cases hhi
            simp [boundA] at hl1
            subst hl1 hh1
            have := Int.le_trans hc.2.2 (Int.ofNat_le.2 hlc)
            simp [Instr.sliceBounds, Instr.sliceBound, asIntOf, hc.2.1, this]
          · rename_i a av
            cases a <;> simp [boundA] at hl1
            cases hlo
            simp [boundA] at hh1
            subst hl1 hh1
            simp [Instr.sliceBounds, Instr.sliceBound, asIntOf, hc.1, hc.2.1]
          · rename_i a av b bv
            cases a <;> simp [boundA] at hl1
            cases b <;> simp [boundA] at hh1
            cases hlo
            cases hhi
            subst hl1 hh1
            have h1 := Int.le_trans hc.2.2 (Int.ofNat_le.2 hlc)
            have h2 := Int.le_trans hc.1 hc.2.1
            have h3 := Int.max_eq_left h2
            simp [Instr.sliceBounds, Instr.sliceBound, asIntOf, h1, h2, h3, hc.1, hc.2.1]
        have hrun : (Instr.sliceAt t (.slice A len c) lov hiv none).run P w = .ok (.slice (if c = l.toNat then A else A.map (·.add (l.toNat * ety.size))) (hh.toNat - l.toNat) (c - l.toNat)) w := by
          simp [Instr.sliceAt, Instr.slice, run_underlying hd, hbounds, hT.sizeOf he]
        refine ⟨_, hrun, p, _, _, hp, rfl, ?_⟩
        rcases hA with ⟨rfl, rfl, hcap⟩ | ⟨rfl, rfl, hcap⟩
        · by_cases e1 : p.cap - o = l.toNat
          · exact .inr ⟨by omega, by omega, by omega⟩
          · refine .inl ⟨?_, by omega, by omega⟩
            rw [if_neg e1]
            simp only [Option.map_some, ad_add, hsz, Nat.add_mul]
            rw [Nat.add_assoc]
        · exact .inr ⟨by omega, by omega, by omega⟩
      · cases ha
    · cases ha
end Go.Proofs.Ytcadaadoodpnmaa.Am
