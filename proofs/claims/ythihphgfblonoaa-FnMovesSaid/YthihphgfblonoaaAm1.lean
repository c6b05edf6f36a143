/- The abstract heap, moved: a new block, a store, a block given up, and what an append does. No condition. -/
import Derived.Test.YthihphgfblonoaaAm0
import Derived.Laws.AppendOwn
namespace Go.Proofs.Ythihphgfblonoaa.Am
open Go Go.RowKit

theorem cell_ad {w : World} {g o : Nat} {cur : Array Value} {T : TypeId} {fz : Nat × Nat} (h : w.heap[g]? = some (.cells cur T fz)) : w.cell? (ad g o) = cur[o]? := by
  simp [World.cell?, ad, h]
theorem ad_add (g o n : Nat) : (ad g o).add n = ad g (o + n) := by
  unfold Addr.add ad
  split <;> simp_all
theorem Rel.place {m : List Place} {H : Hp} {w : World} (h : Rel m H w) {i : Nat} {b : Blk} {p : Place} (hi : H[i]? = some (some b)) (hp : m[i]? = some p) : BlkAt m b p w := by
  obtain ⟨q, hq, k⟩ := h.blk i b hi
  rw [hp] at hq
  cases hq
  exact k
/-- The cells of a block, read. -/
theorem Rel.load {m : List Place} {H : Hp} {w : World} (h : Rel m H w) {i : Nat} {b : Blk} {p : Place} (hi : H[i]? = some (some b)) (hp : m[i]? = some p) (o n : Nat) (ho : o + n ≤ b.cells.length) :
    ∃ vs, (∀ j v, vs[j]? = some v → w.cell? ((ad p.block (p.off + o)).add j) = some v) ∧ VRs m ((b.cells.drop o).take n) vs := by
  obtain ⟨cur, T, fz, hb, _, hc⟩ := (h.place hi hp).at_
  have hlen : p.off + b.cells.length ≤ cur.size ∨ b.cells.length = 0 := by
    by_cases e : b.cells.length = 0
    · exact .inr e
    · obtain ⟨v, hv, _⟩ := hc (b.cells.length - 1) _ (List.getElem?_eq_getElem (by omega))
      have := (Array.getElem?_eq_some_iff.1 hv).1
      exact .inl (by omega)
  refine ⟨(cur.toList.drop (p.off + o)).take n, fun j v hj => ?_, ?_⟩
  · rw [ad_add, cell_ad hb]
    rw [List.getElem?_take] at hj
    split at hj
    · rw [List.getElem?_drop] at hj
      simpa using hj
    · cases hj
  · refine VRs.of ?_ fun j a hj => ?_
    · simp only [List.length_take, List.length_drop, Array.length_toList]
      omega
    · rw [List.getElem?_take] at hj ⊢
      split at hj
      · rename_i hlt
        rw [if_pos hlt]
        rw [List.getElem?_drop] at hj ⊢
        obtain ⟨v, hv, k⟩ := hc _ a hj
        exact ⟨v, by simpa [Nat.add_assoc] using hv, k⟩
      · cases hj

theorem get_snoc {α : Type} {l : List α} {x y : α} {i : Nat} (h : (l ++ [x])[i]? = some y) : l[i]? = some y ∨ (i = l.length ∧ x = y) := by
  by_cases hlt : i < l.length
  · rw [List.getElem?_append_left hlt] at h
    exact .inl h
  · rw [List.getElem?_append_right (by omega)] at h
    have hz : i - l.length = 0 := by
      apply Classical.byContradiction
      intro hne
      obtain ⟨j, hj⟩ : ∃ j, i - l.length = j + 1 := ⟨i - l.length - 1, by omega⟩
      rw [hj] at h
      simp at h
    rw [hz] at h
    simp at h
    exact .inr ⟨by omega, h⟩
theorem heap_alloc {w : World} {o : Obj} {k : Nat} (h : k < w.heap.size) : (w.alloc o).heap[k]? = w.heap[k]? := Below.heap_alloc w o k h
theorem heap_new (w : World) (o : Obj) : (w.alloc o).heap[w.heap.size]? = some o := by
  show (w.heap.push o)[w.heap.size]? = _
  rw [Array.getElem?_push, if_pos rfl]
theorem blk_lt' {w : World} {g : Nat} {o : Obj} (h : w.heap[g]? = some o) : g < w.heap.size := (Array.getElem?_eq_some_iff.1 h).1

theorem BlkAt.move {m m' : List Place} {b : Blk} {p : Place} {w w' : World} (h : BlkAt m b p w) (he : Ext m m') (hk : w'.heap[p.block]? = w.heap[p.block]?) : BlkAt m' b p w' := by
  obtain ⟨cur, T, fz, hb, h1, hc⟩ := h.at_
  refine ⟨h.sz, h.one, cur, T, fz, hk.trans hb, h1, fun j a hj => ?_⟩
  obtain ⟨v, hv, k⟩ := hc j a hj
  exact ⟨v, hv, k.ext he⟩
theorem BlkAt.lt {m : List Place} {b : Blk} {p : Place} {w : World} (h : BlkAt m b p w) : p.block < w.heap.size := by
  obtain ⟨cur, T, fz, hb, _⟩ := h.at_
  exact blk_lt' hb

/-- A new block. -/
theorem step_new {m : List Place} {H : Hp} {w : World} (h : Rel m H w) (b : Blk) (cs : Array Value) (T : TypeId) (cap : Nat) (hc : ∃ cs0 cs1, cs.toList = cs0 ++ cs1 ∧ VRs m b.cells cs0) (h1 : ∀ a ∈ b.cells, a.one = true) (hcap : cap * b.sz ≤ cs.size) (hl : b.cells.length ≤ cap * b.sz) :
    Step m H w (m ++ [⟨w.heap.size, 0, cap, b.sz⟩]) (H ++ [some b]) (w.alloc (.cells cs T)) := by
  have he := Ext.snoc m ⟨w.heap.size, 0, cap, b.sz⟩
  obtain ⟨cs0, cs1, hcs, hv⟩ := hc
  refine ⟨he, ⟨by simp [h.len], fun i b' hi => ?_, fun i j b1 b2 p q hi hj hp hq hrw hne => ?_⟩, rfl, rfl, rfl, by simp, fun k hk _ => heap_alloc hk, fun k hk => ?_⟩
  · rcases get_snoc hi with hi | ⟨rfl, e⟩
    · obtain ⟨p, hp, k⟩ := h.blk i b' hi
      exact ⟨p, he _ _ hp, k.move he (heap_alloc k.lt)⟩
    · cases e
      refine ⟨_, by rw [← h.len]; simp; rfl, rfl, h1, cs, T, (0, 0), heap_new w _, fun _ => ⟨rfl, by simpa using hcap, hl⟩, fun j a hj => ?_⟩
      obtain ⟨v, e, k⟩ := hv.get j a hj
      refine ⟨v, ?_, k.ext he⟩
      rw [Nat.zero_add, ← Array.getElem?_toList, hcs, List.getElem?_append_left (List.getElem?_eq_some_iff.1 e).1]
      exact e
  · rcases get_snoc hi with hi | ⟨rfl, e1⟩
    · obtain ⟨p', hp', k'⟩ := h.blk i b1 hi
      rw [he _ _ hp'] at hp
      cases hp
      rcases get_snoc hj with hj | ⟨rfl, e2⟩
      · obtain ⟨q', hq', k2⟩ := h.blk j b2 hj
        rw [he _ _ hq'] at hq
        cases hq
        exact h.inj i j b1 b2 _ _ hi hj hp' hq' hrw hne
      · rw [← h.len] at hq
        simp at hq
        subst hq
        have := k'.lt
        simp
        omega
    · rw [← h.len] at hp
      simp at hp
      subst hp
      rcases get_snoc hj with hj | ⟨rfl, e2⟩
      · obtain ⟨q', hq', k2⟩ := h.blk j b2 hj
        rw [he _ _ hq'] at hq
        cases hq
        have := k2.lt
        simp
        omega
      · exact absurd rfl hne
  · rintro ⟨i, b', p, hi, hrw, hp, rfl⟩
    rcases get_snoc hi with hi | ⟨rfl, e⟩
    · obtain ⟨p', hp', k'⟩ := h.blk i b' hi
      rw [he _ _ hp'] at hp
      cases hp
      exact ⟨i, b', _, hi, hrw, hp', rfl⟩
    · rw [← h.len] at hp
      simp at hp
      subst hp
      simp at hk

/-- Some cells of a list, written anew. -/
def over {α : Type} (l : List α) (o : Nat) (xs : List α) : List α := l.take o ++ xs ++ l.drop (o + xs.length)
theorem over_length {α : Type} (l : List α) (o : Nat) (xs : List α) (h : o + xs.length ≤ l.length) : (over l o xs).length = l.length := by
  simp [over]
  omega
theorem over_get {α : Type} (l : List α) (o : Nat) (xs : List α) (h : o ≤ l.length) (j : Nat) : (over l o xs)[j]? = if o ≤ j ∧ j < o + xs.length then xs[j - o]? else l[j]? := by
  unfold over
  by_cases h1 : j < o
  · rw [if_neg (by omega), List.append_assoc, List.getElem?_append_left (by simp; omega), List.getElem?_take, if_pos h1]
  · by_cases h2 : j < o + xs.length
    · rw [if_pos (by omega), List.getElem?_append_left (by simp; omega), List.getElem?_append_right (by simp; omega)]
      simp
      congr 1
      omega
    · rw [if_neg (by omega), List.getElem?_append_right (by simp; omega), List.getElem?_drop]
      congr 1
      simp
      omega

/-- The run of a store of some cells into one block. -/
theorem run_storeCells {P : Program} (g T : Nat) : ∀ (vs : List Value) (w : World) (off i : Nat) (cur : Array Value), w.heap[g]? = some (.cells cur T (0, 0)) → off + i + vs.length ≤ cur.size → (∀ v ∈ vs, v.oneCell' = true) →
    ∃ w', (storeCells (ad g off) vs i).run P w = .ok () w' ∧ w'.heap.size = w.heap.size ∧ w'.os = w.os ∧ w'.tape = w.tape ∧ w'.output = w.output ∧ (∀ k, k ≠ g → w'.heap[k]? = w.heap[k]?) ∧
      ∃ cur', w'.heap[g]? = some (.cells cur' T (0, 0)) ∧ cur'.size = cur.size ∧ ∀ j, cur'[j]? = if off + i ≤ j ∧ j < off + i + vs.length then vs[j - (off + i)]? else cur[j]?
  | [], w, off, i, cur, hb, hl, h1 => ⟨w, rfl, rfl, rfl, rfl, rfl, fun _ _ => rfl, cur, hb, rfl, fun j => by rw [if_neg (by simp only [List.length_nil]; omega)]⟩
  | v :: vs, w, off, i, cur, hb, hl, h1 => by
    simp only [List.length_cons] at hl
    have hv := h1 v (by simp)
    have hcell : w.cell? (ad g (off + i)) = some (cur[off + i]'(by omega)) := by rw [cell_ad hb]; simp
    have hfr : w.frozen? (ad g (off + i)) = false := by simp [World.frozen?, ad, hb]
    have hst : (store (ad g (off + i)) v).run P w = .ok () (w.setCell (ad g (off + i)) v) := by
      rw [run_store P w _ v _ hv, hcell]
      simp [hfr]
    have hb2 : (w.setCell (ad g (off + i)) v).heap[g]? = some (.cells (cur.setIfInBounds (off + i) v) T (0, 0)) := by
      simp [World.setCell, Array.getElem?_modify, ad, hb]
    obtain ⟨w', hr, a1, a2, a3, a4, a5, cur', b1, b2, b3⟩ := run_storeCells g T vs (w.setCell (ad g (off + i)) v) off (i + 1) _ hb2 (by simp; omega) (fun u hu => h1 u (by simp [hu]))
    refine ⟨w', ?_, by rw [a1]; simp, a2, a3, a4, fun k hk => (a5 k hk).trans (Below.heap_setCell w _ v k (by simpa [ad] using hk)), cur', b1, by simpa using b2, fun j => ?_⟩
    · rw [storeCells]
      simp only [Sem.run_bind, ad_add, hst, Result.andThen_ok]
      exact hr
    · rw [b3 j]
      by_cases e : j = off + i
      · subst e
        rw [if_neg (by omega), if_pos (by simp only [List.length_cons]; omega)]
        simp only [Nat.sub_self, List.getElem?_cons_zero]
        rw [Array.getElem?_setIfInBounds_self_of_lt (by omega)]
      · by_cases e2 : off + (i + 1) ≤ j ∧ j < off + (i + 1) + vs.length
        · rw [if_pos e2, if_pos (by simp; omega)]
          obtain ⟨q, hq⟩ : ∃ q, j - (off + i) = q + 1 := ⟨j - (off + i) - 1, by omega⟩
          rw [hq, List.getElem?_cons_succ]
          congr 1
          omega
        · rw [if_neg e2, if_neg (by simp; omega), Array.getElem?_setIfInBounds_ne (by omega)]

theorem VRs.one {m : List Place} {l : List AV} {vs : List Value} (h : VRs m l vs) (h1 : ∀ a ∈ l, a.one = true) : ∀ v ∈ vs, v.oneCell' = true := by
  intro v hv
  obtain ⟨i, hi⟩ := List.getElem?_of_mem hv
  have hlt : i < l.length := by rw [← h.length]; exact (List.getElem?_eq_some_iff.1 hi).1
  obtain ⟨v', e, k⟩ := h.get i _ (List.getElem?_eq_getElem hlt)
  rw [hi] at e
  cases e
  exact k.one (h1 _ (List.getElem_mem hlt))

theorem get_set {α : Type} {l : List α} {i j : Nat} {x y : α} (h : (l.set i x)[j]? = some y) : (j = i ∧ y = x) ∨ (j ≠ i ∧ l[j]? = some y) := by
  by_cases e : j = i
  · subst e
    rw [List.getElem?_set_self'] at h
    cases hl : l[j]? with
    | none => rw [hl] at h; simp at h
    | some z => rw [hl] at h; simp at h; exact .inl ⟨rfl, h.symm⟩
  · rw [List.getElem?_set_ne (by omega)] at h
    exact .inr ⟨e, h⟩

/-- A store into a block that may be written. -/
theorem step_store {P : Program} {m : List Place} {H : Hp} {w : World} (h : Rel m H w) {i : Nat} {b : Blk} {p : Place} (hi : H[i]? = some (some b)) (hp : m[i]? = some p) (hrw : b.rw = true) (o : Nat) (xs : List AV) (vs : List Value)
    (hx : VRs m xs vs) (h1 : ∀ a ∈ xs, a.one = true) (ho : o + xs.length ≤ b.cells.length) :
    ∃ w', (storeCells (ad p.block (p.off + o)) vs).run P w = .ok () w' ∧ Step m H w m (H.set i (some { b with cells := over b.cells o xs })) w' := by
  have hB := h.place hi hp
  obtain ⟨cur, T, fz, hb, hroom, hc⟩ := hB.at_
  obtain ⟨rfl, hr1, hr2⟩ := hroom hrw
  obtain ⟨w', hr, a1, a2, a3, a4, a5, cur', b1, b2, b3⟩ := run_storeCells (P := P) p.block T vs w (p.off + o) 0 cur hb (by rw [hx.length]; omega) (hx.one h1)
  refine ⟨w', hr, Ext.refl m, ⟨by simp [h.len], fun j c hj => ?_, fun j k c d q q' hj hk hq hq' hcw hne => ?_⟩, a2, a3, a4, by omega, fun k hk hn => ?_, fun k hk => ?_⟩
  · rcases get_set hj with ⟨rfl, e⟩ | ⟨hne, hj⟩
    · cases e
      refine ⟨p, hp, hB.sz, fun a ha => ?_, cur', T, (0, 0), b1, fun _ => ⟨rfl, by omega, by rw [over_length _ _ _ ho]; exact hr2⟩, fun j a hj => ?_⟩
      · simp only [over, List.mem_append] at ha
        rcases ha with (ha | ha) | ha
        · exact hB.one a (List.mem_of_mem_take ha)
        · exact h1 a ha
        · exact hB.one a (List.mem_of_mem_drop ha)
      · rw [over_get _ _ _ (by omega)] at hj
        rw [b3]
        split at hj
        · rename_i e
          obtain ⟨v, e2, k⟩ := hx.get _ a hj
          refine ⟨v, ?_, k⟩
          rw [if_pos (by rw [hx.length]; omega)]
          rw [← e2]
          congr 1
          omega
        · rename_i e
          obtain ⟨v, e2, k⟩ := hc j a hj
          exact ⟨v, by rw [if_neg (by rw [hx.length]; omega)]; exact e2, k⟩
    · obtain ⟨q, hq, k⟩ := h.blk j c hj
      exact ⟨q, hq, k.move (Ext.refl m) (a5 _ (fun e => h.inj i j b c p q hi hj hp hq hrw (by omega) e.symm))⟩
  · have hold : ∀ {j : Nat} {c : Blk}, (H.set i (some { b with cells := over b.cells o xs }))[j]? = some (some c) → ∃ c0, H[j]? = some (some c0) ∧ c0.rw = c.rw := by
      intro j c hj
      rcases get_set hj with ⟨rfl, e⟩ | ⟨_, hj⟩
      · cases e
        exact ⟨b, hi, rfl⟩
      · exact ⟨c, hj, rfl⟩
    obtain ⟨c0, hj0, e1⟩ := hold hj
    obtain ⟨d0, hk0, _⟩ := hold hk
    exact h.inj j k c0 d0 q q' hj0 hk0 hq hq' (e1.trans hcw) hne
  · exact a5 k (fun e => hn ⟨i, b, p, hi, hrw, hp, e.symm⟩)
  · rintro ⟨j, c, q, hj, hcw, hq, e⟩
    rcases get_set hj with ⟨rfl, e2⟩ | ⟨_, hj⟩
    · exact ⟨j, b, q, hi, hrw, hq, e⟩
    · exact ⟨j, c, q, hj, hcw, hq, e⟩

/-- A block that is given up: nothing is told of it any more. -/
theorem Rel.kill {m : List Place} {H : Hp} {w : World} (h : Rel m H w) (i : Nat) : Rel m (H.set i none) w := by
  have hold : ∀ {j : Nat} {c : Blk}, (H.set i none)[j]? = some (some c) → H[j]? = some (some c) := by
    intro j c hj
    rcases get_set hj with ⟨_, e⟩ | ⟨_, hj⟩
    · cases e
    · exact hj
  exact ⟨by simp [h.len], fun j c hj => h.blk j c (hold hj), fun j k c d p q hj hk hp hq hcw hne => h.inj j k c d p q (hold hj) (hold hk) hp hq hcw hne⟩
theorem Step.kill {m m' : List Place} {H H' : Hp} {w w' : World} (h : Step m H w m' H' w') (i : Nat) : Step m H w m' (H'.set i none) w' := by
  refine ⟨h.ext, h.rel.kill i, h.os, h.tape, h.output, h.size, h.keep, fun k hk => ?_⟩
  rintro ⟨j, c, p, hj, hcw, hp, e⟩
  rcases get_set hj with ⟨_, e2⟩ | ⟨_, hj⟩
  · cases e2
  · exact h.fp k hk ⟨j, c, p, hj, hcw, hp, e⟩
end Go.Proofs.Ythihphgfblonoaa.Am
