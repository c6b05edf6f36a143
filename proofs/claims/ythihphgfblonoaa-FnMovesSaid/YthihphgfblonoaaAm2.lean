/- What append, copy and clear do to the abstract heap. No condition. -/
import Derived.Test.YthihphgfblonoaaAm1
import Derived.Laws.Append
import Derived.Laws.Entries
namespace Go.Proofs.Ythihphgfblonoaa.Am
open Go Go.RowKit

/-- The cells of a slice, and how many elements. -/
def rowOf (sz : Nat) (H : Hp) : AV → Option (List AV × Nat)
  | .nil => some ([], 0)
  | .sl b o len => match H[b]? with
    | some (some blk) => if blk.sz = sz ∧ (o + len) * sz ≤ blk.cells.length then some ((blk.cells.drop (o * sz)).take (len * sz), len) else none
    | _ => none
  | _ => none
theorem rowOf_one {m : List Place} {H : Hp} {w : World} (h : Rel m H w) {sz : Nat} {x : AV} {news : List AV} {n : Nat} (hr : rowOf sz H x = some (news, n)) : ∀ a ∈ news, a.one = true := by
  cases x <;> simp only [rowOf] at hr <;> try cases hr
  · simp
  · rename_i b o len
    split at hr
    · rename_i blk hb
      split at hr
      · cases hr
        obtain ⟨p, hp, k⟩ := h.blk _ _ hb
        exact fun a ha => k.one a (List.mem_of_mem_drop (List.mem_of_mem_take ha))
      · cases hr
    · cases hr
theorem rowOf_length {sz : Nat} {H : Hp} {x : AV} {news : List AV} {n : Nat} (hr : rowOf sz H x = some (news, n)) : news.length = n * sz := by
  cases x <;> simp only [rowOf] at hr <;> try cases hr
  · simp
  · split at hr
    · split at hr
      · rename_i hc
        cases hr
        simp only [List.length_take, List.length_drop]
        have := hc.2
        rw [Nat.add_mul] at this
        omega
      · cases hr
    · cases hr
/-- A slice that is read, in the model's words. -/
theorem rowOf_run {P : Program} {m : List Place} {H : Hp} {w : World} (h : Rel m H w) {sz : Nat} {x : AV} {xv : Value} {news : List AV} {n : Nat} (hx : VR m x xv) (hr : rowOf sz H x = some (news, n)) :
    ∃ vs, VRs m news vs ∧ (Builtin.lenOf xv).run P w = .ok n w ∧ ∀ d k, k ≤ n → (Builtin.firstCells sz k xv).run P { w with drawn := d } = .ok (vs.take (k * sz)).toArray { w with drawn := d } := by
  cases x <;> simp only [rowOf] at hr <;> try cases hr
  · obtain ⟨A, rfl⟩ := hx
    refine ⟨[], rfl, rfl, fun d k hk => ?_⟩
    obtain rfl : k = 0 := by omega
    cases A <;> simp [Builtin.firstCells, loadCells, loadCellsFrom]
  · rename_i b o len
    split at hr
    · rename_i blk hb
      split at hr
      · rename_i hc
        obtain ⟨p, A, c, hp, rfl, hA⟩ := hx
        have hsz := (h.place hb hp).sz
        have hmul : (o + len) * sz = o * sz + len * sz := Nat.add_mul _ _ _
        obtain ⟨hc1, hc2⟩ := hc
        rw [hmul] at hc2
        cases hr
        obtain ⟨vs, hv1, hv2⟩ := h.load hb hp (o * sz) (n * sz) hc2
        refine ⟨vs, hv2, rfl, fun d k hk => ?_⟩
        have hvl := hv2.length
        simp only [List.length_take, List.length_drop] at hvl
        have hkn : k * sz ≤ n * sz := Nat.mul_le_mul_right _ hk
        rcases hA with ⟨rfl, rfl, hcap⟩ | ⟨rfl, rfl, hcap⟩
        · refine run_firstCells_some { w with drawn := d } sz k _ _ _ _ (by simp only [List.length_take]; omega) (fun j v hj => ?_)
          rw [List.getElem?_take] at hj
          split at hj
          · have := hv1 j v hj
            rw [hsz, hc1]
            exact this
          · cases hj
        · obtain rfl : k = 0 := by omega
          cases A <;> simp [Builtin.firstCells, loadCells, loadCellsFrom]
      · cases hr
    · cases hr

/-- An append: in place where the block is known to have room; else a new block, and the old one is given up. -/
def appendA (sz bytes : Nat) (H : Hp) (s x : AV) : Option (AV × Hp) :=
  match rowOf sz H x with
  | none => none
  | some (news, n) => match s with
    | .nil => if n = 0 then some (.nil, H) else if n * bytes ≤ 140737488355328 ∧ n ≤ 9223372036854775807 then some (.sl H.length 0 n, H ++ [some ⟨sz, true, news⟩]) else none
    | .sl b o len => match H[b]? with
      | some (some blk) =>
        if 0 < sz ∧ blk.sz = sz ∧ blk.rw = true ∧ (o + len) * sz ≤ blk.cells.length then
          if n = 0 then some (.sl b o len, H)
          else if (o + len + n) * sz ≤ blk.cells.length then some (.sl b o (len + n), H.set b (some { blk with cells := over blk.cells ((o + len) * sz) news }))
          else if (len + n) * bytes ≤ 140737488355328 ∧ len + n ≤ 9223372036854775807 then some (.sl H.length 0 (len + n), H.set b none ++ [some ⟨sz, true, (blk.cells.drop (o * sz)).take (len * sz) ++ news⟩])
          else none
        else none
      | _ => none
    | _ => none

/-- The new block behind an append that had room in memory, told as a block of its own. -/
theorem step_regrow {m : List Place} {H : Hp} {w w' : World} (h : Rel m H w) {b : Nat} {blk : Blk} {p : Place} (hb : H[b]? = some (some blk)) (hp : m[b]? = some p) (hrw : blk.rw = true) (o : Nat) (cells : List AV) (ho : o ≤ p.cap)
    (hother : ∀ k, k ≠ p.block → w'.heap[k]? = w.heap[k]?) (hsize : w'.heap.size = w.heap.size) (hos : w'.os = w.os) (htp : w'.tape = w.tape) (hout : w'.output = w.output)
    (hone : ∀ a ∈ cells, a.one = true) {cur' : Array Value} {T : TypeId} (hb' : w'.heap[p.block]? = some (.cells cur' T (0, 0))) (hroom : p.off + p.cap * p.sz ≤ cur'.size) (hl : cells.length ≤ (p.cap - o) * p.sz)
    (hc : ∀ (j : Nat) (a : AV), cells[j]? = some a → ∃ v, cur'[p.off + o * p.sz + j]? = some v ∧ VR m a v) :
    Step m H w (m ++ [⟨p.block, p.off + o * p.sz, p.cap - o, p.sz⟩]) (H.set b none ++ [some ⟨p.sz, true, cells⟩]) w' := by
  have he := Ext.snoc m ⟨p.block, p.off + o * p.sz, p.cap - o, p.sz⟩
  have hold : ∀ {j : Nat} {c : Blk}, (H.set b none)[j]? = some (some c) → j ≠ b ∧ H[j]? = some (some c) := by
    intro j c hj
    rcases get_set hj with ⟨_, e⟩ | ⟨hne, hj⟩
    · cases e
    · exact ⟨hne, hj⟩
  have hlen : (H.set b none).length = m.length := by simp [h.len]
  have hfp : ∀ k, FP (m ++ [⟨p.block, p.off + o * p.sz, p.cap - o, p.sz⟩]) (H.set b none ++ [some ⟨p.sz, true, cells⟩]) k → FP m H k := by
    rintro k ⟨i, c, q, hi, hcw, hq, e⟩
    rcases get_snoc hi with hi | ⟨rfl, e2⟩
    · obtain ⟨hne, hi⟩ := hold hi
      obtain ⟨q', hq', k'⟩ := h.blk i c hi
      rw [he _ _ hq'] at hq
      cases hq
      exact ⟨i, c, _, hi, hcw, hq', e⟩
    · rw [hlen] at hq
      simp at hq
      subst hq
      exact ⟨b, blk, p, hb, hrw, hp, e⟩
  have hprod : o * p.sz + (p.cap - o) * p.sz = p.cap * p.sz := by rw [← Nat.add_mul]; congr 1; omega
  refine ⟨he, ⟨by simp [h.len], fun i c hi => ?_, fun i j c d q r hi hj hq hr hcw hne => ?_⟩, hos, htp, hout, by omega, fun k hk hn => hother k (fun e => hn ⟨b, blk, p, hb, hrw, hp, e.symm⟩), fun k _ f => hfp k f⟩
  · rcases get_snoc hi with hi | ⟨rfl, e⟩
    · obtain ⟨hne, hi⟩ := hold hi
      obtain ⟨q, hq, k⟩ := h.blk i c hi
      exact ⟨q, he _ _ hq, k.move he (hother _ (fun e => h.inj b i blk c p q hb hi hp hq hrw (by omega) e.symm))⟩
    · cases e
      refine ⟨⟨p.block, p.off + o * p.sz, p.cap - o, p.sz⟩, by rw [hlen]; simp, rfl, hone, cur', T, (0, 0), hb', fun _ => ⟨rfl, by simp only; omega, hl⟩, fun j a hj => ?_⟩
      obtain ⟨v, e, k⟩ := hc j a hj
      exact ⟨v, e, k.ext he⟩
  · rcases get_snoc hi with hi | ⟨rfl, e1⟩
    · obtain ⟨hne1, hi⟩ := hold hi
      obtain ⟨q', hq', _⟩ := h.blk i c hi
      rw [he _ _ hq'] at hq
      cases hq
      rcases get_snoc hj with hj | ⟨rfl, e2⟩
      · obtain ⟨hne2, hj⟩ := hold hj
        obtain ⟨r', hr', _⟩ := h.blk j d hj
        rw [he _ _ hr'] at hr
        cases hr
        exact h.inj i j c d _ _ hi hj hq' hr' hcw hne
      · rw [hlen] at hr
        simp at hr
        subst hr
        exact fun e => h.inj b i blk c p _ hb hi hp hq' hrw (by omega) e.symm
    · rw [hlen] at hq
      simp at hq
      subst hq
      rcases get_snoc hj with hj | ⟨rfl, e2⟩
      · obtain ⟨hne2, hj⟩ := hold hj
        obtain ⟨r', hr', _⟩ := h.blk j d hj
        rw [he _ _ hr'] at hr
        cases hr
        exact h.inj b j blk d p _ hb hj hp hr' hrw (by omega)
      · exact absurd rfl hne

theorem VRs.toArray_take {m : List Place} {l : List AV} {vs : List Value} (h : VRs m l vs) {n : Nat} (hn : l.length = n) : vs.take n = vs := List.take_of_length_le (by rw [h.length]; omega)

/-- The model's append meets the abstract one. -/
theorem append_sound {P : Program} {m : List Place} {H : Hp} {w : World} (h : Rel m H w) {t t2 ty e e2 : TypeId} {i : TypeInfo} {z : Value} (ht : P.underlying t = some (.slice e)) (ht2 : P.underlying t2 = some (.slice e2)) (hi : P.info? e = some i) (hz : i.zero = some z) (hzs : z.cells.size = i.size)
    {s x : AV} {sv xv : Value} (hs : VR m s sv) (hx : VR m x xv) {v : AV} {H' : Hp} (ha : appendA i.size i.bytes H s x = some (v, H')) :
    ∃ v' w' m', (Builtin.append_ #[t, t2] ty #[sv, xv]).run P w = .ok v' w' ∧ VR m' v v' ∧ Step m H w m' H' w' := by
  unfold appendA at ha
  cases hr : rowOf i.size H x with
  | none => rw [hr] at ha; cases ha
  | some q =>
    obtain ⟨news, n⟩ := q
    rw [hr] at ha
    simp only at ha
    obtain ⟨vs, hv, hlen, hfc⟩ := rowOf_run (P := P) h hx hr
    have h1 := rowOf_one h hr
    have hnl := rowOf_length hr
    have hfcn := fun d => hfc d n (Nat.le_refl _)
    rw [hv.toArray_take hnl] at hfcn
    have hd := (Step.drew h).rel
    have hgrow : ∀ (base : Option Addr) (sLen sCap : Nat) (olds : List Value), sCap < sLen + n → sLen + n ≤ 9223372036854775807 → (sLen + n) * i.bytes ≤ 140737488355328 →
        (Builtin.firstCells i.size sLen (.slice base sLen sCap)).run P { w with drawn := w.drawn + 1 } = .ok olds.toArray { w with drawn := w.drawn + 1 } →
        (Builtin.append_ #[t, t2] ty #[.slice base sLen sCap, xv]).run P w =
          .ok (.slice (some ⟨w.heap.size, 0, none⟩) (sLen + n) (grownCap w (sLen + n) sCap e)) (World.alloc { w with drawn := w.drawn + 1 } (.cells (olds.toArray ++ vs.toArray ++ Builtin.zeroCells z.cells (grownCap w (sLen + n) sCap e - (sLen + n))) e)) := by
      intro base sLen sCap olds hlt hmax hby ho
      have hfit := growslice_fits hlt hby
      have h48 : ¬ (281474976710656 < Builtin.nextslicecap (sLen + n) sCap * i.bytes) := by omega
      have h63 : ¬ (9223372036854775807 < ((sLen + n : Nat) : Int)) := by omega
      have hroom : ¬ (sLen + n ≤ sCap) := by omega
      have h63' : ¬ (9223372036854775807 < (sLen : Int) + n) := by omega
      have ho' : (Builtin.firstCells i.size sLen (.slice base sLen sCap)).run P w.drew = .ok olds.toArray w.drew := ho
      have hn' : (Builtin.firstCells i.size n xv).run P w.drew = .ok vs.toArray w.drew := hfcn _
      simp only [Builtin.append_]
      simp [run_underlying ht, run_underlying ht2, sizeOf, typeInfo, hi, hlen, hroom, h48, zeroValue, hz, newRow, Question.forced, grownCap, ho', hn', h63']
      exact congrArg (fun c => w.drew.alloc (.cells c e)) (by rw [← Array.append_assoc]; simp)
    have hnew : ∀ (cells : List AV) (olds : List Value) (sLen sCap : Nat), VRs m cells olds → (∀ a ∈ cells, a.one = true) → cells.length = sLen * i.size → sLen + n ≤ 9223372036854775807 →
        ∃ m', VR m' (.sl H.length 0 (sLen + n)) (.slice (some ⟨w.heap.size, 0, none⟩) (sLen + n) (grownCap w (sLen + n) sCap e)) ∧
          Step m H w m' (H ++ [some ⟨i.size, true, cells ++ news⟩]) (World.alloc { w with drawn := w.drawn + 1 } (.cells (olds.toArray ++ vs.toArray ++ Builtin.zeroCells z.cells (grownCap w (sLen + n) sCap e - (sLen + n))) e)) := by
      intro cells olds sLen sCap ho h1o hlo hmax
      have hge := grownCap_ge w (sLen + n) sCap e
      have hsz : (olds.toArray ++ vs.toArray ++ Builtin.zeroCells z.cells (grownCap w (sLen + n) sCap e - (sLen + n))).size = grownCap w (sLen + n) sCap e * i.size := by
        simp only [Array.size_append, List.size_toArray, size_zeroCells, hzs, ho.length, hv.length, hlo, hnl]
        rw [← Nat.add_mul, ← Nat.add_mul]
        congr 1
        omega
      have hst := step_new hd ⟨i.size, true, cells ++ news⟩ (olds.toArray ++ vs.toArray ++ Builtin.zeroCells z.cells (grownCap w (sLen + n) sCap e - (sLen + n))) e (grownCap w (sLen + n) sCap e)
        ⟨olds ++ vs, _, by simp; rfl, ho.append hv⟩ (by intro a ha; rcases List.mem_append.1 ha with ha | ha; exact h1o a ha; exact h1 a ha) (by rw [hsz]; exact Nat.le_refl _) (by
          simp only [List.length_append, hlo, hnl]
          rw [← Nat.add_mul]
          exact Nat.mul_le_mul_right _ hge)
      refine ⟨_, ⟨_, _, _, by rw [← h.len]; simp; rfl, rfl, .inl ⟨by simp [ad], rfl, by simpa using hge⟩⟩, (Step.drew h).trans hst⟩
    cases s with
    | nil =>
      obtain ⟨A, rfl⟩ := hs
      simp only at ha
      by_cases e0 : n = 0
      · rw [if_pos e0] at ha
        cases ha
        subst e0
        have h0 := hfc w.drawn 0 (Nat.le_refl _)
        simp only [Nat.zero_mul, List.take_zero] at h0
        have h0' : (Builtin.firstCells i.size 0 xv).run P w = .ok #[] w := h0
        refine ⟨.slice A 0 0, w, m, ?_, ⟨A, rfl⟩, Step.refl h⟩
        cases A <;> simp [Builtin.append_, run_underlying ht, run_underlying ht2, sizeOf, typeInfo, hi, hlen, h0', storeCells]
      · rw [if_neg e0] at ha
        split at ha
        · rename_i hc
          cases ha
          obtain ⟨m', hv', hst⟩ := hnew [] [] 0 0 rfl (by simp) (by simp) (by omega)
          simp only [Nat.zero_add, List.nil_append] at hv' hst
          have hg := hgrow A 0 0 [] (by omega) (by omega) (by simpa using hc.1) (by cases A <;> simp [Builtin.firstCells, loadCells, loadCellsFrom])
          simp only [Nat.zero_add] at hg
          exact ⟨_, _, m', hg, hv', hst⟩
        · cases ha
    | sl b o len =>
      obtain ⟨p, A, c, hp, rfl, hA⟩ := hs
      simp only at ha
      cases hb : H[b]? with
      | none => rw [hb] at ha; cases ha
      | some ob =>
        cases ob with
        | none => rw [hb] at ha; cases ha
        | some blk =>
          rw [hb] at ha
          simp only at ha
          split at ha
          · rename_i hc
            obtain ⟨hs0, hsz, hrw, hlen2⟩ := hc
            have hB := h.place hb hp
            have hpsz : p.sz = i.size := hB.sz.trans hsz
            obtain ⟨cur, T, fz, hcur, hroomB, hcB⟩ := hB.at_
            obtain ⟨rfl, hr1, hr2⟩ := hroomB hrw
            rw [hpsz] at hr1 hr2
            by_cases e0 : n = 0
            · rw [if_pos e0] at ha
              cases ha
              subst e0
              have h0 := hfc w.drawn 0 (Nat.le_refl _)
              simp only [Nat.zero_mul, List.take_zero] at h0
              have h0' : (Builtin.firstCells i.size 0 xv).run P w = .ok #[] w := h0
              have hle : len ≤ c := by
                rcases hA with ⟨_, rfl, h2⟩ | ⟨rfl, rfl, _⟩ <;> omega
              refine ⟨.slice A len c, w, m, ?_, ⟨p, A, c, hp, rfl, hA⟩, Step.refl h⟩
              cases A <;> simp [Builtin.append_, run_underlying ht, run_underlying ht2, sizeOf, typeInfo, hi, hlen, h0', hle, storeCells]
            · rw [if_neg e0] at ha
              split at ha
              · rename_i hin
                cases ha
                have hcap : o + len + n ≤ p.cap := Nat.le_of_mul_le_mul_right (Nat.le_trans hin hr2) hs0
                rcases hA with ⟨rfl, rfl, h2⟩ | ⟨rfl, rfl, h2⟩
                · have hprod : (o + len + n) * i.size = (o + len) * i.size + n * i.size := Nat.add_mul _ _ _
                  obtain ⟨w', hrun, hst⟩ := step_store (P := P) h hb hp hrw ((o + len) * i.size) news vs hv h1 (by rw [hnl, ← hprod]; exact hin)
                  have hroom : len + n ≤ p.cap - o := by omega
                  have hfw : (Builtin.firstCells i.size n xv).run P w = .ok vs.toArray w := hfcn w.drawn
                  have hadd : (ad p.block (p.off + o * p.sz)).add (len * i.size) = ad p.block (p.off + (o + len) * i.size) := by
                    rw [ad_add, hpsz, Nat.add_mul]
                    congr 1
                    omega
                  refine ⟨.slice (some (ad p.block (p.off + o * p.sz))) (len + n) (p.cap - o), w', m, ?_, ⟨p, _, _, hp, rfl, .inl ⟨rfl, rfl, by omega⟩⟩, hst⟩
                  simp [Builtin.append_, run_underlying ht, run_underlying ht2, sizeOf, typeInfo, hi, hlen, hroom, hfw, hadd, hrun]
                · omega
              · rename_i hin
                split at ha
                · rename_i hbd
                  cases ha
                  have hcl := h.load hb hp (o * i.size) (len * i.size) (by rw [← Nat.add_mul]; exact hlen2)
                  obtain ⟨olds, ho1, ho2⟩ := hcl
                  have hol : ((blk.cells.drop (o * i.size)).take (len * i.size)).length = len * i.size := by
                    simp only [List.length_take, List.length_drop]
                    rw [Nat.add_mul] at hlen2
                    omega
                  have h1o : ∀ a ∈ (blk.cells.drop (o * i.size)).take (len * i.size), a.one = true := fun a ha => hB.one a (List.mem_of_mem_drop (List.mem_of_mem_take ha))
                  have hbl : b < H.length := (List.getElem?_eq_some_iff.1 hb).1
                  by_cases hroom : len + n ≤ c
                  · rcases hA with ⟨rfl, rfl, h2⟩ | ⟨rfl, rfl, h2⟩
                    · have hprod : p.cap * i.size = o * i.size + (len * i.size + (n * i.size + (p.cap - o - len - n) * i.size)) := by
                        rw [← Nat.add_mul, ← Nat.add_mul, ← Nat.add_mul]
                        congr 1
                        omega
                      obtain ⟨w', hrun, a1, a2, a3, a4, a5, cur', b1, b2, b3⟩ := run_storeCells (P := P) p.block T vs w (p.off + (o + len) * i.size) 0 cur hcur (by rw [hv.length, hnl, Nat.add_mul]; omega) (hv.one h1)
                      have hfw : (Builtin.firstCells i.size n xv).run P w = .ok vs.toArray w := hfcn w.drawn
                      have hadd : (ad p.block (p.off + o * p.sz)).add (len * i.size) = ad p.block (p.off + (o + len) * i.size) := by
                        rw [ad_add, hpsz, Nat.add_mul]
                        congr 1
                        omega
                      have hst := step_regrow h hb hp hrw o ((blk.cells.drop (o * i.size)).take (len * i.size) ++ news) (by omega) a5 a1 a2 a3 a4 (by
                        intro a ha
                        rcases List.mem_append.1 ha with ha | ha
                        · exact h1o a ha
                        · exact h1 a ha) b1 (by rw [b2, hpsz]; exact hr1) (by
                          rw [List.length_append, hol, hnl, hpsz, ← Nat.add_mul]
                          exact Nat.mul_le_mul_right _ (by omega)) (by
                        intro j a hj
                        rw [hpsz, b3]
                        by_cases hlt : j < len * i.size
                        · rw [List.getElem?_append_left (by omega)] at hj
                          obtain ⟨v, e, k⟩ := ho2.get j a hj
                          rw [List.getElem?_take, if_pos hlt, List.getElem?_drop] at hj
                          obtain ⟨v2, e2, k2⟩ := hcB _ a hj
                          refine ⟨v2, ?_, k2⟩
                          rw [if_neg (by rw [Nat.add_mul]; omega), Nat.add_assoc]
                          exact e2
                        · rw [List.getElem?_append_right (by omega), hol] at hj
                          obtain ⟨v, e, k⟩ := hv.get _ a hj
                          refine ⟨v, ?_, k⟩
                          have := (List.getElem?_eq_some_iff.1 e).1
                          rw [if_pos (by rw [Nat.add_mul]; omega), ← e]
                          congr 1
                          rw [Nat.add_mul]
                          omega)
                      rw [hpsz] at hst
                      refine ⟨.slice (some (ad p.block (p.off + o * p.sz))) (len + n) (p.cap - o), w', _, ?_, ?_, hst⟩
                      · simp [Builtin.append_, run_underlying ht, run_underlying ht2, sizeOf, typeInfo, hi, hlen, hroom, hfw, hadd, hrun]
                      · exact ⟨_, _, _, by rw [← h.len]; simp; rfl, rfl, .inl ⟨by simp [hpsz], rfl, by simpa using hroom⟩⟩
                    · omega
                  · have hfo : (Builtin.firstCells i.size len (.slice A len c)).run P { w with drawn := w.drawn + 1 } = .ok olds.toArray { w with drawn := w.drawn + 1 } := by
                      rcases hA with ⟨rfl, rfl, h2⟩ | ⟨rfl, rfl, h2⟩
                      · refine run_firstCells_some { w with drawn := w.drawn + 1 } i.size len _ _ _ olds (by rw [ho2.length, hol]) (fun j v hj => ?_)
                        have := ho1 j v hj
                        rw [hpsz]
                        exact this
                      · have : olds = [] := List.eq_nil_of_length_eq_zero (by rw [ho2.length, hol]; simp)
                        subst this
                        cases A <;> simp [Builtin.firstCells, loadCells, loadCellsFrom]
                    have hg := hgrow A len c olds (by omega) hbd.2 hbd.1 hfo
                    obtain ⟨m', hv', hst⟩ := hnew _ olds len c ho2 h1o hol hbd.2
                    have hst2 := hst.kill b
                    rw [List.set_append_left _ _ hbl] at hst2
                    exact ⟨_, _, m', hg, hv', hst2⟩
                · cases ha
          · cases ha
    | _ => cases ha
end Go.Proofs.Ythihphgfblonoaa.Am
