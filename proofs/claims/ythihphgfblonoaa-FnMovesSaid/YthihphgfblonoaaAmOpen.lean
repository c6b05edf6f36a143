/- What a value of a type that was read as data holds, on the abstract heap. No condition. -/
import Derived.Test.YthihphgfblonoaaAm14
import Derived.Deep.Slices
import Derived.DataReads
import Derived.ChangeArms
import Derived.SizedLaws
namespace Go.Proofs.Ythihphgfblonoaa.Am
open Go Go.RowKit Go.ChangeShapes Go.WideShapes
set_option linter.unusedSimpArgs false
set_option linter.unusedVariables false

def AllRo (H : Hp) : Prop := ∀ (i : Nat) (b : Blk), H[i]? = some (some b) → b.rw = false
theorem rel_nil (W : World) : Rel [] [] W := ⟨rfl, fun i b h => by simp at h, fun i j b c p q h => by simp at h⟩
theorem allRo_nil : AllRo [] := fun i b h => by simp at h
theorem Ext.append (m l : List Place) : Ext m (m ++ l) := fun i p h => by rw [List.getElem?_append_left (List.getElem?_eq_some_iff.1 h).1]; exact h
/-- A block that is only read, told of. -/
theorem rel_more {m : List Place} {H : Hp} {W : World} (h : Rel m H W) (hr : AllRo H) {b : Blk} {p : Place} (hb : BlkAt m b p W) (hrw : b.rw = false) : Rel (m ++ [p]) (H ++ [some b]) W ∧ AllRo (H ++ [some b]) := by
  have he := Ext.snoc m p
  have hro : AllRo (H ++ [some b]) := fun i c hi => by
    rcases get_snoc hi with hi | ⟨_, e⟩
    · exact hr i c hi
    · cases e; exact hrw
  refine ⟨⟨by simp [h.len], fun i c hi => ?_, fun i j c d q r hi hj hq hq2 hcw hne => ?_⟩, hro⟩
  · rcases get_snoc hi with hi | ⟨rfl, e⟩
    · obtain ⟨q, hq, k⟩ := h.blk i c hi
      exact ⟨q, he _ _ hq, k.move he rfl⟩
    · cases e
      exact ⟨p, by rw [← h.len]; simp, hb.move he rfl⟩
  · rw [hro i c hi] at hcw
    cases hcw
def OpensA (P : Program) (t : TypeId) (sz : Nat) (S : Hp → List AV → Prop) : Prop :=
  (∀ H L l, S H l → S (H ++ L) l) ∧
  ∀ {E : Type} {enc : TypeId × Value → E} {W : World} {base : Nat} {spare : Nat → Bool} {held : Bool} {fuel : Nat} {cs : List Value} {x : DataW E × List MemPlace}, (∀ b, spare b = true) →
    DataW.trod enc P W base spare held fuel t cs = some x → (∀ n ∈ x.1.weights P t, n ≤ reachBytes) → ∀ (m : List Place) (H : Hp), Rel m H W → AllRo H →
    ∃ m2 H2 l, Rel (m ++ m2) (H ++ H2) W ∧ AllRo (H ++ H2) ∧ VRs (m ++ m2) l cs ∧ l.length = sz ∧ (∀ a ∈ l, a.one = true) ∧ S (H ++ H2) l
def SInt (k : IntKind) (H : Hp) (l : List AV) : Prop := ∃ n, l = [.int k n] ∧ (Lit.int k n).wf = true
def SBool (H : Hp) (l : List AV) : Prop := ∃ b, l = [.bool b]
def SSl (sz B : Nat) (S : Hp → List AV → Prop) (H : Hp) (l : List AV) : Prop := ∃ v es, l = [v] ∧ Row sz H v es ∧ es.length ≤ maxLen ∧ es.length * B ≤ 140737488351232 ∧ ∀ e ∈ es, S H e
def SPair (S1 S2 : Hp → List AV → Prop) (H : Hp) (l : List AV) : Prop := ∃ l1 l2, l = l1 ++ l2 ∧ S1 H l1 ∧ S2 H l2
theorem opensA_int {P : Program} {t : TypeId} {k : IntKind} (ht : P.underlying t = some (.int k)) : OpensA P t 1 (SInt k) := by
  refine ⟨fun H L l h => h, ?_⟩
  intro E enc W base spare held fuel cs x hs h _ m H hR hro
  obtain ⟨n, rfl, _, hw⟩ := DataW.trod_int ht h
  exact ⟨[], [], [.int k n], by simpa using hR, by simpa using hro, ⟨_, _, rfl, rfl, rfl⟩, rfl, by simp [AV.one], n, rfl, hw⟩
theorem opensA_bool {P : Program} {t : TypeId} (ht : P.underlying t = some .bool) : OpensA P t 1 SBool := by
  refine ⟨fun H L l h => h, ?_⟩
  intro E enc W base spare held fuel cs x hs h _ m H hR hro
  obtain ⟨n, rfl, _⟩ := DataW.trod_bool ht h
  exact ⟨[], [], [.bool n], by simpa using hR, by simpa using hro, ⟨_, _, rfl, rfl, rfl⟩, rfl, by simp [AV.one], n, rfl⟩
theorem weights_allA {E : Type} {P : Program} {e : TypeId} : ∀ {l : List (DataW E)} {y : DataW E} {n : Nat}, y ∈ l → n ∈ y.weights P e → n ∈ DataW.weightsAll P e l
  | [], _, _, h, _ => by cases h
  | z :: l, y, n, h, hn => by
    unfold DataW.weightsAll
    rcases List.mem_cons.1 h with rfl | h
    · exact List.mem_append.2 (.inl hn)
    · exact List.mem_append.2 (.inr (weights_allA h hn))
theorem flatten_get {sz : Nat} {es : List (List AV)} (h : ∀ e ∈ es, e.length = sz) (hsz : 0 < sz) {j : Nat} {a : AV} (hj : es.flatten[j]? = some a) : ∃ e, es[j / sz]? = some e ∧ e[j % sz]? = some a := by
  have hlt := (List.getElem?_eq_some_iff.1 hj).1
  rw [flatten_length h] at hlt
  have hd : j / sz < es.length := (Nat.div_lt_iff_lt_mul hsz).2 hlt
  refine ⟨es[j / sz], List.getElem?_eq_getElem hd, ?_⟩
  have h1 := flatten_drop (es := es) (j / sz) h
  have h2 : (es.flatten.drop (j / sz * sz))[j % sz]? = some a := by
    rw [List.getElem?_drop]
    have : j / sz * sz + j % sz = j := by rw [Nat.mul_comm]; exact Nat.div_add_mod j sz
    rw [this]
    exact hj
  rw [h1, List.drop_eq_getElem_cons hd, List.flatten_cons, List.getElem?_append_left (by rw [h _ (List.getElem_mem hd)]; exact Nat.mod_lt _ hsz)] at h2
  exact h2
theorem opensA_slice {P : Program} {t e : TypeId} {sz B : Nat} {S : Hp → List AV → Prop} (ht : P.underlying t = some (.slice e)) (hd : OpensA P e sz S) (hs : P.cellsOf e = sz) (hB : P.bytesOf e = B) (hsz : 0 < sz) : OpensA P t 1 (SSl sz B S) := by
  refine ⟨?_, ?_⟩
  · rintro H L l ⟨v, es, rfl, h1, h2, h3, h4⟩
    exact ⟨v, es, rfl, h1.fr (Fr.app H L), h2, h3, fun e he => hd.1 H L e (h4 e he)⟩
  intro E enc W base spare held fuel cs x hspare h hw m H hR hro
  rcases Go.Deep.open_slice ht h with ⟨rfl, rfl⟩ | ⟨a, len, cap0, cap, n, D, Pl, rfl, hb, hl, hm, hmm, rfl, hx⟩
  · exact ⟨[], [], [.nil], by simpa using hR, by simpa using hro, ⟨_, _, rfl, ⟨none, rfl⟩, rfl⟩, rfl, by simp [AV.one], .nil, [], rfl, ⟨by simp, .inl ⟨rfl, rfl⟩⟩, by simp, by simp, by simp⟩
  · rw [hspare, if_pos rfl] at hmm
    subst hmm
    rw [hs] at hx
    have hw1 : (len + (cap - len)) * B ≤ reachBytes := by
      refine hw _ ?_
      simp only [DataW.weights, ht, hB]
      simp
    have hw2 : ∀ i, i < len → ∀ n ∈ (D i).weights P e, n ≤ reachBytes := by
      intro i hi k hk
      refine hw _ ?_
      simp only [DataW.weights, ht]
      exact List.mem_cons_of_mem _ (List.mem_append.2 (.inl (weights_allA (List.mem_map.2 ⟨i, List.mem_range.2 hi, rfl⟩) hk)))
    by_cases hc : cap = 0
    · subst hc
      obtain rfl : len = 0 := by omega
      exact ⟨[], [], [.nil], by simpa using hR, by simpa using hro, ⟨_, _, rfl, ⟨some a, rfl⟩, rfl⟩, rfl, by simp [AV.one], .nil, [], rfl, ⟨by simp, .inl ⟨rfl, rfl⟩⟩, by simp, by simp, by simp⟩
    · have rows : ∀ k, k ≤ len → ∃ (m2 : List Place) (H2 : Hp) (es : List (List AV)), Rel (m ++ m2) (H ++ H2) W ∧ AllRo (H ++ H2) ∧ es.length = k ∧ (∀ e ∈ es, e.length = sz ∧ (∀ a ∈ e, a.one = true) ∧ S (H ++ H2) e) ∧ ∀ i e, es[i]? = some e → ∃ cs', W.cells? base (a.add (i * sz)) sz = some cs' ∧ VRs (m ++ m2) e cs' := by
        intro k
        induction k with
        | zero => intro _; exact ⟨[], [], [], by simpa using hR, by simpa using hro, rfl, by simp, by simp⟩
        | succ k ih =>
          intro hk
          obtain ⟨m2, H2, es, r1, r2, r3, r4, r5⟩ := ih (by omega)
          obtain ⟨cs', c1, c2⟩ := hx k (by omega)
          obtain ⟨m3, H3, l, q1, q2, q3, q4, q5, q6⟩ := hd.2 hspare c2 (hw2 k (by omega)) (m ++ m2) (H ++ H2) r1 r2
          refine ⟨m2 ++ m3, H2 ++ H3, es ++ [l], by rw [← List.append_assoc, ← List.append_assoc]; exact q1, by rw [← List.append_assoc]; exact q2, by simp [r3], fun e he => ?_, fun i e he => ?_⟩
          · rw [← List.append_assoc]
            rcases List.mem_append.1 he with he | he
            · obtain ⟨a1, a2, a3⟩ := r4 e he
              exact ⟨a1, a2, hd.1 _ _ _ a3⟩
            · simp at he
              subst he
              exact ⟨q4, q5, q6⟩
          · rw [← List.append_assoc]
            rcases get_snoc he with he | ⟨rfl, rfl⟩
            · obtain ⟨cs2, a1, a2⟩ := r5 i e he
              exact ⟨cs2, a1, a2.ext (Ext.append _ _)⟩
            · exact ⟨cs', by rw [r3]; exact c1, q3⟩
      obtain ⟨m2, H2, es, r1, r2, r3, r4, r5⟩ := rows len (Nat.le_refl _)
      obtain ⟨cs0, c1, _⟩ := hx 0 (by omega)
      rw [Nat.zero_mul] at c1
      obtain ⟨_, c2, c3⟩ := World.cells?_some c1
      have c4 := c3 0 hsz
      have e0 : a.add 0 = a := by simp [Addr.add]
      rw [e0, e0] at c4
      have hcell : ∃ cur T fz, W.heap[a.block]? = some (.cells cur T fz) ∧ a.spot = none := by
        rw [List.getElem?_eq_getElem (by omega)] at c4
        unfold World.cell? at c4
        split at c4
        · rename_i cur T fz hcur
          refine ⟨cur, T, fz, hcur, ?_⟩
          cases hsp : a.spot with
          | none => rfl
          | some _ => rw [hsp] at c4; simp at c4
        · cases c4
      obtain ⟨cur, T, fz, hcur, hspot⟩ := hcell
      have ha : a = ad a.block a.off := by
        cases a
        simp only at hspot
        subst hspot
        rfl
      have hlen : ∀ e ∈ es, e.length = sz := fun e he => (r4 e he).1
      have hB : BlkAt (m ++ m2) ⟨sz, false, es.flatten⟩ ⟨a.block, a.off, cap, sz⟩ W := by
        refine ⟨rfl, fun b hb => ?_, cur, T, fz, hcur, (fun h => by cases h), fun j b hj => ?_⟩
        · obtain ⟨e, he, hbe⟩ := List.mem_flatten.1 hb
          exact (r4 e he).2.1 b hbe
        · obtain ⟨e, he, hje⟩ := flatten_get hlen hsz hj
          obtain ⟨cs', a1, a2⟩ := r5 _ e he
          obtain ⟨_, a3, a4⟩ := World.cells?_some a1
          have hmod : j % sz < sz := Nat.mod_lt _ hsz
          obtain ⟨v, hv, hk⟩ := a2.get _ _ hje
          refine ⟨v, ?_, hk⟩
          have a5 := a4 (j % sz) hmod
          rw [hv, ha, ad_add, ad_add, cell_ad hcur] at a5
          have : a.off + j / sz * sz + j % sz = a.off + j := by
            have := Nat.div_add_mod j sz
            rw [Nat.mul_comm] at this
            omega
          rw [this] at a5
          exact a5
      obtain ⟨s1, s2⟩ := rel_more r1 r2 hB rfl
      refine ⟨m2 ++ [⟨a.block, a.off, cap, sz⟩], H2 ++ [some ⟨sz, false, es.flatten⟩], [.sl (m ++ m2).length 0 len], by rw [← List.append_assoc, ← List.append_assoc]; exact s1, by rw [← List.append_assoc]; exact s2, ?_, rfl, by simp [AV.one], ?_⟩
      · refine ⟨_, _, rfl, ⟨⟨a.block, a.off, cap, sz⟩, some a, cap, ?_, rfl, .inl ⟨?_, by simp, by simp; omega⟩⟩, rfl⟩
        · rw [← List.append_assoc]
          simp
        · simp [← ha]
      · rw [← List.append_assoc]
        refine ⟨_, es, rfl, ⟨hlen, .inr ⟨(m ++ m2).length, 0, ⟨sz, false, es.flatten⟩, by rw [r3], ?_, rfl, ?_, ?_⟩⟩, by rw [r3]; unfold maxLen at hm ⊢; omega, by rw [r3]; exact Nat.le_trans (Nat.mul_le_mul_right _ (by omega)) hw1, fun e he => hd.1 _ _ _ (r4 e he).2.2⟩
        · rw [r1.len]
          simp
        · have := flatten_length hlen
          simpa using List.take_of_length_le (by omega)
        · have := flatten_length hlen
          simp [this]
/-- The same of fields, one behind the other. -/
def OpensFA (P : Program) (fs : List Field) (off sz : Nat) (S : Hp → List AV → Prop) : Prop :=
  (∀ H L l, S H l → S (H ++ L) l) ∧
  ∀ {E : Type} {enc : TypeId × Value → E} {W : World} {base : Nat} {spare : Nat → Bool} {held : Bool} {fuel : Nat} {cs : List Value} {xs : List (DataW E × List MemPlace)}, (∀ b, spare b = true) →
    xs.length = fs.length → (∀ (i : Nat) (f : Field), fs[i]? = some f → DataW.trod enc P W base spare held fuel f.type ((cs.drop f.offset).take (P.cellsOf f.type)) = xs[i]?) →
    (∀ n ∈ DataW.weightsEach P (fs.map (·.type)) (xs.map (·.1)), n ≤ reachBytes) → cs.length = off + sz → ∀ (m : List Place) (H : Hp), Rel m H W → AllRo H →
    ∃ m2 H2 l, Rel (m ++ m2) (H ++ H2) W ∧ AllRo (H ++ H2) ∧ VRs (m ++ m2) l (cs.drop off) ∧ l.length = sz ∧ (∀ a ∈ l, a.one = true) ∧ S (H ++ H2) l
theorem opensFA_last {P : Program} {f : Field} {off sz : Nat} {S : Hp → List AV → Prop} (hd : OpensA P f.type sz S) (ho : f.offset = off) (hs : P.cellsOf f.type = sz) : OpensFA P [f] off sz S := by
  refine ⟨hd.1, ?_⟩
  intro E enc W base spare held fuel cs xs hsp hl h hw hc m H hR hro
  match xs, hl with
  | [x], _ =>
    have h0 := h 0 f rfl
    rw [ho, hs, List.take_of_length_le (by simp; omega)] at h0
    exact hd.2 hsp h0 (fun n hn => hw n (by simp [DataW.weightsEach, hn])) m H hR hro
theorem opensFA_cons {P : Program} {f : Field} {fs : List Field} {off off' sz sz' : Nat} {S S' : Hp → List AV → Prop} (hd : OpensA P f.type sz S) (ho : f.offset = off) (hs : P.cellsOf f.type = sz) (hf : OpensFA P fs off' sz' S') (hoff : off' = off + sz) : OpensFA P (f :: fs) off (sz + sz') (SPair S S') := by
  refine ⟨?_, ?_⟩
  · rintro H L l ⟨l1, l2, rfl, h1, h2⟩
    exact ⟨l1, l2, rfl, hd.1 _ _ _ h1, hf.1 _ _ _ h2⟩
  intro E enc W base spare held fuel cs xs hsp hl h hw hc m H hR hro
  match xs, hl with
  | x :: xs, hl =>
    have h0 := h 0 f rfl
    rw [ho, hs] at h0
    obtain ⟨m2, H2, l, q1, q2, q3, q4, q5, q6⟩ := hd.2 hsp h0 (fun n hn => hw n (by simp only [List.map_cons, DataW.weightsEach]; exact List.mem_append.2 (.inl hn))) m H hR hro
    obtain ⟨m3, H3, l', r1, r2, r3, r4, r5, r6⟩ := hf.2 (xs := xs) hsp (by simpa using hl) (fun i g hg => by simpa using h (i + 1) g (by simpa using hg)) (fun n hn => hw n (by simp only [List.map_cons, DataW.weightsEach]; exact List.mem_append.2 (.inr hn))) (by omega) (m ++ m2) (H ++ H2) q1 q2
    refine ⟨m2 ++ m3, H2 ++ H3, l ++ l', by rw [← List.append_assoc, ← List.append_assoc]; exact r1, by rw [← List.append_assoc]; exact r2, ?_, by simp [q4, r4], fun a ha => (List.mem_append.1 ha).elim (q5 a) (r5 a), ?_⟩
    · have e : cs.drop off = (cs.drop off).take sz ++ cs.drop off' := by
        rw [hoff, ← List.drop_drop]
        exact (List.take_append_drop _ _).symm
      rw [e, ← List.append_assoc]
      exact (q3.ext (Ext.append _ _)).append r3
    · rw [← List.append_assoc]
      exact ⟨l, l', rfl, hd.1 _ _ _ q6, r6⟩
theorem opensA_struct {P : Program} {t : TypeId} {fs : Array Field} {sz : Nat} {S : Hp → List AV → Prop} (ht : P.underlying t = some (.struct fs)) (hf : OpensFA P fs.toList 0 sz S) (hs : P.cellsOf t = sz) : OpensA P t sz S := by
  refine ⟨hf.1, ?_⟩
  intro E enc W base spare held fuel cs x hsp h hw m H hR hro
  obtain ⟨xs, n, rfl, rfl, hc, hl, hx⟩ := DataW.trod_struct ht h
  obtain ⟨m2, H2, l, q⟩ := hf.2 (cs := cs) (xs := xs) hsp (by simpa using hl) (fun i f hi => hx i f (by simpa using hi)) (fun k hk => hw k (by simpa only [DataW.weights, ht] using hk)) (by omega) m H hR hro
  exact ⟨m2, H2, l, by simpa using q⟩
/-- An argument's own weight. -/
theorem weight_ofA {E : Type} {P : Program} {ts : List TypeId} {ds : List (DataW E)} {j : Nat} {t : TypeId} {d : DataW E} (hsz : (DataW.weightsEach P ts ds).all (· ≤ reachBytes) = true) (ht : ts[j]? = some t) (hd : ds[j]? = some d) : ∀ n ∈ d.weights P t, n ≤ reachBytes := by
  intro n hn
  have := List.all_eq_true.1 hsz n (DataW.weights_mem_each ht hd n hn)
  simpa using this
theorem map_of_all {α : Type} {enc : α → List AV} {q : α → Prop} : ∀ {es : List (List AV)}, (∀ e ∈ es, ∃ x, e = enc x ∧ q x) → ∃ xs : List α, es = xs.map enc ∧ ∀ x ∈ xs, q x
  | [], _ => ⟨[], rfl, by simp⟩
  | e :: es, h => by
    obtain ⟨x, rfl, hx⟩ := h e (by simp)
    obtain ⟨xs, rfl, hxs⟩ := map_of_all (es := es) fun e he => h e (by simp [he])
    exact ⟨x :: xs, rfl, fun y hy => (List.mem_cons.1 hy).elim (fun e => e ▸ hx) (hxs y)⟩
end Go.Proofs.Ythihphgfblonoaa.Am
