/- Code and flows that run on words, told plainly. No condition. -/
import Derived.Test.YtdbnokeegocpbaaGreatLFactMath
namespace Go.Proofs.YtdbnokeegocpbaaGreat.Am
open Go Go.RowKit
set_option linter.unusedSimpArgs false
set_option linter.unusedVariables false

def wd (V : List Int) (i : Int) : Int := V.getD i.toNat 0
def GoodV (V : List Int) : Prop := V.length = 8 ∧ ∀ x ∈ V, 0 ≤ x ∧ x ≤ 65535
def valI (x : Ins) (V : List Int) : Int := if x.op = 1 then x.n else if x.op = 2 then wd V x.a else doI x.op (wd V x.a) (wd V x.b)
def runC : List Ins → List Int → List Int × List Int
  | [], V => ([], V)
  | x :: l, V => if x.op = 8 then (wd V x.a :: (runC l V).1, (runC l V).2) else runC l (V.set x.dst.toNat (valI x V))
theorem wd_get {V : List Int} (h : V.length = 8) {i : Int} (hi : Nm i) : V[i.toNat]? = some (wd V i) := by
  unfold Nm at hi
  rw [wd, List.getD_eq_getElem?_getD, List.getElem?_eq_getElem (by omega)]
  rfl
theorem wd_good {V : List Int} (h : GoodV V) {i : Int} (hi : Nm i) : 0 ≤ wd V i ∧ wd V i ≤ 65535 := h.2 _ (List.mem_of_getElem? (wd_get h.1 hi))
theorem GoodV.set {V : List Int} (h : GoodV V) (i : Nat) {y : Int} (hy : 0 ≤ y ∧ y ≤ 65535) : GoodV (V.set i y) := ⟨by simpa using h.1, fun r hr => by
  rcases List.mem_or_eq_of_mem_set hr with hr | rfl
  · exact h.2 r hr
  · exact hy⟩
theorem valI_good {V : List Int} (h : GoodV V) {x : Ins} (hx : GoodI x) : 0 ≤ valI x V ∧ valI x V ≤ 65535 := by
  unfold valI
  split
  · rcases hx with g | g | g | g
    · exact g.2.2.2.2
    all_goals omega
  split
  · rcases hx with g | g | g | g
    · omega
    · exact wd_good h g.2.2.1
    · omega
    · omega
  · exact doI_word
theorem runC_good : ∀ (l : List Ins) {V : List Int}, (∀ x ∈ l, GoodI x) → GoodV V → GoodV (runC l V).2 ∧ (runC l V).1.length ≤ l.length
  | [], V, _, h => ⟨h, by simp [runC]⟩
  | x :: l, V, hl, h => by
    rw [runC]
    split
    · have := runC_good l (V := V) (fun y hy => hl y (by simp [hy])) h
      exact ⟨this.1, by simp; exact this.2⟩
    · have := runC_good l (fun y hy => hl y (by simp [hy])) (h.set x.dst.toNat (valI_good h (hl x (by simp))))
      exact ⟨this.1, by simp; omega⟩
theorem runC_len : ∀ (l : List Ins) (V : List Int), (runC l V).2.length = V.length
  | [], V => rfl
  | x :: l, V => by
    rw [runC]
    split
    · exact runC_len l V
    · rw [runC_len l]; simp
abbrev noB : Bk := ⟨[], 0, -1, -1⟩
def blkAt (f : List Bk) (i : Int) : Bk := f.getD i.toNat noB
def goOn (b : Bk) (V : List Int) : Int := if wd V b.test ≠ 0 then b.thn else b.els
/-- What is told, the words at the end, the blocks gone through, and whether it ended. -/
def runFl (f : List Bk) : Nat → Int → List Int → List Int × List Int × List Int × Bool
  | n, at_, V => if at_ < 0 then ([], V, [], true) else
    match n with
    | 0 => ([], V, [], false)
    | n + 1 =>
      let b := blkAt f at_
      let c := runC b.code V
      let r := runFl f n (goOn b c.2) c.2
      (c.1 ++ r.1, r.2.1, at_ :: r.2.2.1, r.2.2.2)
theorem goOn_fit {f : List Bk} (hg : GoodF f) {b : Bk} (hb : b ∈ f) (V : List Int) : -1 ≤ goOn b V ∧ goOn b V ≤ (f.length : Int) - 1 := by
  have := hg.2 b hb
  unfold goOn
  split
  · exact this.2.2.1
  · exact this.2.2.2
theorem blk_get {f : List Bk} {i : Int} (h0 : 0 ≤ i) (h1 : i ≤ (f.length : Int) - 1) : f[i.toNat]? = some (blkAt f i) ∧ blkAt f i ∈ f := by
  have : i.toNat < f.length := by omega
  have e : blkAt f i = f[i.toNat] := by unfold blkAt; rw [List.getD_eq_getElem?_getD, List.getElem?_eq_getElem this]; rfl
  rw [e]
  exact ⟨List.getElem?_eq_getElem this, List.getElem_mem this⟩
theorem runFl_neg (f : List Bk) (n : Nat) {i : Int} (h : i < 0) (V : List Int) : runFl f n i V = ([], V, [], true) := by
  cases n <;> simp [runFl, h]
theorem runFl_none (f : List Bk) {i : Int} (h : ¬ i < 0) (V : List Int) : runFl f 0 i V = ([], V, [], false) := by
  simp [runFl, h]
theorem runFl_more (f : List Bk) (n : Nat) {i : Int} (h : ¬ i < 0) (V : List Int) : runFl f (n + 1) i V = ((runC (blkAt f i).code V).1 ++ (runFl f n (goOn (blkAt f i) (runC (blkAt f i).code V).2) (runC (blkAt f i).code V).2).1,
    (runFl f n (goOn (blkAt f i) (runC (blkAt f i).code V).2) (runC (blkAt f i).code V).2).2.1,
    i :: (runFl f n (goOn (blkAt f i) (runC (blkAt f i).code V).2) (runC (blkAt f i).code V).2).2.2.1,
    (runFl f n (goOn (blkAt f i) (runC (blkAt f i).code V).2) (runC (blkAt f i).code V).2).2.2.2) := by
  rw [runFl, if_neg h]
theorem runFl_few {f : List Bk} (hg : GoodF f) : ∀ (n : Nat) (i : Int) (V : List Int), i ≤ (f.length : Int) - 1 → GoodV V → (runFl f n i V).1.length ≤ 30 * n ∧ (runFl f n i V).2.2.1.length ≤ n ∧ GoodV (runFl f n i V).2.1 ∧ ∀ k ∈ (runFl f n i V).2.2.1, 0 ≤ k ∧ k ≤ (f.length : Int) - 1
  | n, i, V, hi, hV => by
    by_cases h : i < 0
    · rw [runFl_neg f n h]; simp [hV]
    match n with
    | 0 => rw [runFl_none f h]; simp [hV]
    | n + 1 =>
      obtain ⟨h1, h2⟩ := blk_get (by omega) hi
      have hb := hg.2 _ h2
      have hc := runC_good (blkAt f i).code hb.1.2 hV
      have ih := runFl_few hg n (goOn (blkAt f i) (runC (blkAt f i).code V).2) _ (goOn_fit hg h2 _).2 hc.1
      rw [runFl_more f n h]
      have := hb.1.1
      refine ⟨by simp; omega, by simp; omega, ih.2.2.1, fun k hk => ?_⟩
      rcases List.mem_cons.1 hk with rfl | hk
      · omega
      · exact ih.2.2.2 k hk
/-! ### what is known is so -/
def HoldsF (R : List Fct) (V : List Int) : Prop := ∀ i : Int, Nm i → (fc R i).top = false ∧ ((fc R i).known = true → wd V i = (fc R i).n)
theorem fc_set {R : List Fct} (h : R.length = 8) {d i : Int} (hd : Nm d) (hi : Nm i) (y : Fct) : fc (R.set d.toNat y) i = if i = d then y else fc R i := by
  unfold Nm at hd hi
  unfold fc
  rw [List.getD_eq_getElem?_getD, List.getElem?_set]
  by_cases e : i = d
  · subst e; rw [if_pos rfl, if_pos (by omega), if_pos rfl]; rfl
  · rw [if_neg (by omega), if_neg e, ← List.getD_eq_getElem?_getD]
theorem wd_set {V : List Int} (h : V.length = 8) {d i : Int} (hd : Nm d) (hi : Nm i) (y : Int) : wd (V.set d.toNat y) i = if i = d then y else wd V i := by
  unfold Nm at hd hi
  unfold wd
  rw [List.getD_eq_getElem?_getD, List.getElem?_set]
  by_cases e : i = d
  · subst e; rw [if_pos rfl, if_pos (by omega), if_pos rfl]; rfl
  · rw [if_neg (by omega), if_neg e, ← List.getD_eq_getElem?_getD]
theorem GoodI.names {x : Ins} (h : GoodI x) : Nm x.dst ∧ Nm x.a ∧ Nm x.b := by
  have h0 : Nm 0 := by decide
  rcases h with g | g | g | g
  · obtain ⟨_, g1, g2, g3, _⟩ := g; rw [g2, g3]; exact ⟨g1, h0, h0⟩
  · obtain ⟨_, g1, g2, g3, _⟩ := g; rw [g3]; exact ⟨g1, g2, h0⟩
  · obtain ⟨_, g1, g2, g3, _⟩ := g; rw [g1, g3]; exact ⟨h0, g2, h0⟩
  · exact ⟨g.2.2.1, g.2.2.2.1, g.2.2.2.2.1⟩
theorem factI_holds {R : List Fct} {V : List Int} (h : HoldsF R V) {x : Ins} (hx : GoodI x) (h8 : x.op ≠ 8) : (factI x R).top = false ∧ ((factI x R).known = true → valI x V = (factI x R).n) := by
  obtain ⟨n1, n2, n3⟩ := hx.names
  unfold factI valI
  by_cases o1 : x.op = 1
  · simp [o1]
  by_cases o2 : x.op = 2
  · simp only [o1, o2, if_true, if_false]
    have := h x.a n2
    simpa using this
  simp only [o1, o2, if_false]
  unfold twoF
  split
  · rename_i hk
    refine ⟨rfl, fun _ => ?_⟩
    rw [(h x.a n2).2 hk.1, (h x.b n3).2 hk.2]
  split
  · rename_i hk
    refine ⟨rfl, fun _ => ?_⟩
    obtain ⟨o5, hk⟩ := hk
    rw [o5]
    show doI 5 _ _ = 0
    rcases hk with hk | hk
    · have := (h x.a n2).2 (by rw [hk])
      rw [hk] at this
      rw [this]
      simp [doI]
    · have := (h x.b n3).2 (by rw [hk])
      rw [hk] at this
      rw [this]
      simp [doI]
  · exact ⟨rfl, fun hh => by cases hh⟩
theorem stepF_holds : ∀ (l : List Ins) {R : List Fct} {V : List Int}, (∀ x ∈ l, GoodI x) → R.length = 8 → V.length = 8 → HoldsF R V → HoldsF (stepF l R) (runC l V).2
  | [], R, V, _, _, _, h => h
  | x :: l, R, V, hl, hR, hV, h => by
    have hx := hl x (by simp)
    show HoldsF (stepF l (stepF1 R x)) (runC (x :: l) V).2
    rw [runC]
    by_cases h8 : x.op = 8
    · rw [if_pos h8]
      have : stepF1 R x = R := by unfold stepF1; rw [if_pos h8]
      rw [this]
      exact stepF_holds l (fun y hy => hl y (by simp [hy])) hR hV h
    · rw [if_neg h8]
      have : stepF1 R x = R.set x.dst.toNat (factI x R) := by unfold stepF1; rw [if_neg h8]
      rw [this]
      refine stepF_holds l (fun y hy => hl y (by simp [hy])) (by simpa using hR) (by simpa using hV) fun i hi => ?_
      have hd := hx.names.1
      rw [fc_set hR hd hi, wd_set hV hd hi]
      by_cases e : i = x.dst
      · rw [if_pos e, if_pos e]; exact factI_holds h hx h8
      · rw [if_neg e, if_neg e]; exact h i hi
theorem fc_cell (S : List (List Fct)) (k : Nat) {i : Int} : fc (rowG S k) i = cellG topF S k i.toNat := rfl
theorem still_join {c o : Fct} (ho : o.top = false) (h : updF.up c o = c) : c.top = false ∧ (c = o ∨ c = botF) := by
  rw [updF_up ho] at h
  unfold joinF at h
  by_cases hc : c.top = true
  · rw [if_pos hc] at h; rw [← h, ho] at hc; cases hc
  · rw [if_neg hc] at h
    refine ⟨by simpa using hc, ?_⟩
    by_cases e : o.top = true ∨ c = o
    · rcases e with e | e
      · rw [ho] at e; cases e
      · exact .inl e
    · rw [if_neg e] at h; exact .inr h.symm
/-- The end of what is reckoned: nothing changes any more. -/
structure EndF (ways : Bool) (f : List Bk) (vars : List Fct) (W : List (List Fct)) : Prop where
  wide : Wide f.length W
  rows : AllG RowF W
  still : ∀ (i : Nat) (b : Bk), f[i]? = some b → ∀ q ∈ nxF ways b (rowG W i), Still updF W q
  first : ∀ V, HoldsF vars V → HoldsF (rowG W 0) V
theorem up_not_top {a : Fct} (ha : a.top = false) (b : Fct) : updF.up a b = a ∨ updF.up a b = botF := by
  show (if _ then _ else _) = _ ∨ (if _ then _ else _) = _
  split
  · exact .inl rfl
  · unfold joinF
    rw [if_neg (by simp [ha])]
    split
    · exact .inl rfl
    · exact .inr rfl
theorem flowF_end {f : List Bk} (hg : GoodF f) (ways : Bool) {vars : List Fct} (hv : GoodFs vars) (J : List (List Fct) → Prop) (hJ0 : J (startF f vars)) (hJ : ∀ S, Wide f.length S → AllG RowF S → J S → J (roundG updF (nxF ways) f 0 S)) : EndF ways f vars (flowF ways f vars) ∧ J (flowF ways f vars) := by
  obtain ⟨s1, s2⟩ := startF_wide (f := f) hv
  have hsum := sumG_le updF 2 muF_le s1
  have hJ1 : ∀ S, Wide f.length S → AllG RowF S → (J S ∧ ∀ V, HoldsF vars V → HoldsF (rowG S 0) V) → (J (roundG updF (nxF ways) f 0 S) ∧ ∀ V, HoldsF vars V → HoldsF (rowG (roundG updF (nxF ways) f 0 S) 0) V) := by
    intro S hS hP hj
    refine ⟨hJ S hS hP hj.1, fun V hV => ?_⟩
    have key : ∀ (r p : List Bk) (S : List (List Fct)), f = p ++ r → Wide f.length S → AllG RowF S → HoldsF (rowG S 0) V → HoldsF (rowG (roundG updF (nxF ways) r p.length S) 0) V := by
      intro r
      induction r with
      | nil => exact fun p S _ _ _ h => h
      | cons b r ih =>
        intro p S e hS hP h
        have hpl : p.length < f.length := by rw [e]; simp
        have hrow := hS.row hpl
        have hPr := hP _ (List.mem_of_getElem? hrow.2)
        have hfit := fitsF hg ways b (by simp [e]) _ hrow.1 hPr
        have := ih (p ++ [b]) (comesG updF (nxF ways b (rowG S p.length)) S) (by simp [e]) (comesG_wide updF _ S hfit hS) (keepsF hg ways b (by simp [e]) S p.length hpl hS hP) ?_
        · simpa [roundG] using this
        have key2 : ∀ (l : List (Int × List Fct)) (S : List (List Fct)), FitG f.length l → Wide f.length S → HoldsF (rowG S 0) V → HoldsF (rowG (comesG updF l S) 0) V := by
          intro l
          induction l with
          | nil => exact fun S _ _ h => h
          | cons q l ihl =>
            intro S hl hS h
            obtain ⟨to, out⟩ := q
            have h0 := hl (to, out) (by simp)
            simp only at h0
            refine ihl _ (fun q hq => hl q (by simp [hq])) ?_ ?_
            · split
              · exact hS
              · exact comeG_wide updF (by omega) out 0 S hS
            · split
              · exact h
              · intro i hi
                have hi' := hi
                unfold Nm at hi'
                rw [fc_cell, show topF = updF.z from rfl, comeG_get updF (n := f.length) (by omega) out 0 S (by omega) hS]
                have hh := h i hi
                rw [fc_cell] at hh
                split
                · rename_i e
                  rw [← e.1]
                  rcases up_not_top hh.1 (out.getD (i.toNat - 0) updF.z) with e2 | e2
                  · rw [show updF.z = topF from rfl] at e2 ⊢
                    rw [e2]; exact hh
                  · rw [show updF.z = topF from rfl] at e2 ⊢
                    rw [e2]; exact ⟨rfl, fun h => by cases h⟩
                · exact hh
        exact key2 _ S hfit hS h
    exact key f [] S rfl hS hP (hj.2 V hV)
  obtain ⟨S', c', a1, a2, a3, a4, a5, a6⟩ := iterG_end (fitsF hg ways) (keepsF hg ways) (fun S => J S ∧ ∀ V, HoldsF vars V → HoldsF (rowG S 0) V) hJ1 (16 * f.length + 1) 0 (startF f vars) (by omega) s1 s2 ⟨hJ0, fun V hV => by
    have h1 := hg.1.1
    have e := startF_zero (f := f) (vars := vars) h1
    rw [e]
    exact hV⟩
  have e : flowF ways f vars = S' := by unfold flowF; rw [a1]
  rw [e]
  exact ⟨⟨a2, a3, a6, a4.2⟩, a4.1⟩
/-- What is known ahead of a block is so wherever one goes on. -/
theorem EndF.goes {ways : Bool} {f : List Bk} {vars : List Fct} {W : List (List Fct)} (h : EndF ways f vars W) (hg : GoodF f) {k : Nat} {b : Bk} (hb : f[k]? = some b) {V : List Int} (hV : V.length = 8) (hh : HoldsF (rowG W k) V) (hn : 0 ≤ goOn b (runC b.code V).2) : HoldsF (rowG W (goOn b (runC b.code V).2).toNat) (runC b.code V).2 := by
  have hk : k < f.length := (List.getElem?_eq_some_iff.1 hb).1
  have hmem := List.mem_of_getElem? hb
  have hgb := hg.2 b hmem
  have hrow := h.wide.row hk
  have hR := h.rows _ (List.mem_of_getElem? hrow.2)
  have h0 : (fc (rowG W k) 0).top = false := (hh 0 (by decide)).1
  rcases hR.top with ⟨h1, _⟩ | ⟨h1, hGR⟩
  · rw [h0] at h1; cases h1
  have hout := stepF_holds b.code hgb.1.2 hrow.1 hV hh
  have hgo := stepF_good b.code hgb.1.2 hGR
  have hmem2 : (goOn b (runC b.code V).2, stepF b.code (rowG W k)) ∈ nxF ways b (rowG W k) := by
    unfold nxF
    rw [if_neg (by simp [h0])]
    have ht := hout b.test hgb.2.1
    simp only
    split
    · rename_i hw
      have ht2 := ht.2 hw.2
      split
      · rename_i hne
        unfold goOn
        rw [if_pos (by rw [ht2]; exact hne)]
        simp
      · rename_i hne
        unfold goOn
        rw [if_neg (by rw [ht2]; exact hne)]
        simp
    · unfold goOn
      split <;> simp
  have hst := h.still k b hb _ hmem2 hn
  intro i hi
  have hi' := hi
  unfold Nm at hi'
  have := hst i.toNat _ (fc_get hgo.1 hi)
  obtain ⟨c1, c2⟩ := still_join (fc_good hgo hi).2 this
  rw [fc_cell]
  refine ⟨c1, fun hkn => ?_⟩
  rcases c2 with c2 | c2
  · rw [show topF = updF.z from rfl] at hkn ⊢
    rw [c2] at hkn ⊢
    exact (hout i hi).2 hkn
  · rw [show topF = updF.z from rfl] at hkn ⊢
    rw [c2] at hkn
    cases hkn
/-! ### the ways that can be gone tell at least as much -/
def belowF (a b : Fct) : Prop := a.top = true ∨ a = b ∨ (b.top = false ∧ b.known = false)
instance (a b : Fct) : Decidable (belowF a b) := inferInstanceAs (Decidable (_ ∨ _))
theorem good_unknown {b : Fct} (h : GoodFc b) (ht : b.top = false) (hk : b.known = false) : b = botF := by
  obtain ⟨t, k, n⟩ := b
  simp at ht hk
  subst ht hk
  rcases h.2 with h | h
  · cases h.1
  · simp at h; subst h; rfl
theorem below_known {a b : Fct} (h : belowF a b) (ha : a.top = false) (hb : GoodFc b) : a = b ∨ b = botF := by
  rcases h with h | h | h
  · rw [ha] at h; cases h
  · exact .inl h
  · exact .inr (good_unknown hb h.1 h.2)
theorem below_bot (a : Fct) : belowF a botF := .inr (.inr ⟨rfl, rfl⟩)
theorem factI_below {R R' : List Fct} (hR : GoodFs R) (hR' : GoodFs R') (h : ∀ i, Nm i → belowF (fc R i) (fc R' i)) {x : Ins} (hx : GoodI x) : belowF (factI x R) (factI x R') := by
  obtain ⟨n1, n2, n3⟩ := hx.names
  unfold factI
  split
  · exact .inr (.inl rfl)
  split
  · exact h _ n2
  have ga := fc_good hR n2
  have gb := fc_good hR n3
  have ga' := fc_good hR' n2
  have gb' := fc_good hR' n3
  have ha := below_known (h _ n2) ga.2 ga'.1
  have hb := below_known (h _ n3) gb.2 gb'.1
  by_cases c1 : (fc R' x.a).known = true ∧ (fc R' x.b).known = true
  · have e1 : fc R x.a = fc R' x.a := by
      rcases ha with e | e
      · exact e
      · rw [e] at c1; cases c1.1
    have e2 : fc R x.b = fc R' x.b := by
      rcases hb with e | e
      · exact e
      · rw [e] at c1; cases c1.2
    rw [e1, e2]
    exact .inr (.inl rfl)
  by_cases c2 : x.op = 5 ∧ (fc R' x.a = isF 0 ∨ fc R' x.b = isF 0)
  · have e : twoF x.op (fc R' x.a) (fc R' x.b) = isF 0 := by
      unfold twoF
      rw [if_neg c1, if_pos c2]
    rw [e]
    obtain ⟨o5, c2⟩ := c2
    refine .inr (.inl ?_)
    rw [o5]
    have hz : fc R x.a = isF 0 ∨ fc R x.b = isF 0 := by
      rcases c2 with c2 | c2
      · rcases ha with e | e
        · exact .inl (e.trans c2)
        · rw [c2] at e; cases e
      · rcases hb with e | e
        · exact .inr (e.trans c2)
        · rw [c2] at e; cases e
    unfold twoF
    by_cases c3 : (fc R x.a).known = true ∧ (fc R x.b).known = true
    · rw [if_pos c3]
      rcases hz with e | e <;> rw [e] <;> simp [doI]
    · rw [if_neg c3, if_pos ⟨rfl, hz⟩]
  · have e : twoF x.op (fc R' x.a) (fc R' x.b) = botF := by
      unfold twoF
      rw [if_neg c1, if_neg c2]
    rw [e]
    exact below_bot _
theorem stepF_below : ∀ (l : List Ins) {R R' : List Fct}, (∀ x ∈ l, GoodI x) → GoodFs R → GoodFs R' → (∀ i, Nm i → belowF (fc R i) (fc R' i)) → ∀ i, Nm i → belowF (fc (stepF l R) i) (fc (stepF l R') i)
  | [], R, R', _, _, _, h => h
  | x :: l, R, R', hl, hR, hR', h => by
    have hx := hl x (by simp)
    refine stepF_below l (fun y hy => hl y (by simp [hy])) (stepF1_good hR hx) (stepF1_good hR' hx) fun i hi => ?_
    unfold stepF1
    split
    · exact h i hi
    · rw [fc_set hR.1 hx.names.1 hi, fc_set hR'.1 hx.names.1 hi]
      split
      · exact factI_below hR hR' h hx
      · exact h i hi
theorem come_below {c c' o o' : Fct} (hc' : GoodFc c') (ho' : GoodFc o') (h1 : belowF c c') (h2 : belowF o o') (ho : o.top = false) (hot : o'.top = false) (hs : updF.up c' o' = c') : belowF (updF.up c o) c' := by
  obtain ⟨t', hs⟩ := still_join hot hs
  rw [updF_up ho]
  rcases hs with hs | hs
  · unfold joinF
    by_cases hc : c.top = true
    · rw [if_pos hc, hs]; exact h2
    · rw [if_neg hc]
      split
      · exact h1
      · rename_i e
        rcases below_known h1 (by simpa using hc) hc' with e1 | e1
        · rcases below_known h2 ho ho' with e2 | e2
          · exact absurd (.inr (by rw [e1, e2, hs])) e
          · rw [hs, e2]; exact below_bot _
        · rw [e1]; exact below_bot _
  · rw [hs]; exact below_bot _
def BelowG (n : Nat) (S P : List (List Fct)) : Prop := ∀ i v, i < n → v < 8 → belowF (cellG topF S i v) (cellG topF P i v)
theorem round_below {f : List Bk} (hg : GoodF f) {vars : List Fct} {P : List (List Fct)} (hP : EndF false f vars P) : ∀ (r p : List Bk) (S : List (List Fct)), f = p ++ r → Wide f.length S → AllG RowF S → BelowG f.length S P → BelowG f.length (roundG updF (nxF true) r p.length S) P
  | [], p, S, _, _, _, h => h
  | b :: r, p, S, e, hS, hR, h => by
    have hpl : p.length < f.length := by rw [e]; simp
    have hbf : f[p.length]? = some b := by rw [e]; simp
    have hgb := hg.2 b (by simp [e])
    have hrow := hS.row hpl
    have hPr := hR _ (List.mem_of_getElem? hrow.2)
    have hfit := fitsF hg true b (by simp [e]) _ hrow.1 hPr
    have := round_below hg hP r (p ++ [b]) (comesG updF (nxF true b (rowG S p.length)) S) (by simp [e]) (comesG_wide updF _ S hfit hS) (keepsF hg true b (by simp [e]) S p.length hpl hS hR) ?_
    · simpa [roundG] using this
    rcases hPr.top with ⟨h0, _⟩ | ⟨h0, hGS⟩
    · have : nxF true b (rowG S p.length) = [] := by unfold nxF; rw [if_pos h0]
      rw [this]
      exact h
    have hrowP := hP.wide.row hpl
    have hRP := hP.rows _ (List.mem_of_getElem? hrowP.2)
    have hGP : GoodFs (rowG P p.length) ∧ (fc (rowG P p.length) 0).top = false := by
      rcases hRP.top with ⟨h1, _⟩ | ⟨h1, h2⟩
      · exfalso
        have hb0 := h p.length 0 hpl (by omega)
        have h0' : (cellG topF S p.length 0).top = false := h0
        have h1' : (cellG topF P p.length 0).top = true := h1
        rcases hb0 with g | g | g
        · rw [h0'] at g; cases g
        · rw [g, h1'] at h0'; cases h0'
        · rw [h1'] at g; cases g.1
      · exact ⟨h2, h1⟩
    have hle : ∀ i, Nm i → belowF (fc (stepF b.code (rowG S p.length)) i) (fc (stepF b.code (rowG P p.length)) i) := stepF_below b.code hgb.1.2 hGS hGP.1 fun i hi => by
      have hi' := hi
      unfold Nm at hi'
      rw [fc_cell, fc_cell]
      exact h p.length i.toNat hpl (by omega)
    have goS := stepF_good b.code hgb.1.2 hGS
    have goP := stepF_good b.code hgb.1.2 hGP.1
    have key2 : ∀ (l : List (Int × List Fct)) (T : List (List Fct)), (∀ q ∈ l, q ∈ nxF true b (rowG S p.length)) → Wide f.length T → BelowG f.length T P → BelowG f.length (comesG updF l T) P := by
      intro l
      induction l with
      | nil => exact fun T _ _ h => h
      | cons q l ihl =>
        intro T hl hT hB
        obtain ⟨to, out⟩ := q
        obtain ⟨_, m2, m3⟩ := mem_nxF (hl (to, out) (by simp))
        have h0 := hfit _ (hl (to, out) (by simp))
        simp only at h0 m2 m3
        refine ihl _ (fun q hq => hl q (by simp [hq])) ?_ ?_
        · split
          · exact hT
          · exact comeG_wide updF (by omega) out 0 T hT
        · split
          · exact hB
          · rename_i hge
            intro i v hi hv
            rw [show topF = updF.z from rfl, comeG_get updF (n := f.length) (by omega) out 0 T (by omega) hT]
            split
            · rename_i e1
              rw [e1.1]
              have hmemP : (to, stepF b.code (rowG P p.length)) ∈ nxF false b (rowG P p.length) := by
                unfold nxF
                rw [if_neg (by rw [hGP.2]; simp)]
                rcases m3 with rfl | rfl <;> simp
              have hNv : Nm (v : Int) := by unfold Nm; omega
              have hst := hP.still p.length b hbf _ hmemP (by simp; omega) v (fc (stepF b.code (rowG P p.length)) v) (by simpa using fc_get goP.1 hNv)
              have hto : to.toNat < f.length := by omega
              have hcP : GoodFc (cellG topF P to.toNat v) := by
                have hr := hP.wide.row hto
                have hc := hP.wide.cell topF hto hv
                rcases hP.rows _ (List.mem_of_getElem? hr.2) with he | he
                · rw [he] at hc
                  rw [List.eq_of_mem_replicate (List.mem_of_getElem? hc)]
                  decide
                · exact (he.2 _ (List.mem_of_getElem? hc)).1
              have hov : out.getD (v - 0) updF.z = fc (stepF b.code (rowG S p.length)) v := by
                rw [m2]; rfl
              rw [hov]
              exact come_below hcP (fc_good goP hNv).1 (hB to.toNat v hto hv) (hle v hNv) (fc_good goS hNv).2 (fc_good goP hNv).2 hst
            · exact hB i v hi hv
    exact key2 _ S (fun q hq => hq) hS h
theorem facts_below {f : List Bk} (hg : GoodF f) {vars : List Fct} (hv : GoodFs vars) : BelowG f.length (flowF true f vars) (flowF false f vars) := by
  have hE := (flowF_end hg false hv (fun _ => True) trivial fun _ _ _ _ => trivial).1
  have hfirst : ∀ v, v < 8 → belowF (vars.getD v topF) (cellG topF (flowF false f vars) 0 v) := by
    have := (flowF_end hg false hv (fun S => ∀ v, v < 8 → belowF (vars.getD v topF) (cellG topF S 0 v)) ?_ ?_).2
    · exact this
    · intro v _
      have h1 := hg.1.1
      have e := startF_zero (f := f) (vars := vars) h1
      unfold cellG
      rw [e]
      exact .inr (.inl rfl)
    · intro S hS hP hj
      have key : ∀ (r p : List Bk) (S : List (List Fct)), f = p ++ r → Wide f.length S → AllG RowF S → (∀ v, v < 8 → belowF (vars.getD v topF) (cellG topF S 0 v)) → ∀ v, v < 8 → belowF (vars.getD v topF) (cellG topF (roundG updF (nxF false) r p.length S) 0 v) := by
        intro r
        induction r with
        | nil => exact fun p S _ _ _ h => h
        | cons b r ih =>
          intro p S e hS hP h
          have hpl : p.length < f.length := by rw [e]; simp
          have hrow := hS.row hpl
          have hPr := hP _ (List.mem_of_getElem? hrow.2)
          have hfit := fitsF hg false b (by simp [e]) _ hrow.1 hPr
          have := ih (p ++ [b]) (comesG updF (nxF false b (rowG S p.length)) S) (by simp [e]) (comesG_wide updF _ S hfit hS) (keepsF hg false b (by simp [e]) S p.length hpl hS hP) ?_
          · simpa [roundG] using this
          have key2 : ∀ (l : List (Int × List Fct)) (S : List (List Fct)), FitG f.length l → Wide f.length S → (∀ v, v < 8 → belowF (vars.getD v topF) (cellG topF S 0 v)) → ∀ v, v < 8 → belowF (vars.getD v topF) (cellG topF (comesG updF l S) 0 v) := by
            intro l
            induction l with
            | nil => exact fun S _ _ h => h
            | cons q l ihl =>
              intro S hl hS h
              obtain ⟨to, out⟩ := q
              have h0 := hl (to, out) (by simp)
              simp only at h0
              refine ihl _ (fun q hq => hl q (by simp [hq])) ?_ ?_
              · split
                · exact hS
                · exact comeG_wide updF (by omega) out 0 S hS
              · split
                · exact h
                · intro v hv8
                  rw [show topF = updF.z from rfl, comeG_get updF (n := f.length) (by omega) out 0 S (by omega) hS]
                  have hh := h v hv8
                  split
                  · rename_i e
                    rw [← e.1]
                    have hvt : (vars.getD v topF).top = false := (fc_good hv (i := (v : Int)) (by unfold Nm; omega)).2
                    have hct : (cellG topF S 0 v).top = false := by
                      rcases hh with g | g | g
                      · rw [hvt] at g; cases g
                      · rw [← g]; exact hvt
                      · exact g.1
                    rcases up_not_top hct (out.getD (v - 0) updF.z) with e2 | e2
                    · rw [show updF.z = topF from rfl] at e2 ⊢
                      rw [e2]; exact hh
                    · rw [show updF.z = topF from rfl] at e2 ⊢
                      rw [e2]; exact below_bot _
                  · exact hh
          exact key2 _ S hfit hS h
      exact key f [] S rfl hS hP hj
  refine (flowF_end hg true hv (fun S => BelowG f.length S (flowF false f vars)) ?_ fun S hS hR h => ?_).2
  · intro i v hi hv8
    by_cases h0 : i = 0
    · subst h0
      have e := startF_zero (f := f) (vars := vars) (by omega)
      have := hfirst v hv8
      show belowF ((rowG (startF f vars) 0).getD v topF) _
      rw [e]
      exact this
    · left
      have e := startF_more (f := f) (vars := vars) hi h0
      show ((rowG (startF f vars) i).getD v topF).top = true
      rw [e, List.getD_eq_getElem?_getD, List.getElem?_replicate, if_pos hv8]
      rfl
  · exact round_below hg hE f [] S rfl hS hR h
end Go.Proofs.YtdbnokeegocpbaaGreat.Am
