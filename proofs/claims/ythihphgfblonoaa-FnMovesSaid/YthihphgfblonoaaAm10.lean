/- Regions that draw their order, on the abstract heap: a plan serves every order that the text leaves open. No condition. -/
import Derived.Test.YthihphgfblonoaaAm9
namespace Go.Proofs.Ythihphgfblonoaa.Am
open Go Go.RowKit
set_option linter.unusedSimpArgs false
set_option linter.unusedVariables false

inductive Plan where
  | done
  | look (i : Nat) (p : Plan)
  | act (e : Nat) (chk : List Nat) (p other : Plan)
  | stop
def dstAt (ops : Array Oper) (i : Nat) : Option Nat := (ops[i]?).bind (·.dst)
def predsOf (ops : Array Oper) (i : Nat) : List Nat := match ops[i]? with
  | some o => (o.after.toList.filter (Region.binds .any)).map (·.on)
  | none => []
def readsOf (ops : Array Oper) (i : Nat) : List Nat := match ops[i]? with
  | some o => readsAt ops o
  | none => []
def predsT (ops : Array Oper) (i : Nat) : Nat → Nat → Bool
  | 0, _ => false
  | f + 1, e => (predsOf ops e).any fun k => k == i || predsT ops i f k
def eagerOk (ops : Array Oper) (i : Nat) : Bool := match ops[i]? with
  | some o => looks o && match o.dst with
    | some d => !(readsAt ops o).contains d && (List.range ops.size).all fun j => j == i ||
        ((dstAt ops j != some d) && (!(readsOf ops j).contains d || (predsOf ops j).contains i) &&
          (match dstAt ops j with | some d' => !(readsAt ops o).contains d' || (predsOf ops i).contains j || (predsOf ops j).contains i | none => true))
    | none => false
  | none => false
def backOk (ops : Array Oper) : Bool := (List.range ops.size).all fun i => (predsOf ops i).all fun k => decide (k < i)
def lookInAt (ops : Array Oper) (i : Nat) : Bool := match ops[i]? with | some o => looksIn o | none => false
def planOk (ops : Array Oper) : List Nat → List Nat → List Nat → Plan → Bool
  | L, A, cov, .done => cov.isEmpty && (List.range ops.size).all fun j => L.contains j || A.contains j
  | L, A, cov, .look i p => cov.isEmpty && decide (i < ops.size) && !L.contains i && !A.contains i && ((predsOf ops i).all fun k => L.contains k || A.contains k) && eagerOk ops i && planOk ops (i :: L) A [] p
  | L, A, cov, .act e chk p other => decide (e < ops.size) && !L.contains e && !A.contains e && ((predsOf ops e).all fun k => L.contains k || A.contains k) &&
      (L.all fun i => !lookInAt ops i || chk.contains i || (e :: A).any fun x => predsT ops i ops.size x) && planOk ops L (e :: A) [] p && planOk ops L A (e :: cov) other
  | L, A, cov, .stop => !cov.isEmpty && (List.range ops.size).all fun j => L.contains j || A.contains j || cov.contains j || !((predsOf ops j).all fun k => L.contains k || A.contains k)
def drawOk (ops : Array Oper) (p : Plan) : Bool := backOk ops && planOk ops [] [] [] p

def chkAt (tab : Tab) (n : Nat) (ops : Array Oper) (k : Nat) (ts : TS) (H : Hp) : Prop := match ops[k]? with
  | some o => match wantedA ops n o ts with
    | some b => if b = true then (match o.dst with | some d => exec tab (evA ts) H o.op = some (ts d, H) | none => False) else True
    | none => False
  | none => False
def chkAll (tab : Tab) (n : Nat) (ops : Array Oper) : List Nat → TS → Hp → Prop
  | [], _, _ => True
  | k :: l, ts, H => chkAt tab n ops k ts H ∧ chkAll tab n ops l ts H
theorem chkAll.mem {tab : Tab} {n : Nat} {ops : Array Oper} {ts : TS} {H : Hp} : ∀ {l : List Nat} {k : Nat}, chkAll tab n ops l ts H → k ∈ l → chkAt tab n ops k ts H
  | x :: l, k, h, hk => by
    rcases List.mem_cons.1 hk with rfl | hk
    · exact h.1
    · exact h.2.mem hk
def vcPlan (P : Program) (tab : Tab) (n : Nat) (ops : Array Oper) (Q : TS → Hp → Prop) : Plan → TS → Hp → Prop
  | .done, ts, H => Q ts H
  | .look i p, ts, H => match ops[i]? with
    | some o => dstOk n o.dst = true ∧ match wantedA ops n o ts with
      | some b => if b = true then (match exec tab (evA ts) H o.op with | some (v, H') => vcPlan P tab n ops Q p (putO o.dst v ts) H' | none => False) else vcPlan P tab n ops Q p (putO o.dst (.tup []) ts) H
      | none => False
    | none => False
  | .act e chk p other, ts, H => (match ops[e]? with
    | some o => dstOk n o.dst = true ∧ match wantedA ops n o ts with
      | some b => if b = true then vcOp P tab o (fun ts' H' => chkAll tab n ops chk ts' H' ∧ vcPlan P tab n ops Q p ts' H') ts H else vcPlan P tab n ops Q p (putO o.dst (.tup []) ts) H
      | none => False
    | none => False) ∧ vcPlan P tab n ops Q other ts H
  | .stop, _, _ => True
def vcDraw (P : Program) (tab : Tab) (n : Nat) (ops : Array Oper) (Q : TS → Hp → Prop) (ts : TS) (H : Hp) : Prop :=
  P.follows .mixedOrders = true ∧ ∃ p, drawOk ops p = true ∧ vcPlan P tab n ops Q p ts H

theorem wantedA_congr {ops : Array Oper} {n : Nat} {o : Oper} {ts ts' : TS} (h : ∀ t ∈ readsAt ops o, ts t = ts' t) : wantedA ops n o ts = wantedA ops n o ts' := by
  unfold wantedA
  cases hg : o.guard with
  | none => rfl
  | some gw =>
    obtain ⟨g, want⟩ := gw
    simp only
    cases hd : (ops[g]?).bind (·.dst) with
    | none => rfl
    | some d =>
      have := h d (by simp [readsAt, Oper.looksAt, hg, hd])
      simp only [this]
theorem exec_reads {tab : Tab} {ops : Array Oper} {o : Oper} {ts ts' : TS} {H : Hp} (h : ∀ t ∈ readsAt ops o, ts t = ts' t) : exec tab (evA ts) H o.op = exec tab (evA ts') H o.op :=
  exec_congr fun x hx => evA_congr fun t e => h t (by
    subst e
    exact List.mem_append_left _ (List.mem_filterMap.2 ⟨.tmp t, by simpa using hx, rfl⟩))

/-- The slots of what has been looked at ahead are not told. -/
def mask (ops : Array Oper) (D : List Nat) (ts : TS) : TS := fun t => if D.any (fun i => dstAt ops i == some t) = true then .und else ts t
theorem mask_nil (ops : Array Oper) (ts : TS) : mask ops [] ts = ts := by funext t; simp [mask]
theorem mask_of {ops : Array Oper} {D : List Nat} {ts : TS} {t : Nat} (h : ∀ i ∈ D, dstAt ops i ≠ some t) : mask ops D ts t = ts t := by
  unfold mask
  rw [if_neg]
  simp only [List.any_eq_true, beq_iff_eq, not_exists, not_and]
  exact h
theorem mask_in {ops : Array Oper} {D : List Nat} {ts : TS} {t i : Nat} (hi : i ∈ D) (h : dstAt ops i = some t) : mask ops D ts t = .und := by
  unfold mask
  rw [if_pos]
  simp only [List.any_eq_true, beq_iff_eq]
  exact ⟨i, hi, h⟩
/-- What was looked at ahead is the same still. -/
def Again (tab : Tab) (n : Nat) (ops : Array Oper) (i : Nat) (ts : TS) (H : Hp) : Prop :=
  ∃ o d, ops[i]? = some o ∧ o.dst = some d ∧ d < n ∧ ((wantedA ops n o ts = some true ∧ exec tab (evA ts) H o.op = some (ts d, H)) ∨ (wantedA ops n o ts = some false ∧ ts d = .tup []))
/-- What is told of an operation that may be done ahead. -/
structure Eager (ops : Array Oper) (i : Nat) (o : Oper) (d : Nat) : Prop where
  at_ : ops[i]? = some o
  look : looks o = true
  dst : o.dst = some d
  self : d ∉ readsAt ops o
  dne : ∀ j, j < ops.size → j ≠ i → dstAt ops j ≠ some d
  rd : ∀ j, j < ops.size → j ≠ i → d ∈ readsOf ops j → i ∈ predsOf ops j
  wr : ∀ j d', j < ops.size → j ≠ i → dstAt ops j = some d' → d' ∈ readsAt ops o → j ∈ predsOf ops i ∨ i ∈ predsOf ops j
theorem eager_of {ops : Array Oper} {i : Nat} (h : eagerOk ops i = true) : ∃ o d, Eager ops i o d := by
  unfold eagerOk at h
  cases ho : ops[i]? with
  | none => rw [ho] at h; cases h
  | some o =>
    rw [ho] at h
    simp only [Bool.and_eq_true] at h
    obtain ⟨hl, h⟩ := h
    cases hd : o.dst with
    | none => rw [hd] at h; cases h
    | some d =>
      rw [hd] at h
      simp only [Bool.and_eq_true, Bool.not_eq_true', List.all_eq_true, List.mem_range, Bool.or_eq_true, beq_iff_eq, bne_iff_ne, ne_eq] at h
      obtain ⟨h1, h2⟩ := h
      refine ⟨o, d, ho, hl, hd, by simpa using h1, fun j hj hne => ?_, fun j hj hne hr => ?_, fun j d' hj hne hd' hr => ?_⟩
      · rcases h2 j hj with e | e
        · exact absurd e hne
        · exact e.1.1
      · rcases h2 j hj with e | e
        · exact absurd e hne
        · rcases e.1.2 with e | e
          · simp at e; exact absurd hr e
          · simpa using e
      · rcases h2 j hj with e | e
        · exact absurd e hne
        · have e3 := e.2
          rw [hd'] at e3
          simp only [Bool.or_eq_true, Bool.not_eq_true'] at e3
          rcases e3 with (e3 | e3) | e3
          · simp at e3; exact absurd hr e3
          · exact .inl (by simpa using e3)
          · exact .inr (by simpa using e3)
theorem Again.keep {tab : Tab} {n : Nat} {ops : Array Oper} {i : Nat} {o : Oper} {d : Nat} {ts ts' : TS} {H H' : Hp} (E : Eager ops i o d) (h : Again tab n ops i ts H) (hr : ∀ t ∈ readsAt ops o, ts t = ts' t) (hd : ts d = ts' d) (hH : H' = H ∨ looksIn o = false) : Again tab n ops i ts' H' := by
  obtain ⟨o2, d2, h1, h2, h3, h4⟩ := h
  rw [E.at_] at h1
  cases h1
  rw [E.dst] at h2
  cases h2
  refine ⟨o, d, E.at_, E.dst, h3, ?_⟩
  rw [← wantedA_congr hr, ← exec_reads hr, ← hd]
  rcases h4 with ⟨a, b⟩ | ⟨a, b⟩
  · refine .inl ⟨a, ?_⟩
    rcases hH with rfl | hn
    · exact b
    · exact looks_pure _ E.look hn b
  · exact .inr ⟨a, b⟩

structure Inv (P : Program) (tab : Tab) (n : Nat) (ops : Array Oper) (m0 : List Place) (H0 : Hp) (w0 : World) (listed : Array Bool) (L A D : List Nat) (ts : TS) (H : Hp) (m : List Place) (w : World) (a : Act) : Prop where
  size : listed.size = ops.size
  mem : ∀ j, j < ops.size → ((j ∈ L ∨ j ∈ A) ↔ (listed.getD j false = true ∨ j ∈ D))
  dis : ∀ j ∈ D, j < ops.size ∧ listed.getD j false = false ∧ j ∈ L
  act : ∀ j ∈ A, j < ops.size ∧ listed.getD j false = true
  closed : ∀ j, j < ops.size → listed.getD j false = true → ∀ k ∈ predsOf ops j, listed.getD k false = true
  again : ∀ i ∈ D, Again tab n ops i ts H
  eager : ∀ i ∈ L, eagerOk ops i = true
  pre : ∀ j, (j ∈ L ∨ j ∈ A) → ∀ k ∈ predsOf ops j, k ∈ L ∨ k ∈ A
  step : Step m0 H0 w0 m H w
  tr : TR m n (mask ops D ts) a.tmps
  df : a.defers = []
theorem predsT_listed {ops : Array Oper} {listed : Array Bool} (hs : listed.size = ops.size) (hc : ∀ j, j < ops.size → listed.getD j false = true → ∀ k ∈ predsOf ops j, listed.getD k false = true) (i : Nat) : ∀ (f e : Nat), listed.getD e false = true → predsT ops i f e = true → listed.getD i false = true
  | 0, e, _, h => by cases h
  | f + 1, e, he, h => by
    simp only [predsT, List.any_eq_true, Bool.or_eq_true, beq_iff_eq] at h
    obtain ⟨k, hk, h⟩ := h
    have hlt : e < ops.size := by
      apply Classical.byContradiction
      intro hn
      rw [Array.getD_eq_getD_getElem?, Array.getElem?_eq_none (by omega)] at he
      cases he
    have := hc e hlt he k hk
    rcases h with rfl | h
    · exact this
    · exact predsT_listed hs hc i f k this h
theorem mem_ready {ops : Array Oper} {listed : Array Bool} (hs : listed.size = ops.size) {i : Nat} : i ∈ Region.ready .any ops listed ↔ i < ops.size ∧ listed.getD i false = false ∧ ∀ k ∈ predsOf ops i, listed.getD k false = true := by
  unfold Region.ready predsOf
  simp only [List.mem_filter, List.mem_range, Bool.and_eq_true, Bool.not_eq_true']
  constructor
  · rintro ⟨h1, h2, h3⟩
    have ho : ops[i]? = some ops[i] := Array.getElem?_eq_getElem h1
    rw [ho] at h3 ⊢
    simp only [Option.map_some, Option.getD_some, Array.all_eq_true_iff_forall_mem, Bool.or_eq_true, Bool.not_eq_true'] at h3
    refine ⟨h1, ?_, ?_⟩
    · rw [Array.getD_eq_getD_getElem?, Array.getElem?_eq_getElem (by omega)] at h2 ⊢
      exact h2
    · simp only [List.mem_map, List.mem_filter, Array.mem_toList_iff]
      rintro k ⟨e, ⟨he, hb⟩, rfl⟩
      rcases h3 e he with h | h
      · rw [hb] at h; cases h
      · exact h
  · rintro ⟨h1, h2, h3⟩
    have ho : ops[i]? = some ops[i] := Array.getElem?_eq_getElem h1
    rw [ho] at h3 ⊢
    refine ⟨h1, ?_, ?_⟩
    · rw [Array.getD_eq_getD_getElem?, Array.getElem?_eq_getElem (by omega)] at h2 ⊢
      exact h2
    · simp only [Option.map_some, Option.getD_some, Array.all_eq_true_iff_forall_mem, Bool.or_eq_true, Bool.not_eq_true']
      intro e he
      by_cases hb : Region.binds .any e = true
      · exact .inr (h3 e.on (by simp only [List.mem_map, List.mem_filter, Array.mem_toList_iff]; exact ⟨e, ⟨he, hb⟩, rfl⟩))
      · exact .inl (by simpa using hb)
theorem listed_set {listed : Array Bool} {i : Nat} (hi : i < listed.size) (j : Nat) : (listed.setIfInBounds i true).getD j false = if j = i then true else listed.getD j false := by
  simp only [Array.getD_eq_getD_getElem?]
  by_cases e : j = i
  · subst e
    rw [Array.getElem?_setIfInBounds_self_of_lt hi, if_pos rfl]
    rfl
  · rw [Array.getElem?_setIfInBounds_ne (by omega), if_neg e]

theorem wanted_sound {m : List Place} {n : Nat} {ts : TS} {a : Act} (hT : TR m n ts a.tmps) {ops : Array Oper} {o : Oper} {b : Bool} (hb : wantedA ops n o ts = some b) : Region.wanted o (yielded ops a.tmps) = b := by
  unfold wantedA at hb
  unfold Region.wanted
  split at hb
  · rename_i hg
    rw [hg]
    simp at hb
    simp [hb]
  · rename_i j want hg
    rw [hg]
    simp only
    split at hb
    · rename_i d hdd
      split at hb
      · rename_i hlt
        split at hb
        · rename_i c hc
          cases hb
          have h1 := hT.2 d
          rw [hc] at h1
          have h2 : a.tmps[d]? = some (.bool c) := by
            have hsz : d < a.tmps.size := by rw [hT.1]; exact hlt
            rw [Array.getElem?_eq_getElem hsz]
            have h3 : a.tmps.getD d undef = .bool c := h1
            rw [Array.getD_eq_getD_getElem?, Array.getElem?_eq_getElem hsz] at h3
            simpa using h3
          simp [yielded, hdd, h2]
        · rename_i hc
          cases hb
          have h1 := hT.2 d
          rw [hc] at h1
          have h2 : a.tmps[d]? = some (.tuple #[]) := by
            have hsz : d < a.tmps.size := by rw [hT.1]; exact hlt
            rw [Array.getElem?_eq_getElem hsz]
            obtain ⟨cs, h3, h4⟩ := h1
            cases h4
            rw [Array.getD_eq_getD_getElem?, Array.getElem?_eq_getElem hsz] at h3
            simpa using h3
          simp [yielded, hdd, h2]
        · cases hb
      · cases hb
    · cases hb
theorem normalize {P : Program} {tab : Tab} {n : Nat} {ops : Array Oper} {Q : TS → Hp → Prop} {m0 : List Place} {H0 : Hp} {w0 : World} {listed : Array Bool} {A : List Nat} {H : Hp} {m : List Place} {w : World} {a : Act} : ∀ (plan : Plan) (L D : List Nat) (ts : TS),
    planOk ops L A [] plan = true → vcPlan P tab n ops Q plan ts H → Inv P tab n ops m0 H0 w0 listed L A D ts H m w a →
    ∃ plan' L' D' ts', planOk ops L' A [] plan' = true ∧ vcPlan P tab n ops Q plan' ts' H ∧ Inv P tab n ops m0 H0 w0 listed L' A D' ts' H m w a ∧ (plan' = .done ∨ ∃ e chk p other, plan' = .act e chk p other)
  | .done, L, D, ts, hp, hv, hI => ⟨.done, L, D, ts, hp, hv, hI, .inl rfl⟩
  | .stop, L, D, ts, hp, hv, hI => by simp [planOk] at hp
  | .act e chk p other, L, D, ts, hp, hv, hI => ⟨.act e chk p other, L, D, ts, hp, hv, hI, .inr ⟨_, _, _, _, rfl⟩⟩
  | .look i p, L, D, ts, hp, hv, hI => by
    simp only [planOk, Bool.and_eq_true, decide_eq_true_eq, Bool.not_eq_true'] at hp
    obtain ⟨⟨⟨⟨⟨⟨_, hi⟩, hL⟩, hA⟩, hpre⟩, hE⟩, hp⟩ := hp
    have hL' : i ∉ L := by simpa using hL
    have hA' : i ∉ A := by simpa using hA
    obtain ⟨o, d, E⟩ := eager_of hE
    have hpre' : ∀ k ∈ predsOf ops i, k ∈ L ∨ k ∈ A := by simpa using hpre
    simp only [vcPlan, E.at_, E.dst] at hv
    obtain ⟨hdst, hv⟩ := hv
    have hdn : d < n := by simpa [dstOk] using hdst
    have hdA : dstAt ops i = some d := by simp [dstAt, E.at_, E.dst]
    have hun : listed.getD i false = false := by
      cases hb : listed.getD i false with
      | false => rfl
      | true =>
        rcases (hI.mem i hi).2 (.inl hb) with h | h
        · exact absurd h hL'
        · exact absurd h hA'
    have fin : ∀ v, vcPlan P tab n ops Q p (put d v ts) H → ((wantedA ops n o ts = some true ∧ exec tab (evA ts) H o.op = some (v, H)) ∨ (wantedA ops n o ts = some false ∧ v = .tup [])) →
        ∃ plan' L' D' ts', planOk ops L' A [] plan' = true ∧ vcPlan P tab n ops Q plan' ts' H ∧ Inv P tab n ops m0 H0 w0 listed L' A D' ts' H m w a ∧ (plan' = .done ∨ ∃ e chk p other, plan' = .act e chk p other) := by
      intro v hvp hag
      refine normalize p (i :: L) (i :: D) (put d v ts) hp hvp ?_
      have hsame : ∀ t ∈ readsAt ops o, ts t = put d v ts t := fun t ht => (put_ne (by intro e; subst e; exact E.self ht) v ts).symm
      refine ⟨hI.size, fun j hj => ?_, fun j hj => ?_, hI.act, hI.closed, fun k hk => ?_, fun k hk => ?_, fun j hj k hk => ?_, hI.step, ⟨hI.tr.1, fun t => ?_⟩, hI.df⟩
      · have := hI.mem j hj
        simp only [List.mem_cons]
        by_cases e : j = i
        · simp [e]
        · simp only [e, false_or]
          exact this
      · rcases List.mem_cons.1 hj with rfl | hj
        · exact ⟨hi, hun, by simp⟩
        · obtain ⟨a1, a2, a3⟩ := hI.dis j hj
          exact ⟨a1, a2, by simp [a3]⟩
      · rcases List.mem_cons.1 hk with rfl | hk
        · refine ⟨o, d, E.at_, E.dst, hdn, ?_⟩
          rw [← wantedA_congr hsame, ← exec_reads hsame, put_same]
          exact hag
        · obtain ⟨hkl, _, hkL⟩ := hI.dis k hk
          have hne : k ≠ i := fun e => hL' (e ▸ hkL)
          obtain ⟨o2, d2, E2⟩ := eager_of (hI.eager k hkL)
          have hdk : dstAt ops k = some d2 := by simp [dstAt, E2.at_, E2.dst]
          refine (hI.again k hk).keep E2 (fun t ht => (put_ne (fun e => ?_) v ts).symm) (put_ne (fun e => ?_) v ts).symm (.inl rfl)
          · subst e
            have h1 := E.rd k hkl hne (by simp only [readsOf, E2.at_]; exact ht)
            rcases hI.pre k (.inl hkL) i h1 with h | h
            · exact hL' h
            · exact hA' h
          · exact E.dne k hkl hne (by rw [hdk, e])
      · rcases List.mem_cons.1 hk with rfl | hk
        · exact hE
        · exact hI.eager k hk
      · have up : ∀ {x}, (x ∈ L ∨ x ∈ A) → (x ∈ i :: L ∨ x ∈ A) := fun h => h.elim (fun h => .inl (by simp [h])) .inr
        rcases hj with hj | hj
        · rcases List.mem_cons.1 hj with rfl | hj
          · exact up (hpre' k hk)
          · exact up (hI.pre j (.inl hj) k hk)
        · exact up (hI.pre j (.inr hj) k hk)
      · by_cases e : t = d
        · subst e
          rw [mask_in (i := i) (by simp) hdA]
          trivial
        · have : mask ops (i :: D) (put d v ts) t = mask ops D ts t := by
            have hne : (dstAt ops i == some t) = false := by
              rw [hdA]
              simp
              exact fun h => e h.symm
            simp only [mask, List.any_cons, hne, Bool.false_or, put_ne e]
          rw [this]
          exact hI.tr.2 t
    cases hw : wantedA ops n o ts with
    | none => rw [hw] at hv; exact hv.elim
    | some b =>
      rw [hw] at hv
      cases b with
      | true =>
        simp only [if_true] at hv
        cases he : exec tab (evA ts) H o.op with
        | none => rw [he] at hv; exact hv.elim
        | some r =>
          obtain ⟨v, H'⟩ := r
          rw [he] at hv
          obtain rfl := looks_same E.look he
          exact fin v hv (.inl ⟨hw, he⟩)
      | false =>
        simp only [Bool.false_eq_true, if_false] at hv
        exact fin (.tup []) hv (.inr ⟨hw, rfl⟩)
/-- Of the ways that a plan leaves, the one that begins with i. -/
theorem find_act {P : Program} {tab : Tab} {n : Nat} {ops : Array Oper} {Q : TS → Hp → Prop} {L A : List Nat} {ts : TS} {H : Hp} {i : Nat} (hi : i < ops.size) (hL : i ∉ L) (hA : i ∉ A) (hpre : ∀ k ∈ predsOf ops i, k ∈ L ∨ k ∈ A) : ∀ (plan : Plan) (cov : List Nat),
    (cov ≠ [] ∨ ∃ e chk p other, plan = .act e chk p other) → i ∉ cov → planOk ops L A cov plan = true → vcPlan P tab n ops Q plan ts H →
    ∃ chk p, (L.all fun k => !lookInAt ops k || chk.contains k || (i :: A).any fun x => predsT ops k ops.size x) = true ∧ planOk ops L (i :: A) [] p = true ∧
      (match ops[i]? with
        | some o => dstOk n o.dst = true ∧ match wantedA ops n o ts with
          | some b => if b = true then vcOp P tab o (fun ts' H' => chkAll tab n ops chk ts' H' ∧ vcPlan P tab n ops Q p ts' H') ts H else vcPlan P tab n ops Q p (putO o.dst (.tup []) ts) H
          | none => False
        | none => False)
  | .done, cov, hc, hcov, hp, hv => by
    rcases hc with hc | ⟨_, _, _, _, e⟩
    · cases cov with
      | nil => exact absurd rfl hc
      | cons x l => simp [planOk] at hp
    · cases e
  | .look j p, cov, hc, hcov, hp, hv => by
    rcases hc with hc | ⟨_, _, _, _, e⟩
    · cases cov with
      | nil => exact absurd rfl hc
      | cons x l => simp [planOk] at hp
    · cases e
  | .stop, cov, hc, hcov, hp, hv => by
    simp only [planOk, Bool.and_eq_true, List.all_eq_true, List.mem_range, Bool.or_eq_true] at hp
    rcases hp.2 i hi with ((h | h) | h) | h
    · exact absurd (by simpa using h) hL
    · exact absurd (by simpa using h) hA
    · exact absurd (by simpa using h) hcov
    · simp only [Bool.not_eq_true', List.all_eq_false, Bool.or_eq_true, not_or] at h
      obtain ⟨k, hk, h1, h2⟩ := h
      rcases hpre k hk with h | h
      · exact absurd (by simpa using h) h1
      · exact absurd (by simpa using h) h2
  | .act e chk p other, cov, hc, hcov, hp, hv => by
    simp only [planOk, Bool.and_eq_true] at hp
    obtain ⟨⟨⟨_, hchk⟩, hp1⟩, hp2⟩ := hp
    simp only [vcPlan] at hv
    by_cases e1 : e = i
    · subst e1
      exact ⟨chk, p, hchk, hp1, hv.1⟩
    · exact find_act hi hL hA hpre other (e :: cov) (.inl (by simp)) (by simp [hcov]; exact fun h => e1 h.symm) hp2 hv.2
theorem vcOp_congr {P : Program} {tab : Tab} {ops : Array Oper} {o : Oper} {K : TS → Hp → Prop} {ts ts' : TS} {H : Hp} (h : ∀ t ∈ readsAt ops o, ts t = ts' t) (hv : vcOp P tab o K ts H) :
    vcOp P tab o (fun tsn H' => ∃ v, tsn = putO o.dst v ts' ∧ K (putO o.dst v ts) H') ts' H := by
  have hx : ∀ x ∈ o.op.operands, evA ts x = evA ts' x := fun x hx => evA_congr fun t e => h t (by
    subst e
    exact List.mem_append_left _ (List.mem_filterMap.2 ⟨.tmp t, by simpa using hx, rfl⟩))
  unfold vcOp at hv ⊢
  split at hv
  · rename_i f args argTypes ho
    rw [ho] at hx
    have hf : evA ts f = evA ts' f := hx f (by simp [Op.operands, Call.operands])
    have ha : args.toList.map (evA ts) = args.toList.map (evA ts') := List.map_congr_left fun x hm => hx x (by simp [Op.operands, Call.operands]; right; simpa using hm)
    rw [← hf, ← ha]
    split at hv
    · rename_i g caps hg
      simp only [hg]
      exact hv.mono fun v H' k => ⟨v, rfl, k⟩
    · exact hv.elim
  · rename_i hno
    have he : exec tab (evA ts) H o.op = exec tab (evA ts') H o.op := exec_congr hx
    rw [← he]
    split at hv
    · rename_i v H' e
      simp only [e]
      exact ⟨v, rfl, hv⟩
    · exact hv.elim
theorem filter_lt {α : Type} (p q : α → Bool) (hpq : ∀ x, q x = true → p x = true) : ∀ (l : List α) (x : α), x ∈ l → p x = true → q x = false → (l.filter q).length < (l.filter p).length
  | [], x, h, _, _ => by simp at h
  | y :: l, x, h, hp, hq => by
    have hle : ∀ l : List α, (l.filter q).length ≤ (l.filter p).length := by
      intro l
      induction l with
      | nil => simp
      | cons z l ih =>
        by_cases h1 : q z = true
        · simp [List.filter_cons, h1, hpq z h1]; exact ih
        · by_cases h2 : p z = true <;> simp [List.filter_cons, h1, h2] <;> omega
    rcases List.mem_cons.1 h with rfl | h
    · simp only [List.filter_cons, hp, hq, if_true, Bool.false_eq_true, if_false, List.length_cons]
      have := hle l
      omega
    · have ih := filter_lt p q hpq l x h hp hq
      by_cases h1 : q y = true
      · simp [List.filter_cons, h1, hpq y h1]; exact ih
      · by_cases h2 : p y = true <;> simp [List.filter_cons, h1, h2] <;> omega
def unlisted (ops : Array Oper) (listed : Array Bool) : Nat := ((List.range ops.size).filter fun j => !listed.getD j false).length
theorem ready_nil {ops : Array Oper} {listed : Array Bool} (hb : backOk ops = true) (hs : listed.size = ops.size) (h : Region.ready .any ops listed = []) : ∀ j, j < ops.size → listed.getD j false = true := by
  intro j
  induction j using Nat.strongRecOn with
  | _ j ih =>
    intro hj
    cases hl : listed.getD j false with
    | true => rfl
    | false =>
      have : j ∈ Region.ready .any ops listed := (mem_ready hs).2 ⟨hj, hl, fun k hk => by
        simp only [backOk, List.all_eq_true, List.mem_range, decide_eq_true_eq] at hb
        have := hb j hj k hk
        exact ih k this (by omega)⟩
      rw [h] at this
      cases this
theorem plan_sound {P : Program} {tab : Tab} (hTab : TabOk P tab) {n : Nat} {ops : Array Oper} (hback : backOk ops = true) {Q : TS → Hp → Prop} {Q' : Exit → Act → World → Prop} {m0 : List Place} {H0 : Hp} {w0 : World}
    (hQ : ∀ a' w' m' ts' H', TR m' n ts' a'.tmps → a'.defers = [] → Step m0 H0 w0 m' H' w' → Q ts' H' → Q' .normal a' w') :
    ∀ (fuel : Nat) (listed : Array Bool) (plan : Plan) (L A D : List Nat) (ts : TS) (H : Hp) (m : List Place) (w : World) (a : Act), unlisted ops listed ≤ fuel → planOk ops L A [] plan = true → vcPlan P tab n ops Q plan ts H →
      Inv P tab n ops m0 H0 w0 listed L A D ts H m w a → wpAny P .any ops Q' fuel listed a w := by
  intro fuel
  induction fuel with
  | zero =>
    intro listed plan L A D ts H m w a hf hp hv hI
    obtain ⟨plan, L, D, ts, hp, hv, hI, hform⟩ := normalize plan L D ts hp hv hI
    have hall : ∀ j, j < ops.size → listed.getD j false = true := by
      intro j hj
      cases hl : listed.getD j false with
      | true => rfl
      | false =>
        have : j ∈ (List.range ops.size).filter fun j => !listed.getD j false := by simp [hj]; simpa using hl
        have h0 : ((List.range ops.size).filter fun j => !listed.getD j false) = [] := List.eq_nil_of_length_eq_zero (by unfold unlisted at hf; omega)
        rw [h0] at this
        cases this
    have hr : Region.ready .any ops listed = [] := by
      apply List.eq_nil_iff_forall_not_mem.2
      intro j hj
      obtain ⟨h1, h2, _⟩ := (mem_ready hI.size).1 hj
      rw [hall j h1] at h2
      cases h2
    have hD : D = [] := by
      cases D with
      | nil => rfl
      | cons x l =>
        obtain ⟨h1, h2, _⟩ := hI.dis x (by simp)
        rw [hall x h1] at h2
        cases h2
    refine ⟨hr, ?_⟩
    rcases hform with rfl | ⟨e, chk, p, other, rfl⟩
    · have ht := hI.tr
      rw [hD, mask_nil] at ht
      exact hQ a w m ts H ht hI.df hI.step hv
    · simp only [planOk, Bool.and_eq_true, decide_eq_true_eq, Bool.not_eq_true'] at hp
      obtain ⟨⟨⟨⟨⟨⟨he, hL⟩, hA⟩, _⟩, _⟩, _⟩, _⟩ := hp
      rcases (hI.mem e he).2 (.inl (hall e he)) with h | h
      · exact absurd h (by simpa using hL)
      · exact absurd h (by simpa using hA)
  | succ fuel ih =>
    intro listed plan L A D ts H m w a hf hp hv hI
    obtain ⟨plan, L, D, ts, hp, hv, hI, hform⟩ := normalize plan L D ts hp hv hI
    constructor
    · intro hr
      have hall := ready_nil hback hI.size hr
      have hD : D = [] := by
        cases D with
        | nil => rfl
        | cons x l =>
          obtain ⟨h1, h2, _⟩ := hI.dis x (by simp)
          rw [hall x h1] at h2
          cases h2
      rcases hform with rfl | ⟨e, chk, p, other, rfl⟩
      · have ht := hI.tr
        rw [hD, mask_nil] at ht
        exact hQ a w m ts H ht hI.df hI.step hv
      · simp only [planOk, Bool.and_eq_true, decide_eq_true_eq, Bool.not_eq_true'] at hp
        obtain ⟨⟨⟨⟨⟨⟨he, hL⟩, hA⟩, _⟩, _⟩, _⟩, _⟩ := hp
        rcases (hI.mem e he).2 (.inl (hall e he)) with h | h
        · exact absurd h (by simpa using hL)
        · exact absurd h (by simpa using hA)
    · intro i hir
      obtain ⟨hi, hun, hpl⟩ := (mem_ready hI.size).1 hir
      have hisz : i < listed.size := by rw [hI.size]; exact hi
      have hdec : unlisted ops (listed.setIfInBounds i true) ≤ fuel := by
        have := filter_lt (fun j => !listed.getD j false) (fun j => !(listed.setIfInBounds i true).getD j false) (fun x hx => by
          rw [listed_set hisz] at hx
          split at hx
          · simp at hx
          · exact hx) (List.range ops.size) i (by simpa using hi) (by simp [hun]) (by rw [listed_set hisz]; simp)
        unfold unlisted at hf ⊢
        omega
      have hclosed2 : ∀ j, j < ops.size → (listed.setIfInBounds i true).getD j false = true → ∀ k ∈ predsOf ops j, (listed.setIfInBounds i true).getD k false = true := by
        intro j hj hl k hk
        rw [listed_set hisz] at hl ⊢
        split
        · rfl
        · split at hl
          · rename_i e
            subst e
            exact hpl k hk
          · exact hI.closed j hj hl k hk
      -- what i reads is told
      have hreads : ∀ o, ops[i]? = some o → ∀ t ∈ readsAt ops o, mask ops D ts t = ts t := by
        intro o ho t ht
        refine mask_of fun k hk e => ?_
        obtain ⟨hkl, hku, hkL⟩ := hI.dis k hk
        obtain ⟨o2, d2, E2⟩ := eager_of (hI.eager k hkL)
        have hdk : dstAt ops k = some d2 := by simp [dstAt, E2.at_, E2.dst]
        rw [hdk] at e
        cases e
        by_cases hne : i = k
        · subst hne
          rw [E2.at_] at ho
          cases ho
          exact E2.self ht
        · have := hpl k (E2.rd i hi hne (by simp only [readsOf, ho]; exact ht))
          rw [hku] at this
          cases this
      have ho : ops[i]? = some ops[i] := Array.getElem?_eq_getElem hi
      obtain ⟨o, ho'⟩ : ∃ o, ops[i]? = some o := ⟨_, ho⟩
      have hrd := hreads o ho'
      by_cases hiD : i ∈ D
      · obtain ⟨_, _, hiL⟩ := hI.dis i hiD
        obtain ⟨o2, d, E⟩ := eager_of (hI.eager i hiL)
        rw [E.at_] at ho'
        cases ho'
        have hdA : dstAt ops i = some d := by simp [dstAt, E.at_, E.dst]
        have next : ∀ (m' : List Place) (w' : World) (v' : Value), Step m H w m' H w' → VR m' (ts d) v' → wpAny P .any ops Q' fuel (listed.setIfInBounds i true) (a.put o.dst v') w' := by
          intro m' w' v' hst hv'
          refine ih _ plan L A (D.filter (· ≠ i)) ts H m' w' _ hdec hp hv ?_
          obtain ⟨o3, d3, b1, b2, hdn, _⟩ := hI.again i hiD
          rw [E.at_] at b1
          cases b1
          rw [E.dst] at b2
          cases b2
          refine ⟨by simp [hI.size], fun j hj => ?_, fun j hj => ?_, fun j hj => ?_, hclosed2, fun k hk => hI.again k (List.mem_filter.1 hk).1, hI.eager, hI.pre, hI.step.trans hst, ?_, (put_defers _ _ _).trans hI.df⟩
          · rw [hI.mem j hj, listed_set hisz]
            by_cases e : j = i
            · subst e; simp [hiD]
            · simp [e]
          · obtain ⟨h1, h2⟩ := List.mem_filter.1 hj
            obtain ⟨a1, a2, a3⟩ := hI.dis j h1
            refine ⟨a1, ?_, a3⟩
            rw [listed_set hisz, if_neg (by simpa using h2)]
            exact a2
          · obtain ⟨a1, a2⟩ := hI.act j hj
            refine ⟨a1, ?_⟩
            rw [listed_set hisz]
            split
            · rfl
            · exact a2
          · have h1 := (hI.tr.ext hst.ext).put (d := d) hdn hv'
            rw [E.dst]
            refine ⟨h1.1, fun t => ?_⟩
            have h2 := h1.2 t
            have : mask ops (D.filter (· ≠ i)) ts t = put d (ts d) (mask ops D ts) t := by
              by_cases e : t = d
              · subst e
                rw [put_same]
                refine mask_of fun k hk e => ?_
                obtain ⟨h3, h4⟩ := List.mem_filter.1 hk
                exact E.dne k (hI.dis k h3).1 (by simpa using h4) e
              · rw [put_ne e]
                by_cases hm : ∃ k ∈ D, dstAt ops k = some t
                · obtain ⟨k, hk, hkt⟩ := hm
                  have hki : k ≠ i := by
                    intro e2
                    subst e2
                    rw [hdA] at hkt
                    cases hkt
                    exact e rfl
                  rw [mask_in hk hkt, mask_in (List.mem_filter.2 ⟨hk, by simpa using hki⟩) hkt]
                · have hm' : ∀ k ∈ D, dstAt ops k ≠ some t := fun k hk e => hm ⟨k, hk, e⟩
                  rw [mask_of hm', mask_of fun k hk => hm' k (List.mem_filter.1 hk).1]
            rw [this]
            exact h2
        have hag := hI.again i hiD
        obtain ⟨o3, d3, b1, b2, hdn, hcase⟩ := hag
        rw [E.at_] at b1
        cases b1
        rw [E.dst] at b2
        cases b2
        unfold wpOp
        simp only [E.at_]
        rcases hcase with ⟨hw, he⟩ | ⟨hw, hu⟩
        · have hw2 : wantedA ops n o (mask ops D ts) = some true := by rw [wantedA_congr hrd]; exact hw
          have he2 : exec tab (evA (mask ops D ts)) H o.op = some (ts d, H) := by rw [exec_reads hrd]; exact he
          rw [wanted_sound hI.tr hw2, if_pos rfl]
          obtain ⟨nx, w', m', hrun, hst, hres⟩ := exec_sound hTab hI.step.rel (fun x => hI.tr.eval x) o he2
          refine .inl ?_
          unfold Oper.wp
          rw [hrun]
          rcases hres with ⟨v', rfl, hv'⟩ | ⟨rfl, hu⟩
          · rw [Oper.upon_value]
            exact next m' w' v' hst hv'
          · rw [Oper.upon_skip]
            exact next m' w' undef hst (by rw [hu]; trivial)
        · have hw2 : wantedA ops n o (mask ops D ts) = some false := by rw [wantedA_congr hrd]; exact hw
          rw [wanted_sound hI.tr hw2, if_neg (by simp)]
          exact next m w undef (Step.refl hI.step.rel) (by rw [hu]; exact ⟨[], rfl, rfl⟩)
      · have hnot : i ∉ L ∧ i ∉ A := by
          constructor
          · intro h
            rcases (hI.mem i hi).1 (.inl h) with h2 | h2
            · rw [hun] at h2; cases h2
            · exact hiD h2
          · intro h
            rcases (hI.mem i hi).1 (.inr h) with h2 | h2
            · rw [hun] at h2; cases h2
            · exact hiD h2
        have hpre : ∀ k ∈ predsOf ops i, k ∈ L ∨ k ∈ A := by
          intro k hk
          have hkl : k < ops.size := by
            simp only [backOk, List.all_eq_true, List.mem_range, decide_eq_true_eq] at hback
            have := hback i hi k hk
            omega
          exact (hI.mem k hkl).2 (.inl (hpl k hk))
        have hact : ∃ e chk p other, plan = .act e chk p other := by
          rcases hform with rfl | h
          · simp only [planOk, Bool.and_eq_true, List.all_eq_true, List.mem_range, Bool.or_eq_true] at hp
            rcases hp.2 i hi with h | h
            · exact absurd (by simpa using h) hnot.1
            · exact absurd (by simpa using h) hnot.2
          · exact h
        obtain ⟨chk, p, hchk, hp2, hstep⟩ := find_act hi hnot.1 hnot.2 hpre plan [] (.inr hact) (by simp) hp hv
        rw [ho'] at hstep
        simp only at hstep
        obtain ⟨hdst, hstep⟩ := hstep
        have hmaskput : ∀ v, mask ops D (putO o.dst v ts) = putO o.dst v (mask ops D ts) := by
          intro v
          cases hdd : o.dst with
          | none => rfl
          | some d =>
            funext t
            simp only [putO]
            by_cases e : t = d
            · subst e
              rw [put_same]
              rw [mask_of, put_same]
              intro k hk e
              obtain ⟨hkl, _, hkL⟩ := hI.dis k hk
              obtain ⟨o2, d2, E2⟩ := eager_of (hI.eager k hkL)
              have hdk : dstAt ops k = some d2 := by simp [dstAt, E2.at_, E2.dst]
              rw [hdk] at e
              cases e
              exact E2.dne i hi (fun e => hiD (e ▸ hk)) (by simp [dstAt, ho', hdd])
            · rw [put_ne e]
              simp only [mask, put_ne e]
        have next : ∀ (m' : List Place) (w' : World) (v : AV) (H' : Hp) (a' : Act), TR m' n (putO o.dst v (mask ops D ts)) a'.tmps → a'.defers = [] → Step m H w m' H' w' → (H' = H ∨ chkAll tab n ops chk (putO o.dst v ts) H') → vcPlan P tab n ops Q p (putO o.dst v ts) H' →
            wpAny P .any ops Q' fuel (listed.setIfInBounds i true) a' w' := by
          intro m' w' v H' a' ht' hd' hst hck hvp
          refine ih _ p L (i :: A) D (putO o.dst v ts) H' m' w' a' hdec hp2 hvp ?_
          refine ⟨by simp [hI.size], fun j hj => ?_, fun j hj => ?_, fun j hj => ?_, hclosed2, fun k hk => ?_, hI.eager, fun j hj k hk => ?_, hI.step.trans hst, by rw [hmaskput]; exact ht', hd'⟩
          · rw [listed_set hisz]
            by_cases e : j = i
            · subst e; simp
            · simp only [List.mem_cons, e, false_or, if_false]
              exact hI.mem j hj
          · obtain ⟨a1, a2, a3⟩ := hI.dis j hj
            refine ⟨a1, ?_, a3⟩
            rw [listed_set hisz, if_neg (by intro e; subst e; exact hiD hj)]
            exact a2
          · rcases List.mem_cons.1 hj with rfl | hj
            · exact ⟨hi, by rw [listed_set hisz, if_pos rfl]⟩
            · obtain ⟨a1, a2⟩ := hI.act j hj
              refine ⟨a1, ?_⟩
              rw [listed_set hisz]
              split
              · rfl
              · exact a2
          · obtain ⟨hkl, hku, hkL⟩ := hI.dis k hk
            obtain ⟨o2, d2, E2⟩ := eager_of (hI.eager k hkL)
            have hki : i ≠ k := fun e => hiD (e ▸ hk)
            have hr2 : ∀ t ∈ readsAt ops o2, ts t = putO o.dst v ts t := by
              intro t ht
              cases hdd : o.dst with
              | none => rfl
              | some d =>
                simp only [putO]
                refine (put_ne (fun e => ?_) v ts).symm
                subst e
                rcases E2.wr i _ hi hki (by simp [dstAt, ho', hdd]) ht with h | h
                · rcases hI.pre k (.inl hkL) i h with h | h
                  · exact hnot.1 h
                  · exact hnot.2 h
                · have := hpl k h
                  rw [hku] at this
                  cases this
            have hd2 : ts d2 = putO o.dst v ts d2 := by
              cases hdd : o.dst with
              | none => rfl
              | some d =>
                simp only [putO]
                refine (put_ne (fun e => ?_) v ts).symm
                subst e
                exact E2.dne i hi hki (by simp [dstAt, ho', hdd])
            by_cases hH : H' = H ∨ looksIn o2 = false
            · exact (hI.again k hk).keep E2 hr2 hd2 hH
            · have hck' : chkAll tab n ops chk (putO o.dst v ts) H' := by
                rcases hck with e | e
                · exact absurd (.inl e) hH
                · exact e
              have hlook : lookInAt ops k = true := by
                simp only [lookInAt, E2.at_]
                cases h : looksIn o2 with
                | true => rfl
                | false => exact absurd (.inr h) hH
              have hmem : k ∈ chk := by
                have := List.all_eq_true.1 hchk k hkL
                simp only [hlook, Bool.not_true, Bool.false_or, Bool.or_eq_true, List.any_eq_true] at this
                rcases this with h | ⟨x, hx, h⟩
                · simpa using h
                · have hxl : (listed.setIfInBounds i true).getD x false = true := by
                    rw [listed_set hisz]
                    rcases List.mem_cons.1 hx with rfl | hx
                    · simp
                    · rw [(hI.act x hx).2]
                      simp
                  have := predsT_listed (by simp [hI.size]) hclosed2 k ops.size x hxl h
                  rw [listed_set hisz, if_neg (fun e => hki e.symm), hku] at this
                  cases this
              have hc := hck'.mem hmem
              unfold chkAt at hc
              rw [E2.at_] at hc
              simp only [E2.dst] at hc
              obtain ⟨o3, d3, b1, b2, hdn, hcase⟩ := hI.again k hk
              rw [E2.at_] at b1
              cases b1
              rw [E2.dst] at b2
              cases b2
              refine ⟨o2, d2, E2.at_, E2.dst, hdn, ?_⟩
              rw [← wantedA_congr hr2] at hc ⊢
              rcases hcase with ⟨hw, he⟩ | ⟨hw, hu⟩
              · rw [hw] at hc
                exact .inl ⟨hw, hc⟩
              · exact .inr ⟨hw, by rw [← hd2]; exact hu⟩
          · have up : ∀ {x}, (x ∈ L ∨ x ∈ A) → (x ∈ L ∨ x ∈ i :: A) := fun h => h.elim .inl (fun h => .inr (by simp [h]))
            rcases hj with hj | hj
            · exact up (hI.pre j (.inl hj) k hk)
            · rcases List.mem_cons.1 hj with rfl | hj
              · exact up (hpre k hk)
              · exact up (hI.pre j (.inr hj) k hk)
        unfold wpOp
        simp only [ho']
        cases hw : wantedA ops n o ts with
        | none => rw [hw] at hstep; exact hstep.elim
        | some b =>
          rw [hw] at hstep
          have hw2 : wantedA ops n o (mask ops D ts) = some b := by rw [wantedA_congr hrd]; exact hw
          rw [wanted_sound hI.tr hw2]
          cases b with
          | true =>
            simp only [if_true] at hstep ⊢
            have hstep2 := vcOp_congr (fun t ht => (hrd t ht).symm) hstep
            refine .inl (vcOp_sound hTab hI.step.rel hI.tr hI.df o hdst hstep2 ?_)
            rintro a' w' m' ts' H' ht' hd' hst ⟨v, rfl, hck, hvp⟩
            exact next m' w' v H' a' ht' hd' hst (.inr hck) hvp
          | false =>
            simp only [Bool.false_eq_true, if_false] at hstep ⊢
            exact next m w (.tup []) H _ (hI.tr.putO hdst (v := .tup []) ⟨[], rfl, rfl⟩) ((put_defers _ _ _).trans hI.df) (Step.refl hI.step.rel) (.inl rfl) hstep
theorem vcDraw_sound {P : Program} {tab : Tab} (hTab : TabOk P tab) {n : Nat} {id : Nat} {ops : Array Oper} {K : TS → Hp → Prop} {ts : TS} {H : Hp} {m : List Place} {w : World} {a : Act} (h : Rel m H w) (hT : TR m n ts a.tmps) (hd : a.defers = []) (hv : vcDraw P tab n ops K ts H) {Q : Exit → Act → World → Prop}
    (hQ : ∀ a' w' m' ts' H', TR m' n ts' a'.tmps → a'.defers = [] → Step m H w m' H' w' → K ts' H' → Q .normal a' w') : (Code.region id ops true).wp P Q a w := by
  obtain ⟨hm, p, hok, hv⟩ := hv
  simp only [drawOk, Bool.and_eq_true] at hok
  refine wp_region_any hm ?_
  refine plan_sound hTab hok.1 hQ ops.size _ p [] [] [] ts H m _ a ?_ hok.2 hv ?_
  · unfold unlisted
    exact Nat.le_trans (List.length_filter_le _ _) (by simp)
  · have hz : ∀ j, (Array.replicate ops.size false).getD j false = false := by
      intro j
      rw [Array.getD_eq_getD_getElem?, Array.getElem?_replicate]
      split <;> rfl
    refine ⟨by simp, (fun j hj => by simp [hz j]), (fun j hj => by simp at hj), (fun j hj => by simp at hj), (fun j hj hl => by rw [hz j] at hl; cases hl), (fun i hi => by simp at hi), (fun i hi => by simp at hi), (fun j hj => by simp at hj), Step.drew h, by rw [mask_nil]; exact hT, hd⟩
end Go.Proofs.Ythihphgfblonoaa.Am
