/- What is to be shown of a text on the abstract heap, and that the model's run then meets it. No condition. -/
import Derived.Test.YthihphgfblonoaaAm6
import Derived.Control
namespace Go.Proofs.Ythihphgfblonoaa.Am
open Go Go.RowKit
set_option linter.unusedSimpArgs false
set_option linter.unusedVariables false

/-- A function that a call enters. -/
def Enters (P : Program) (f : FuncId) : Prop := ∃ fn, P.funcs[f]? = some fn ∧ (fn.name == "runtime.NumGoroutine") = false ∧ fn.body.isNone = false
/-- A call comes to its end, with what Q tells. -/
def T (P : Program) (f : FuncId) (args : List AV) (H : Hp) (Q : AV → Hp → Prop) : Prop :=
  Enters P f ∧ ∀ (m : List Place) (w : World) (vs : List Value), Rel m H w → VRs m args vs →
    Calls P f vs.toArray w fun e w' => ∃ v v' m' H', e = .returned v' ∧ VR m' v v' ∧ Step m H w m' H' w' ∧ Q v H'
theorem T.mono {P : Program} {f : FuncId} {args : List AV} {H : Hp} {Q Q' : AV → Hp → Prop} (h : T P f args H Q) (k : ∀ v H', Q v H' → Q' v H') : T P f args H Q' :=
  ⟨h.1, fun m w vs hr hv => (h.2 m w vs hr hv).mono fun e w' ⟨v, v', m', H', a, b, c, d⟩ => ⟨v, v', m', H', a, b, c, k _ _ d⟩⟩

inductive Ex where
  | normal
  | exit (id : Nat)
  | ret
def Ex.of : Ex → Exit
  | .normal => .normal
  | .exit id => .exit id
  | .ret => .ret

def put (d : Nat) (v : AV) (ts : TS) : TS := fun t => if t = d then v else ts t
theorem put_same (d : Nat) (v : AV) (ts : TS) : put d v ts d = v := if_pos rfl
theorem put_ne {d t : Nat} (h : t ≠ d) (v : AV) (ts : TS) : put d v ts t = ts t := if_neg h
def putO (d : Option Nat) (v : AV) (ts : TS) : TS := match d with | some d => put d v ts | none => ts
def dstOk (n : Nat) : Option Nat → Bool
  | some d => decide (d < n)
  | none => true
def wantedA (ops : Array Oper) (n : Nat) (o : Oper) (ts : TS) : Option Bool :=
  match o.guard with
  | none => some true
  | some (j, want) => match (ops[j]?).bind (·.dst) with
    | some d => if d < n then match ts d with | .bool b => some (b == want) | .tup [] => some false | _ => none else none
    | none => none
def vcOp (P : Program) (tab : Tab) (o : Oper) (K : TS → Hp → Prop) (ts : TS) (H : Hp) : Prop :=
  match o.op with
  | .call { callee := .value f, args, argTypes := _ } => match evA ts f with
    | .fn g caps => T P g (args.toList.map (evA ts) ++ caps) H fun v H' => K (putO o.dst v ts) H'
    | _ => False
  | op => match exec tab (evA ts) H op with
    | some (v, H') => K (putO o.dst v ts) H'
    | none => False
def vcOps (P : Program) (tab : Tab) (n : Nat) (ops : Array Oper) (Q : TS → Hp → Prop) : List Oper → TS → Hp → Prop
  | [], ts, H => Q ts H
  | o :: rest, ts, H => dstOk n o.dst = true ∧ match wantedA ops n o ts with
    | some b => if b = true then vcOp P tab o (fun ts' H' => vcOps P tab n ops Q rest ts' H') ts H else vcOps P tab n ops Q rest (putO o.dst (.tup []) ts) H
    | none => False
/-- The frame, as the abstract one tells it. -/
def TR (m : List Place) (n : Nat) (ts : TS) (tmps : Array Value) : Prop := tmps.size = n ∧ ∀ t, VR m (ts t) (tmps.getD t undef)
theorem TR.ext {m m' : List Place} {n : Nat} {ts : TS} {tmps : Array Value} (h : TR m n ts tmps) (he : Ext m m') : TR m' n ts tmps := ⟨h.1, fun t => (h.2 t).ext he⟩
theorem TR.put {m : List Place} {n : Nat} {ts : TS} {tmps : Array Value} (h : TR m n ts tmps) {d : Nat} (hd : d < n) {v : AV} {v' : Value} (hv : VR m v v') : TR m n (Am.put d v ts) (tmps.setIfInBounds d v') := by
  refine ⟨by simp [h.1], fun t => ?_⟩
  by_cases e : t = d
  · subst e
    rw [put_same]
    have : (tmps.setIfInBounds t v').getD t undef = v' := by
      rw [Array.getD_eq_getD_getElem?, Array.getElem?_setIfInBounds_self_of_lt (by rw [h.1]; exact hd)]
      rfl
    rw [this]
    exact hv
  · rw [put_ne e]
    have : (tmps.setIfInBounds d v').getD t undef = tmps.getD t undef := by
      rw [Array.getD_eq_getD_getElem?, Array.getElem?_setIfInBounds_ne (by omega), ← Array.getD_eq_getD_getElem?]
    rw [this]
    exact h.2 t
theorem TR.putO {m : List Place} {n : Nat} {ts : TS} {a : Act} (h : TR m n ts a.tmps) {d : Option Nat} (hd : dstOk n d = true) {v : AV} {v' : Value} (hv : VR m v v') : TR m n (Am.putO d v ts) (a.put d v').tmps := by
  cases d with
  | none => exact h
  | some d => exact h.put (by simpa [dstOk] using hd) hv
theorem put_defers (a : Act) (d : Option Nat) (v : Value) : (a.put d v).defers = a.defers := by cases d <;> rfl
theorem TR.eval {m : List Place} {n : Nat} {ts : TS} {a : Act} (h : TR m n ts a.tmps) (x : Operand) : VR m (evA ts x) (a.eval x) := by
  cases x with
  | tmp t => exact h.2 t
  | const v => exact ofConst_ok m v
  | global g => trivial
  | func f => exact ⟨[], rfl, rfl⟩

/-- A call of the text. -/
theorem call_sound {P : Program} {n : Nat} {K : TS → Hp → Prop} {ts : TS} {H : Hp} {m : List Place} {w : World} {a : Act} (h : Rel m H w) (hT : TR m n ts a.tmps) (hd : a.defers = []) (o : Oper) (f : Operand) (args : Array Operand) (argTypes : Array TypeId) (ho : o.op = .call { callee := .value f, args, argTypes }) (hdst : dstOk n o.dst = true)
    {g : FuncId} {caps : List AV} (hf : evA ts f = .fn g caps) (hc : T P g (args.toList.map (evA ts) ++ caps) H fun v H' => K (putO o.dst v ts) H') {next : Act → World → Prop} {Q : Exit → Act → World → Prop}
    (hn : ∀ a' w' m' ts' H', TR m' n ts' a'.tmps → a'.defers = [] → Step m H w m' H' w' → K ts' H' → next a' w') : o.wp P a w next Q := by
  have hfv := hT.eval f
  rw [hf] at hfv
  obtain ⟨cs, hfe, hcs⟩ := hfv
  obtain ⟨⟨fn, hfn, hname, hbody⟩, hcalls⟩ := hc
  have hargs : VRs m (args.toList.map (evA ts) ++ caps) (args.toList.map a.eval ++ cs) := (VRs.map (evA ts) a.eval (fun x => hT.eval x) args.toList).append hcs
  have hrun : (execOp a.eval o).run P w = .ok (.enter g (args.toList.map a.eval ++ cs).toArray) w := by
    simp only [execOp, ho, resolve, hfe, Deferred.ofValue, Sem.run_bind, Sem.run_pure, Result.andThen_ok, invoke, callFunc, run_program, hfn]
    simp [hname, hbody]
  unfold Oper.wp
  rw [hrun, Oper.upon_enter]
  refine (hcalls m w _ h hargs).mono ?_
  rintro e w' ⟨v, v', m', H', rfl, hv, hst, hK⟩
  exact hn _ _ m' _ H' ((hT.ext hst.ext).putO hdst hv) ((put_defers _ _ _).trans hd) hst hK
/-- An operation that is no call. -/
theorem oper_sound {P : Program} {tab : Tab} (hTab : TabOk P tab) {n : Nat} {K : TS → Hp → Prop} {ts : TS} {H : Hp} {m : List Place} {w : World} {a : Act} (h : Rel m H w) (hT : TR m n ts a.tmps) (hd : a.defers = []) (o : Oper) (hdst : dstOk n o.dst = true)
    (hc : match exec tab (evA ts) H o.op with | some (v, H') => K (putO o.dst v ts) H' | none => False) {next : Act → World → Prop} {Q : Exit → Act → World → Prop}
    (hn : ∀ a' w' m' ts' H', TR m' n ts' a'.tmps → a'.defers = [] → Step m H w m' H' w' → K ts' H' → next a' w') : o.wp P a w next Q := by
  cases he : exec tab (evA ts) H o.op with
  | none => rw [he] at hc; exact hc.elim
  | some r =>
    obtain ⟨v, H'⟩ := r
    rw [he] at hc
    obtain ⟨nx, w', m', hrun, hst, hres⟩ := exec_sound hTab h (fun x => hT.eval x) o he
    unfold Oper.wp
    rw [hrun]
    rcases hres with ⟨v', rfl, hv⟩ | ⟨rfl, rfl⟩
    · rw [Oper.upon_value]
      exact hn _ _ m' _ H' ((hT.ext hst.ext).putO hdst hv) ((put_defers _ _ _).trans hd) hst hc
    · rw [Oper.upon_skip]
      exact hn _ _ m' _ H' ((hT.ext hst.ext).putO hdst (v := .und) trivial) ((put_defers _ _ _).trans hd) hst hc
theorem vcOp_sound {P : Program} {tab : Tab} (hTab : TabOk P tab) {n : Nat} {K : TS → Hp → Prop} {ts : TS} {H : Hp} {m : List Place} {w : World} {a : Act} (h : Rel m H w) (hT : TR m n ts a.tmps) (hd : a.defers = []) (o : Oper) (hdst : dstOk n o.dst = true)
    (hc : vcOp P tab o K ts H) {next : Act → World → Prop} {Q : Exit → Act → World → Prop}
    (hn : ∀ a' w' m' ts' H', TR m' n ts' a'.tmps → a'.defers = [] → Step m H w m' H' w' → K ts' H' → next a' w') : o.wp P a w next Q := by
  unfold vcOp at hc
  split at hc
  · rename_i f args argTypes ho
    split at hc
    · rename_i g caps hf
      exact call_sound h hT hd o f args argTypes ho hdst hf hc hn
    · exact hc.elim
  · exact oper_sound hTab h hT hd o hdst hc hn

/-- A list of operations in the text's order. -/
theorem ops_list {P : Program} {ops : Array Oper} {Q : Exit → Act → World → Prop} : ∀ (l : List Nat) (a : Act) (w : World), wpOps P ops Q l a w ↔ wpOps P ops Q l a w := fun _ _ _ => Iff.rfl
theorem vcOps_sound {P : Program} {tab : Tab} (hTab : TabOk P tab) {n : Nat} (ops : Array Oper) (K : TS → Hp → Prop) {Q : Exit → Act → World → Prop} : ∀ (rest : List Oper) (i : Nat) (m : List Place) (H : Hp) (w : World) (ts : TS) (a : Act),
    (∀ j, ops[i + j]? = rest[j]?) → Rel m H w → TR m n ts a.tmps → a.defers = [] → vcOps P tab n ops K rest ts H →
    (∀ a' w' m' ts' H', TR m' n ts' a'.tmps → a'.defers = [] → Step m H w m' H' w' → K ts' H' → Q .normal a' w') → wpOps P ops Q ((List.range rest.length).map (i + ·)) a w
  | [], i, m, H, w, ts, a, hi, h, hT, hd, hv, hQ => by
    simp only [List.length_nil, List.range_zero, List.map_nil, wpOps]
    exact hQ a w m ts H hT hd (Step.refl h) hv
  | o :: rest, i, m, H, w, ts, a, hi, h, hT, hd, hv, hQ => by
    have hl : (List.range (o :: rest).length).map (i + ·) = i :: (List.range rest.length).map ((i + 1) + ·) := by
      simp only [List.length_cons, List.range_succ_eq_map, List.map_cons, List.map_map, Nat.add_zero]
      congr 1
      apply List.map_congr_left
      intro x _
      simp
      omega
    rw [hl]
    simp only [wpOps]
    have ho : ops[i]? = some o := by simpa using hi 0
    rw [ho]
    obtain ⟨hdst, hv⟩ := hv
    have hrest : ∀ j, ops[(i + 1) + j]? = rest[j]? := fun j => by
      have := hi (j + 1)
      rw [List.getElem?_cons_succ] at this
      rw [← this]
      congr 1
      omega
    have hwant : ∀ b, wantedA ops n o ts = some b → Region.wanted o (yielded ops a.tmps) = b := by
      intro b hb
      unfold wantedA at hb
      unfold Region.wanted
      split at hb
      · rename_i hg
        rw [hg]
        simp at hb
        simp [hb]
      · rename_i j want hg
        rw [hg]
        simp only
        split at hb
        · rename_i d hdd
          split at hb
          · rename_i hlt
            split at hb
            · rename_i c hc
              cases hb
              have h1 := hT.2 d
              rw [hc] at h1
              have h2 : a.tmps[d]? = some (.bool c) := by
                have hsz : d < a.tmps.size := by rw [hT.1]; exact hlt
                rw [Array.getElem?_eq_getElem hsz]
                have h3 : a.tmps.getD d undef = .bool c := h1
                rw [Array.getD_eq_getD_getElem?, Array.getElem?_eq_getElem hsz] at h3
                simpa using h3
              simp [yielded, hdd, h2]
            · rename_i hc
              cases hb
              have h1 := hT.2 d
              rw [hc] at h1
              have h2 : a.tmps[d]? = some (.tuple #[]) := by
                have hsz : d < a.tmps.size := by rw [hT.1]; exact hlt
                rw [Array.getElem?_eq_getElem hsz]
                obtain ⟨cs, h3, h4⟩ := h1
                cases h4
                rw [Array.getD_eq_getD_getElem?, Array.getElem?_eq_getElem hsz] at h3
                simpa using h3
              simp [yielded, hdd, h2]
            · cases hb
          · cases hb
        · cases hb
    simp only
    cases hw : wantedA ops n o ts with
    | none => rw [hw] at hv; exact hv.elim
    | some b =>
      rw [hw] at hv
      rw [hwant b hw]
      cases b with
      | true =>
        rw [if_pos rfl]
        simp only [if_true] at hv
        refine .inl (vcOp_sound hTab h hT hd o hdst hv ?_)
        intro a' w' m' ts' H' hT' hd' hst hK
        exact vcOps_sound hTab ops K rest (i + 1) m' H' w' ts' a' hrest hst.rel hT' hd' hK (fun a2 w2 m2 ts2 H2 t1 t2 t3 t4 => hQ a2 w2 m2 ts2 H2 t1 t2 (hst.trans t3) t4)
      | false =>
        rw [if_neg (by simp)]
        simp only [Bool.false_eq_true, if_false] at hv
        exact vcOps_sound hTab ops K rest (i + 1) m H w _ _ hrest h (hT.putO hdst (v := .tup []) ⟨[], rfl, rfl⟩) ((put_defers _ _ _).trans hd) hv hQ

end Go.Proofs.Ythihphgfblonoaa.Am
