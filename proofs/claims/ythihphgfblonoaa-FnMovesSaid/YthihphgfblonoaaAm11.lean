/- What is to be shown of a text on the abstract heap, and that the model's run then meets it. No condition. -/
import Derived.Test.YthihphgfblonoaaAm10
import Derived.Control
namespace Go.Proofs.Ythihphgfblonoaa.Am
open Go Go.RowKit
set_option linter.unusedSimpArgs false
set_option linter.unusedVariables false

def vc (P : Program) (tab : Tab) (n : Nat) : Code → (Ex → TS → Hp → Prop) → TS → Hp → Prop
  | .skip, Q, ts, H => Q .normal ts H
  | .region _ ops false, Q, ts, H => vcOps P tab n ops (Q .normal) ops.toList ts H
  | .region _ ops true, Q, ts, H => vcDraw P tab n ops (Q .normal) ts H
  | .seq a b, Q, ts, H => vc P tab n a (fun x ts' H' => match x with | .normal => vc P tab n b Q ts' H' | x => Q x ts' H') ts H
  | .cond c a b, Q, ts, H => match evA ts c with
    | .bool t => if t = true then vc P tab n a Q ts H else vc P tab n b Q ts H
    | _ => False
  | .block id b, Q, ts, H => vc P tab n b (fun x ts' H' => match x with | .exit i => if i = id then Q .normal ts' H' else Q (.exit i) ts' H' | x => Q x ts' H') ts H
  | .loop b, Q, ts, H => ∀ I : TS → Hp → Prop, (∀ ts H, vc P tab n b (fun x ts' H' => match x with | .normal => I ts' H' | x => Q x ts' H') ts H → I ts H) → I ts H
  | .exit id, Q, ts, H => Q (.exit id) ts H
  | .ret, Q, ts, H => Q .ret ts H
  | _, _, _, _ => False

/-- What a stretch of text comes to, on the model's run. -/
def Post (P : Program) (n : Nat) (Q : Ex → TS → Hp → Prop) (m : List Place) (H : Hp) (w : World) : Exit → Act → World → Prop := fun e a' w' =>
  ∃ x m' ts' H', e = Ex.of x ∧ a'.defers = [] ∧ TR m' n ts' a'.tmps ∧ Step m H w m' H' w' ∧ Q x ts' H'
def Go (P : Program) (n : Nat) (c : Code) (Q : Ex → TS → Hp → Prop) (ts : TS) (H : Hp) : Prop :=
  ∀ (m : List Place) (w : World) (a : Act), Rel m H w → TR m n ts a.tmps → a.defers = [] → c.wp P (Post P n Q m H w) a w
theorem Post.step {P : Program} {n : Nat} {Q : Ex → TS → Hp → Prop} {m m1 : List Place} {H H1 : Hp} {w w1 : World} (h : Step m H w m1 H1 w1) {e : Exit} {a : Act} {w2 : World} (k : Post P n Q m1 H1 w1 e a w2) : Post P n Q m H w e a w2 := by
  obtain ⟨x, m', ts', H', a1, a2, a3, a4, a5⟩ := k
  exact ⟨x, m', ts', H', a1, a2, a3, h.trans a4, a5⟩

theorem loop_again {P : Program} {c : Code} {Q : Exit → Act → World → Prop} {a : Act} {w : World} {N : Act → World → Prop}
    (hN : ∀ a w, N a w → ∀ (b : Frame) (k : List Item) (cs : List Frame), ∃ e a' w', Q e a' w' ∧ Arrives P (lone (b.at a (.inLoop c :: k)) cs w) b k cs e a' w')
    (h : c.wp P (Exit.then N Q) a w) (b : Frame) (k : List Item) (cs : List Frame) : ∃ e a' w', Q e a' w' ∧ Arrives P (lone (b.at a (.code c :: .inLoop c :: k)) cs w) b k cs e a' w' := by
  obtain ⟨e, a₁, w₁, hq, harr⟩ := h b (.inLoop c :: k) cs
  cases e with
  | normal =>
    obtain ⟨e₂, a₂, w₂, hq₂, harr₂⟩ := hN a₁ w₁ hq b k cs
    exact ⟨e₂, a₂, w₂, hq₂, .of_steps harr harr₂⟩
  | exit id => exact ⟨_, a₁, w₁, hq, .pass (x := .inLoop c) rfl (fun _ _ => .inl (by simp)) harr⟩
  | goto l => exact ⟨_, a₁, w₁, hq, .pass (x := .inLoop c) rfl (fun _ _ => .inl (by simp)) harr⟩
  | ret => exact ⟨_, a₁, w₁, hq, .pass (x := .inLoop c) rfl (fun _ _ => .inl (by simp)) harr⟩
  | panic ch => exact ⟨_, a₁, w₁, hq, .pass (x := .inLoop c) rfl (fun _ _ => .inl (by simp)) harr⟩
  | outgrown => exact ⟨_, a₁, w₁, hq, .pass (x := .inLoop c) rfl (fun _ _ => .inl (by simp)) harr⟩

theorem vc_sound {P : Program} {tab : Tab} (hTab : TabOk P tab) {n : Nat} : ∀ (c : Code) (Q : Ex → TS → Hp → Prop) (ts : TS) (H : Hp), vc P tab n c Q ts H → Go P n c Q ts H := by
  intro c
  induction c with
  | skip =>
    intro Q ts H hv m w a h hT hd
    exact wp_skip ⟨.normal, m, ts, H, rfl, hd, hT, Step.refl h, hv⟩
  | region id ops draw =>
    intro Q ts H hv m w a h hT hd
    cases draw with
    | true => exact vcDraw_sound hTab (Q := Post P n Q m H w) h hT hd hv (fun a' w' m' ts' H' t1 t2 t3 t4 => ⟨.normal, m', ts', H', rfl, t2, t1, t3, t4⟩)
    | false =>
      refine wp_region ?_
      have := vcOps_sound hTab ops (Q .normal) (Q := Post P n Q m H w) ops.toList 0 m H w ts a (fun j => by simp) h hT hd hv (fun a' w' m' ts' H' t1 t2 t3 t4 => ⟨.normal, m', ts', H', rfl, t2, t1, t3, t4⟩)
      simpa using this
  | seq x y ihx ihy =>
    intro Q ts H hv m w a h hT hd
    refine wp_seq (wp_mono (ihx _ ts H hv m w a h hT hd) ?_)
    rintro e a' w' ⟨x', m', ts', H', rfl, t1, t2, t3, t4⟩
    cases x' with
    | normal => exact wp_mono (ihy Q ts' H' t4 m' w' a' t3.rel t2 t1) (fun e a2 w2 k => k.step t3)
    | exit id => exact ⟨.exit id, m', ts', H', rfl, t1, t2, t3, t4⟩
    | ret => exact ⟨.ret, m', ts', H', rfl, t1, t2, t3, t4⟩
  | cond c x y ihx ihy =>
    intro Q ts H hv m w a h hT hd
    simp only [vc] at hv
    split at hv
    · rename_i t ht
      have hc := hT.eval c
      rw [ht] at hc
      have hc' : a.eval c = .bool t := hc
      refine wp_cond hc' ?_
      cases t with
      | true => rw [if_pos rfl] at hv ⊢; exact ihx Q ts H hv m w a h hT hd
      | false => rw [if_neg (by simp)] at hv ⊢; exact ihy Q ts H hv m w a h hT hd
    · exact hv.elim
  | block id x ih =>
    intro Q ts H hv m w a h hT hd
    refine wp_block (wp_mono (ih _ ts H hv m w a h hT hd) ?_)
    rintro e a' w' ⟨x', m', ts', H', rfl, t1, t2, t3, t4⟩
    cases x' with
    | normal => exact ⟨.normal, m', ts', H', rfl, t1, t2, t3, t4⟩
    | exit id' =>
      simp only [Ex.of, Exit.inBlock]
      split
      · rename_i e
        simp only [e, if_true] at t4
        exact ⟨.normal, m', ts', H', rfl, t1, t2, t3, t4⟩
      · rename_i e
        simp only [e, if_false] at t4
        exact ⟨.exit id', m', ts', H', rfl, t1, t2, t3, t4⟩
    | ret => exact ⟨.ret, m', ts', H', rfl, t1, t2, t3, t4⟩
  | loop x ih =>
    intro Q ts H hv
    have key := hv (fun ts H => (∀ (m : List Place) (w : World) (a : Act), Rel m H w → TR m n ts a.tmps → a.defers = [] → ∀ (b : Frame) (k : List Item) (cs : List Frame),
        ∃ e a' w', Post P n Q m H w e a' w' ∧ Arrives P (lone (b.at a (.inLoop x :: k)) cs w) b k cs e a' w') ∧ Go P n (.loop x) Q ts H) ?_
    · exact key.2
    · intro ts H hv2
      have body : ∀ (m : List Place) (w : World) (a : Act), Rel m H w → TR m n ts a.tmps → a.defers = [] → ∀ (b : Frame) (k : List Item) (cs : List Frame),
          ∃ e a' w', Post P n Q m H w e a' w' ∧ Arrives P (lone (b.at a (.code x :: .inLoop x :: k)) cs w) b k cs e a' w' := by
        intro m w a h hT hd
        refine loop_again (N := fun a1 w1 => ∃ m' ts' H', a1.defers = [] ∧ TR m' n ts' a1.tmps ∧ Step m H w m' H' w1 ∧ (∀ (m : List Place) (w : World) (a : Act), Rel m H' w → TR m n ts' a.tmps → a.defers = [] → ∀ (b : Frame) (k : List Item) (cs : List Frame),
          ∃ e a' w', Post P n Q m H' w e a' w' ∧ Arrives P (lone (b.at a (.inLoop x :: k)) cs w) b k cs e a' w')) ?_ ?_
        · rintro a1 w1 ⟨m', ts', H', t1, t2, t3, t4⟩ b k cs
          obtain ⟨e, a2, w2, p1, p2⟩ := t4 m' w1 a1 t3.rel t2 t1 b k cs
          exact ⟨e, a2, w2, p1.step t3, p2⟩
        · refine wp_mono (ih _ ts H hv2 m w a h hT hd) ?_
          rintro e a' w' ⟨x', m', ts', H', rfl, t1, t2, t3, t4⟩
          cases x' with
          | normal => exact ⟨m', ts', H', t1, t2, t3, t4.1⟩
          | exit id => exact ⟨.exit id, m', ts', H', rfl, t1, t2, t3, t4⟩
          | ret => exact ⟨.ret, m', ts', H', rfl, t1, t2, t3, t4⟩
      refine ⟨fun m w a h hT hd b k cs => ?_, fun m w a h hT hd b k cs => ?_⟩
      · obtain ⟨e, a', w', p1, p2⟩ := body m w a h hT hd b k cs
        exact ⟨e, a', w', p1, .of_steps (.one step_inLoop) p2⟩
      · obtain ⟨e, a', w', p1, p2⟩ := body m w a h hT hd b k cs
        exact ⟨e, a', w', p1, .of_steps (.one step_loop) p2⟩
  | exit id =>
    intro Q ts H hv m w a h hT hd
    exact wp_exit ⟨.exit id, m, ts, H, rfl, hd, hT, Step.refl h, hv⟩
  | ret =>
    intro Q ts H hv m w a h hT hd
    exact wp_ret ⟨.ret, m, ts, H, rfl, hd, hT, Step.refl h, hv⟩
  | _ =>
    intro Q ts H hv
    exact hv.elim

/-! ### a function -/
def resA (tab : Tab) (H : Hp) (ts : TS) : List ResultVar → Option (List AV)
  | [] => some []
  | .tmp t :: l => (resA tab H ts l).map (ts t :: ·)
  | .cell a t :: l => match tab t with
    | some ty => match loadA ty H (ts a) with
      | some v => (resA tab H ts l).map (v :: ·)
      | none => none
    | none => none
def resV (l : List AV) : AV := match l with | [v] => v | l => .tup l
def start (args : List AV) : TS := fun t => args.getD t .und
theorem VRs.getD {m : List Place} {l : List AV} {vs : List Value} (h : VRs m l vs) (t : Nat) : VR m (l.getD t .und) (vs.getD t undef) := by
  cases e : l[t]? with
  | none => simp [List.getD, e, VR]
  | some a =>
    obtain ⟨v, e2, k⟩ := h.get t a e
    simpa [List.getD, e, e2] using k
def resRun (tmps : Array Value) (r : ResultVar) : Sem Value := match r with
  | .tmp t => pure (tmps.getD t undef)
  | .cell a t => do loadVar t (← asAddr (tmps.getD a undef))
theorem results_eq (fn : Func) (tmps : Array Value) : results fn tmps = (do let vs ← fn.results.mapM (resRun tmps); pure (if h : vs.size = 1 then vs[0] else .tuple vs)) := rfl
theorem loadA_ptr {ty : Ty} {H : Hp} {a v : AV} (h : loadA ty H a = some v) : ∃ b o, a = .ptr b o := by
  cases a <;> simp only [loadA] at h <;> try cases h
  exact ⟨_, _, rfl⟩
theorem res_sound {P : Program} {tab : Tab} (hTab : TabOk P tab) {m : List Place} {n : Nat} {ts : TS} {tmps : Array Value} {H : Hp} {w : World} (hR : Rel m H w) (hT : TR m n ts tmps) : ∀ {l : List ResultVar} {r : List AV}, resA tab H ts l = some r →
    ∃ vs, (l.mapM (resRun tmps)).run P w = .ok vs w ∧ VRs m r vs
  | [], r, h => by cases h; exact ⟨[], rfl, rfl⟩
  | .tmp t :: l, r, h => by
    simp only [resA] at h
    obtain ⟨q, hq, e⟩ := map_some h
    subst e
    obtain ⟨vs, h1, h2⟩ := res_sound hTab hR hT hq
    refine ⟨tmps.getD t undef :: vs, ?_, ⟨_, _, rfl, hT.2 t, h2⟩⟩
    simp only [List.mapM_cons, resRun, Sem.run_bind, Sem.run_pure, Result.andThen_ok]
    rw [h1]
    rfl
  | .cell a t :: l, r, h => by
    simp only [resA] at h
    split at h
    · rename_i ty hty
      split at h
      · rename_i v hv
        obtain ⟨q, hq, e⟩ := map_some h
        subst e
        obtain ⟨vs, h1, h2⟩ := res_sound hTab hR hT hq
        have ha := hT.2 a
        obtain ⟨v', hr, k⟩ := load_sound hTab hR hty ha hv
        obtain ⟨b, o, e⟩ := loadA_ptr hv
        rw [e] at ha
        obtain ⟨p, hp, e2⟩ := ha
        have hrun : (resRun tmps (.cell a t)).run P w = .ok v' w := by
          rw [e2] at hr
          simpa [resRun, e2, asAddr, Instr.loadAt, Instr.sureAddr] using hr
        refine ⟨v' :: vs, ?_, ⟨_, _, rfl, k, h2⟩⟩
        simp only [List.mapM_cons, Sem.run_bind, hrun, Result.andThen_ok]
        rw [h1]
        rfl
      · cases h
    · cases h
/-- A function, told by its text. -/
theorem T.of {P : Program} {tab : Tab} (hTab : TabOk P tab) {f : FuncId} {fn : Func} {c : Code} (hf : P.funcs[f]? = some fn) (hname : (fn.name == "runtime.NumGoroutine") = false) (hb : fn.body = some c) (args : List AV) (hn : args.length ≤ fn.ntmps) (H : Hp) (Q : AV → Hp → Prop)
    (hv : vc P tab fn.ntmps c (fun x ts H' => match x with | .exit _ => False | _ => match resA tab H' ts fn.results.toList with | some r => Q (resV r) H' | none => False) (start args) H) : T P f args H Q := by
  refine ⟨⟨fn, hf, hname, by rw [hb]; rfl⟩, fun m w vs h hvs => ?_⟩
  refine calls_of_wp hf hb ?_
  have hlen := hvs.length
  refine wp_mono (vc_sound hTab c _ _ _ hv m w _ h ⟨by simp; omega, fun t => ?_⟩ rfl) ?_
  · have := hvs.getD t
    have e : (vs.toArray ++ Array.replicate (fn.ntmps - vs.toArray.size) undef).getD t undef = vs.getD t undef := by
      simp only [Array.getD_eq_getD_getElem?, List.getD_eq_getElem?_getD, Array.getElem?_append, List.getElem?_toArray, List.size_toArray]
      split
      · rfl
      · rename_i hlt
        rw [Array.getElem?_replicate, List.getElem?_eq_none (by omega)]
        split <;> rfl
    rw [e]
    exact this
  · rintro e a' w' ⟨x, m', ts', H', rfl, t1, t2, t3, t4⟩
    have fin : ∀ r, resA tab H' ts' fn.results.toList = some r → Q (resV r) H' → ∃ v, (results fn a'.tmps).run P w' = .ok v w' ∧ ∃ v0 v' m' H', Ending.returned v = .returned v' ∧ VR m' v0 v' ∧ Step m H w m' H' w' ∧ Q v0 H' := by
      intro r hr hq
      obtain ⟨vs2, h1, h2⟩ := res_sound hTab t3.rel t2 hr
      refine ⟨(if h : vs2.toArray.size = 1 then vs2.toArray[0] else .tuple vs2.toArray), ?_, resV r, _, m', H', rfl, ?_, t3, hq⟩
      · rw [results_eq, Array.mapM_eq_mapM_toList]
        simp only [Sem.run_bind, Sem.run_map]
        rw [h1]
        rfl
      · have hl := h2.length
        by_cases h1 : r.length = 1
        · match r, h1 with
          | [v], _ =>
            obtain ⟨v', r', rfl, k1, k2⟩ := h2
            cases k2
            simpa [resV] using k1
        · have e : resV r = .tup r := by
            match r, h1 with
            | [], _ => rfl
            | [v], h => exact absurd rfl h
            | _ :: _ :: _, _ => rfl
          have hsz : ¬ (vs2.toArray.size = 1) := by
            simp only [List.size_toArray]
            omega
          rw [dif_neg hsz, e]
          exact ⟨vs2, rfl, h2⟩
    cases x with
    | normal =>
      simp only at t4
      split at t4
      · rename_i r hr
        exact ⟨t1, fin r hr t4⟩
      · exact t4.elim
    | exit id => exact t4.elim
    | ret =>
      simp only at t4
      split at t4
      · rename_i r hr
        exact ⟨t1, fin r hr t4⟩
      · exact t4.elim
end Go.Proofs.Ythihphgfblonoaa.Am
