/- The same conditions with what is left to do told as data, so that a proof steps through the text without looking ahead. No condition. -/
import Derived.Test.YthihphgfblonoaaAm13
namespace Go.Proofs.Ythihphgfblonoaa.Am
open Go Go.RowKit
set_option linter.unusedSimpArgs false
set_option linter.unusedVariables false

inductive Fm where
  | sq (c : Code)
  | bl (id : Nat)
  | iv (I : TS → Hp → Prop)
def post (P : Program) (tab : Tab) (n : Nat) : List Fm → (Ex → TS → Hp → Prop) → Ex → TS → Hp → Prop
  | [], Q, x, ts, H => Q x ts H
  | .sq c :: k, Q, x, ts, H => match x with
    | .normal => vc P tab n c (fun x ts H => post P tab n k Q x ts H) ts H
    | x => post P tab n k Q x ts H
  | .bl id :: k, Q, x, ts, H => match x with
    | .exit i => if i = id then post P tab n k Q .normal ts H else post P tab n k Q (.exit i) ts H
    | x => post P tab n k Q x ts H
  | .iv I :: k, Q, x, ts, H => match x with
    | .normal => I ts H
    | x => post P tab n k Q x ts H
def W (P : Program) (tab : Tab) (n : Nat) (c : Code) (k : List Fm) (Q : Ex → TS → Hp → Prop) (ts : TS) (H : Hp) : Prop := vc P tab n c (fun x ts H => post P tab n k Q x ts H) ts H
/-- The operations that are left. -/
def Rg (P : Program) (tab : Tab) (n : Nat) (ops : Array Oper) (l : List Oper) (k : List Fm) (Q : Ex → TS → Hp → Prop) (ts : TS) (H : Hp) : Prop := vcOps P tab n ops (fun ts H => post P tab n k Q .normal ts H) l ts H
/-- What is left behind a call. -/
def After (P : Program) (tab : Tab) (n : Nat) (ops : Array Oper) (d : Option Nat) (l : List Oper) (k : List Fm) (Q : Ex → TS → Hp → Prop) (ts : TS) (v : AV) (H : Hp) : Prop := Rg P tab n ops l k Q (putO d v ts) H
def St (P : Program) (tab : Tab) (n : Nat) (ops : Array Oper) (o : Oper) (l : List Oper) (k : List Fm) (Q : Ex → TS → Hp → Prop) (ts : TS) (H : Hp) : Prop := vcOp P tab o (fun ts H => Rg P tab n ops l k Q ts H) ts H
/-- A drawing region. -/
def Dr (P : Program) (tab : Tab) (n : Nat) (ops : Array Oper) (p : Plan) (k : List Fm) (Q : Ex → TS → Hp → Prop) (ts : TS) (H : Hp) : Prop := vcPlan P tab n ops (fun ts H => post P tab n k Q .normal ts H) p ts H
def DSt (P : Program) (tab : Tab) (n : Nat) (ops : Array Oper) (o : Oper) (chk : List Nat) (p : Plan) (k : List Fm) (Q : Ex → TS → Hp → Prop) (ts : TS) (H : Hp) : Prop := vcOp P tab o (fun ts' H' => chkAll tab n ops chk ts' H' ∧ Dr P tab n ops p k Q ts' H') ts H
def DAfter (P : Program) (tab : Tab) (n : Nat) (ops : Array Oper) (d : Option Nat) (chk : List Nat) (p : Plan) (k : List Fm) (Q : Ex → TS → Hp → Prop) (ts : TS) (v : AV) (H : Hp) : Prop := chkAll tab n ops chk (putO d v ts) H ∧ Dr P tab n ops p k Q (putO d v ts) H
/-- A function's end. -/
def Fin (tab : Tab) (l : List ResultVar) (Q : AV → Hp → Prop) (x : Ex) (ts : TS) (H : Hp) : Prop := match x with
  | .exit _ => False
  | _ => match resA tab H ts l with | some r => Q (resV r) H | none => False

section
variable {P : Program} {tab : Tab} {n : Nat} {k : List Fm} {Q : Ex → TS → Hp → Prop} {ts : TS} {H : Hp}
@[simp] theorem W_skip : W P tab n .skip k Q ts H = post P tab n k Q .normal ts H := Eq.trans rfl rfl
@[simp] theorem W_exit (id : Nat) : W P tab n (.exit id) k Q ts H = post P tab n k Q (.exit id) ts H := Eq.trans rfl rfl
@[simp] theorem W_ret : W P tab n .ret k Q ts H = post P tab n k Q .ret ts H := Eq.trans rfl rfl
@[simp] theorem W_seq (a b : Code) : W P tab n (.seq a b) k Q ts H = W P tab n a (.sq b :: k) Q ts H := by
  simp only [W, vc]
  congr 1
@[simp] theorem W_block (id : Nat) (b : Code) : W P tab n (.block id b) k Q ts H = W P tab n b (.bl id :: k) Q ts H := by
  simp only [W, vc]
  congr 1
@[simp] theorem W_cond (c : Operand) (a b : Code) : W P tab n (.cond c a b) k Q ts H = (match evA ts c with | .bool t => if t = true then W P tab n a k Q ts H else W P tab n b k Q ts H | _ => False) := Eq.trans rfl rfl
@[simp] theorem W_region (id : Nat) (ops : Array Oper) : W P tab n (.region id ops false) k Q ts H = Rg P tab n ops ops.toList k Q ts H := Eq.trans rfl rfl
theorem W_draw {id : Nat} {ops : Array Oper} (hm : P.follows .mixedOrders = true) (p : Plan) (hok : drawOk ops p = true) (h : Dr P tab n ops p k Q ts H) : W P tab n (.region id ops true) k Q ts H := ⟨hm, p, hok, h⟩
theorem W_loop (b : Code) (h : ∀ I : TS → Hp → Prop, (∀ ts H, W P tab n b (.iv I :: k) Q ts H → I ts H) → I ts H) : W P tab n (.loop b) k Q ts H := fun I hI => h I fun ts H hw => hI ts H (by
  have : (fun x ts H => post P tab n (.iv I :: k) Q x ts H) = (fun x ts' H' => match x with | .normal => I ts' H' | x => post P tab n k Q x ts' H') := by
    funext x ts H
    cases x <;> rfl
  unfold W at hw
  rw [this] at hw
  exact hw)
@[simp] theorem post_nil (x : Ex) : post P tab n [] Q x ts H = Q x ts H := Eq.trans rfl rfl
@[simp] theorem post_sq (c : Code) : post P tab n (.sq c :: k) Q .normal ts H = W P tab n c k Q ts H := Eq.trans rfl rfl
@[simp] theorem post_sq_exit (c : Code) (i : Nat) : post P tab n (.sq c :: k) Q (.exit i) ts H = post P tab n k Q (.exit i) ts H := Eq.trans rfl rfl
@[simp] theorem post_sq_ret (c : Code) : post P tab n (.sq c :: k) Q .ret ts H = post P tab n k Q .ret ts H := Eq.trans rfl rfl
@[simp] theorem post_bl (i : Nat) : post P tab n (.bl i :: k) Q .normal ts H = post P tab n k Q .normal ts H := Eq.trans rfl rfl
@[simp] theorem post_bl_ret (i : Nat) : post P tab n (.bl i :: k) Q .ret ts H = post P tab n k Q .ret ts H := Eq.trans rfl rfl
@[simp] theorem post_bl_exit (i j : Nat) : post P tab n (.bl i :: k) Q (.exit j) ts H = (if j = i then post P tab n k Q .normal ts H else post P tab n k Q (.exit j) ts H) := Eq.trans rfl rfl
@[simp] theorem post_iv (I : TS → Hp → Prop) : post P tab n (.iv I :: k) Q .normal ts H = I ts H := Eq.trans rfl rfl
@[simp] theorem post_iv_ret (I : TS → Hp → Prop) : post P tab n (.iv I :: k) Q .ret ts H = post P tab n k Q .ret ts H := Eq.trans rfl rfl
@[simp] theorem post_iv_exit (I : TS → Hp → Prop) (j : Nat) : post P tab n (.iv I :: k) Q (.exit j) ts H = post P tab n k Q (.exit j) ts H := Eq.trans rfl rfl
@[simp] theorem Rg_nil (ops : Array Oper) : Rg P tab n ops [] k Q ts H = post P tab n k Q .normal ts H := Eq.trans rfl rfl
@[simp] theorem Rg_cons (ops : Array Oper) (o : Oper) (l : List Oper) : Rg P tab n ops (o :: l) k Q ts H = (dstOk n o.dst = true ∧ match wantedA ops n o ts with
    | some b => if b = true then St P tab n ops o l k Q ts H else Rg P tab n ops l k Q (putO o.dst (.tup []) ts) H
    | none => False) := Eq.trans rfl rfl
@[simp] theorem St_eq (ops : Array Oper) (o : Oper) (l : List Oper) : St P tab n ops o l k Q ts H = (match o.op with
  | .call { callee := .value f, args, argTypes := _ } => match evA ts f with
    | .fn g caps => T P g (args.toList.map (evA ts) ++ caps) H (After P tab n ops o.dst l k Q ts)
    | _ => False
  | op => match exec tab (evA ts) H op with
    | some (v, H') => Rg P tab n ops l k Q (putO o.dst v ts) H'
    | none => False) := by
  obtain ⟨dst, op, type, pos, after, guard⟩ := o
  unfold St vcOp After
  cases op with
  | call c =>
    obtain ⟨callee, args, argTypes⟩ := c
    cases callee <;> rfl
  | _ => rfl
@[simp] theorem After_eq (ops : Array Oper) (d : Option Nat) (l : List Oper) (v : AV) : After P tab n ops d l k Q ts v H = Rg P tab n ops l k Q (putO d v ts) H := Eq.trans rfl rfl
@[simp] theorem Dr_done (ops : Array Oper) : Dr P tab n ops .done k Q ts H = post P tab n k Q .normal ts H := Eq.trans rfl rfl
@[simp] theorem Dr_stop (ops : Array Oper) : Dr P tab n ops .stop k Q ts H = True := Eq.trans rfl rfl
@[simp] theorem Dr_look (ops : Array Oper) (i : Nat) (p : Plan) : Dr P tab n ops (.look i p) k Q ts H = (match ops[i]? with
    | some o => dstOk n o.dst = true ∧ match wantedA ops n o ts with
      | some b => if b = true then (match exec tab (evA ts) H o.op with | some (v, H') => Dr P tab n ops p k Q (putO o.dst v ts) H' | none => False) else Dr P tab n ops p k Q (putO o.dst (.tup []) ts) H
      | none => False
    | none => False) := Eq.trans rfl rfl
@[simp] theorem Dr_act (ops : Array Oper) (e : Nat) (chk : List Nat) (p other : Plan) : Dr P tab n ops (.act e chk p other) k Q ts H = ((match ops[e]? with
    | some o => dstOk n o.dst = true ∧ match wantedA ops n o ts with
      | some b => if b = true then DSt P tab n ops o chk p k Q ts H else Dr P tab n ops p k Q (putO o.dst (.tup []) ts) H
      | none => False
    | none => False) ∧ Dr P tab n ops other k Q ts H) := Eq.trans rfl rfl
@[simp] theorem DSt_eq (ops : Array Oper) (o : Oper) (chk : List Nat) (p : Plan) : DSt P tab n ops o chk p k Q ts H = (match o.op with
  | .call { callee := .value f, args, argTypes := _ } => match evA ts f with
    | .fn g caps => T P g (args.toList.map (evA ts) ++ caps) H (DAfter P tab n ops o.dst chk p k Q ts)
    | _ => False
  | op => match exec tab (evA ts) H op with
    | some (v, H') => chkAll tab n ops chk (putO o.dst v ts) H' ∧ Dr P tab n ops p k Q (putO o.dst v ts) H'
    | none => False) := by
  obtain ⟨dst, op, type, pos, after, guard⟩ := o
  unfold DSt vcOp DAfter
  cases op with
  | call c =>
    obtain ⟨callee, args, argTypes⟩ := c
    cases callee <;> rfl
  | _ => rfl
@[simp] theorem DAfter_eq (ops : Array Oper) (d : Option Nat) (chk : List Nat) (p : Plan) (v : AV) : DAfter P tab n ops d chk p k Q ts v H = (chkAll tab n ops chk (putO d v ts) H ∧ Dr P tab n ops p k Q (putO d v ts) H) := Eq.trans rfl rfl
end
@[simp] theorem Fin_normal (tab : Tab) (l : List ResultVar) (Q : AV → Hp → Prop) (ts : TS) (H : Hp) : Fin tab l Q .normal ts H = (match resA tab H ts l with | some r => Q (resV r) H | none => False) := Eq.trans rfl rfl
@[simp] theorem Fin_ret (tab : Tab) (l : List ResultVar) (Q : AV → Hp → Prop) (ts : TS) (H : Hp) : Fin tab l Q .ret ts H = (match resA tab H ts l with | some r => Q (resV r) H | none => False) := Eq.trans rfl rfl
/-! ### a cut: what holds where ways meet -/
theorem vcOp_mono {P : Program} {tab : Tab} {o : Oper} {Q Q' : TS → Hp → Prop} (h : ∀ ts H, Q ts H → Q' ts H) {ts : TS} {H : Hp} (hv : vcOp P tab o Q ts H) : vcOp P tab o Q' ts H := by
  unfold vcOp at hv ⊢
  split at hv
  · split at hv
    · exact hv.mono fun v H' k => h _ _ k
    · exact hv.elim
  · split at hv
    · exact h _ _ hv
    · exact hv.elim
theorem vcOps_mono {P : Program} {tab : Tab} {n : Nat} {ops : Array Oper} {Q Q' : TS → Hp → Prop} (h : ∀ ts H, Q ts H → Q' ts H) : ∀ (l : List Oper) {ts : TS} {H : Hp}, vcOps P tab n ops Q l ts H → vcOps P tab n ops Q' l ts H
  | [], _, _, hv => h _ _ hv
  | o :: l, ts, H, hv => by
    simp only [vcOps] at hv ⊢
    refine ⟨hv.1, ?_⟩
    have hv := hv.2
    cases hw : wantedA ops n o ts with
    | none => rw [hw] at hv; exact hv.elim
    | some b =>
      rw [hw] at hv
      cases b with
      | true => simp only [if_true] at hv ⊢; exact vcOp_mono (fun ts H k => vcOps_mono h l k) hv
      | false => simp only [Bool.false_eq_true, if_false] at hv ⊢; exact vcOps_mono h l hv
theorem vcPlan_mono {P : Program} {tab : Tab} {n : Nat} {ops : Array Oper} {Q Q' : TS → Hp → Prop} (h : ∀ ts H, Q ts H → Q' ts H) : ∀ (p : Plan) {ts : TS} {H : Hp}, vcPlan P tab n ops Q p ts H → vcPlan P tab n ops Q' p ts H
  | .done, _, _, hv => h _ _ hv
  | .stop, _, _, _ => trivial
  | .look i p, ts, H, hv => by
    simp only [vcPlan] at hv ⊢
    cases ho : ops[i]? with
    | none => rw [ho] at hv; exact hv.elim
    | some o =>
      rw [ho] at hv
      simp only at hv ⊢
      refine ⟨hv.1, ?_⟩
      have hv := hv.2
      cases hw : wantedA ops n o ts with
      | none => rw [hw] at hv; exact hv.elim
      | some b =>
        rw [hw] at hv
        cases b with
        | true =>
          simp only [if_true] at hv ⊢
          cases he : exec tab (evA ts) H o.op with
          | none => rw [he] at hv; exact hv.elim
          | some r => rw [he] at hv; exact vcPlan_mono h p hv
        | false => simp only [Bool.false_eq_true, if_false] at hv ⊢; exact vcPlan_mono h p hv
  | .act e chk p other, ts, H, hv => by
    simp only [vcPlan] at hv ⊢
    refine ⟨?_, vcPlan_mono h other hv.2⟩
    have hv := hv.1
    cases ho : ops[e]? with
    | none => rw [ho] at hv; exact hv.elim
    | some o =>
      rw [ho] at hv
      simp only at hv ⊢
      refine ⟨hv.1, ?_⟩
      have hv := hv.2
      cases hw : wantedA ops n o ts with
      | none => rw [hw] at hv; exact hv.elim
      | some b =>
        rw [hw] at hv
        cases b with
        | true => simp only [if_true] at hv ⊢; exact vcOp_mono (fun ts H k => ⟨k.1, vcPlan_mono h p k.2⟩) hv
        | false => simp only [Bool.false_eq_true, if_false] at hv ⊢; exact vcPlan_mono h p hv
theorem vc_mono {P : Program} {tab : Tab} {n : Nat} : ∀ (c : Code) {Q Q' : Ex → TS → Hp → Prop} (h : ∀ x ts H, Q x ts H → Q' x ts H) {ts : TS} {H : Hp}, vc P tab n c Q ts H → vc P tab n c Q' ts H := by
  intro c
  induction c with
  | skip => intro Q Q' h ts H hv; exact h _ _ _ hv
  | region id ops draw =>
    intro Q Q' h ts H hv
    cases draw with
    | true =>
      obtain ⟨hm, p, hok, hv⟩ := hv
      exact ⟨hm, p, hok, vcPlan_mono (fun ts H => h _ ts H) p hv⟩
    | false => exact vcOps_mono (fun ts H => h _ ts H) _ hv
  | seq a b iha ihb =>
    intro Q Q' h ts H hv
    refine iha (fun x ts H k => ?_) hv
    cases x with
    | normal => exact ihb h k
    | exit i => exact h _ _ _ k
    | ret => exact h _ _ _ k
  | cond c a b iha ihb =>
    intro Q Q' h ts H hv
    simp only [vc] at hv ⊢
    split at hv
    · split at hv
      · rename_i h1
        rw [if_pos h1]
        exact iha h hv
      · rename_i h1
        rw [if_neg h1]
        exact ihb h hv
    · exact hv.elim
  | block id b ih =>
    intro Q Q' h ts H hv
    refine ih (fun x ts H k => ?_) hv
    cases x with
    | normal => exact h _ _ _ k
    | exit i =>
      simp only at k ⊢
      split
      · rename_i e; rw [if_pos e] at k; exact h _ _ _ k
      · rename_i e; rw [if_neg e] at k; exact h _ _ _ k
    | ret => exact h _ _ _ k
  | loop b ih =>
    intro Q Q' h ts H hv I hI
    refine hv I fun ts H k => hI ts H (ih (fun x ts H k => ?_) k)
    cases x with
    | normal => exact k
    | exit i => exact h _ _ _ k
    | ret => exact h _ _ _ k
  | exit id => intro Q Q' h ts H hv; exact h _ _ _ hv
  | ret => intro Q Q' h ts H hv; exact h _ _ _ hv
  | _ => intro Q Q' h ts H hv; exact hv.elim
theorem W_cut {P : Program} {tab : Tab} {n : Nat} {k : List Fm} {Q : Ex → TS → Hp → Prop} {ts : TS} {H : Hp} {c : Code} (C : TS → Hp → Prop) (h : W P tab n c (.iv C :: k) Q ts H) (hC : ∀ ts H, C ts H → post P tab n k Q .normal ts H) : W P tab n c k Q ts H := by
  refine vc_mono c (fun x ts H hx => ?_) h
  cases x with
  | normal => exact hC _ _ hx
  | exit i => exact hx
  | ret => exact hx
/-- A function, told by its text. -/
theorem T.by {P : Program} {tab : Tab} (hTab : TabOk P tab) {f : FuncId} {fn : Func} {c : Code} (hf : P.funcs[f]? = some fn) (hname : (fn.name == "runtime.NumGoroutine") = false) (hb : fn.body = some c) (args : List AV) (hn : args.length ≤ fn.ntmps) (H : Hp) (Q : AV → Hp → Prop)
    (hv : W P tab fn.ntmps c [] (Fin tab fn.results.toList Q) (start args) H) : T P f args H Q := by
  refine T.of hTab hf hname hb args hn H Q ?_
  unfold W at hv
  have : (fun x ts H => post P tab fn.ntmps [] (Fin tab fn.results.toList Q) x ts H) = (fun x ts H' => match x with | .exit _ => False | _ => match resA tab H' ts fn.results.toList with | some r => Q (resV r) H' | none => False) := by
    funext x ts H
    cases x <;> rfl
  rw [this] at hv
  exact hv
/-- What a question answers. -/
def Told (p : Prop) (H : Hp) (r : AV) (K : Hp) : Prop := (∃ t, r = .bool t ∧ (t = true ↔ p)) ∧ Fr H K
theorem Told.yes {p : Prop} {H K : Hp} (hp : p) (h : Fr H K) : Told p H (.bool true) K := ⟨⟨true, rfl, by simp [hp]⟩, h⟩
theorem Told.no {p : Prop} {H K : Hp} (hp : ¬ p) (h : Fr H K) : Told p H (.bool false) K := ⟨⟨false, rfl, by simp [hp]⟩, h⟩
theorem Told.of {p : Prop} {H K : Hp} {t : Bool} (hp : t = true ↔ p) (h : Fr H K) : Told p H (.bool t) K := ⟨⟨t, rfl, hp⟩, h⟩
theorem Told.dec {p : Prop} [Decidable p] {H K : Hp} {r : AV} (h : Told p H r K) : r = .bool (decide p) ∧ Fr H K := by
  obtain ⟨⟨t, rfl, h1⟩, h2⟩ := h
  refine ⟨?_, h2⟩
  by_cases hp : p
  · simp [hp, h1.2 hp]
  · have : t = false := by
      cases t with
      | false => rfl
      | true => exact absurd (h1.1 rfl) hp
    simp [hp, this]
/-- The same of a question that leaves memory alone. -/
def Is (p : Prop) [Decidable p] (H : Hp) (r : AV) (K : Hp) : Prop := r = .bool (decide p) ∧ K = H
end Go.Proofs.Ythihphgfblonoaa.Am
