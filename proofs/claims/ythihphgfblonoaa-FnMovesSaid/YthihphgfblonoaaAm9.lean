/- Regions that draw their order, on the abstract heap: what only looks is done ahead, what acts goes in each order that the text leaves open. No condition. -/
import Derived.Test.YthihphgfblonoaaAm7
import Derived.Orders
namespace Go.Proofs.Ythihphgfblonoaa.Am
open Go Go.RowKit
set_option linter.unusedSimpArgs false
set_option linter.unusedVariables false

/-- An operation that looks alone; does it look into memory? -/
def looks (o : Oper) : Bool := match o.op with
  | .move _ | .pick .. | .load .. | .nilCheck _ | .binOp .. | .unOp .. | .convert .. | .makeFunc .. | .slice .. | .fieldAddr .. | .field .. | .indexAddr .. | .index .. | .extract .. | .build .. => true
  | .call { callee := .builtin b, .. } => match b with | .len | .max | .min => true | _ => false
  | _ => false
def looksIn (o : Oper) : Bool := match o.op with
  | .load .. | .slice .. | .indexAddr .. => true
  | _ => false
theorem looks_same {tab : Tab} {ev : Operand → AV} {H H' : Hp} {o : Oper} {v : AV} (h : looks o = true) (he : exec tab ev H o.op = some (v, H')) : H' = H := by
  obtain ⟨dst, op, type, pos, after, guard⟩ := o
  have key : ∀ {α : Type} {o : Option α} {f : α → AV × Hp}, (∀ x, (f x).2 = H) → o.map f = some (v, H') → H' = H := by
    intro α o f hf h
    obtain ⟨x, _, e⟩ := map_some h
    have := hf x
    rw [e] at this
    exact this
  simp only at he
  cases op <;> simp only [looks] at h <;> (try (cases h; done)) <;> simp only [exec] at he
  case move x => cases he; rfl
  case pick c a b => split at he <;> cases he; rfl
  case load t a => obtain ⟨ty, _, he⟩ := tyOf_some he; exact key (fun _ => rfl) he
  case nilCheck x => split at he <;> cases he; rfl
  case binOp =>
    split at he
    · obtain ⟨b, _, he⟩ := Option.bind_eq_some_iff.1 he
      exact key (fun _ => rfl) he
    · split at he
      · exact key (fun _ => rfl) he
      · cases he
  case unOp op t x => cases op <;> simp only [exec] at he <;> (try (cases he; done)) <;> split at he <;> cases he <;> rfl
  case convert s d x =>
    split at he
    · obtain ⟨_, _, he⟩ := tyOf_some he
      obtain ⟨_, _, he⟩ := tyOf_some he
      split at he <;> cases he
      rfl
    · cases he
  case makeFunc fn f c => cases fn <;> simp only [exec] at he <;> (try (cases he; done)); split at he <;> cases he; rfl
  case slice t x lo hi mx =>
    cases mx <;> simp only [exec] at he
    · obtain ⟨_, _, he⟩ := tyOf_some he
      obtain ⟨_, _, _, _, he⟩ := elemTy_some he
      split at he
      · exact key (fun _ => rfl) he
      · cases he
    · obtain ⟨_, _, he⟩ := tyOf_some he
      obtain ⟨_, _, _, _, he⟩ := elemTy_some he
      split at he
      · cases he; rfl
      · cases he
  case fieldAddr t x j => obtain ⟨_, _, he⟩ := tyOf_some he; split at he; exact key (fun _ => rfl) he; cases he
  case field t x j => obtain ⟨_, _, he⟩ := tyOf_some he; split at he; exact key (fun _ => rfl) he; cases he
  case indexAddr t x i => obtain ⟨_, _, he⟩ := tyOf_some he; exact key (fun _ => rfl) he
  case index t x i => obtain ⟨_, _, he⟩ := tyOf_some he; split at he; exact key (fun _ => rfl) he; cases he
  case extract x i => split at he; exact key (fun _ => rfl) he; cases he
  case build t p => obtain ⟨_, _, he⟩ := tyOf_some he; exact key (fun _ => rfl) he
  case call c =>
    obtain ⟨callee, args, argTypes⟩ := c
    cases callee <;> simp only at h <;> (try (cases h; done))
    rename_i b
    simp only [exec] at he
    split at he
    · obtain ⟨_, _, he⟩ := tyOf_some he; exact key (fun _ => rfl) he
    · simp at h
    · simp at h
    · simp at h
    · split at he; exact key (fun _ => rfl) he; cases he
    · split at he; exact key (fun _ => rfl) he; cases he
    · cases he
/-- What looks but not into memory: the same on every heap. -/
theorem looks_pure {tab : Tab} {ev : Operand → AV} {H : Hp} (H2 : Hp) {o : Oper} {v : AV} (h : looks o = true) (hn : looksIn o = false) (he : exec tab ev H o.op = some (v, H)) : exec tab ev H2 o.op = some (v, H2) := by
  obtain ⟨dst, op, type, pos, after, guard⟩ := o
  have key : ∀ {o : Option AV}, o.map (·, H) = some (v, H) → o.map (·, H2) = some (v, H2) := by
    intro o h
    obtain ⟨x, rfl, e⟩ := map_some h
    cases e
    rfl
  simp only at he ⊢
  cases op <;> simp only [looks] at h <;> (try (cases h; done)) <;> simp only [looksIn] at hn <;> (try (cases hn; done)) <;> simp only [exec] at he ⊢
  case move x => cases he; rfl
  case pick c a b => split at he <;> cases he; rfl
  case nilCheck x => split at he <;> cases he; rfl
  case binOp op t x y t2 =>
    generalize ev x = a at he ⊢
    generalize ev y = b at he ⊢
    split at he
    · obtain ⟨c, hc, he⟩ := Option.bind_eq_some_iff.1 he
      simp only [hc, Option.bind_some]
      exact key he
    · rename_i hno
      split at he
      · rename_i hb
        rw [if_pos hb]
        exact key he
      · cases he
  case unOp op t x => cases op <;> simp only [exec] at he ⊢ <;> (try (cases he; done)) <;> split at he <;> cases he <;> rfl
  case convert s d x =>
    split at he
    · obtain ⟨_, e1, he⟩ := tyOf_some he
      obtain ⟨_, e2, he⟩ := tyOf_some he
      simp only [tyOf, e1, e2]
      split at he <;> cases he
      rfl
    · cases he
  case makeFunc fn f c => cases fn <;> simp only [exec] at he ⊢ <;> (try (cases he; done)); split at he; rename_i hb; rw [if_pos hb]; cases he; rfl; cases he
  case fieldAddr t x j => obtain ⟨_, e1, he⟩ := tyOf_some he; simp only [tyOf, e1]; split at he; exact key he; cases he
  case field t x j => obtain ⟨_, e1, he⟩ := tyOf_some he; simp only [tyOf, e1]; split at he; exact key he; cases he
  case index t x i => obtain ⟨_, e1, he⟩ := tyOf_some he; simp only [tyOf, e1]; split at he; exact key he; cases he
  case extract x i => split at he; exact key he; cases he
  case build t p => obtain ⟨_, e1, he⟩ := tyOf_some he; simp only [tyOf, e1]; exact key he
  case call c =>
    obtain ⟨callee, args, argTypes⟩ := c
    cases callee <;> simp only at h <;> (try (cases h; done))
    rename_i b
    simp only [exec] at he ⊢
    split at he
    · obtain ⟨_, e1, he⟩ := tyOf_some he; simp only [tyOf, e1]; exact key he
    · simp at h
    · simp at h
    · simp at h
    · split at he
      · obtain ⟨y, hy, e⟩ := map_some he
        cases e
        rw [hy]
        rfl
      · cases he
    · split at he
      · obtain ⟨y, hy, e⟩ := map_some he
        cases e
        rw [hy]
        rfl
      · cases he
    · cases he

/-- Which slots an operation reads. -/
def readsAt (ops : Array Oper) (o : Oper) : List Nat := o.looksAt ops
theorem evA_congr {ts ts' : TS} {x : Operand} (h : ∀ t, x = .tmp t → ts t = ts' t) : evA ts x = evA ts' x := by
  cases x with
  | tmp t => exact h t rfl
  | _ => rfl
theorem exec_congr {tab : Tab} {ev ev' : Operand → AV} {H : Hp} {op : Op} (h : ∀ x ∈ op.operands, ev x = ev' x) : exec tab ev H op = exec tab ev' H op := by
  have pairs : ∀ ps : Array (Nat × Operand), (∀ x ∈ (ps.toList.map (·.2)), ev x = ev' x) → (ps.toList.map fun (i, x) => (i, ev x)) = (ps.toList.map fun (i, x) => (i, ev' x)) := fun ps hp =>
    List.map_congr_left fun p hm => by
      obtain ⟨i, x⟩ := p
      simp only [hp x (List.mem_map.2 ⟨(i, x), hm, rfl⟩)]
  cases op <;> simp only [Op.operands] at h
  case build t ps => simp only [exec]; rw [pairs ps fun x hx => h x (by simpa using hx)]
  case buildSlice t n ps => simp only [exec]; rw [pairs ps fun x hx => h x (by simpa using hx)]
  case makeFunc fn first captured =>
    cases fn <;> simp only [exec]
    rw [List.map_congr_left (l := captured.toList) fun x hx => h x (by simp; right; simpa using hx)]
  case call c =>
    obtain ⟨callee, args, argTypes⟩ := c
    cases callee <;> simp only [exec]
    rename_i b
    have ha : ∀ x ∈ args.toList, ev x = ev' x := fun x hx => h x (by simp [Call.operands]; simpa using hx)
    split
    · rename_i t x _ e; rw [ha x (by rw [e]; simp)]
    · rename_i t t2 s x _ e; rw [ha s (by rw [e]; simp), ha x (by rw [e]; simp)]
    · rename_i t t2 s x _ e; rw [ha s (by rw [e]; simp), ha x (by rw [e]; simp)]
    · rename_i t x _ e; rw [ha x (by rw [e]; simp)]
    · rename_i _ _ x r e; rw [ha x (by rw [e]; simp), List.map_congr_left (l := r) fun y hy => ha y (by rw [e]; simp [hy])]
    · rename_i _ _ x r e; rw [ha x (by rw [e]; simp), List.map_congr_left (l := r) fun y hy => ha y (by rw [e]; simp [hy])]
    · rfl
  case slice t x lo hi mx => cases mx <;> cases lo <;> cases hi <;> simp only [exec] <;> simp_all
  case unOp op t x => cases op <;> simp only [exec] <;> simp_all
  all_goals (first | rfl | (simp only [exec]; simp_all; done) | (simp only [exec]; rfl))
end Go.Proofs.Ythihphgfblonoaa.Am
