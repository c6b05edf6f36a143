/- The row of the law FnMoves: called with any arguments that can be read, the call returns true, and what lay in memory stays. Conditions: those of the given statement alone. -/
import Derived.Test.YthihphgfblonoaaRows
import Derived.Test.YthihphgfblonoaaLFnMoves
import Derived.WalkKit
import Derived.ProofKit
import Derived.OpenShut
import Derived.ShutString
import Derived.ChangeOld
import Derived.Below
import Derived.SizedLaws
namespace Go.Proofs.Ythihphgfblonoaa.fnMoves
open Go.ChangeShapes Go.WideShapes Go.ChangeAt Go.RowKit Go.Proofs.Ythihphgfblonoaa.Am
open Go.ChangeMaps (open_string shut_string)
set_option linter.unusedVariables false
theorem own : ownKnob Try.prog.godebug = none := by kernel_rfl
theorem laidOut : laidOutB Try.prog = true := by kernel_rfl
set_option maxRecDepth 100000 in
theorem op0 : OpensA Try.prog 48 1 (SSl 1 1 (SInt .u8)) := (opensA_slice (sz := 1) (B := 1) Try.underlying48 (opensA_int Try.underlying5) (by kernel_rfl) (by kernel_rfl) (by decide))
set_option maxRecDepth 100000 in
theorem op1 : OpensA Try.prog 48 1 (SSl 1 1 (SInt .u8)) := (opensA_slice (sz := 1) (B := 1) Try.underlying48 (opensA_int Try.underlying5) (by kernel_rfl) (by kernel_rfl) (by decide))
set_option maxRecDepth 100000 in
set_option maxHeartbeats 1000000 in
theorem lifted (os : Os) (started : os.Started) (H : Type) (enc : TypeId × Value → H) :
    ReturnsInHanded {} Try.checked os 11 .any (Rows.fnMovesSpec.pre6 enc Try.prog Try.f11 Rows.fnMovesRow.domain false) (Rows.fnMovesSpec.post enc Try.prog Try.f11 false true false false) := by
  refine returnsInHanded_of_change_sized (C := Try.checked) own started (by kernel_rfl) Try.func11
    (ChangeSpec.witness6 (enc := enc) (C := Try.checked) false ⟨#[], #[.slice none 0 0, .slice none 0 0], []⟩ 8 (by kernel_rfl) (by kernel_rfl) (by kernel_rfl) (by kernel_rfl)) ?_
  intro W base args ds gs before hval0 hW hcnd hsz0 _
  have hsz : (DataW.weightsEach Try.prog (Try.f11.params.toList ++ Rows.fnMovesSpec.plain.varTypes Try.prog) (ds ++ gs)).all (· ≤ reachBytes) = true := hsz0
  have hval : ∀ (j : Nat) t v, Try.f11.params[j]? = some t → args[j]? = some v → Value.okWide Try.prog W .any base t v := hval0
  have hW' := hW
  obtain ⟨p, q, hA0, hV, rfl, hfz, hnd⟩ := hW
  have hA : DataW.TrodAll enc Try.prog W 0 (fun _ => true) true Try.f11.params.toList args.toList ds p := hA0
  rw [Try.params11] at hA hval hsz
  obtain ⟨v0, vs0, d0, ds0, p0, q0, hargs, rfl, rfl, h0, r0⟩ := trodAll_cons hA
  obtain ⟨v1, vs1, d1, ds1, p1, q1, rfl, rfl, rfl, h1, r1⟩ := trodAll_cons r0
  obtain ⟨rfl, rfl, rfl⟩ := trodAll_nil r1
  obtain rfl : args = #[v0, v1] := by cases args; simp_all
  obtain ⟨rfl, rfl⟩ := trodVars_none hV
  have R : Rel [] [] W := rel_nil W
  have ro : AllRo [] := allRo_nil
  have k0 := h0
  have lt0 : ∀ x ∈ p0, x.block < W.heap.size := by obtain ⟨m, hm⟩ := k0; exact DataW.trod_lt m _ _ _ hm
  obtain ⟨m0, H0, l0, R, ro, V0, n0, one0, S0⟩ := (by
    obtain ⟨fuel, hf⟩ := h0
    exact op0.2 (fun _ => rfl) hf (weight_ofA hsz (j := 0) rfl rfl) _ _ R ro : ∃ m2 H2 l, Rel ([] ++ m2) ([] ++ H2) W ∧ AllRo ([] ++ H2) ∧ VRs ([] ++ m2) l v0.cells.toList ∧ l.length = 1 ∧ (∀ a ∈ l, a.one = true) ∧ (SSl 1 1 (SInt .u8)) ([] ++ H2) l)
  obtain ⟨A0, len0, cap0, rfl⟩ := okWide_slice Try.underlying48 (hval 0 48 v0 rfl rfl)
  obtain ⟨x0, rfl⟩ := List.length_eq_one_iff.1 n0
  have k1 := h1
  have lt1 : ∀ x ∈ p1, x.block < W.heap.size := by obtain ⟨m, hm⟩ := k1; exact DataW.trod_lt m _ _ _ hm
  obtain ⟨m1, H1, l1, R, ro, V1, n1, one1, S1⟩ := (by
    obtain ⟨fuel, hf⟩ := h1
    exact op1.2 (fun _ => rfl) hf (weight_ofA hsz (j := 1) rfl rfl) _ _ R ro : ∃ m2 H2 l, Rel (([] ++ m0) ++ m2) (([] ++ H0) ++ H2) W ∧ AllRo (([] ++ H0) ++ H2) ∧ VRs (([] ++ m0) ++ m2) l v1.cells.toList ∧ l.length = 1 ∧ (∀ a ∈ l, a.one = true) ∧ (SSl 1 1 (SInt .u8)) (([] ++ H0) ++ H2) l)
  replace V0 := V0.ext (Ext.append _ m1)
  replace S0 := op0.1 _ H1 _ S0
  obtain ⟨A1, len1, cap1, rfl⟩ := okWide_slice Try.underlying48 (hval 1 48 v1 rfl rfl)
  obtain ⟨x1, rfl⟩ := List.length_eq_one_iff.1 n1
  have W0 : VR (([] ++ m0) ++ m1) x0 _ := (by obtain ⟨_, _, e, k, _⟩ := V0; simp only [Value.cells, List.cons.injEq] at e; obtain ⟨rfl, _⟩ := e; exact k)
  have W1 : VR (([] ++ m0) ++ m1) x1 _ := (by obtain ⟨_, _, e, k, _⟩ := V1; simp only [Value.cells, List.cons.injEq] at e; obtain ⟨rfl, _⟩ := e; exact k)
  refine ((law_in _ x0 x1 S0 S1).2 _ W _ R ⟨_, _, rfl, W0, ⟨_, _, rfl, W1, rfl⟩⟩).mono fun e W' hh => ?_
  obtain ⟨v, v', m', H', rfl, hv', hst, rfl⟩ := hh
  obtain rfl : v' = .bool true := hv'
  have bel : Below W.heap.size W W' := hst.below ro
  exact ⟨_, rfl, _, _, _, [], _, [], hW', trodAll_mk1 (shut_bool Try.underlying4 _), (trodAll_cons_mk (Below.trod laidOut (by kernel_rfl) (of_decide_eq_true (by kernel_rfl)) k0 bel lt0) (trodAll_cons_mk (Below.trod laidOut (by kernel_rfl) (of_decide_eq_true (by kernel_rfl)) k1 bel lt1) trodAll_mk0)), rfl, bel.frame _, fun h => by cases h⟩
theorem over : Rows.fnMovesRow.holds Try.pinned (OpenSpec.ofChange Rows.fnMovesSpec) :=
  OpenClaim.holds_of_wide 11 Try.f11 rfl rfl rfl rfl rfl rfl rfl ⟨rfl, rfl, rfl, rfl, rfl⟩ rfl rfl rfl rfl rfl (by kernel_rfl) Try.func11 (by kernel_rfl)
    (of_decide_eq_true (by kernel_rfl)) (by unfold Func.isWrapper; first | (rw [if_pos (by decide +kernel)]; kernel_rfl) | (rw [if_neg (by decide +kernel)]; exact ⟨rfl, rfl⟩))
    (fun os started H enc _ => lifted os started H enc)
theorem proved : Rows.FnMovesSaid := over
end Go.Proofs.Ythihphgfblonoaa.fnMoves
namespace Go.Proofs.Ythihphgfblonoaa
/-- The row, under a short name, for the claim. -/
theorem fnMoves_holds : Rows.FnMovesSaid := fnMoves.proved
#print axioms fnMoves_holds
end Go.Proofs.Ythihphgfblonoaa
