/- The row of the law FnExactNeedsSpare: called with any arguments that can be read, the call returns true, and what lay in memory stays. Conditions: those of the given statement alone. -/
import Derived.Test.YthihphgfblonoaaRows
import Derived.Test.YthihphgfblonoaaQFnExactNeedsSparex4
import Derived.Test.YthihphgfblonoaaPureFnExactNeedsSpare
import Derived.Test.YthihphgfblonoaaOpens
import Derived.WalkKit
import Derived.ProofKit
import Derived.OpenShut
import Derived.ShutString
import Derived.ChangeOld
import Derived.Below
import Derived.SizedLaws
import Derived.Test.YthihphgfblonoaaWSized
namespace Go.Proofs.Ythihphgfblonoaa.fnExactNeedsSpare
open Go.ChangeShapes Go.WideShapes Go.ChangeAt Go.RowKit Go.Proofs.Ythihphgfblonoaa.Opens Go.Proofs.Ythihphgfblonoaa.QFnExactNeedsSpare Go.Proofs.YthihphgfblonoaaW.PrintWords Go.Proofs.YthihphgfblonoaaW.PrintLast
open Go.ChangeMaps (open_string shut_string)
set_option linter.unusedVariables false
theorem own : ownKnob Try.prog.godebug = none := by kernel_rfl
theorem laidOut : laidOutB Try.prog = true := by kernel_rfl
theorem op58 : Opens Try.prog 58 k58 q58 := opens_iso (opens_struct Try.underlying58 (opensF_cons (opens_int Try.underlying3) rfl (by kernel_rfl) (opensF_last (opens_int Try.underlying3) rfl (by kernel_rfl)) rfl) (by kernel_rfl)) (fun x : S58 => (x.f0, x.f1)) (fun a => ⟨a.1, a.2⟩) (fun _ => rfl)
set_option maxRecDepth 100000 in
set_option maxHeartbeats 1000000 in
theorem lifted (os : Os) (started : os.Started) (H : Type) (enc : TypeId × Value → H) :
    ReturnsInHanded {} Try.checked os 5 .any (Rows.fnExactNeedsSpareSpec.pre6 enc Try.prog Try.f5 Rows.fnExactNeedsSpareRow.domain false) (Rows.fnExactNeedsSpareSpec.post enc Try.prog Try.f5 false true false false) := by
  refine returnsInHanded_of_change_sized (C := Try.checked) own started (by kernel_rfl) Try.func5
    (ChangeSpec.witness6 (enc := enc) (C := Try.checked) false ⟨#[], #[.slice none 0 0], []⟩ 8 (by kernel_rfl) (by kernel_rfl) (by kernel_rfl) (by kernel_rfl)) ?_
  intro W base args ds gs before hval0 hW hcnd hsz0 _
  have hsz : (DataW.weightsEach Try.prog (Try.f5.params.toList ++ Rows.fnExactNeedsSpareSpec.plain.varTypes Try.prog) (ds ++ gs)).all (· ≤ reachBytes) = true := hsz0
  have hval : ∀ (j : Nat) t v, Try.f5.params[j]? = some t → args[j]? = some v → Value.okWide Try.prog W .any base t v := hval0
  have hW' := hW
  obtain ⟨p, q, hA0, hV, rfl, hfz, hnd⟩ := hW
  have hA : DataW.TrodAll enc Try.prog W 0 (fun _ => true) true Try.f5.params.toList args.toList ds p := hA0
  rw [Try.params5] at hA hval hsz
  obtain ⟨v0, vs0, d0, ds0, p0, q0, hargs, rfl, rfl, h0, r0⟩ := trodAll_cons hA
  obtain ⟨rfl, rfl, rfl⟩ := trodAll_nil r0
  obtain rfl : args = #[v0] := by cases args; simp_all
  obtain ⟨rfl, rfl⟩ := trodVars_none hV
  obtain ⟨A0, len0, cap0, rfl⟩ := okWide_slice Try.underlying22 (hval 0 22 v0 rfl rfl)
  have k0 := h0
  have lt0 : ∀ x ∈ p0, x.block < W.heap.size := by obtain ⟨m, hm⟩ := k0; exact DataW.trod_lt m _ _ _ hm
  obtain ⟨l0, ⟨B0, c0, e0, hc0, hr0⟩, w0⟩ : ∃ x : List (S58), (Kd.slice 58 k58).K W x (Value.slice A0 len0 cap0).cells.toList ∧ (fun xs : List S58 => xs.length ≤ maxLen ∧ xs.length * 16 ≤ 140737488351232 ∧ ∀ x ∈ xs, q58 x) x := by
    obtain ⟨fuel, hf⟩ := h0
    exact (opens_slice (z58 : S58) Try.underlying22 op58 (by kernel_rfl) (by kernel_rfl)) hf (weight_of hsz (j := 0) rfl rfl)
  simp only [Value.cells, List.cons.injEq, Value.slice.injEq, and_true] at e0
  obtain ⟨rfl, rfl, rfl⟩ := e0
  clear hA0 hval0 hsz0 hsz
  obtain ⟨k, h⟩ := Pure.FnExactNeedsSpare l0 w0
  refine (laws_FnExactNeedsSpare.calls k _ _ l0 true W hr0 hc0 ⟨rfl⟩ h).mono fun e W' hh => ?_
  obtain ⟨he, hb⟩ := hh
  have bel : Below W.heap.size W W' := hb
  subst he
  exact ⟨_, rfl, _, _, _, [], _, [], hW', trodAll_mk1 (shut_bool Try.underlying4 _), (trodAll_cons_mk (Below.trod laidOut (by kernel_rfl) (of_decide_eq_true (by kernel_rfl)) k0 bel lt0) trodAll_mk0), rfl, bel.frame _, fun h => by cases h⟩
theorem over : Rows.fnExactNeedsSpareRow.holds Try.pinned (OpenSpec.ofChange Rows.fnExactNeedsSpareSpec) :=
  OpenClaim.holds_of_wide 5 Try.f5 rfl rfl rfl rfl rfl rfl rfl ⟨rfl, rfl, rfl, rfl, rfl⟩ rfl rfl rfl rfl rfl (by kernel_rfl) Try.func5 (by kernel_rfl)
    (of_decide_eq_true (by kernel_rfl)) (by unfold Func.isWrapper; first | (rw [if_pos (by decide +kernel)]; kernel_rfl) | (rw [if_neg (by decide +kernel)]; exact ⟨rfl, rfl⟩))
    (fun os started H enc _ => lifted os started H enc)
theorem proved : Rows.FnExactNeedsSpareSaid := over
end Go.Proofs.Ythihphgfblonoaa.fnExactNeedsSpare
namespace Go.Proofs.Ythihphgfblonoaa
/-- The row, under a short name, for the claim. -/
theorem fnExactNeedsSpare_holds : Rows.FnExactNeedsSpareSaid := fnExactNeedsSpare.proved
#print axioms fnExactNeedsSpare_holds
end Go.Proofs.Ythihphgfblonoaa
