/- The row of the law FnExactDropLost: called with any arguments that can be read, the call returns true, and what lay in memory stays. Conditions: those of the given statement alone. -/
import Derived.Test.YtdbnokeegocpbaaRows
import Derived.Test.YtdbnokeegocpbaaLDropLostLaw
import Derived.WalkKit
import Derived.ProofKit
import Derived.OpenShut
import Derived.ShutString
import Derived.ChangeOld
import Derived.Below
import Derived.SizedLaws
namespace Go.Proofs.Ytdbnokeegocpbaa.fnExactDropLost
open Go.ChangeShapes Go.WideShapes Go.ChangeAt Go.RowKit Go.Proofs.Ytdbnokeegocpbaa.Am
open Go.ChangeMaps (open_string shut_string)
set_option linter.unusedVariables false
theorem own : ownKnob Try.prog.godebug = none := by kernel_rfl
theorem laidOut : laidOutB Try.prog = true := by kernel_rfl
set_option maxRecDepth 100000 in
theorem op0 : OpensA Try.prog 22 1 (SSl 4 48 (SPair (SSl 5 40 (SPair (SInt .i64) (SPair (SInt .i64) (SPair (SInt .i64) (SPair (SInt .i64) (SInt .i64)))))) (SPair (SInt .i64) (SPair (SInt .i64) (SInt .i64))))) := (opensA_slice (sz := 4) (B := 48) Try.underlying22 (opensA_struct (sz := 4) Try.underlying93 (opensFA_cons (off := 0) (off' := 1) (sz := 1) (opensA_slice (sz := 5) (B := 40) Try.underlying34 (opensA_struct (sz := 5) Try.underlying104 (opensFA_cons (off := 0) (off' := 1) (sz := 1) (opensA_int Try.underlying3) rfl (by kernel_rfl) (opensFA_cons (off := 1) (off' := 2) (sz := 1) (opensA_int Try.underlying3) rfl (by kernel_rfl) (opensFA_cons (off := 2) (off' := 3) (sz := 1) (opensA_int Try.underlying3) rfl (by kernel_rfl) (opensFA_cons (off := 3) (off' := 4) (sz := 1) (opensA_int Try.underlying3) rfl (by kernel_rfl) (opensFA_last (opensA_int Try.underlying3) rfl (by kernel_rfl)) rfl) rfl) rfl) rfl) (by kernel_rfl)) (by kernel_rfl) (by kernel_rfl) (by decide)) rfl (by kernel_rfl) (opensFA_cons (off := 1) (off' := 2) (sz := 1) (opensA_int Try.underlying3) rfl (by kernel_rfl) (opensFA_cons (off := 2) (off' := 3) (sz := 1) (opensA_int Try.underlying3) rfl (by kernel_rfl) (opensFA_last (opensA_int Try.underlying3) rfl (by kernel_rfl)) rfl) rfl) rfl) (by kernel_rfl)) (by kernel_rfl) (by kernel_rfl) (by decide))
set_option maxRecDepth 100000 in
set_option maxHeartbeats 1000000 in
theorem lifted (os : Os) (started : os.Started) (H : Type) (enc : TypeId × Value → H) :
    ReturnsInHanded {} Try.checked os 3 .any (Rows.fnExactDropLostSpec.pre6 enc Try.prog Try.f3 Rows.fnExactDropLostRow.domain false) (Rows.fnExactDropLostSpec.post enc Try.prog Try.f3 false true false false) := by
  refine returnsInHanded_of_change_sized (C := Try.checked) own started (by kernel_rfl) Try.func3
    (ChangeSpec.witness6 (enc := enc) (C := Try.checked) false ⟨#[], #[.slice none 0 0], []⟩ 8 (by kernel_rfl) (by kernel_rfl) (by kernel_rfl) (by kernel_rfl)) ?_
  intro W base args ds gs before hval0 hW hcnd hsz0 _
  have hsz : (DataW.weightsEach Try.prog (Try.f3.params.toList ++ Rows.fnExactDropLostSpec.plain.varTypes Try.prog) (ds ++ gs)).all (· ≤ reachBytes) = true := hsz0
  have hval : ∀ (j : Nat) t v, Try.f3.params[j]? = some t → args[j]? = some v → Value.okWide Try.prog W .any base t v := hval0
  have hW' := hW
  obtain ⟨p, q, hA0, hV, rfl, hfz, hnd⟩ := hW
  have hA : DataW.TrodAll enc Try.prog W 0 (fun _ => true) true Try.f3.params.toList args.toList ds p := hA0
  rw [Try.params3] at hA hval hsz
  obtain ⟨v0, vs0, d0, ds0, p0, q0, hargs, rfl, rfl, h0, r0⟩ := trodAll_cons hA
  obtain ⟨rfl, rfl, rfl⟩ := trodAll_nil r0
  obtain rfl : args = #[v0] := by cases args; simp_all
  obtain ⟨rfl, rfl⟩ := trodVars_none hV
  have R : Rel [] [] W := rel_nil W
  have ro : AllRo [] := allRo_nil
  have k0 := h0
  have lt0 : ∀ x ∈ p0, x.block < W.heap.size := by obtain ⟨m, hm⟩ := k0; exact DataW.trod_lt m _ _ _ hm
  obtain ⟨m0, H0, l0, R, ro, V0, n0, one0, S0⟩ := (by
    obtain ⟨fuel, hf⟩ := h0
    exact op0.2 (fun _ => rfl) hf (weight_ofA hsz (j := 0) rfl rfl) _ _ R ro : ∃ m2 H2 l, Rel ([] ++ m2) ([] ++ H2) W ∧ AllRo ([] ++ H2) ∧ VRs ([] ++ m2) l v0.cells.toList ∧ l.length = 1 ∧ (∀ a ∈ l, a.one = true) ∧ (SSl 4 48 (SPair (SSl 5 40 (SPair (SInt .i64) (SPair (SInt .i64) (SPair (SInt .i64) (SPair (SInt .i64) (SInt .i64)))))) (SPair (SInt .i64) (SPair (SInt .i64) (SInt .i64))))) ([] ++ H2) l)
  obtain ⟨A0, len0, cap0, rfl⟩ := okWide_slice Try.underlying22 (hval 0 22 v0 rfl rfl)
  obtain ⟨x0, rfl⟩ := List.length_eq_one_iff.1 n0
  have W0 : VR ([] ++ m0) x0 _ := (by obtain ⟨_, _, e, k, _⟩ := V0; simp only [Value.cells, List.cons.injEq] at e; obtain ⟨rfl, _⟩ := e; exact k)
  refine ((law_in _ x0 S0).2 _ W _ R ⟨_, _, rfl, W0, rfl⟩).mono fun e W' hh => ?_
  obtain ⟨v, v', m', H', rfl, hv', hst, rfl⟩ := hh
  obtain rfl : v' = .bool true := hv'
  have bel : Below W.heap.size W W' := hst.below ro
  exact ⟨_, rfl, _, _, _, [], _, [], hW', trodAll_mk1 (shut_bool Try.underlying4 _), (trodAll_cons_mk (Below.trod laidOut (by kernel_rfl) (of_decide_eq_true (by kernel_rfl)) k0 bel lt0) trodAll_mk0), rfl, bel.frame _, fun h => by cases h⟩
theorem over : Rows.fnExactDropLostRow.holds Try.pinned (OpenSpec.ofChange Rows.fnExactDropLostSpec) :=
  OpenClaim.holds_of_wide 3 Try.f3 rfl rfl rfl rfl rfl rfl rfl ⟨rfl, rfl, rfl, rfl, rfl⟩ rfl rfl rfl rfl rfl (by kernel_rfl) Try.func3 (by kernel_rfl)
    (of_decide_eq_true (by kernel_rfl)) (by unfold Func.isWrapper; first | (rw [if_pos (by decide +kernel)]; kernel_rfl) | (rw [if_neg (by decide +kernel)]; exact ⟨rfl, rfl⟩))
    (fun os started H enc _ => lifted os started H enc)
theorem proved : Rows.FnExactDropLostSaid := over
end Go.Proofs.Ytdbnokeegocpbaa.fnExactDropLost
namespace Go.Proofs.Ytdbnokeegocpbaa
/-- The row, under a short name, for the claim. -/
theorem fnExactDropLost_holds : Rows.FnExactDropLostSaid := fnExactDropLost.proved
#print axioms fnExactDropLost_holds
end Go.Proofs.Ytdbnokeegocpbaa
