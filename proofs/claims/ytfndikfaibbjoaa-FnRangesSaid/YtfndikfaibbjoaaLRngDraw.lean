/- What has a word, and a flow drawn with ranges. No condition. -/
import Derived.Test.YtfndikfaibbjoaaLDrawRngs
import Derived.Test.YtfndikfaibbjoaaLDrawFlow
import Derived.Test.YtfndikfaibbjoaaLBytes
namespace Go.Proofs.Ytfndikfaibbjoaa.Am
open Go Go.RowKit
set_option linter.unusedSimpArgs false
set_option linter.unusedVariables false

def okW (a : Rng) (w : Int) : Bool := decide (GoodR a ∧ 0 ≤ w ∧ w ≤ 65535)
def hasW (a : Rng) (w : Int) : Bool := okW a w && decide (a.em = false ∧ a.lo ≤ w ∧ w ≤ a.hi)
theorem specHas_ok (a : Rng) (w : Int) (H : Hp) : T Try.prog 47 [.agg a.enc, .int .i64 w] H (fun r K => r = .tup [.bool (hasW a w), .bool (okW a w)] ∧ Fr H K) := by
  refine T.by tabOk Try.func47 (by kernel_rfl) rfl _ (by simp [Try.f47]) H _ ?_
  have f0 := Fr.app H [some ⟨3, true, a.enc⟩]
  simp [Try.f47, tab, Rng.enc, loadB]
  refine (goodRange_ok a _).mono fun r K ⟨e1, f1⟩ => ?_
  subst e1
  have hl0 : loadA tB K (.ptr H.length 0) = some (.bool a.em) := by rw [f1.load (by simp [loadB])]; simp [loadB]
  have hl1 : loadA tI K (.ptr H.length 1) = some (.int .i64 a.lo) := by rw [f1.load (by simp [loadB])]; simp [loadB]
  have hl2 : loadA tI K (.ptr H.length 2) = some (.int .i64 a.hi) := by rw [f1.load (by simp [loadB])]; simp [loadB]
  have f01 := f0.trans f1
  by_cases ga : GoodR a
  case neg =>
    have hn : okW a w = false := decide_eq_false fun h => ga h.1
    simp [tab, ga, hn, hasW]
    exact f01
  simp [tab, ga]
  refine (l1Word_ok w _).mono fun r K' ⟨e1, e2⟩ => ?_
  subst e1 e2
  by_cases gw : 0 ≤ w ∧ w ≤ 65535
  case neg =>
    have hn : okW a w = false := decide_eq_false fun h => gw h.2
    simp [tab, gw, hn, hasW]
    exact f01
  have hy : okW a w = true := decide_eq_true ⟨ga, gw⟩
  cases hem : a.em with
  | true =>
    simp [tab, gw, hl0, hem, hasW, hy]
    exact f01
  | false =>
    simp [tab, gw, hl0, hl1, hl2, hem, hasW, hy]
    refine (l1In_ok w a.lo a.hi _).mono fun r K' ⟨e1, e2⟩ => ?_
    subst e1 e2
    simp
    exact f01
theorem implHas_ok (a : Rng) (w : Int) (H : Hp) : T Try.prog 46 [.agg a.enc, .int .i64 w] H (fun r K => r = .tup [.bool (hasW a w), .bool (okW a w)] ∧ Fr H K) := by
  refine T.by tabOk Try.func46 (by kernel_rfl) rfl _ (by simp [Try.f46]) H _ ?_
  have f0 := Fr.app H [some ⟨3, true, a.enc⟩]
  simp [Try.f46, tab, Rng.enc, loadB]
  refine (isSpan_ok a _).mono fun r K ⟨e1, f1⟩ => ?_
  subst e1
  have hl0 : loadA tB K (.ptr H.length 0) = some (.bool a.em) := by rw [f1.load (by simp [loadB])]; simp [loadB]
  have hl1 : loadA tI K (.ptr H.length 1) = some (.int .i64 a.lo) := by rw [f1.load (by simp [loadB])]; simp [loadB]
  have hl2 : loadA tI K (.ptr H.length 2) = some (.int .i64 a.hi) := by rw [f1.load (by simp [loadB])]; simp [loadB]
  have f01 := f0.trans f1
  by_cases ga : GoodR a
  case neg =>
    have hn : okW a w = false := decide_eq_false fun h => ga h.1
    simp [tab, ga, hn, hasW]
    exact f01
  simp [tab, ga]
  refine (isWord_ok w _).mono fun r K' ⟨e1, e2⟩ => ?_
  subst e1 e2
  by_cases gw : 0 ≤ w ∧ w ≤ 65535
  case neg =>
    have hn : okW a w = false := decide_eq_false fun h => gw h.2
    simp [tab, gw, hn, hasW]
    exact f01
  have hy : okW a w = true := decide_eq_true ⟨ga, gw⟩
  cases hem : a.em with
  | true =>
    simp [tab, gw, hl0, hem, hasW, hy]
    exact f01
  | false =>
    simp [tab, gw, hl0, hl1, hl2, hem, hasW, hy]
    refine (in_ok w a.lo a.hi _).mono fun r K' ⟨e1, e2⟩ => ?_
    subst e1 e2
    simp
    exact f01
theorem inRange_ok (a : Rng) (w : Int) (H : Hp) : T Try.prog 49 [.agg a.enc, .int .i64 w] H (fun r K => r = .bool (hasW a w) ∧ Fr H K) := by
  refine T.by tabOk Try.func49 (by kernel_rfl) rfl _ (by simp [Try.f49]) H _ ?_
  have f0 := Fr.app H [some ⟨3, true, a.enc⟩]
  simp [Try.f49, tab, Rng.enc, loadB]
  refine (implHas_ok a w _).mono fun r K ⟨e1, f1⟩ => ?_
  subst e1
  cases ho : okW a w with
  | true =>
    simp [tab]
    exact f0.trans f1
  | false =>
    have : hasW a w = false := by rw [hasW, ho]; rfl
    simp [tab, this]
    exact f0.trans f1
theorem NewF.look {H K : Hp} {r : AV} (h : NewF H r K) : ∃ f us, FOwn K r f us ∧ f.length ≤ 10 ∧ ∀ b ∈ f, b.code.length ≤ 10 := by
  obtain ⟨f, us, a1, _, _, a4, a5⟩ := h
  exact ⟨f, us, a1, a4, a5⟩
theorem NewF.frame {c : Nat} {H K K' : Hp} {r : AV} (h : NewF H r K) (k : Moves c K K') (hc : c < H.length) : NewF H r K' := by
  obtain ⟨f, us, a1, a2, a3, a4, a5⟩ := h
  exact ⟨f, us, a1.frame k a2 a3 (by rintro b rfl; exact hc), a2, a3, a4, a5⟩
/-- A flow and facts, drawn. -/
def DFlowRngs (H : Hp) (r : AV) (K : Hp) : Prop := (∃ v w f us R, r = .tup [v, w] ∧ FOwn K v f us ∧ f.length ≤ 10 ∧ (∀ b ∈ f, b.code.length ≤ 10) ∧ Own 3 K w (rngs R) ∧ R.length = 8) ∧ Fr H K
theorem drawFlowRngs_ok (v : AV) (H : Hp) (hv : Bytes H v) : T Try.prog 51 [v] H (DFlowRngs H) := by
  refine T.by tabOk Try.func51 (by kernel_rfl) rfl _ (by simp [Try.f51]) H _ ?_
  have h1 := hv.one
  have h2 := cells_of_one h1
  simp [Try.f51, tab, fillA, over, h1, h2]
  refine (anyFlow_ok H.length 0 _ (by omega) (cur_new hv)).mono fun u K ⟨hF, c1, m1⟩ => ?_
  simp
  refine (drawRngs_ok H.length _ K (by omega) c1).mono fun w K2 ⟨⟨R, hR, hRl⟩, hf2, c2, m2⟩ => ?_
  simp
  obtain ⟨f, us, a1, a2, a3⟩ := (hF.frame m2 (by simp)).look
  exact ⟨⟨u, w, f, us, R, rfl, a1, a2, a3, hR, hRl⟩, Moves.free (m1.trans m2)⟩
end Go.Proofs.Ytfndikfaibbjoaa.Am
