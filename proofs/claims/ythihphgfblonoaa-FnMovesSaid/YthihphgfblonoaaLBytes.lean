/- Bytes that come as arguments. No condition. -/
import Derived.Test.YthihphgfblonoaaLCur
namespace Go.Proofs.Ythihphgfblonoaa.Am
open Go Go.RowKit
set_option linter.unusedSimpArgs false
set_option linter.unusedVariables false

theorem bytes_open (H : Hp) (x : AV) (h : SSl 1 1 (SInt .u8) H [x]) : ∃ bs, Row 1 H x (bytesA bs) ∧ (∀ y ∈ bs, 0 ≤ y ∧ y ≤ 255) ∧ bs.length ≤ 140737488355328 := by
  obtain ⟨v, es, e1, h1, h2, h3, h4⟩ := h
  cases e1
  obtain ⟨xs, rfl, hxs⟩ := map_of_all (enc := fun x : Int => [AV.int .u8 x]) (q := fun y => 0 ≤ y ∧ y ≤ 255) (es := es) (fun e he => by
    obtain ⟨n, rfl, hn⟩ := h4 e he
    refine ⟨n, rfl, ?_⟩
    simpa [Lit.wf, IntKind.min, IntKind.max, IntKind.signed, IntKind.bits] using hn)
  refine ⟨xs, h1, hxs, ?_⟩
  simp at h3
  omega
end Go.Proofs.Ythihphgfblonoaa.Am
