/- The law of IsSchedule. No condition. -/
import Derived.Test.YtcadaadoodpnmaaLSchedImpl
namespace Go.Proofs.Ytcadaadoodpnmaa.Am
open Go Go.RowKit
set_option linter.unusedSimpArgs false
set_option linter.unusedVariables false

set_option maxRecDepth 100000 in
theorem sched_law (l : List Task) (n : Int) (s : List Int) (ws : List AV) (v w : AV) (H : Hp) (hm : l.length ≤ 140737488355328) (hmm : ∀ t ∈ l, t.after.length ≤ 140737488355328) (hms : s.length ≤ 140737488355328) (hv : TRow H v l ws) (hw : Row 1 H w (ints s)) : T Try.prog 6 [v, .int .i64 n, w] H (fun r K => r = .bool true) := by
  refine T.by tabOk Try.func6 (by kernel_rfl) rfl _ (by simp [Try.f6]) H _ ?_
  have hlw := hw.len 3
  by_cases hbig : 1048576 < s.length
  · have : (1048576 : Int) < s.length := by omega
    simp [Try.f6, tab, hlw, this]
  have hbig' : ¬ (1048576 : Int) < s.length := by omega
  simp [Try.f6, tab, hlw, hbig']
  refine (szTaskS_ok l ws v H hm hmm hv).mono fun r K ⟨z, h1, h2, h3⟩ => ?_
  subst h1
  by_cases hz : z < 0
  · simp [tab, hz]
  simp [tab, hz]
  obtain ⟨hm, hmm⟩ := h3 (by omega)
  refine (toTaskS_ok l ws v K hm hmm (hv.fr h2)).mono fun x K1 ⟨⟨us1, a1, a2⟩, a3, a4⟩ => ?_
  have f1 := h2.trans a4
  simp
  refine (toIntS_ok s w K1 (by omega) (hw.fr f1)).mono fun y K2 ⟨b1, b2, b3⟩ => ?_
  have f2 := f1.trans b3
  simp
  refine (specSched_ok l n s us1 x y K2 hm hmm (by omega) (a1.look.fr b3) b1.row).mono fun r K3 ⟨⟨p, q, c1, c2, c3⟩, c4⟩ => ?_
  subst c1
  have f3 := f2.trans c4
  simp
  refine (toTaskS_ok l ws v K3 hm hmm (hv.fr f3)).mono fun x0 K4 ⟨⟨us4, d1, d2⟩, d3, d4⟩ => ?_
  have f4 := f3.trans d4
  simp
  refine (toIntS_ok s w K4 (by omega) (hw.fr f4)).mono fun x2 K5 ⟨e1, e2, e3⟩ => ?_
  have f5 := f4.trans e3
  simp
  refine (implSched_ok l n s us4 x0 x2 K5 hm hmm (by omega) (d1.look.fr e3) e1.row).mono fun r K6 ⟨⟨p', q', g1, g2, g3⟩, g4⟩ => ?_
  subst g1
  have f6 := f5.trans g4
  have hp : p' = p := by
    cases p <;> cases p' <;> simp_all
  have hq : q' = q := by
    cases q <;> cases q' <;> simp_all
  subst hp hq
  simp [tab]
  refine (toTaskS_ok l ws v K6 hm hmm (hv.fr f6)).mono fun x7 K7 ⟨⟨us7, i1, i2⟩, i3, i4⟩ => ?_
  have f7 := f6.trans i4
  simp
  refine (eqTaskS_ok l l us4 us7 x0 x7 K7 hm hmm (d1.look.fr ((e3.trans g4).trans i4)) i1.look).mono fun y8 K8 ⟨j1, j2⟩ => ?_
  subst j1
  have f8 := f7.trans j2
  simp [tab]
  refine (toIntS_ok s w K8 (by omega) (hw.fr f8)).mono fun x9 K9 ⟨k1, k2, k3⟩ => ?_
  simp
  refine (eqIntS_ok s s x2 x9 K9 (by omega) (e1.fr (((g4.trans i4).trans j2).trans k3)).row k1.row).mono fun y10 K10 ⟨l1, l2⟩ => ?_
  subst l1
  simp [tab]
theorem law_in (H : Hp) (x0 x1 x2 : AV) (h0 : SSl 2 32 (SPair (SInt .i64) (SSl 1 8 (SInt .i64))) H [x0]) (h1 : SInt .i64 H [x1]) (h2 : SSl 1 8 (SInt .i64) H [x2]) : T Try.prog 6 [x0, x1, x2] H (fun r K => r = .bool true) := by
  obtain ⟨l, us, a1, a2, a3⟩ := tasks_open H x0 h0
  obtain ⟨n, e, _⟩ := h1
  cases e
  obtain ⟨s, b1, b2⟩ := ints_open H x2 h2
  exact sched_law l n s us x0 x2 H a2 a3 b2 a1 b1
end Go.Proofs.Ytcadaadoodpnmaa.Am
