/- The laws' own helpers for code. No condition. -/
import Derived.Test.YtdbnokeegocpbaaGreatLCode
namespace Go.Proofs.YtdbnokeegocpbaaGreat.Am
open Go Go.RowKit
set_option linter.unusedSimpArgs false
set_option linter.unusedVariables false

/-- One word of a field is put into a row of code. -/
theorem Own.setIns {K : Hp} {v : AV} {m : List Ins} (h : Own 5 K v (inss m)) {k : Nat} (hk : k < m.length) {j : Nat} (hj : j < 5) (x : Int) : ∃ b, indexAddrA tab (.slice 53) K v (.int .i64 k) = some (.ptr b (k * 5)) ∧ ∃ K', storeA tI K (.ptr b (k * 5 + j)) (.int .i64 x) = some K' ∧ (∃ m' : List Ins, m'.length = m.length ∧ Own 5 K' v (inss m')) ∧ Keeps v.at K K' := by
  obtain ⟨b, hb, f1, f2⟩ := h.store (tab := tab) (e := 53) (ety := tN) rfl (i := k) (c := m[k].enc) (by simp [hk]) .i64
  obtain ⟨K', f3, f4, f5, f6⟩ := f2 tI j (.int .i64 x) rfl rfl (by show j + 1 ≤ 5; omega)
  refine ⟨b, by simpa using f1, K', by simpa using f3, ?_, f5⟩
  have hy : ∃ y : Ins, over m[k].enc j [.int .i64 x] = y.enc := by
    obtain ⟨a, b, d, e, f⟩ := m[k]
    match j, hj with
    | 0, _ => exact ⟨⟨x, b, d, e, f⟩, rfl⟩
    | 1, _ => exact ⟨⟨a, x, d, e, f⟩, rfl⟩
    | 2, _ => exact ⟨⟨a, b, x, e, f⟩, rfl⟩
    | 3, _ => exact ⟨⟨a, b, d, x, f⟩, rfl⟩
    | 4, _ => exact ⟨⟨a, b, d, e, x⟩, rfl⟩
  obtain ⟨y, hy⟩ := hy
  refine ⟨m.set k y, by simp, ?_⟩
  have e : (inss m).set k (over m[k].enc j (AV.int .i64 x).cells) = inss (m.set k y) := by
    show (inss m).set k (over m[k].enc j [.int .i64 x]) = _
    rw [hy]
    simp [inss, List.map_set]
  rw [e] at f4
  exact f4
theorem inss_open (H : Hp) (x : AV) (h : SSl 5 40 (SPair (SInt .i64) (SPair (SInt .i64) (SPair (SInt .i64) (SPair (SInt .i64) (SInt .i64))))) H [x]) : ∃ l, Row 5 H x (inss l) ∧ l.length ≤ 140737488355328 := by
  obtain ⟨v, es, e1, h1, h2, h3, h4⟩ := h
  cases e1
  obtain ⟨l, rfl, hl⟩ := map_of_all (enc := Ins.enc) (q := fun _ => True) (es := es) (fun e he => by
    obtain ⟨_, _, rfl, ⟨a, rfl, _⟩, _, _, rfl, ⟨b, rfl, _⟩, _, _, rfl, ⟨c, rfl, _⟩, _, _, rfl, ⟨d, rfl, _⟩, ⟨f, rfl, _⟩⟩ := h4 e he
    exact ⟨⟨a, b, c, d, f⟩, rfl, trivial⟩)
  exact ⟨l, h1, by simp at h3; omega⟩
theorem ints_open (H : Hp) (x : AV) (h : SSl 1 8 (SInt .i64) H [x]) : ∃ l, Row 1 H x (ints l) ∧ l.length ≤ 140737488355328 := by
  obtain ⟨v, es, e1, h1, h2, h3, h4⟩ := h
  cases e1
  obtain ⟨xs, rfl, _⟩ := map_of_all (enc := fun x : Int => [AV.int .i64 x]) (q := fun _ => True) (es := es) (fun e he => by
    obtain ⟨n, rfl, _⟩ := h4 e he
    exact ⟨n, rfl, trivial⟩)
  exact ⟨xs, h1, by simp at h3; omega⟩
end Go.Proofs.YtdbnokeegocpbaaGreat.Am
