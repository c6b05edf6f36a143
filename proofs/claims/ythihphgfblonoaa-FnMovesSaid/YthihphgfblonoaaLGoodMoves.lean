/- Good moves: both ways to ask come to the same. No condition. -/
import Derived.Test.YthihphgfblonoaaLMoves
namespace Go.Proofs.Ythihphgfblonoaa.Am
open Go Go.RowKit
set_option linter.unusedSimpArgs false
set_option linter.unusedVariables false

def OkM (a : Move) : Prop := 0 ≤ a.fr ∧ a.fr ≤ 9 ∧ 0 ≤ a.to ∧ a.to ≤ 9
def GoodM (l : List Move) : Prop := (∀ a ∈ l, OkM a) ∧ l.Pairwise fun a b => a.to ≠ b.to
theorem places_few (n : Nat) : ∀ (o : List Int), (∀ k ∈ o, 0 ≤ k ∧ k < n) → o.Nodup → o.length ≤ n := by
  induction n with
  | zero =>
    intro o h _
    cases o with
    | nil => simp
    | cons a o => have := h a (by simp); omega
  | succ n ih =>
    intro o h hn
    by_cases hm : (n : Int) ∈ o
    · have hp := List.perm_cons_erase hm
      have hn2 := (hp.nodup_iff).1 hn
      have h3 := ih (o.erase n) (fun k hk => by
        have h4 := h k (List.mem_of_mem_erase hk)
        have h5 : k ≠ n := fun e => (List.nodup_cons.1 hn2).1 (e ▸ hk)
        omega) (List.nodup_cons.1 hn2).2
      have := hp.length_eq
      simp at this
      omega
    · have := ih o (fun k hk => by
        have h4 := h k hk
        have h5 : k ≠ n := fun e => hm (e ▸ hk)
        omega) hn
      omega
theorem GoodM.few {l : List Move} (h : GoodM l) : l.length ≤ 10 := by
  have := places_few 10 (l.map (·.to)) (fun x hx => by
    obtain ⟨a, ha, rfl⟩ := List.mem_map.1 hx
    have := h.1 a ha
    exact ⟨this.2.2.1, by have := this.2.2.2; omega⟩) (List.pairwise_map.2 h.2)
  simpa using this
theorem l8Place_ok (n : Int) (H : Hp) : T Try.prog 44 [.int .i64 n] H (fun r H' => r = .bool (decide (0 ≤ n ∧ n ≤ 9)) ∧ H' = H) := by
  refine T.by tabOk Try.func44 (by kernel_rfl) rfl _ (by simp [Try.f44]) H _ ?_
  simp [Try.f44, tab]
  refine (l1In_ok n 0 9 H).mono fun r H' ⟨e, h⟩ => ?_
  subst e h
  simp
set_option maxRecDepth 100000 in
theorem specGoodM_ok (l : List Move) (v : AV) (H : Hp) (hm : l.length ≤ 1048576) (hv : Row 2 H v (moves l)) : T Try.prog 13 [v] H (Told (GoodM l) H) := by
  refine T.by tabOk Try.func13 (by kernel_rfl) rfl _ (by simp [Try.f13]) H _ ?_
  have hlen := hv.len 51
  have hlive := hv.live
  simp [Try.f13, tab, hlen]
  refine W_loop _ fun I hI => ?_
  have key : ∀ (r p : List Move) (ts : TS) (K : Hp), l = p ++ r → Fr H K → (∀ a ∈ p, OkM a) → (p.Pairwise fun a b => a.to ≠ b.to) → (ts 0 = v ∧ ts 7 = v ∧ ts 8 = .int .i64 l.length ∧ ts 9 = .int .i64 p.length) → I ts K := by
    intro r
    induction r with
    | nil =>
      intro p ts K e hK h1 h2 hts
      apply hI
      simp at e
      subst e
      have hg : GoodM l := ⟨h1, h2⟩
      have h10 := hg.few
      have h10' : (l.length : Int) ≤ 10 := by omega
      simp (maxDischargeDepth := 9) [hts, hlen, tab, h10']
      exact Told.yes hg hK
    | cons a r ih =>
      intro p ts K e hK h1 h2 hts
      apply hI
      have hlt : (p.length : Int) < l.length := by simp [e]; omega
      obtain ⟨b, q, hbv, e1, e2, -⟩ := hv.get (tab := tab) (e := 51) (ety := tM) rfl (i := p.length) (a := a) (by simp [e]) .i64
      have e2 := e2 rfl
      have bad : ¬ OkM a → ¬ GoodM l := fun h g => h (g.1 a (by simp [e]))
      have hfr := hK.app' [some ⟨2, true, a.enc⟩]
      simp (maxDischargeDepth := 9) [hts, tab, hlt, hK.index, hK.load, e1, e2, Move.enc, loadB]
      refine (l8Place_ok _ _).mono fun x K2 ⟨hx, hk⟩ => ?_
      subst hx hk
      by_cases c1 : 0 ≤ a.fr ∧ a.fr ≤ 9
      case neg =>
        simp [hts, c1, tab]
        exact Told.no (bad (by unfold OkM; omega)) hfr
      simp [hts, c1, tab, loadB]
      refine (l8Place_ok _ _).mono fun x K2 ⟨hx, hk⟩ => ?_
      subst hx hk
      by_cases c2 : 0 ≤ a.to ∧ a.to ≤ 9
      case neg =>
        simp [hts, c2, tab]
        exact Told.no (bad (by unfold OkM; omega)) hfr
      have hok : OkM a := ⟨c1.1, c1.2, c2.1, c2.2⟩
      obtain ⟨u, hu, hru, _⟩ := hv.part 0 p.length (Nat.zero_le _) (by simp [e]) none (some (.int .i64 p.length)) rfl rfl
      have hpe : ((moves l).drop 0).take (p.length - 0) = moves p := by simp [e]
      rw [hpe] at hru
      have hulen := hru.len 51
      simp (maxDischargeDepth := 9) [hts, c2, tab, hK.live, hlive, hu, hulen]
      refine W_loop _ fun I2 hI2 => ?_
      have key2 : ∀ (r2 p2 : List Move) (ts : TS) (K2 : Hp), p = p2 ++ r2 → Fr (K ++ [some ⟨2, true, a.enc⟩]) K2 → (∀ b ∈ p2, b.to ≠ a.to) → (ts 0 = v ∧ ts 7 = v ∧ ts 8 = .int .i64 l.length ∧ ts 9 = .int .i64 p.length ∧ ts 4 = .ptr K.length 0 ∧ ts 26 = u ∧ ts 27 = .int .i64 p.length ∧ ts 28 = .int .i64 p2.length) → I2 ts K2 := by
        intro r2
        induction r2 with
        | nil =>
          intro p2 ts K2 ep hK2 hb hts
          apply hI2
          simp at ep
          subst ep
          have hw := wrap64 (x := p.length + 1) (by omega) (by omega)
          simp (maxDischargeDepth := 9) [hts, hw]
          refine ih (p ++ [a]) _ _ (by simp [e]) (hfr.trans hK2) ?_ ?_ (by simp (maxDischargeDepth := 9) [hts])
          · intro b hb'; simp at hb'; rcases hb' with hb' | rfl
            · exact h1 b hb'
            · exact hok
          · rw [List.pairwise_append]
            exact ⟨h2, by simp, fun x hx y hy => by simp at hy; subst hy; exact hb x hx⟩
        | cons b r2 ih2 =>
          intro p2 ts K2 ep hK2 hb hts
          apply hI2
          have hlt2 : (p2.length : Int) < p.length := by simp [ep]; omega
          obtain ⟨b', q', _, g1, g2, -⟩ := (hru.fr (hfr.trans hK2)).get (tab := tab) (e := 51) (ety := tM) rfl (i := p2.length) (a := b) (by simp [ep]) .i64
          have g2 := g2 rfl
          have hla : loadA tI K2 (.ptr K.length 1) = some (.int .i64 a.to) := by
            rw [hK2.load (by simp [loadB, Move.enc])]
            simp [loadB, Move.enc]
          have hw := wrap64 (x := p2.length + 1) (by omega) (by omega)
          by_cases hba : b.to = a.to
          · simp (maxDischargeDepth := 9) [hts, tab, hlt2, g1, g2, Move.enc, loadB, hla, hba]
            refine Told.no (fun g => ?_) (Fr.app' (hfr.trans hK2) _)
            have g5 := g.2
            rw [e, ep, List.pairwise_append] at g5
            exact g5.2.2 b (by simp) a (by simp) hba
          · simp (maxDischargeDepth := 9) [hts, tab, hlt2, g1, g2, Move.enc, loadB, hla, hba, hw]
            refine ih2 (p2 ++ [b]) _ _ (by simp [ep]) (hK2.app' _) (fun c hc => ?_) (by simp (maxDischargeDepth := 9) [hts])
            simp at hc
            rcases hc with hc | rfl
            · exact hb c hc
            · exact hba
      exact key2 p [] _ _ rfl (Fr.refl _) (by simp) (by simp (maxDischargeDepth := 9) [hts])
  exact key l [] _ H rfl (Fr.refl H) (by simp) (by simp) (by simp)
/-- Which places have been moved to. -/
def seenM (p : List Move) (j : Nat) : Bool := p.any fun b => b.to == (j : Int)
def SeenM (cells : List AV) (p : List Move) : Prop := cells.length = 10 ∧ ∀ j, j < 10 → cells[j]? = some (.bool (seenM p j))
set_option maxRecDepth 100000 in
theorem areMoves_ok (l : List Move) (v : AV) (H : Hp) (hm : l.length ≤ 1048576) (hv : Row 2 H v (moves l)) : T Try.prog 46 [v] H (Told (GoodM l) H) := by
  refine T.by tabOk Try.func46 (by kernel_rfl) rfl _ (by simp [Try.f46]) H _ ?_
  have hlen := hv.len 51
  simp [Try.f46, tab, hlen, buildA, -List.reduceReplicate]
  refine W_loop _ fun I hI => ?_
  have key : ∀ (r p : List Move) (ts : TS) (K : Hp) (cells : List AV), l = p ++ r → Fr H K → K[H.length]? = some (some ⟨10, true, cells⟩) → SeenM cells p → (∀ a ∈ p, OkM a) → (p.Pairwise fun a b => a.to ≠ b.to) → (ts 0 = v ∧ ts 3 = .ptr H.length 0 ∧ ts 7 = v ∧ ts 8 = .int .i64 l.length ∧ ts 9 = .int .i64 p.length) → I ts K := by
    intro r
    induction r with
    | nil =>
      intro p ts K cells e hK hb hs h1 h2 hts
      apply hI
      simp at e
      subst e
      simp [hts, tab]
      exact Told.yes ⟨h1, h2⟩ hK
    | cons a r ih =>
      intro p ts K cells e hK hb hs h1 h2 hts
      apply hI
      have hlt : (p.length : Int) < l.length := by simp [e]; omega
      obtain ⟨b, q, hbv, e1, e2, -⟩ := hv.get (tab := tab) (e := 51) (ety := tM) rfl (i := p.length) (a := a) (by simp [e]) .i64
      have e2 := e2 rfl
      have bad : ¬ OkM a → ¬ GoodM l := fun h g => h (g.1 a (by simp [e]))
      have hfr := hK.app' [some ⟨2, true, a.enc⟩]
      simp (maxDischargeDepth := 9) [hts, tab, hlt, hK.index, hK.load, e1, e2, Move.enc, loadB]
      refine (in_ok _ _ _ _).mono fun x K2 ⟨hx, hk⟩ => ?_
      subst hx hk
      by_cases c1 : 0 ≤ a.fr ∧ a.fr ≤ 9
      case neg =>
        simp [hts, c1, tab]
        exact Told.no (bad (by unfold OkM; omega)) hfr
      simp [hts, c1, tab, loadB]
      refine (in_ok _ _ _ _).mono fun x K2 ⟨hx, hk⟩ => ?_
      subst hx hk
      by_cases c2 : 0 ≤ a.to ∧ a.to ≤ 9
      case neg =>
        simp [hts, c2, tab]
        exact Told.no (bad (by unfold OkM; omega)) hfr
      obtain ⟨fr, to⟩ := a
      simp only at c1 c2
      obtain ⟨j, rfl⟩ := Int.eq_ofNat_of_zero_le c2.1
      have hj : j < 10 := by omega
      have hj' : (j : Int) < 10 := by omega
      have hok : OkM ⟨fr, j⟩ := ⟨c1.1, c1.2, by simp, by simp; omega⟩
      have hb' : (K ++ [some ⟨2, true, [.int .i64 fr, .int .i64 j]⟩])[H.length]? = some (some ⟨10, true, cells⟩) := (Fr.app K _).2 _ _ hb id
      have hld := load_at hb' (ty := ⟨.bool, 1, 1, [.bool false], false⟩) rfl rfl (hs.2 j hj)
      simp (maxDischargeDepth := 9) [hts, c2, tab, hj', indexAddrA, hld, loadB, hb']
      cases hse : seenM p j with
      | true =>
        simp [hts, hse]
        refine Told.no (fun g => ?_) hfr
        have g5 := g.2
        rw [e, List.pairwise_append] at g5
        simp [seenM] at hse
        obtain ⟨b, hb1, hb2⟩ := hse
        exact g5.2.2 b hb1 ⟨fr, j⟩ (by simp) hb2
      | false =>
        obtain ⟨K3, s1, s2, s3, s4⟩ := store_at hb' rfl (ty := ⟨.bool, 1, 1, [.bool false], false⟩) (o := j) (v := .bool true) rfl rfl (by simp [hs.1]; omega)
        have hw := wrap64 (x := p.length + 1) (by omega) (by omega)
        simp (maxDischargeDepth := 9) [hts, hse, tab, hj', indexAddrA, s1, hw, loadB]
        refine ih (p ++ [⟨fr, j⟩]) _ _ _ (by simp [e]) (Fr.then hfr s3 (by rintro b rfl; exact Nat.le_refl _)) s2 ?_ ?_ ?_ (by simp [hts])
        · refine ⟨by rw [over_length _ _ _ (by simp [hs.1, AV.cells]; omega)]; exact hs.1, fun j' hj2 => ?_⟩
          rw [over_get _ _ _ (by simp [hs.1]; omega)]
          by_cases e2 : j' = j
          · subst e2
            simp [AV.cells, seenM]
          · rw [if_neg (by simp [AV.cells]; omega), hs.2 j' hj2]
            have : ¬ (j : Int) = j' := by omega
            simp [seenM, this]
        · intro b hb; simp at hb; rcases hb with hb | rfl
          · exact h1 b hb
          · exact hok
        · rw [List.pairwise_append]
          refine ⟨h2, by simp, fun x hx y hy => ?_⟩
          simp at hy
          subst hy
          intro hsame
          have : seenM p j = true := by simp [seenM]; exact ⟨x, hx, hsame⟩
          rw [hse] at this
          cases this
  refine key l [] _ _ (List.replicate 10 (.bool false)) rfl (Fr.app _ _) (by simp) ?_ (by simp) (by simp) (by simp)
  refine ⟨by simp, fun j hj => ?_⟩
  simp only [List.getElem?_replicate, seenM]
  rw [if_pos hj]
  rfl
end Go.Proofs.Ythihphgfblonoaa.Am
