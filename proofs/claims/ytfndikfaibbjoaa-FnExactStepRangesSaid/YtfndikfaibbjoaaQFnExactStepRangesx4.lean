-- written by a program of this session (wip/fork) out of the translation; Lean checks it
import Derived.Test.YtfndikfaibbjoaaQFnExactStepRangesx0
import Derived.Test.YtfndikfaibbjoaaQFnExactStepRangesx1
import Derived.Test.YtfndikfaibbjoaaQFnExactStepRangesx3
namespace Go.Proofs.Ytfndikfaibbjoaa.QFnExactStepRanges
open Go.RowKit Go.Proofs.YtfndikfaibbjoaaW.PrintWords Go.Proofs.YtfndikfaibbjoaaW.PrintLast Go.Proofs.YtfndikfaibbjoaaW.PrintMore
attribute [local go_sem] max2_int min2_int max_two min_two
set_option linter.unusedVariables false
set_option linter.unusedSimpArgs false

/-! ### spec_l6Step: function 60 -/
def spec_l6Step.l0 : Nat → List (S24) → List (S94) → Int → Int → Option ((List (S24)))
  | 0, _, _, _, _ => none
  | k + 1, x5, x11, x12, x13 => if x13 < x12 then (if 0 ≤ x13 then (if x13 < (x11.length : Int) then (if ((rd_T94 x11 x13).f0) = 1 then (if 0 ≤ ((rd_T94 x11 x13).f1) then (if ((rd_T94 x11 x13).f1) < (x5.length : Int) then (spec_l6Step.l0 k (x5.set (((rd_T94 x11 x13).f1) : Int).toNat (⟨false, (rd_T94 x11 x13).f4, (rd_T94 x11 x13).f4⟩ : S24)) x11 x12 (wrap64 (x13 + 1))) else (none)) else (none)) else (if ((rd_T94 x11 x13).f0) = 2 then (if 0 ≤ ((rd_T94 x11 x13).f2) then (if ((rd_T94 x11 x13).f2) < (x5.length : Int) then (if 0 ≤ ((rd_T94 x11 x13).f1) then (if ((rd_T94 x11 x13).f1) < (x5.length : Int) then (spec_l6Step.l0 k (x5.set (((rd_T94 x11 x13).f1) : Int).toNat (⟨(rd_T24 x5 ((rd_T94 x11 x13).f2)).f0, (rd_T24 x5 ((rd_T94 x11 x13).f2)).f1, (rd_T24 x5 ((rd_T94 x11 x13).f2)).f2⟩ : S24)) x11 x12 (wrap64 (x13 + 1))) else (none)) else (none)) else (none)) else (none)) else ((spec_l3Two.f ((rd_T94 x11 x13).f0)).bind fun t161 => (if t161 = true then (if 0 ≤ ((rd_T94 x11 x13).f2) then (if ((rd_T94 x11 x13).f2) < (x5.length : Int) then (if 0 ≤ ((rd_T94 x11 x13).f3) then (if ((rd_T94 x11 x13).f3) < (x5.length : Int) then ((spec_l6Two.f k ((rd_T94 x11 x13).f0) ((rd_T24 x5 ((rd_T94 x11 x13).f2)).f0) ((rd_T24 x5 ((rd_T94 x11 x13).f2)).f1) ((rd_T24 x5 ((rd_T94 x11 x13).f2)).f2) ((rd_T24 x5 ((rd_T94 x11 x13).f3)).f0) ((rd_T24 x5 ((rd_T94 x11 x13).f3)).f1) ((rd_T24 x5 ((rd_T94 x11 x13).f3)).f2)).bind fun bt164 => (if 0 ≤ ((rd_T94 x11 x13).f1) then (if ((rd_T94 x11 x13).f1) < (x5.length : Int) then (spec_l6Step.l0 k (x5.set (((rd_T94 x11 x13).f1) : Int).toNat (⟨bt164.1, bt164.2.1, bt164.2.2⟩ : S24)) x11 x12 (wrap64 (x13 + 1))) else (none)) else (none))) else (none)) else (none)) else (none)) else (none)) else (spec_l6Step.l0 k x5 x11 x12 (wrap64 (x13 + 1))))))) else (none)) else (none)) else (some x5)
def spec_l6Step.f (k : Nat) (l0 : List (S94)) (l1 : List (S24)) : Option ((List (S24))) := (some (([] : List (S24)) : List (S24))).bind fun y150 => (if y150.length + l1.length < 5864062014805 then (spec_l6Step.l0 k (y150 ++ l1) l0 (l0.length : Int) 0) else (none))
theorem spec_l6Step.mono_l : ∀ k, (∀ y0 y1 y2 y3, LeO (spec_l6Step.l0 k y0 y1 y2 y3) (spec_l6Step.l0 (k + 1) y0 y1 y2 y3))
  | 0 => fun _ _ _ _ r h => by simp [spec_l6Step.l0] at h
  | k + 1 => by
    have ih0 := spec_l6Step.mono_l k
    · intro y0 y1 y2 y3
      unfold spec_l6Step.l0
      repeat' first
      | (with_reducible exact ih0 _ _ _ _)
      | (with_reducible exact spec_l6Two.mono _ _ _ _ _ _ _ _)
      | (with_reducible exact LeO.refl _)
      | (with_reducible exact LeO.none _)
      | (with_reducible refine LeO.ite ?_ ?_)
      | (with_reducible refine LeO.bind ?_ (fun _ => ?_))
      | exact ih0 _ _ _ _
      | exact spec_l6Two.mono _ _ _ _ _ _ _ _
      | exact LeO.none _
      | refine LeO.ite ?_ ?_
      | refine LeO.bind ?_ (fun _ => ?_)
theorem spec_l6Step.mono : ∀ a0 a1 k, LeO (spec_l6Step.f k a0 a1) (spec_l6Step.f (k + 1) a0 a1) := by
  intro a0 a1 k
  have ih0 := spec_l6Step.mono_l k
  unfold spec_l6Step.f
  repeat' first
      | (with_reducible exact ih0 _ _ _ _)
      | (with_reducible exact spec_l6Two.mono _ _ _ _ _ _ _ _)
      | (with_reducible exact LeO.refl _)
      | (with_reducible exact LeO.none _)
      | (with_reducible refine LeO.ite ?_ ?_)
      | (with_reducible refine LeO.bind ?_ (fun _ => ?_))
      | exact ih0 _ _ _ _
      | exact spec_l6Two.mono _ _ _ _ _ _ _ _
      | exact LeO.none _
      | refine LeO.ite ?_ ?_
      | refine LeO.bind ?_ (fun _ => ?_)
def spec_l6Step.T8 : Bool × List (List Nat × List Nat) := (true, [([], []), ([], []), ([1], [1]), ([], []), ([], []), ([4], [4]), ([3, 5], [3, 5]), ([6], [6]), ([0, 2, 0, 1, 2, 3, 4, 5, 6, 7], [0, 2]), ([8, 7, 0, 1, 2, 3, 4, 5, 6, 7], [7, 8])])
def spec_l6Step.B8 : List Nat := [0, 0, 2, 0, 0, 16, 56, 120, 255, 511]
theorem spec_l6Step.tab8 : rtab .any (opsOf Try.f60 8) = spec_l6Step.T8 := by kernel_rfl
theorem spec_l6Step.bits8 : waitsOk spec_l6Step.T8.2 spec_l6Step.B8 = true := by kernel_rfl
def spec_l6Step.T10 : Bool × List (List Nat × List Nat) := (true, [([], []), ([], []), ([1], [1]), ([], []), ([3], [3]), ([], []), ([], []), ([6], [6]), ([5, 7], [5, 7]), ([8], [8]), ([], []), ([], []), ([11], [11]), ([10, 12], [10, 12]), ([13], [13]), ([4, 9, 14], [4, 9, 14]), ([0, 2, 0, 1, 2, 3, 4, 5, 6, 7, 8, 9, 10, 11, 12, 13, 14, 15], [0, 2]), ([16, 15, 15, 0, 1, 2, 3, 4, 5, 6, 7, 8, 9, 10, 11, 12, 13, 14, 15], [15, 16])])
def spec_l6Step.B10 : List Nat := [0, 0, 2, 0, 8, 0, 0, 64, 224, 480, 0, 0, 2048, 7168, 15360, 32760, 65535, 131071]
theorem spec_l6Step.tab10 : rtab .any (opsOf Try.f60 10) = spec_l6Step.T10 := by kernel_rfl
theorem spec_l6Step.bits10 : waitsOk spec_l6Step.T10.2 spec_l6Step.B10 = true := by kernel_rfl
set_option maxHeartbeats 8000000 in
set_option maxRecDepth 100000 in
theorem spec_l6Step.calls (k : Nat) (A0 : Option Addr) (c0 : Nat) (l0 : List (S94)) (A1 : Option Addr) (c1 : Nat) (l1 : List (S24)) (r : List (S24)) (w : World) (hr0 : Kd.C k94 w A0 l0.length l0) (hc0 : l0.length ≤ c0) (hr1 : Kd.C k24 w A1 l1.length l1) (hc1 : l1.length ≤ c1) (h : spec_l6Step.f k l0 l1 = some r) :
    Calls Try.prog 60 #[.slice A0 l0.length c0, .slice A1 l1.length c1] w fun e w' => ∃ v0_ : Value, e = .returned (v0_) ∧ Kd.R k24 24 w' w.heap.size (fun _ => True) v0_ r ∧ Below w.heap.size w w' := by
  have hu94 := Try.underlying94
  have hu24 := Try.underlying24
  have HR0 := Aside0.mk hr0
  have HC0 := Aside0.mk hc0
  clear hr0 hc0
  have HR1 := Aside0.mk hr1
  have HC1 := Aside0.mk hc1
  clear hr1 hc1
  have HB := Aside0.mk (Below.refl w.heap.size w)
  have H : ((some (([] : List (S24)) : List (S24))).bind fun y150 => (if y150.length + l1.length < 5864062014805 then (spec_l6Step.l0 k (y150 ++ l1) l0 (l0.length : Int) 0) else (none))) = some r := h
  clear h
  obtain ⟨y150, hy150⟩ : ∃ y_ : List (S24), y_ = (([] : List (S24))) := ⟨_, rfl⟩
  replace H : (if y150.length + l1.length < 5864062014805 then (spec_l6Step.l0 k (y150 ++ l1) l0 (l0.length : Int) 0) else (none)) = some r := by first | (rw [hy150]; with_reducible exact H) | (have H2_ := (Option.bind_some _ _).symm.trans H; rw [hy150]; with_reducible exact H2_) | (have H2_ := (Option.bind_some _ _).symm.trans H; with_reducible exact H2_) | with_reducible exact H | (rw [hy150]; exact H) | exact H
  have Ny150 := Aside0.mk hy150
  clear hy150
  by_cases c3 : y150.length + l1.length < 5864062014805
  · rw [if_pos c3] at H
    have LMc3 := Aside0.mk c3
    clear c3
    obtain ⟨y153, hy153⟩ : ∃ y_ : List (S24), y_ = (y150 ++ l1) := ⟨_, rfl⟩
    replace H : (spec_l6Step.l0 k y153 l0 (l0.length : Int) 0) = some r := by first | (rw [hy153]; with_reducible exact H) | (have H2_ := (Option.bind_some _ _).symm.trans H; rw [hy153]; with_reducible exact H2_) | (have H2_ := (Option.bind_some _ _).symm.trans H; with_reducible exact H2_) | with_reducible exact H | (rw [hy153]; exact H) | exact H
    have Ny153 := Aside0.mk hy153
    clear hy153
    have H' := Aside0.mk H
    clear H
    go_enter Try.func60, Try.ntmps60
    go_wp2_with (first | ((with_reducible refine gate_dst (N := 8) rfl ?_); refine Kd.R_lit k24 _ 24 ?hg (N := 8) ?hd (xs := ([] : List (S24))) (inner := []) (ok := fun _ => True) (okp := fun _ => True) ?hr ?hp (fun _ hk => hk) trivial (Below.refl _ _) (Nat.le_refl _) (by simp) ?_; (case hd => rfl); (case hg => rfl); (case hr => first | (go_simp; done) | (go_simp; rfl)); (case hp => exact (Reps.none _ _)); intro v151 w4 ho5 hb hg_ hnew_; clear hg_ hnew_; (first | rw [← Ny150.out] at ho5 | (simp only [Int.reduceToNat] at ho5; rw [← Ny150.out] at ho5)); have n0_ := Aside0.mk (Kd.R_lower ho5 (below_size (by repeat (first | (with_reducible first | exact HB.out | apply below_alloc | apply pw_below_drewN | apply below_drew1) | exact HB.out)))); have n1_ := Aside0.mk (below_step (by repeat (first | (with_reducible first | exact HB.out | apply below_alloc | apply pw_below_drewN | apply below_drew1) | exact HB.out)) hb); clear HB; have HO152 := n0_; have HB := n1_; clear n0_ n1_; clear hb ho5) | ((with_reducible refine gate_builtin (b := .append) (xs := #[.tmp 8, .tmp 9]) rfl ?_); at_builtin; refine Kd.R_append_rows k24 (w0 := w) w.heap.size rfl (.tmp 8) (.tmp 9) 39 24 (.agg #[(.bool false), (.int .i64 0), (.int .i64 0)]) 24 rfl Try.underlying39 info24 rfl (by decide) (by omega) v151 y150 l1 _ _ _ (fun _ => True) (fun _ => False) rfl rfl ?aO ?aR (fun _ _ h => h) (fun _ h => h.elim) ?aF ?aB ?aS ?aL ?_; (case aR => repeat (first | exact (Kd.C_below HR1.out HB.out) | (with_reducible refine Kd.C_alloc ?_ _) | (with_reducible refine Kd.C_drewN ?_ _) | (with_reducible refine Kd.C_drew ?_))); (case aB => exact (by repeat (first | (with_reducible first | exact HB.out | apply below_alloc | apply pw_below_drewN | apply below_drew1) | exact HB.out))); (case aF => exact (fun _ _ => trivial)); (case aO => exact (by (with_reducible repeat (first | apply Kd.R_alloc | apply Kd.R_drewN | apply Kd.R_drew)); exact HO152.out)); (case aS => exact (below_size (by repeat (first | (with_reducible first | exact HB.out | apply below_alloc | apply pw_below_drewN | apply below_drew1) | exact HB.out)))); (case aL => have := LMc3.out; omega); intro v154 w6 ho hb hg hat; rw [← Ny153.out] at ho; have n0_ := Aside0.mk (hb); have n1_ := Aside0.mk (ho); clear HB; clear HO152; have HB := n0_; have HO155 := n1_; clear n0_ n1_; clear ho hb hg hat))
    go_loopg [13] k (fun kq v13 w' => ∃ (x5_1 : List (S24)) (x13_1 : Int), v13 = .int .i64 x13_1 ∧ Aside0 (spec_l6Step.l0 kq x5_1 l0 (l0.length : Int) x13_1 = some r) ∧ Aside0 (kq ≤ k) ∧ Aside0 (Kd.R k24 24 w' w.heap.size (fun _ => True) v154 x5_1) ∧ Aside0 (Below w.heap.size w w'))
    case atStart => exact ⟨(y153), (0), (by first | rfl | (simp; done) | (simp [*]; done)), H', ⟨Nat.le_refl _⟩, ⟨by (with_reducible repeat (first | apply Kd.R_alloc | apply Kd.R_drewN | apply Kd.R_drew)); exact HO155.out⟩, ⟨by repeat (first | (with_reducible first | exact HB.out | apply below_alloc | apply pw_below_drewN | apply below_drew1) | exact HB.out)⟩⟩
    case round =>
      clear H'
      try clear c1
      try clear p2
      try clear c3
      try clear c6
      obtain ⟨x5_1, x13_1, rfl, HA, HK1, HO_5, HB⟩ := hrel
      cases gk with
      | zero => exact absurd HA.out (by simp [spec_l6Step.l0])
      | succ k1 =>
        have H := HA.out
        clear HA
        simp only [spec_l6Step.l0] at H
        by_cases c7 : x13_1 < (l0.length : Int)
        · rw [if_pos c7] at H
          have c7b0 : decide (x13_1 < (l0.length : Int)) = true := decide_eq_true c7
          clear c7
          by_cases c8 : 0 ≤ x13_1
          · rw [if_pos c8] at H
            have c8b0 : decide (0 ≤ x13_1) = true := decide_eq_true c8
            clear c8
            by_cases c9 : x13_1 < (l0.length : Int)
            · rw [if_pos c9] at H
              have c9b0 : decide (x13_1 < (l0.length : Int)) = true := decide_eq_true c9
              clear c9
              by_cases c10 : ((rd_T94 l0 x13_1).f0) = 1
              · rw [if_pos c10] at H
                have c10b0 : (((rd_T94 l0 x13_1).f0) == 1) = true := beq_iff_eq.mpr c10
                have c10b1 : (((rd_T94 l0 x13_1).f0) != 1) = false := bne_eq_false_iff_eq.mpr c10
                clear c10
                by_cases c11 : 0 ≤ ((rd_T94 l0 x13_1).f1)
                · rw [if_pos c11] at H
                  have c11b0 : decide (0 ≤ ((rd_T94 l0 x13_1).f1)) = true := decide_eq_true c11
                  clear c11
                  by_cases c12 : ((rd_T94 l0 x13_1).f1) < (x5_1.length : Int)
                  · rw [if_pos c12] at H
                    have c12b0 : decide (((rd_T94 l0 x13_1).f1) < (x5_1.length : Int)) = true := decide_eq_true c12
                    clear c12
                    obtain ⟨y158, hy158⟩ : ∃ y_ : List (S24), y_ = (x5_1.set (((rd_T94 l0 x13_1).f1) : Int).toNat (⟨false, (rd_T94 l0 x13_1).f4, (rd_T94 l0 x13_1).f4⟩ : S24)) := ⟨_, rfl⟩
                    replace H : (spec_l6Step.l0 k1 y158 l0 (l0.length : Int) (wrap64 (x13_1 + 1))) = some r := by first | (rw [hy158]; with_reducible exact H) | (have H2_ := (Option.bind_some _ _).symm.trans H; rw [hy158]; with_reducible exact H2_) | (have H2_ := (Option.bind_some _ _).symm.trans H; with_reducible exact H2_) | with_reducible exact H | (rw [hy158]; exact H) | exact H
                    have Ny158 := Aside0.mk hy158
                    clear hy158
                    have H' := Aside0.mk H
                    clear H
                    have p156 : 0 ≤ (x13_1 : Int) := of_decide_eq_true (by first | (with_reducible assumption) | assumption)
                    have q156 : x13_1 < (l0.length : Int) := of_decide_eq_true (by first | (with_reducible assumption) | assumption)
                    obtain ⟨ad156, e156, hx156_0, hx156_1, hx156_2, hx156_3, hx156_4⟩ := at_T94 HR0.out x13_1 p156 q156
                    cases e156
                    replace hx156_0 := (HB.out.cell (World.block_lt_of_cell? w _ hx156_0)).trans hx156_0
                    replace hx156_1 := (HB.out.cell (World.block_lt_of_cell? w _ hx156_1)).trans hx156_1
                    replace hx156_2 := (HB.out.cell (World.block_lt_of_cell? w _ hx156_2)).trans hx156_2
                    replace hx156_3 := (HB.out.cell (World.block_lt_of_cell? w _ hx156_3)).trans hx156_3
                    replace hx156_4 := (HB.out.cell (World.block_lt_of_cell? w _ hx156_4)).trans hx156_4
                    replace p156 := eq_true p156
                    replace q156 := eq_true q156
                    go_wp2_with (first | ((with_reducible refine gate_dst (N := 7) rfl ?_); refine box_event ?hg (N := 7) ?hd (cs := #[.int .i64 0, .int .i64 0, .int .i64 0, .int .i64 0, .int .i64 0]) (t := 94) ?hr ?_; (case hd => rfl); (case hg => rfl); (case hr => first | (go_simp; done) | (go_simp; rfl)); intro gb157 hg w14 hbox hb; have n0_ := Aside0.mk (Kd.R_below (by (with_reducible repeat (first | apply Kd.R_alloc | apply Kd.R_drewN | apply Kd.R_drew)); exact HO_5.out) hb); have n1_ := Aside0.mk (below_step (by repeat (first | (with_reducible first | exact HB.out | apply below_alloc | apply pw_below_drewN | apply below_drew1) | exact HB.out)) hb); have n2_ := Aside0.mk (hbox); have n3_ := Aside0.mk ((by rw [hg]; exact (below_size (by repeat (first | (with_reducible first | exact HB.out | apply below_alloc | apply pw_below_drewN | apply below_drew1) | exact HB.out))) : w.heap.size ≤ gb157)); have n4_ := Aside0.mk ((by rw [hg]; exact (below_size (by repeat (first | (with_reducible first | exact HB.out | apply below_alloc | apply pw_below_drewN | apply below_drew1) | exact HB.out))) : w.heap.size ≤ gb157)); clear HO_5; clear HB; have HO_5 := n0_; have HB := n1_; have BK157 := n2_; have GW157 := n3_; have GE157 := n4_; clear n0_ n1_ n2_ n3_ n4_; clear hb hbox hg; have hcz15_0 : w14.cell? ⟨gb157, 0, none⟩ = some (.int .i64 0) := (blk_cell BK157.out 0).trans rfl; have hcz15_1 : w14.cell? ⟨gb157, 1, none⟩ = some (.int .i64 0) := (blk_cell BK157.out 1).trans rfl; have hcz15_2 : w14.cell? ⟨gb157, 2, none⟩ = some (.int .i64 0) := (blk_cell BK157.out 2).trans rfl; have hcz15_3 : w14.cell? ⟨gb157, 3, none⟩ = some (.int .i64 0) := (blk_cell BK157.out 3).trans rfl; have hcz15_4 : w14.cell? ⟨gb157, 4, none⟩ = some (.int .i64 0) := (blk_cell BK157.out 4).trans rfl; have hfz15_0 := blk_frozen BK157.out 0; have hfz15_1 := blk_frozen BK157.out 1; have hfz15_2 := blk_frozen BK157.out 2; have hfz15_3 := blk_frozen BK157.out 3; have hfz15_4 := blk_frozen BK157.out 4) | ((with_reducible refine gate_store (t := 94) (p := 7) rfl ?_); refine store_event (t := 94) (p := 7) (v := ?vo_w16) (w1 := (((((w14.setCell ⟨gb157, 0, none⟩ (.int .i64 ((rd_T94 l0 x13_1).f0))).setCell ⟨gb157, 1, none⟩ (.int .i64 ((rd_T94 l0 x13_1).f1))).setCell ⟨gb157, 2, none⟩ (.int .i64 ((rd_T94 l0 x13_1).f2))).setCell ⟨gb157, 3, none⟩ (.int .i64 ((rd_T94 l0 x13_1).f3))).setCell ⟨gb157, 4, none⟩ (.int .i64 ((rd_T94 l0 x13_1).f4)))) ?hg ?ho ?hn ?hr ?_; (case ho => rfl); (case hg => rfl); (case hn => rfl); (case hr => first | (go_simp; done) | (go_simp; rfl)); intro w16 hw; have n0_ : Aside0 (Kd.R k24 24 w16 w.heap.size (fun _ => True) v154 x5_1) := ⟨(by rw [hw]; exact (by (with_reducible repeat (first | apply Kd.R_alloc | apply Kd.R_drewN | apply Kd.R_drew)); exact Kd.R_mono (Kd.R_far (p := ⟨gb157, 4, none⟩) (Kd.R_far (p := ⟨gb157, 3, none⟩) (Kd.R_far (p := ⟨gb157, 2, none⟩) (Kd.R_far (p := ⟨gb157, 1, none⟩) (Kd.R_far (p := ⟨gb157, 0, none⟩) (Kd.R_types HO_5.out BK157.out (by decide)) (fun _ hk => hk.2) (.int .i64 ((rd_T94 l0 x13_1).f0))) (fun _ hk => hk.2) (.int .i64 ((rd_T94 l0 x13_1).f1))) (fun _ hk => hk.2) (.int .i64 ((rd_T94 l0 x13_1).f2))) (fun _ hk => hk.2) (.int .i64 ((rd_T94 l0 x13_1).f3))) (fun _ hk => hk.2) (.int .i64 ((rd_T94 l0 x13_1).f4))) (fun _ hk => trivial)))⟩; have n1_ : Aside0 (w16.heap[gb157]? = some (.cells #[.int .i64 ((rd_T94 l0 x13_1).f0), .int .i64 ((rd_T94 l0 x13_1).f1), .int .i64 ((rd_T94 l0 x13_1).f2), .int .i64 ((rd_T94 l0 x13_1).f3), .int .i64 ((rd_T94 l0 x13_1).f4)] 94 (0, 0))) := ⟨(by rw [hw]; exact (by (with_reducible repeat (first | refine blk_drewN ?_ _ | refine blk_drew ?_ | refine blk_alloc ?_ _)); refine blk_put (cs := #[.int .i64 ((rd_T94 l0 x13_1).f0), .int .i64 ((rd_T94 l0 x13_1).f1), .int .i64 ((rd_T94 l0 x13_1).f2), .int .i64 ((rd_T94 l0 x13_1).f3), .int .i64 0]) ?_ 4 _ rfl; (with_reducible repeat (first | refine blk_drewN ?_ _ | refine blk_drew ?_ | refine blk_alloc ?_ _)); refine blk_put (cs := #[.int .i64 ((rd_T94 l0 x13_1).f0), .int .i64 ((rd_T94 l0 x13_1).f1), .int .i64 ((rd_T94 l0 x13_1).f2), .int .i64 0, .int .i64 0]) ?_ 3 _ rfl; (with_reducible repeat (first | refine blk_drewN ?_ _ | refine blk_drew ?_ | refine blk_alloc ?_ _)); refine blk_put (cs := #[.int .i64 ((rd_T94 l0 x13_1).f0), .int .i64 ((rd_T94 l0 x13_1).f1), .int .i64 0, .int .i64 0, .int .i64 0]) ?_ 2 _ rfl; (with_reducible repeat (first | refine blk_drewN ?_ _ | refine blk_drew ?_ | refine blk_alloc ?_ _)); refine blk_put (cs := #[.int .i64 ((rd_T94 l0 x13_1).f0), .int .i64 0, .int .i64 0, .int .i64 0, .int .i64 0]) ?_ 1 _ rfl; (with_reducible repeat (first | refine blk_drewN ?_ _ | refine blk_drew ?_ | refine blk_alloc ?_ _)); refine blk_put (cs := #[.int .i64 0, .int .i64 0, .int .i64 0, .int .i64 0, .int .i64 0]) ?_ 0 _ rfl; (with_reducible repeat (first | refine blk_drewN ?_ _ | refine blk_drew ?_ | refine blk_alloc ?_ _)); exact BK157.out))⟩; have n2_ : Aside0 (Below w.heap.size w w16) := ⟨(by rw [hw]; exact (by repeat (first | (with_reducible first | exact HB.out | apply below_alloc | apply pw_below_drewN | apply below_drew1 | refine below_set ?_ GE157.out) | exact HB.out)))⟩; clear hw; clear HO_5; clear BK157; clear HB; have HO_5 := n0_; have BK157 := n1_; have HB := n2_; clear n0_ n1_ n2_; have hcz17_0 : w16.cell? ⟨gb157, 0, none⟩ = some (.int .i64 ((rd_T94 l0 x13_1).f0)) := (blk_cell BK157.out 0).trans rfl; have hcz17_1 : w16.cell? ⟨gb157, 1, none⟩ = some (.int .i64 ((rd_T94 l0 x13_1).f1)) := (blk_cell BK157.out 1).trans rfl; have hcz17_2 : w16.cell? ⟨gb157, 2, none⟩ = some (.int .i64 ((rd_T94 l0 x13_1).f2)) := (blk_cell BK157.out 2).trans rfl; have hcz17_3 : w16.cell? ⟨gb157, 3, none⟩ = some (.int .i64 ((rd_T94 l0 x13_1).f3)) := (blk_cell BK157.out 3).trans rfl; have hcz17_4 : w16.cell? ⟨gb157, 4, none⟩ = some (.int .i64 ((rd_T94 l0 x13_1).f4)) := (blk_cell BK157.out 4).trans rfl; have hfz17_0 := blk_frozen BK157.out 0; have hfz17_1 := blk_frozen BK157.out 1; have hfz17_2 := blk_frozen BK157.out 2; have hfz17_3 := blk_frozen BK157.out 3; have hfz17_4 := blk_frozen BK157.out 4; have p13 : 0 ≤ (((rd_T94 l0 x13_1).f1) : Int) := of_decide_eq_true (by first | (with_reducible assumption) | assumption); have q13 : (((rd_T94 l0 x13_1).f1) : Int) < ((x5_1.length : Int) : Int) := of_decide_eq_true (by first | (with_reducible assumption) | assumption); obtain ⟨go13, co13, eo13, gb13, gl13, cl13, HG13⟩ := Kd.R_form HO_5.out (by omega); (first | cases eo13 | (injection eo13 with ea_ en_ ec_; (first | subst ea_ | (injection ea_ with ea_; subst ea_)); subst ec_; clear en_)); have GB13 := Aside0.mk gb13; have GG13 := Aside0.mk HG13; clear gb13 gl13 HG13; obtain ⟨ce13, hcl13, hM13, hcc13, hfr13⟩ := Kd.R_elem HO_5.out z24 (((rd_T94 l0 x13_1).f1) : Int) p13 q13; obtain rfl := k24_openM hM13; have hx13_0 : w16.cell? ⟨go13, (((rd_T94 l0 x13_1).f1) : Int).toNat * 3, none⟩ = some (.bool ((rd_T24 x5_1 ((rd_T94 l0 x13_1).f1)).f0)) := hcc13 0 _ rfl; have hx13_1 : w16.cell? ⟨go13, (((rd_T94 l0 x13_1).f1) : Int).toNat * 3 + 1, none⟩ = some (.int .i64 ((rd_T24 x5_1 ((rd_T94 l0 x13_1).f1)).f1)) := hcc13 1 _ rfl; have hx13_2 : w16.cell? ⟨go13, (((rd_T94 l0 x13_1).f1) : Int).toNat * 3 + 2, none⟩ = some (.int .i64 ((rd_T24 x5_1 ((rd_T94 l0 x13_1).f1)).f2)) := hcc13 2 _ rfl; have hf13_0 : w16.frozen? ⟨go13, (((rd_T94 l0 x13_1).f1) : Int).toNat * 3, none⟩ = false := hfr13 0; have hf13_1 : w16.frozen? ⟨go13, (((rd_T94 l0 x13_1).f1) : Int).toNat * 3 + 1, none⟩ = false := hfr13 1; have hf13_2 : w16.frozen? ⟨go13, (((rd_T94 l0 x13_1).f1) : Int).toNat * 3 + 2, none⟩ = false := hfr13 2; clear hcl13 hcc13 hfr13 hM13; replace p13 := eq_true p13; replace q13 := eq_true q13; have HX18 := Aside0.mk (show Kd.R k24 24 w16 w.heap.size (fun _ => True) (.slice (some ⟨go13, 0, none⟩) x5_1.length co13) x5_1 from (by (with_reducible repeat (first | apply Kd.R_alloc | apply Kd.R_drewN | apply Kd.R_drew)); exact HO_5.out)); obtain ⟨ce18, hcl18, hM18, hcc18, hfr18⟩ := Kd.R_elem HX18.out z24 (((rd_T94 l0 x13_1).f1) : Int) (of_decide_eq_true (by first | (with_reducible assumption) | assumption)) (by have h_ : (((rd_T94 l0 x13_1).f1) : Int) < ((x5_1.length : Int) : Int) := of_decide_eq_true (by first | (with_reducible assumption) | assumption); first | exact h_ | (have e_ := (Kd.R_reads' HO_5.out).1; omega) | simpa using h_); obtain rfl := k24_openM hM18; have HP18 := Kd.R_seg HX18.out (((rd_T94 l0 x13_1).f1) : Int) (of_decide_eq_true (by first | (with_reducible assumption) | assumption)) (by have h_ : (((rd_T94 l0 x13_1).f1) : Int) < ((x5_1.length : Int) : Int) := of_decide_eq_true (by first | (with_reducible assumption) | assumption); first | exact h_ | (have e_ := (Kd.R_reads' HO_5.out).1; omega) | simpa using h_) (seg := [.bool false, .int .i64 ((rd_T94 l0 x13_1).f4), .int .i64 ((rd_T94 l0 x13_1).f4)]) (j := 0) hcl18 hcc18 (show 3 ≤ 3 from by decide) (x' := (⟨false, (rd_T94 l0 x13_1).f4, (rd_T94 l0 x13_1).f4⟩ : S24)) (k24_mkM _ _ _ (⟨false, (rd_T94 l0 x13_1).f4, (rd_T94 l0 x13_1).f4⟩ : S24) ) (fun _ hk => hk); have hx18_0 := hcc18 0 _ rfl; (try simp only [show (k24).sz = 3 from rfl, Nat.mul_one, Nat.add_zero] at hx18_0); have hf18_0 := hfr18 0; (try simp only [show (k24).sz = 3 from rfl, Nat.mul_one, Nat.add_zero] at hf18_0); have hx18_1 := hcc18 1 _ rfl; (try simp only [show (k24).sz = 3 from rfl, Nat.mul_one, Nat.add_zero] at hx18_1); have hf18_1 := hfr18 1; (try simp only [show (k24).sz = 3 from rfl, Nat.mul_one, Nat.add_zero] at hf18_1); have hx18_2 := hcc18 2 _ rfl; (try simp only [show (k24).sz = 3 from rfl, Nat.mul_one, Nat.add_zero] at hx18_2); have hf18_2 := hfr18 2; (try simp only [show (k24).sz = 3 from rfl, Nat.mul_one, Nat.add_zero] at hf18_2); clear hcl18 hcc18 hfr18 hM18) | ((with_reducible refine gate_store (t := 24) (p := 29) rfl ?_); refine store_event (t := 24) (p := 29) (v := ?vo_w19) (w1 := (((w16.setCell ⟨go13, (((rd_T94 l0 x13_1).f1) : Int).toNat * 3, none⟩ (.bool false)).setCell ⟨go13, (((rd_T94 l0 x13_1).f1) : Int).toNat * 3 + 1, none⟩ (.int .i64 ((rd_T94 l0 x13_1).f4))).setCell ⟨go13, (((rd_T94 l0 x13_1).f1) : Int).toNat * 3 + 2, none⟩ (.int .i64 ((rd_T94 l0 x13_1).f4)))) ?hg ?ho ?hn ?hr ?_; (case ho => rfl); (case hg => rfl); (case hn => rfl); (case hr => first | (go_simp; done) | (go_simp; rfl)); intro w19 hw; have hg : w16.grownBy w19 (some go13) := (by rw [hw]; exact HP18.2); have hp_ : Kd.R k24 24 w19 w.heap.size (fun _ => True) (.slice (some ⟨go13, 0, none⟩) x5_1.length co13) y158 := (by rw [hw, Ny158.out]; exact HP18.1); clear HP18; have n0_ := Aside0.mk (hp_); have n1_ := Aside0.mk (blk_grown (g := gb157) (o := .cells #[.int .i64 ((rd_T94 l0 x13_1).f0), .int .i64 ((rd_T94 l0 x13_1).f1), .int .i64 ((rd_T94 l0 x13_1).f2), .int .i64 ((rd_T94 l0 x13_1).f3), .int .i64 ((rd_T94 l0 x13_1).f4)] 94 (0, 0)) (by (with_reducible repeat (first | refine blk_drewN ?_ _ | refine blk_drew ?_ | refine blk_alloc ?_ _)); exact BK157.out) hg (Kd.R_ne HO_5.out BK157.out (by decide))); have n2_ := Aside0.mk ((by rw [hw]; exact below_set (below_set (below_set (HB.out) GB13.out) GB13.out) GB13.out : Below w.heap.size w w19)); clear HO_5; clear BK157; clear HB; have HO_5 := n0_; have BK157 := n1_; have HB := n2_; clear n0_ n1_ n2_; clear hg hw hp_))
                    go_roundg k1
                    case measure => have := HK1.out; omega
                    case rel => exact ⟨(y158), (wrap64 (x13_1 + 1)), (by first | rfl | (simp; done) | (simp [*]; done)), H', ⟨by have := HK1.out; omega⟩, ⟨by (with_reducible repeat (first | apply Kd.R_alloc | apply Kd.R_drewN | apply Kd.R_drew)); exact HO_5.out⟩, ⟨by repeat (first | (with_reducible first | exact HB.out | apply below_alloc | apply pw_below_drewN | apply below_drew1 | refine below_set ?_ GE157.out) | exact HB.out)⟩⟩
                  · rw [if_neg c12] at H
                    exact absurd H (by simp)
                · rw [if_neg c11] at H
                  exact absurd H (by simp)
              · rw [if_neg c10] at H
                have c10b0 : (((rd_T94 l0 x13_1).f0) == 1) = false := beq_eq_false_iff_ne.mpr c10
                have c10b1 : (((rd_T94 l0 x13_1).f0) != 1) = true := bne_iff_ne.mpr c10
                by_cases c20 : ((rd_T94 l0 x13_1).f0) = 2
                · rw [if_pos c20] at H
                  have c20b0 : (((rd_T94 l0 x13_1).f0) == 2) = true := beq_iff_eq.mpr c20
                  have c20b1 : (((rd_T94 l0 x13_1).f0) != 2) = false := bne_eq_false_iff_eq.mpr c20
                  clear c20
                  by_cases c21 : 0 ≤ ((rd_T94 l0 x13_1).f2)
                  · rw [if_pos c21] at H
                    have c21b0 : decide (0 ≤ ((rd_T94 l0 x13_1).f2)) = true := decide_eq_true c21
                    clear c21
                    by_cases c22 : ((rd_T94 l0 x13_1).f2) < (x5_1.length : Int)
                    · rw [if_pos c22] at H
                      have c22b0 : decide (((rd_T94 l0 x13_1).f2) < (x5_1.length : Int)) = true := decide_eq_true c22
                      clear c22
                      by_cases c23 : 0 ≤ ((rd_T94 l0 x13_1).f1)
                      · rw [if_pos c23] at H
                        have c23b0 : decide (0 ≤ ((rd_T94 l0 x13_1).f1)) = true := decide_eq_true c23
                        clear c23
                        by_cases c24 : ((rd_T94 l0 x13_1).f1) < (x5_1.length : Int)
                        · rw [if_pos c24] at H
                          have c24b0 : decide (((rd_T94 l0 x13_1).f1) < (x5_1.length : Int)) = true := decide_eq_true c24
                          clear c24
                          obtain ⟨y160, hy160⟩ : ∃ y_ : List (S24), y_ = (x5_1.set (((rd_T94 l0 x13_1).f1) : Int).toNat (⟨(rd_T24 x5_1 ((rd_T94 l0 x13_1).f2)).f0, (rd_T24 x5_1 ((rd_T94 l0 x13_1).f2)).f1, (rd_T24 x5_1 ((rd_T94 l0 x13_1).f2)).f2⟩ : S24)) := ⟨_, rfl⟩
                          replace H : (spec_l6Step.l0 k1 y160 l0 (l0.length : Int) (wrap64 (x13_1 + 1))) = some r := by first | (rw [hy160]; with_reducible exact H) | (have H2_ := (Option.bind_some _ _).symm.trans H; rw [hy160]; with_reducible exact H2_) | (have H2_ := (Option.bind_some _ _).symm.trans H; with_reducible exact H2_) | with_reducible exact H | (rw [hy160]; exact H) | exact H
                          have Ny160 := Aside0.mk hy160
                          clear hy160
                          have H' := Aside0.mk H
                          clear H
                          have p156 : 0 ≤ (x13_1 : Int) := of_decide_eq_true (by first | (with_reducible assumption) | assumption)
                          have q156 : x13_1 < (l0.length : Int) := of_decide_eq_true (by first | (with_reducible assumption) | assumption)
                          obtain ⟨ad156, e156, hx156_0, hx156_1, hx156_2, hx156_3, hx156_4⟩ := at_T94 HR0.out x13_1 p156 q156
                          cases e156
                          replace hx156_0 := (HB.out.cell (World.block_lt_of_cell? w _ hx156_0)).trans hx156_0
                          replace hx156_1 := (HB.out.cell (World.block_lt_of_cell? w _ hx156_1)).trans hx156_1
                          replace hx156_2 := (HB.out.cell (World.block_lt_of_cell? w _ hx156_2)).trans hx156_2
                          replace hx156_3 := (HB.out.cell (World.block_lt_of_cell? w _ hx156_3)).trans hx156_3
                          replace hx156_4 := (HB.out.cell (World.block_lt_of_cell? w _ hx156_4)).trans hx156_4
                          replace p156 := eq_true p156
                          replace q156 := eq_true q156
                          try go_wp2_with (first | ((with_reducible refine gate_dst (N := 7) rfl ?_); refine box_event ?hg (N := 7) ?hd (cs := #[.int .i64 0, .int .i64 0, .int .i64 0, .int .i64 0, .int .i64 0]) (t := 94) ?hr ?_; (case hd => rfl); (case hg => rfl); (case hr => first | (go_simp; done) | (go_simp; rfl)); intro gb157 hg w26 hbox hb; have n0_ := Aside0.mk (Kd.R_below (by (with_reducible repeat (first | apply Kd.R_alloc | apply Kd.R_drewN | apply Kd.R_drew)); exact HO_5.out) hb); have n1_ := Aside0.mk (below_step (by repeat (first | (with_reducible first | exact HB.out | apply below_alloc | apply pw_below_drewN | apply below_drew1) | exact HB.out)) hb); have n2_ := Aside0.mk (hbox); have n3_ := Aside0.mk ((by rw [hg]; exact (below_size (by repeat (first | (with_reducible first | exact HB.out | apply below_alloc | apply pw_below_drewN | apply below_drew1) | exact HB.out))) : w.heap.size ≤ gb157)); have n4_ := Aside0.mk ((by rw [hg]; exact (below_size (by repeat (first | (with_reducible first | exact HB.out | apply below_alloc | apply pw_below_drewN | apply below_drew1) | exact HB.out))) : w.heap.size ≤ gb157)); clear HO_5; clear HB; have HO_5 := n0_; have HB := n1_; have BK157 := n2_; have GW157 := n3_; have GE157 := n4_; clear n0_ n1_ n2_ n3_ n4_; clear hb hbox hg; have hcz27_0 : w26.cell? ⟨gb157, 0, none⟩ = some (.int .i64 0) := (blk_cell BK157.out 0).trans rfl; have hcz27_1 : w26.cell? ⟨gb157, 1, none⟩ = some (.int .i64 0) := (blk_cell BK157.out 1).trans rfl; have hcz27_2 : w26.cell? ⟨gb157, 2, none⟩ = some (.int .i64 0) := (blk_cell BK157.out 2).trans rfl; have hcz27_3 : w26.cell? ⟨gb157, 3, none⟩ = some (.int .i64 0) := (blk_cell BK157.out 3).trans rfl; have hcz27_4 : w26.cell? ⟨gb157, 4, none⟩ = some (.int .i64 0) := (blk_cell BK157.out 4).trans rfl; have hfz27_0 := blk_frozen BK157.out 0; have hfz27_1 := blk_frozen BK157.out 1; have hfz27_2 := blk_frozen BK157.out 2; have hfz27_3 := blk_frozen BK157.out 3; have hfz27_4 := blk_frozen BK157.out 4))
                          have n0_ : Aside0 (Kd.R k24 24 (((((w26.setCell ⟨gb157, 0, none⟩ (.int .i64 ((rd_T94 l0 x13_1).f0))).setCell ⟨gb157, 1, none⟩ (.int .i64 ((rd_T94 l0 x13_1).f1))).setCell ⟨gb157, 2, none⟩ (.int .i64 ((rd_T94 l0 x13_1).f2))).setCell ⟨gb157, 3, none⟩ (.int .i64 ((rd_T94 l0 x13_1).f3))).setCell ⟨gb157, 4, none⟩ (.int .i64 ((rd_T94 l0 x13_1).f4))) w.heap.size (fun _ => True) v154 x5_1) := ⟨by (with_reducible repeat (first | apply Kd.R_alloc | apply Kd.R_drewN | apply Kd.R_drew)); exact Kd.R_mono (Kd.R_far (p := ⟨gb157, 4, none⟩) (Kd.R_far (p := ⟨gb157, 3, none⟩) (Kd.R_far (p := ⟨gb157, 2, none⟩) (Kd.R_far (p := ⟨gb157, 1, none⟩) (Kd.R_far (p := ⟨gb157, 0, none⟩) (Kd.R_types HO_5.out BK157.out (by decide)) (fun _ hk => hk.2) (.int .i64 ((rd_T94 l0 x13_1).f0))) (fun _ hk => hk.2) (.int .i64 ((rd_T94 l0 x13_1).f1))) (fun _ hk => hk.2) (.int .i64 ((rd_T94 l0 x13_1).f2))) (fun _ hk => hk.2) (.int .i64 ((rd_T94 l0 x13_1).f3))) (fun _ hk => hk.2) (.int .i64 ((rd_T94 l0 x13_1).f4))) (fun _ hk => trivial)⟩
                          have n1_ : Aside0 ((((((w26.setCell ⟨gb157, 0, none⟩ (.int .i64 ((rd_T94 l0 x13_1).f0))).setCell ⟨gb157, 1, none⟩ (.int .i64 ((rd_T94 l0 x13_1).f1))).setCell ⟨gb157, 2, none⟩ (.int .i64 ((rd_T94 l0 x13_1).f2))).setCell ⟨gb157, 3, none⟩ (.int .i64 ((rd_T94 l0 x13_1).f3))).setCell ⟨gb157, 4, none⟩ (.int .i64 ((rd_T94 l0 x13_1).f4))).heap[gb157]? = some (.cells #[.int .i64 ((rd_T94 l0 x13_1).f0), .int .i64 ((rd_T94 l0 x13_1).f1), .int .i64 ((rd_T94 l0 x13_1).f2), .int .i64 ((rd_T94 l0 x13_1).f3), .int .i64 ((rd_T94 l0 x13_1).f4)] 94 (0, 0))) := ⟨by (with_reducible repeat (first | refine blk_drewN ?_ _ | refine blk_drew ?_ | refine blk_alloc ?_ _)); refine blk_put (cs := #[.int .i64 ((rd_T94 l0 x13_1).f0), .int .i64 ((rd_T94 l0 x13_1).f1), .int .i64 ((rd_T94 l0 x13_1).f2), .int .i64 ((rd_T94 l0 x13_1).f3), .int .i64 0]) ?_ 4 _ rfl; (with_reducible repeat (first | refine blk_drewN ?_ _ | refine blk_drew ?_ | refine blk_alloc ?_ _)); refine blk_put (cs := #[.int .i64 ((rd_T94 l0 x13_1).f0), .int .i64 ((rd_T94 l0 x13_1).f1), .int .i64 ((rd_T94 l0 x13_1).f2), .int .i64 0, .int .i64 0]) ?_ 3 _ rfl; (with_reducible repeat (first | refine blk_drewN ?_ _ | refine blk_drew ?_ | refine blk_alloc ?_ _)); refine blk_put (cs := #[.int .i64 ((rd_T94 l0 x13_1).f0), .int .i64 ((rd_T94 l0 x13_1).f1), .int .i64 0, .int .i64 0, .int .i64 0]) ?_ 2 _ rfl; (with_reducible repeat (first | refine blk_drewN ?_ _ | refine blk_drew ?_ | refine blk_alloc ?_ _)); refine blk_put (cs := #[.int .i64 ((rd_T94 l0 x13_1).f0), .int .i64 0, .int .i64 0, .int .i64 0, .int .i64 0]) ?_ 1 _ rfl; (with_reducible repeat (first | refine blk_drewN ?_ _ | refine blk_drew ?_ | refine blk_alloc ?_ _)); refine blk_put (cs := #[.int .i64 0, .int .i64 0, .int .i64 0, .int .i64 0, .int .i64 0]) ?_ 0 _ rfl; (with_reducible repeat (first | refine blk_drewN ?_ _ | refine blk_drew ?_ | refine blk_alloc ?_ _)); exact BK157.out⟩
                          have n2_ : Aside0 (Below w.heap.size w (((((w26.setCell ⟨gb157, 0, none⟩ (.int .i64 ((rd_T94 l0 x13_1).f0))).setCell ⟨gb157, 1, none⟩ (.int .i64 ((rd_T94 l0 x13_1).f1))).setCell ⟨gb157, 2, none⟩ (.int .i64 ((rd_T94 l0 x13_1).f2))).setCell ⟨gb157, 3, none⟩ (.int .i64 ((rd_T94 l0 x13_1).f3))).setCell ⟨gb157, 4, none⟩ (.int .i64 ((rd_T94 l0 x13_1).f4)))) := ⟨by repeat (first | (with_reducible first | exact HB.out | apply below_alloc | apply pw_below_drewN | apply below_drew1 | refine below_set ?_ GE157.out) | exact HB.out)⟩
                          (try clear HO_5)
                          (try clear BK157)
                          (try clear HB)
                          generalize (((((w26.setCell ⟨gb157, 0, none⟩ (.int .i64 ((rd_T94 l0 x13_1).f0))).setCell ⟨gb157, 1, none⟩ (.int .i64 ((rd_T94 l0 x13_1).f1))).setCell ⟨gb157, 2, none⟩ (.int .i64 ((rd_T94 l0 x13_1).f2))).setCell ⟨gb157, 3, none⟩ (.int .i64 ((rd_T94 l0 x13_1).f3))).setCell ⟨gb157, 4, none⟩ (.int .i64 ((rd_T94 l0 x13_1).f4))) = w28 at n0_ n1_ n2_ ⊢
                          have HO_5 := n0_
                          have BK157 := n1_
                          have HB := n2_
                          clear n0_ n1_ n2_
                          have n0_ := Aside0.mk (Kd.R_drew HO_5.out)
                          have n1_ := Aside0.mk (blk_drew BK157.out)
                          have n2_ := Aside0.mk (below_drew1 HB.out)
                          clear HO_5
                          clear BK157
                          clear HB
                          have HO_5 := n0_
                          have BK157 := n1_
                          have HB := n2_
                          clear n0_ n1_ n2_
                          obtain ⟨Ao30, co30, eo30⟩ := Kd.R_slice HO_5.out
                          (first | subst eo30 | (injection eo30 with f1_ f2_ f3_; have f4_ := f1_.symm; have f5_ := f3_.symm; clear f1_ f2_ f3_; subst f4_; subst f5_))
                          have p159 : 0 ≤ (((rd_T94 l0 x13_1).f2) : Int) := of_decide_eq_true (by first | (with_reducible assumption) | assumption)
                          have q159 : ((rd_T94 l0 x13_1).f2) < (x5_1.length : Int) := of_decide_eq_true (by first | (with_reducible assumption) | assumption)
                          obtain ⟨ad159, e159, hx159_0, hx159_1, hx159_2⟩ := at_T24 (Kd.R_reads' HO_5.out).2.2 ((rd_T94 l0 x13_1).f2) p159 q159
                          cases e159
                          replace p159 := eq_true p159
                          replace q159 := eq_true q159
                          have p25 : 0 ≤ (((rd_T94 l0 x13_1).f1) : Int) := of_decide_eq_true (by first | (with_reducible assumption) | assumption)
                          have q25 : (((rd_T94 l0 x13_1).f1) : Int) < ((x5_1.length : Int) : Int) := of_decide_eq_true (by first | (with_reducible assumption) | assumption)
                          obtain ⟨go25, co25, eo25, gb25, gl25, cl25, HG25⟩ := Kd.R_form HO_5.out (by omega)
                          (first | cases eo25 | (injection eo25 with ea_ en_ ec_; (first | subst ea_ | (injection ea_ with ea_; subst ea_)); subst ec_; clear en_))
                          have GB25 := Aside0.mk gb25
                          have GG25 := Aside0.mk HG25
                          clear gb25 gl25 HG25
                          (try simp only [add_plain] at *)
                          (first | simp only [add_plain] at hx159_0 | skip)
                          (first | simp only [add_plain] at hx159_1 | skip)
                          (first | simp only [add_plain] at hx159_2 | skip)
                          obtain ⟨ce25, hcl25, hM25, hcc25, hfr25⟩ := Kd.R_elem HO_5.out z24 (((rd_T94 l0 x13_1).f1) : Int) p25 q25
                          obtain rfl := k24_openM hM25
                          have hx25_0 : World.cell? _ ⟨go25, (((rd_T94 l0 x13_1).f1) : Int).toNat * 3, none⟩ = some (.bool ((rd_T24 x5_1 ((rd_T94 l0 x13_1).f1)).f0)) := hcc25 0 _ rfl
                          have hx25_1 : World.cell? _ ⟨go25, (((rd_T94 l0 x13_1).f1) : Int).toNat * 3 + 1, none⟩ = some (.int .i64 ((rd_T24 x5_1 ((rd_T94 l0 x13_1).f1)).f1)) := hcc25 1 _ rfl
                          have hx25_2 : World.cell? _ ⟨go25, (((rd_T94 l0 x13_1).f1) : Int).toNat * 3 + 2, none⟩ = some (.int .i64 ((rd_T24 x5_1 ((rd_T94 l0 x13_1).f1)).f2)) := hcc25 2 _ rfl
                          have hf25_0 : World.frozen? _ ⟨go25, (((rd_T94 l0 x13_1).f1) : Int).toNat * 3, none⟩ = false := hfr25 0
                          have hf25_1 : World.frozen? _ ⟨go25, (((rd_T94 l0 x13_1).f1) : Int).toNat * 3 + 1, none⟩ = false := hfr25 1
                          have hf25_2 : World.frozen? _ ⟨go25, (((rd_T94 l0 x13_1).f1) : Int).toNat * 3 + 2, none⟩ = false := hfr25 2
                          clear hcl25 hcc25 hfr25 hM25
                          replace p25 := eq_true p25
                          replace q25 := eq_true q25
                          obtain ⟨ce31, hcl31, hM31, hcc31, hfr31⟩ := Kd.R_elem HO_5.out z24 (((rd_T94 l0 x13_1).f1) : Int) (of_decide_eq_true (by first | (with_reducible assumption) | assumption)) (by have h_ : (((rd_T94 l0 x13_1).f1) : Int) < ((x5_1.length : Int) : Int) := of_decide_eq_true (by first | (with_reducible assumption) | assumption); first | exact h_ | (have e_ := (Kd.R_reads' HO_5.out).1; omega) | simpa using h_)
                          obtain rfl := k24_openM hM31
                          have HP31 := (Kd.R_seg HO_5.out (((rd_T94 l0 x13_1).f1) : Int) (of_decide_eq_true (by first | (with_reducible assumption) | assumption)) (by have h_ : (((rd_T94 l0 x13_1).f1) : Int) < ((x5_1.length : Int) : Int) := of_decide_eq_true (by first | (with_reducible assumption) | assumption); first | exact h_ | (have e_ := (Kd.R_reads' HO_5.out).1; omega) | simpa using h_) (seg := [.bool ((rd_T24 x5_1 ((rd_T94 l0 x13_1).f2)).f0), .int .i64 ((rd_T24 x5_1 ((rd_T94 l0 x13_1).f2)).f1), .int .i64 ((rd_T24 x5_1 ((rd_T94 l0 x13_1).f2)).f2)]) (j := 0) hcl31 hcc31 (show 3 ≤ 3 from by decide) (x' := (⟨(rd_T24 x5_1 ((rd_T94 l0 x13_1).f2)).f0, (rd_T24 x5_1 ((rd_T94 l0 x13_1).f2)).f1, (rd_T24 x5_1 ((rd_T94 l0 x13_1).f2)).f2⟩ : S24)) (k24_mkM _ _ _ (⟨(rd_T24 x5_1 ((rd_T94 l0 x13_1).f2)).f0, (rd_T24 x5_1 ((rd_T94 l0 x13_1).f2)).f1, (rd_T24 x5_1 ((rd_T94 l0 x13_1).f2)).f2⟩ : S24) ) (fun _ hk => hk)).1
                          rw [← Ny160.out] at HP31
                          have HQ31 := Aside0.mk HP31
                          clear hcl31 hcc31 hfr31 hM31 HP31
                          refine start_ (n := 10) (S := fun w' => w'.cell? ⟨gb157, 0, none⟩ = some (.int .i64 ((rd_T94 l0 x13_1).f0)) ∧ w'.cell? ⟨gb157, 1, none⟩ = some (.int .i64 ((rd_T94 l0 x13_1).f1)) ∧ w'.cell? ⟨gb157, 2, none⟩ = some (.int .i64 ((rd_T94 l0 x13_1).f2)) ∧ w'.cell? ⟨gb157, 3, none⟩ = some (.int .i64 ((rd_T94 l0 x13_1).f3)) ∧ w'.cell? ⟨gb157, 4, none⟩ = some (.int .i64 ((rd_T94 l0 x13_1).f4)) ∧ w'.cell? ⟨go25, ((((rd_T94 l0 x13_1).f2)).toNat * 3), none⟩ = some (.bool ((rd_T24 x5_1 ((rd_T94 l0 x13_1).f2)).f0)) ∧ w'.cell? ⟨go25, ((((rd_T94 l0 x13_1).f2)).toNat * 3) + 1, none⟩ = some (.int .i64 ((rd_T24 x5_1 ((rd_T94 l0 x13_1).f2)).f1)) ∧ w'.cell? ⟨go25, ((((rd_T94 l0 x13_1).f2)).toNat * 3) + 2, none⟩ = some (.int .i64 ((rd_T24 x5_1 ((rd_T94 l0 x13_1).f2)).f2))) (ds := [9]) #[false, false, false, false, false, false, false, false, false, false] (by kernel_rfl) rfl rfl ⟨(blk_cell BK157.out 0).trans rfl, (blk_cell BK157.out 1).trans rfl, (blk_cell BK157.out 2).trans rfl, (blk_cell BK157.out 3).trans rfl, (blk_cell BK157.out 4).trans rfl, hx159_0, hx159_1, hx159_2⟩ (fun hHeld => ?_); refine with_tabW spec_l6Step.tab8 spec_l6Step.bits8 (fun HT_ HW_ => ?_)
                          generalize w28.drew = w29 at HO_5 BK157 HB GG25 HQ31 hf25_0 hf25_1 hf25_2 hx159_0 hx159_1 hx159_2 hx25_0 hx25_1 hx25_2 hHeld ⊢
                          refine pure_ (i := 0) (N := some 34) (v := ?_) (a' := ?_) #[true, false, false, false, false, false, false, false, false, false] rfl rfl (any_of HT_.out (by kernel_rfl)) (fun _ _ _ h => h) (Or.inl ⟨by rfl, ?_⟩) ?_ ?_
                          rotate_left
                          · intro w'
                            go_simp
                            with_reducible rfl
                          rotate_left
                          · simp only [Act.put, List.setIfInBounds_toArray, List.set_cons_zero, List.set_cons_succ, i64_w, i32_w]
                            rfl
                          refine pure_ (i := 1) (N := some 35) (v := ?_) (a' := ?_) #[true, true, false, false, false, false, false, false, false, false] rfl rfl (any_of HT_.out (by kernel_rfl)) (fun _ _ _ h => h) (Or.inl ⟨by rfl, ?_⟩) ?_ ?_
                          rotate_left
                          · intro w'
                            go_simp
                            with_reducible rfl
                          rotate_left
                          · simp only [Act.put, List.setIfInBounds_toArray, List.set_cons_zero, List.set_cons_succ, i64_w, i32_w]
                            rfl
                          refine pure_ (i := 3) (N := some 37) (v := ?_) (a' := ?_) #[true, true, false, true, false, false, false, false, false, false] rfl rfl (any_of HT_.out (by kernel_rfl)) (fun _ _ _ h => h) (Or.inl ⟨by rfl, ?_⟩) ?_ ?_
                          rotate_left
                          · intro w'
                            go_simp
                            with_reducible rfl
                          rotate_left
                          · simp only [Act.put, List.setIfInBounds_toArray, List.set_cons_zero, List.set_cons_succ, i64_w, i32_w]
                            rfl
                          refine pure_ (i := 4) (N := some 38) (v := ?_) (a' := ?_) #[true, true, false, true, true, false, false, false, false, false] rfl rfl (any_of HT_.out (by kernel_rfl)) (fun _ _ _ h => h) (Or.inl ⟨by rfl, ?_⟩) ?_ ?_
                          rotate_left
                          · intro w'
                            go_simp
                            with_reducible rfl
                          rotate_left
                          · simp only [Act.put, List.setIfInBounds_toArray, List.set_cons_zero, List.set_cons_succ, i64_w, i32_w]
                            rfl
                          refine take_ (i := 2) (N := some 36) (v := ?_) (a' := ?_) #[true, true, true, true, true, false, false, false, false, false] rfl rfl (take_ofW HT_.out HW_.out (by kernel_rfl)) (fun _ _ _ h => h) (Or.inl ⟨by rfl, ?_⟩) hHeld ?_ ?_
                          rotate_left
                          · rintro w' ⟨s0, s1, s2, s3, s4, s5, s6, s7⟩
                            go_simp
                            with_reducible rfl
                          rotate_left
                          · simp only [Act.put, List.setIfInBounds_toArray, List.set_cons_zero, List.set_cons_succ, i64_w, i32_w]
                            rfl
                          refine take_ (i := 5) (N := some 39) (v := ?_) (a' := ?_) #[true, true, true, true, true, true, false, false, false, false] rfl rfl (take_ofW HT_.out HW_.out (by kernel_rfl)) (fun _ _ _ h => h) (Or.inl ⟨by rfl, ?_⟩) hHeld ?_ ?_
                          rotate_left
                          · rintro w' ⟨s0, s1, s2, s3, s4, s5, s6, s7⟩
                            go_simp
                            with_reducible rfl
                          rotate_left
                          · simp only [Act.put, List.setIfInBounds_toArray, List.set_cons_zero, List.set_cons_succ, i64_w, i32_w]
                            rfl
                          refine pure_ (i := 6) (N := some 40) (v := ?_) (a' := ?_) #[true, true, true, true, true, true, true, false, false, false] rfl rfl (any_of HT_.out (by kernel_rfl)) (fun _ _ _ h => h) (Or.inl ⟨by rfl, ?_⟩) ?_ ?_
                          rotate_left
                          · intro w'
                            go_simp
                            with_reducible rfl
                          rotate_left
                          · simp only [Act.put, List.setIfInBounds_toArray, List.set_cons_zero, List.set_cons_succ, i64_w, i32_w]
                            rfl
                          refine take_ (i := 7) (N := some 41) (v := ?_) (a' := ?_) #[true, true, true, true, true, true, true, true, false, false] rfl rfl (take_ofW HT_.out HW_.out (by kernel_rfl)) (fun _ _ _ h => h) (Or.inl ⟨by rfl, ?_⟩) hHeld ?_ ?_
                          rotate_left
                          · rintro w' ⟨s0, s1, s2, s3, s4, s5, s6, s7⟩
                            go_simp
                            with_reducible rfl
                          rotate_left
                          · simp only [Act.put, List.setIfInBounds_toArray, List.set_cons_zero, List.set_cons_succ, i64_w, i32_w]
                            rfl
                          refine pure_ (i := 8) (N := some 42) (v := ?_) (a' := ?_) #[true, true, true, true, true, true, true, true, true, false] rfl rfl (any_of HT_.out (by kernel_rfl)) (fun _ _ _ h => h) (Or.inl ⟨by rfl, ?_⟩) ?_ ?_
                          rotate_left
                          · intro w'
                            go_simp
                            with_reducible rfl
                          rotate_left
                          · simp only [Act.put, List.setIfInBounds_toArray, List.set_cons_zero, List.set_cons_succ, i64_w, i32_w]
                            rfl
                          refine last_ (i := 9) (N := none) #[true, true, true, true, true, true, true, true, true, true] rfl rfl (one_of HT_.out (by kernel_rfl)) (by decide) (fun K hK => ?_)
                          refine skip_ (w1 := ?_) (by rfl) rfl ?_ ?_
                          rotate_left
                          · go_simp
                            rfl
                          refine hK.out _ _ ?_
                          clear hK K
                          refine done_ (done_of HT_.out (by kernel_rfl)) ?_
                          try go_wp2
                          go_roundg k1
                          case measure => have := HK1.out; omega
                          case rel => exact ⟨(y160), (wrap64 (x13_1 + 1)), (by first | rfl | (simp; done) | (simp [*]; done)), H', ⟨by have := HK1.out; omega⟩, ⟨by (with_reducible repeat (first | apply Kd.R_alloc | apply Kd.R_drewN | apply Kd.R_drew)); exact HQ31.out⟩, ⟨by repeat (first | (with_reducible first | exact HB.out | apply below_alloc | apply pw_below_drewN | apply below_drew1 | refine below_set ?_ GB25.out | refine below_set ?_ GB25.out | refine below_set ?_ GB25.out | refine below_set ?_ GE157.out) | exact HB.out)⟩⟩
                        · rw [if_neg c24] at H
                          exact absurd H (by simp)
                      · rw [if_neg c23] at H
                        exact absurd H (by simp)
                    · rw [if_neg c22] at H
                      exact absurd H (by simp)
                  · rw [if_neg c21] at H
                    exact absurd H (by simp)
                · rw [if_neg c20] at H
                  have c20b0 : (((rd_T94 l0 x13_1).f0) == 2) = false := beq_eq_false_iff_ne.mpr c20
                  have c20b1 : (((rd_T94 l0 x13_1).f0) != 2) = true := bne_iff_ne.mpr c20
                  replace H := Option.bind_eq_some_iff.mp H
                  obtain ⟨t161, A320, H⟩ := H
                  replace H : (if t161 = true then (if 0 ≤ ((rd_T94 l0 x13_1).f2) then (if ((rd_T94 l0 x13_1).f2) < (x5_1.length : Int) then (if 0 ≤ ((rd_T94 l0 x13_1).f3) then (if ((rd_T94 l0 x13_1).f3) < (x5_1.length : Int) then ((spec_l6Two.f k1 ((rd_T94 l0 x13_1).f0) ((rd_T24 x5_1 ((rd_T94 l0 x13_1).f2)).f0) ((rd_T24 x5_1 ((rd_T94 l0 x13_1).f2)).f1) ((rd_T24 x5_1 ((rd_T94 l0 x13_1).f2)).f2) ((rd_T24 x5_1 ((rd_T94 l0 x13_1).f3)).f0) ((rd_T24 x5_1 ((rd_T94 l0 x13_1).f3)).f1) ((rd_T24 x5_1 ((rd_T94 l0 x13_1).f3)).f2)).bind fun bt164 => (if 0 ≤ ((rd_T94 l0 x13_1).f1) then (if ((rd_T94 l0 x13_1).f1) < (x5_1.length : Int) then (spec_l6Step.l0 k1 (x5_1.set (((rd_T94 l0 x13_1).f1) : Int).toNat (⟨bt164.1, bt164.2.1, bt164.2.2⟩ : S24)) l0 (l0.length : Int) (wrap64 (x13_1 + 1))) else (none)) else (none))) else (none)) else (none)) else (none)) else (none)) else (spec_l6Step.l0 k1 x5_1 l0 (l0.length : Int) (wrap64 (x13_1 + 1)))) = some r := H
                  have A32 := Aside0.mk A320
                  clear A320
                  by_cases c33 : t161 = true
                  · subst c33
                    have H1 : (if 0 ≤ ((rd_T94 l0 x13_1).f2) then (if ((rd_T94 l0 x13_1).f2) < (x5_1.length : Int) then (if 0 ≤ ((rd_T94 l0 x13_1).f3) then (if ((rd_T94 l0 x13_1).f3) < (x5_1.length : Int) then ((spec_l6Two.f k1 ((rd_T94 l0 x13_1).f0) ((rd_T24 x5_1 ((rd_T94 l0 x13_1).f2)).f0) ((rd_T24 x5_1 ((rd_T94 l0 x13_1).f2)).f1) ((rd_T24 x5_1 ((rd_T94 l0 x13_1).f2)).f2) ((rd_T24 x5_1 ((rd_T94 l0 x13_1).f3)).f0) ((rd_T24 x5_1 ((rd_T94 l0 x13_1).f3)).f1) ((rd_T24 x5_1 ((rd_T94 l0 x13_1).f3)).f2)).bind fun bt164 => (if 0 ≤ ((rd_T94 l0 x13_1).f1) then (if ((rd_T94 l0 x13_1).f1) < (x5_1.length : Int) then (spec_l6Step.l0 k1 (x5_1.set (((rd_T94 l0 x13_1).f1) : Int).toNat (⟨bt164.1, bt164.2.1, bt164.2.2⟩ : S24)) l0 (l0.length : Int) (wrap64 (x13_1 + 1))) else (none)) else (none))) else (none)) else (none)) else (none)) else (none)) = some r := by rw [if_pos rfl] at H; exact H
                    clear H
                    have H := H1
                    clear H1
                    by_cases c34 : 0 ≤ ((rd_T94 l0 x13_1).f2)
                    · rw [if_pos c34] at H
                      have c34b0 : decide (0 ≤ ((rd_T94 l0 x13_1).f2)) = true := decide_eq_true c34
                      clear c34
                      by_cases c35 : ((rd_T94 l0 x13_1).f2) < (x5_1.length : Int)
                      · rw [if_pos c35] at H
                        have c35b0 : decide (((rd_T94 l0 x13_1).f2) < (x5_1.length : Int)) = true := decide_eq_true c35
                        clear c35
                        by_cases c36 : 0 ≤ ((rd_T94 l0 x13_1).f3)
                        · rw [if_pos c36] at H
                          have c36b0 : decide (0 ≤ ((rd_T94 l0 x13_1).f3)) = true := decide_eq_true c36
                          clear c36
                          by_cases c37 : ((rd_T94 l0 x13_1).f3) < (x5_1.length : Int)
                          · rw [if_pos c37] at H
                            have c37b0 : decide (((rd_T94 l0 x13_1).f3) < (x5_1.length : Int)) = true := decide_eq_true c37
                            clear c37
                            replace H := Option.bind_eq_some_iff.mp H
                            obtain ⟨⟨t164, t165, t166⟩, A380, H⟩ := H
                            replace H : (if 0 ≤ ((rd_T94 l0 x13_1).f1) then (if ((rd_T94 l0 x13_1).f1) < (x5_1.length : Int) then (spec_l6Step.l0 k1 (x5_1.set (((rd_T94 l0 x13_1).f1) : Int).toNat (⟨t164, t165, t166⟩ : S24)) l0 (l0.length : Int) (wrap64 (x13_1 + 1))) else (none)) else (none)) = some r := H
                            have A38 := Aside0.mk A380
                            clear A380
                            by_cases c39 : 0 ≤ ((rd_T94 l0 x13_1).f1)
                            · rw [if_pos c39] at H
                              have c39b0 : decide (0 ≤ ((rd_T94 l0 x13_1).f1)) = true := decide_eq_true c39
                              clear c39
                              by_cases c40 : ((rd_T94 l0 x13_1).f1) < (x5_1.length : Int)
                              · rw [if_pos c40] at H
                                have c40b0 : decide (((rd_T94 l0 x13_1).f1) < (x5_1.length : Int)) = true := decide_eq_true c40
                                clear c40
                                obtain ⟨y167, hy167⟩ : ∃ y_ : List (S24), y_ = (x5_1.set (((rd_T94 l0 x13_1).f1) : Int).toNat (⟨t164, t165, t166⟩ : S24)) := ⟨_, rfl⟩
                                replace H : (spec_l6Step.l0 k1 y167 l0 (l0.length : Int) (wrap64 (x13_1 + 1))) = some r := by first | (rw [hy167]; with_reducible exact H) | (have H2_ := (Option.bind_some _ _).symm.trans H; rw [hy167]; with_reducible exact H2_) | (have H2_ := (Option.bind_some _ _).symm.trans H; with_reducible exact H2_) | with_reducible exact H | (rw [hy167]; exact H) | exact H
                                have Ny167 := Aside0.mk hy167
                                clear hy167
                                have H' := Aside0.mk H
                                clear H
                                have p156 : 0 ≤ (x13_1 : Int) := of_decide_eq_true (by first | (with_reducible assumption) | assumption)
                                have q156 : x13_1 < (l0.length : Int) := of_decide_eq_true (by first | (with_reducible assumption) | assumption)
                                obtain ⟨ad156, e156, hx156_0, hx156_1, hx156_2, hx156_3, hx156_4⟩ := at_T94 HR0.out x13_1 p156 q156
                                cases e156
                                replace hx156_0 := (HB.out.cell (World.block_lt_of_cell? w _ hx156_0)).trans hx156_0
                                replace hx156_1 := (HB.out.cell (World.block_lt_of_cell? w _ hx156_1)).trans hx156_1
                                replace hx156_2 := (HB.out.cell (World.block_lt_of_cell? w _ hx156_2)).trans hx156_2
                                replace hx156_3 := (HB.out.cell (World.block_lt_of_cell? w _ hx156_3)).trans hx156_3
                                replace hx156_4 := (HB.out.cell (World.block_lt_of_cell? w _ hx156_4)).trans hx156_4
                                replace p156 := eq_true p156
                                replace q156 := eq_true q156
                                try go_wp2_with (first | ((with_reducible refine gate_dst (N := 7) rfl ?_); refine box_event ?hg (N := 7) ?hd (cs := #[.int .i64 0, .int .i64 0, .int .i64 0, .int .i64 0, .int .i64 0]) (t := 94) ?hr ?_; (case hd => rfl); (case hg => rfl); (case hr => first | (go_simp; done) | (go_simp; rfl)); intro gb157 hg w42 hbox hb; have n0_ := Aside0.mk (Kd.R_below (by (with_reducible repeat (first | apply Kd.R_alloc | apply Kd.R_drewN | apply Kd.R_drew)); exact HO_5.out) hb); have n1_ := Aside0.mk (below_step (by repeat (first | (with_reducible first | exact HB.out | apply below_alloc | apply pw_below_drewN | apply below_drew1) | exact HB.out)) hb); have n2_ := Aside0.mk (hbox); have n3_ := Aside0.mk ((by rw [hg]; exact (below_size (by repeat (first | (with_reducible first | exact HB.out | apply below_alloc | apply pw_below_drewN | apply below_drew1) | exact HB.out))) : w.heap.size ≤ gb157)); have n4_ := Aside0.mk ((by rw [hg]; exact (below_size (by repeat (first | (with_reducible first | exact HB.out | apply below_alloc | apply pw_below_drewN | apply below_drew1) | exact HB.out))) : w.heap.size ≤ gb157)); clear HO_5; clear HB; have HO_5 := n0_; have HB := n1_; have BK157 := n2_; have GW157 := n3_; have GE157 := n4_; clear n0_ n1_ n2_ n3_ n4_; clear hb hbox hg; have hcz43_0 : w42.cell? ⟨gb157, 0, none⟩ = some (.int .i64 0) := (blk_cell BK157.out 0).trans rfl; have hcz43_1 : w42.cell? ⟨gb157, 1, none⟩ = some (.int .i64 0) := (blk_cell BK157.out 1).trans rfl; have hcz43_2 : w42.cell? ⟨gb157, 2, none⟩ = some (.int .i64 0) := (blk_cell BK157.out 2).trans rfl; have hcz43_3 : w42.cell? ⟨gb157, 3, none⟩ = some (.int .i64 0) := (blk_cell BK157.out 3).trans rfl; have hcz43_4 : w42.cell? ⟨gb157, 4, none⟩ = some (.int .i64 0) := (blk_cell BK157.out 4).trans rfl; have hfz43_0 := blk_frozen BK157.out 0; have hfz43_1 := blk_frozen BK157.out 1; have hfz43_2 := blk_frozen BK157.out 2; have hfz43_3 := blk_frozen BK157.out 3; have hfz43_4 := blk_frozen BK157.out 4) | ((with_reducible refine gate_callee (f := 95) rfl ?_); refine goesL_ (some 46) rfl rfl Try.func95 (by kernel_rfl) rfl #[.int .i64 ((rd_T94 l0 x13_1).f0)] rfl (by (try simp only [List.map_toArray, List.map_cons, List.map_nil]); first | done | rfl | (simp only [List.length_drop, List.length_take]; rfl)) ?_; (with_reducible refine (spec_l3Two.calls ((rd_T94 l0 x13_1).f0) true _ A32.out).mono ?_); rintro e w' ⟨rfl, ⟨nd, rfl⟩⟩; refine ⟨_, rfl, ?_⟩))
                                have n0_ : Aside0 (Kd.R k24 24 (((((w42.setCell ⟨gb157, 0, none⟩ (.int .i64 ((rd_T94 l0 x13_1).f0))).setCell ⟨gb157, 1, none⟩ (.int .i64 ((rd_T94 l0 x13_1).f1))).setCell ⟨gb157, 2, none⟩ (.int .i64 ((rd_T94 l0 x13_1).f2))).setCell ⟨gb157, 3, none⟩ (.int .i64 ((rd_T94 l0 x13_1).f3))).setCell ⟨gb157, 4, none⟩ (.int .i64 ((rd_T94 l0 x13_1).f4))) w.heap.size (fun _ => True) v154 x5_1) := ⟨by (with_reducible repeat (first | apply Kd.R_alloc | apply Kd.R_drewN | apply Kd.R_drew)); exact Kd.R_mono (Kd.R_far (p := ⟨gb157, 4, none⟩) (Kd.R_far (p := ⟨gb157, 3, none⟩) (Kd.R_far (p := ⟨gb157, 2, none⟩) (Kd.R_far (p := ⟨gb157, 1, none⟩) (Kd.R_far (p := ⟨gb157, 0, none⟩) (Kd.R_types HO_5.out BK157.out (by decide)) (fun _ hk => hk.2) (.int .i64 ((rd_T94 l0 x13_1).f0))) (fun _ hk => hk.2) (.int .i64 ((rd_T94 l0 x13_1).f1))) (fun _ hk => hk.2) (.int .i64 ((rd_T94 l0 x13_1).f2))) (fun _ hk => hk.2) (.int .i64 ((rd_T94 l0 x13_1).f3))) (fun _ hk => hk.2) (.int .i64 ((rd_T94 l0 x13_1).f4))) (fun _ hk => trivial)⟩
                                have n1_ : Aside0 ((((((w42.setCell ⟨gb157, 0, none⟩ (.int .i64 ((rd_T94 l0 x13_1).f0))).setCell ⟨gb157, 1, none⟩ (.int .i64 ((rd_T94 l0 x13_1).f1))).setCell ⟨gb157, 2, none⟩ (.int .i64 ((rd_T94 l0 x13_1).f2))).setCell ⟨gb157, 3, none⟩ (.int .i64 ((rd_T94 l0 x13_1).f3))).setCell ⟨gb157, 4, none⟩ (.int .i64 ((rd_T94 l0 x13_1).f4))).heap[gb157]? = some (.cells #[.int .i64 ((rd_T94 l0 x13_1).f0), .int .i64 ((rd_T94 l0 x13_1).f1), .int .i64 ((rd_T94 l0 x13_1).f2), .int .i64 ((rd_T94 l0 x13_1).f3), .int .i64 ((rd_T94 l0 x13_1).f4)] 94 (0, 0))) := ⟨by (with_reducible repeat (first | refine blk_drewN ?_ _ | refine blk_drew ?_ | refine blk_alloc ?_ _)); refine blk_put (cs := #[.int .i64 ((rd_T94 l0 x13_1).f0), .int .i64 ((rd_T94 l0 x13_1).f1), .int .i64 ((rd_T94 l0 x13_1).f2), .int .i64 ((rd_T94 l0 x13_1).f3), .int .i64 0]) ?_ 4 _ rfl; (with_reducible repeat (first | refine blk_drewN ?_ _ | refine blk_drew ?_ | refine blk_alloc ?_ _)); refine blk_put (cs := #[.int .i64 ((rd_T94 l0 x13_1).f0), .int .i64 ((rd_T94 l0 x13_1).f1), .int .i64 ((rd_T94 l0 x13_1).f2), .int .i64 0, .int .i64 0]) ?_ 3 _ rfl; (with_reducible repeat (first | refine blk_drewN ?_ _ | refine blk_drew ?_ | refine blk_alloc ?_ _)); refine blk_put (cs := #[.int .i64 ((rd_T94 l0 x13_1).f0), .int .i64 ((rd_T94 l0 x13_1).f1), .int .i64 0, .int .i64 0, .int .i64 0]) ?_ 2 _ rfl; (with_reducible repeat (first | refine blk_drewN ?_ _ | refine blk_drew ?_ | refine blk_alloc ?_ _)); refine blk_put (cs := #[.int .i64 ((rd_T94 l0 x13_1).f0), .int .i64 0, .int .i64 0, .int .i64 0, .int .i64 0]) ?_ 1 _ rfl; (with_reducible repeat (first | refine blk_drewN ?_ _ | refine blk_drew ?_ | refine blk_alloc ?_ _)); refine blk_put (cs := #[.int .i64 0, .int .i64 0, .int .i64 0, .int .i64 0, .int .i64 0]) ?_ 0 _ rfl; (with_reducible repeat (first | refine blk_drewN ?_ _ | refine blk_drew ?_ | refine blk_alloc ?_ _)); exact BK157.out⟩
                                have n2_ : Aside0 (Below w.heap.size w (((((w42.setCell ⟨gb157, 0, none⟩ (.int .i64 ((rd_T94 l0 x13_1).f0))).setCell ⟨gb157, 1, none⟩ (.int .i64 ((rd_T94 l0 x13_1).f1))).setCell ⟨gb157, 2, none⟩ (.int .i64 ((rd_T94 l0 x13_1).f2))).setCell ⟨gb157, 3, none⟩ (.int .i64 ((rd_T94 l0 x13_1).f3))).setCell ⟨gb157, 4, none⟩ (.int .i64 ((rd_T94 l0 x13_1).f4)))) := ⟨by repeat (first | (with_reducible first | exact HB.out | apply below_alloc | apply pw_below_drewN | apply below_drew1 | refine below_set ?_ GE157.out) | exact HB.out)⟩
                                (try clear HO_5)
                                (try clear BK157)
                                (try clear HB)
                                generalize (((((w42.setCell ⟨gb157, 0, none⟩ (.int .i64 ((rd_T94 l0 x13_1).f0))).setCell ⟨gb157, 1, none⟩ (.int .i64 ((rd_T94 l0 x13_1).f1))).setCell ⟨gb157, 2, none⟩ (.int .i64 ((rd_T94 l0 x13_1).f2))).setCell ⟨gb157, 3, none⟩ (.int .i64 ((rd_T94 l0 x13_1).f3))).setCell ⟨gb157, 4, none⟩ (.int .i64 ((rd_T94 l0 x13_1).f4))) = w44 at n0_ n1_ n2_ ⊢
                                have HO_5 := n0_
                                have BK157 := n1_
                                have HB := n2_
                                clear n0_ n1_ n2_
                                (try (rw [drewN_self w44]; generalize hq_ : World.drewN w44 _ = w44; have n0_ : Aside0 (Kd.R k24 24 w44 w.heap.size (fun _ => True) v154 x5_1) := ⟨by rw [← hq_]; exact (by (with_reducible repeat (first | apply Kd.R_alloc | apply Kd.R_drewN | apply Kd.R_drew)); exact HO_5.out)⟩; have n1_ : Aside0 (w44.heap[gb157]? = some (.cells #[.int .i64 ((rd_T94 l0 x13_1).f0), .int .i64 ((rd_T94 l0 x13_1).f1), .int .i64 ((rd_T94 l0 x13_1).f2), .int .i64 ((rd_T94 l0 x13_1).f3), .int .i64 ((rd_T94 l0 x13_1).f4)] 94 (0, 0))) := ⟨by rw [← hq_]; exact (by (with_reducible repeat (first | refine blk_drewN ?_ _ | refine blk_drew ?_ | refine blk_alloc ?_ _)); exact BK157.out)⟩; have n2_ : Aside0 (Below w.heap.size w w44) := ⟨by rw [← hq_]; exact (by repeat (first | (with_reducible first | exact HB.out | apply below_alloc | apply pw_below_drewN | apply below_drew1 | refine below_set ?_ GE157.out) | exact HB.out))⟩; clear HO_5 BK157 HB hq_; have HO_5 := n0_; have BK157 := n1_; have HB := n2_; clear n0_ n1_ n2_))
                                have n0_ := Aside0.mk (Kd.R_drew HO_5.out)
                                have n1_ := Aside0.mk (blk_drew BK157.out)
                                have n2_ := Aside0.mk (below_drew1 HB.out)
                                clear HO_5
                                clear BK157
                                clear HB
                                have HO_5 := n0_
                                have BK157 := n1_
                                have HB := n2_
                                clear n0_ n1_ n2_
                                obtain ⟨Ao46, co46, eo46⟩ := Kd.R_slice HO_5.out
                                (first | subst eo46 | (injection eo46 with f1_ f2_ f3_; have f4_ := f1_.symm; have f5_ := f3_.symm; clear f1_ f2_ f3_; subst f4_; subst f5_))
                                have p162 : 0 ≤ (((rd_T94 l0 x13_1).f2) : Int) := of_decide_eq_true (by first | (with_reducible assumption) | assumption)
                                have q162 : ((rd_T94 l0 x13_1).f2) < (x5_1.length : Int) := of_decide_eq_true (by first | (with_reducible assumption) | assumption)
                                obtain ⟨ad162, e162, hx162_0, hx162_1, hx162_2⟩ := at_T24 (Kd.R_reads' HO_5.out).2.2 ((rd_T94 l0 x13_1).f2) p162 q162
                                cases e162
                                replace p162 := eq_true p162
                                replace q162 := eq_true q162
                                have p163 : 0 ≤ (((rd_T94 l0 x13_1).f3) : Int) := of_decide_eq_true (by first | (with_reducible assumption) | assumption)
                                have q163 : ((rd_T94 l0 x13_1).f3) < (x5_1.length : Int) := of_decide_eq_true (by first | (with_reducible assumption) | assumption)
                                obtain ⟨ad163, e163, hx163_0, hx163_1, hx163_2⟩ := at_T24 (Kd.R_reads' HO_5.out).2.2 ((rd_T94 l0 x13_1).f3) p163 q163
                                obtain rfl : ad162 = ad163 := (by injection e163)
                                replace p163 := eq_true p163
                                replace q163 := eq_true q163
                                refine start_ (n := 18) (S := fun w' => w'.cell? ⟨gb157, 0, none⟩ = some (.int .i64 ((rd_T94 l0 x13_1).f0)) ∧ w'.cell? ⟨gb157, 1, none⟩ = some (.int .i64 ((rd_T94 l0 x13_1).f1)) ∧ w'.cell? ⟨gb157, 2, none⟩ = some (.int .i64 ((rd_T94 l0 x13_1).f2)) ∧ w'.cell? ⟨gb157, 3, none⟩ = some (.int .i64 ((rd_T94 l0 x13_1).f3)) ∧ w'.cell? ⟨gb157, 4, none⟩ = some (.int .i64 ((rd_T94 l0 x13_1).f4)) ∧ w'.cell? (ad162.add ((((rd_T94 l0 x13_1).f2)).toNat * 3)) = some (.bool ((rd_T24 x5_1 ((rd_T94 l0 x13_1).f2)).f0)) ∧ w'.cell? ⟨(ad162.add ((((rd_T94 l0 x13_1).f2)).toNat * 3)).block, (ad162.add ((((rd_T94 l0 x13_1).f2)).toNat * 3)).off + 1, none⟩ = some (.int .i64 ((rd_T24 x5_1 ((rd_T94 l0 x13_1).f2)).f1)) ∧ w'.cell? ⟨(ad162.add ((((rd_T94 l0 x13_1).f2)).toNat * 3)).block, (ad162.add ((((rd_T94 l0 x13_1).f2)).toNat * 3)).off + 2, none⟩ = some (.int .i64 ((rd_T24 x5_1 ((rd_T94 l0 x13_1).f2)).f2)) ∧ w'.cell? (ad162.add ((((rd_T94 l0 x13_1).f3)).toNat * 3)) = some (.bool ((rd_T24 x5_1 ((rd_T94 l0 x13_1).f3)).f0)) ∧ w'.cell? ⟨(ad162.add ((((rd_T94 l0 x13_1).f3)).toNat * 3)).block, (ad162.add ((((rd_T94 l0 x13_1).f3)).toNat * 3)).off + 1, none⟩ = some (.int .i64 ((rd_T24 x5_1 ((rd_T94 l0 x13_1).f3)).f1)) ∧ w'.cell? ⟨(ad162.add ((((rd_T94 l0 x13_1).f3)).toNat * 3)).block, (ad162.add ((((rd_T94 l0 x13_1).f3)).toNat * 3)).off + 2, none⟩ = some (.int .i64 ((rd_T24 x5_1 ((rd_T94 l0 x13_1).f3)).f2))) (ds := [17]) #[false, false, false, false, false, false, false, false, false, false, false, false, false, false, false, false, false, false] (by kernel_rfl) rfl rfl ⟨(blk_cell BK157.out 0).trans rfl, (blk_cell BK157.out 1).trans rfl, (blk_cell BK157.out 2).trans rfl, (blk_cell BK157.out 3).trans rfl, (blk_cell BK157.out 4).trans rfl, hx162_0, hx162_1, hx162_2, hx163_0, hx163_1, hx163_2⟩ (fun hHeld => ?_); refine with_tabW spec_l6Step.tab10 spec_l6Step.bits10 (fun HT_ HW_ => ?_)
                                generalize w44.drew = w45 at HO_5 BK157 HB hx162_0 hx162_1 hx162_2 hx163_0 hx163_1 hx163_2 hHeld ⊢
                                refine pure_ (i := 0) (N := some 47) (v := ?_) (a' := ?_) #[true, false, false, false, false, false, false, false, false, false, false, false, false, false, false, false, false, false] rfl rfl (any_of HT_.out (by kernel_rfl)) (fun _ _ _ h => h) (Or.inl ⟨by rfl, ?_⟩) ?_ ?_
                                rotate_left
                                · intro w'
                                  go_simp
                                  with_reducible rfl
                                rotate_left
                                · simp only [Act.put, List.setIfInBounds_toArray, List.set_cons_zero, List.set_cons_succ, i64_w, i32_w]
                                  rfl
                                refine pure_ (i := 1) (N := some 48) (v := ?_) (a' := ?_) #[true, true, false, false, false, false, false, false, false, false, false, false, false, false, false, false, false, false] rfl rfl (any_of HT_.out (by kernel_rfl)) (fun _ _ _ h => h) (Or.inl ⟨by rfl, ?_⟩) ?_ ?_
                                rotate_left
                                · intro w'
                                  go_simp
                                  with_reducible rfl
                                rotate_left
                                · simp only [Act.put, List.setIfInBounds_toArray, List.set_cons_zero, List.set_cons_succ, i64_w, i32_w]
                                  rfl
                                refine pure_ (i := 3) (N := some 50) (v := ?_) (a' := ?_) #[true, true, false, true, false, false, false, false, false, false, false, false, false, false, false, false, false, false] rfl rfl (any_of HT_.out (by kernel_rfl)) (fun _ _ _ h => h) (Or.inl ⟨by rfl, ?_⟩) ?_ ?_
                                rotate_left
                                · intro w'
                                  go_simp
                                  with_reducible rfl
                                rotate_left
                                · simp only [Act.put, List.setIfInBounds_toArray, List.set_cons_zero, List.set_cons_succ, i64_w, i32_w]
                                  rfl
                                refine pure_ (i := 5) (N := some 52) (v := ?_) (a' := ?_) #[true, true, false, true, false, true, false, false, false, false, false, false, false, false, false, false, false, false] rfl rfl (any_of HT_.out (by kernel_rfl)) (fun _ _ _ h => h) (Or.inl ⟨by rfl, ?_⟩) ?_ ?_
                                rotate_left
                                · intro w'
                                  go_simp
                                  with_reducible rfl
                                rotate_left
                                · simp only [Act.put, List.setIfInBounds_toArray, List.set_cons_zero, List.set_cons_succ, i64_w, i32_w]
                                  rfl
                                refine pure_ (i := 6) (N := some 53) (v := ?_) (a' := ?_) #[true, true, false, true, false, true, true, false, false, false, false, false, false, false, false, false, false, false] rfl rfl (any_of HT_.out (by kernel_rfl)) (fun _ _ _ h => h) (Or.inl ⟨by rfl, ?_⟩) ?_ ?_
                                rotate_left
                                · intro w'
                                  go_simp
                                  with_reducible rfl
                                rotate_left
                                · simp only [Act.put, List.setIfInBounds_toArray, List.set_cons_zero, List.set_cons_succ, i64_w, i32_w]
                                  rfl
                                refine pure_ (i := 10) (N := some 57) (v := ?_) (a' := ?_) #[true, true, false, true, false, true, true, false, false, false, true, false, false, false, false, false, false, false] rfl rfl (any_of HT_.out (by kernel_rfl)) (fun _ _ _ h => h) (Or.inl ⟨by rfl, ?_⟩) ?_ ?_
                                rotate_left
                                · intro w'
                                  go_simp
                                  with_reducible rfl
                                rotate_left
                                · simp only [Act.put, List.setIfInBounds_toArray, List.set_cons_zero, List.set_cons_succ, i64_w, i32_w]
                                  rfl
                                refine pure_ (i := 11) (N := some 58) (v := ?_) (a' := ?_) #[true, true, false, true, false, true, true, false, false, false, true, true, false, false, false, false, false, false] rfl rfl (any_of HT_.out (by kernel_rfl)) (fun _ _ _ h => h) (Or.inl ⟨by rfl, ?_⟩) ?_ ?_
                                rotate_left
                                · intro w'
                                  go_simp
                                  with_reducible rfl
                                rotate_left
                                · simp only [Act.put, List.setIfInBounds_toArray, List.set_cons_zero, List.set_cons_succ, i64_w, i32_w]
                                  rfl
                                refine take_ (i := 2) (N := some 49) (v := ?_) (a' := ?_) #[true, true, true, true, false, true, true, false, false, false, true, true, false, false, false, false, false, false] rfl rfl (take_ofW HT_.out HW_.out (by kernel_rfl)) (fun _ _ _ h => h) (Or.inl ⟨by rfl, ?_⟩) hHeld ?_ ?_
                                rotate_left
                                · rintro w' ⟨s0, s1, s2, s3, s4, s5, s6, s7, s8, s9, s10⟩
                                  go_simp
                                  with_reducible rfl
                                rotate_left
                                · simp only [Act.put, List.setIfInBounds_toArray, List.set_cons_zero, List.set_cons_succ, i64_w, i32_w]
                                  rfl
                                refine take_ (i := 4) (N := some 51) (v := ?_) (a' := ?_) #[true, true, true, true, true, true, true, false, false, false, true, true, false, false, false, false, false, false] rfl rfl (take_ofW HT_.out HW_.out (by kernel_rfl)) (fun _ _ _ h => h) (Or.inl ⟨by rfl, ?_⟩) hHeld ?_ ?_
                                rotate_left
                                · rintro w' ⟨s0, s1, s2, s3, s4, s5, s6, s7, s8, s9, s10⟩
                                  go_simp
                                  with_reducible rfl
                                rotate_left
                                · simp only [Act.put, List.setIfInBounds_toArray, List.set_cons_zero, List.set_cons_succ, i64_w, i32_w]
                                  rfl
                                refine take_ (i := 7) (N := some 54) (v := ?_) (a' := ?_) #[true, true, true, true, true, true, true, true, false, false, true, true, false, false, false, false, false, false] rfl rfl (take_ofW HT_.out HW_.out (by kernel_rfl)) (fun _ _ _ h => h) (Or.inl ⟨by rfl, ?_⟩) hHeld ?_ ?_
                                rotate_left
                                · rintro w' ⟨s0, s1, s2, s3, s4, s5, s6, s7, s8, s9, s10⟩
                                  go_simp
                                  with_reducible rfl
                                rotate_left
                                · simp only [Act.put, List.setIfInBounds_toArray, List.set_cons_zero, List.set_cons_succ, i64_w, i32_w]
                                  rfl
                                refine pure_ (i := 8) (N := some 55) (v := ?_) (a' := ?_) #[true, true, true, true, true, true, true, true, true, false, true, true, false, false, false, false, false, false] rfl rfl (any_of HT_.out (by kernel_rfl)) (fun _ _ _ h => h) (Or.inl ⟨by rfl, ?_⟩) ?_ ?_
                                rotate_left
                                · intro w'
                                  go_simp
                                  with_reducible rfl
                                rotate_left
                                · simp only [Act.put, List.setIfInBounds_toArray, List.set_cons_zero, List.set_cons_succ, i64_w, i32_w]
                                  rfl
                                refine take_ (i := 9) (N := some 56) (v := ?_) (a' := ?_) #[true, true, true, true, true, true, true, true, true, true, true, true, false, false, false, false, false, false] rfl rfl (take_ofW HT_.out HW_.out (by kernel_rfl)) (fun _ _ _ h => h) (Or.inl ⟨by rfl, ?_⟩) hHeld ?_ ?_
                                rotate_left
                                · rintro w' ⟨s0, s1, s2, s3, s4, s5, s6, s7, s8, s9, s10⟩
                                  go_simp
                                  with_reducible rfl
                                rotate_left
                                · simp only [Act.put, List.setIfInBounds_toArray, List.set_cons_zero, List.set_cons_succ, i64_w, i32_w]
                                  rfl
                                refine take_ (i := 12) (N := some 59) (v := ?_) (a' := ?_) #[true, true, true, true, true, true, true, true, true, true, true, true, true, false, false, false, false, false] rfl rfl (take_ofW HT_.out HW_.out (by kernel_rfl)) (fun _ _ _ h => h) (Or.inl ⟨by rfl, ?_⟩) hHeld ?_ ?_
                                rotate_left
                                · rintro w' ⟨s0, s1, s2, s3, s4, s5, s6, s7, s8, s9, s10⟩
                                  go_simp
                                  with_reducible rfl
                                rotate_left
                                · simp only [Act.put, List.setIfInBounds_toArray, List.set_cons_zero, List.set_cons_succ, i64_w, i32_w]
                                  rfl
                                refine pure_ (i := 13) (N := some 60) (v := ?_) (a' := ?_) #[true, true, true, true, true, true, true, true, true, true, true, true, true, true, false, false, false, false] rfl rfl (any_of HT_.out (by kernel_rfl)) (fun _ _ _ h => h) (Or.inl ⟨by rfl, ?_⟩) ?_ ?_
                                rotate_left
                                · intro w'
                                  go_simp
                                  with_reducible rfl
                                rotate_left
                                · simp only [Act.put, List.setIfInBounds_toArray, List.set_cons_zero, List.set_cons_succ, i64_w, i32_w]
                                  rfl
                                refine take_ (i := 14) (N := some 61) (v := ?_) (a' := ?_) #[true, true, true, true, true, true, true, true, true, true, true, true, true, true, true, false, false, false] rfl rfl (take_ofW HT_.out HW_.out (by kernel_rfl)) (fun _ _ _ h => h) (Or.inl ⟨by rfl, ?_⟩) hHeld ?_ ?_
                                rotate_left
                                · rintro w' ⟨s0, s1, s2, s3, s4, s5, s6, s7, s8, s9, s10⟩
                                  go_simp
                                  with_reducible rfl
                                rotate_left
                                · simp only [Act.put, List.setIfInBounds_toArray, List.set_cons_zero, List.set_cons_succ, i64_w, i32_w]
                                  rfl
                                refine one_ (i := 15) (N := some 62) #[true, true, true, true, true, true, true, true, true, true, true, true, true, true, true, true, false, false] rfl rfl (one_of HT_.out (by kernel_rfl)) (by decide) (fun K hK => ?_)
                                refine goes_ Try.func69 (by kernel_rfl) rfl #[.int .i64 ((rd_T94 l0 x13_1).f0), .agg #[.bool ((rd_T24 x5_1 ((rd_T94 l0 x13_1).f2)).f0), .int .i64 ((rd_T24 x5_1 ((rd_T94 l0 x13_1).f2)).f1), .int .i64 ((rd_T24 x5_1 ((rd_T94 l0 x13_1).f2)).f2)], .agg #[.bool ((rd_T24 x5_1 ((rd_T94 l0 x13_1).f3)).f0), .int .i64 ((rd_T24 x5_1 ((rd_T94 l0 x13_1).f3)).f1), .int .i64 ((rd_T24 x5_1 ((rd_T94 l0 x13_1).f3)).f2)]] (by rfl) rfl rfl (by (try simp only [List.map_toArray, List.map_cons, List.map_nil]); first | done | rfl | (simp only [List.length_drop, List.length_take]; rfl)) ?_
                                with_reducible refine (spec_l6Two.calls k1 ((rd_T94 l0 x13_1).f0) ((rd_T24 x5_1 ((rd_T94 l0 x13_1).f2)).f0) ((rd_T24 x5_1 ((rd_T94 l0 x13_1).f2)).f1) ((rd_T24 x5_1 ((rd_T94 l0 x13_1).f2)).f2) ((rd_T24 x5_1 ((rd_T94 l0 x13_1).f3)).f0) ((rd_T24 x5_1 ((rd_T94 l0 x13_1).f3)).f1) ((rd_T24 x5_1 ((rd_T94 l0 x13_1).f3)).f2) t164 t165 t166 _ A38.out).mono ?_
                                rintro e w47 ⟨rfl, hb⟩
                                have HS5_ := (hb.cell (World.block_lt_of_cell? _ _ (hHeld.2.2.2.2.2.1))).trans (hHeld.2.2.2.2.2.1)
                                have HS6_ := (hb.cell (World.block_lt_of_cell? _ _ (hHeld.2.2.2.2.2.2.1))).trans (hHeld.2.2.2.2.2.2.1)
                                have HS7_ := (hb.cell (World.block_lt_of_cell? _ _ (hHeld.2.2.2.2.2.2.2.1))).trans (hHeld.2.2.2.2.2.2.2.1)
                                have HS8_ := (hb.cell (World.block_lt_of_cell? _ _ (hHeld.2.2.2.2.2.2.2.2.1))).trans (hHeld.2.2.2.2.2.2.2.2.1)
                                have HS9_ := (hb.cell (World.block_lt_of_cell? _ _ (hHeld.2.2.2.2.2.2.2.2.2.1))).trans (hHeld.2.2.2.2.2.2.2.2.2.1)
                                have HS10_ := (hb.cell (World.block_lt_of_cell? _ _ (hHeld.2.2.2.2.2.2.2.2.2.2))).trans (hHeld.2.2.2.2.2.2.2.2.2.2)
                                refine ⟨_, rfl, ?_⟩
                                have n0_ := Aside0.mk (Kd.R_below (by (with_reducible repeat (first | apply Kd.R_alloc | apply Kd.R_drewN | apply Kd.R_drew)); exact HO_5.out) hb)
                                have n1_ := Aside0.mk (blk_below (g := gb157) (o := .cells #[.int .i64 ((rd_T94 l0 x13_1).f0), .int .i64 ((rd_T94 l0 x13_1).f1), .int .i64 ((rd_T94 l0 x13_1).f2), .int .i64 ((rd_T94 l0 x13_1).f3), .int .i64 ((rd_T94 l0 x13_1).f4)] 94 (0, 0)) (by (with_reducible repeat (first | refine blk_drewN ?_ _ | refine blk_drew ?_ | refine blk_alloc ?_ _)); exact BK157.out) hb)
                                have n2_ := Aside0.mk (below_step (by repeat (first | (with_reducible first | exact HB.out | apply below_alloc | apply pw_below_drewN | apply below_drew1 | refine below_set ?_ GE157.out) | exact HB.out)) hb)
                                clear HO_5
                                clear BK157
                                clear HB
                                have HO_5 := n0_
                                have BK157 := n1_
                                have HB := n2_
                                clear n0_ n1_ n2_
                                (try clear hb)
                                (try clear hb2)
                                (try clear hk)
                                (try clear hi)
                                have p41 : 0 ≤ (((rd_T94 l0 x13_1).f1) : Int) := of_decide_eq_true (by first | (with_reducible assumption) | assumption)
                                have q41 : (((rd_T94 l0 x13_1).f1) : Int) < ((x5_1.length : Int) : Int) := of_decide_eq_true (by first | (with_reducible assumption) | assumption)
                                obtain ⟨go41, co41, eo41, gb41, gl41, cl41, HG41⟩ := Kd.R_form HO_5.out (by omega)
                                (first | cases eo41 | (injection eo41 with ea_ en_ ec_; (first | subst ea_ | (injection ea_ with ea_; subst ea_)); subst ec_; clear en_))
                                have GB41 := Aside0.mk gb41
                                have GG41 := Aside0.mk HG41
                                clear gb41 gl41 HG41
                                (try simp only [add_plain] at *)
                                (first | simp only [add_plain] at hx162_0 | skip)
                                (first | simp only [add_plain] at hx162_1 | skip)
                                (first | simp only [add_plain] at hx162_2 | skip)
                                (first | simp only [add_plain] at hx163_0 | skip)
                                (first | simp only [add_plain] at hx163_1 | skip)
                                (first | simp only [add_plain] at hx163_2 | skip)
                                obtain ⟨ce41, hcl41, hM41, hcc41, hfr41⟩ := Kd.R_elem HO_5.out z24 (((rd_T94 l0 x13_1).f1) : Int) p41 q41
                                obtain rfl := k24_openM hM41
                                have hx41_0 : World.cell? _ ⟨go41, (((rd_T94 l0 x13_1).f1) : Int).toNat * 3, none⟩ = some (.bool ((rd_T24 x5_1 ((rd_T94 l0 x13_1).f1)).f0)) := hcc41 0 _ rfl
                                have hx41_1 : World.cell? _ ⟨go41, (((rd_T94 l0 x13_1).f1) : Int).toNat * 3 + 1, none⟩ = some (.int .i64 ((rd_T24 x5_1 ((rd_T94 l0 x13_1).f1)).f1)) := hcc41 1 _ rfl
                                have hx41_2 : World.cell? _ ⟨go41, (((rd_T94 l0 x13_1).f1) : Int).toNat * 3 + 2, none⟩ = some (.int .i64 ((rd_T24 x5_1 ((rd_T94 l0 x13_1).f1)).f2)) := hcc41 2 _ rfl
                                have hf41_0 : World.frozen? _ ⟨go41, (((rd_T94 l0 x13_1).f1) : Int).toNat * 3, none⟩ = false := hfr41 0
                                have hf41_1 : World.frozen? _ ⟨go41, (((rd_T94 l0 x13_1).f1) : Int).toNat * 3 + 1, none⟩ = false := hfr41 1
                                have hf41_2 : World.frozen? _ ⟨go41, (((rd_T94 l0 x13_1).f1) : Int).toNat * 3 + 2, none⟩ = false := hfr41 2
                                clear hcl41 hcc41 hfr41 hM41
                                replace p41 := eq_true p41
                                replace q41 := eq_true q41
                                obtain ⟨ce48, hcl48, hM48, hcc48, hfr48⟩ := Kd.R_elem HO_5.out z24 (((rd_T94 l0 x13_1).f1) : Int) (of_decide_eq_true (by first | (with_reducible assumption) | assumption)) (by have h_ : (((rd_T94 l0 x13_1).f1) : Int) < ((x5_1.length : Int) : Int) := of_decide_eq_true (by first | (with_reducible assumption) | assumption); first | exact h_ | (have e_ := (Kd.R_reads' HO_5.out).1; omega) | simpa using h_)
                                obtain rfl := k24_openM hM48
                                have HP48 := (Kd.R_seg HO_5.out (((rd_T94 l0 x13_1).f1) : Int) (of_decide_eq_true (by first | (with_reducible assumption) | assumption)) (by have h_ : (((rd_T94 l0 x13_1).f1) : Int) < ((x5_1.length : Int) : Int) := of_decide_eq_true (by first | (with_reducible assumption) | assumption); first | exact h_ | (have e_ := (Kd.R_reads' HO_5.out).1; omega) | simpa using h_) (seg := [.bool t164, .int .i64 t165, .int .i64 t166]) (j := 0) hcl48 hcc48 (show 3 ≤ 3 from by decide) (x' := (⟨t164, t165, t166⟩ : S24)) (k24_mkM _ _ _ (⟨t164, t165, t166⟩ : S24) ) (fun _ hk => hk)).1
                                rw [← Ny167.out] at HP48
                                have HQ48 := Aside0.mk HP48
                                clear hcl48 hcc48 hfr48 hM48 HP48
                                refine hK.out _ _ ⟨(blk_cell BK157.out 0).trans rfl, (blk_cell BK157.out 1).trans rfl, (blk_cell BK157.out 2).trans rfl, (blk_cell BK157.out 3).trans rfl, (blk_cell BK157.out 4).trans rfl, HS5_, HS6_, HS7_, HS8_, HS9_, HS10_⟩ (fun hHeld => ?_)
                                clear hK K
                                refine norm_ (a' := ?_) ?_ ?_
                                rotate_left
                                · show Act.put _ (some 62) _ = _
                                  simp only [Act.put, List.setIfInBounds_toArray, List.set_cons_zero, List.set_cons_succ, i64_w, i32_w]
                                  rfl
                                refine pure_ (i := 16) (N := some 63) (v := ?_) (a' := ?_) #[true, true, true, true, true, true, true, true, true, true, true, true, true, true, true, true, true, false] rfl rfl (any_of HT_.out (by kernel_rfl)) (fun _ _ _ h => h) (Or.inl ⟨by rfl, ?_⟩) ?_ ?_
                                rotate_left
                                · intro w'
                                  go_simp
                                  with_reducible rfl
                                rotate_left
                                · simp only [Act.put, List.setIfInBounds_toArray, List.set_cons_zero, List.set_cons_succ, i64_w, i32_w]
                                  rfl
                                refine last_ (i := 17) (N := none) #[true, true, true, true, true, true, true, true, true, true, true, true, true, true, true, true, true, true] rfl rfl (one_of HT_.out (by kernel_rfl)) (by decide) (fun K hK => ?_)
                                refine skip_ (w1 := ?_) (by rfl) rfl ?_ ?_
                                rotate_left
                                · go_simp
                                  rfl
                                refine hK.out _ _ ?_
                                clear hK K
                                refine done_ (done_of HT_.out (by kernel_rfl)) ?_
                                try go_wp2
                                go_roundg k1
                                case measure => have := HK1.out; omega
                                case rel => exact ⟨(y167), (wrap64 (x13_1 + 1)), (by first | rfl | (simp; done) | (simp [*]; done)), H', ⟨by have := HK1.out; omega⟩, ⟨by (with_reducible repeat (first | apply Kd.R_alloc | apply Kd.R_drewN | apply Kd.R_drew)); exact HQ48.out⟩, ⟨by repeat (first | (with_reducible first | exact HB.out | apply below_alloc | apply pw_below_drewN | apply below_drew1 | refine below_set ?_ GB41.out | refine below_set ?_ GB41.out | refine below_set ?_ GB41.out | refine below_set ?_ GE157.out) | exact HB.out)⟩⟩
                              · rw [if_neg c40] at H
                                exact absurd H (by simp)
                            · rw [if_neg c39] at H
                              exact absurd H (by simp)
                          · rw [if_neg c37] at H
                            exact absurd H (by simp)
                        · rw [if_neg c36] at H
                          exact absurd H (by simp)
                      · rw [if_neg c35] at H
                        exact absurd H (by simp)
                    · rw [if_neg c34] at H
                      exact absurd H (by simp)
                  · replace c33 := Bool.eq_false_iff.mpr c33
                    subst c33
                    have H1 : (spec_l6Step.l0 k1 x5_1 l0 (l0.length : Int) (wrap64 (x13_1 + 1))) = some r := by rw [if_neg (show ¬ (false = true) by decide)] at H; exact H
                    clear H
                    have H := H1
                    clear H1
                    have H' := Aside0.mk H
                    clear H
                    have p156 : 0 ≤ (x13_1 : Int) := of_decide_eq_true (by first | (with_reducible assumption) | assumption)
                    have q156 : x13_1 < (l0.length : Int) := of_decide_eq_true (by first | (with_reducible assumption) | assumption)
                    obtain ⟨ad156, e156, hx156_0, hx156_1, hx156_2, hx156_3, hx156_4⟩ := at_T94 HR0.out x13_1 p156 q156
                    cases e156
                    replace hx156_0 := (HB.out.cell (World.block_lt_of_cell? w _ hx156_0)).trans hx156_0
                    replace hx156_1 := (HB.out.cell (World.block_lt_of_cell? w _ hx156_1)).trans hx156_1
                    replace hx156_2 := (HB.out.cell (World.block_lt_of_cell? w _ hx156_2)).trans hx156_2
                    replace hx156_3 := (HB.out.cell (World.block_lt_of_cell? w _ hx156_3)).trans hx156_3
                    replace hx156_4 := (HB.out.cell (World.block_lt_of_cell? w _ hx156_4)).trans hx156_4
                    replace p156 := eq_true p156
                    replace q156 := eq_true q156
                    go_wp2_with (first | ((with_reducible refine gate_dst (N := 7) rfl ?_); refine box_event ?hg (N := 7) ?hd (cs := #[.int .i64 0, .int .i64 0, .int .i64 0, .int .i64 0, .int .i64 0]) (t := 94) ?hr ?_; (case hd => rfl); (case hg => rfl); (case hr => first | (go_simp; done) | (go_simp; rfl)); intro gb157 hg w49 hbox hb; have n0_ := Aside0.mk (Kd.R_below (by (with_reducible repeat (first | apply Kd.R_alloc | apply Kd.R_drewN | apply Kd.R_drew)); exact HO_5.out) hb); have n1_ := Aside0.mk (below_step (by repeat (first | (with_reducible first | exact HB.out | apply below_alloc | apply pw_below_drewN | apply below_drew1) | exact HB.out)) hb); have n2_ := Aside0.mk (hbox); have n3_ := Aside0.mk ((by rw [hg]; exact (below_size (by repeat (first | (with_reducible first | exact HB.out | apply below_alloc | apply pw_below_drewN | apply below_drew1) | exact HB.out))) : w.heap.size ≤ gb157)); have n4_ := Aside0.mk ((by rw [hg]; exact (below_size (by repeat (first | (with_reducible first | exact HB.out | apply below_alloc | apply pw_below_drewN | apply below_drew1) | exact HB.out))) : w.heap.size ≤ gb157)); clear HO_5; clear HB; have HO_5 := n0_; have HB := n1_; have BK157 := n2_; have GW157 := n3_; have GE157 := n4_; clear n0_ n1_ n2_ n3_ n4_; clear hb hbox hg; have hcz50_0 : w49.cell? ⟨gb157, 0, none⟩ = some (.int .i64 0) := (blk_cell BK157.out 0).trans rfl; have hcz50_1 : w49.cell? ⟨gb157, 1, none⟩ = some (.int .i64 0) := (blk_cell BK157.out 1).trans rfl; have hcz50_2 : w49.cell? ⟨gb157, 2, none⟩ = some (.int .i64 0) := (blk_cell BK157.out 2).trans rfl; have hcz50_3 : w49.cell? ⟨gb157, 3, none⟩ = some (.int .i64 0) := (blk_cell BK157.out 3).trans rfl; have hcz50_4 : w49.cell? ⟨gb157, 4, none⟩ = some (.int .i64 0) := (blk_cell BK157.out 4).trans rfl; have hfz50_0 := blk_frozen BK157.out 0; have hfz50_1 := blk_frozen BK157.out 1; have hfz50_2 := blk_frozen BK157.out 2; have hfz50_3 := blk_frozen BK157.out 3; have hfz50_4 := blk_frozen BK157.out 4) | ((with_reducible refine gate_callee (f := 95) rfl ?_); refine goesL_ (some 46) rfl rfl Try.func95 (by kernel_rfl) rfl #[.int .i64 ((rd_T94 l0 x13_1).f0)] rfl (by (try simp only [List.map_toArray, List.map_cons, List.map_nil]); first | done | rfl | (simp only [List.length_drop, List.length_take]; rfl)) ?_; (with_reducible refine (spec_l3Two.calls ((rd_T94 l0 x13_1).f0) false _ A32.out).mono ?_); rintro e w' ⟨rfl, ⟨nd, rfl⟩⟩; refine ⟨_, rfl, ?_⟩))
                    go_roundg k1
                    case measure => have := HK1.out; omega
                    case rel => exact ⟨(x5_1), (wrap64 (x13_1 + 1)), (by first | rfl | (simp; done) | (simp [*]; done)), H', ⟨by have := HK1.out; omega⟩, ⟨by (with_reducible repeat (first | apply Kd.R_alloc | apply Kd.R_drewN | apply Kd.R_drew)); exact Kd.R_mono (Kd.R_far (p := ⟨gb157, 4, none⟩) (Kd.R_far (p := ⟨gb157, 3, none⟩) (Kd.R_far (p := ⟨gb157, 2, none⟩) (Kd.R_far (p := ⟨gb157, 1, none⟩) (Kd.R_far (p := ⟨gb157, 0, none⟩) (Kd.R_types HO_5.out BK157.out (by decide)) (fun _ hk => hk.2) (.int .i64 ((rd_T94 l0 x13_1).f0))) (fun _ hk => hk.2) (.int .i64 ((rd_T94 l0 x13_1).f1))) (fun _ hk => hk.2) (.int .i64 ((rd_T94 l0 x13_1).f2))) (fun _ hk => hk.2) (.int .i64 ((rd_T94 l0 x13_1).f3))) (fun _ hk => hk.2) (.int .i64 ((rd_T94 l0 x13_1).f4))) (fun _ hk => trivial)⟩, ⟨by repeat (first | (with_reducible first | exact HB.out | apply below_alloc | apply pw_below_drewN | apply below_drew1 | refine below_set ?_ GE157.out) | exact HB.out)⟩⟩
            · rw [if_neg c9] at H
              exact absurd H (by simp)
          · rw [if_neg c8] at H
            exact absurd H (by simp)
        · rw [if_neg c7] at H
          have c7b0 : decide (x13_1 < (l0.length : Int)) = false := decide_eq_false c7
          clear c7
          obtain rfl := Option.some.inj H
          go_wp2
          go_ret
          exact ⟨_, by first | rfl | (simp [errW_none, errW_some] <;> rfl) | (simp [*, errW_none, errW_some] <;> rfl), by (with_reducible repeat (first | apply Kd.R_alloc | apply Kd.R_drewN | apply Kd.R_drew)); exact HO_5.out, by repeat (first | (with_reducible first | exact HB.out | apply below_alloc | apply pw_below_drewN | apply below_drew1) | exact HB.out)⟩
  · rw [if_neg c3] at H
    exact absurd H (by simp)

/-! ### spec_l3Name: function 94 -/
def spec_l3Name.f (a0 : Int) : Option (Bool) := (spec_l1In.f a0 0 7).bind fun t168 => (some t168)
set_option maxHeartbeats 8000000 in
set_option maxRecDepth 100000 in
theorem spec_l3Name.calls (a0 : Int) (r : Bool) (w : World) (h : spec_l3Name.f a0 = some r) :
    Calls Try.prog 94 #[.int .i64 a0] w fun e w' => e = .returned (.bool r) ∧ Drawn0 w w' := by
  have H : ((spec_l1In.f a0 0 7).bind fun t168 => (some t168)) = some r := h
  clear h
  replace H := Option.bind_eq_some_iff.mp H
  obtain ⟨t168, A20, H⟩ := H
  replace H : (some t168) = some r := H
  have A2 := Aside0.mk A20
  clear A20
  obtain rfl := Option.some.inj H
  go_enter Try.func94, Try.ntmps94
  go_wp2_with (first | ((with_reducible refine gate_callee (f := 82) rfl ?_); refine goesL_ (some 4) rfl rfl Try.func82 (by kernel_rfl) rfl #[.int .i64 a0, .int .i64 0, .int .i64 7] rfl (by (try simp only [List.map_toArray, List.map_cons, List.map_nil]); first | done | rfl | (simp only [List.length_drop, List.length_take]; rfl)) ?_; (with_reducible refine (spec_l1In.calls a0 0 7 t168 _ A2.out).mono ?_); rintro e w' ⟨rfl, ⟨nd, rfl⟩⟩; refine ⟨_, rfl, ?_⟩))
  go_ret
  exact ⟨by first | rfl | (simp; done) | (simp [*]; done), by repeat (first | exact Drawn0.refl _ | apply Drawn0.step)⟩

end Go.Proofs.Ytfndikfaibbjoaa.QFnExactStepRanges
