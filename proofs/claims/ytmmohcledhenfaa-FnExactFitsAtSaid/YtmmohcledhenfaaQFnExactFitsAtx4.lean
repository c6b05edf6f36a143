-- written by a program of this session (wip/fork) out of the translation; Lean checks it
import Derived.Test.YtmmohcledhenfaaQFnExactFitsAtx0
import Derived.Test.YtmmohcledhenfaaQFnExactFitsAtx1
import Derived.Test.YtmmohcledhenfaaQFnExactFitsAtx2
import Derived.Test.YtmmohcledhenfaaQFnExactFitsAtx3
namespace Go.Proofs.Ytmmohcledhenfaa.QFnExactFitsAt
open Go.RowKit Go.Proofs.YtmmohcledhenfaaW.PrintWords Go.Proofs.YtmmohcledhenfaaW.PrintLast Go.Proofs.YtmmohcledhenfaaW.PrintMore
attribute [local go_sem] max2_int min2_int max_two min_two max_three min_three max_four min_four   -- for this text's walks alone
set_option linter.unusedVariables false
set_option linter.unusedSimpArgs false

/-! ### laws_FnExactFitsAt: function 7 -/
mutual
def laws_FnExactFitsAt.j0 : Nat → List Int → Int → Bool → List Int → Bool → List Int → Bool → List Int → Bool → Bool → List Int → Int → List Int → Int → Option (Bool)
  | 0, _, _, _, _, _, _, _, _, _, _, _, _, _, _ => none
  | k + 1, x0, x1, x8, x9, x10, x11, x13, x14, x15, x65, x185000, x185001, x206000, x206001 => if x65 = true then (some false) else ((laws_toIntS.f k x0).bind fun t212 => ((laws_eqIntS.f k x11 t212).bind fun t215 => (if t215 = true then ((laws_toPattern.f k x185000 x185001).bind fun bt216 => ((laws_eqPattern.f k x206000 x206001 bt216.1 bt216.2).bind fun t220 => (if t220 = true then ((laws_markIntS.f k x11 1).bind fun bt221 => ((laws_markPattern.f k x206000 x206001 bt221.1).bind fun bt223 => (if bt223.1 < 0 then (laws_FnExactFitsAt.j1 k x0 x1 x8 x9 x10 x14 true x185000 x185001) else (if (x13 != x8) = true then (laws_FnExactFitsAt.j1 k x0 x1 x8 x9 x10 x14 true x185000 x185001) else ((laws_eqIntS.f k x14 x9).bind fun t225 => (if t225 = true then (laws_FnExactFitsAt.j1 k x0 x1 x8 x9 x10 x14 (x15 != x10) x185000 x185001) else (laws_FnExactFitsAt.j1 k x0 x1 x8 x9 x10 x14 true x185000 x185001))))))) else (some false)))) else (some false))))
def laws_FnExactFitsAt.j1 : Nat → List Int → Int → Bool → List Int → Bool → List Int → Bool → List Int → Int → Option (Bool)
  | 0, _, _, _, _, _, _, _, _, _ => none
  | k + 1, x0, x1, x8, x9, x10, x14, x99, x185000, x185001 => if x99 = true then (some false) else ((laws_markIntS.f k x14 1).bind fun bt226 => ((laws_heldIntS.f k bt226.2 1).bind fun t228 => (if t228 < 0 then (some false) else (if t228 = bt226.1 then ((laws_toIntS.f k x0).bind fun t229 => ((laws_toPattern.f k x185000 x185001).bind fun bt232 => ((impl_FitsAt.f k t229 x1 bt232.1 bt232.2).bind fun bt236 => (if (bt236.1 != x8) = true then (laws_FnExactFitsAt.j2 k bt226.2 bt226.1 true) else ((laws_eqIntS.f k bt236.2.1 x9).bind fun t241 => (if t241 = true then (laws_FnExactFitsAt.j2 k bt226.2 bt226.1 (bt236.2.2 != x10)) else (laws_FnExactFitsAt.j2 k bt226.2 bt226.1 true))))))) else (some false)))))
def laws_FnExactFitsAt.j2 : Nat → List Int → Int → Bool → Option (Bool)
  | 0, _, _, _ => none
  | k + 1, x14, x17, x134 => if x134 = true then (some false) else ((laws_heldIntS.f k x14 1).bind fun t242 => (if t242 < 0 then (some false) else (if t242 = x17 then (some true) else (some false))))
end
def laws_FnExactFitsAt.f (k : Nat) (l0 : List Int) (a1 : Int) (l2_0 : List Int) (a2_1 : Int) : Option (Bool) := if (l0.length : Int) > 1048576 then (some true) else ((laws_szPattern.f l2_0 a2_1 1048576).bind fun t185 => (if t185 < 0 then (some true) else ((laws_toIntS.f k l0).bind fun t186 => ((laws_toPattern.f k l2_0 a2_1).bind fun bt189 => ((spec_FitsAt.f k t186 a1 bt189.1 bt189.2).bind fun bt193 => ((laws_toIntS.f k l0).bind fun t198 => ((laws_toPattern.f k l2_0 a2_1).bind fun bt201 => ((impl_FitsAt.f k t198 a1 bt201.1 bt201.2).bind fun bt206 => (if (bt206.1 != bt193.1) = true then (laws_FnExactFitsAt.j0 k l0 a1 bt193.1 bt193.2.1 bt193.2.2 t198 bt206.1 bt206.2.1 bt206.2.2 true l2_0 a2_1 bt201.1 bt201.2) else ((laws_eqIntS.f k bt206.2.1 bt193.2.1).bind fun t211 => (if t211 = true then (laws_FnExactFitsAt.j0 k l0 a1 bt193.1 bt193.2.1 bt193.2.2 t198 bt206.1 bt206.2.1 bt206.2.2 (bt206.2.2 != bt193.2.2) l2_0 a2_1 bt201.1 bt201.2) else (laws_FnExactFitsAt.j0 k l0 a1 bt193.1 bt193.2.1 bt193.2.2 t198 bt206.1 bt206.2.1 bt206.2.2 true l2_0 a2_1 bt201.1 bt201.2))))))))))))
theorem laws_FnExactFitsAt.mono_l : ∀ k, (∀ y0 y1 y2 y3 y4 y5 y6 y7 y8 y9 y10 y11 y12 y13, LeO (laws_FnExactFitsAt.j0 k y0 y1 y2 y3 y4 y5 y6 y7 y8 y9 y10 y11 y12 y13) (laws_FnExactFitsAt.j0 (k + 1) y0 y1 y2 y3 y4 y5 y6 y7 y8 y9 y10 y11 y12 y13)) ∧ (∀ y0 y1 y2 y3 y4 y5 y6 y7 y8, LeO (laws_FnExactFitsAt.j1 k y0 y1 y2 y3 y4 y5 y6 y7 y8) (laws_FnExactFitsAt.j1 (k + 1) y0 y1 y2 y3 y4 y5 y6 y7 y8)) ∧ (∀ y0 y1 y2, LeO (laws_FnExactFitsAt.j2 k y0 y1 y2) (laws_FnExactFitsAt.j2 (k + 1) y0 y1 y2))
  | 0 => ⟨fun _ _ _ _ _ _ _ _ _ _ _ _ _ _ r h => by simp [laws_FnExactFitsAt.j0] at h, fun _ _ _ _ _ _ _ _ _ r h => by simp [laws_FnExactFitsAt.j1] at h, fun _ _ _ r h => by simp [laws_FnExactFitsAt.j2] at h⟩
  | k + 1 => by
    obtain ⟨ih0, ih1, ih2⟩ := laws_FnExactFitsAt.mono_l k
    refine ⟨?_, ?_, ?_⟩
    · intro y0 y1 y2 y3 y4 y5 y6 y7 y8 y9 y10 y11 y12 y13
      unfold laws_FnExactFitsAt.j0
      repeat' first
      | (with_reducible exact ih0 _ _ _ _ _ _ _ _ _ _ _ _ _ _)
      | (with_reducible exact ih1 _ _ _ _ _ _ _ _ _)
      | (with_reducible exact ih2 _ _ _)
      | (with_reducible exact impl_FitsAt.mono _ _ _ _ _)
      | (with_reducible exact laws_eqIntS.mono _ _ _)
      | (with_reducible exact laws_eqPattern.mono _ _ _ _ _)
      | (with_reducible exact laws_heldIntS.mono _ _ _)
      | (with_reducible exact laws_markIntS.mono _ _ _)
      | (with_reducible exact laws_markPattern.mono _ _ _ _)
      | (with_reducible exact laws_toIntS.mono _ _)
      | (with_reducible exact laws_toPattern.mono _ _ _)
      | (with_reducible exact spec_FitsAt.mono _ _ _ _ _)
      | (with_reducible exact LeO.refl _)
      | (with_reducible exact LeO.none _)
      | (with_reducible refine LeO.ite ?_ ?_)
      | (with_reducible refine LeO.bind ?_ (fun _ => ?_))
      | exact ih0 _ _ _ _ _ _ _ _ _ _ _ _ _ _
      | exact ih1 _ _ _ _ _ _ _ _ _
      | exact ih2 _ _ _
      | exact impl_FitsAt.mono _ _ _ _ _
      | exact laws_eqIntS.mono _ _ _
      | exact laws_eqPattern.mono _ _ _ _ _
      | exact laws_heldIntS.mono _ _ _
      | exact laws_markIntS.mono _ _ _
      | exact laws_markPattern.mono _ _ _ _
      | exact laws_toIntS.mono _ _
      | exact laws_toPattern.mono _ _ _
      | exact spec_FitsAt.mono _ _ _ _ _
      | exact LeO.none _
      | refine LeO.ite ?_ ?_
      | refine LeO.bind ?_ (fun _ => ?_)
    · intro y0 y1 y2 y3 y4 y5 y6 y7 y8
      unfold laws_FnExactFitsAt.j1
      repeat' first
      | (with_reducible exact ih0 _ _ _ _ _ _ _ _ _ _ _ _ _ _)
      | (with_reducible exact ih1 _ _ _ _ _ _ _ _ _)
      | (with_reducible exact ih2 _ _ _)
      | (with_reducible exact impl_FitsAt.mono _ _ _ _ _)
      | (with_reducible exact laws_eqIntS.mono _ _ _)
      | (with_reducible exact laws_eqPattern.mono _ _ _ _ _)
      | (with_reducible exact laws_heldIntS.mono _ _ _)
      | (with_reducible exact laws_markIntS.mono _ _ _)
      | (with_reducible exact laws_markPattern.mono _ _ _ _)
      | (with_reducible exact laws_toIntS.mono _ _)
      | (with_reducible exact laws_toPattern.mono _ _ _)
      | (with_reducible exact spec_FitsAt.mono _ _ _ _ _)
      | (with_reducible exact LeO.refl _)
      | (with_reducible exact LeO.none _)
      | (with_reducible refine LeO.ite ?_ ?_)
      | (with_reducible refine LeO.bind ?_ (fun _ => ?_))
      | exact ih0 _ _ _ _ _ _ _ _ _ _ _ _ _ _
      | exact ih1 _ _ _ _ _ _ _ _ _
      | exact ih2 _ _ _
      | exact impl_FitsAt.mono _ _ _ _ _
      | exact laws_eqIntS.mono _ _ _
      | exact laws_eqPattern.mono _ _ _ _ _
      | exact laws_heldIntS.mono _ _ _
      | exact laws_markIntS.mono _ _ _
      | exact laws_markPattern.mono _ _ _ _
      | exact laws_toIntS.mono _ _
      | exact laws_toPattern.mono _ _ _
      | exact spec_FitsAt.mono _ _ _ _ _
      | exact LeO.none _
      | refine LeO.ite ?_ ?_
      | refine LeO.bind ?_ (fun _ => ?_)
    · intro y0 y1 y2
      unfold laws_FnExactFitsAt.j2
      repeat' first
      | (with_reducible exact ih0 _ _ _ _ _ _ _ _ _ _ _ _ _ _)
      | (with_reducible exact ih1 _ _ _ _ _ _ _ _ _)
      | (with_reducible exact ih2 _ _ _)
      | (with_reducible exact impl_FitsAt.mono _ _ _ _ _)
      | (with_reducible exact laws_eqIntS.mono _ _ _)
      | (with_reducible exact laws_eqPattern.mono _ _ _ _ _)
      | (with_reducible exact laws_heldIntS.mono _ _ _)
      | (with_reducible exact laws_markIntS.mono _ _ _)
      | (with_reducible exact laws_markPattern.mono _ _ _ _)
      | (with_reducible exact laws_toIntS.mono _ _)
      | (with_reducible exact laws_toPattern.mono _ _ _)
      | (with_reducible exact spec_FitsAt.mono _ _ _ _ _)
      | (with_reducible exact LeO.refl _)
      | (with_reducible exact LeO.none _)
      | (with_reducible refine LeO.ite ?_ ?_)
      | (with_reducible refine LeO.bind ?_ (fun _ => ?_))
      | exact ih0 _ _ _ _ _ _ _ _ _ _ _ _ _ _
      | exact ih1 _ _ _ _ _ _ _ _ _
      | exact ih2 _ _ _
      | exact impl_FitsAt.mono _ _ _ _ _
      | exact laws_eqIntS.mono _ _ _
      | exact laws_eqPattern.mono _ _ _ _ _
      | exact laws_heldIntS.mono _ _ _
      | exact laws_markIntS.mono _ _ _
      | exact laws_markPattern.mono _ _ _ _
      | exact laws_toIntS.mono _ _
      | exact laws_toPattern.mono _ _ _
      | exact spec_FitsAt.mono _ _ _ _ _
      | exact LeO.none _
      | refine LeO.ite ?_ ?_
      | refine LeO.bind ?_ (fun _ => ?_)
theorem laws_FnExactFitsAt.mono : ∀ a0 a1 a2 a3 k, LeO (laws_FnExactFitsAt.f k a0 a1 a2 a3) (laws_FnExactFitsAt.f (k + 1) a0 a1 a2 a3) := by
  intro a0 a1 a2 a3 k
  obtain ⟨ih0, ih1, ih2⟩ := laws_FnExactFitsAt.mono_l k
  unfold laws_FnExactFitsAt.f
  repeat' first
      | (with_reducible exact ih0 _ _ _ _ _ _ _ _ _ _ _ _ _ _)
      | (with_reducible exact ih1 _ _ _ _ _ _ _ _ _)
      | (with_reducible exact ih2 _ _ _)
      | (with_reducible exact impl_FitsAt.mono _ _ _ _ _)
      | (with_reducible exact laws_eqIntS.mono _ _ _)
      | (with_reducible exact laws_eqPattern.mono _ _ _ _ _)
      | (with_reducible exact laws_heldIntS.mono _ _ _)
      | (with_reducible exact laws_markIntS.mono _ _ _)
      | (with_reducible exact laws_markPattern.mono _ _ _ _)
      | (with_reducible exact laws_toIntS.mono _ _)
      | (with_reducible exact laws_toPattern.mono _ _ _)
      | (with_reducible exact spec_FitsAt.mono _ _ _ _ _)
      | (with_reducible exact LeO.refl _)
      | (with_reducible exact LeO.none _)
      | (with_reducible refine LeO.ite ?_ ?_)
      | (with_reducible refine LeO.bind ?_ (fun _ => ?_))
      | exact ih0 _ _ _ _ _ _ _ _ _ _ _ _ _ _
      | exact ih1 _ _ _ _ _ _ _ _ _
      | exact ih2 _ _ _
      | exact impl_FitsAt.mono _ _ _ _ _
      | exact laws_eqIntS.mono _ _ _
      | exact laws_eqPattern.mono _ _ _ _ _
      | exact laws_heldIntS.mono _ _ _
      | exact laws_markIntS.mono _ _ _
      | exact laws_markPattern.mono _ _ _ _
      | exact laws_toIntS.mono _ _
      | exact laws_toPattern.mono _ _ _
      | exact spec_FitsAt.mono _ _ _ _ _
      | exact LeO.none _
      | refine LeO.ite ?_ ?_
      | refine LeO.bind ?_ (fun _ => ?_)
def laws_FnExactFitsAt.T7 : Bool × List (List Nat × List Nat) := (true, [([], []), ([0], [0]), ([], []), ([], []), ([3, 1], [3]), ([1, 2, 4, 4], [1, 2, 4]), ([5], [5]), ([6], [6]), ([6], [6]), ([6], [6]), ([7, 5, 0, 1, 2, 3, 4, 5, 6, 7], [7]), ([8, 10, 0, 1, 2, 3, 4, 5, 6, 7, 8, 10], [8]), ([9, 11, 0, 1, 2, 3, 4, 5, 6, 7, 8, 9, 10, 11], [9])])
def laws_FnExactFitsAt.B7 : List Nat := [0, 1, 0, 0, 11, 31, 63, 127, 127, 127, 255, 1535, 4095]
theorem laws_FnExactFitsAt.tab7 : rtab .any (opsOf Try.f7 7) = laws_FnExactFitsAt.T7 := by kernel_rfl
theorem laws_FnExactFitsAt.bits7 : waitsOk laws_FnExactFitsAt.T7.2 laws_FnExactFitsAt.B7 = true := by kernel_rfl
def laws_FnExactFitsAt.T30 : Bool × List (List Nat × List Nat) := (true, [([], []), ([0], [0]), ([], []), ([], []), ([3, 1], [3]), ([1, 2, 4, 4], [1, 2, 4]), ([5], [5]), ([6], [6]), ([6], [6]), ([6], [6]), ([7, 5, 0, 1, 2, 3, 4, 5, 6, 7], [7]), ([8, 10, 0, 1, 2, 3, 4, 5, 6, 7, 8, 10], [8]), ([9, 11, 0, 1, 2, 3, 4, 5, 6, 7, 8, 9, 10, 11], [9])])
def laws_FnExactFitsAt.B30 : List Nat := [0, 1, 0, 0, 11, 31, 63, 127, 127, 127, 255, 1535, 4095]
theorem laws_FnExactFitsAt.tab30 : rtab .any (opsOf Try.f7 30) = laws_FnExactFitsAt.T30 := by kernel_rfl
theorem laws_FnExactFitsAt.bits30 : waitsOk laws_FnExactFitsAt.T30.2 laws_FnExactFitsAt.B30 = true := by kernel_rfl
set_option maxHeartbeats 8000000 in
set_option maxRecDepth 100000 in
theorem laws_FnExactFitsAt.calls (k : Nat) (A0 : Option Addr) (c0 : Nat) (l0 : List Int) (a1 : Int) (A2_0 : Option Addr) (c2_0 : Nat) (l2_0 : List Int) (a2_1 : Int) (r : Bool) (w : World) (hr0 : Kd.C (Kd.int .i64) w A0 l0.length l0) (hc0 : l0.length ≤ c0) (hr2_0 : Kd.C (Kd.int .i64) w A2_0 l2_0.length l2_0) (hc2_0 : l2_0.length ≤ c2_0) (h : laws_FnExactFitsAt.f k l0 a1 l2_0 a2_1 = some r) :
    Calls Try.prog 7 #[.slice A0 l0.length c0, .int .i64 a1, .agg #[.slice A2_0 l2_0.length c2_0, .int .i64 a2_1]] w fun e w' => e = .returned (.bool r) ∧ Below w.heap.size w w' := by
  have hu42 := Try.underlying42
  have hu46 := Try.underlying46
  have HR0 := Aside0.mk hr0
  have HC0 := Aside0.mk hc0
  clear hr0 hc0
  have HR2_0 := Aside0.mk hr2_0
  have HC2_0 := Aside0.mk hc2_0
  clear hr2_0 hc2_0
  have HB := Aside0.mk (Below.refl w.heap.size w)
  have H : (if (l0.length : Int) > 1048576 then (some true) else ((laws_szPattern.f l2_0 a2_1 1048576).bind fun t185 => (if t185 < 0 then (some true) else ((laws_toIntS.f k l0).bind fun t186 => ((laws_toPattern.f k l2_0 a2_1).bind fun bt189 => ((spec_FitsAt.f k t186 a1 bt189.1 bt189.2).bind fun bt193 => ((laws_toIntS.f k l0).bind fun t198 => ((laws_toPattern.f k l2_0 a2_1).bind fun bt201 => ((impl_FitsAt.f k t198 a1 bt201.1 bt201.2).bind fun bt206 => (if (bt206.1 != bt193.1) = true then (laws_FnExactFitsAt.j0 k l0 a1 bt193.1 bt193.2.1 bt193.2.2 t198 bt206.1 bt206.2.1 bt206.2.2 true l2_0 a2_1 bt201.1 bt201.2) else ((laws_eqIntS.f k bt206.2.1 bt193.2.1).bind fun t211 => (if t211 = true then (laws_FnExactFitsAt.j0 k l0 a1 bt193.1 bt193.2.1 bt193.2.2 t198 bt206.1 bt206.2.1 bt206.2.2 (bt206.2.2 != bt193.2.2) l2_0 a2_1 bt201.1 bt201.2) else (laws_FnExactFitsAt.j0 k l0 a1 bt193.1 bt193.2.1 bt193.2.2 t198 bt206.1 bt206.2.1 bt206.2.2 true l2_0 a2_1 bt201.1 bt201.2))))))))))))) = some r := h
  clear h
  by_cases c4 : (l0.length : Int) > 1048576
  · rw [if_pos c4] at H
    have c4b0 : decide (1048576 < (l0.length : Int)) = true := decide_eq_true c4
    have c4b1 : decide (1048576 < l0.length) = true := decide_eq_true (by omega)
    clear c4
    obtain rfl := Option.some.inj H
    go_enter Try.func7, Try.ntmps7
    go_wp2_with (first | ((with_reducible refine gate_dst (N := 5) rfl ?_); refine box_event ?hg (N := 5) ?hd (cs := #[.slice A2_0 l2_0.length c2_0, .int .i64 a2_1]) (t := 42) ?hr ?_; (case hd => rfl); (case hg => rfl); (case hr => first | (go_simp; done) | (go_simp; rfl)); intro gb184 hg w5 hbox hb; have n0_ := Aside0.mk (below_step (by repeat (first | (with_reducible first | exact HB.out | apply below_alloc | apply pw_below_drewN | apply below_drew1) | exact HB.out)) hb); have n1_ := Aside0.mk (hbox); have n2_ := Aside0.mk ((by rw [hg]; exact (below_size (by repeat (first | (with_reducible first | exact HB.out | apply below_alloc | apply pw_below_drewN | apply below_drew1) | exact HB.out))) : w.heap.size ≤ gb184)); have n3_ := Aside0.mk ((by rw [hg]; exact (below_size (by repeat (first | (with_reducible first | exact HB.out | apply below_alloc | apply pw_below_drewN | apply below_drew1) | exact HB.out))) : w.heap.size ≤ gb184)); clear HB; have HB := n0_; have BK184 := n1_; have GW184 := n2_; have GE184 := n3_; clear n0_ n1_ n2_ n3_; clear hb hbox hg))
    go_ret
    exact ⟨by first | rfl | (simp [errW_none, errW_some] <;> rfl) | (simp [*, errW_none, errW_some] <;> rfl), by repeat (first | (with_reducible first | exact HB.out | apply below_alloc | apply pw_below_drewN | apply below_drew1 | refine below_set ?_ GE184.out) | exact HB.out)⟩
  · rw [if_neg c4] at H
    have c4b0 : decide (1048576 < (l0.length : Int)) = false := decide_eq_false c4
    have c4b1 : decide (1048576 < l0.length) = false := decide_eq_false (by omega)
    clear c4
    replace H := Option.bind_eq_some_iff.mp H
    obtain ⟨t185, A60, H⟩ := H
    replace H : (if t185 < 0 then (some true) else ((laws_toIntS.f k l0).bind fun t186 => ((laws_toPattern.f k l2_0 a2_1).bind fun bt189 => ((spec_FitsAt.f k t186 a1 bt189.1 bt189.2).bind fun bt193 => ((laws_toIntS.f k l0).bind fun t198 => ((laws_toPattern.f k l2_0 a2_1).bind fun bt201 => ((impl_FitsAt.f k t198 a1 bt201.1 bt201.2).bind fun bt206 => (if (bt206.1 != bt193.1) = true then (laws_FnExactFitsAt.j0 k l0 a1 bt193.1 bt193.2.1 bt193.2.2 t198 bt206.1 bt206.2.1 bt206.2.2 true l2_0 a2_1 bt201.1 bt201.2) else ((laws_eqIntS.f k bt206.2.1 bt193.2.1).bind fun t211 => (if t211 = true then (laws_FnExactFitsAt.j0 k l0 a1 bt193.1 bt193.2.1 bt193.2.2 t198 bt206.1 bt206.2.1 bt206.2.2 (bt206.2.2 != bt193.2.2) l2_0 a2_1 bt201.1 bt201.2) else (laws_FnExactFitsAt.j0 k l0 a1 bt193.1 bt193.2.1 bt193.2.2 t198 bt206.1 bt206.2.1 bt206.2.2 true l2_0 a2_1 bt201.1 bt201.2))))))))))) = some r := H
    have A6 := Aside0.mk A60
    clear A60
    by_cases c7 : t185 < 0
    · rw [if_pos c7] at H
      have c7b0 : decide (t185 < 0) = true := decide_eq_true c7
      clear c7
      obtain rfl := Option.some.inj H
      go_enter Try.func7, Try.ntmps7
      go_wp2_with (first | ((with_reducible refine gate_dst (N := 5) rfl ?_); refine box_event ?hg (N := 5) ?hd (cs := #[.slice A2_0 l2_0.length c2_0, .int .i64 a2_1]) (t := 42) ?hr ?_; (case hd => rfl); (case hg => rfl); (case hr => first | (go_simp; done) | (go_simp; rfl)); intro gb184 hg w8 hbox hb; have n0_ := Aside0.mk (below_step (by repeat (first | (with_reducible first | exact HB.out | apply below_alloc | apply pw_below_drewN | apply below_drew1) | exact HB.out)) hb); have n1_ := Aside0.mk (hbox); have n2_ := Aside0.mk ((by rw [hg]; exact (below_size (by repeat (first | (with_reducible first | exact HB.out | apply below_alloc | apply pw_below_drewN | apply below_drew1) | exact HB.out))) : w.heap.size ≤ gb184)); have n3_ := Aside0.mk ((by rw [hg]; exact (below_size (by repeat (first | (with_reducible first | exact HB.out | apply below_alloc | apply pw_below_drewN | apply below_drew1) | exact HB.out))) : w.heap.size ≤ gb184)); clear HB; have HB := n0_; have BK184 := n1_; have GW184 := n2_; have GE184 := n3_; clear n0_ n1_ n2_ n3_; clear hb hbox hg; have hcz9_0 : w8.cell? ⟨gb184, 0, none⟩ = some (.slice A2_0 l2_0.length c2_0) := (blk_cell BK184.out 0).trans rfl; have hcz9_1 : w8.cell? ⟨gb184, 1, none⟩ = some (.int .i64 a2_1) := (blk_cell BK184.out 1).trans rfl; have hfz9_0 := blk_frozen BK184.out 0; have hfz9_1 := blk_frozen BK184.out 1) | ((with_reducible refine gate_callee (f := 27) rfl ?_); refine goesL_ (some 27) rfl rfl Try.func27 (by kernel_rfl) rfl #[.agg #[.slice A2_0 l2_0.length c2_0, .int .i64 a2_1], .int .i64 1048576] rfl (by (try simp only [List.map_toArray, List.map_cons, List.map_nil]); first | done | rfl | (simp only [List.length_drop, List.length_take]; rfl)) ?_; (with_reducible refine (laws_szPattern.calls _ _ l2_0 a2_1 1048576 t185 _ ?side1 ?side2 A6.out).mono ?_); (case side1 => repeat (first | exact (Kd.C_below HR2_0.out HB.out) | (with_reducible refine Kd.C_alloc ?_ _) | (with_reducible refine Kd.C_drewN ?_ _) | (with_reducible refine Kd.C_drew ?_))); (case side2 => exact HC2_0.out); rintro e w10 ⟨rfl, hb⟩; refine ⟨_, rfl, ?_⟩; have n0_ := Aside0.mk (blk_below (g := gb184) (o := .cells #[.slice A2_0 l2_0.length c2_0, .int .i64 a2_1] 42 (0, 0)) (by (with_reducible repeat (first | refine blk_drewN ?_ _ | refine blk_drew ?_ | refine blk_alloc ?_ _)); exact BK184.out) hb); have n1_ := Aside0.mk (below_step (by repeat (first | (with_reducible first | exact HB.out | apply below_alloc | apply pw_below_drewN | apply below_drew1 | refine below_set ?_ GE184.out) | exact HB.out)) hb); clear BK184; clear HB; have BK184 := n0_; have HB := n1_; clear n0_ n1_; (try clear hb); (try clear hb2); (try clear hk); (try clear hi)))
      go_ret
      exact ⟨by first | rfl | (simp [errW_none, errW_some] <;> rfl) | (simp [*, errW_none, errW_some] <;> rfl), by repeat (first | (with_reducible first | exact HB.out | apply below_alloc | apply pw_below_drewN | apply below_drew1 | refine below_set ?_ GE184.out) | exact HB.out)⟩
    · rw [if_neg c7] at H
      have c7b0 : decide (t185 < 0) = false := decide_eq_false c7
      clear c7
      replace H := Option.bind_eq_some_iff.mp H
      obtain ⟨t186, A110, H⟩ := H
      replace H : ((laws_toPattern.f k l2_0 a2_1).bind fun bt189 => ((spec_FitsAt.f k t186 a1 bt189.1 bt189.2).bind fun bt193 => ((laws_toIntS.f k l0).bind fun t198 => ((laws_toPattern.f k l2_0 a2_1).bind fun bt201 => ((impl_FitsAt.f k t198 a1 bt201.1 bt201.2).bind fun bt206 => (if (bt206.1 != bt193.1) = true then (laws_FnExactFitsAt.j0 k l0 a1 bt193.1 bt193.2.1 bt193.2.2 t198 bt206.1 bt206.2.1 bt206.2.2 true l2_0 a2_1 bt201.1 bt201.2) else ((laws_eqIntS.f k bt206.2.1 bt193.2.1).bind fun t211 => (if t211 = true then (laws_FnExactFitsAt.j0 k l0 a1 bt193.1 bt193.2.1 bt193.2.2 t198 bt206.1 bt206.2.1 bt206.2.2 (bt206.2.2 != bt193.2.2) l2_0 a2_1 bt201.1 bt201.2) else (laws_FnExactFitsAt.j0 k l0 a1 bt193.1 bt193.2.1 bt193.2.2 t198 bt206.1 bt206.2.1 bt206.2.2 true l2_0 a2_1 bt201.1 bt201.2))))))))) = some r := H
      have A11 := Aside0.mk A110
      clear A110
      replace H := Option.bind_eq_some_iff.mp H
      obtain ⟨⟨t189, t192⟩, A120, H⟩ := H
      replace H : ((spec_FitsAt.f k t186 a1 t189 t192).bind fun bt193 => ((laws_toIntS.f k l0).bind fun t198 => ((laws_toPattern.f k l2_0 a2_1).bind fun bt201 => ((impl_FitsAt.f k t198 a1 bt201.1 bt201.2).bind fun bt206 => (if (bt206.1 != bt193.1) = true then (laws_FnExactFitsAt.j0 k l0 a1 bt193.1 bt193.2.1 bt193.2.2 t198 bt206.1 bt206.2.1 bt206.2.2 true l2_0 a2_1 bt201.1 bt201.2) else ((laws_eqIntS.f k bt206.2.1 bt193.2.1).bind fun t211 => (if t211 = true then (laws_FnExactFitsAt.j0 k l0 a1 bt193.1 bt193.2.1 bt193.2.2 t198 bt206.1 bt206.2.1 bt206.2.2 (bt206.2.2 != bt193.2.2) l2_0 a2_1 bt201.1 bt201.2) else (laws_FnExactFitsAt.j0 k l0 a1 bt193.1 bt193.2.1 bt193.2.2 t198 bt206.1 bt206.2.1 bt206.2.2 true l2_0 a2_1 bt201.1 bt201.2)))))))) = some r := H
      have A12 := Aside0.mk A120
      clear A120
      replace H := Option.bind_eq_some_iff.mp H
      obtain ⟨⟨t193, t194, t197⟩, A130, H⟩ := H
      replace H : ((laws_toIntS.f k l0).bind fun t198 => ((laws_toPattern.f k l2_0 a2_1).bind fun bt201 => ((impl_FitsAt.f k t198 a1 bt201.1 bt201.2).bind fun bt206 => (if (bt206.1 != t193) = true then (laws_FnExactFitsAt.j0 k l0 a1 t193 t194 t197 t198 bt206.1 bt206.2.1 bt206.2.2 true l2_0 a2_1 bt201.1 bt201.2) else ((laws_eqIntS.f k bt206.2.1 t194).bind fun t211 => (if t211 = true then (laws_FnExactFitsAt.j0 k l0 a1 t193 t194 t197 t198 bt206.1 bt206.2.1 bt206.2.2 (bt206.2.2 != t197) l2_0 a2_1 bt201.1 bt201.2) else (laws_FnExactFitsAt.j0 k l0 a1 t193 t194 t197 t198 bt206.1 bt206.2.1 bt206.2.2 true l2_0 a2_1 bt201.1 bt201.2))))))) = some r := H
      have A13 := Aside0.mk A130
      clear A130
      replace H := Option.bind_eq_some_iff.mp H
      obtain ⟨t198, A140, H⟩ := H
      replace H : ((laws_toPattern.f k l2_0 a2_1).bind fun bt201 => ((impl_FitsAt.f k t198 a1 bt201.1 bt201.2).bind fun bt206 => (if (bt206.1 != t193) = true then (laws_FnExactFitsAt.j0 k l0 a1 t193 t194 t197 t198 bt206.1 bt206.2.1 bt206.2.2 true l2_0 a2_1 bt201.1 bt201.2) else ((laws_eqIntS.f k bt206.2.1 t194).bind fun t211 => (if t211 = true then (laws_FnExactFitsAt.j0 k l0 a1 t193 t194 t197 t198 bt206.1 bt206.2.1 bt206.2.2 (bt206.2.2 != t197) l2_0 a2_1 bt201.1 bt201.2) else (laws_FnExactFitsAt.j0 k l0 a1 t193 t194 t197 t198 bt206.1 bt206.2.1 bt206.2.2 true l2_0 a2_1 bt201.1 bt201.2)))))) = some r := H
      have A14 := Aside0.mk A140
      clear A140
      replace H := Option.bind_eq_some_iff.mp H
      obtain ⟨⟨t201, t204⟩, A150, H⟩ := H
      replace H : ((impl_FitsAt.f k t198 a1 t201 t204).bind fun bt206 => (if (bt206.1 != t193) = true then (laws_FnExactFitsAt.j0 k l0 a1 t193 t194 t197 t198 bt206.1 bt206.2.1 bt206.2.2 true l2_0 a2_1 t201 t204) else ((laws_eqIntS.f k bt206.2.1 t194).bind fun t211 => (if t211 = true then (laws_FnExactFitsAt.j0 k l0 a1 t193 t194 t197 t198 bt206.1 bt206.2.1 bt206.2.2 (bt206.2.2 != t197) l2_0 a2_1 t201 t204) else (laws_FnExactFitsAt.j0 k l0 a1 t193 t194 t197 t198 bt206.1 bt206.2.1 bt206.2.2 true l2_0 a2_1 t201 t204))))) = some r := H
      have A15 := Aside0.mk A150
      clear A150
      replace H := Option.bind_eq_some_iff.mp H
      obtain ⟨⟨t206, t207, t210⟩, A160, H⟩ := H
      replace H : (if (t206 != t193) = true then (laws_FnExactFitsAt.j0 k l0 a1 t193 t194 t197 t198 t206 t207 t210 true l2_0 a2_1 t201 t204) else ((laws_eqIntS.f k t207 t194).bind fun t211 => (if t211 = true then (laws_FnExactFitsAt.j0 k l0 a1 t193 t194 t197 t198 t206 t207 t210 (t210 != t197) l2_0 a2_1 t201 t204) else (laws_FnExactFitsAt.j0 k l0 a1 t193 t194 t197 t198 t206 t207 t210 true l2_0 a2_1 t201 t204)))) = some r := H
      have A16 := Aside0.mk A160
      clear A160
      have HC17 := Aside0.mk H
      clear H
      go_enter Try.func7, Try.ntmps7
      try go_wp2_with (first | ((with_reducible refine gate_dst (N := 5) rfl ?_); refine box_event ?hg (N := 5) ?hd (cs := #[.slice A2_0 l2_0.length c2_0, .int .i64 a2_1]) (t := 42) ?hr ?_; (case hd => rfl); (case hg => rfl); (case hr => first | (go_simp; done) | (go_simp; rfl)); intro gb184 hg w18 hbox hb; have n0_ := Aside0.mk (below_step (by repeat (first | (with_reducible first | exact HB.out | apply below_alloc | apply pw_below_drewN | apply below_drew1) | exact HB.out)) hb); have n1_ := Aside0.mk (hbox); have n2_ := Aside0.mk ((by rw [hg]; exact (below_size (by repeat (first | (with_reducible first | exact HB.out | apply below_alloc | apply pw_below_drewN | apply below_drew1) | exact HB.out))) : w.heap.size ≤ gb184)); have n3_ := Aside0.mk ((by rw [hg]; exact (below_size (by repeat (first | (with_reducible first | exact HB.out | apply below_alloc | apply pw_below_drewN | apply below_drew1) | exact HB.out))) : w.heap.size ≤ gb184)); clear HB; have HB := n0_; have BK184 := n1_; have GW184 := n2_; have GE184 := n3_; clear n0_ n1_ n2_ n3_; clear hb hbox hg; have hcz19_0 : w18.cell? ⟨gb184, 0, none⟩ = some (.slice A2_0 l2_0.length c2_0) := (blk_cell BK184.out 0).trans rfl; have hcz19_1 : w18.cell? ⟨gb184, 1, none⟩ = some (.int .i64 a2_1) := (blk_cell BK184.out 1).trans rfl; have hfz19_0 := blk_frozen BK184.out 0; have hfz19_1 := blk_frozen BK184.out 1) | ((with_reducible refine gate_callee (f := 27) rfl ?_); refine goesL_ (some 27) rfl rfl Try.func27 (by kernel_rfl) rfl #[.agg #[.slice A2_0 l2_0.length c2_0, .int .i64 a2_1], .int .i64 1048576] rfl (by (try simp only [List.map_toArray, List.map_cons, List.map_nil]); first | done | rfl | (simp only [List.length_drop, List.length_take]; rfl)) ?_; (with_reducible refine (laws_szPattern.calls _ _ l2_0 a2_1 1048576 t185 _ ?side1 ?side2 A6.out).mono ?_); (case side1 => repeat (first | exact (Kd.C_below HR2_0.out HB.out) | (with_reducible refine Kd.C_alloc ?_ _) | (with_reducible refine Kd.C_drewN ?_ _) | (with_reducible refine Kd.C_drew ?_))); (case side2 => exact HC2_0.out); rintro e w20 ⟨rfl, hb⟩; refine ⟨_, rfl, ?_⟩; have n0_ := Aside0.mk (blk_below (g := gb184) (o := .cells #[.slice A2_0 l2_0.length c2_0, .int .i64 a2_1] 42 (0, 0)) (by (with_reducible repeat (first | refine blk_drewN ?_ _ | refine blk_drew ?_ | refine blk_alloc ?_ _)); exact BK184.out) hb); have n1_ := Aside0.mk (below_step (by repeat (first | (with_reducible first | exact HB.out | apply below_alloc | apply pw_below_drewN | apply below_drew1 | refine below_set ?_ GE184.out) | exact HB.out)) hb); clear BK184; clear HB; have BK184 := n0_; have HB := n1_; clear n0_ n1_; (try clear hb); (try clear hb2); (try clear hk); (try clear hi)))
      have n0_ := Aside0.mk (blk_drew BK184.out)
      have n1_ := Aside0.mk (below_drew1 HB.out)
      clear BK184
      clear HB
      have BK184 := n0_
      have HB := n1_
      clear n0_ n1_
      refine start_ (n := 13) (S := fun w' => w'.cell? ⟨gb184, 0, none⟩ = some (.slice A2_0 l2_0.length c2_0) ∧ w'.cell? ⟨gb184, 1, none⟩ = some (.int .i64 a2_1)) (ds := []) #[false, false, false, false, false, false, false, false, false, false, false, false, false] (by kernel_rfl) rfl rfl ⟨(blk_cell BK184.out 0).trans rfl, (blk_cell BK184.out 1).trans rfl⟩ (fun hHeld => ?_); refine with_tabW laws_FnExactFitsAt.tab7 laws_FnExactFitsAt.bits7 (fun HT_ HW_ => ?_)
      generalize w20.drew = w21 at BK184 HB hHeld ⊢
      refine pure_ (i := 0) (N := some 31) (v := ?_) (a' := ?_) #[true, false, false, false, false, false, false, false, false, false, false, false, false] rfl rfl (any_of HT_.out (by kernel_rfl)) (fun _ _ _ h => h) (Or.inl ⟨by rfl, ?_⟩) ?_ ?_
      rotate_left
      · intro w'
        go_simp
        with_reducible rfl
      rotate_left
      · simp only [Act.put, List.setIfInBounds_toArray, List.set_cons_zero, List.set_cons_succ, i64_w, i32_w]
        rfl
      refine pure_ (i := 2) (N := some 33) (v := ?_) (a' := ?_) #[true, false, true, false, false, false, false, false, false, false, false, false, false] rfl rfl (any_of HT_.out (by kernel_rfl)) (fun _ _ _ h => h) (Or.inl ⟨by rfl, ?_⟩) ?_ ?_
      rotate_left
      · intro w'
        go_simp
        with_reducible rfl
      rotate_left
      · simp only [Act.put, List.setIfInBounds_toArray, List.set_cons_zero, List.set_cons_succ, i64_w, i32_w]
        rfl
      refine take_ (i := 3) (N := some 34) (v := ?_) (a' := ?_) #[true, false, true, true, false, false, false, false, false, false, false, false, false] rfl rfl (take_ofW HT_.out HW_.out (by kernel_rfl)) (fun _ _ _ h => h) (Or.inl ⟨by rfl, ?_⟩) hHeld ?_ ?_
      rotate_left
      · rintro w' ⟨s0, s1⟩
        go_simp
        with_reducible rfl
      rotate_left
      · simp only [Act.put, List.setIfInBounds_toArray, List.set_cons_zero, List.set_cons_succ, i64_w, i32_w]
        rfl
      refine one_ (i := 1) (N := some 32) #[true, true, true, true, false, false, false, false, false, false, false, false, false] rfl rfl (one_of HT_.out (by kernel_rfl)) (by decide) (fun K hK => ?_)
      refine goes_ Try.func12 (by kernel_rfl) rfl #[.slice A0 l0.length c0] (by rfl) rfl rfl (by (try simp only [List.map_toArray, List.map_cons, List.map_nil]); first | done | rfl | (simp only [List.length_drop, List.length_take]; rfl)) ?_
      with_reducible refine (laws_toIntS.calls k _ _ l0 t186 _ ?side1 ?side2 A11.out).mono ?_
      (case side1 => repeat (first | exact (Kd.C_below HR0.out HB.out) | (with_reducible refine Kd.C_alloc ?_ _) | (with_reducible refine Kd.C_drewN ?_ _) | (with_reducible refine Kd.C_drew ?_)))
      (case side2 => exact HC0.out)
      rintro e w22 ⟨v187, rfl, ho0, hb⟩
      refine ⟨_, rfl, ?_⟩
      have n0_ := Aside0.mk (Kd.R_lower ho0 (below_size (by repeat (first | (with_reducible first | exact HB.out | apply below_alloc | apply pw_below_drewN | apply below_drew1 | refine below_set ?_ GE184.out) | exact HB.out))))
      have n1_ := Aside0.mk (blk_below (g := gb184) (o := .cells #[.slice A2_0 l2_0.length c2_0, .int .i64 a2_1] 42 (0, 0)) (by (with_reducible repeat (first | refine blk_drewN ?_ _ | refine blk_drew ?_ | refine blk_alloc ?_ _)); exact BK184.out) hb)
      have n2_ := Aside0.mk (below_step (by repeat (first | (with_reducible first | exact HB.out | apply below_alloc | apply pw_below_drewN | apply below_drew1 | refine below_set ?_ GE184.out) | exact HB.out)) hb)
      clear BK184
      clear HB
      have HO188 := n0_
      have BK184 := n1_
      have HB := n2_
      clear n0_ n1_ n2_
      (try clear hb)
      (try clear hb2)
      (try clear hk)
      (try clear hi)
      (try clear ho0)
      refine hK.out _ _ ⟨(blk_cell BK184.out 0).trans rfl, (blk_cell BK184.out 1).trans rfl⟩ (fun hHeld => ?_)
      clear hK K
      refine norm_ (a' := ?_) ?_ ?_
      rotate_left
      · show Act.put _ (some 32) _ = _
        simp only [Act.put, List.setIfInBounds_toArray, List.set_cons_zero, List.set_cons_succ, i64_w, i32_w]
        rfl
      refine one_ (i := 4) (N := some 35) #[true, true, true, true, true, false, false, false, false, false, false, false, false] rfl rfl (one_of HT_.out (by kernel_rfl)) (by decide) (fun K hK => ?_)
      refine goes_ Try.func29 (by kernel_rfl) rfl #[.agg #[.slice A2_0 l2_0.length c2_0, .int .i64 a2_1]] (by rfl) rfl rfl (by (try simp only [List.map_toArray, List.map_cons, List.map_nil]); first | done | rfl | (simp only [List.length_drop, List.length_take]; rfl)) ?_
      with_reducible refine (laws_toPattern.calls k _ _ l2_0 a2_1 t189 t192 _ ?side1 ?side2 A12.out).mono ?_
      (case side1 => repeat (first | exact (Kd.C_below HR2_0.out HB.out) | (with_reducible refine Kd.C_alloc ?_ _) | (with_reducible refine Kd.C_drewN ?_ _) | (with_reducible refine Kd.C_drew ?_)))
      (case side2 => exact HC2_0.out)
      rintro e w23 ⟨v190, rfl, ho0, hb⟩
      refine ⟨_, rfl, ?_⟩
      have n0_ := Aside0.mk (Kd.R_elder' (by (with_reducible repeat (first | apply Kd.R_alloc | apply Kd.R_drewN | apply Kd.R_drew)); exact HO188.out) (Kd.R_base ho0) hb)
      have n1_ := Aside0.mk (Kd.R_lower (Kd.R_new' ho0 (Kd.R_lt (by (with_reducible repeat (first | apply Kd.R_alloc | apply Kd.R_drewN | apply Kd.R_drew)); exact HO188.out))) (below_size (by repeat (first | (with_reducible first | exact HB.out | apply below_alloc | apply pw_below_drewN | apply below_drew1 | refine below_set ?_ GE184.out) | exact HB.out))))
      have n2_ := Aside0.mk (blk_below (g := gb184) (o := .cells #[.slice A2_0 l2_0.length c2_0, .int .i64 a2_1] 42 (0, 0)) (by (with_reducible repeat (first | refine blk_drewN ?_ _ | refine blk_drew ?_ | refine blk_alloc ?_ _)); exact BK184.out) hb)
      have n3_ := Aside0.mk (below_step (by repeat (first | (with_reducible first | exact HB.out | apply below_alloc | apply pw_below_drewN | apply below_drew1 | refine below_set ?_ GE184.out) | exact HB.out)) hb)
      clear HO188
      clear BK184
      clear HB
      have HO188 := n0_
      have HO191 := n1_
      have BK184 := n2_
      have HB := n3_
      clear n0_ n1_ n2_ n3_
      (try clear hb)
      (try clear hb2)
      (try clear hk)
      (try clear hi)
      (try clear ho0)
      obtain ⟨Ao24, co24, eo24⟩ := Kd.R_slice HO188.out
      (first | subst eo24 | (injection eo24 with f1_ f2_ f3_; have f4_ := f1_.symm; have f5_ := f3_.symm; clear f1_ f2_ f3_; subst f4_; subst f5_))
      obtain ⟨Ao25, co25, eo25⟩ := Kd.R_slice HO191.out
      (first | subst eo25 | (injection eo25 with f1_ f2_ f3_; have f4_ := f1_.symm; have f5_ := f3_.symm; clear f1_ f2_ f3_; subst f4_; subst f5_))
      refine hK.out _ _ ⟨(blk_cell BK184.out 0).trans rfl, (blk_cell BK184.out 1).trans rfl⟩ (fun hHeld => ?_)
      clear hK K
      refine norm_ (a' := ?_) ?_ ?_
      rotate_left
      · show Act.put _ (some 35) _ = _
        simp only [Act.put, List.setIfInBounds_toArray, List.set_cons_zero, List.set_cons_succ, i64_w, i32_w]
        rfl
      refine one_ (i := 5) (N := some 36) #[true, true, true, true, true, true, false, false, false, false, false, false, false] rfl rfl (one_of HT_.out (by kernel_rfl)) (by decide) (fun K hK => ?_)
      refine goes_ Try.func28 (by kernel_rfl) rfl #[.slice Ao24 t186.length co24, .int .i64 a1, .agg #[.slice Ao25 t189.length co25, .int .i64 t192]] (by rfl) rfl rfl (by (try simp only [List.map_toArray, List.map_cons, List.map_nil]); first | done | rfl | (simp only [List.length_drop, List.length_take]; rfl)) ?_
      with_reducible refine (spec_FitsAt.calls k _ _ t186 a1 _ _ t189 t192 t193 t194 t197 _ ?side1 ?side2 ?side3 ?side4 A13.out).mono ?_
      (case side1 => repeat (first | exact (Kd.R_reads' HO188.out).2.2 | (with_reducible refine Kd.C_alloc ?_ _) | (with_reducible refine Kd.C_drewN ?_ _) | (with_reducible refine Kd.C_drew ?_)))
      (case side2 => exact (Kd.R_reads' HO188.out).2.1)
      (case side3 => repeat (first | exact (Kd.R_reads' HO191.out).2.2 | (with_reducible refine Kd.C_alloc ?_ _) | (with_reducible refine Kd.C_drewN ?_ _) | (with_reducible refine Kd.C_drew ?_)))
      (case side4 => exact (Kd.R_reads' HO191.out).2.1)
      rintro e w26 ⟨v195, rfl, ho0, hb⟩
      refine ⟨_, rfl, ?_⟩
      have n0_ := Aside0.mk (Kd.R_elder' (by (with_reducible repeat (first | apply Kd.R_alloc | apply Kd.R_drewN | apply Kd.R_drew)); exact HO188.out) (Kd.R_base ho0) hb)
      have n1_ := Aside0.mk (Kd.R_elder' (by (with_reducible repeat (first | apply Kd.R_alloc | apply Kd.R_drewN | apply Kd.R_drew)); exact HO191.out) (Kd.R_base ho0) hb)
      have n2_ := Aside0.mk (Kd.R_lower (Kd.R_new' (Kd.R_new' ho0 (Kd.R_lt (by (with_reducible repeat (first | apply Kd.R_alloc | apply Kd.R_drewN | apply Kd.R_drew)); exact HO188.out))) (Kd.R_lt (by (with_reducible repeat (first | apply Kd.R_alloc | apply Kd.R_drewN | apply Kd.R_drew)); exact HO191.out))) (below_size (by repeat (first | (with_reducible first | exact HB.out | apply below_alloc | apply pw_below_drewN | apply below_drew1 | refine below_set ?_ GE184.out) | exact HB.out))))
      have n3_ := Aside0.mk (blk_below (g := gb184) (o := .cells #[.slice A2_0 l2_0.length c2_0, .int .i64 a2_1] 42 (0, 0)) (by (with_reducible repeat (first | refine blk_drewN ?_ _ | refine blk_drew ?_ | refine blk_alloc ?_ _)); exact BK184.out) hb)
      have n4_ := Aside0.mk (below_step (by repeat (first | (with_reducible first | exact HB.out | apply below_alloc | apply pw_below_drewN | apply below_drew1 | refine below_set ?_ GE184.out) | exact HB.out)) hb)
      clear HO188
      clear HO191
      clear BK184
      clear HB
      have HO188 := n0_
      have HO191 := n1_
      have HO196 := n2_
      have BK184 := n3_
      have HB := n4_
      clear n0_ n1_ n2_ n3_ n4_
      (try clear hb)
      (try clear hb2)
      (try clear hk)
      (try clear hi)
      (try clear ho0)
      refine hK.out _ _ ⟨(blk_cell BK184.out 0).trans rfl, (blk_cell BK184.out 1).trans rfl⟩ (fun hHeld => ?_)
      clear hK K
      refine norm_ (a' := ?_) ?_ ?_
      rotate_left
      · show Act.put _ (some 36) _ = _
        simp only [Act.put, List.setIfInBounds_toArray, List.set_cons_zero, List.set_cons_succ, i64_w, i32_w]
        rfl
      refine pure_ (i := 6) (N := some 30) (v := ?_) (a' := ?_) #[true, true, true, true, true, true, true, false, false, false, false, false, false] rfl rfl (any_of HT_.out (by kernel_rfl)) (fun _ _ _ h => h) (Or.inl ⟨by rfl, ?_⟩) ?_ ?_
      rotate_left
      · intro w'
        go_simp
        with_reducible rfl
      rotate_left
      · simp only [Act.put, List.setIfInBounds_toArray, List.set_cons_zero, List.set_cons_succ, i64_w, i32_w]
        rfl
      refine pure_ (i := 7) (N := some 37) (v := ?_) (a' := ?_) #[true, true, true, true, true, true, true, true, false, false, false, false, false] rfl rfl (any_of HT_.out (by kernel_rfl)) (fun _ _ _ h => h) (Or.inl ⟨by rfl, ?_⟩) ?_ ?_
      rotate_left
      · intro w'
        go_simp
        with_reducible rfl
      rotate_left
      · simp only [Act.put, List.setIfInBounds_toArray, List.set_cons_zero, List.set_cons_succ, i64_w, i32_w]
        rfl
      refine pure_ (i := 8) (N := some 38) (v := ?_) (a' := ?_) #[true, true, true, true, true, true, true, true, true, false, false, false, false] rfl rfl (any_of HT_.out (by kernel_rfl)) (fun _ _ _ h => h) (Or.inl ⟨by rfl, ?_⟩) ?_ ?_
      rotate_left
      · intro w'
        go_simp
        with_reducible rfl
      rotate_left
      · simp only [Act.put, List.setIfInBounds_toArray, List.set_cons_zero, List.set_cons_succ, i64_w, i32_w]
        rfl
      refine pure_ (i := 9) (N := some 39) (v := ?_) (a' := ?_) #[true, true, true, true, true, true, true, true, true, true, false, false, false] rfl rfl (any_of HT_.out (by kernel_rfl)) (fun _ _ _ h => h) (Or.inl ⟨by rfl, ?_⟩) ?_ ?_
      rotate_left
      · intro w'
        go_simp
        with_reducible rfl
      rotate_left
      · simp only [Act.put, List.setIfInBounds_toArray, List.set_cons_zero, List.set_cons_succ, i64_w, i32_w]
        rfl
      refine pure_ (i := 10) (N := some 8) (v := ?_) (a' := ?_) #[true, true, true, true, true, true, true, true, true, true, true, false, false] rfl rfl (any_of HT_.out (by kernel_rfl)) (fun _ _ _ h => h) (Or.inl ⟨by rfl, ?_⟩) ?_ ?_
      rotate_left
      · intro w'
        go_simp
        with_reducible rfl
      rotate_left
      · simp only [Act.put, List.setIfInBounds_toArray, List.set_cons_zero, List.set_cons_succ, i64_w, i32_w]
        rfl
      refine pure_ (i := 11) (N := some 9) (v := ?_) (a' := ?_) #[true, true, true, true, true, true, true, true, true, true, true, true, false] rfl rfl (any_of HT_.out (by kernel_rfl)) (fun _ _ _ h => h) (Or.inl ⟨by rfl, ?_⟩) ?_ ?_
      rotate_left
      · intro w'
        go_simp
        with_reducible rfl
      rotate_left
      · simp only [Act.put, List.setIfInBounds_toArray, List.set_cons_zero, List.set_cons_succ, i64_w, i32_w]
        rfl
      refine pure_ (i := 12) (N := some 10) (v := ?_) (a' := ?_) #[true, true, true, true, true, true, true, true, true, true, true, true, true] rfl rfl (any_of HT_.out (by kernel_rfl)) (fun _ _ _ h => h) (Or.inl ⟨by rfl, ?_⟩) ?_ ?_
      rotate_left
      · intro w'
        go_simp
        with_reducible rfl
      rotate_left
      · simp only [Act.put, List.setIfInBounds_toArray, List.set_cons_zero, List.set_cons_succ, i64_w, i32_w]
        rfl
      refine done_ (done_of HT_.out (by kernel_rfl)) ?_
      go_upto_region 11 with (first | ((with_reducible refine gate_callee (f := 12) rfl ?_); refine goesL_ (some 41) rfl rfl Try.func12 (by kernel_rfl) rfl #[.slice A0 l0.length c0] rfl (by (try simp only [List.map_toArray, List.map_cons, List.map_nil]); first | done | rfl | (simp only [List.length_drop, List.length_take]; rfl)) ?_; (with_reducible refine (laws_toIntS.calls k _ _ l0 t198 _ ?side1 ?side2 A14.out).mono ?_); (case side1 => repeat (first | exact (Kd.C_below HR0.out HB.out) | (with_reducible refine Kd.C_alloc ?_ _) | (with_reducible refine Kd.C_drewN ?_ _) | (with_reducible refine Kd.C_drew ?_))); (case side2 => exact HC0.out); rintro e w27 ⟨v199, rfl, ho0, hb⟩; refine ⟨_, rfl, ?_⟩; have n0_ := Aside0.mk (Kd.R_elder' (by (with_reducible repeat (first | apply Kd.R_alloc | apply Kd.R_drewN | apply Kd.R_drew)); exact HO188.out) (Kd.R_base ho0) hb); have n1_ := Aside0.mk (Kd.R_elder' (by (with_reducible repeat (first | apply Kd.R_alloc | apply Kd.R_drewN | apply Kd.R_drew)); exact HO191.out) (Kd.R_base ho0) hb); have n2_ := Aside0.mk (Kd.R_elder' (by (with_reducible repeat (first | apply Kd.R_alloc | apply Kd.R_drewN | apply Kd.R_drew)); exact HO196.out) (Kd.R_base ho0) hb); have n3_ := Aside0.mk (Kd.R_lower (Kd.R_new' (Kd.R_new' (Kd.R_new' ho0 (Kd.R_lt (by (with_reducible repeat (first | apply Kd.R_alloc | apply Kd.R_drewN | apply Kd.R_drew)); exact HO188.out))) (Kd.R_lt (by (with_reducible repeat (first | apply Kd.R_alloc | apply Kd.R_drewN | apply Kd.R_drew)); exact HO191.out))) (Kd.R_lt (by (with_reducible repeat (first | apply Kd.R_alloc | apply Kd.R_drewN | apply Kd.R_drew)); exact HO196.out))) (below_size (by repeat (first | (with_reducible first | exact HB.out | apply below_alloc | apply pw_below_drewN | apply below_drew1 | refine below_set ?_ GE184.out) | exact HB.out)))); have n4_ := Aside0.mk (blk_below (g := gb184) (o := .cells #[.slice A2_0 l2_0.length c2_0, .int .i64 a2_1] 42 (0, 0)) (by (with_reducible repeat (first | refine blk_drewN ?_ _ | refine blk_drew ?_ | refine blk_alloc ?_ _)); exact BK184.out) hb); have n5_ := Aside0.mk (below_step (by repeat (first | (with_reducible first | exact HB.out | apply below_alloc | apply pw_below_drewN | apply below_drew1 | refine below_set ?_ GE184.out) | exact HB.out)) hb); clear HO188; clear HO191; clear HO196; clear BK184; clear HB; have HO188 := n0_; have HO191 := n1_; have HO196 := n2_; have HO200 := n3_; have BK184 := n4_; have HB := n5_; clear n0_ n1_ n2_ n3_ n4_ n5_; (try clear hb); (try clear hb2); (try clear hk); (try clear hi); (try clear ho0); have hcz28_0 : w27.cell? ⟨gb184, 0, none⟩ = some (.slice A2_0 l2_0.length c2_0) := (blk_cell BK184.out 0).trans rfl; have hcz28_1 : w27.cell? ⟨gb184, 1, none⟩ = some (.int .i64 a2_1) := (blk_cell BK184.out 1).trans rfl; have hfz28_0 := blk_frozen BK184.out 0; have hfz28_1 := blk_frozen BK184.out 1) | ((with_reducible refine gate_callee (f := 29) rfl ?_); refine goesL_ (some 43) rfl rfl Try.func29 (by kernel_rfl) rfl #[.agg #[.slice A2_0 l2_0.length c2_0, .int .i64 a2_1]] rfl (by (try simp only [List.map_toArray, List.map_cons, List.map_nil]); first | done | rfl | (simp only [List.length_drop, List.length_take]; rfl)) ?_; (with_reducible refine (laws_toPattern.calls k _ _ l2_0 a2_1 t201 t204 _ ?side1 ?side2 A15.out).mono ?_); (case side1 => repeat (first | exact (Kd.C_below HR2_0.out HB.out) | (with_reducible refine Kd.C_alloc ?_ _) | (with_reducible refine Kd.C_drewN ?_ _) | (with_reducible refine Kd.C_drew ?_))); (case side2 => exact HC2_0.out); rintro e w29 ⟨v202, rfl, ho0, hb⟩; refine ⟨_, rfl, ?_⟩; have n0_ := Aside0.mk (Kd.R_elder' (by (with_reducible repeat (first | apply Kd.R_alloc | apply Kd.R_drewN | apply Kd.R_drew)); exact HO188.out) (Kd.R_base ho0) hb); have n1_ := Aside0.mk (Kd.R_elder' (by (with_reducible repeat (first | apply Kd.R_alloc | apply Kd.R_drewN | apply Kd.R_drew)); exact HO191.out) (Kd.R_base ho0) hb); have n2_ := Aside0.mk (Kd.R_elder' (by (with_reducible repeat (first | apply Kd.R_alloc | apply Kd.R_drewN | apply Kd.R_drew)); exact HO196.out) (Kd.R_base ho0) hb); have n3_ := Aside0.mk (Kd.R_elder' (by (with_reducible repeat (first | apply Kd.R_alloc | apply Kd.R_drewN | apply Kd.R_drew)); exact HO200.out) (Kd.R_base ho0) hb); have n4_ := Aside0.mk (Kd.R_lower (Kd.R_new' (Kd.R_new' (Kd.R_new' (Kd.R_new' ho0 (Kd.R_lt (by (with_reducible repeat (first | apply Kd.R_alloc | apply Kd.R_drewN | apply Kd.R_drew)); exact HO188.out))) (Kd.R_lt (by (with_reducible repeat (first | apply Kd.R_alloc | apply Kd.R_drewN | apply Kd.R_drew)); exact HO191.out))) (Kd.R_lt (by (with_reducible repeat (first | apply Kd.R_alloc | apply Kd.R_drewN | apply Kd.R_drew)); exact HO196.out))) (Kd.R_lt (by (with_reducible repeat (first | apply Kd.R_alloc | apply Kd.R_drewN | apply Kd.R_drew)); exact HO200.out))) (below_size (by repeat (first | (with_reducible first | exact HB.out | apply below_alloc | apply pw_below_drewN | apply below_drew1 | refine below_set ?_ GE184.out) | exact HB.out)))); have n5_ := Aside0.mk (blk_below (g := gb184) (o := .cells #[.slice A2_0 l2_0.length c2_0, .int .i64 a2_1] 42 (0, 0)) (by (with_reducible repeat (first | refine blk_drewN ?_ _ | refine blk_drew ?_ | refine blk_alloc ?_ _)); exact BK184.out) hb); have n6_ := Aside0.mk (below_step (by repeat (first | (with_reducible first | exact HB.out | apply below_alloc | apply pw_below_drewN | apply below_drew1 | refine below_set ?_ GE184.out) | exact HB.out)) hb); clear HO188; clear HO191; clear HO196; clear HO200; clear BK184; clear HB; have HO188 := n0_; have HO191 := n1_; have HO196 := n2_; have HO200 := n3_; have HO203 := n4_; have BK184 := n5_; have HB := n6_; clear n0_ n1_ n2_ n3_ n4_ n5_ n6_; (try clear hb); (try clear hb2); (try clear hk); (try clear hi); (try clear ho0)) | ((with_reducible refine gate_dst (N := 12) rfl ?_); refine box_event ?hg (N := 12) ?hd (cs := #[.slice none 0 0, .int .i64 0]) (t := 46) ?hr ?_; (case hd => rfl); (case hg => rfl); (case hr => first | (go_simp; done) | (go_simp; rfl)); intro gb205 hg w30 hbox hb; have n0_ := Aside0.mk (Kd.R_below (by (with_reducible repeat (first | apply Kd.R_alloc | apply Kd.R_drewN | apply Kd.R_drew)); exact HO188.out) hb); have n1_ := Aside0.mk (Kd.R_below (by (with_reducible repeat (first | apply Kd.R_alloc | apply Kd.R_drewN | apply Kd.R_drew)); exact HO191.out) hb); have n2_ := Aside0.mk (Kd.R_below (by (with_reducible repeat (first | apply Kd.R_alloc | apply Kd.R_drewN | apply Kd.R_drew)); exact HO196.out) hb); have n3_ := Aside0.mk (Kd.R_below (by (with_reducible repeat (first | apply Kd.R_alloc | apply Kd.R_drewN | apply Kd.R_drew)); exact HO200.out) hb); have n4_ := Aside0.mk (Kd.R_below (by (with_reducible repeat (first | apply Kd.R_alloc | apply Kd.R_drewN | apply Kd.R_drew)); exact HO203.out) hb); have n5_ := Aside0.mk (blk_below (g := gb184) (o := .cells #[.slice A2_0 l2_0.length c2_0, .int .i64 a2_1] 42 (0, 0)) (by (with_reducible repeat (first | refine blk_drewN ?_ _ | refine blk_drew ?_ | refine blk_alloc ?_ _)); exact BK184.out) hb); have n6_ := Aside0.mk (below_step (by repeat (first | (with_reducible first | exact HB.out | apply below_alloc | apply pw_below_drewN | apply below_drew1 | refine below_set ?_ GE184.out) | exact HB.out)) hb); have n7_ := Aside0.mk (hbox); have n8_ := Aside0.mk ((by rw [hg]; exact (below_size (by repeat (first | (with_reducible first | exact HB.out | apply below_alloc | apply pw_below_drewN | apply below_drew1 | refine below_set ?_ GE184.out) | exact HB.out))) : w.heap.size ≤ gb205)); have n9_ := Aside0.mk ((by rw [hg]; exact (below_size (by repeat (first | (with_reducible first | exact HB.out | apply below_alloc | apply pw_below_drewN | apply below_drew1 | refine below_set ?_ GE184.out) | exact HB.out))) : w.heap.size ≤ gb205)); have n10_ := Aside0.mk ((by rw [hg]; exact Nat.ne_of_lt (blk_lt (g := gb184) (o := .cells #[.slice A2_0 l2_0.length c2_0, .int .i64 a2_1] 42 (0, 0)) (by (with_reducible repeat (first | refine blk_drewN ?_ _ | refine blk_drew ?_ | refine blk_alloc ?_ _)); exact BK184.out)) : gb184 ≠ gb205)); have n11_ := Aside0.mk ((by rw [hg]; exact Nat.ne_of_gt (blk_lt (g := gb184) (o := .cells #[.slice A2_0 l2_0.length c2_0, .int .i64 a2_1] 42 (0, 0)) (by (with_reducible repeat (first | refine blk_drewN ?_ _ | refine blk_drew ?_ | refine blk_alloc ?_ _)); exact BK184.out)) : gb205 ≠ gb184)); clear HO188; clear HO191; clear HO196; clear HO200; clear HO203; clear BK184; clear HB; have HO188 := n0_; have HO191 := n1_; have HO196 := n2_; have HO200 := n3_; have HO203 := n4_; have BK184 := n5_; have HB := n6_; have BK205 := n7_; have GW205 := n8_; have GE205 := n9_; have NB184_205 := n10_; have NB205_184 := n11_; clear n0_ n1_ n2_ n3_ n4_ n5_ n6_ n7_ n8_ n9_ n10_ n11_; clear hb hbox hg; obtain ⟨Ao31, co31, eo31⟩ := Kd.R_slice HO203.out; subst eo31; have hnb32 := NB205_184.out; have hnc32 := NB184_205.out; have hcz33_0 : w30.cell? ⟨gb205, 0, none⟩ = some (.slice none 0 0) := (blk_cell BK205.out 0).trans rfl; have hcz33_1 : w30.cell? ⟨gb205, 1, none⟩ = some (.int .i64 0) := (blk_cell BK205.out 1).trans rfl; have hfz33_0 := blk_frozen BK205.out 0; have hfz33_1 := blk_frozen BK205.out 1; obtain ⟨Ao34, co34, eo34⟩ := Kd.R_slice HO200.out; subst eo34) | ((with_reducible refine gate_callee (f := 30) rfl ?_); refine goesL_ (some 48) rfl rfl Try.func30 (by kernel_rfl) rfl #[.slice Ao34 t198.length co34, .int .i64 a1, .agg #[.slice Ao31 t201.length co31, .int .i64 t204]] rfl (by (try simp only [List.map_toArray, List.map_cons, List.map_nil]); first | done | rfl | (simp only [List.length_drop, List.length_take]; rfl)) ?_; (with_reducible refine (impl_FitsAt.calls k _ _ t198 a1 _ _ t201 t204 t206 t207 t210 _ ?side1 ?side2 ?side3 ?side4 A16.out).mono ?_); (case side1 => refine (Kd.R_reads' (e := 3) (base := w.heap.size) (ok := fun k_ => ((((True ∧ some k_ ≠ (.slice Ao24 t186.length co24 : Value).ownBlock) ∧ some k_ ≠ (.slice Ao25 t189.length co25 : Value).ownBlock) ∧ some k_ ≠ (v195 : Value).ownBlock) ∧ some k_ ≠ (.slice Ao31 t201.length co31 : Value).ownBlock)) (n := t198.length) (c := co34) ?_).2.2; exact (by (with_reducible repeat (first | apply Kd.R_alloc | apply Kd.R_drewN | apply Kd.R_drew)); exact (Kd.R_mono (Kd.R_far (p := ⟨gb205, 1, none⟩) (Kd.R_far (p := ⟨gb205, 0, none⟩) (Kd.R_types HO200.out BK205.out (by decide)) (fun _ hk => hk.2) (.slice Ao31 t201.length co31)) (fun _ hk => hk.2) (.int .i64 t204)) (fun _ h_ => h_.1)))); (case side2 => exact (Kd.R_reads' HO200.out).2.1); (case side3 => refine (Kd.R_reads' (e := 3) (base := w.heap.size) (ok := fun k_ => ((((True ∧ some k_ ≠ (.slice Ao24 t186.length co24 : Value).ownBlock) ∧ some k_ ≠ (.slice Ao25 t189.length co25 : Value).ownBlock) ∧ some k_ ≠ (v195 : Value).ownBlock) ∧ some k_ ≠ (.slice Ao34 t198.length co34 : Value).ownBlock)) (n := t201.length) (c := co31) ?_).2.2; exact (by (with_reducible repeat (first | apply Kd.R_alloc | apply Kd.R_drewN | apply Kd.R_drew)); exact (Kd.R_mono (Kd.R_far (p := ⟨gb205, 1, none⟩) (Kd.R_far (p := ⟨gb205, 0, none⟩) (Kd.R_types HO203.out BK205.out (by decide)) (fun _ hk => hk.2) (.slice Ao31 t201.length co31)) (fun _ hk => hk.2) (.int .i64 t204)) (fun _ h_ => h_.1)))); (case side4 => exact (Kd.R_reads' HO203.out).2.1); rintro e w35 ⟨v208, rfl, ho0, hb⟩; refine ⟨_, rfl, ?_⟩; have n0_ := Aside0.mk (Kd.R_elder' (by (with_reducible repeat (first | apply Kd.R_alloc | apply Kd.R_drewN | apply Kd.R_drew)); exact (Kd.R_mono (Kd.R_far (p := ⟨gb205, 1, none⟩) (Kd.R_far (p := ⟨gb205, 0, none⟩) (Kd.R_types HO188.out BK205.out (by decide)) (fun _ hk => hk.2) (.slice Ao31 t201.length co31)) (fun _ hk => hk.2) (.int .i64 t204)) (fun _ h_ => h_.1))) (Kd.R_base ho0) hb); have n1_ := Aside0.mk (Kd.R_elder' (by (with_reducible repeat (first | apply Kd.R_alloc | apply Kd.R_drewN | apply Kd.R_drew)); exact (Kd.R_mono (Kd.R_far (p := ⟨gb205, 1, none⟩) (Kd.R_far (p := ⟨gb205, 0, none⟩) (Kd.R_types HO191.out BK205.out (by decide)) (fun _ hk => hk.2) (.slice Ao31 t201.length co31)) (fun _ hk => hk.2) (.int .i64 t204)) (fun _ h_ => h_.1))) (Kd.R_base ho0) hb); have n2_ := Aside0.mk (Kd.R_elder' (by (with_reducible repeat (first | apply Kd.R_alloc | apply Kd.R_drewN | apply Kd.R_drew)); exact (Kd.R_mono (Kd.R_far (p := ⟨gb205, 1, none⟩) (Kd.R_far (p := ⟨gb205, 0, none⟩) (Kd.R_types HO196.out BK205.out (by decide)) (fun _ hk => hk.2) (.slice Ao31 t201.length co31)) (fun _ hk => hk.2) (.int .i64 t204)) (fun _ h_ => h_.1))) (Kd.R_base ho0) hb); have n3_ := Aside0.mk (Kd.R_elder' (by (with_reducible repeat (first | apply Kd.R_alloc | apply Kd.R_drewN | apply Kd.R_drew)); exact (Kd.R_mono (Kd.R_far (p := ⟨gb205, 1, none⟩) (Kd.R_far (p := ⟨gb205, 0, none⟩) (Kd.R_types HO200.out BK205.out (by decide)) (fun _ hk => hk.2) (.slice Ao31 t201.length co31)) (fun _ hk => hk.2) (.int .i64 t204)) (fun _ h_ => h_.1))) (Kd.R_base ho0) hb); have n4_ := Aside0.mk (Kd.R_elder' (by (with_reducible repeat (first | apply Kd.R_alloc | apply Kd.R_drewN | apply Kd.R_drew)); exact (Kd.R_mono (Kd.R_far (p := ⟨gb205, 1, none⟩) (Kd.R_far (p := ⟨gb205, 0, none⟩) (Kd.R_types HO203.out BK205.out (by decide)) (fun _ hk => hk.2) (.slice Ao31 t201.length co31)) (fun _ hk => hk.2) (.int .i64 t204)) (fun _ h_ => h_.1))) (Kd.R_base ho0) hb); have n5_ := Aside0.mk (Kd.R_lower (Kd.R_new' (Kd.R_new' (Kd.R_new' (Kd.R_new' (Kd.R_new' ho0 (Kd.R_lt (by (with_reducible repeat (first | apply Kd.R_alloc | apply Kd.R_drewN | apply Kd.R_drew)); exact (Kd.R_mono (Kd.R_far (p := ⟨gb205, 1, none⟩) (Kd.R_far (p := ⟨gb205, 0, none⟩) (Kd.R_types HO188.out BK205.out (by decide)) (fun _ hk => hk.2) (.slice Ao31 t201.length co31)) (fun _ hk => hk.2) (.int .i64 t204)) (fun _ h_ => h_.1))))) (Kd.R_lt (by (with_reducible repeat (first | apply Kd.R_alloc | apply Kd.R_drewN | apply Kd.R_drew)); exact (Kd.R_mono (Kd.R_far (p := ⟨gb205, 1, none⟩) (Kd.R_far (p := ⟨gb205, 0, none⟩) (Kd.R_types HO191.out BK205.out (by decide)) (fun _ hk => hk.2) (.slice Ao31 t201.length co31)) (fun _ hk => hk.2) (.int .i64 t204)) (fun _ h_ => h_.1))))) (Kd.R_lt (by (with_reducible repeat (first | apply Kd.R_alloc | apply Kd.R_drewN | apply Kd.R_drew)); exact (Kd.R_mono (Kd.R_far (p := ⟨gb205, 1, none⟩) (Kd.R_far (p := ⟨gb205, 0, none⟩) (Kd.R_types HO196.out BK205.out (by decide)) (fun _ hk => hk.2) (.slice Ao31 t201.length co31)) (fun _ hk => hk.2) (.int .i64 t204)) (fun _ h_ => h_.1))))) (Kd.R_lt (by (with_reducible repeat (first | apply Kd.R_alloc | apply Kd.R_drewN | apply Kd.R_drew)); exact (Kd.R_mono (Kd.R_far (p := ⟨gb205, 1, none⟩) (Kd.R_far (p := ⟨gb205, 0, none⟩) (Kd.R_types HO200.out BK205.out (by decide)) (fun _ hk => hk.2) (.slice Ao31 t201.length co31)) (fun _ hk => hk.2) (.int .i64 t204)) (fun _ h_ => h_.1))))) (Kd.R_lt (by (with_reducible repeat (first | apply Kd.R_alloc | apply Kd.R_drewN | apply Kd.R_drew)); exact (Kd.R_mono (Kd.R_far (p := ⟨gb205, 1, none⟩) (Kd.R_far (p := ⟨gb205, 0, none⟩) (Kd.R_types HO203.out BK205.out (by decide)) (fun _ hk => hk.2) (.slice Ao31 t201.length co31)) (fun _ hk => hk.2) (.int .i64 t204)) (fun _ h_ => h_.1))))) (below_size (by repeat (first | (with_reducible first | exact HB.out | apply below_alloc | apply pw_below_drewN | apply below_drew1 | refine below_set ?_ GE184.out | refine below_set ?_ GE205.out) | exact HB.out)))); have n6_ := Aside0.mk (blk_below (g := gb184) (o := .cells #[.slice A2_0 l2_0.length c2_0, .int .i64 a2_1] 42 (0, 0)) (by (with_reducible repeat (first | refine blk_drewN ?_ _ | refine blk_drew ?_ | refine blk_alloc ?_ _)); refine blk_far ?_ NB184_205.out _; (with_reducible repeat (first | refine blk_drewN ?_ _ | refine blk_drew ?_ | refine blk_alloc ?_ _)); refine blk_far ?_ NB184_205.out _; (with_reducible repeat (first | refine blk_drewN ?_ _ | refine blk_drew ?_ | refine blk_alloc ?_ _)); exact BK184.out) hb); have n7_ := Aside0.mk (blk_below (g := gb205) (o := .cells #[.slice Ao31 t201.length co31, .int .i64 t204] 46 (0, 0)) (by (with_reducible repeat (first | refine blk_drewN ?_ _ | refine blk_drew ?_ | refine blk_alloc ?_ _)); refine blk_put (cs := #[.slice Ao31 t201.length co31, .int .i64 0]) ?_ 1 _ rfl; (with_reducible repeat (first | refine blk_drewN ?_ _ | refine blk_drew ?_ | refine blk_alloc ?_ _)); refine blk_put (cs := #[.slice none 0 0, .int .i64 0]) ?_ 0 _ rfl; (with_reducible repeat (first | refine blk_drewN ?_ _ | refine blk_drew ?_ | refine blk_alloc ?_ _)); exact BK205.out) hb); have n8_ := Aside0.mk (below_step (by repeat (first | (with_reducible first | exact HB.out | apply below_alloc | apply pw_below_drewN | apply below_drew1 | refine below_set ?_ GE184.out | refine below_set ?_ GE205.out) | exact HB.out)) hb); clear HO188; clear HO191; clear HO196; clear HO200; clear HO203; clear BK184; clear BK205; clear HB; have HO188 := n0_; have HO191 := n1_; have HO196 := n2_; have HO200 := n3_; have HO203 := n4_; have HO209 := n5_; have BK184 := n6_; have BK205 := n7_; have HB := n8_; clear n0_ n1_ n2_ n3_ n4_ n5_ n6_ n7_ n8_; (try clear hb); (try clear hb2); (try clear hk); (try clear hi); (try clear ho0)))
      (try simp only [Act.put, List.setIfInBounds_toArray, List.set_cons_zero, List.set_cons_succ])
      go_cut [65] (fun v65 wc => ∃ (kq : Nat) (x65_16 : Bool), v65 = .bool x65_16 ∧ Aside0 (laws_FnExactFitsAt.j0 kq l0 a1 t193 t194 t197 t198 t206 t207 t210 x65_16 l2_0 a2_1 t201 t204 = some r) ∧ Aside0 (kq ≤ k) ∧ Aside0 (Kd.R (Kd.int .i64) 3 wc w.heap.size (fun k_ => some k_ ≠ ((.slice Ao34 t198.length co34) : Value).ownBlock ∧ some k_ ≠ (v208 : Value).ownBlock ∧ some k_ ≠ ((.slice Ao31 t201.length co31) : Value).ownBlock) v195 t194) ∧ Aside0 (Kd.R (Kd.int .i64) 3 wc w.heap.size (fun k_ => some k_ ≠ (v195 : Value).ownBlock ∧ some k_ ≠ (v208 : Value).ownBlock ∧ some k_ ≠ ((.slice Ao31 t201.length co31) : Value).ownBlock) (.slice Ao34 t198.length co34) t198) ∧ Aside0 (Kd.R (Kd.int .i64) 3 wc w.heap.size (fun k_ => some k_ ≠ (v195 : Value).ownBlock ∧ some k_ ≠ ((.slice Ao34 t198.length co34) : Value).ownBlock ∧ some k_ ≠ ((.slice Ao31 t201.length co31) : Value).ownBlock) v208 t207) ∧ Aside0 (Kd.R (Kd.int .i64) 3 wc w.heap.size (fun k_ => some k_ ≠ (v195 : Value).ownBlock ∧ some k_ ≠ ((.slice Ao34 t198.length co34) : Value).ownBlock ∧ some k_ ≠ (v208 : Value).ownBlock) (.slice Ao31 t201.length co31) t201) ∧ Aside0 (wc.heap[gb184]? = some (.cells #[(.slice A2_0 l2_0.length c2_0), .int .i64 a2_1] 42 (0, 0))) ∧ Aside0 (wc.heap[gb205]? = some (.cells #[(.slice Ao31 t201.length co31), .int .i64 t204] 46 (0, 0))) ∧ Aside0 (Below w.heap.size w wc))
      case first =>
        have H := HC17.out
        clear HC17
        by_cases c36 : (t206 != t193) = true
        · rw [if_pos c36] at H
          have c36b0 : (t206 != t193) = true := c36
          (try (have c36b1 : decide (t206 = t193) = false := by simpa using c36))
          (try (have c36b2 : (t206 == t193) = false := by simpa using c36))
          (try (have c36b3 : ¬ (t206 = t193) := by simpa using c36))
          clear c36
          (first | rw [c36b0] | (simp only [i64_w, i32_w]; rw [c36b0]) | skip)
          have H' := Aside0.mk H
          clear H
          go_wp2
          go_meet
          case rel => exact ⟨_, (true), (by first | rfl | (simp; done) | (simp [*]; done)), H', ⟨by first | omega | exact Nat.le_refl _⟩, ⟨by (with_reducible repeat (first | apply Kd.R_alloc | apply Kd.R_drewN | apply Kd.R_drew)); exact Kd.R_mono HO196.out (fun _ hk => by first | exact ⟨hk.1.1.2, ⟨hk.2, hk.1.2⟩⟩ | ((try simp only [ne_eq, true_and] at hk); simp only [ne_eq, hk, not_false_eq_true, and_self, true_and, and_true]))⟩, ⟨by (with_reducible repeat (first | apply Kd.R_alloc | apply Kd.R_drewN | apply Kd.R_drew)); exact Kd.R_mono HO200.out (fun _ hk => by first | exact ⟨hk.1.1.2, ⟨hk.2, hk.1.2⟩⟩ | ((try simp only [ne_eq, true_and] at hk); simp only [ne_eq, hk, not_false_eq_true, and_self, true_and, and_true]))⟩, ⟨by (with_reducible repeat (first | apply Kd.R_alloc | apply Kd.R_drewN | apply Kd.R_drew)); exact Kd.R_mono HO209.out (fun _ hk => by first | exact ⟨hk.1.1.2, ⟨hk.1.2, hk.2⟩⟩ | ((try simp only [ne_eq, true_and] at hk); simp only [ne_eq, hk, not_false_eq_true, and_self, true_and, and_true]))⟩, ⟨by (with_reducible repeat (first | apply Kd.R_alloc | apply Kd.R_drewN | apply Kd.R_drew)); exact Kd.R_mono HO203.out (fun _ hk => by first | exact ⟨hk.1.1.2, ⟨hk.1.2, hk.2⟩⟩ | ((try simp only [ne_eq, true_and] at hk); simp only [ne_eq, hk, not_false_eq_true, and_self, true_and, and_true]))⟩, ⟨by (with_reducible repeat (first | refine blk_drewN ?_ _ | refine blk_drew ?_ | refine blk_alloc ?_ _)); exact BK184.out⟩, ⟨by (with_reducible repeat (first | refine blk_drewN ?_ _ | refine blk_drew ?_ | refine blk_alloc ?_ _)); exact BK205.out⟩, ⟨by repeat (first | (with_reducible first | exact HB.out | apply below_alloc | apply pw_below_drewN | apply below_drew1 | refine below_set ?_ GE184.out | refine below_set ?_ GE205.out) | exact HB.out)⟩⟩
        · rw [if_neg c36] at H
          have c36b0 : (t206 != t193) = false := by simpa using c36
          (try (have c36b1 : decide (t206 = t193) = true := by simpa using c36))
          (try (have c36b2 : (t206 == t193) = true := by simpa using c36))
          clear c36
          (first | rw [c36b0] | (simp only [i64_w, i32_w]; rw [c36b0]) | skip)
          replace H := Option.bind_eq_some_iff.mp H
          obtain ⟨t211, A370, H⟩ := H
          replace H : (if t211 = true then (laws_FnExactFitsAt.j0 k l0 a1 t193 t194 t197 t198 t206 t207 t210 (t210 != t197) l2_0 a2_1 t201 t204) else (laws_FnExactFitsAt.j0 k l0 a1 t193 t194 t197 t198 t206 t207 t210 true l2_0 a2_1 t201 t204)) = some r := H
          have A37 := Aside0.mk A370
          clear A370
          by_cases c38 : t211 = true
          · subst c38
            have H1 : (laws_FnExactFitsAt.j0 k l0 a1 t193 t194 t197 t198 t206 t207 t210 (t210 != t197) l2_0 a2_1 t201 t204) = some r := by rw [if_pos rfl] at H; exact H
            clear H
            have H := H1
            clear H1
            have H' := Aside0.mk H
            clear H
            obtain ⟨Ao39, co39, eo39⟩ := Kd.R_slice HO209.out
            subst eo39
            obtain ⟨Ao40, co40, eo40⟩ := Kd.R_slice HO196.out
            subst eo40
            go_wp2_with (first | (go_at_call 14; (with_reducible refine (laws_eqIntS.calls k _ _ t207 _ _ t194 true _ ?side1 ?side2 ?side3 ?side4 A37.out).mono ?_); (case side1 => repeat (first | exact (Kd.R_reads' HO209.out).2.2 | (with_reducible refine Kd.C_alloc ?_ _) | (with_reducible refine Kd.C_drewN ?_ _) | (with_reducible refine Kd.C_drew ?_))); (case side2 => exact (Kd.R_reads' HO209.out).2.1); (case side3 => repeat (first | exact (Kd.R_reads' HO196.out).2.2 | (with_reducible refine Kd.C_alloc ?_ _) | (with_reducible refine Kd.C_drewN ?_ _) | (with_reducible refine Kd.C_drew ?_))); (case side4 => exact (Kd.R_reads' HO196.out).2.1); rintro e w' ⟨rfl, ⟨nd, rfl⟩⟩))
            go_meet
            case rel => exact ⟨_, ((t210 != t197)), (by first | rfl | (simp; done) | (simp [*]; done)), H', ⟨by first | omega | exact Nat.le_refl _⟩, ⟨by (with_reducible repeat (first | apply Kd.R_alloc | apply Kd.R_drewN | apply Kd.R_drew)); exact Kd.R_mono HO196.out (fun _ hk => by first | exact ⟨hk.1.1.2, ⟨hk.2, hk.1.2⟩⟩ | ((try simp only [ne_eq, true_and] at hk); simp only [ne_eq, hk, not_false_eq_true, and_self, true_and, and_true]))⟩, ⟨by (with_reducible repeat (first | apply Kd.R_alloc | apply Kd.R_drewN | apply Kd.R_drew)); exact Kd.R_mono HO200.out (fun _ hk => by first | exact ⟨hk.1.1.2, ⟨hk.2, hk.1.2⟩⟩ | ((try simp only [ne_eq, true_and] at hk); simp only [ne_eq, hk, not_false_eq_true, and_self, true_and, and_true]))⟩, ⟨by (with_reducible repeat (first | apply Kd.R_alloc | apply Kd.R_drewN | apply Kd.R_drew)); exact Kd.R_mono HO209.out (fun _ hk => by first | exact ⟨hk.1.1.2, ⟨hk.1.2, hk.2⟩⟩ | ((try simp only [ne_eq, true_and] at hk); simp only [ne_eq, hk, not_false_eq_true, and_self, true_and, and_true]))⟩, ⟨by (with_reducible repeat (first | apply Kd.R_alloc | apply Kd.R_drewN | apply Kd.R_drew)); exact Kd.R_mono HO203.out (fun _ hk => by first | exact ⟨hk.1.1.2, ⟨hk.1.2, hk.2⟩⟩ | ((try simp only [ne_eq, true_and] at hk); simp only [ne_eq, hk, not_false_eq_true, and_self, true_and, and_true]))⟩, ⟨by (with_reducible repeat (first | refine blk_drewN ?_ _ | refine blk_drew ?_ | refine blk_alloc ?_ _)); exact BK184.out⟩, ⟨by (with_reducible repeat (first | refine blk_drewN ?_ _ | refine blk_drew ?_ | refine blk_alloc ?_ _)); exact BK205.out⟩, ⟨by repeat (first | (with_reducible first | exact HB.out | apply below_alloc | apply pw_below_drewN | apply below_drew1 | refine below_set ?_ GE184.out | refine below_set ?_ GE205.out) | exact HB.out)⟩⟩
          · replace c38 := Bool.eq_false_iff.mpr c38
            subst c38
            have H1 : (laws_FnExactFitsAt.j0 k l0 a1 t193 t194 t197 t198 t206 t207 t210 true l2_0 a2_1 t201 t204) = some r := by rw [if_neg (show ¬ (false = true) by decide)] at H; exact H
            clear H
            have H := H1
            clear H1
            have H' := Aside0.mk H
            clear H
            obtain ⟨Ao41, co41, eo41⟩ := Kd.R_slice HO209.out
            subst eo41
            obtain ⟨Ao42, co42, eo42⟩ := Kd.R_slice HO196.out
            subst eo42
            go_wp2_with (first | (go_at_call 14; (with_reducible refine (laws_eqIntS.calls k _ _ t207 _ _ t194 false _ ?side1 ?side2 ?side3 ?side4 A37.out).mono ?_); (case side1 => repeat (first | exact (Kd.R_reads' HO209.out).2.2 | (with_reducible refine Kd.C_alloc ?_ _) | (with_reducible refine Kd.C_drewN ?_ _) | (with_reducible refine Kd.C_drew ?_))); (case side2 => exact (Kd.R_reads' HO209.out).2.1); (case side3 => repeat (first | exact (Kd.R_reads' HO196.out).2.2 | (with_reducible refine Kd.C_alloc ?_ _) | (with_reducible refine Kd.C_drewN ?_ _) | (with_reducible refine Kd.C_drew ?_))); (case side4 => exact (Kd.R_reads' HO196.out).2.1); rintro e w' ⟨rfl, ⟨nd, rfl⟩⟩))
            go_meet
            case rel => exact ⟨_, (true), (by first | rfl | (simp; done) | (simp [*]; done)), H', ⟨by first | omega | exact Nat.le_refl _⟩, ⟨by (with_reducible repeat (first | apply Kd.R_alloc | apply Kd.R_drewN | apply Kd.R_drew)); exact Kd.R_mono HO196.out (fun _ hk => by first | exact ⟨hk.1.1.2, ⟨hk.2, hk.1.2⟩⟩ | ((try simp only [ne_eq, true_and] at hk); simp only [ne_eq, hk, not_false_eq_true, and_self, true_and, and_true]))⟩, ⟨by (with_reducible repeat (first | apply Kd.R_alloc | apply Kd.R_drewN | apply Kd.R_drew)); exact Kd.R_mono HO200.out (fun _ hk => by first | exact ⟨hk.1.1.2, ⟨hk.2, hk.1.2⟩⟩ | ((try simp only [ne_eq, true_and] at hk); simp only [ne_eq, hk, not_false_eq_true, and_self, true_and, and_true]))⟩, ⟨by (with_reducible repeat (first | apply Kd.R_alloc | apply Kd.R_drewN | apply Kd.R_drew)); exact Kd.R_mono HO209.out (fun _ hk => by first | exact ⟨hk.1.1.2, ⟨hk.1.2, hk.2⟩⟩ | ((try simp only [ne_eq, true_and] at hk); simp only [ne_eq, hk, not_false_eq_true, and_self, true_and, and_true]))⟩, ⟨by (with_reducible repeat (first | apply Kd.R_alloc | apply Kd.R_drewN | apply Kd.R_drew)); exact Kd.R_mono HO203.out (fun _ hk => by first | exact ⟨hk.1.1.2, ⟨hk.1.2, hk.2⟩⟩ | ((try simp only [ne_eq, true_and] at hk); simp only [ne_eq, hk, not_false_eq_true, and_self, true_and, and_true]))⟩, ⟨by (with_reducible repeat (first | refine blk_drewN ?_ _ | refine blk_drew ?_ | refine blk_alloc ?_ _)); exact BK184.out⟩, ⟨by (with_reducible repeat (first | refine blk_drewN ?_ _ | refine blk_drew ?_ | refine blk_alloc ?_ _)); exact BK205.out⟩, ⟨by repeat (first | (with_reducible first | exact HB.out | apply below_alloc | apply pw_below_drewN | apply below_drew1 | refine below_set ?_ GE184.out | refine below_set ?_ GE205.out) | exact HB.out)⟩⟩
      case rest =>
        clear HC17
        try clear c1
        try clear c2
        try clear p2
        try clear c3
        try clear c4
        try clear c4b0
        try clear c4b1
        try clear c7
        try clear c7b0
        try clear c12
        try clear c27
        try clear c28
        try clear c29
        try clear c30
        try clear c32
        try clear c36
        try clear c36b0
        try clear c36b1
        try clear c36b2
        try clear c38
        try clear hcz19_0
        try clear hcz19_1
        try clear hcz28_0
        try clear hcz28_1
        try clear hcz33_0
        try clear hcz33_1
        try clear hcz9_0
        try clear hcz9_1
        try clear hfz19_0
        try clear hfz19_1
        try clear hfz28_0
        try clear hfz28_1
        try clear hfz33_0
        try clear hfz33_1
        try clear hfz9_0
        try clear hfz9_1
        obtain ⟨kq, x65_16, rfl, HA, HJ16, HO_9, HO_11, HO_14, HO_206000, BK184, BK205, HB⟩ := hcut
        cases kq with
        | zero => exact absurd HA.out (by simp [laws_FnExactFitsAt.j0])
        | succ kj16 =>
          have H := HA.out
          clear HA
          simp only [laws_FnExactFitsAt.j0] at H
          by_cases c43 : x65_16 = true
          · subst c43
            have H1 : (some false) = some r := by rw [if_pos rfl] at H; exact H
            clear H
            have H := H1
            clear H1
            obtain rfl := Option.some.inj H
            go_wp2
            go_ret
            exact ⟨by first | rfl | (simp [errW_none, errW_some] <;> rfl) | (simp [*, errW_none, errW_some] <;> rfl), by repeat (first | (with_reducible first | exact HB.out | apply below_alloc | apply pw_below_drewN | apply below_drew1 | refine below_set ?_ GE184.out | refine below_set ?_ GE205.out) | exact HB.out)⟩
          · replace c43 := Bool.eq_false_iff.mpr c43
            subst c43
            have H1 : ((laws_toIntS.f kj16 l0).bind fun t212 => ((laws_eqIntS.f kj16 t198 t212).bind fun t215 => (if t215 = true then ((laws_toPattern.f kj16 l2_0 a2_1).bind fun bt216 => ((laws_eqPattern.f kj16 t201 t204 bt216.1 bt216.2).bind fun t220 => (if t220 = true then ((laws_markIntS.f kj16 t198 1).bind fun bt221 => ((laws_markPattern.f kj16 t201 t204 bt221.1).bind fun bt223 => (if bt223.1 < 0 then (laws_FnExactFitsAt.j1 kj16 l0 a1 t193 t194 t197 t207 true l2_0 a2_1) else (if (t206 != t193) = true then (laws_FnExactFitsAt.j1 kj16 l0 a1 t193 t194 t197 t207 true l2_0 a2_1) else ((laws_eqIntS.f kj16 t207 t194).bind fun t225 => (if t225 = true then (laws_FnExactFitsAt.j1 kj16 l0 a1 t193 t194 t197 t207 (t210 != t197) l2_0 a2_1) else (laws_FnExactFitsAt.j1 kj16 l0 a1 t193 t194 t197 t207 true l2_0 a2_1))))))) else (some false)))) else (some false)))) = some r := by rw [if_neg (show ¬ (false = true) by decide)] at H; exact H
            clear H
            have H := H1
            clear H1
            replace H := Option.bind_eq_some_iff.mp H
            obtain ⟨t212, A440, H⟩ := H
            replace H : ((laws_eqIntS.f kj16 t198 t212).bind fun t215 => (if t215 = true then ((laws_toPattern.f kj16 l2_0 a2_1).bind fun bt216 => ((laws_eqPattern.f kj16 t201 t204 bt216.1 bt216.2).bind fun t220 => (if t220 = true then ((laws_markIntS.f kj16 t198 1).bind fun bt221 => ((laws_markPattern.f kj16 t201 t204 bt221.1).bind fun bt223 => (if bt223.1 < 0 then (laws_FnExactFitsAt.j1 kj16 l0 a1 t193 t194 t197 t207 true l2_0 a2_1) else (if (t206 != t193) = true then (laws_FnExactFitsAt.j1 kj16 l0 a1 t193 t194 t197 t207 true l2_0 a2_1) else ((laws_eqIntS.f kj16 t207 t194).bind fun t225 => (if t225 = true then (laws_FnExactFitsAt.j1 kj16 l0 a1 t193 t194 t197 t207 (t210 != t197) l2_0 a2_1) else (laws_FnExactFitsAt.j1 kj16 l0 a1 t193 t194 t197 t207 true l2_0 a2_1))))))) else (some false)))) else (some false))) = some r := H
            have A44 := Aside0.mk A440
            clear A440
            replace H := Option.bind_eq_some_iff.mp H
            obtain ⟨t215, A450, H⟩ := H
            replace H : (if t215 = true then ((laws_toPattern.f kj16 l2_0 a2_1).bind fun bt216 => ((laws_eqPattern.f kj16 t201 t204 bt216.1 bt216.2).bind fun t220 => (if t220 = true then ((laws_markIntS.f kj16 t198 1).bind fun bt221 => ((laws_markPattern.f kj16 t201 t204 bt221.1).bind fun bt223 => (if bt223.1 < 0 then (laws_FnExactFitsAt.j1 kj16 l0 a1 t193 t194 t197 t207 true l2_0 a2_1) else (if (t206 != t193) = true then (laws_FnExactFitsAt.j1 kj16 l0 a1 t193 t194 t197 t207 true l2_0 a2_1) else ((laws_eqIntS.f kj16 t207 t194).bind fun t225 => (if t225 = true then (laws_FnExactFitsAt.j1 kj16 l0 a1 t193 t194 t197 t207 (t210 != t197) l2_0 a2_1) else (laws_FnExactFitsAt.j1 kj16 l0 a1 t193 t194 t197 t207 true l2_0 a2_1))))))) else (some false)))) else (some false)) = some r := H
            have A45 := Aside0.mk A450
            clear A450
            by_cases c46 : t215 = true
            · subst c46
              have H1 : ((laws_toPattern.f kj16 l2_0 a2_1).bind fun bt216 => ((laws_eqPattern.f kj16 t201 t204 bt216.1 bt216.2).bind fun t220 => (if t220 = true then ((laws_markIntS.f kj16 t198 1).bind fun bt221 => ((laws_markPattern.f kj16 t201 t204 bt221.1).bind fun bt223 => (if bt223.1 < 0 then (laws_FnExactFitsAt.j1 kj16 l0 a1 t193 t194 t197 t207 true l2_0 a2_1) else (if (t206 != t193) = true then (laws_FnExactFitsAt.j1 kj16 l0 a1 t193 t194 t197 t207 true l2_0 a2_1) else ((laws_eqIntS.f kj16 t207 t194).bind fun t225 => (if t225 = true then (laws_FnExactFitsAt.j1 kj16 l0 a1 t193 t194 t197 t207 (t210 != t197) l2_0 a2_1) else (laws_FnExactFitsAt.j1 kj16 l0 a1 t193 t194 t197 t207 true l2_0 a2_1))))))) else (some false)))) = some r := by rw [if_pos rfl] at H; exact H
              clear H
              have H := H1
              clear H1
              replace H := Option.bind_eq_some_iff.mp H
              obtain ⟨⟨t216, t219⟩, A470, H⟩ := H
              replace H : ((laws_eqPattern.f kj16 t201 t204 t216 t219).bind fun t220 => (if t220 = true then ((laws_markIntS.f kj16 t198 1).bind fun bt221 => ((laws_markPattern.f kj16 t201 t204 bt221.1).bind fun bt223 => (if bt223.1 < 0 then (laws_FnExactFitsAt.j1 kj16 l0 a1 t193 t194 t197 t207 true l2_0 a2_1) else (if (t206 != t193) = true then (laws_FnExactFitsAt.j1 kj16 l0 a1 t193 t194 t197 t207 true l2_0 a2_1) else ((laws_eqIntS.f kj16 t207 t194).bind fun t225 => (if t225 = true then (laws_FnExactFitsAt.j1 kj16 l0 a1 t193 t194 t197 t207 (t210 != t197) l2_0 a2_1) else (laws_FnExactFitsAt.j1 kj16 l0 a1 t193 t194 t197 t207 true l2_0 a2_1))))))) else (some false))) = some r := H
              have A47 := Aside0.mk A470
              clear A470
              replace H := Option.bind_eq_some_iff.mp H
              obtain ⟨t220, A480, H⟩ := H
              replace H : (if t220 = true then ((laws_markIntS.f kj16 t198 1).bind fun bt221 => ((laws_markPattern.f kj16 t201 t204 bt221.1).bind fun bt223 => (if bt223.1 < 0 then (laws_FnExactFitsAt.j1 kj16 l0 a1 t193 t194 t197 t207 true l2_0 a2_1) else (if (t206 != t193) = true then (laws_FnExactFitsAt.j1 kj16 l0 a1 t193 t194 t197 t207 true l2_0 a2_1) else ((laws_eqIntS.f kj16 t207 t194).bind fun t225 => (if t225 = true then (laws_FnExactFitsAt.j1 kj16 l0 a1 t193 t194 t197 t207 (t210 != t197) l2_0 a2_1) else (laws_FnExactFitsAt.j1 kj16 l0 a1 t193 t194 t197 t207 true l2_0 a2_1))))))) else (some false)) = some r := H
              have A48 := Aside0.mk A480
              clear A480
              by_cases c49 : t220 = true
              · subst c49
                have H1 : ((laws_markIntS.f kj16 t198 1).bind fun bt221 => ((laws_markPattern.f kj16 t201 t204 bt221.1).bind fun bt223 => (if bt223.1 < 0 then (laws_FnExactFitsAt.j1 kj16 l0 a1 t193 t194 t197 t207 true l2_0 a2_1) else (if (t206 != t193) = true then (laws_FnExactFitsAt.j1 kj16 l0 a1 t193 t194 t197 t207 true l2_0 a2_1) else ((laws_eqIntS.f kj16 t207 t194).bind fun t225 => (if t225 = true then (laws_FnExactFitsAt.j1 kj16 l0 a1 t193 t194 t197 t207 (t210 != t197) l2_0 a2_1) else (laws_FnExactFitsAt.j1 kj16 l0 a1 t193 t194 t197 t207 true l2_0 a2_1))))))) = some r := by rw [if_pos rfl] at H; exact H
                clear H
                have H := H1
                clear H1
                replace H := Option.bind_eq_some_iff.mp H
                obtain ⟨⟨t221, t222⟩, A500, H⟩ := H
                replace H : ((laws_markPattern.f kj16 t201 t204 t221).bind fun bt223 => (if bt223.1 < 0 then (laws_FnExactFitsAt.j1 kj16 l0 a1 t193 t194 t197 t207 true l2_0 a2_1) else (if (t206 != t193) = true then (laws_FnExactFitsAt.j1 kj16 l0 a1 t193 t194 t197 t207 true l2_0 a2_1) else ((laws_eqIntS.f kj16 t207 t194).bind fun t225 => (if t225 = true then (laws_FnExactFitsAt.j1 kj16 l0 a1 t193 t194 t197 t207 (t210 != t197) l2_0 a2_1) else (laws_FnExactFitsAt.j1 kj16 l0 a1 t193 t194 t197 t207 true l2_0 a2_1)))))) = some r := H
                have A50 := Aside0.mk A500
                clear A500
                replace H := Option.bind_eq_some_iff.mp H
                obtain ⟨⟨t223, t224⟩, A510, H⟩ := H
                replace H : (if t223 < 0 then (laws_FnExactFitsAt.j1 kj16 l0 a1 t193 t194 t197 t207 true l2_0 a2_1) else (if (t206 != t193) = true then (laws_FnExactFitsAt.j1 kj16 l0 a1 t193 t194 t197 t207 true l2_0 a2_1) else ((laws_eqIntS.f kj16 t207 t194).bind fun t225 => (if t225 = true then (laws_FnExactFitsAt.j1 kj16 l0 a1 t193 t194 t197 t207 (t210 != t197) l2_0 a2_1) else (laws_FnExactFitsAt.j1 kj16 l0 a1 t193 t194 t197 t207 true l2_0 a2_1))))) = some r := H
                have A51 := Aside0.mk A510
                clear A510
                have HC52 := Aside0.mk H
                clear H
                try go_wp2_with (first | ((with_reducible refine gate_callee (f := 12) rfl ?_); refine goesL_ (some 68) rfl rfl Try.func12 (by kernel_rfl) rfl #[.slice A0 l0.length c0] rfl (by (try simp only [List.map_toArray, List.map_cons, List.map_nil]); first | done | rfl | (simp only [List.length_drop, List.length_take]; rfl)) ?_; (with_reducible refine (laws_toIntS.calls kj16 _ _ l0 t212 _ ?side1 ?side2 A44.out).mono ?_); (case side1 => repeat (first | exact (Kd.C_below HR0.out HB.out) | (with_reducible refine Kd.C_alloc ?_ _) | (with_reducible refine Kd.C_drewN ?_ _) | (with_reducible refine Kd.C_drew ?_))); (case side2 => exact HC0.out); rintro e w53 ⟨v213, rfl, ho0, hb⟩; refine ⟨_, rfl, ?_⟩; have n0_ := Aside0.mk (Kd.R_elder' (by (with_reducible repeat (first | apply Kd.R_alloc | apply Kd.R_drewN | apply Kd.R_drew)); exact HO_9.out) (Kd.R_base ho0) hb); have n1_ := Aside0.mk (Kd.R_elder' (by (with_reducible repeat (first | apply Kd.R_alloc | apply Kd.R_drewN | apply Kd.R_drew)); exact HO_11.out) (Kd.R_base ho0) hb); have n2_ := Aside0.mk (Kd.R_elder' (by (with_reducible repeat (first | apply Kd.R_alloc | apply Kd.R_drewN | apply Kd.R_drew)); exact HO_14.out) (Kd.R_base ho0) hb); have n3_ := Aside0.mk (Kd.R_elder' (by (with_reducible repeat (first | apply Kd.R_alloc | apply Kd.R_drewN | apply Kd.R_drew)); exact HO_206000.out) (Kd.R_base ho0) hb); have n4_ := Aside0.mk (Kd.R_lower (Kd.R_new' (Kd.R_new' (Kd.R_new' (Kd.R_new' ho0 (Kd.R_lt (by (with_reducible repeat (first | apply Kd.R_alloc | apply Kd.R_drewN | apply Kd.R_drew)); exact HO_9.out))) (Kd.R_lt (by (with_reducible repeat (first | apply Kd.R_alloc | apply Kd.R_drewN | apply Kd.R_drew)); exact HO_11.out))) (Kd.R_lt (by (with_reducible repeat (first | apply Kd.R_alloc | apply Kd.R_drewN | apply Kd.R_drew)); exact HO_14.out))) (Kd.R_lt (by (with_reducible repeat (first | apply Kd.R_alloc | apply Kd.R_drewN | apply Kd.R_drew)); exact HO_206000.out))) (below_size (by repeat (first | (with_reducible first | exact HB.out | apply below_alloc | apply pw_below_drewN | apply below_drew1 | refine below_set ?_ GE184.out | refine below_set ?_ GE205.out) | exact HB.out)))); have n5_ := Aside0.mk (blk_below (g := gb184) (o := .cells #[.slice A2_0 l2_0.length c2_0, .int .i64 a2_1] 42 (0, 0)) (by (with_reducible repeat (first | refine blk_drewN ?_ _ | refine blk_drew ?_ | refine blk_alloc ?_ _)); exact BK184.out) hb); have n6_ := Aside0.mk (blk_below (g := gb205) (o := .cells #[.slice Ao31 t201.length co31, .int .i64 t204] 46 (0, 0)) (by (with_reducible repeat (first | refine blk_drewN ?_ _ | refine blk_drew ?_ | refine blk_alloc ?_ _)); exact BK205.out) hb); have n7_ := Aside0.mk (below_step (by repeat (first | (with_reducible first | exact HB.out | apply below_alloc | apply pw_below_drewN | apply below_drew1 | refine below_set ?_ GE184.out | refine below_set ?_ GE205.out) | exact HB.out)) hb); clear HO_9; clear HO_11; clear HO_14; clear HO_206000; clear BK184; clear BK205; clear HB; have HO_9 := n0_; have HO_11 := n1_; have HO_14 := n2_; have HO_206000 := n3_; have HO214 := n4_; have BK184 := n5_; have BK205 := n6_; have HB := n7_; clear n0_ n1_ n2_ n3_ n4_ n5_ n6_ n7_; (try clear hb); (try clear hb2); (try clear hk); (try clear hi); (try clear ho0); obtain ⟨Ao54, co54, eo54⟩ := Kd.R_slice HO214.out; subst eo54) | ((with_reducible refine gate_callee (f := 14) rfl ?_); refine goesL_ (some 69) rfl rfl Try.func14 (by kernel_rfl) rfl #[.slice Ao34 t198.length co34, .slice Ao54 t212.length co54] rfl (by (try simp only [List.map_toArray, List.map_cons, List.map_nil]); first | done | rfl | (simp only [List.length_drop, List.length_take]; rfl)) ?_; (with_reducible refine (laws_eqIntS.calls kj16 _ _ t198 _ _ t212 true _ ?side1 ?side2 ?side3 ?side4 A45.out).mono ?_); (case side1 => repeat (first | exact (Kd.R_reads' HO_11.out).2.2 | (with_reducible refine Kd.C_alloc ?_ _) | (with_reducible refine Kd.C_drewN ?_ _) | (with_reducible refine Kd.C_drew ?_))); (case side2 => exact (Kd.R_reads' HO_11.out).2.1); (case side3 => repeat (first | exact (Kd.R_reads' HO214.out).2.2 | (with_reducible refine Kd.C_alloc ?_ _) | (with_reducible refine Kd.C_drewN ?_ _) | (with_reducible refine Kd.C_drew ?_))); (case side4 => exact (Kd.R_reads' HO214.out).2.1); rintro e w' ⟨rfl, ⟨nd, rfl⟩⟩; refine ⟨_, rfl, ?_⟩))
                (try (rw [drewN_self w53]; generalize hq_ : World.drewN w53 _ = w53; have n0_ : Aside0 (Kd.R (Kd.int .i64) 3 w53 w.heap.size (fun k_ => some k_ ≠ (.slice Ao34 t198.length co34 : Value).ownBlock ∧ some k_ ≠ (v208 : Value).ownBlock ∧ some k_ ≠ (.slice Ao31 t201.length co31 : Value).ownBlock ∧ some k_ ≠ (v195 : Value).ownBlock) (.slice Ao54 t212.length co54) t212) := ⟨by rw [← hq_]; exact (by (with_reducible repeat (first | apply Kd.R_alloc | apply Kd.R_drewN | apply Kd.R_drew)); exact Kd.R_mono HO214.out (fun _ hk => by first | exact ⟨hk.1.1.2, ⟨hk.1.2, ⟨hk.2, hk.1.1.1.2⟩⟩⟩ | ((try simp only [ne_eq, true_and] at hk); simp only [ne_eq, hk, not_false_eq_true, and_self, true_and, and_true])))⟩; have n1_ : Aside0 (Kd.R (Kd.int .i64) 3 w53 w.heap.size (fun k_ => some k_ ≠ (.slice Ao54 t212.length co54 : Value).ownBlock ∧ some k_ ≠ (v208 : Value).ownBlock ∧ some k_ ≠ (.slice Ao31 t201.length co31 : Value).ownBlock ∧ some k_ ≠ (v195 : Value).ownBlock) (.slice Ao34 t198.length co34) t198) := ⟨by rw [← hq_]; exact (by (with_reducible repeat (first | apply Kd.R_alloc | apply Kd.R_drewN | apply Kd.R_drew)); exact Kd.R_mono HO_11.out (fun _ hk => by first | exact ⟨hk.2, ⟨hk.1.2.1, ⟨hk.1.2.2, hk.1.1⟩⟩⟩ | ((try simp only [ne_eq, true_and] at hk); simp only [ne_eq, hk, not_false_eq_true, and_self, true_and, and_true])))⟩; have n2_ : Aside0 (Kd.R (Kd.int .i64) 3 w53 w.heap.size (fun k_ => some k_ ≠ (.slice Ao54 t212.length co54 : Value).ownBlock ∧ some k_ ≠ (.slice Ao34 t198.length co34 : Value).ownBlock ∧ some k_ ≠ (.slice Ao31 t201.length co31 : Value).ownBlock ∧ some k_ ≠ (v195 : Value).ownBlock) v208 t207) := ⟨by rw [← hq_]; exact (by (with_reducible repeat (first | apply Kd.R_alloc | apply Kd.R_drewN | apply Kd.R_drew)); exact Kd.R_mono HO_14.out (fun _ hk => by first | exact ⟨hk.2, ⟨hk.1.2.1, ⟨hk.1.2.2, hk.1.1⟩⟩⟩ | ((try simp only [ne_eq, true_and] at hk); simp only [ne_eq, hk, not_false_eq_true, and_self, true_and, and_true])))⟩; have n3_ : Aside0 (Kd.R (Kd.int .i64) 3 w53 w.heap.size (fun k_ => some k_ ≠ (.slice Ao54 t212.length co54 : Value).ownBlock ∧ some k_ ≠ (.slice Ao34 t198.length co34 : Value).ownBlock ∧ some k_ ≠ (v208 : Value).ownBlock ∧ some k_ ≠ (v195 : Value).ownBlock) (.slice Ao31 t201.length co31) t201) := ⟨by rw [← hq_]; exact (by (with_reducible repeat (first | apply Kd.R_alloc | apply Kd.R_drewN | apply Kd.R_drew)); exact Kd.R_mono HO_206000.out (fun _ hk => by first | exact ⟨hk.2, ⟨hk.1.2.1, ⟨hk.1.2.2, hk.1.1⟩⟩⟩ | ((try simp only [ne_eq, true_and] at hk); simp only [ne_eq, hk, not_false_eq_true, and_self, true_and, and_true])))⟩; have n4_ : Aside0 (Kd.R (Kd.int .i64) 3 w53 w.heap.size (fun k_ => some k_ ≠ (.slice Ao54 t212.length co54 : Value).ownBlock ∧ some k_ ≠ (.slice Ao34 t198.length co34 : Value).ownBlock ∧ some k_ ≠ (v208 : Value).ownBlock ∧ some k_ ≠ (.slice Ao31 t201.length co31 : Value).ownBlock) v195 t194) := ⟨by rw [← hq_]; exact (by (with_reducible repeat (first | apply Kd.R_alloc | apply Kd.R_drewN | apply Kd.R_drew)); exact Kd.R_mono HO_9.out (fun _ hk => by first | exact ⟨hk.2, ⟨hk.1.1, ⟨hk.1.2.1, hk.1.2.2⟩⟩⟩ | ((try simp only [ne_eq, true_and] at hk); simp only [ne_eq, hk, not_false_eq_true, and_self, true_and, and_true])))⟩; have n5_ : Aside0 (w53.heap[gb184]? = some (.cells #[.slice A2_0 l2_0.length c2_0, .int .i64 a2_1] 42 (0, 0))) := ⟨by rw [← hq_]; exact (by (with_reducible repeat (first | refine blk_drewN ?_ _ | refine blk_drew ?_ | refine blk_alloc ?_ _)); exact BK184.out)⟩; have n6_ : Aside0 (w53.heap[gb205]? = some (.cells #[.slice Ao31 t201.length co31, .int .i64 t204] 46 (0, 0))) := ⟨by rw [← hq_]; exact (by (with_reducible repeat (first | refine blk_drewN ?_ _ | refine blk_drew ?_ | refine blk_alloc ?_ _)); exact BK205.out)⟩; have n7_ : Aside0 (Below w.heap.size w w53) := ⟨by rw [← hq_]; exact (by repeat (first | (with_reducible first | exact HB.out | apply below_alloc | apply pw_below_drewN | apply below_drew1 | refine below_set ?_ GE184.out | refine below_set ?_ GE205.out) | exact HB.out))⟩; clear HO214 HO_11 HO_14 HO_206000 HO_9 BK184 BK205 HB hq_; have HO214 := n0_; have HO_11 := n1_; have HO_14 := n2_; have HO_206000 := n3_; have HO_9 := n4_; have BK184 := n5_; have BK205 := n6_; have HB := n7_; clear n0_ n1_ n2_ n3_ n4_ n5_ n6_ n7_))
                have n0_ := Aside0.mk (Kd.R_drew HO_9.out)
                have n1_ := Aside0.mk (Kd.R_drew HO_11.out)
                have n2_ := Aside0.mk (Kd.R_drew HO_14.out)
                have n3_ := Aside0.mk (Kd.R_drew HO_206000.out)
                have n4_ := Aside0.mk (Kd.R_drew HO214.out)
                have n5_ := Aside0.mk (blk_drew BK184.out)
                have n6_ := Aside0.mk (blk_drew BK205.out)
                have n7_ := Aside0.mk (below_drew1 HB.out)
                clear HO_9
                clear HO_11
                clear HO_14
                clear HO_206000
                clear HO214
                clear BK184
                clear BK205
                clear HB
                have HO_9 := n0_
                have HO_11 := n1_
                have HO_14 := n2_
                have HO_206000 := n3_
                have HO214 := n4_
                have BK184 := n5_
                have BK205 := n6_
                have HB := n7_
                clear n0_ n1_ n2_ n3_ n4_ n5_ n6_ n7_
                refine start_ (n := 5) (S := fun w' => w'.cell? ⟨gb205, 0, none⟩ = some (.slice Ao31 t201.length co31) ∧ w'.cell? ⟨gb205, 1, none⟩ = some (.int .i64 t204) ∧ w'.cell? ⟨gb184, 0, none⟩ = some (.slice A2_0 l2_0.length c2_0) ∧ w'.cell? ⟨gb184, 1, none⟩ = some (.int .i64 a2_1)) (ds := []) #[false, false, false, false, false] (by kernel_rfl) rfl rfl ⟨(blk_cell BK205.out 0).trans rfl, (blk_cell BK205.out 1).trans rfl, (blk_cell BK184.out 0).trans rfl, (blk_cell BK184.out 1).trans rfl⟩ (fun hHeld => ?_)
                generalize w53.drew = w55 at HO_9 HO_11 HO_14 HO_206000 HO214 BK184 BK205 HB hHeld ⊢
                refine take_ (i := 0) (N := some 71) (v := ?_) (a' := ?_) #[true, false, false, false, false] rfl rfl (by kernel_rfl) (fun _ _ _ h => h) (Or.inl ⟨by rfl, ?_⟩) hHeld ?_ ?_
                rotate_left
                · rintro w' ⟨s0, s1, s2, s3⟩
                  go_simp
                  with_reducible rfl
                rotate_left
                · simp only [Act.put, List.setIfInBounds_toArray, List.set_cons_zero, List.set_cons_succ, i64_w, i32_w]
                  rfl
                refine take_ (i := 1) (N := some 72) (v := ?_) (a' := ?_) #[true, true, false, false, false] rfl rfl (by kernel_rfl) (fun _ _ _ h => h) (Or.inl ⟨by rfl, ?_⟩) hHeld ?_ ?_
                rotate_left
                · rintro w' ⟨s0, s1, s2, s3⟩
                  go_simp
                  with_reducible rfl
                rotate_left
                · simp only [Act.put, List.setIfInBounds_toArray, List.set_cons_zero, List.set_cons_succ, i64_w, i32_w]
                  rfl
                refine one_ (i := 2) (N := some 73) #[true, true, true, false, false] rfl rfl (by kernel_rfl) (by decide) (fun K hK => ?_)
                refine goes_ Try.func29 (by kernel_rfl) rfl #[.agg #[.slice A2_0 l2_0.length c2_0, .int .i64 a2_1]] (by rfl) rfl rfl (by (try simp only [List.map_toArray, List.map_cons, List.map_nil]); first | done | rfl | (simp only [List.length_drop, List.length_take]; rfl)) ?_
                with_reducible refine (laws_toPattern.calls kj16 _ _ l2_0 a2_1 t216 t219 _ ?side1 ?side2 A47.out).mono ?_
                (case side1 => repeat (first | exact (Kd.C_below HR2_0.out HB.out) | (with_reducible refine Kd.C_alloc ?_ _) | (with_reducible refine Kd.C_drewN ?_ _) | (with_reducible refine Kd.C_drew ?_)))
                (case side2 => exact HC2_0.out)
                rintro e w56 ⟨v217, rfl, ho0, hb⟩
                refine ⟨_, rfl, ?_⟩
                have n0_ := Aside0.mk (Kd.R_elder' (by (with_reducible repeat (first | apply Kd.R_alloc | apply Kd.R_drewN | apply Kd.R_drew)); exact HO_9.out) (Kd.R_base ho0) hb)
                have n1_ := Aside0.mk (Kd.R_elder' (by (with_reducible repeat (first | apply Kd.R_alloc | apply Kd.R_drewN | apply Kd.R_drew)); exact HO_11.out) (Kd.R_base ho0) hb)
                have n2_ := Aside0.mk (Kd.R_elder' (by (with_reducible repeat (first | apply Kd.R_alloc | apply Kd.R_drewN | apply Kd.R_drew)); exact HO_14.out) (Kd.R_base ho0) hb)
                have n3_ := Aside0.mk (Kd.R_elder' (by (with_reducible repeat (first | apply Kd.R_alloc | apply Kd.R_drewN | apply Kd.R_drew)); exact HO_206000.out) (Kd.R_base ho0) hb)
                have n4_ := Aside0.mk (Kd.R_elder' (by (with_reducible repeat (first | apply Kd.R_alloc | apply Kd.R_drewN | apply Kd.R_drew)); exact HO214.out) (Kd.R_base ho0) hb)
                have n5_ := Aside0.mk (Kd.R_lower (Kd.R_new' (Kd.R_new' (Kd.R_new' (Kd.R_new' (Kd.R_new' ho0 (Kd.R_lt (by (with_reducible repeat (first | apply Kd.R_alloc | apply Kd.R_drewN | apply Kd.R_drew)); exact HO_9.out))) (Kd.R_lt (by (with_reducible repeat (first | apply Kd.R_alloc | apply Kd.R_drewN | apply Kd.R_drew)); exact HO_11.out))) (Kd.R_lt (by (with_reducible repeat (first | apply Kd.R_alloc | apply Kd.R_drewN | apply Kd.R_drew)); exact HO_14.out))) (Kd.R_lt (by (with_reducible repeat (first | apply Kd.R_alloc | apply Kd.R_drewN | apply Kd.R_drew)); exact HO_206000.out))) (Kd.R_lt (by (with_reducible repeat (first | apply Kd.R_alloc | apply Kd.R_drewN | apply Kd.R_drew)); exact HO214.out))) (below_size (by repeat (first | (with_reducible first | exact HB.out | apply below_alloc | apply pw_below_drewN | apply below_drew1 | refine below_set ?_ GE184.out | refine below_set ?_ GE205.out) | exact HB.out))))
                have n6_ := Aside0.mk (blk_below (g := gb184) (o := .cells #[.slice A2_0 l2_0.length c2_0, .int .i64 a2_1] 42 (0, 0)) (by (with_reducible repeat (first | refine blk_drewN ?_ _ | refine blk_drew ?_ | refine blk_alloc ?_ _)); exact BK184.out) hb)
                have n7_ := Aside0.mk (blk_below (g := gb205) (o := .cells #[.slice Ao31 t201.length co31, .int .i64 t204] 46 (0, 0)) (by (with_reducible repeat (first | refine blk_drewN ?_ _ | refine blk_drew ?_ | refine blk_alloc ?_ _)); exact BK205.out) hb)
                have n8_ := Aside0.mk (below_step (by repeat (first | (with_reducible first | exact HB.out | apply below_alloc | apply pw_below_drewN | apply below_drew1 | refine below_set ?_ GE184.out | refine below_set ?_ GE205.out) | exact HB.out)) hb)
                clear HO_9
                clear HO_11
                clear HO_14
                clear HO_206000
                clear HO214
                clear BK184
                clear BK205
                clear HB
                have HO_9 := n0_
                have HO_11 := n1_
                have HO_14 := n2_
                have HO_206000 := n3_
                have HO214 := n4_
                have HO218 := n5_
                have BK184 := n6_
                have BK205 := n7_
                have HB := n8_
                clear n0_ n1_ n2_ n3_ n4_ n5_ n6_ n7_ n8_
                (try clear hb)
                (try clear hb2)
                (try clear hk)
                (try clear hi)
                (try clear ho0)
                obtain ⟨Ao57, co57, eo57⟩ := Kd.R_slice HO218.out
                (first | subst eo57 | (injection eo57 with f1_ f2_ f3_; have f4_ := f1_.symm; have f5_ := f3_.symm; clear f1_ f2_ f3_; subst f4_; subst f5_))
                refine hK.out _ _ ⟨(blk_cell BK205.out 0).trans rfl, (blk_cell BK205.out 1).trans rfl, (blk_cell BK184.out 0).trans rfl, (blk_cell BK184.out 1).trans rfl⟩ (fun hHeld => ?_)
                clear hK K
                refine norm_ (a' := ?_) ?_ ?_
                rotate_left
                · show Act.put _ (some 73) _ = _
                  simp only [Act.put, List.setIfInBounds_toArray, List.set_cons_zero, List.set_cons_succ, i64_w, i32_w]
                  rfl
                refine one_ (i := 3) (N := some 74) #[true, true, true, true, false] rfl rfl (by kernel_rfl) (by decide) (fun K hK => ?_)
                refine goes_ Try.func31 (by kernel_rfl) rfl #[.agg #[.slice Ao31 t201.length co31, .int .i64 t204], .agg #[.slice Ao57 t216.length co57, .int .i64 t219]] (by rfl) rfl rfl (by (try simp only [List.map_toArray, List.map_cons, List.map_nil]); first | done | rfl | (simp only [List.length_drop, List.length_take]; rfl)) ?_
                with_reducible refine (laws_eqPattern.calls kj16 _ _ t201 t204 _ _ t216 t219 true _ ?side1 ?side2 ?side3 ?side4 A48.out).mono ?_
                (case side1 => repeat (first | exact (Kd.R_reads' HO_206000.out).2.2 | (with_reducible refine Kd.C_alloc ?_ _) | (with_reducible refine Kd.C_drewN ?_ _) | (with_reducible refine Kd.C_drew ?_)))
                (case side2 => exact (Kd.R_reads' HO_206000.out).2.1)
                (case side3 => repeat (first | exact (Kd.R_reads' HO218.out).2.2 | (with_reducible refine Kd.C_alloc ?_ _) | (with_reducible refine Kd.C_drewN ?_ _) | (with_reducible refine Kd.C_drew ?_)))
                (case side4 => exact (Kd.R_reads' HO218.out).2.1)
                rintro e w58 ⟨rfl, hb⟩
                refine ⟨_, rfl, ?_⟩
                have n0_ := Aside0.mk (Kd.R_below (by (with_reducible repeat (first | apply Kd.R_alloc | apply Kd.R_drewN | apply Kd.R_drew)); exact HO_9.out) hb)
                have n1_ := Aside0.mk (Kd.R_below (by (with_reducible repeat (first | apply Kd.R_alloc | apply Kd.R_drewN | apply Kd.R_drew)); exact HO_11.out) hb)
                have n2_ := Aside0.mk (Kd.R_below (by (with_reducible repeat (first | apply Kd.R_alloc | apply Kd.R_drewN | apply Kd.R_drew)); exact HO_14.out) hb)
                have n3_ := Aside0.mk (Kd.R_below (by (with_reducible repeat (first | apply Kd.R_alloc | apply Kd.R_drewN | apply Kd.R_drew)); exact HO_206000.out) hb)
                have n4_ := Aside0.mk (Kd.R_below (by (with_reducible repeat (first | apply Kd.R_alloc | apply Kd.R_drewN | apply Kd.R_drew)); exact HO214.out) hb)
                have n5_ := Aside0.mk (Kd.R_below (by (with_reducible repeat (first | apply Kd.R_alloc | apply Kd.R_drewN | apply Kd.R_drew)); exact HO218.out) hb)
                have n6_ := Aside0.mk (blk_below (g := gb184) (o := .cells #[.slice A2_0 l2_0.length c2_0, .int .i64 a2_1] 42 (0, 0)) (by (with_reducible repeat (first | refine blk_drewN ?_ _ | refine blk_drew ?_ | refine blk_alloc ?_ _)); exact BK184.out) hb)
                have n7_ := Aside0.mk (blk_below (g := gb205) (o := .cells #[.slice Ao31 t201.length co31, .int .i64 t204] 46 (0, 0)) (by (with_reducible repeat (first | refine blk_drewN ?_ _ | refine blk_drew ?_ | refine blk_alloc ?_ _)); exact BK205.out) hb)
                have n8_ := Aside0.mk (below_step (by repeat (first | (with_reducible first | exact HB.out | apply below_alloc | apply pw_below_drewN | apply below_drew1 | refine below_set ?_ GE184.out | refine below_set ?_ GE205.out) | exact HB.out)) hb)
                clear HO_9
                clear HO_11
                clear HO_14
                clear HO_206000
                clear HO214
                clear HO218
                clear BK184
                clear BK205
                clear HB
                have HO_9 := n0_
                have HO_11 := n1_
                have HO_14 := n2_
                have HO_206000 := n3_
                have HO214 := n4_
                have HO218 := n5_
                have BK184 := n6_
                have BK205 := n7_
                have HB := n8_
                clear n0_ n1_ n2_ n3_ n4_ n5_ n6_ n7_ n8_
                (try clear hb)
                (try clear hb2)
                (try clear hk)
                (try clear hi)
                refine hK.out _ _ ⟨(blk_cell BK205.out 0).trans rfl, (blk_cell BK205.out 1).trans rfl, (blk_cell BK184.out 0).trans rfl, (blk_cell BK184.out 1).trans rfl⟩ (fun hHeld => ?_)
                clear hK K
                refine norm_ (a' := ?_) ?_ ?_
                rotate_left
                · show Act.put _ (some 74) _ = _
                  simp only [Act.put, List.setIfInBounds_toArray, List.set_cons_zero, List.set_cons_succ, i64_w, i32_w]
                  rfl
                refine pure_ (i := 4) (N := some 75) (v := ?_) (a' := ?_) #[true, true, true, true, true] rfl rfl (by kernel_rfl) (fun _ _ _ h => h) (Or.inl ⟨by rfl, ?_⟩) ?_ ?_
                rotate_left
                · intro w'
                  go_simp
                  with_reducible rfl
                rotate_left
                · simp only [Act.put, List.setIfInBounds_toArray, List.set_cons_zero, List.set_cons_succ, i64_w, i32_w]
                  rfl
                refine done_ (by kernel_rfl) ?_
                go_upto_region 20 with (first | ((with_reducible refine gate_callee (f := 32) rfl ?_); refine goesL_ (some 78) rfl rfl Try.func32 (by kernel_rfl) rfl #[.slice Ao34 t198.length co34, .int .i64 1] rfl (by (try simp only [List.map_toArray, List.map_cons, List.map_nil]); first | done | rfl | (simp only [List.length_drop, List.length_take]; rfl)) ?_; (with_reducible refine (laws_markIntS.calls kj16 (fun k_ => some k_ = (.slice Ao34 t198.length co34 : Value).ownBlock) (.slice Ao34 t198.length co34) t198 1 t221 t222 w _ ?side1 ?side2 A50.out).mono ?_); (case side1 => repeat (first | (with_reducible first | exact HB.out | apply below_alloc | apply pw_below_drewN | apply below_drew1 | refine below_set ?_ GE184.out | refine below_set ?_ GE205.out) | exact HB.out)); (case side2 => exact Kd.R_tight rfl HO_11.out); rintro e w59 ⟨rfl, hy0, hb, hkp⟩; refine ⟨_, rfl, ?_⟩; have n0_ := Aside0.mk (Kd.R_mono (ok' := fun k_ => some k_ ≠ (.slice Ao34 t198.length co34 : Value).ownBlock ∧ some k_ ≠ (v208 : Value).ownBlock ∧ some k_ ≠ (.slice Ao31 t201.length co31 : Value).ownBlock ∧ some k_ ≠ (.slice Ao54 t212.length co54 : Value).ownBlock ∧ some k_ ≠ (.slice Ao57 t216.length co57 : Value).ownBlock) (Kd.R_keptB (HO_9.out) hkp (fun k_ hk_ hs_ => by first | exact (hk_.1.1.1) hs_ | (exact absurd hs_ (by (try simp only [ne_eq, true_and] at hk_); simp only [ne_eq, hk_, not_false_eq_true])))) (fun k_ hk_ => by first | exact ⟨hk_.1.1.1.1, hk_.1.1.1.2.1, hk_.1.1.1.2.2, hk_.1.1.2, hk_.1.2⟩ | ((try simp only [ne_eq, true_and] at hk_); simp only [ne_eq, hk_, not_false_eq_true, and_self, true_and, and_true]))); have n1_ := Aside0.mk (Kd.R_reok rfl hy0 (fun k_ e_ => HO_11.out.1 k_ e_)); have n2_ := Aside0.mk (Kd.R_mono (ok' := fun k_ => some k_ ≠ (v195 : Value).ownBlock ∧ some k_ ≠ (.slice Ao34 t198.length co34 : Value).ownBlock ∧ some k_ ≠ (.slice Ao31 t201.length co31 : Value).ownBlock ∧ some k_ ≠ (.slice Ao54 t212.length co54 : Value).ownBlock ∧ some k_ ≠ (.slice Ao57 t216.length co57 : Value).ownBlock) (Kd.R_keptB (HO_14.out) hkp (fun k_ hk_ hs_ => by first | exact (hk_.1.1.2.1) hs_ | (exact absurd hs_ (by (try simp only [ne_eq, true_and] at hk_); simp only [ne_eq, hk_, not_false_eq_true])))) (fun k_ hk_ => by first | exact ⟨hk_.1.1.1.1, hk_.1.1.1.2.1, hk_.1.1.1.2.2, hk_.1.1.2, hk_.1.2⟩ | ((try simp only [ne_eq, true_and] at hk_); simp only [ne_eq, hk_, not_false_eq_true, and_self, true_and, and_true]))); have n3_ := Aside0.mk (Kd.R_mono (ok' := fun k_ => some k_ ≠ (v195 : Value).ownBlock ∧ some k_ ≠ (.slice Ao34 t198.length co34 : Value).ownBlock ∧ some k_ ≠ (v208 : Value).ownBlock ∧ some k_ ≠ (.slice Ao54 t212.length co54 : Value).ownBlock ∧ some k_ ≠ (.slice Ao57 t216.length co57 : Value).ownBlock) (Kd.R_keptB (HO_206000.out) hkp (fun k_ hk_ hs_ => by first | exact (hk_.1.1.2.1) hs_ | (exact absurd hs_ (by (try simp only [ne_eq, true_and] at hk_); simp only [ne_eq, hk_, not_false_eq_true])))) (fun k_ hk_ => by first | exact ⟨hk_.1.1.1.1, hk_.1.1.1.2.1, hk_.1.1.1.2.2, hk_.1.1.2, hk_.1.2⟩ | ((try simp only [ne_eq, true_and] at hk_); simp only [ne_eq, hk_, not_false_eq_true, and_self, true_and, and_true]))); have n4_ := Aside0.mk (blk_kept (by (with_reducible repeat (first | refine blk_drewN ?_ _ | refine blk_drew ?_ | refine blk_alloc ?_ _)); exact BK184.out) hkp (fun hs_ => (fun e_ => (Kd.R_ne HO_11.out BK184.out (by decide)) e_) hs_)); have n5_ := Aside0.mk (blk_kept (by (with_reducible repeat (first | refine blk_drewN ?_ _ | refine blk_drew ?_ | refine blk_alloc ?_ _)); exact BK205.out) hkp (fun hs_ => (fun e_ => (Kd.R_ne HO_11.out BK205.out (by decide)) e_) hs_)); have n6_ := Aside0.mk (Kd.R_mono (ok' := fun k_ => some k_ ≠ (v195 : Value).ownBlock ∧ some k_ ≠ (.slice Ao34 t198.length co34 : Value).ownBlock ∧ some k_ ≠ (v208 : Value).ownBlock ∧ some k_ ≠ (.slice Ao31 t201.length co31 : Value).ownBlock ∧ some k_ ≠ (.slice Ao57 t216.length co57 : Value).ownBlock) (Kd.R_keptB (HO214.out) hkp (fun k_ hk_ hs_ => by first | exact (hk_.1.1.1.2) hs_ | (exact absurd hs_ (by (try simp only [ne_eq, true_and] at hk_); simp only [ne_eq, hk_, not_false_eq_true])))) (fun k_ hk_ => by first | exact ⟨hk_.1.1.1.1.1.2, hk_.1.1.1.1.2, hk_.1.1.1.2, hk_.1.1.2, hk_.1.2⟩ | ((try simp only [ne_eq, true_and] at hk_); simp only [ne_eq, hk_, not_false_eq_true, and_self, true_and, and_true]))); have n7_ := Aside0.mk (Kd.R_mono (ok' := fun k_ => some k_ ≠ (v195 : Value).ownBlock ∧ some k_ ≠ (.slice Ao34 t198.length co34 : Value).ownBlock ∧ some k_ ≠ (v208 : Value).ownBlock ∧ some k_ ≠ (.slice Ao31 t201.length co31 : Value).ownBlock ∧ some k_ ≠ (.slice Ao54 t212.length co54 : Value).ownBlock) (Kd.R_keptB (HO218.out) hkp (fun k_ hk_ hs_ => by first | exact (hk_.1.1.1.2) hs_ | (exact absurd hs_ (by (try simp only [ne_eq, true_and] at hk_); simp only [ne_eq, hk_, not_false_eq_true])))) (fun k_ hk_ => by first | exact ⟨hk_.1.1.1.1.1.2, hk_.1.1.1.1.2, hk_.1.1.1.2, hk_.1.1.2, hk_.1.2⟩ | ((try simp only [ne_eq, true_and] at hk_); simp only [ne_eq, hk_, not_false_eq_true, and_self, true_and, and_true]))); have n8_ := Aside0.mk (hb); clear HO_9; clear HO_11; clear HO_14; clear HO_206000; clear BK184; clear BK205; clear HO214; clear HO218; clear HB; have HO_9 := n0_; have HO_11 := n1_; have HO_14 := n2_; have HO_206000 := n3_; have BK184 := n4_; have BK205 := n5_; have HO214 := n6_; have HO218 := n7_; have HB := n8_; clear n0_ n1_ n2_ n3_ n4_ n5_ n6_ n7_ n8_; (try clear hb); (try clear hkp); (try clear hy0); have hnb60 := NB205_184.out; have hnc60 := NB184_205.out; have hcz61_0 : w59.cell? ⟨gb205, 0, none⟩ = some (.slice Ao31 t201.length co31) := (blk_cell BK205.out 0).trans rfl; have hcz61_1 : w59.cell? ⟨gb205, 1, none⟩ = some (.int .i64 t204) := (blk_cell BK205.out 1).trans rfl; have hfz61_0 := blk_frozen BK205.out 0; have hfz61_1 := blk_frozen BK205.out 1) | ((with_reducible refine gate_callee (f := 33) rfl ?_); refine goesL_ (some 81) rfl rfl Try.func33 (by kernel_rfl) rfl #[.agg #[.slice Ao31 t201.length co31, .int .i64 t204], .int .i64 t221] rfl (by (try simp only [List.map_toArray, List.map_cons, List.map_nil]); first | done | rfl | (simp only [List.length_drop, List.length_take]; rfl)) ?_; (with_reducible refine (laws_markPattern.calls kj16 (fun k_ => some k_ = (.slice Ao31 t201.length co31 : Value).ownBlock) (.slice Ao31 t201.length co31) t201 t204 t221 t223 t224 w _ ?side1 ?side2 A51.out).mono ?_); (case side1 => repeat (first | (with_reducible first | exact HB.out | apply below_alloc | apply pw_below_drewN | apply below_drew1 | refine below_set ?_ GE184.out | refine below_set ?_ GE205.out) | exact HB.out)); (case side2 => exact Kd.R_tight rfl HO_206000.out); rintro e w62 ⟨rfl, hy0, hb, hkp⟩; refine ⟨_, rfl, ?_⟩; have n0_ := Aside0.mk (Kd.R_mono (ok' := fun k_ => some k_ ≠ (.slice Ao34 t198.length co34 : Value).ownBlock ∧ some k_ ≠ (v208 : Value).ownBlock ∧ some k_ ≠ (.slice Ao31 t201.length co31 : Value).ownBlock ∧ some k_ ≠ (.slice Ao54 t212.length co54 : Value).ownBlock ∧ some k_ ≠ (.slice Ao57 t216.length co57 : Value).ownBlock) (Kd.R_keptB (HO_9.out) hkp (fun k_ hk_ hs_ => by first | exact (hk_.2.2.1) hs_ | (exact absurd hs_ (by (try simp only [ne_eq, true_and] at hk_); simp only [ne_eq, hk_, not_false_eq_true])))) (fun k_ hk_ => by first | exact ⟨hk_.1.1, hk_.1.2.1, hk_.1.2.2.1, hk_.1.2.2.2.1, hk_.1.2.2.2.2⟩ | ((try simp only [ne_eq, true_and] at hk_); simp only [ne_eq, hk_, not_false_eq_true, and_self, true_and, and_true]))); have n1_ := Aside0.mk (Kd.R_mono (ok' := fun k_ => some k_ ≠ (v195 : Value).ownBlock ∧ some k_ ≠ (v208 : Value).ownBlock ∧ some k_ ≠ (.slice Ao31 t201.length co31 : Value).ownBlock ∧ some k_ ≠ (.slice Ao54 t212.length co54 : Value).ownBlock ∧ some k_ ≠ (.slice Ao57 t216.length co57 : Value).ownBlock) (Kd.R_keptB (HO_11.out) hkp (fun k_ hk_ hs_ => by first | exact (hk_.1.1.2.2) hs_ | (exact absurd hs_ (by (try simp only [ne_eq, true_and] at hk_); simp only [ne_eq, hk_, not_false_eq_true])))) (fun k_ hk_ => by first | exact ⟨hk_.1.1.1.1, hk_.1.1.1.2.1, hk_.1.1.1.2.2, hk_.1.1.2, hk_.1.2⟩ | ((try simp only [ne_eq, true_and] at hk_); simp only [ne_eq, hk_, not_false_eq_true, and_self, true_and, and_true]))); have n2_ := Aside0.mk (Kd.R_mono (ok' := fun k_ => some k_ ≠ (v195 : Value).ownBlock ∧ some k_ ≠ (.slice Ao34 t198.length co34 : Value).ownBlock ∧ some k_ ≠ (.slice Ao31 t201.length co31 : Value).ownBlock ∧ some k_ ≠ (.slice Ao54 t212.length co54 : Value).ownBlock ∧ some k_ ≠ (.slice Ao57 t216.length co57 : Value).ownBlock) (Kd.R_keptB (HO_14.out) hkp (fun k_ hk_ hs_ => by first | exact (hk_.2.2.1) hs_ | (exact absurd hs_ (by (try simp only [ne_eq, true_and] at hk_); simp only [ne_eq, hk_, not_false_eq_true])))) (fun k_ hk_ => by first | exact ⟨hk_.1.1, hk_.1.2.1, hk_.1.2.2.1, hk_.1.2.2.2.1, hk_.1.2.2.2.2⟩ | ((try simp only [ne_eq, true_and] at hk_); simp only [ne_eq, hk_, not_false_eq_true, and_self, true_and, and_true]))); have n3_ := Aside0.mk (Kd.R_reok rfl hy0 (fun k_ e_ => HO_206000.out.1 k_ e_)); have n4_ := Aside0.mk (blk_kept (by (with_reducible repeat (first | refine blk_drewN ?_ _ | refine blk_drew ?_ | refine blk_alloc ?_ _)); exact BK184.out) hkp (fun hs_ => (fun e_ => (Kd.R_ne HO_206000.out BK184.out (by decide)) e_) hs_)); have n5_ := Aside0.mk (blk_kept (by (with_reducible repeat (first | refine blk_drewN ?_ _ | refine blk_drew ?_ | refine blk_alloc ?_ _)); exact BK205.out) hkp (fun hs_ => (fun e_ => (Kd.R_ne HO_206000.out BK205.out (by decide)) e_) hs_)); have n6_ := Aside0.mk (Kd.R_mono (ok' := fun k_ => some k_ ≠ (v195 : Value).ownBlock ∧ some k_ ≠ (.slice Ao34 t198.length co34 : Value).ownBlock ∧ some k_ ≠ (v208 : Value).ownBlock ∧ some k_ ≠ (.slice Ao31 t201.length co31 : Value).ownBlock ∧ some k_ ≠ (.slice Ao57 t216.length co57 : Value).ownBlock) (Kd.R_keptB (HO214.out) hkp (fun k_ hk_ hs_ => by first | exact (hk_.2.2.2.1) hs_ | (exact absurd hs_ (by (try simp only [ne_eq, true_and] at hk_); simp only [ne_eq, hk_, not_false_eq_true])))) (fun k_ hk_ => by first | exact ⟨hk_.1.1, hk_.1.2.1, hk_.1.2.2.1, hk_.1.2.2.2.1, hk_.1.2.2.2.2⟩ | ((try simp only [ne_eq, true_and] at hk_); simp only [ne_eq, hk_, not_false_eq_true, and_self, true_and, and_true]))); have n7_ := Aside0.mk (Kd.R_mono (ok' := fun k_ => some k_ ≠ (v195 : Value).ownBlock ∧ some k_ ≠ (.slice Ao34 t198.length co34 : Value).ownBlock ∧ some k_ ≠ (v208 : Value).ownBlock ∧ some k_ ≠ (.slice Ao31 t201.length co31 : Value).ownBlock ∧ some k_ ≠ (.slice Ao54 t212.length co54 : Value).ownBlock) (Kd.R_keptB (HO218.out) hkp (fun k_ hk_ hs_ => by first | exact (hk_.2.2.2.1) hs_ | (exact absurd hs_ (by (try simp only [ne_eq, true_and] at hk_); simp only [ne_eq, hk_, not_false_eq_true])))) (fun k_ hk_ => by first | exact ⟨hk_.1.1, hk_.1.2.1, hk_.1.2.2.1, hk_.1.2.2.2.1, hk_.1.2.2.2.2⟩ | ((try simp only [ne_eq, true_and] at hk_); simp only [ne_eq, hk_, not_false_eq_true, and_self, true_and, and_true]))); have n8_ := Aside0.mk (hb); clear HO_9; clear HO_11; clear HO_14; clear HO_206000; clear BK184; clear BK205; clear HO214; clear HO218; clear HB; have HO_9 := n0_; have HO_11 := n1_; have HO_14 := n2_; have HO_206000 := n3_; have BK184 := n4_; have BK205 := n5_; have HO214 := n6_; have HO218 := n7_; have HB := n8_; clear n0_ n1_ n2_ n3_ n4_ n5_ n6_ n7_ n8_; (try clear hb); (try clear hkp); (try clear hy0)))
                (try simp only [Act.put, List.setIfInBounds_toArray, List.set_cons_zero, List.set_cons_succ])
                go_cut [99] (fun v99 wc => ∃ (kq : Nat) (x99_51 : Bool), v99 = .bool x99_51 ∧ Aside0 (laws_FnExactFitsAt.j1 kq l0 a1 t193 t194 t197 t207 x99_51 l2_0 a2_1 = some r) ∧ Aside0 (kq ≤ kj16) ∧ Aside0 (Kd.R (Kd.int .i64) 3 wc w.heap.size (fun k_ => some k_ ≠ (v208 : Value).ownBlock ∧ some k_ ≠ ((.slice Ao31 t201.length co31) : Value).ownBlock) v195 t194) ∧ Aside0 (Kd.R (Kd.int .i64) 3 wc w.heap.size (fun k_ => some k_ ≠ (v195 : Value).ownBlock ∧ some k_ ≠ ((.slice Ao31 t201.length co31) : Value).ownBlock) v208 t207) ∧ Aside0 (Kd.R (Kd.int .i64) 3 wc w.heap.size (fun k_ => some k_ ≠ (v195 : Value).ownBlock ∧ some k_ ≠ (v208 : Value).ownBlock) (.slice Ao31 t201.length co31) t224) ∧ Aside0 (wc.heap[gb184]? = some (.cells #[(.slice A2_0 l2_0.length c2_0), .int .i64 a2_1] 42 (0, 0))) ∧ Aside0 (wc.heap[gb205]? = some (.cells #[(.slice Ao31 t201.length co31), .int .i64 t204] 46 (0, 0))) ∧ Aside0 (Below w.heap.size w wc))
                case first =>
                  have H := HC52.out
                  clear HC52
                  by_cases c63 : t223 < 0
                  · rw [if_pos c63] at H
                    have c63b0 : decide (t223 < 0) = true := decide_eq_true c63
                    clear c63
                    (first | rw [c63b0] | (simp only [i64_w, i32_w]; rw [c63b0]) | skip)
                    have H' := Aside0.mk H
                    clear H
                    go_wp2
                    go_meet
                    case rel => exact ⟨_, (true), (by first | rfl | (simp; done) | (simp [*]; done)), H', ⟨by have := HJ16.out; first | omega | exact Nat.le_refl _⟩, ⟨by (with_reducible repeat (first | apply Kd.R_alloc | apply Kd.R_drewN | apply Kd.R_drew)); exact Kd.R_mono HO_9.out (fun _ hk => by first | exact ⟨hk.2.1, hk.2.2.1⟩ | ((try simp only [ne_eq, true_and] at hk); simp only [ne_eq, hk, not_false_eq_true, and_self, true_and, and_true]))⟩, ⟨by (with_reducible repeat (first | apply Kd.R_alloc | apply Kd.R_drewN | apply Kd.R_drew)); exact Kd.R_mono HO_14.out (fun _ hk => by first | exact ⟨hk.1, hk.2.2.1⟩ | ((try simp only [ne_eq, true_and] at hk); simp only [ne_eq, hk, not_false_eq_true, and_self, true_and, and_true]))⟩, ⟨by (with_reducible repeat (first | apply Kd.R_alloc | apply Kd.R_drewN | apply Kd.R_drew)); exact Kd.R_mono HO_206000.out (fun _ hk => by first | exact ⟨hk.1, hk.2.2.1⟩ | ((try simp only [ne_eq, true_and] at hk); simp only [ne_eq, hk, not_false_eq_true, and_self, true_and, and_true]))⟩, ⟨by (with_reducible repeat (first | refine blk_drewN ?_ _ | refine blk_drew ?_ | refine blk_alloc ?_ _)); exact BK184.out⟩, ⟨by (with_reducible repeat (first | refine blk_drewN ?_ _ | refine blk_drew ?_ | refine blk_alloc ?_ _)); exact BK205.out⟩, ⟨by repeat (first | (with_reducible first | exact HB.out | apply below_alloc | apply pw_below_drewN | apply below_drew1 | refine below_set ?_ GE184.out | refine below_set ?_ GE205.out) | exact HB.out)⟩⟩
                  · rw [if_neg c63] at H
                    have c63b0 : decide (t223 < 0) = false := decide_eq_false c63
                    clear c63
                    (first | rw [c63b0] | (simp only [i64_w, i32_w]; rw [c63b0]) | skip)
                    by_cases c64 : (t206 != t193) = true
                    · rw [if_pos c64] at H
                      have c64b0 : (t206 != t193) = true := c64
                      (try (have c64b1 : decide (t206 = t193) = false := by simpa using c64))
                      (try (have c64b2 : (t206 == t193) = false := by simpa using c64))
                      (try (have c64b3 : ¬ (t206 = t193) := by simpa using c64))
                      clear c64
                      have H' := Aside0.mk H
                      clear H
                      go_wp2
                      go_meet
                      case rel => exact ⟨_, (true), (by first | rfl | (simp; done) | (simp [*]; done)), H', ⟨by have := HJ16.out; first | omega | exact Nat.le_refl _⟩, ⟨by (with_reducible repeat (first | apply Kd.R_alloc | apply Kd.R_drewN | apply Kd.R_drew)); exact Kd.R_mono HO_9.out (fun _ hk => by first | exact ⟨hk.2.1, hk.2.2.1⟩ | ((try simp only [ne_eq, true_and] at hk); simp only [ne_eq, hk, not_false_eq_true, and_self, true_and, and_true]))⟩, ⟨by (with_reducible repeat (first | apply Kd.R_alloc | apply Kd.R_drewN | apply Kd.R_drew)); exact Kd.R_mono HO_14.out (fun _ hk => by first | exact ⟨hk.1, hk.2.2.1⟩ | ((try simp only [ne_eq, true_and] at hk); simp only [ne_eq, hk, not_false_eq_true, and_self, true_and, and_true]))⟩, ⟨by (with_reducible repeat (first | apply Kd.R_alloc | apply Kd.R_drewN | apply Kd.R_drew)); exact Kd.R_mono HO_206000.out (fun _ hk => by first | exact ⟨hk.1, hk.2.2.1⟩ | ((try simp only [ne_eq, true_and] at hk); simp only [ne_eq, hk, not_false_eq_true, and_self, true_and, and_true]))⟩, ⟨by (with_reducible repeat (first | refine blk_drewN ?_ _ | refine blk_drew ?_ | refine blk_alloc ?_ _)); exact BK184.out⟩, ⟨by (with_reducible repeat (first | refine blk_drewN ?_ _ | refine blk_drew ?_ | refine blk_alloc ?_ _)); exact BK205.out⟩, ⟨by repeat (first | (with_reducible first | exact HB.out | apply below_alloc | apply pw_below_drewN | apply below_drew1 | refine below_set ?_ GE184.out | refine below_set ?_ GE205.out) | exact HB.out)⟩⟩
                    · rw [if_neg c64] at H
                      have c64b0 : (t206 != t193) = false := by simpa using c64
                      (try (have c64b1 : decide (t206 = t193) = true := by simpa using c64))
                      (try (have c64b2 : (t206 == t193) = true := by simpa using c64))
                      clear c64
                      replace H := Option.bind_eq_some_iff.mp H
                      obtain ⟨t225, A650, H⟩ := H
                      replace H : (if t225 = true then (laws_FnExactFitsAt.j1 kj16 l0 a1 t193 t194 t197 t207 (t210 != t197) l2_0 a2_1) else (laws_FnExactFitsAt.j1 kj16 l0 a1 t193 t194 t197 t207 true l2_0 a2_1)) = some r := H
                      have A65 := Aside0.mk A650
                      clear A650
                      by_cases c66 : t225 = true
                      · subst c66
                        have H1 : (laws_FnExactFitsAt.j1 kj16 l0 a1 t193 t194 t197 t207 (t210 != t197) l2_0 a2_1) = some r := by rw [if_pos rfl] at H; exact H
                        clear H
                        have H := H1
                        clear H1
                        have H' := Aside0.mk H
                        clear H
                        obtain ⟨Ao67, co67, eo67⟩ := Kd.R_slice HO_14.out
                        subst eo67
                        obtain ⟨Ao68, co68, eo68⟩ := Kd.R_slice HO_9.out
                        subst eo68
                        go_wp2_with (first | (go_at_call 14; (with_reducible refine (laws_eqIntS.calls kj16 _ _ t207 _ _ t194 true _ ?side1 ?side2 ?side3 ?side4 A65.out).mono ?_); (case side1 => repeat (first | exact (Kd.R_reads' HO_14.out).2.2 | (with_reducible refine Kd.C_alloc ?_ _) | (with_reducible refine Kd.C_drewN ?_ _) | (with_reducible refine Kd.C_drew ?_))); (case side2 => exact (Kd.R_reads' HO_14.out).2.1); (case side3 => repeat (first | exact (Kd.R_reads' HO_9.out).2.2 | (with_reducible refine Kd.C_alloc ?_ _) | (with_reducible refine Kd.C_drewN ?_ _) | (with_reducible refine Kd.C_drew ?_))); (case side4 => exact (Kd.R_reads' HO_9.out).2.1); rintro e w' ⟨rfl, ⟨nd, rfl⟩⟩))
                        go_meet
                        case rel => exact ⟨_, ((t210 != t197)), (by first | rfl | (simp; done) | (simp [*]; done)), H', ⟨by have := HJ16.out; first | omega | exact Nat.le_refl _⟩, ⟨by (with_reducible repeat (first | apply Kd.R_alloc | apply Kd.R_drewN | apply Kd.R_drew)); exact Kd.R_mono HO_9.out (fun _ hk => by first | exact ⟨hk.2.1, hk.2.2.1⟩ | ((try simp only [ne_eq, true_and] at hk); simp only [ne_eq, hk, not_false_eq_true, and_self, true_and, and_true]))⟩, ⟨by (with_reducible repeat (first | apply Kd.R_alloc | apply Kd.R_drewN | apply Kd.R_drew)); exact Kd.R_mono HO_14.out (fun _ hk => by first | exact ⟨hk.1, hk.2.2.1⟩ | ((try simp only [ne_eq, true_and] at hk); simp only [ne_eq, hk, not_false_eq_true, and_self, true_and, and_true]))⟩, ⟨by (with_reducible repeat (first | apply Kd.R_alloc | apply Kd.R_drewN | apply Kd.R_drew)); exact Kd.R_mono HO_206000.out (fun _ hk => by first | exact ⟨hk.1, hk.2.2.1⟩ | ((try simp only [ne_eq, true_and] at hk); simp only [ne_eq, hk, not_false_eq_true, and_self, true_and, and_true]))⟩, ⟨by (with_reducible repeat (first | refine blk_drewN ?_ _ | refine blk_drew ?_ | refine blk_alloc ?_ _)); exact BK184.out⟩, ⟨by (with_reducible repeat (first | refine blk_drewN ?_ _ | refine blk_drew ?_ | refine blk_alloc ?_ _)); exact BK205.out⟩, ⟨by repeat (first | (with_reducible first | exact HB.out | apply below_alloc | apply pw_below_drewN | apply below_drew1 | refine below_set ?_ GE184.out | refine below_set ?_ GE205.out) | exact HB.out)⟩⟩
                      · replace c66 := Bool.eq_false_iff.mpr c66
                        subst c66
                        have H1 : (laws_FnExactFitsAt.j1 kj16 l0 a1 t193 t194 t197 t207 true l2_0 a2_1) = some r := by rw [if_neg (show ¬ (false = true) by decide)] at H; exact H
                        clear H
                        have H := H1
                        clear H1
                        have H' := Aside0.mk H
                        clear H
                        obtain ⟨Ao69, co69, eo69⟩ := Kd.R_slice HO_14.out
                        subst eo69
                        obtain ⟨Ao70, co70, eo70⟩ := Kd.R_slice HO_9.out
                        subst eo70
                        go_wp2_with (first | (go_at_call 14; (with_reducible refine (laws_eqIntS.calls kj16 _ _ t207 _ _ t194 false _ ?side1 ?side2 ?side3 ?side4 A65.out).mono ?_); (case side1 => repeat (first | exact (Kd.R_reads' HO_14.out).2.2 | (with_reducible refine Kd.C_alloc ?_ _) | (with_reducible refine Kd.C_drewN ?_ _) | (with_reducible refine Kd.C_drew ?_))); (case side2 => exact (Kd.R_reads' HO_14.out).2.1); (case side3 => repeat (first | exact (Kd.R_reads' HO_9.out).2.2 | (with_reducible refine Kd.C_alloc ?_ _) | (with_reducible refine Kd.C_drewN ?_ _) | (with_reducible refine Kd.C_drew ?_))); (case side4 => exact (Kd.R_reads' HO_9.out).2.1); rintro e w' ⟨rfl, ⟨nd, rfl⟩⟩))
                        go_meet
                        case rel => exact ⟨_, (true), (by first | rfl | (simp; done) | (simp [*]; done)), H', ⟨by have := HJ16.out; first | omega | exact Nat.le_refl _⟩, ⟨by (with_reducible repeat (first | apply Kd.R_alloc | apply Kd.R_drewN | apply Kd.R_drew)); exact Kd.R_mono HO_9.out (fun _ hk => by first | exact ⟨hk.2.1, hk.2.2.1⟩ | ((try simp only [ne_eq, true_and] at hk); simp only [ne_eq, hk, not_false_eq_true, and_self, true_and, and_true]))⟩, ⟨by (with_reducible repeat (first | apply Kd.R_alloc | apply Kd.R_drewN | apply Kd.R_drew)); exact Kd.R_mono HO_14.out (fun _ hk => by first | exact ⟨hk.1, hk.2.2.1⟩ | ((try simp only [ne_eq, true_and] at hk); simp only [ne_eq, hk, not_false_eq_true, and_self, true_and, and_true]))⟩, ⟨by (with_reducible repeat (first | apply Kd.R_alloc | apply Kd.R_drewN | apply Kd.R_drew)); exact Kd.R_mono HO_206000.out (fun _ hk => by first | exact ⟨hk.1, hk.2.2.1⟩ | ((try simp only [ne_eq, true_and] at hk); simp only [ne_eq, hk, not_false_eq_true, and_self, true_and, and_true]))⟩, ⟨by (with_reducible repeat (first | refine blk_drewN ?_ _ | refine blk_drew ?_ | refine blk_alloc ?_ _)); exact BK184.out⟩, ⟨by (with_reducible repeat (first | refine blk_drewN ?_ _ | refine blk_drew ?_ | refine blk_alloc ?_ _)); exact BK205.out⟩, ⟨by repeat (first | (with_reducible first | exact HB.out | apply below_alloc | apply pw_below_drewN | apply below_drew1 | refine below_set ?_ GE184.out | refine below_set ?_ GE205.out) | exact HB.out)⟩⟩
                case rest =>
                  clear HC52
                  try clear c1
                  try clear c2
                  try clear p2
                  try clear c3
                  try clear c4
                  try clear c4b0
                  try clear c4b1
                  try clear c6
                  try clear c7
                  try clear c7b0
                  try clear c12
                  try clear c14
                  try clear c27
                  try clear c28
                  try clear c29
                  try clear c30
                  try clear c31
                  try clear c32
                  try clear c33
                  try clear c36
                  try clear c36b0
                  try clear c36b1
                  try clear c36b2
                  try clear c38
                  try clear c43
                  try clear c46
                  try clear c49
                  try clear c60
                  try clear c63
                  try clear c63b0
                  try clear c64
                  try clear c64b0
                  try clear c64b1
                  try clear c64b2
                  try clear c66
                  try clear hcz19_0
                  try clear hcz19_1
                  try clear hcz28_0
                  try clear hcz28_1
                  try clear hcz33_0
                  try clear hcz33_1
                  try clear hcz61_0
                  try clear hcz61_1
                  try clear hcz9_0
                  try clear hcz9_1
                  try clear hfz19_0
                  try clear hfz19_1
                  try clear hfz28_0
                  try clear hfz28_1
                  try clear hfz33_0
                  try clear hfz33_1
                  try clear hfz61_0
                  try clear hfz61_1
                  try clear hfz9_0
                  try clear hfz9_1
                  try clear p2
                  obtain ⟨kq, x99_51, rfl, HA, HJ51, HO_9, HO_14, HO_206000, BK184, BK205, HB⟩ := hcut
                  have hl206000_51 := (Kd.R_reads' HO_206000.out).1
                  rw [hl206000_51] at HO_206000
                  (try simp only [hl206000_51])
                  (try simp only [hl206000_51] at BK184)
                  (try simp only [hl206000_51] at BK205)
                  (try simp only [hl206000_51] at HO_9)
                  (try simp only [hl206000_51] at HO_14)
                  cases kq with
                  | zero => exact absurd HA.out (by simp [laws_FnExactFitsAt.j1])
                  | succ kj51 =>
                    have H := HA.out
                    clear HA
                    simp only [laws_FnExactFitsAt.j1] at H
                    by_cases c71 : x99_51 = true
                    · subst c71
                      have H1 : (some false) = some r := by rw [if_pos rfl] at H; exact H
                      clear H
                      have H := H1
                      clear H1
                      obtain rfl := Option.some.inj H
                      go_wp2
                      go_ret
                      exact ⟨by first | rfl | (simp [errW_none, errW_some] <;> rfl) | (simp [*, errW_none, errW_some] <;> rfl), by repeat (first | (with_reducible first | exact HB.out | apply below_alloc | apply pw_below_drewN | apply below_drew1 | refine below_set ?_ GE184.out | refine below_set ?_ GE205.out) | exact HB.out)⟩
                    · replace c71 := Bool.eq_false_iff.mpr c71
                      subst c71
                      have H1 : ((laws_markIntS.f kj51 t207 1).bind fun bt226 => ((laws_heldIntS.f kj51 bt226.2 1).bind fun t228 => (if t228 < 0 then (some false) else (if t228 = bt226.1 then ((laws_toIntS.f kj51 l0).bind fun t229 => ((laws_toPattern.f kj51 l2_0 a2_1).bind fun bt232 => ((impl_FitsAt.f kj51 t229 a1 bt232.1 bt232.2).bind fun bt236 => (if (bt236.1 != t193) = true then (laws_FnExactFitsAt.j2 kj51 bt226.2 bt226.1 true) else ((laws_eqIntS.f kj51 bt236.2.1 t194).bind fun t241 => (if t241 = true then (laws_FnExactFitsAt.j2 kj51 bt226.2 bt226.1 (bt236.2.2 != t197)) else (laws_FnExactFitsAt.j2 kj51 bt226.2 bt226.1 true))))))) else (some false))))) = some r := by rw [if_neg (show ¬ (false = true) by decide)] at H; exact H
                      clear H
                      have H := H1
                      clear H1
                      replace H := Option.bind_eq_some_iff.mp H
                      obtain ⟨⟨t226, t227⟩, A720, H⟩ := H
                      replace H : ((laws_heldIntS.f kj51 t227 1).bind fun t228 => (if t228 < 0 then (some false) else (if t228 = t226 then ((laws_toIntS.f kj51 l0).bind fun t229 => ((laws_toPattern.f kj51 l2_0 a2_1).bind fun bt232 => ((impl_FitsAt.f kj51 t229 a1 bt232.1 bt232.2).bind fun bt236 => (if (bt236.1 != t193) = true then (laws_FnExactFitsAt.j2 kj51 t227 t226 true) else ((laws_eqIntS.f kj51 bt236.2.1 t194).bind fun t241 => (if t241 = true then (laws_FnExactFitsAt.j2 kj51 t227 t226 (bt236.2.2 != t197)) else (laws_FnExactFitsAt.j2 kj51 t227 t226 true))))))) else (some false)))) = some r := H
                      have A72 := Aside0.mk A720
                      clear A720
                      replace H := Option.bind_eq_some_iff.mp H
                      obtain ⟨t228, A730, H⟩ := H
                      replace H : (if t228 < 0 then (some false) else (if t228 = t226 then ((laws_toIntS.f kj51 l0).bind fun t229 => ((laws_toPattern.f kj51 l2_0 a2_1).bind fun bt232 => ((impl_FitsAt.f kj51 t229 a1 bt232.1 bt232.2).bind fun bt236 => (if (bt236.1 != t193) = true then (laws_FnExactFitsAt.j2 kj51 t227 t226 true) else ((laws_eqIntS.f kj51 bt236.2.1 t194).bind fun t241 => (if t241 = true then (laws_FnExactFitsAt.j2 kj51 t227 t226 (bt236.2.2 != t197)) else (laws_FnExactFitsAt.j2 kj51 t227 t226 true))))))) else (some false))) = some r := H
                      have A73 := Aside0.mk A730
                      clear A730
                      by_cases c74 : t228 < 0
                      · rw [if_pos c74] at H
                        have c74b0 : decide (t228 < 0) = true := decide_eq_true c74
                        clear c74
                        obtain rfl := Option.some.inj H
                        obtain ⟨Ao75, co75, eo75⟩ := Kd.R_slice HO_14.out
                        subst eo75
                        go_wp2_with (first | ((with_reducible refine gate_callee (f := 32) rfl ?_); refine goesL_ (some 102) rfl rfl Try.func32 (by kernel_rfl) rfl #[.slice Ao75 t207.length co75, .int .i64 1] rfl (by (try simp only [List.map_toArray, List.map_cons, List.map_nil]); first | done | rfl | (simp only [List.length_drop, List.length_take]; rfl)) ?_; (with_reducible refine (laws_markIntS.calls kj51 (fun k_ => some k_ = (.slice Ao75 t207.length co75 : Value).ownBlock) (.slice Ao75 t207.length co75) t207 1 t226 t227 w _ ?side1 ?side2 A72.out).mono ?_); (case side1 => repeat (first | (with_reducible first | exact HB.out | apply below_alloc | apply pw_below_drewN | apply below_drew1 | refine below_set ?_ GE184.out | refine below_set ?_ GE205.out) | exact HB.out)); (case side2 => exact Kd.R_tight rfl HO_14.out); rintro e w76 ⟨rfl, hy0, hb, hkp⟩; refine ⟨_, rfl, ?_⟩; have n0_ := Aside0.mk (Kd.R_mono (ok' := fun k_ => some k_ ≠ (.slice Ao75 t207.length co75 : Value).ownBlock ∧ some k_ ≠ (.slice Ao31 t224.length co31 : Value).ownBlock) (Kd.R_keptB (HO_9.out) hkp (fun k_ hk_ hs_ => by first | exact (hk_.1) hs_ | (exact absurd hs_ (by (try simp only [ne_eq, true_and] at hk_); simp only [ne_eq, hk_, not_false_eq_true])))) (fun k_ hk_ => by first | exact ⟨hk_.1.1, hk_.1.2⟩ | ((try simp only [ne_eq, true_and] at hk_); simp only [ne_eq, hk_, not_false_eq_true, and_self, true_and, and_true]))); have n1_ := Aside0.mk (Kd.R_reok rfl hy0 (fun k_ e_ => HO_14.out.1 k_ e_)); have n2_ := Aside0.mk (Kd.R_mono (ok' := fun k_ => some k_ ≠ (v195 : Value).ownBlock ∧ some k_ ≠ (.slice Ao75 t207.length co75 : Value).ownBlock) (Kd.R_keptB (HO_206000.out) hkp (fun k_ hk_ hs_ => by first | exact (hk_.2) hs_ | (exact absurd hs_ (by (try simp only [ne_eq, true_and] at hk_); simp only [ne_eq, hk_, not_false_eq_true])))) (fun k_ hk_ => by first | exact ⟨hk_.1.1, hk_.1.2⟩ | ((try simp only [ne_eq, true_and] at hk_); simp only [ne_eq, hk_, not_false_eq_true, and_self, true_and, and_true]))); have n3_ := Aside0.mk (blk_kept (by (with_reducible repeat (first | refine blk_drewN ?_ _ | refine blk_drew ?_ | refine blk_alloc ?_ _)); exact BK184.out) hkp (fun hs_ => (fun e_ => (Kd.R_ne HO_14.out BK184.out (by decide)) e_) hs_)); have n4_ := Aside0.mk (blk_kept (by (with_reducible repeat (first | refine blk_drewN ?_ _ | refine blk_drew ?_ | refine blk_alloc ?_ _)); exact BK205.out) hkp (fun hs_ => (fun e_ => (Kd.R_ne HO_14.out BK205.out (by decide)) e_) hs_)); have n5_ := Aside0.mk (hb); clear HO_9; clear HO_14; clear HO_206000; clear BK184; clear BK205; clear HB; have HO_9 := n0_; have HO_14 := n1_; have HO_206000 := n2_; have BK184 := n3_; have BK205 := n4_; have HB := n5_; clear n0_ n1_ n2_ n3_ n4_ n5_; (try clear hb); (try clear hkp); (try clear hy0)) | ((with_reducible refine gate_callee (f := 34) rfl ?_); refine goesL_ (some 105) rfl rfl Try.func34 (by kernel_rfl) rfl #[.slice Ao75 t227.length co75, .int .i64 1] rfl (by (try simp only [List.map_toArray, List.map_cons, List.map_nil]); first | done | (rw [show t227.length = t207.length from (Kd.R_reads' HO_14.out).1.symm] <;> rfl) | rfl | (simp only [List.length_drop, List.length_take]; rfl)) ?_; (with_reducible refine (laws_heldIntS.calls kj51 _ _ t227 1 t228 _ ?side1 ?side2 A73.out).mono ?_); (case side1 => repeat (first | exact (Kd.R_reads' HO_14.out).2.2 | (with_reducible refine Kd.C_alloc ?_ _) | (with_reducible refine Kd.C_drewN ?_ _) | (with_reducible refine Kd.C_drew ?_))); (case side2 => rw [show t227.length = t207.length from (Kd.R_reads' HO_14.out).1.symm]; exact (Kd.R_reads' HO_14.out).2.1); rintro e w' ⟨rfl, ⟨nd, rfl⟩⟩; refine ⟨_, rfl, ?_⟩))
                        go_ret
                        exact ⟨by first | rfl | (simp [errW_none, errW_some] <;> rfl) | (simp [*, errW_none, errW_some] <;> rfl), by repeat (first | (with_reducible first | exact HB.out | apply below_alloc | apply pw_below_drewN | apply below_drew1 | refine below_set ?_ GE184.out | refine below_set ?_ GE205.out) | exact HB.out)⟩
                      · rw [if_neg c74] at H
                        have c74b0 : decide (t228 < 0) = false := decide_eq_false c74
                        clear c74
                        by_cases c77 : t228 = t226
                        · rw [if_pos c77] at H
                          have c77b0 : (t228 == t226) = true := beq_iff_eq.mpr c77
                          have c77b1 : (t228 != t226) = false := bne_eq_false_iff_eq.mpr c77
                          clear c77
                          replace H := Option.bind_eq_some_iff.mp H
                          obtain ⟨t229, A780, H⟩ := H
                          replace H : ((laws_toPattern.f kj51 l2_0 a2_1).bind fun bt232 => ((impl_FitsAt.f kj51 t229 a1 bt232.1 bt232.2).bind fun bt236 => (if (bt236.1 != t193) = true then (laws_FnExactFitsAt.j2 kj51 t227 t226 true) else ((laws_eqIntS.f kj51 bt236.2.1 t194).bind fun t241 => (if t241 = true then (laws_FnExactFitsAt.j2 kj51 t227 t226 (bt236.2.2 != t197)) else (laws_FnExactFitsAt.j2 kj51 t227 t226 true)))))) = some r := H
                          have A78 := Aside0.mk A780
                          clear A780
                          replace H := Option.bind_eq_some_iff.mp H
                          obtain ⟨⟨t232, t235⟩, A790, H⟩ := H
                          replace H : ((impl_FitsAt.f kj51 t229 a1 t232 t235).bind fun bt236 => (if (bt236.1 != t193) = true then (laws_FnExactFitsAt.j2 kj51 t227 t226 true) else ((laws_eqIntS.f kj51 bt236.2.1 t194).bind fun t241 => (if t241 = true then (laws_FnExactFitsAt.j2 kj51 t227 t226 (bt236.2.2 != t197)) else (laws_FnExactFitsAt.j2 kj51 t227 t226 true))))) = some r := H
                          have A79 := Aside0.mk A790
                          clear A790
                          replace H := Option.bind_eq_some_iff.mp H
                          obtain ⟨⟨t236, t237, t240⟩, A800, H⟩ := H
                          replace H : (if (t236 != t193) = true then (laws_FnExactFitsAt.j2 kj51 t227 t226 true) else ((laws_eqIntS.f kj51 t237 t194).bind fun t241 => (if t241 = true then (laws_FnExactFitsAt.j2 kj51 t227 t226 (t240 != t197)) else (laws_FnExactFitsAt.j2 kj51 t227 t226 true)))) = some r := H
                          have A80 := Aside0.mk A800
                          clear A800
                          have HC81 := Aside0.mk H
                          clear H
                          obtain ⟨Ao82, co82, eo82⟩ := Kd.R_slice HO_14.out
                          subst eo82
                          try go_wp2_with (first | ((with_reducible refine gate_callee (f := 32) rfl ?_); refine goesL_ (some 102) rfl rfl Try.func32 (by kernel_rfl) rfl #[.slice Ao82 t207.length co82, .int .i64 1] rfl (by (try simp only [List.map_toArray, List.map_cons, List.map_nil]); first | done | rfl | (simp only [List.length_drop, List.length_take]; rfl)) ?_; (with_reducible refine (laws_markIntS.calls kj51 (fun k_ => some k_ = (.slice Ao82 t207.length co82 : Value).ownBlock) (.slice Ao82 t207.length co82) t207 1 t226 t227 w _ ?side1 ?side2 A72.out).mono ?_); (case side1 => repeat (first | (with_reducible first | exact HB.out | apply below_alloc | apply pw_below_drewN | apply below_drew1 | refine below_set ?_ GE184.out | refine below_set ?_ GE205.out) | exact HB.out)); (case side2 => exact Kd.R_tight rfl HO_14.out); rintro e w83 ⟨rfl, hy0, hb, hkp⟩; refine ⟨_, rfl, ?_⟩; have n0_ := Aside0.mk (Kd.R_mono (ok' := fun k_ => some k_ ≠ (.slice Ao82 t207.length co82 : Value).ownBlock ∧ some k_ ≠ (.slice Ao31 t224.length co31 : Value).ownBlock) (Kd.R_keptB (HO_9.out) hkp (fun k_ hk_ hs_ => by first | exact (hk_.1) hs_ | (exact absurd hs_ (by (try simp only [ne_eq, true_and] at hk_); simp only [ne_eq, hk_, not_false_eq_true])))) (fun k_ hk_ => by first | exact ⟨hk_.1.1, hk_.1.2⟩ | ((try simp only [ne_eq, true_and] at hk_); simp only [ne_eq, hk_, not_false_eq_true, and_self, true_and, and_true]))); have n1_ := Aside0.mk (Kd.R_reok rfl hy0 (fun k_ e_ => HO_14.out.1 k_ e_)); have n2_ := Aside0.mk (Kd.R_mono (ok' := fun k_ => some k_ ≠ (v195 : Value).ownBlock ∧ some k_ ≠ (.slice Ao82 t207.length co82 : Value).ownBlock) (Kd.R_keptB (HO_206000.out) hkp (fun k_ hk_ hs_ => by first | exact (hk_.2) hs_ | (exact absurd hs_ (by (try simp only [ne_eq, true_and] at hk_); simp only [ne_eq, hk_, not_false_eq_true])))) (fun k_ hk_ => by first | exact ⟨hk_.1.1, hk_.1.2⟩ | ((try simp only [ne_eq, true_and] at hk_); simp only [ne_eq, hk_, not_false_eq_true, and_self, true_and, and_true]))); have n3_ := Aside0.mk (blk_kept (by (with_reducible repeat (first | refine blk_drewN ?_ _ | refine blk_drew ?_ | refine blk_alloc ?_ _)); exact BK184.out) hkp (fun hs_ => (fun e_ => (Kd.R_ne HO_14.out BK184.out (by decide)) e_) hs_)); have n4_ := Aside0.mk (blk_kept (by (with_reducible repeat (first | refine blk_drewN ?_ _ | refine blk_drew ?_ | refine blk_alloc ?_ _)); exact BK205.out) hkp (fun hs_ => (fun e_ => (Kd.R_ne HO_14.out BK205.out (by decide)) e_) hs_)); have n5_ := Aside0.mk (hb); clear HO_9; clear HO_14; clear HO_206000; clear BK184; clear BK205; clear HB; have HO_9 := n0_; have HO_14 := n1_; have HO_206000 := n2_; have BK184 := n3_; have BK205 := n4_; have HB := n5_; clear n0_ n1_ n2_ n3_ n4_ n5_; (try clear hb); (try clear hkp); (try clear hy0)) | ((with_reducible refine gate_callee (f := 34) rfl ?_); refine goesL_ (some 105) rfl rfl Try.func34 (by kernel_rfl) rfl #[.slice Ao82 t227.length co82, .int .i64 1] rfl (by (try simp only [List.map_toArray, List.map_cons, List.map_nil]); first | done | (rw [show t227.length = t207.length from (Kd.R_reads' HO_14.out).1.symm] <;> rfl) | rfl | (simp only [List.length_drop, List.length_take]; rfl)) ?_; (with_reducible refine (laws_heldIntS.calls kj51 _ _ t227 1 t228 _ ?side1 ?side2 A73.out).mono ?_); (case side1 => repeat (first | exact (Kd.R_reads' HO_14.out).2.2 | (with_reducible refine Kd.C_alloc ?_ _) | (with_reducible refine Kd.C_drewN ?_ _) | (with_reducible refine Kd.C_drew ?_))); (case side2 => rw [show t227.length = t207.length from (Kd.R_reads' HO_14.out).1.symm]; exact (Kd.R_reads' HO_14.out).2.1); rintro e w' ⟨rfl, ⟨nd, rfl⟩⟩; refine ⟨_, rfl, ?_⟩))
                          (try (rw [drewN_self w83]; generalize hq_ : World.drewN w83 _ = w83; have n0_ : Aside0 (Kd.R (Kd.int .i64) 3 w83 w.heap.size (fun k_ => some k_ ≠ (.slice Ao31 t224.length co31 : Value).ownBlock ∧ some k_ ≠ (v195 : Value).ownBlock) (.slice Ao82 t207.length co82) t227) := ⟨by rw [← hq_]; exact (by (with_reducible repeat (first | apply Kd.R_alloc | apply Kd.R_drewN | apply Kd.R_drew)); exact Kd.R_mono HO_14.out (fun _ hk => by first | exact ⟨hk.2, hk.1⟩ | ((try simp only [ne_eq, true_and] at hk); simp only [ne_eq, hk, not_false_eq_true, and_self, true_and, and_true])))⟩; have n1_ : Aside0 (Kd.R (Kd.int .i64) 3 w83 w.heap.size (fun k_ => some k_ ≠ (.slice Ao82 t207.length co82 : Value).ownBlock ∧ some k_ ≠ (v195 : Value).ownBlock) (.slice Ao31 t224.length co31) t224) := ⟨by rw [← hq_]; exact (by (with_reducible repeat (first | apply Kd.R_alloc | apply Kd.R_drewN | apply Kd.R_drew)); exact Kd.R_mono HO_206000.out (fun _ hk => by first | exact ⟨hk.2, hk.1⟩ | ((try simp only [ne_eq, true_and] at hk); simp only [ne_eq, hk, not_false_eq_true, and_self, true_and, and_true])))⟩; have n2_ : Aside0 (Kd.R (Kd.int .i64) 3 w83 w.heap.size (fun k_ => some k_ ≠ (.slice Ao82 t207.length co82 : Value).ownBlock ∧ some k_ ≠ (.slice Ao31 t224.length co31 : Value).ownBlock) v195 t194) := ⟨by rw [← hq_]; exact (by (with_reducible repeat (first | apply Kd.R_alloc | apply Kd.R_drewN | apply Kd.R_drew)); exact HO_9.out)⟩; have n3_ : Aside0 (w83.heap[gb184]? = some (.cells #[.slice A2_0 l2_0.length c2_0, .int .i64 a2_1] 42 (0, 0))) := ⟨by rw [← hq_]; exact (by (with_reducible repeat (first | refine blk_drewN ?_ _ | refine blk_drew ?_ | refine blk_alloc ?_ _)); exact BK184.out)⟩; have n4_ : Aside0 (w83.heap[gb205]? = some (.cells #[.slice Ao31 t224.length co31, .int .i64 t204] 46 (0, 0))) := ⟨by rw [← hq_]; exact (by (with_reducible repeat (first | refine blk_drewN ?_ _ | refine blk_drew ?_ | refine blk_alloc ?_ _)); exact BK205.out)⟩; have n5_ : Aside0 (Below w.heap.size w w83) := ⟨by rw [← hq_]; exact (by repeat (first | (with_reducible first | exact HB.out | apply below_alloc | apply pw_below_drewN | apply below_drew1 | refine below_set ?_ GE184.out | refine below_set ?_ GE205.out) | exact HB.out))⟩; clear HO_14 HO_206000 HO_9 BK184 BK205 HB hq_; have HO_14 := n0_; have HO_206000 := n1_; have HO_9 := n2_; have BK184 := n3_; have BK205 := n4_; have HB := n5_; clear n0_ n1_ n2_ n3_ n4_ n5_))
                          have n0_ := Aside0.mk (Kd.R_drew HO_9.out)
                          have n1_ := Aside0.mk (Kd.R_drew HO_14.out)
                          have n2_ := Aside0.mk (Kd.R_drew HO_206000.out)
                          have n3_ := Aside0.mk (blk_drew BK184.out)
                          have n4_ := Aside0.mk (blk_drew BK205.out)
                          have n5_ := Aside0.mk (below_drew1 HB.out)
                          clear HO_9
                          clear HO_14
                          clear HO_206000
                          clear BK184
                          clear BK205
                          clear HB
                          have HO_9 := n0_
                          have HO_14 := n1_
                          have HO_206000 := n2_
                          have BK184 := n3_
                          have BK205 := n4_
                          have HB := n5_
                          clear n0_ n1_ n2_ n3_ n4_ n5_
                          refine start_ (n := 13) (S := fun w' => w'.cell? ⟨gb184, 0, none⟩ = some (.slice A2_0 l2_0.length c2_0) ∧ w'.cell? ⟨gb184, 1, none⟩ = some (.int .i64 a2_1)) (ds := []) #[false, false, false, false, false, false, false, false, false, false, false, false, false] (by kernel_rfl) rfl rfl ⟨(blk_cell BK184.out 0).trans rfl, (blk_cell BK184.out 1).trans rfl⟩ (fun hHeld => ?_); refine with_tabW laws_FnExactFitsAt.tab30 laws_FnExactFitsAt.bits30 (fun HT_ HW_ => ?_)
                          generalize w83.drew = w84 at HO_9 HO_14 HO_206000 BK184 BK205 HB hHeld ⊢
                          refine pure_ (i := 0) (N := some 112) (v := ?_) (a' := ?_) #[true, false, false, false, false, false, false, false, false, false, false, false, false] rfl rfl (any_of HT_.out (by kernel_rfl)) (fun _ _ _ h => h) (Or.inl ⟨by rfl, ?_⟩) ?_ ?_
                          rotate_left
                          · intro w'
                            go_simp
                            with_reducible rfl
                          rotate_left
                          · simp only [Act.put, List.setIfInBounds_toArray, List.set_cons_zero, List.set_cons_succ, i64_w, i32_w]
                            rfl
                          refine pure_ (i := 2) (N := some 114) (v := ?_) (a' := ?_) #[true, false, true, false, false, false, false, false, false, false, false, false, false] rfl rfl (any_of HT_.out (by kernel_rfl)) (fun _ _ _ h => h) (Or.inl ⟨by rfl, ?_⟩) ?_ ?_
                          rotate_left
                          · intro w'
                            go_simp
                            with_reducible rfl
                          rotate_left
                          · simp only [Act.put, List.setIfInBounds_toArray, List.set_cons_zero, List.set_cons_succ, i64_w, i32_w]
                            rfl
                          refine take_ (i := 3) (N := some 115) (v := ?_) (a' := ?_) #[true, false, true, true, false, false, false, false, false, false, false, false, false] rfl rfl (take_ofW HT_.out HW_.out (by kernel_rfl)) (fun _ _ _ h => h) (Or.inl ⟨by rfl, ?_⟩) hHeld ?_ ?_
                          rotate_left
                          · rintro w' ⟨s0, s1⟩
                            go_simp
                            with_reducible rfl
                          rotate_left
                          · simp only [Act.put, List.setIfInBounds_toArray, List.set_cons_zero, List.set_cons_succ, i64_w, i32_w]
                            rfl
                          refine one_ (i := 1) (N := some 113) #[true, true, true, true, false, false, false, false, false, false, false, false, false] rfl rfl (one_of HT_.out (by kernel_rfl)) (by decide) (fun K hK => ?_)
                          refine goes_ Try.func12 (by kernel_rfl) rfl #[.slice A0 l0.length c0] (by rfl) rfl rfl (by (try simp only [List.map_toArray, List.map_cons, List.map_nil]); first | done | rfl | (simp only [List.length_drop, List.length_take]; rfl)) ?_
                          with_reducible refine (laws_toIntS.calls kj51 _ _ l0 t229 _ ?side1 ?side2 A78.out).mono ?_
                          (case side1 => repeat (first | exact (Kd.C_below HR0.out HB.out) | (with_reducible refine Kd.C_alloc ?_ _) | (with_reducible refine Kd.C_drewN ?_ _) | (with_reducible refine Kd.C_drew ?_)))
                          (case side2 => exact HC0.out)
                          rintro e w85 ⟨v230, rfl, ho0, hb⟩
                          refine ⟨_, rfl, ?_⟩
                          have n0_ := Aside0.mk (Kd.R_elder' (by (with_reducible repeat (first | apply Kd.R_alloc | apply Kd.R_drewN | apply Kd.R_drew)); exact HO_9.out) (Kd.R_base ho0) hb)
                          have n1_ := Aside0.mk (Kd.R_elder' (by (with_reducible repeat (first | apply Kd.R_alloc | apply Kd.R_drewN | apply Kd.R_drew)); exact HO_14.out) (Kd.R_base ho0) hb)
                          have n2_ := Aside0.mk (Kd.R_elder' (by (with_reducible repeat (first | apply Kd.R_alloc | apply Kd.R_drewN | apply Kd.R_drew)); exact HO_206000.out) (Kd.R_base ho0) hb)
                          have n3_ := Aside0.mk (Kd.R_lower (Kd.R_new' (Kd.R_new' (Kd.R_new' ho0 (Kd.R_lt (by (with_reducible repeat (first | apply Kd.R_alloc | apply Kd.R_drewN | apply Kd.R_drew)); exact HO_9.out))) (Kd.R_lt (by (with_reducible repeat (first | apply Kd.R_alloc | apply Kd.R_drewN | apply Kd.R_drew)); exact HO_14.out))) (Kd.R_lt (by (with_reducible repeat (first | apply Kd.R_alloc | apply Kd.R_drewN | apply Kd.R_drew)); exact HO_206000.out))) (below_size (by repeat (first | (with_reducible first | exact HB.out | apply below_alloc | apply pw_below_drewN | apply below_drew1 | refine below_set ?_ GE184.out | refine below_set ?_ GE205.out) | exact HB.out))))
                          have n4_ := Aside0.mk (blk_below (g := gb184) (o := .cells #[.slice A2_0 l2_0.length c2_0, .int .i64 a2_1] 42 (0, 0)) (by (with_reducible repeat (first | refine blk_drewN ?_ _ | refine blk_drew ?_ | refine blk_alloc ?_ _)); exact BK184.out) hb)
                          have n5_ := Aside0.mk (blk_below (g := gb205) (o := .cells #[.slice Ao31 t224.length co31, .int .i64 t204] 46 (0, 0)) (by (with_reducible repeat (first | refine blk_drewN ?_ _ | refine blk_drew ?_ | refine blk_alloc ?_ _)); exact BK205.out) hb)
                          have n6_ := Aside0.mk (below_step (by repeat (first | (with_reducible first | exact HB.out | apply below_alloc | apply pw_below_drewN | apply below_drew1 | refine below_set ?_ GE184.out | refine below_set ?_ GE205.out) | exact HB.out)) hb)
                          clear HO_9
                          clear HO_14
                          clear HO_206000
                          clear BK184
                          clear BK205
                          clear HB
                          have HO_9 := n0_
                          have HO_14 := n1_
                          have HO_206000 := n2_
                          have HO231 := n3_
                          have BK184 := n4_
                          have BK205 := n5_
                          have HB := n6_
                          clear n0_ n1_ n2_ n3_ n4_ n5_ n6_
                          (try clear hb)
                          (try clear hb2)
                          (try clear hk)
                          (try clear hi)
                          (try clear ho0)
                          refine hK.out _ _ ⟨(blk_cell BK184.out 0).trans rfl, (blk_cell BK184.out 1).trans rfl⟩ (fun hHeld => ?_)
                          clear hK K
                          refine norm_ (a' := ?_) ?_ ?_
                          rotate_left
                          · show Act.put _ (some 113) _ = _
                            simp only [Act.put, List.setIfInBounds_toArray, List.set_cons_zero, List.set_cons_succ, i64_w, i32_w]
                            rfl
                          refine one_ (i := 4) (N := some 116) #[true, true, true, true, true, false, false, false, false, false, false, false, false] rfl rfl (one_of HT_.out (by kernel_rfl)) (by decide) (fun K hK => ?_)
                          refine goes_ Try.func29 (by kernel_rfl) rfl #[.agg #[.slice A2_0 l2_0.length c2_0, .int .i64 a2_1]] (by rfl) rfl rfl (by (try simp only [List.map_toArray, List.map_cons, List.map_nil]); first | done | rfl | (simp only [List.length_drop, List.length_take]; rfl)) ?_
                          with_reducible refine (laws_toPattern.calls kj51 _ _ l2_0 a2_1 t232 t235 _ ?side1 ?side2 A79.out).mono ?_
                          (case side1 => repeat (first | exact (Kd.C_below HR2_0.out HB.out) | (with_reducible refine Kd.C_alloc ?_ _) | (with_reducible refine Kd.C_drewN ?_ _) | (with_reducible refine Kd.C_drew ?_)))
                          (case side2 => exact HC2_0.out)
                          rintro e w86 ⟨v233, rfl, ho0, hb⟩
                          refine ⟨_, rfl, ?_⟩
                          have n0_ := Aside0.mk (Kd.R_elder' (by (with_reducible repeat (first | apply Kd.R_alloc | apply Kd.R_drewN | apply Kd.R_drew)); exact HO_9.out) (Kd.R_base ho0) hb)
                          have n1_ := Aside0.mk (Kd.R_elder' (by (with_reducible repeat (first | apply Kd.R_alloc | apply Kd.R_drewN | apply Kd.R_drew)); exact HO_14.out) (Kd.R_base ho0) hb)
                          have n2_ := Aside0.mk (Kd.R_elder' (by (with_reducible repeat (first | apply Kd.R_alloc | apply Kd.R_drewN | apply Kd.R_drew)); exact HO_206000.out) (Kd.R_base ho0) hb)
                          have n3_ := Aside0.mk (Kd.R_elder' (by (with_reducible repeat (first | apply Kd.R_alloc | apply Kd.R_drewN | apply Kd.R_drew)); exact HO231.out) (Kd.R_base ho0) hb)
                          have n4_ := Aside0.mk (Kd.R_lower (Kd.R_new' (Kd.R_new' (Kd.R_new' (Kd.R_new' ho0 (Kd.R_lt (by (with_reducible repeat (first | apply Kd.R_alloc | apply Kd.R_drewN | apply Kd.R_drew)); exact HO_9.out))) (Kd.R_lt (by (with_reducible repeat (first | apply Kd.R_alloc | apply Kd.R_drewN | apply Kd.R_drew)); exact HO_14.out))) (Kd.R_lt (by (with_reducible repeat (first | apply Kd.R_alloc | apply Kd.R_drewN | apply Kd.R_drew)); exact HO_206000.out))) (Kd.R_lt (by (with_reducible repeat (first | apply Kd.R_alloc | apply Kd.R_drewN | apply Kd.R_drew)); exact HO231.out))) (below_size (by repeat (first | (with_reducible first | exact HB.out | apply below_alloc | apply pw_below_drewN | apply below_drew1 | refine below_set ?_ GE184.out | refine below_set ?_ GE205.out) | exact HB.out))))
                          have n5_ := Aside0.mk (blk_below (g := gb184) (o := .cells #[.slice A2_0 l2_0.length c2_0, .int .i64 a2_1] 42 (0, 0)) (by (with_reducible repeat (first | refine blk_drewN ?_ _ | refine blk_drew ?_ | refine blk_alloc ?_ _)); exact BK184.out) hb)
                          have n6_ := Aside0.mk (blk_below (g := gb205) (o := .cells #[.slice Ao31 t224.length co31, .int .i64 t204] 46 (0, 0)) (by (with_reducible repeat (first | refine blk_drewN ?_ _ | refine blk_drew ?_ | refine blk_alloc ?_ _)); exact BK205.out) hb)
                          have n7_ := Aside0.mk (below_step (by repeat (first | (with_reducible first | exact HB.out | apply below_alloc | apply pw_below_drewN | apply below_drew1 | refine below_set ?_ GE184.out | refine below_set ?_ GE205.out) | exact HB.out)) hb)
                          clear HO_9
                          clear HO_14
                          clear HO_206000
                          clear HO231
                          clear BK184
                          clear BK205
                          clear HB
                          have HO_9 := n0_
                          have HO_14 := n1_
                          have HO_206000 := n2_
                          have HO231 := n3_
                          have HO234 := n4_
                          have BK184 := n5_
                          have BK205 := n6_
                          have HB := n7_
                          clear n0_ n1_ n2_ n3_ n4_ n5_ n6_ n7_
                          (try clear hb)
                          (try clear hb2)
                          (try clear hk)
                          (try clear hi)
                          (try clear ho0)
                          obtain ⟨Ao87, co87, eo87⟩ := Kd.R_slice HO231.out
                          (first | subst eo87 | (injection eo87 with f1_ f2_ f3_; have f4_ := f1_.symm; have f5_ := f3_.symm; clear f1_ f2_ f3_; subst f4_; subst f5_))
                          obtain ⟨Ao88, co88, eo88⟩ := Kd.R_slice HO234.out
                          (first | subst eo88 | (injection eo88 with f1_ f2_ f3_; have f4_ := f1_.symm; have f5_ := f3_.symm; clear f1_ f2_ f3_; subst f4_; subst f5_))
                          refine hK.out _ _ ⟨(blk_cell BK184.out 0).trans rfl, (blk_cell BK184.out 1).trans rfl⟩ (fun hHeld => ?_)
                          clear hK K
                          refine norm_ (a' := ?_) ?_ ?_
                          rotate_left
                          · show Act.put _ (some 116) _ = _
                            simp only [Act.put, List.setIfInBounds_toArray, List.set_cons_zero, List.set_cons_succ, i64_w, i32_w]
                            rfl
                          refine one_ (i := 5) (N := some 117) #[true, true, true, true, true, true, false, false, false, false, false, false, false] rfl rfl (one_of HT_.out (by kernel_rfl)) (by decide) (fun K hK => ?_)
                          refine goes_ Try.func30 (by kernel_rfl) rfl #[.slice Ao87 t229.length co87, .int .i64 a1, .agg #[.slice Ao88 t232.length co88, .int .i64 t235]] (by rfl) rfl rfl (by (try simp only [List.map_toArray, List.map_cons, List.map_nil]); first | done | rfl | (simp only [List.length_drop, List.length_take]; rfl)) ?_
                          with_reducible refine (impl_FitsAt.calls kj51 _ _ t229 a1 _ _ t232 t235 t236 t237 t240 _ ?side1 ?side2 ?side3 ?side4 A80.out).mono ?_
                          (case side1 => repeat (first | exact (Kd.R_reads' HO231.out).2.2 | (with_reducible refine Kd.C_alloc ?_ _) | (with_reducible refine Kd.C_drewN ?_ _) | (with_reducible refine Kd.C_drew ?_)))
                          (case side2 => exact (Kd.R_reads' HO231.out).2.1)
                          (case side3 => repeat (first | exact (Kd.R_reads' HO234.out).2.2 | (with_reducible refine Kd.C_alloc ?_ _) | (with_reducible refine Kd.C_drewN ?_ _) | (with_reducible refine Kd.C_drew ?_)))
                          (case side4 => exact (Kd.R_reads' HO234.out).2.1)
                          rintro e w89 ⟨v238, rfl, ho0, hb⟩
                          refine ⟨_, rfl, ?_⟩
                          have n0_ := Aside0.mk (Kd.R_elder' (by (with_reducible repeat (first | apply Kd.R_alloc | apply Kd.R_drewN | apply Kd.R_drew)); exact HO_9.out) (Kd.R_base ho0) hb)
                          have n1_ := Aside0.mk (Kd.R_elder' (by (with_reducible repeat (first | apply Kd.R_alloc | apply Kd.R_drewN | apply Kd.R_drew)); exact HO_14.out) (Kd.R_base ho0) hb)
                          have n2_ := Aside0.mk (Kd.R_elder' (by (with_reducible repeat (first | apply Kd.R_alloc | apply Kd.R_drewN | apply Kd.R_drew)); exact HO_206000.out) (Kd.R_base ho0) hb)
                          have n3_ := Aside0.mk (Kd.R_elder' (by (with_reducible repeat (first | apply Kd.R_alloc | apply Kd.R_drewN | apply Kd.R_drew)); exact HO231.out) (Kd.R_base ho0) hb)
                          have n4_ := Aside0.mk (Kd.R_elder' (by (with_reducible repeat (first | apply Kd.R_alloc | apply Kd.R_drewN | apply Kd.R_drew)); exact HO234.out) (Kd.R_base ho0) hb)
                          have n5_ := Aside0.mk (Kd.R_lower (Kd.R_new' (Kd.R_new' (Kd.R_new' (Kd.R_new' (Kd.R_new' ho0 (Kd.R_lt (by (with_reducible repeat (first | apply Kd.R_alloc | apply Kd.R_drewN | apply Kd.R_drew)); exact HO_9.out))) (Kd.R_lt (by (with_reducible repeat (first | apply Kd.R_alloc | apply Kd.R_drewN | apply Kd.R_drew)); exact HO_14.out))) (Kd.R_lt (by (with_reducible repeat (first | apply Kd.R_alloc | apply Kd.R_drewN | apply Kd.R_drew)); exact HO_206000.out))) (Kd.R_lt (by (with_reducible repeat (first | apply Kd.R_alloc | apply Kd.R_drewN | apply Kd.R_drew)); exact HO231.out))) (Kd.R_lt (by (with_reducible repeat (first | apply Kd.R_alloc | apply Kd.R_drewN | apply Kd.R_drew)); exact HO234.out))) (below_size (by repeat (first | (with_reducible first | exact HB.out | apply below_alloc | apply pw_below_drewN | apply below_drew1 | refine below_set ?_ GE184.out | refine below_set ?_ GE205.out) | exact HB.out))))
                          have n6_ := Aside0.mk (blk_below (g := gb184) (o := .cells #[.slice A2_0 l2_0.length c2_0, .int .i64 a2_1] 42 (0, 0)) (by (with_reducible repeat (first | refine blk_drewN ?_ _ | refine blk_drew ?_ | refine blk_alloc ?_ _)); exact BK184.out) hb)
                          have n7_ := Aside0.mk (blk_below (g := gb205) (o := .cells #[.slice Ao31 t224.length co31, .int .i64 t204] 46 (0, 0)) (by (with_reducible repeat (first | refine blk_drewN ?_ _ | refine blk_drew ?_ | refine blk_alloc ?_ _)); exact BK205.out) hb)
                          have n8_ := Aside0.mk (below_step (by repeat (first | (with_reducible first | exact HB.out | apply below_alloc | apply pw_below_drewN | apply below_drew1 | refine below_set ?_ GE184.out | refine below_set ?_ GE205.out) | exact HB.out)) hb)
                          clear HO_9
                          clear HO_14
                          clear HO_206000
                          clear HO231
                          clear HO234
                          clear BK184
                          clear BK205
                          clear HB
                          have HO_9 := n0_
                          have HO_14 := n1_
                          have HO_206000 := n2_
                          have HO231 := n3_
                          have HO234 := n4_
                          have HO239 := n5_
                          have BK184 := n6_
                          have BK205 := n7_
                          have HB := n8_
                          clear n0_ n1_ n2_ n3_ n4_ n5_ n6_ n7_ n8_
                          (try clear hb)
                          (try clear hb2)
                          (try clear hk)
                          (try clear hi)
                          (try clear ho0)
                          refine hK.out _ _ ⟨(blk_cell BK184.out 0).trans rfl, (blk_cell BK184.out 1).trans rfl⟩ (fun hHeld => ?_)
                          clear hK K
                          refine norm_ (a' := ?_) ?_ ?_
                          rotate_left
                          · show Act.put _ (some 117) _ = _
                            simp only [Act.put, List.setIfInBounds_toArray, List.set_cons_zero, List.set_cons_succ, i64_w, i32_w]
                            rfl
                          refine pure_ (i := 6) (N := some 111) (v := ?_) (a' := ?_) #[true, true, true, true, true, true, true, false, false, false, false, false, false] rfl rfl (any_of HT_.out (by kernel_rfl)) (fun _ _ _ h => h) (Or.inl ⟨by rfl, ?_⟩) ?_ ?_
                          rotate_left
                          · intro w'
                            go_simp
                            with_reducible rfl
                          rotate_left
                          · simp only [Act.put, List.setIfInBounds_toArray, List.set_cons_zero, List.set_cons_succ, i64_w, i32_w]
                            rfl
                          refine pure_ (i := 7) (N := some 118) (v := ?_) (a' := ?_) #[true, true, true, true, true, true, true, true, false, false, false, false, false] rfl rfl (any_of HT_.out (by kernel_rfl)) (fun _ _ _ h => h) (Or.inl ⟨by rfl, ?_⟩) ?_ ?_
                          rotate_left
                          · intro w'
                            go_simp
                            with_reducible rfl
                          rotate_left
                          · simp only [Act.put, List.setIfInBounds_toArray, List.set_cons_zero, List.set_cons_succ, i64_w, i32_w]
                            rfl
                          refine pure_ (i := 8) (N := some 119) (v := ?_) (a' := ?_) #[true, true, true, true, true, true, true, true, true, false, false, false, false] rfl rfl (any_of HT_.out (by kernel_rfl)) (fun _ _ _ h => h) (Or.inl ⟨by rfl, ?_⟩) ?_ ?_
                          rotate_left
                          · intro w'
                            go_simp
                            with_reducible rfl
                          rotate_left
                          · simp only [Act.put, List.setIfInBounds_toArray, List.set_cons_zero, List.set_cons_succ, i64_w, i32_w]
                            rfl
                          refine pure_ (i := 9) (N := some 120) (v := ?_) (a' := ?_) #[true, true, true, true, true, true, true, true, true, true, false, false, false] rfl rfl (any_of HT_.out (by kernel_rfl)) (fun _ _ _ h => h) (Or.inl ⟨by rfl, ?_⟩) ?_ ?_
                          rotate_left
                          · intro w'
                            go_simp
                            with_reducible rfl
                          rotate_left
                          · simp only [Act.put, List.setIfInBounds_toArray, List.set_cons_zero, List.set_cons_succ, i64_w, i32_w]
                            rfl
                          refine pure_ (i := 10) (N := some 19) (v := ?_) (a' := ?_) #[true, true, true, true, true, true, true, true, true, true, true, false, false] rfl rfl (any_of HT_.out (by kernel_rfl)) (fun _ _ _ h => h) (Or.inl ⟨by rfl, ?_⟩) ?_ ?_
                          rotate_left
                          · intro w'
                            go_simp
                            with_reducible rfl
                          rotate_left
                          · simp only [Act.put, List.setIfInBounds_toArray, List.set_cons_zero, List.set_cons_succ, i64_w, i32_w]
                            rfl
                          refine pure_ (i := 11) (N := some 20) (v := ?_) (a' := ?_) #[true, true, true, true, true, true, true, true, true, true, true, true, false] rfl rfl (any_of HT_.out (by kernel_rfl)) (fun _ _ _ h => h) (Or.inl ⟨by rfl, ?_⟩) ?_ ?_
                          rotate_left
                          · intro w'
                            go_simp
                            with_reducible rfl
                          rotate_left
                          · simp only [Act.put, List.setIfInBounds_toArray, List.set_cons_zero, List.set_cons_succ, i64_w, i32_w]
                            rfl
                          refine pure_ (i := 12) (N := some 21) (v := ?_) (a' := ?_) #[true, true, true, true, true, true, true, true, true, true, true, true, true] rfl rfl (any_of HT_.out (by kernel_rfl)) (fun _ _ _ h => h) (Or.inl ⟨by rfl, ?_⟩) ?_ ?_
                          rotate_left
                          · intro w'
                            go_simp
                            with_reducible rfl
                          rotate_left
                          · simp only [Act.put, List.setIfInBounds_toArray, List.set_cons_zero, List.set_cons_succ, i64_w, i32_w]
                            rfl
                          refine done_ (done_of HT_.out (by kernel_rfl)) ?_
                          go_upto_region 31 with (fail)
                          go_cut [134] (fun v134 wc => ∃ (kq : Nat) (x134_80 : Bool), v134 = .bool x134_80 ∧ Aside0 (laws_FnExactFitsAt.j2 kq t227 t226 x134_80 = some r) ∧ Aside0 (kq ≤ kj51) ∧ Aside0 (Kd.R (Kd.int .i64) 3 wc w.heap.size (fun k_ => some k_ ≠ ((.slice Ao31 t224.length co31) : Value).ownBlock) (.slice Ao82 t207.length co82) t227) ∧ Aside0 (Kd.R (Kd.int .i64) 3 wc w.heap.size (fun k_ => some k_ ≠ ((.slice Ao82 t207.length co82) : Value).ownBlock) (.slice Ao31 t224.length co31) t224) ∧ Aside0 (wc.heap[gb184]? = some (.cells #[(.slice A2_0 l2_0.length c2_0), .int .i64 a2_1] 42 (0, 0))) ∧ Aside0 (wc.heap[gb205]? = some (.cells #[(.slice Ao31 t224.length co31), .int .i64 t204] 46 (0, 0))) ∧ Aside0 (Below w.heap.size w wc))
                          case first =>
                            have H := HC81.out
                            clear HC81
                            by_cases c90 : (t236 != t193) = true
                            · rw [if_pos c90] at H
                              have c90b0 : (t236 != t193) = true := c90
                              (try (have c90b1 : decide (t236 = t193) = false := by simpa using c90))
                              (try (have c90b2 : (t236 == t193) = false := by simpa using c90))
                              (try (have c90b3 : ¬ (t236 = t193) := by simpa using c90))
                              clear c90
                              (first | rw [c90b0] | (simp only [i64_w, i32_w]; rw [c90b0]) | skip)
                              have H' := Aside0.mk H
                              clear H
                              go_wp2
                              go_meet
                              case rel => exact ⟨_, (true), (by first | rfl | (simp; done) | (simp [*]; done)), H', ⟨by have := HJ16.out; have := HJ51.out; first | omega | exact Nat.le_refl _⟩, ⟨by (try simp only [hl206000_51]); (with_reducible repeat (first | apply Kd.R_alloc | apply Kd.R_drewN | apply Kd.R_drew)); exact Kd.R_mono HO_14.out (fun _ hk => by first | exact hk.1.1.1.2 | ((try simp only [ne_eq, true_and] at hk); simp only [ne_eq, hk, not_false_eq_true, and_self, true_and, and_true]))⟩, ⟨by (try simp only [hl206000_51]); (with_reducible repeat (first | apply Kd.R_alloc | apply Kd.R_drewN | apply Kd.R_drew)); exact Kd.R_mono HO_206000.out (fun _ hk => by first | exact hk.1.1.1.2 | ((try simp only [ne_eq, true_and] at hk); simp only [ne_eq, hk, not_false_eq_true, and_self, true_and, and_true]))⟩, ⟨by (try simp only [hl206000_51]); (with_reducible repeat (first | refine blk_drewN ?_ _ | refine blk_drew ?_ | refine blk_alloc ?_ _)); exact BK184.out⟩, ⟨by (try simp only [hl206000_51]); (with_reducible repeat (first | refine blk_drewN ?_ _ | refine blk_drew ?_ | refine blk_alloc ?_ _)); exact BK205.out⟩, ⟨by repeat (first | (with_reducible first | exact HB.out | apply below_alloc | apply pw_below_drewN | apply below_drew1 | refine below_set ?_ GE184.out | refine below_set ?_ GE205.out) | exact HB.out)⟩⟩
                            · rw [if_neg c90] at H
                              have c90b0 : (t236 != t193) = false := by simpa using c90
                              (try (have c90b1 : decide (t236 = t193) = true := by simpa using c90))
                              (try (have c90b2 : (t236 == t193) = true := by simpa using c90))
                              clear c90
                              (first | rw [c90b0] | (simp only [i64_w, i32_w]; rw [c90b0]) | skip)
                              replace H := Option.bind_eq_some_iff.mp H
                              obtain ⟨t241, A910, H⟩ := H
                              replace H : (if t241 = true then (laws_FnExactFitsAt.j2 kj51 t227 t226 (t240 != t197)) else (laws_FnExactFitsAt.j2 kj51 t227 t226 true)) = some r := H
                              have A91 := Aside0.mk A910
                              clear A910
                              by_cases c92 : t241 = true
                              · subst c92
                                have H1 : (laws_FnExactFitsAt.j2 kj51 t227 t226 (t240 != t197)) = some r := by rw [if_pos rfl] at H; exact H
                                clear H
                                have H := H1
                                clear H1
                                have H' := Aside0.mk H
                                clear H
                                obtain ⟨Ao93, co93, eo93⟩ := Kd.R_slice HO239.out
                                subst eo93
                                obtain ⟨Ao94, co94, eo94⟩ := Kd.R_slice HO_9.out
                                subst eo94
                                go_wp2_with (first | (go_at_call 14; (with_reducible refine (laws_eqIntS.calls kj51 _ _ t237 _ _ t194 true _ ?side1 ?side2 ?side3 ?side4 A91.out).mono ?_); (case side1 => repeat (first | exact (Kd.R_reads' HO239.out).2.2 | (with_reducible refine Kd.C_alloc ?_ _) | (with_reducible refine Kd.C_drewN ?_ _) | (with_reducible refine Kd.C_drew ?_))); (case side2 => exact (Kd.R_reads' HO239.out).2.1); (case side3 => repeat (first | exact (Kd.R_reads' HO_9.out).2.2 | (with_reducible refine Kd.C_alloc ?_ _) | (with_reducible refine Kd.C_drewN ?_ _) | (with_reducible refine Kd.C_drew ?_))); (case side4 => exact (Kd.R_reads' HO_9.out).2.1); rintro e w' ⟨rfl, ⟨nd, rfl⟩⟩))
                                go_meet
                                case rel => exact ⟨_, ((t240 != t197)), (by first | rfl | (simp; done) | (simp [*]; done)), H', ⟨by have := HJ16.out; have := HJ51.out; first | omega | exact Nat.le_refl _⟩, ⟨by (try simp only [hl206000_51]); (with_reducible repeat (first | apply Kd.R_alloc | apply Kd.R_drewN | apply Kd.R_drew)); exact Kd.R_mono HO_14.out (fun _ hk => by first | exact hk.1.1.1.2 | ((try simp only [ne_eq, true_and] at hk); simp only [ne_eq, hk, not_false_eq_true, and_self, true_and, and_true]))⟩, ⟨by (try simp only [hl206000_51]); (with_reducible repeat (first | apply Kd.R_alloc | apply Kd.R_drewN | apply Kd.R_drew)); exact Kd.R_mono HO_206000.out (fun _ hk => by first | exact hk.1.1.1.2 | ((try simp only [ne_eq, true_and] at hk); simp only [ne_eq, hk, not_false_eq_true, and_self, true_and, and_true]))⟩, ⟨by (try simp only [hl206000_51]); (with_reducible repeat (first | refine blk_drewN ?_ _ | refine blk_drew ?_ | refine blk_alloc ?_ _)); exact BK184.out⟩, ⟨by (try simp only [hl206000_51]); (with_reducible repeat (first | refine blk_drewN ?_ _ | refine blk_drew ?_ | refine blk_alloc ?_ _)); exact BK205.out⟩, ⟨by repeat (first | (with_reducible first | exact HB.out | apply below_alloc | apply pw_below_drewN | apply below_drew1 | refine below_set ?_ GE184.out | refine below_set ?_ GE205.out) | exact HB.out)⟩⟩
                              · replace c92 := Bool.eq_false_iff.mpr c92
                                subst c92
                                have H1 : (laws_FnExactFitsAt.j2 kj51 t227 t226 true) = some r := by rw [if_neg (show ¬ (false = true) by decide)] at H; exact H
                                clear H
                                have H := H1
                                clear H1
                                have H' := Aside0.mk H
                                clear H
                                obtain ⟨Ao95, co95, eo95⟩ := Kd.R_slice HO239.out
                                subst eo95
                                obtain ⟨Ao96, co96, eo96⟩ := Kd.R_slice HO_9.out
                                subst eo96
                                go_wp2_with (first | (go_at_call 14; (with_reducible refine (laws_eqIntS.calls kj51 _ _ t237 _ _ t194 false _ ?side1 ?side2 ?side3 ?side4 A91.out).mono ?_); (case side1 => repeat (first | exact (Kd.R_reads' HO239.out).2.2 | (with_reducible refine Kd.C_alloc ?_ _) | (with_reducible refine Kd.C_drewN ?_ _) | (with_reducible refine Kd.C_drew ?_))); (case side2 => exact (Kd.R_reads' HO239.out).2.1); (case side3 => repeat (first | exact (Kd.R_reads' HO_9.out).2.2 | (with_reducible refine Kd.C_alloc ?_ _) | (with_reducible refine Kd.C_drewN ?_ _) | (with_reducible refine Kd.C_drew ?_))); (case side4 => exact (Kd.R_reads' HO_9.out).2.1); rintro e w' ⟨rfl, ⟨nd, rfl⟩⟩))
                                go_meet
                                case rel => exact ⟨_, (true), (by first | rfl | (simp; done) | (simp [*]; done)), H', ⟨by have := HJ16.out; have := HJ51.out; first | omega | exact Nat.le_refl _⟩, ⟨by (try simp only [hl206000_51]); (with_reducible repeat (first | apply Kd.R_alloc | apply Kd.R_drewN | apply Kd.R_drew)); exact Kd.R_mono HO_14.out (fun _ hk => by first | exact hk.1.1.1.2 | ((try simp only [ne_eq, true_and] at hk); simp only [ne_eq, hk, not_false_eq_true, and_self, true_and, and_true]))⟩, ⟨by (try simp only [hl206000_51]); (with_reducible repeat (first | apply Kd.R_alloc | apply Kd.R_drewN | apply Kd.R_drew)); exact Kd.R_mono HO_206000.out (fun _ hk => by first | exact hk.1.1.1.2 | ((try simp only [ne_eq, true_and] at hk); simp only [ne_eq, hk, not_false_eq_true, and_self, true_and, and_true]))⟩, ⟨by (try simp only [hl206000_51]); (with_reducible repeat (first | refine blk_drewN ?_ _ | refine blk_drew ?_ | refine blk_alloc ?_ _)); exact BK184.out⟩, ⟨by (try simp only [hl206000_51]); (with_reducible repeat (first | refine blk_drewN ?_ _ | refine blk_drew ?_ | refine blk_alloc ?_ _)); exact BK205.out⟩, ⟨by repeat (first | (with_reducible first | exact HB.out | apply below_alloc | apply pw_below_drewN | apply below_drew1 | refine below_set ?_ GE184.out | refine below_set ?_ GE205.out) | exact HB.out)⟩⟩
                          case rest =>
                            clear HC81
                            try clear c1
                            try clear c2
                            try clear p2
                            try clear c3
                            try clear c4
                            try clear c4b0
                            try clear c4b1
                            try clear c6
                            try clear c7
                            try clear c7b0
                            try clear c9
                            try clear c12
                            try clear c14
                            try clear c27
                            try clear c28
                            try clear c29
                            try clear c30
                            try clear c31
                            try clear c32
                            try clear c33
                            try clear c34
                            try clear c36
                            try clear c36b0
                            try clear c36b1
                            try clear c36b2
                            try clear c38
                            try clear c43
                            try clear c46
                            try clear c49
                            try clear c60
                            try clear c63
                            try clear c63b0
                            try clear c64
                            try clear c64b0
                            try clear c64b1
                            try clear c64b2
                            try clear c66
                            try clear c71
                            try clear c74
                            try clear c74b0
                            try clear c77
                            try clear c77b0
                            try clear c77b1
                            try clear c90
                            try clear c90b0
                            try clear c90b1
                            try clear c90b2
                            try clear c92
                            try clear hcz19_0
                            try clear hcz19_1
                            try clear hcz28_0
                            try clear hcz28_1
                            try clear hcz33_0
                            try clear hcz33_1
                            try clear hcz61_0
                            try clear hcz61_1
                            try clear hcz9_0
                            try clear hcz9_1
                            try clear hfz19_0
                            try clear hfz19_1
                            try clear hfz28_0
                            try clear hfz28_1
                            try clear hfz33_0
                            try clear hfz33_1
                            try clear hfz61_0
                            try clear hfz61_1
                            try clear hfz9_0
                            try clear hfz9_1
                            try clear p2
                            obtain ⟨kq, x134_80, rfl, HA, HJ80, HO_14, HO_206000, BK184, BK205, HB⟩ := hcut
                            have hl14_80 := (Kd.R_reads' HO_14.out).1
                            rw [hl14_80] at HO_14
                            (try simp only [hl14_80])
                            (try simp only [hl14_80] at BK184)
                            (try simp only [hl14_80] at BK205)
                            (try simp only [hl14_80] at HO_206000)
                            cases kq with
                            | zero => exact absurd HA.out (by simp [laws_FnExactFitsAt.j2])
                            | succ kj80 =>
                              have H := HA.out
                              clear HA
                              simp only [laws_FnExactFitsAt.j2] at H
                              by_cases c97 : x134_80 = true
                              · subst c97
                                have H1 : (some false) = some r := by rw [if_pos rfl] at H; exact H
                                clear H
                                have H := H1
                                clear H1
                                obtain rfl := Option.some.inj H
                                go_wp2
                                go_ret
                                exact ⟨by first | rfl | (simp [errW_none, errW_some] <;> rfl) | (simp [*, errW_none, errW_some] <;> rfl), by repeat (first | (with_reducible first | exact HB.out | apply below_alloc | apply pw_below_drewN | apply below_drew1 | refine below_set ?_ GE184.out | refine below_set ?_ GE205.out) | exact HB.out)⟩
                              · replace c97 := Bool.eq_false_iff.mpr c97
                                subst c97
                                have H1 : ((laws_heldIntS.f kj80 t227 1).bind fun t242 => (if t242 < 0 then (some false) else (if t242 = t226 then (some true) else (some false)))) = some r := by rw [if_neg (show ¬ (false = true) by decide)] at H; exact H
                                clear H
                                have H := H1
                                clear H1
                                replace H := Option.bind_eq_some_iff.mp H
                                obtain ⟨t242, A980, H⟩ := H
                                replace H : (if t242 < 0 then (some false) else (if t242 = t226 then (some true) else (some false))) = some r := H
                                have A98 := Aside0.mk A980
                                clear A980
                                by_cases c99 : t242 < 0
                                · rw [if_pos c99] at H
                                  have c99b0 : decide (t242 < 0) = true := decide_eq_true c99
                                  clear c99
                                  obtain rfl := Option.some.inj H
                                  go_wp2_with (first | ((with_reducible refine gate_callee (f := 34) rfl ?_); refine goesL_ (some 137) rfl rfl Try.func34 (by kernel_rfl) rfl #[.slice Ao82 t227.length co82, .int .i64 1] rfl (by (try simp only [List.map_toArray, List.map_cons, List.map_nil]); first | done | rfl | (simp only [List.length_drop, List.length_take]; rfl)) ?_; (with_reducible refine (laws_heldIntS.calls kj80 _ _ t227 1 t242 _ ?side1 ?side2 A98.out).mono ?_); (case side1 => repeat (first | exact (Kd.R_reads' HO_14.out).2.2 | (with_reducible refine Kd.C_alloc ?_ _) | (with_reducible refine Kd.C_drewN ?_ _) | (with_reducible refine Kd.C_drew ?_))); (case side2 => exact (Kd.R_reads' HO_14.out).2.1); rintro e w' ⟨rfl, ⟨nd, rfl⟩⟩; refine ⟨_, rfl, ?_⟩))
                                  go_ret
                                  exact ⟨by first | rfl | (simp [errW_none, errW_some] <;> rfl) | (simp [*, errW_none, errW_some] <;> rfl), by repeat (first | (with_reducible first | exact HB.out | apply below_alloc | apply pw_below_drewN | apply below_drew1 | refine below_set ?_ GE184.out | refine below_set ?_ GE205.out) | exact HB.out)⟩
                                · rw [if_neg c99] at H
                                  have c99b0 : decide (t242 < 0) = false := decide_eq_false c99
                                  clear c99
                                  by_cases c100 : t242 = t226
                                  · rw [if_pos c100] at H
                                    have c100b0 : (t242 == t226) = true := beq_iff_eq.mpr c100
                                    have c100b1 : (t242 != t226) = false := bne_eq_false_iff_eq.mpr c100
                                    clear c100
                                    obtain rfl := Option.some.inj H
                                    go_wp2_with (first | ((with_reducible refine gate_callee (f := 34) rfl ?_); refine goesL_ (some 137) rfl rfl Try.func34 (by kernel_rfl) rfl #[.slice Ao82 t227.length co82, .int .i64 1] rfl (by (try simp only [List.map_toArray, List.map_cons, List.map_nil]); first | done | rfl | (simp only [List.length_drop, List.length_take]; rfl)) ?_; (with_reducible refine (laws_heldIntS.calls kj80 _ _ t227 1 t242 _ ?side1 ?side2 A98.out).mono ?_); (case side1 => repeat (first | exact (Kd.R_reads' HO_14.out).2.2 | (with_reducible refine Kd.C_alloc ?_ _) | (with_reducible refine Kd.C_drewN ?_ _) | (with_reducible refine Kd.C_drew ?_))); (case side2 => exact (Kd.R_reads' HO_14.out).2.1); rintro e w' ⟨rfl, ⟨nd, rfl⟩⟩; refine ⟨_, rfl, ?_⟩))
                                    go_ret
                                    exact ⟨by first | rfl | (simp [errW_none, errW_some] <;> rfl) | (simp [*, errW_none, errW_some] <;> rfl), by repeat (first | (with_reducible first | exact HB.out | apply below_alloc | apply pw_below_drewN | apply below_drew1 | refine below_set ?_ GE184.out | refine below_set ?_ GE205.out) | exact HB.out)⟩
                                  · rw [if_neg c100] at H
                                    have c100b0 : (t242 == t226) = false := beq_eq_false_iff_ne.mpr c100
                                    have c100b1 : (t242 != t226) = true := bne_iff_ne.mpr c100
                                    obtain rfl := Option.some.inj H
                                    go_wp2_with (first | ((with_reducible refine gate_callee (f := 34) rfl ?_); refine goesL_ (some 137) rfl rfl Try.func34 (by kernel_rfl) rfl #[.slice Ao82 t227.length co82, .int .i64 1] rfl (by (try simp only [List.map_toArray, List.map_cons, List.map_nil]); first | done | rfl | (simp only [List.length_drop, List.length_take]; rfl)) ?_; (with_reducible refine (laws_heldIntS.calls kj80 _ _ t227 1 t242 _ ?side1 ?side2 A98.out).mono ?_); (case side1 => repeat (first | exact (Kd.R_reads' HO_14.out).2.2 | (with_reducible refine Kd.C_alloc ?_ _) | (with_reducible refine Kd.C_drewN ?_ _) | (with_reducible refine Kd.C_drew ?_))); (case side2 => exact (Kd.R_reads' HO_14.out).2.1); rintro e w' ⟨rfl, ⟨nd, rfl⟩⟩; refine ⟨_, rfl, ?_⟩))
                                    go_ret
                                    exact ⟨by first | rfl | (simp [errW_none, errW_some] <;> rfl) | (simp [*, errW_none, errW_some] <;> rfl), by repeat (first | (with_reducible first | exact HB.out | apply below_alloc | apply pw_below_drewN | apply below_drew1 | refine below_set ?_ GE184.out | refine below_set ?_ GE205.out) | exact HB.out)⟩
                        · rw [if_neg c77] at H
                          have c77b0 : (t228 == t226) = false := beq_eq_false_iff_ne.mpr c77
                          have c77b1 : (t228 != t226) = true := bne_iff_ne.mpr c77
                          obtain rfl := Option.some.inj H
                          obtain ⟨Ao101, co101, eo101⟩ := Kd.R_slice HO_14.out
                          subst eo101
                          go_wp2_with (first | ((with_reducible refine gate_callee (f := 32) rfl ?_); refine goesL_ (some 102) rfl rfl Try.func32 (by kernel_rfl) rfl #[.slice Ao101 t207.length co101, .int .i64 1] rfl (by (try simp only [List.map_toArray, List.map_cons, List.map_nil]); first | done | rfl | (simp only [List.length_drop, List.length_take]; rfl)) ?_; (with_reducible refine (laws_markIntS.calls kj51 (fun k_ => some k_ = (.slice Ao101 t207.length co101 : Value).ownBlock) (.slice Ao101 t207.length co101) t207 1 t226 t227 w _ ?side1 ?side2 A72.out).mono ?_); (case side1 => repeat (first | (with_reducible first | exact HB.out | apply below_alloc | apply pw_below_drewN | apply below_drew1 | refine below_set ?_ GE184.out | refine below_set ?_ GE205.out) | exact HB.out)); (case side2 => exact Kd.R_tight rfl HO_14.out); rintro e w102 ⟨rfl, hy0, hb, hkp⟩; refine ⟨_, rfl, ?_⟩; have n0_ := Aside0.mk (Kd.R_mono (ok' := fun k_ => some k_ ≠ (.slice Ao101 t207.length co101 : Value).ownBlock ∧ some k_ ≠ (.slice Ao31 t224.length co31 : Value).ownBlock) (Kd.R_keptB (HO_9.out) hkp (fun k_ hk_ hs_ => by first | exact (hk_.1) hs_ | (exact absurd hs_ (by (try simp only [ne_eq, true_and] at hk_); simp only [ne_eq, hk_, not_false_eq_true])))) (fun k_ hk_ => by first | exact ⟨hk_.1.1, hk_.1.2⟩ | ((try simp only [ne_eq, true_and] at hk_); simp only [ne_eq, hk_, not_false_eq_true, and_self, true_and, and_true]))); have n1_ := Aside0.mk (Kd.R_reok rfl hy0 (fun k_ e_ => HO_14.out.1 k_ e_)); have n2_ := Aside0.mk (Kd.R_mono (ok' := fun k_ => some k_ ≠ (v195 : Value).ownBlock ∧ some k_ ≠ (.slice Ao101 t207.length co101 : Value).ownBlock) (Kd.R_keptB (HO_206000.out) hkp (fun k_ hk_ hs_ => by first | exact (hk_.2) hs_ | (exact absurd hs_ (by (try simp only [ne_eq, true_and] at hk_); simp only [ne_eq, hk_, not_false_eq_true])))) (fun k_ hk_ => by first | exact ⟨hk_.1.1, hk_.1.2⟩ | ((try simp only [ne_eq, true_and] at hk_); simp only [ne_eq, hk_, not_false_eq_true, and_self, true_and, and_true]))); have n3_ := Aside0.mk (blk_kept (by (with_reducible repeat (first | refine blk_drewN ?_ _ | refine blk_drew ?_ | refine blk_alloc ?_ _)); exact BK184.out) hkp (fun hs_ => (fun e_ => (Kd.R_ne HO_14.out BK184.out (by decide)) e_) hs_)); have n4_ := Aside0.mk (blk_kept (by (with_reducible repeat (first | refine blk_drewN ?_ _ | refine blk_drew ?_ | refine blk_alloc ?_ _)); exact BK205.out) hkp (fun hs_ => (fun e_ => (Kd.R_ne HO_14.out BK205.out (by decide)) e_) hs_)); have n5_ := Aside0.mk (hb); clear HO_9; clear HO_14; clear HO_206000; clear BK184; clear BK205; clear HB; have HO_9 := n0_; have HO_14 := n1_; have HO_206000 := n2_; have BK184 := n3_; have BK205 := n4_; have HB := n5_; clear n0_ n1_ n2_ n3_ n4_ n5_; (try clear hb); (try clear hkp); (try clear hy0)) | ((with_reducible refine gate_callee (f := 34) rfl ?_); refine goesL_ (some 105) rfl rfl Try.func34 (by kernel_rfl) rfl #[.slice Ao101 t227.length co101, .int .i64 1] rfl (by (try simp only [List.map_toArray, List.map_cons, List.map_nil]); first | done | (rw [show t227.length = t207.length from (Kd.R_reads' HO_14.out).1.symm] <;> rfl) | rfl | (simp only [List.length_drop, List.length_take]; rfl)) ?_; (with_reducible refine (laws_heldIntS.calls kj51 _ _ t227 1 t228 _ ?side1 ?side2 A73.out).mono ?_); (case side1 => repeat (first | exact (Kd.R_reads' HO_14.out).2.2 | (with_reducible refine Kd.C_alloc ?_ _) | (with_reducible refine Kd.C_drewN ?_ _) | (with_reducible refine Kd.C_drew ?_))); (case side2 => rw [show t227.length = t207.length from (Kd.R_reads' HO_14.out).1.symm]; exact (Kd.R_reads' HO_14.out).2.1); rintro e w' ⟨rfl, ⟨nd, rfl⟩⟩; refine ⟨_, rfl, ?_⟩))
                          go_ret
                          exact ⟨by first | rfl | (simp [errW_none, errW_some] <;> rfl) | (simp [*, errW_none, errW_some] <;> rfl), by repeat (first | (with_reducible first | exact HB.out | apply below_alloc | apply pw_below_drewN | apply below_drew1 | refine below_set ?_ GE184.out | refine below_set ?_ GE205.out) | exact HB.out)⟩
              · replace c49 := Bool.eq_false_iff.mpr c49
                subst c49
                have H1 : (some false) = some r := by rw [if_neg (show ¬ (false = true) by decide)] at H; exact H
                clear H
                have H := H1
                clear H1
                obtain rfl := Option.some.inj H
                try go_wp2_with (first | ((with_reducible refine gate_callee (f := 12) rfl ?_); refine goesL_ (some 68) rfl rfl Try.func12 (by kernel_rfl) rfl #[.slice A0 l0.length c0] rfl (by (try simp only [List.map_toArray, List.map_cons, List.map_nil]); first | done | rfl | (simp only [List.length_drop, List.length_take]; rfl)) ?_; (with_reducible refine (laws_toIntS.calls kj16 _ _ l0 t212 _ ?side1 ?side2 A44.out).mono ?_); (case side1 => repeat (first | exact (Kd.C_below HR0.out HB.out) | (with_reducible refine Kd.C_alloc ?_ _) | (with_reducible refine Kd.C_drewN ?_ _) | (with_reducible refine Kd.C_drew ?_))); (case side2 => exact HC0.out); rintro e w103 ⟨v213, rfl, ho0, hb⟩; refine ⟨_, rfl, ?_⟩; have n0_ := Aside0.mk (Kd.R_elder' (by (with_reducible repeat (first | apply Kd.R_alloc | apply Kd.R_drewN | apply Kd.R_drew)); exact HO_9.out) (Kd.R_base ho0) hb); have n1_ := Aside0.mk (Kd.R_elder' (by (with_reducible repeat (first | apply Kd.R_alloc | apply Kd.R_drewN | apply Kd.R_drew)); exact HO_11.out) (Kd.R_base ho0) hb); have n2_ := Aside0.mk (Kd.R_elder' (by (with_reducible repeat (first | apply Kd.R_alloc | apply Kd.R_drewN | apply Kd.R_drew)); exact HO_14.out) (Kd.R_base ho0) hb); have n3_ := Aside0.mk (Kd.R_elder' (by (with_reducible repeat (first | apply Kd.R_alloc | apply Kd.R_drewN | apply Kd.R_drew)); exact HO_206000.out) (Kd.R_base ho0) hb); have n4_ := Aside0.mk (Kd.R_lower (Kd.R_new' (Kd.R_new' (Kd.R_new' (Kd.R_new' ho0 (Kd.R_lt (by (with_reducible repeat (first | apply Kd.R_alloc | apply Kd.R_drewN | apply Kd.R_drew)); exact HO_9.out))) (Kd.R_lt (by (with_reducible repeat (first | apply Kd.R_alloc | apply Kd.R_drewN | apply Kd.R_drew)); exact HO_11.out))) (Kd.R_lt (by (with_reducible repeat (first | apply Kd.R_alloc | apply Kd.R_drewN | apply Kd.R_drew)); exact HO_14.out))) (Kd.R_lt (by (with_reducible repeat (first | apply Kd.R_alloc | apply Kd.R_drewN | apply Kd.R_drew)); exact HO_206000.out))) (below_size (by repeat (first | (with_reducible first | exact HB.out | apply below_alloc | apply pw_below_drewN | apply below_drew1 | refine below_set ?_ GE184.out | refine below_set ?_ GE205.out) | exact HB.out)))); have n5_ := Aside0.mk (blk_below (g := gb184) (o := .cells #[.slice A2_0 l2_0.length c2_0, .int .i64 a2_1] 42 (0, 0)) (by (with_reducible repeat (first | refine blk_drewN ?_ _ | refine blk_drew ?_ | refine blk_alloc ?_ _)); exact BK184.out) hb); have n6_ := Aside0.mk (blk_below (g := gb205) (o := .cells #[.slice Ao31 t201.length co31, .int .i64 t204] 46 (0, 0)) (by (with_reducible repeat (first | refine blk_drewN ?_ _ | refine blk_drew ?_ | refine blk_alloc ?_ _)); exact BK205.out) hb); have n7_ := Aside0.mk (below_step (by repeat (first | (with_reducible first | exact HB.out | apply below_alloc | apply pw_below_drewN | apply below_drew1 | refine below_set ?_ GE184.out | refine below_set ?_ GE205.out) | exact HB.out)) hb); clear HO_9; clear HO_11; clear HO_14; clear HO_206000; clear BK184; clear BK205; clear HB; have HO_9 := n0_; have HO_11 := n1_; have HO_14 := n2_; have HO_206000 := n3_; have HO214 := n4_; have BK184 := n5_; have BK205 := n6_; have HB := n7_; clear n0_ n1_ n2_ n3_ n4_ n5_ n6_ n7_; (try clear hb); (try clear hb2); (try clear hk); (try clear hi); (try clear ho0); obtain ⟨Ao104, co104, eo104⟩ := Kd.R_slice HO214.out; subst eo104) | ((with_reducible refine gate_callee (f := 14) rfl ?_); refine goesL_ (some 69) rfl rfl Try.func14 (by kernel_rfl) rfl #[.slice Ao34 t198.length co34, .slice Ao104 t212.length co104] rfl (by (try simp only [List.map_toArray, List.map_cons, List.map_nil]); first | done | rfl | (simp only [List.length_drop, List.length_take]; rfl)) ?_; (with_reducible refine (laws_eqIntS.calls kj16 _ _ t198 _ _ t212 true _ ?side1 ?side2 ?side3 ?side4 A45.out).mono ?_); (case side1 => repeat (first | exact (Kd.R_reads' HO_11.out).2.2 | (with_reducible refine Kd.C_alloc ?_ _) | (with_reducible refine Kd.C_drewN ?_ _) | (with_reducible refine Kd.C_drew ?_))); (case side2 => exact (Kd.R_reads' HO_11.out).2.1); (case side3 => repeat (first | exact (Kd.R_reads' HO214.out).2.2 | (with_reducible refine Kd.C_alloc ?_ _) | (with_reducible refine Kd.C_drewN ?_ _) | (with_reducible refine Kd.C_drew ?_))); (case side4 => exact (Kd.R_reads' HO214.out).2.1); rintro e w' ⟨rfl, ⟨nd, rfl⟩⟩; refine ⟨_, rfl, ?_⟩))
                (try (rw [drewN_self w103]; generalize hq_ : World.drewN w103 _ = w103; have n0_ : Aside0 (Kd.R (Kd.int .i64) 3 w103 w.heap.size (fun k_ => some k_ ≠ (.slice Ao34 t198.length co34 : Value).ownBlock ∧ some k_ ≠ (v208 : Value).ownBlock ∧ some k_ ≠ (.slice Ao31 t201.length co31 : Value).ownBlock ∧ some k_ ≠ (v195 : Value).ownBlock) (.slice Ao104 t212.length co104) t212) := ⟨by rw [← hq_]; exact (by (with_reducible repeat (first | apply Kd.R_alloc | apply Kd.R_drewN | apply Kd.R_drew)); exact Kd.R_mono HO214.out (fun _ hk => by first | exact ⟨hk.1.1.2, ⟨hk.1.2, ⟨hk.2, hk.1.1.1.2⟩⟩⟩ | ((try simp only [ne_eq, true_and] at hk); simp only [ne_eq, hk, not_false_eq_true, and_self, true_and, and_true])))⟩; have n1_ : Aside0 (Kd.R (Kd.int .i64) 3 w103 w.heap.size (fun k_ => some k_ ≠ (.slice Ao104 t212.length co104 : Value).ownBlock ∧ some k_ ≠ (v208 : Value).ownBlock ∧ some k_ ≠ (.slice Ao31 t201.length co31 : Value).ownBlock ∧ some k_ ≠ (v195 : Value).ownBlock) (.slice Ao34 t198.length co34) t198) := ⟨by rw [← hq_]; exact (by (with_reducible repeat (first | apply Kd.R_alloc | apply Kd.R_drewN | apply Kd.R_drew)); exact Kd.R_mono HO_11.out (fun _ hk => by first | exact ⟨hk.2, ⟨hk.1.2.1, ⟨hk.1.2.2, hk.1.1⟩⟩⟩ | ((try simp only [ne_eq, true_and] at hk); simp only [ne_eq, hk, not_false_eq_true, and_self, true_and, and_true])))⟩; have n2_ : Aside0 (Kd.R (Kd.int .i64) 3 w103 w.heap.size (fun k_ => some k_ ≠ (.slice Ao104 t212.length co104 : Value).ownBlock ∧ some k_ ≠ (.slice Ao34 t198.length co34 : Value).ownBlock ∧ some k_ ≠ (.slice Ao31 t201.length co31 : Value).ownBlock ∧ some k_ ≠ (v195 : Value).ownBlock) v208 t207) := ⟨by rw [← hq_]; exact (by (with_reducible repeat (first | apply Kd.R_alloc | apply Kd.R_drewN | apply Kd.R_drew)); exact Kd.R_mono HO_14.out (fun _ hk => by first | exact ⟨hk.2, ⟨hk.1.2.1, ⟨hk.1.2.2, hk.1.1⟩⟩⟩ | ((try simp only [ne_eq, true_and] at hk); simp only [ne_eq, hk, not_false_eq_true, and_self, true_and, and_true])))⟩; have n3_ : Aside0 (Kd.R (Kd.int .i64) 3 w103 w.heap.size (fun k_ => some k_ ≠ (.slice Ao104 t212.length co104 : Value).ownBlock ∧ some k_ ≠ (.slice Ao34 t198.length co34 : Value).ownBlock ∧ some k_ ≠ (v208 : Value).ownBlock ∧ some k_ ≠ (v195 : Value).ownBlock) (.slice Ao31 t201.length co31) t201) := ⟨by rw [← hq_]; exact (by (with_reducible repeat (first | apply Kd.R_alloc | apply Kd.R_drewN | apply Kd.R_drew)); exact Kd.R_mono HO_206000.out (fun _ hk => by first | exact ⟨hk.2, ⟨hk.1.2.1, ⟨hk.1.2.2, hk.1.1⟩⟩⟩ | ((try simp only [ne_eq, true_and] at hk); simp only [ne_eq, hk, not_false_eq_true, and_self, true_and, and_true])))⟩; have n4_ : Aside0 (Kd.R (Kd.int .i64) 3 w103 w.heap.size (fun k_ => some k_ ≠ (.slice Ao104 t212.length co104 : Value).ownBlock ∧ some k_ ≠ (.slice Ao34 t198.length co34 : Value).ownBlock ∧ some k_ ≠ (v208 : Value).ownBlock ∧ some k_ ≠ (.slice Ao31 t201.length co31 : Value).ownBlock) v195 t194) := ⟨by rw [← hq_]; exact (by (with_reducible repeat (first | apply Kd.R_alloc | apply Kd.R_drewN | apply Kd.R_drew)); exact Kd.R_mono HO_9.out (fun _ hk => by first | exact ⟨hk.2, ⟨hk.1.1, ⟨hk.1.2.1, hk.1.2.2⟩⟩⟩ | ((try simp only [ne_eq, true_and] at hk); simp only [ne_eq, hk, not_false_eq_true, and_self, true_and, and_true])))⟩; have n5_ : Aside0 (w103.heap[gb184]? = some (.cells #[.slice A2_0 l2_0.length c2_0, .int .i64 a2_1] 42 (0, 0))) := ⟨by rw [← hq_]; exact (by (with_reducible repeat (first | refine blk_drewN ?_ _ | refine blk_drew ?_ | refine blk_alloc ?_ _)); exact BK184.out)⟩; have n6_ : Aside0 (w103.heap[gb205]? = some (.cells #[.slice Ao31 t201.length co31, .int .i64 t204] 46 (0, 0))) := ⟨by rw [← hq_]; exact (by (with_reducible repeat (first | refine blk_drewN ?_ _ | refine blk_drew ?_ | refine blk_alloc ?_ _)); exact BK205.out)⟩; have n7_ : Aside0 (Below w.heap.size w w103) := ⟨by rw [← hq_]; exact (by repeat (first | (with_reducible first | exact HB.out | apply below_alloc | apply pw_below_drewN | apply below_drew1 | refine below_set ?_ GE184.out | refine below_set ?_ GE205.out) | exact HB.out))⟩; clear HO214 HO_11 HO_14 HO_206000 HO_9 BK184 BK205 HB hq_; have HO214 := n0_; have HO_11 := n1_; have HO_14 := n2_; have HO_206000 := n3_; have HO_9 := n4_; have BK184 := n5_; have BK205 := n6_; have HB := n7_; clear n0_ n1_ n2_ n3_ n4_ n5_ n6_ n7_))
                have n0_ := Aside0.mk (Kd.R_drew HO_9.out)
                have n1_ := Aside0.mk (Kd.R_drew HO_11.out)
                have n2_ := Aside0.mk (Kd.R_drew HO_14.out)
                have n3_ := Aside0.mk (Kd.R_drew HO_206000.out)
                have n4_ := Aside0.mk (Kd.R_drew HO214.out)
                have n5_ := Aside0.mk (blk_drew BK184.out)
                have n6_ := Aside0.mk (blk_drew BK205.out)
                have n7_ := Aside0.mk (below_drew1 HB.out)
                clear HO_9
                clear HO_11
                clear HO_14
                clear HO_206000
                clear HO214
                clear BK184
                clear BK205
                clear HB
                have HO_9 := n0_
                have HO_11 := n1_
                have HO_14 := n2_
                have HO_206000 := n3_
                have HO214 := n4_
                have BK184 := n5_
                have BK205 := n6_
                have HB := n7_
                clear n0_ n1_ n2_ n3_ n4_ n5_ n6_ n7_
                refine start_ (n := 5) (S := fun w' => w'.cell? ⟨gb205, 0, none⟩ = some (.slice Ao31 t201.length co31) ∧ w'.cell? ⟨gb205, 1, none⟩ = some (.int .i64 t204) ∧ w'.cell? ⟨gb184, 0, none⟩ = some (.slice A2_0 l2_0.length c2_0) ∧ w'.cell? ⟨gb184, 1, none⟩ = some (.int .i64 a2_1)) (ds := []) #[false, false, false, false, false] (by kernel_rfl) rfl rfl ⟨(blk_cell BK205.out 0).trans rfl, (blk_cell BK205.out 1).trans rfl, (blk_cell BK184.out 0).trans rfl, (blk_cell BK184.out 1).trans rfl⟩ (fun hHeld => ?_)
                generalize w103.drew = w105 at HO_9 HO_11 HO_14 HO_206000 HO214 BK184 BK205 HB hHeld ⊢
                refine take_ (i := 0) (N := some 71) (v := ?_) (a' := ?_) #[true, false, false, false, false] rfl rfl (by kernel_rfl) (fun _ _ _ h => h) (Or.inl ⟨by rfl, ?_⟩) hHeld ?_ ?_
                rotate_left
                · rintro w' ⟨s0, s1, s2, s3⟩
                  go_simp
                  with_reducible rfl
                rotate_left
                · simp only [Act.put, List.setIfInBounds_toArray, List.set_cons_zero, List.set_cons_succ, i64_w, i32_w]
                  rfl
                refine take_ (i := 1) (N := some 72) (v := ?_) (a' := ?_) #[true, true, false, false, false] rfl rfl (by kernel_rfl) (fun _ _ _ h => h) (Or.inl ⟨by rfl, ?_⟩) hHeld ?_ ?_
                rotate_left
                · rintro w' ⟨s0, s1, s2, s3⟩
                  go_simp
                  with_reducible rfl
                rotate_left
                · simp only [Act.put, List.setIfInBounds_toArray, List.set_cons_zero, List.set_cons_succ, i64_w, i32_w]
                  rfl
                refine one_ (i := 2) (N := some 73) #[true, true, true, false, false] rfl rfl (by kernel_rfl) (by decide) (fun K hK => ?_)
                refine goes_ Try.func29 (by kernel_rfl) rfl #[.agg #[.slice A2_0 l2_0.length c2_0, .int .i64 a2_1]] (by rfl) rfl rfl (by (try simp only [List.map_toArray, List.map_cons, List.map_nil]); first | done | rfl | (simp only [List.length_drop, List.length_take]; rfl)) ?_
                with_reducible refine (laws_toPattern.calls kj16 _ _ l2_0 a2_1 t216 t219 _ ?side1 ?side2 A47.out).mono ?_
                (case side1 => repeat (first | exact (Kd.C_below HR2_0.out HB.out) | (with_reducible refine Kd.C_alloc ?_ _) | (with_reducible refine Kd.C_drewN ?_ _) | (with_reducible refine Kd.C_drew ?_)))
                (case side2 => exact HC2_0.out)
                rintro e w106 ⟨v217, rfl, ho0, hb⟩
                refine ⟨_, rfl, ?_⟩
                have n0_ := Aside0.mk (Kd.R_elder' (by (with_reducible repeat (first | apply Kd.R_alloc | apply Kd.R_drewN | apply Kd.R_drew)); exact HO_9.out) (Kd.R_base ho0) hb)
                have n1_ := Aside0.mk (Kd.R_elder' (by (with_reducible repeat (first | apply Kd.R_alloc | apply Kd.R_drewN | apply Kd.R_drew)); exact HO_11.out) (Kd.R_base ho0) hb)
                have n2_ := Aside0.mk (Kd.R_elder' (by (with_reducible repeat (first | apply Kd.R_alloc | apply Kd.R_drewN | apply Kd.R_drew)); exact HO_14.out) (Kd.R_base ho0) hb)
                have n3_ := Aside0.mk (Kd.R_elder' (by (with_reducible repeat (first | apply Kd.R_alloc | apply Kd.R_drewN | apply Kd.R_drew)); exact HO_206000.out) (Kd.R_base ho0) hb)
                have n4_ := Aside0.mk (Kd.R_elder' (by (with_reducible repeat (first | apply Kd.R_alloc | apply Kd.R_drewN | apply Kd.R_drew)); exact HO214.out) (Kd.R_base ho0) hb)
                have n5_ := Aside0.mk (Kd.R_lower (Kd.R_new' (Kd.R_new' (Kd.R_new' (Kd.R_new' (Kd.R_new' ho0 (Kd.R_lt (by (with_reducible repeat (first | apply Kd.R_alloc | apply Kd.R_drewN | apply Kd.R_drew)); exact HO_9.out))) (Kd.R_lt (by (with_reducible repeat (first | apply Kd.R_alloc | apply Kd.R_drewN | apply Kd.R_drew)); exact HO_11.out))) (Kd.R_lt (by (with_reducible repeat (first | apply Kd.R_alloc | apply Kd.R_drewN | apply Kd.R_drew)); exact HO_14.out))) (Kd.R_lt (by (with_reducible repeat (first | apply Kd.R_alloc | apply Kd.R_drewN | apply Kd.R_drew)); exact HO_206000.out))) (Kd.R_lt (by (with_reducible repeat (first | apply Kd.R_alloc | apply Kd.R_drewN | apply Kd.R_drew)); exact HO214.out))) (below_size (by repeat (first | (with_reducible first | exact HB.out | apply below_alloc | apply pw_below_drewN | apply below_drew1 | refine below_set ?_ GE184.out | refine below_set ?_ GE205.out) | exact HB.out))))
                have n6_ := Aside0.mk (blk_below (g := gb184) (o := .cells #[.slice A2_0 l2_0.length c2_0, .int .i64 a2_1] 42 (0, 0)) (by (with_reducible repeat (first | refine blk_drewN ?_ _ | refine blk_drew ?_ | refine blk_alloc ?_ _)); exact BK184.out) hb)
                have n7_ := Aside0.mk (blk_below (g := gb205) (o := .cells #[.slice Ao31 t201.length co31, .int .i64 t204] 46 (0, 0)) (by (with_reducible repeat (first | refine blk_drewN ?_ _ | refine blk_drew ?_ | refine blk_alloc ?_ _)); exact BK205.out) hb)
                have n8_ := Aside0.mk (below_step (by repeat (first | (with_reducible first | exact HB.out | apply below_alloc | apply pw_below_drewN | apply below_drew1 | refine below_set ?_ GE184.out | refine below_set ?_ GE205.out) | exact HB.out)) hb)
                clear HO_9
                clear HO_11
                clear HO_14
                clear HO_206000
                clear HO214
                clear BK184
                clear BK205
                clear HB
                have HO_9 := n0_
                have HO_11 := n1_
                have HO_14 := n2_
                have HO_206000 := n3_
                have HO214 := n4_
                have HO218 := n5_
                have BK184 := n6_
                have BK205 := n7_
                have HB := n8_
                clear n0_ n1_ n2_ n3_ n4_ n5_ n6_ n7_ n8_
                (try clear hb)
                (try clear hb2)
                (try clear hk)
                (try clear hi)
                (try clear ho0)
                obtain ⟨Ao107, co107, eo107⟩ := Kd.R_slice HO218.out
                (first | subst eo107 | (injection eo107 with f1_ f2_ f3_; have f4_ := f1_.symm; have f5_ := f3_.symm; clear f1_ f2_ f3_; subst f4_; subst f5_))
                refine hK.out _ _ ⟨(blk_cell BK205.out 0).trans rfl, (blk_cell BK205.out 1).trans rfl, (blk_cell BK184.out 0).trans rfl, (blk_cell BK184.out 1).trans rfl⟩ (fun hHeld => ?_)
                clear hK K
                refine norm_ (a' := ?_) ?_ ?_
                rotate_left
                · show Act.put _ (some 73) _ = _
                  simp only [Act.put, List.setIfInBounds_toArray, List.set_cons_zero, List.set_cons_succ, i64_w, i32_w]
                  rfl
                refine one_ (i := 3) (N := some 74) #[true, true, true, true, false] rfl rfl (by kernel_rfl) (by decide) (fun K hK => ?_)
                refine goes_ Try.func31 (by kernel_rfl) rfl #[.agg #[.slice Ao31 t201.length co31, .int .i64 t204], .agg #[.slice Ao107 t216.length co107, .int .i64 t219]] (by rfl) rfl rfl (by (try simp only [List.map_toArray, List.map_cons, List.map_nil]); first | done | rfl | (simp only [List.length_drop, List.length_take]; rfl)) ?_
                with_reducible refine (laws_eqPattern.calls kj16 _ _ t201 t204 _ _ t216 t219 false _ ?side1 ?side2 ?side3 ?side4 A48.out).mono ?_
                (case side1 => repeat (first | exact (Kd.R_reads' HO_206000.out).2.2 | (with_reducible refine Kd.C_alloc ?_ _) | (with_reducible refine Kd.C_drewN ?_ _) | (with_reducible refine Kd.C_drew ?_)))
                (case side2 => exact (Kd.R_reads' HO_206000.out).2.1)
                (case side3 => repeat (first | exact (Kd.R_reads' HO218.out).2.2 | (with_reducible refine Kd.C_alloc ?_ _) | (with_reducible refine Kd.C_drewN ?_ _) | (with_reducible refine Kd.C_drew ?_)))
                (case side4 => exact (Kd.R_reads' HO218.out).2.1)
                rintro e w108 ⟨rfl, hb⟩
                refine ⟨_, rfl, ?_⟩
                have n0_ := Aside0.mk (Kd.R_below (by (with_reducible repeat (first | apply Kd.R_alloc | apply Kd.R_drewN | apply Kd.R_drew)); exact HO_9.out) hb)
                have n1_ := Aside0.mk (Kd.R_below (by (with_reducible repeat (first | apply Kd.R_alloc | apply Kd.R_drewN | apply Kd.R_drew)); exact HO_11.out) hb)
                have n2_ := Aside0.mk (Kd.R_below (by (with_reducible repeat (first | apply Kd.R_alloc | apply Kd.R_drewN | apply Kd.R_drew)); exact HO_14.out) hb)
                have n3_ := Aside0.mk (Kd.R_below (by (with_reducible repeat (first | apply Kd.R_alloc | apply Kd.R_drewN | apply Kd.R_drew)); exact HO_206000.out) hb)
                have n4_ := Aside0.mk (Kd.R_below (by (with_reducible repeat (first | apply Kd.R_alloc | apply Kd.R_drewN | apply Kd.R_drew)); exact HO214.out) hb)
                have n5_ := Aside0.mk (Kd.R_below (by (with_reducible repeat (first | apply Kd.R_alloc | apply Kd.R_drewN | apply Kd.R_drew)); exact HO218.out) hb)
                have n6_ := Aside0.mk (blk_below (g := gb184) (o := .cells #[.slice A2_0 l2_0.length c2_0, .int .i64 a2_1] 42 (0, 0)) (by (with_reducible repeat (first | refine blk_drewN ?_ _ | refine blk_drew ?_ | refine blk_alloc ?_ _)); exact BK184.out) hb)
                have n7_ := Aside0.mk (blk_below (g := gb205) (o := .cells #[.slice Ao31 t201.length co31, .int .i64 t204] 46 (0, 0)) (by (with_reducible repeat (first | refine blk_drewN ?_ _ | refine blk_drew ?_ | refine blk_alloc ?_ _)); exact BK205.out) hb)
                have n8_ := Aside0.mk (below_step (by repeat (first | (with_reducible first | exact HB.out | apply below_alloc | apply pw_below_drewN | apply below_drew1 | refine below_set ?_ GE184.out | refine below_set ?_ GE205.out) | exact HB.out)) hb)
                clear HO_9
                clear HO_11
                clear HO_14
                clear HO_206000
                clear HO214
                clear HO218
                clear BK184
                clear BK205
                clear HB
                have HO_9 := n0_
                have HO_11 := n1_
                have HO_14 := n2_
                have HO_206000 := n3_
                have HO214 := n4_
                have HO218 := n5_
                have BK184 := n6_
                have BK205 := n7_
                have HB := n8_
                clear n0_ n1_ n2_ n3_ n4_ n5_ n6_ n7_ n8_
                (try clear hb)
                (try clear hb2)
                (try clear hk)
                (try clear hi)
                refine hK.out _ _ ⟨(blk_cell BK205.out 0).trans rfl, (blk_cell BK205.out 1).trans rfl, (blk_cell BK184.out 0).trans rfl, (blk_cell BK184.out 1).trans rfl⟩ (fun hHeld => ?_)
                clear hK K
                refine norm_ (a' := ?_) ?_ ?_
                rotate_left
                · show Act.put _ (some 74) _ = _
                  simp only [Act.put, List.setIfInBounds_toArray, List.set_cons_zero, List.set_cons_succ, i64_w, i32_w]
                  rfl
                refine pure_ (i := 4) (N := some 75) (v := ?_) (a' := ?_) #[true, true, true, true, true] rfl rfl (by kernel_rfl) (fun _ _ _ h => h) (Or.inl ⟨by rfl, ?_⟩) ?_ ?_
                rotate_left
                · intro w'
                  go_simp
                  with_reducible rfl
                rotate_left
                · simp only [Act.put, List.setIfInBounds_toArray, List.set_cons_zero, List.set_cons_succ, i64_w, i32_w]
                  rfl
                refine done_ (by kernel_rfl) ?_
                try go_wp2
                go_ret
                exact ⟨by first | rfl | (simp [errW_none, errW_some] <;> rfl) | (simp [*, errW_none, errW_some] <;> rfl), by repeat (first | (with_reducible first | exact HB.out | apply below_alloc | apply pw_below_drewN | apply below_drew1 | refine below_set ?_ GE184.out | refine below_set ?_ GE205.out) | exact HB.out)⟩
            · replace c46 := Bool.eq_false_iff.mpr c46
              subst c46
              have H1 : (some false) = some r := by rw [if_neg (show ¬ (false = true) by decide)] at H; exact H
              clear H
              have H := H1
              clear H1
              obtain rfl := Option.some.inj H
              go_wp2_with (first | ((with_reducible refine gate_callee (f := 12) rfl ?_); refine goesL_ (some 68) rfl rfl Try.func12 (by kernel_rfl) rfl #[.slice A0 l0.length c0] rfl (by (try simp only [List.map_toArray, List.map_cons, List.map_nil]); first | done | rfl | (simp only [List.length_drop, List.length_take]; rfl)) ?_; (with_reducible refine (laws_toIntS.calls kj16 _ _ l0 t212 _ ?side1 ?side2 A44.out).mono ?_); (case side1 => repeat (first | exact (Kd.C_below HR0.out HB.out) | (with_reducible refine Kd.C_alloc ?_ _) | (with_reducible refine Kd.C_drewN ?_ _) | (with_reducible refine Kd.C_drew ?_))); (case side2 => exact HC0.out); rintro e w109 ⟨v213, rfl, ho0, hb⟩; refine ⟨_, rfl, ?_⟩; have n0_ := Aside0.mk (Kd.R_elder' (by (with_reducible repeat (first | apply Kd.R_alloc | apply Kd.R_drewN | apply Kd.R_drew)); exact HO_9.out) (Kd.R_base ho0) hb); have n1_ := Aside0.mk (Kd.R_elder' (by (with_reducible repeat (first | apply Kd.R_alloc | apply Kd.R_drewN | apply Kd.R_drew)); exact HO_11.out) (Kd.R_base ho0) hb); have n2_ := Aside0.mk (Kd.R_elder' (by (with_reducible repeat (first | apply Kd.R_alloc | apply Kd.R_drewN | apply Kd.R_drew)); exact HO_14.out) (Kd.R_base ho0) hb); have n3_ := Aside0.mk (Kd.R_elder' (by (with_reducible repeat (first | apply Kd.R_alloc | apply Kd.R_drewN | apply Kd.R_drew)); exact HO_206000.out) (Kd.R_base ho0) hb); have n4_ := Aside0.mk (Kd.R_lower (Kd.R_new' (Kd.R_new' (Kd.R_new' (Kd.R_new' ho0 (Kd.R_lt (by (with_reducible repeat (first | apply Kd.R_alloc | apply Kd.R_drewN | apply Kd.R_drew)); exact HO_9.out))) (Kd.R_lt (by (with_reducible repeat (first | apply Kd.R_alloc | apply Kd.R_drewN | apply Kd.R_drew)); exact HO_11.out))) (Kd.R_lt (by (with_reducible repeat (first | apply Kd.R_alloc | apply Kd.R_drewN | apply Kd.R_drew)); exact HO_14.out))) (Kd.R_lt (by (with_reducible repeat (first | apply Kd.R_alloc | apply Kd.R_drewN | apply Kd.R_drew)); exact HO_206000.out))) (below_size (by repeat (first | (with_reducible first | exact HB.out | apply below_alloc | apply pw_below_drewN | apply below_drew1 | refine below_set ?_ GE184.out | refine below_set ?_ GE205.out) | exact HB.out)))); have n5_ := Aside0.mk (blk_below (g := gb184) (o := .cells #[.slice A2_0 l2_0.length c2_0, .int .i64 a2_1] 42 (0, 0)) (by (with_reducible repeat (first | refine blk_drewN ?_ _ | refine blk_drew ?_ | refine blk_alloc ?_ _)); exact BK184.out) hb); have n6_ := Aside0.mk (blk_below (g := gb205) (o := .cells #[.slice Ao31 t201.length co31, .int .i64 t204] 46 (0, 0)) (by (with_reducible repeat (first | refine blk_drewN ?_ _ | refine blk_drew ?_ | refine blk_alloc ?_ _)); exact BK205.out) hb); have n7_ := Aside0.mk (below_step (by repeat (first | (with_reducible first | exact HB.out | apply below_alloc | apply pw_below_drewN | apply below_drew1 | refine below_set ?_ GE184.out | refine below_set ?_ GE205.out) | exact HB.out)) hb); clear HO_9; clear HO_11; clear HO_14; clear HO_206000; clear BK184; clear BK205; clear HB; have HO_9 := n0_; have HO_11 := n1_; have HO_14 := n2_; have HO_206000 := n3_; have HO214 := n4_; have BK184 := n5_; have BK205 := n6_; have HB := n7_; clear n0_ n1_ n2_ n3_ n4_ n5_ n6_ n7_; (try clear hb); (try clear hb2); (try clear hk); (try clear hi); (try clear ho0); obtain ⟨Ao110, co110, eo110⟩ := Kd.R_slice HO214.out; subst eo110) | ((with_reducible refine gate_callee (f := 14) rfl ?_); refine goesL_ (some 69) rfl rfl Try.func14 (by kernel_rfl) rfl #[.slice Ao34 t198.length co34, .slice Ao110 t212.length co110] rfl (by (try simp only [List.map_toArray, List.map_cons, List.map_nil]); first | done | rfl | (simp only [List.length_drop, List.length_take]; rfl)) ?_; (with_reducible refine (laws_eqIntS.calls kj16 _ _ t198 _ _ t212 false _ ?side1 ?side2 ?side3 ?side4 A45.out).mono ?_); (case side1 => repeat (first | exact (Kd.R_reads' HO_11.out).2.2 | (with_reducible refine Kd.C_alloc ?_ _) | (with_reducible refine Kd.C_drewN ?_ _) | (with_reducible refine Kd.C_drew ?_))); (case side2 => exact (Kd.R_reads' HO_11.out).2.1); (case side3 => repeat (first | exact (Kd.R_reads' HO214.out).2.2 | (with_reducible refine Kd.C_alloc ?_ _) | (with_reducible refine Kd.C_drewN ?_ _) | (with_reducible refine Kd.C_drew ?_))); (case side4 => exact (Kd.R_reads' HO214.out).2.1); rintro e w' ⟨rfl, ⟨nd, rfl⟩⟩; refine ⟨_, rfl, ?_⟩))
              go_ret
              exact ⟨by first | rfl | (simp [errW_none, errW_some] <;> rfl) | (simp [*, errW_none, errW_some] <;> rfl), by repeat (first | (with_reducible first | exact HB.out | apply below_alloc | apply pw_below_drewN | apply below_drew1 | refine below_set ?_ GE184.out | refine below_set ?_ GE205.out) | exact HB.out)⟩

/-- What a value of type 42 that was read meets. -/
def q42 (x : S42) : Prop := (fun xs : List Int => xs.length ≤ maxLen ∧ xs.length * 8 ≤ 140737488351232 ∧ ∀ x ∈ xs, (fun x : Int => (Lit.int .i64 x).wf = true) x) x.f0 ∧ (fun x : Int => (Lit.int .i64 x).wf = true) x.f1
/-- THE ONE PURE STATEMENT of laws_FnExactFitsAt. -/
def laws_FnExactFitsAt.Pure : Prop := ∀ (l0 : List Int) (a1 : Int) (l2_0 : List Int) (a2_1 : Int), (fun xs : List Int => xs.length ≤ maxLen ∧ xs.length * 8 ≤ 140737488351232 ∧ ∀ x ∈ xs, (fun x : Int => (Lit.int .i64 x).wf = true) x) l0 → (fun x : Int => (Lit.int .i64 x).wf = true) a1 → (fun xs : List Int => xs.length ≤ maxLen ∧ xs.length * 8 ≤ 140737488351232 ∧ ∀ x ∈ xs, (fun x : Int => (Lit.int .i64 x).wf = true) x) l2_0 → (fun x : Int => (Lit.int .i64 x).wf = true) a2_1 → ∃ k, laws_FnExactFitsAt.f k l0 a1 l2_0 a2_1 = some true

end Go.Proofs.Ytmmohcledhenfaa.QFnExactFitsAt
