-- PRINTED by print.py (a twelfth state) out of the translation. Not trusted: Lean checks it.
import Derived.Test.YtehnkoglhbbfjaaPAllx0
import Derived.Test.YtehnkoglhbbfjaaPAllx6
namespace Go.Proofs.Ytehnkoglhbbfjaa.PAll
open Go.RowKit Go.Proofs.YtehnkoglhbbfjaaW.PrintWords Go.Proofs.YtehnkoglhbbfjaaW.PrintLast Go.Proofs.YtehnkoglhbbfjaaW.PrintMore
attribute [local go_sem] max2_int min2_int max_two min_two max_three min_three max_four min_four   -- for this text's walks alone
set_option linter.unusedVariables false
set_option linter.unusedSimpArgs false

/-! ### tidemarklaw09_short: function 66 -/
mutual
def tidemarklaw09_short.l0 : Nat → List (S98) → Int → Int → Option (Bool)
  | 0, _, _, _ => none
  | k + 1, x0, x3, x4 => if x4 < (x0.length : Int) then (if x4 ≤ 100 then (tidemarklaw09_short.j1 k x0 x3 x4 (decide (x3 ≤ 32768))) else (tidemarklaw09_short.j1 k x0 x3 x4 false)) else (tidemarklaw09_short.j1 k x0 x3 x4 false)
def tidemarklaw09_short.j1 : Nat → List (S98) → Int → Int → Bool → Option (Bool)
  | 0, _, _, _, _ => none
  | k + 1, x0, x3, x4, x16 => if x16 = true then (if 0 ≤ x4 then (if x4 < (x0.length : Int) then ((tidemarklaw09_weigh.f k ((rd_T98 x0 x4).f2)).bind fun t194 => ((tidemarklaw09_weigh.f k ((rd_T98 x0 x4).f3)).bind fun t196 => (tidemarklaw09_short.l0 k x0 (wrap64 (x3 + (wrap64 ((wrap64 ((wrap64 ((wrap64 ((wrap64 (t194 + t196)) + (mn (((rd_T98 x0 x4).f4).size : Int) 32768))) + (mn (((rd_T98 x0 x4).f5).size : Int) 32768))) + (mn (((rd_T98 x0 x4).f6.f1).size : Int) 32768))) + (mn (((rd_T98 x0 x4).f6.f5).size : Int) 32768))))) (wrap64 (x4 + 1))))) else (none)) else (none)) else (if (x0.length : Int) ≤ 100 then (some (decide (x3 ≤ 32768))) else (some false))
end
def tidemarklaw09_short.f (k : Nat) (l0 : List (S98)) : Option (Bool) := tidemarklaw09_short.l0 k l0 0 0
theorem tidemarklaw09_short.mono_l : ∀ k, (∀ y0 y1 y2, LeO (tidemarklaw09_short.l0 k y0 y1 y2) (tidemarklaw09_short.l0 (k + 1) y0 y1 y2)) ∧ (∀ y0 y1 y2 y3, LeO (tidemarklaw09_short.j1 k y0 y1 y2 y3) (tidemarklaw09_short.j1 (k + 1) y0 y1 y2 y3))
  | 0 => ⟨fun _ _ _ r h => by simp [tidemarklaw09_short.l0] at h, fun _ _ _ _ r h => by simp [tidemarklaw09_short.j1] at h⟩
  | k + 1 => by
    obtain ⟨ih0, ih1⟩ := tidemarklaw09_short.mono_l k
    refine ⟨?_, ?_⟩
    · intro y0 y1 y2
      unfold tidemarklaw09_short.l0
      repeat' first
      | (with_reducible exact ih0 _ _ _)
      | (with_reducible exact ih1 _ _ _ _)
      | (with_reducible exact tidemarklaw09_weigh.mono _ _)
      | (with_reducible exact LeO.refl _)
      | (with_reducible exact LeO.none _)
      | (with_reducible refine LeO.ite ?_ ?_)
      | (with_reducible refine LeO.bind ?_ (fun _ => ?_))
      | exact ih0 _ _ _
      | exact ih1 _ _ _ _
      | exact tidemarklaw09_weigh.mono _ _
      | exact LeO.none _
      | refine LeO.ite ?_ ?_
      | refine LeO.bind ?_ (fun _ => ?_)
    · intro y0 y1 y2 y3
      unfold tidemarklaw09_short.j1
      repeat' first
      | (with_reducible exact ih0 _ _ _)
      | (with_reducible exact ih1 _ _ _ _)
      | (with_reducible exact tidemarklaw09_weigh.mono _ _)
      | (with_reducible exact LeO.refl _)
      | (with_reducible exact LeO.none _)
      | (with_reducible refine LeO.ite ?_ ?_)
      | (with_reducible refine LeO.bind ?_ (fun _ => ?_))
      | exact ih0 _ _ _
      | exact ih1 _ _ _ _
      | exact tidemarklaw09_weigh.mono _ _
      | exact LeO.none _
      | refine LeO.ite ?_ ?_
      | refine LeO.bind ?_ (fun _ => ?_)
theorem tidemarklaw09_short.mono : ∀ a0 k, LeO (tidemarklaw09_short.f k a0) (tidemarklaw09_short.f (k + 1) a0) := by
  intro a0 k
  obtain ⟨ih0, ih1⟩ := tidemarklaw09_short.mono_l k
  unfold tidemarklaw09_short.f
  repeat' first
      | (with_reducible exact ih0 _ _ _)
      | (with_reducible exact ih1 _ _ _ _)
      | (with_reducible exact tidemarklaw09_weigh.mono _ _)
      | (with_reducible exact LeO.refl _)
      | (with_reducible exact LeO.none _)
      | (with_reducible refine LeO.ite ?_ ?_)
      | (with_reducible refine LeO.bind ?_ (fun _ => ?_))
      | exact ih0 _ _ _
      | exact ih1 _ _ _ _
      | exact tidemarklaw09_weigh.mono _ _
      | exact LeO.none _
      | refine LeO.ite ?_ ?_
      | refine LeO.bind ?_ (fun _ => ?_)
def tidemarklaw09_short.T5 : Bool × List (List Nat × List Nat) := (true, [([], []), ([], []), ([], []), ([1, 2], [1, 2]), ([3], [3]), ([4], [4]), ([5], [5]), ([], []), ([], []), ([7, 8], [7, 8]), ([9], [9]), ([10], [10]), ([11, 6], [11]), ([6, 12], [6, 12]), ([], []), ([], []), ([14, 15], [14, 15]), ([16], [16]), ([17], [17]), ([18], [18]), ([19], [19]), ([13, 20], [13, 20]), ([], []), ([], []), ([22, 23], [22, 23]), ([24], [24]), ([25], [25]), ([26], [26]), ([27], [27]), ([21, 28], [21, 28]), ([], []), ([], []), ([30, 31], [30, 31]), ([32], [32]), ([33], [33]), ([34], [34]), ([35], [35]), ([36], [36]), ([29, 37], [29, 37]), ([], []), ([], []), ([39, 40], [39, 40]), ([41], [41]), ([42], [42]), ([43], [43]), ([44], [44]), ([45], [45]), ([38, 46], [38, 46]), ([0, 47], [0, 47]), ([48, 12, 0, 1, 2, 3, 4, 5, 6, 7, 8, 9, 10, 11, 12, 13, 14, 15, 16, 17, 18, 19, 20, 21, 22, 23, 24, 25, 26, 27, 28, 29, 30, 31, 32, 33, 34, 35, 36, 37, 38, 39, 40, 41, 42, 43, 44, 45, 46, 47, 48], [0, 48])])
def tidemarklaw09_short.B5 : List Nat := [0, 0, 0, 6, 14, 30, 62, 0, 0, 384, 896, 1920, 4094, 8190, 0, 0, 49152, 114688, 245760, 507904, 1032192, 2097150, 0, 0, 12582912, 29360128, 62914560, 130023424, 264241152, 536870910, 0, 0, 3221225472, 7516192768, 16106127360, 33285996544, 67645734912, 136365211648, 274877906942, 0, 0, 1649267441664, 3848290697216, 8246337208320, 17042430230528, 34634616274944, 69818988363776, 140737488355326, 281474976710655, 562949953421311]
theorem tidemarklaw09_short.tab5 : rtab .any (opsOf Try.f66 5) = tidemarklaw09_short.T5 := by kernel_rfl
theorem tidemarklaw09_short.bits5 : waitsOk tidemarklaw09_short.T5.2 tidemarklaw09_short.B5 = true := by kernel_rfl
set_option maxHeartbeats 8000000 in
set_option maxRecDepth 100000 in
theorem tidemarklaw09_short.calls (k : Nat) (A0 : Option Addr) (c0 : Nat) (l0 : List (S98)) (r : Bool) (w : World) (hr0 : Kd.C k98 w A0 l0.length l0) (hc0 : l0.length ≤ c0) (h : tidemarklaw09_short.f k l0 = some r) :
    Calls Try.prog 66 #[.slice A0 l0.length c0] w fun e w' => e = .returned (.bool r) ∧ Below w.heap.size w w' := by
  have HR0 := Aside0.mk hr0
  have HC0 := Aside0.mk hc0
  clear hr0 hc0
  have HB := Aside0.mk (Below.refl w.heap.size w)
  have H : (tidemarklaw09_short.l0 k l0 0 0) = some r := h
  clear h
  have H' := Aside0.mk H
  clear H
  go_enter Try.func66, Try.ntmps66
  go_wp2
  go_loopg [3, 4] k (fun kq v3 v4 w' => ∃ (x3_1 : Int) (x4_1 : Int), v3 = .int .i64 x3_1 ∧ v4 = .int .i64 x4_1 ∧ Aside0 (tidemarklaw09_short.l0 kq l0 x3_1 x4_1 = some r) ∧ Aside0 (kq ≤ k) ∧ Aside0 (Below w.heap.size w w'))
  case atStart => exact ⟨(0), (0), (by first | rfl | (simp; done) | (simp [*]; done)), (by first | rfl | (simp; done) | (simp [*]; done)), H', ⟨Nat.le_refl _⟩, ⟨by repeat (first | (with_reducible first | exact HB.out | apply below_alloc | apply pw_below_drewN | apply below_drew1) | exact HB.out)⟩⟩
  case round =>
    clear H'
    obtain ⟨x3_1, x4_1, rfl, rfl, HA, HK1, HB⟩ := hrel
    cases gk with
    | zero => exact absurd HA.out (by simp [tidemarklaw09_short.l0])
    | succ k1 =>
      have H := HA.out
      clear HA
      simp only [tidemarklaw09_short.l0] at H
      have HC2 := Aside0.mk H
      clear H
      go_upto_region 3 with (fail)
      go_cut [16] (fun v16 wc => ∃ (kq : Nat) (x16_1 : Bool), v16 = .bool x16_1 ∧ Aside0 (tidemarklaw09_short.j1 kq l0 x3_1 x4_1 x16_1 = some r) ∧ Aside0 (kq ≤ k1) ∧ Aside0 (Below w.heap.size w wc))
      case first =>
        have H := HC2.out
        clear HC2
        by_cases c3 : x4_1 < (l0.length : Int)
        · rw [if_pos c3] at H
          have c3b0 : decide (x4_1 < (l0.length : Int)) = true := decide_eq_true c3
          clear c3
          (first | rw [c3b0] | (simp only [i64_w, i32_w]; rw [c3b0]) | skip)
          by_cases c4 : x4_1 ≤ 100
          · rw [if_pos c4] at H
            have c4b0 : decide (x4_1 ≤ 100) = true := decide_eq_true c4
            clear c4
            have H' := Aside0.mk H
            clear H
            go_wp2
            go_meet
            case rel => exact ⟨_, (decide (x3_1 ≤ 32768)), (by first | rfl | (simp; done) | (simp [*]; done)), H', ⟨by have := HK1.out; first | omega | exact Nat.le_refl _⟩, ⟨by repeat (first | (with_reducible first | exact HB.out | apply below_alloc | apply pw_below_drewN | apply below_drew1) | exact HB.out)⟩⟩
          · rw [if_neg c4] at H
            have c4b0 : decide (x4_1 ≤ 100) = false := decide_eq_false c4
            clear c4
            have H' := Aside0.mk H
            clear H
            go_wp2
            go_meet
            case rel => exact ⟨_, (false), (by first | rfl | (simp; done) | (simp [*]; done)), H', ⟨by have := HK1.out; first | omega | exact Nat.le_refl _⟩, ⟨by repeat (first | (with_reducible first | exact HB.out | apply below_alloc | apply pw_below_drewN | apply below_drew1) | exact HB.out)⟩⟩
        · rw [if_neg c3] at H
          have c3b0 : decide (x4_1 < (l0.length : Int)) = false := decide_eq_false c3
          clear c3
          (first | rw [c3b0] | (simp only [i64_w, i32_w]; rw [c3b0]) | skip)
          have H' := Aside0.mk H
          clear H
          go_wp2
          go_meet
          case rel => exact ⟨_, (false), (by first | rfl | (simp; done) | (simp [*]; done)), H', ⟨by have := HK1.out; first | omega | exact Nat.le_refl _⟩, ⟨by repeat (first | (with_reducible first | exact HB.out | apply below_alloc | apply pw_below_drewN | apply below_drew1) | exact HB.out)⟩⟩
      case rest =>
        clear HC2
        try clear p2
        try clear c3
        try clear c3b0
        try clear c4
        try clear c4b0
        obtain ⟨kq, x16_1, rfl, HA, HJ1, HB⟩ := hcut
        cases kq with
        | zero => exact absurd HA.out (by simp [tidemarklaw09_short.j1])
        | succ kj1 =>
          have H := HA.out
          clear HA
          simp only [tidemarklaw09_short.j1] at H
          by_cases c5 : x16_1 = true
          · subst c5
            have H1 : (if 0 ≤ x4_1 then (if x4_1 < (l0.length : Int) then ((tidemarklaw09_weigh.f kj1 ((rd_T98 l0 x4_1).f2)).bind fun t194 => ((tidemarklaw09_weigh.f kj1 ((rd_T98 l0 x4_1).f3)).bind fun t196 => (tidemarklaw09_short.l0 kj1 l0 (wrap64 (x3_1 + (wrap64 ((wrap64 ((wrap64 ((wrap64 ((wrap64 (t194 + t196)) + (mn (((rd_T98 l0 x4_1).f4).size : Int) 32768))) + (mn (((rd_T98 l0 x4_1).f5).size : Int) 32768))) + (mn (((rd_T98 l0 x4_1).f6.f1).size : Int) 32768))) + (mn (((rd_T98 l0 x4_1).f6.f5).size : Int) 32768))))) (wrap64 (x4_1 + 1))))) else (none)) else (none)) = some r := by rw [if_pos rfl] at H; exact H
            clear H
            have H := H1
            clear H1
            by_cases c6 : 0 ≤ x4_1
            · rw [if_pos c6] at H
              have c6b0 : decide (0 ≤ x4_1) = true := decide_eq_true c6
              clear c6
              by_cases c7 : x4_1 < (l0.length : Int)
              · rw [if_pos c7] at H
                have c7b0 : decide (x4_1 < (l0.length : Int)) = true := decide_eq_true c7
                clear c7
                replace H := Option.bind_eq_some_iff.mp H
                obtain ⟨t194, A80, H⟩ := H
                replace H : ((tidemarklaw09_weigh.f kj1 ((rd_T98 l0 x4_1).f3)).bind fun t196 => (tidemarklaw09_short.l0 kj1 l0 (wrap64 (x3_1 + (wrap64 ((wrap64 ((wrap64 ((wrap64 ((wrap64 (t194 + t196)) + (mn (((rd_T98 l0 x4_1).f4).size : Int) 32768))) + (mn (((rd_T98 l0 x4_1).f5).size : Int) 32768))) + (mn (((rd_T98 l0 x4_1).f6.f1).size : Int) 32768))) + (mn (((rd_T98 l0 x4_1).f6.f5).size : Int) 32768))))) (wrap64 (x4_1 + 1)))) = some r := H
                have A8 := Aside0.mk A80
                clear A80
                replace H := Option.bind_eq_some_iff.mp H
                obtain ⟨t196, A90, H⟩ := H
                replace H : (tidemarklaw09_short.l0 kj1 l0 (wrap64 (x3_1 + (wrap64 ((wrap64 ((wrap64 ((wrap64 ((wrap64 (t194 + t196)) + (mn (((rd_T98 l0 x4_1).f4).size : Int) 32768))) + (mn (((rd_T98 l0 x4_1).f5).size : Int) 32768))) + (mn (((rd_T98 l0 x4_1).f6.f1).size : Int) 32768))) + (mn (((rd_T98 l0 x4_1).f6.f5).size : Int) 32768))))) (wrap64 (x4_1 + 1))) = some r := H
                have A9 := Aside0.mk A90
                clear A90
                obtain ⟨ji10, hji10⟩ : ∃ j_ : Int, (mn (((rd_T98 l0 x4_1).f4).size : Int) 32768) = j_ := ⟨_, rfl⟩
                replace H : (tidemarklaw09_short.l0 kj1 l0 (wrap64 (x3_1 + (wrap64 ((wrap64 ((wrap64 ((wrap64 ((wrap64 (t194 + t196)) + (ji10))) + (mn (((rd_T98 l0 x4_1).f5).size : Int) 32768))) + (mn (((rd_T98 l0 x4_1).f6.f1).size : Int) 32768))) + (mn (((rd_T98 l0 x4_1).f6.f5).size : Int) 32768))))) (wrap64 (x4_1 + 1))) = some r := by first | (rw [hji10] at H; exact H) | (simp only [hji10] at H ⊢; exact H)
                (try rw [hji10] at A8)
                (try rw [hji10] at A9)
                have hji10_ : (if 32768 < (((rd_T98 l0 x4_1).f4).size : Int) then 32768 else (((rd_T98 l0 x4_1).f4).size : Int)) = ji10 := hji10
                obtain ⟨ji11, hji11⟩ : ∃ j_ : Int, (mn (((rd_T98 l0 x4_1).f5).size : Int) 32768) = j_ := ⟨_, rfl⟩
                replace H : (tidemarklaw09_short.l0 kj1 l0 (wrap64 (x3_1 + (wrap64 ((wrap64 ((wrap64 ((wrap64 ((wrap64 (t194 + t196)) + (ji10))) + (ji11))) + (mn (((rd_T98 l0 x4_1).f6.f1).size : Int) 32768))) + (mn (((rd_T98 l0 x4_1).f6.f5).size : Int) 32768))))) (wrap64 (x4_1 + 1))) = some r := by first | (rw [hji11] at H; exact H) | (simp only [hji11] at H ⊢; exact H)
                (try rw [hji11] at A8)
                (try rw [hji11] at A9)
                have hji11_ : (if 32768 < (((rd_T98 l0 x4_1).f5).size : Int) then 32768 else (((rd_T98 l0 x4_1).f5).size : Int)) = ji11 := hji11
                obtain ⟨ji12, hji12⟩ : ∃ j_ : Int, (mn (((rd_T98 l0 x4_1).f6.f1).size : Int) 32768) = j_ := ⟨_, rfl⟩
                replace H : (tidemarklaw09_short.l0 kj1 l0 (wrap64 (x3_1 + (wrap64 ((wrap64 ((wrap64 ((wrap64 ((wrap64 (t194 + t196)) + (ji10))) + (ji11))) + (ji12))) + (mn (((rd_T98 l0 x4_1).f6.f5).size : Int) 32768))))) (wrap64 (x4_1 + 1))) = some r := by first | (rw [hji12] at H; exact H) | (simp only [hji12] at H ⊢; exact H)
                (try rw [hji12] at A8)
                (try rw [hji12] at A9)
                have hji12_ : (if 32768 < (((rd_T98 l0 x4_1).f6.f1).size : Int) then 32768 else (((rd_T98 l0 x4_1).f6.f1).size : Int)) = ji12 := hji12
                obtain ⟨ji13, hji13⟩ : ∃ j_ : Int, (mn (((rd_T98 l0 x4_1).f6.f5).size : Int) 32768) = j_ := ⟨_, rfl⟩
                replace H : (tidemarklaw09_short.l0 kj1 l0 (wrap64 (x3_1 + (wrap64 ((wrap64 ((wrap64 ((wrap64 ((wrap64 (t194 + t196)) + (ji10))) + (ji11))) + (ji12))) + (ji13))))) (wrap64 (x4_1 + 1))) = some r := by first | (rw [hji13] at H; exact H) | (simp only [hji13] at H ⊢; exact H)
                (try rw [hji13] at A8)
                (try rw [hji13] at A9)
                have hji13_ : (if 32768 < (((rd_T98 l0 x4_1).f6.f5).size : Int) then 32768 else (((rd_T98 l0 x4_1).f6.f5).size : Int)) = ji13 := hji13
                have H' := Aside0.mk H
                clear H
                try go_wp2
                have n0_ := Aside0.mk (below_drew1 HB.out)
                clear HB
                have HB := n0_
                clear n0_
                have p193 : 0 ≤ (x4_1 : Int) := of_decide_eq_true (by first | (with_reducible assumption) | assumption)
                have q193 : x4_1 < (l0.length : Int) := of_decide_eq_true (by first | (with_reducible assumption) | assumption)
                obtain ⟨ad193, A193_2, c193_2, A193_3, c193_3, e193, hx193_0, hx193_1, hx193_2, hx193_3, hx193_4, hx193_5, hx193_6, hx193_7, hx193_8, hx193_9, hx193_10, hx193_11, hl193_2, hi193_2, hl193_3, hi193_3⟩ := at_T98 HR0.out x4_1 p193 q193
                have hw193_11 := hx193_11
                have hw193_10 := hx193_10
                have hw193_9 := hx193_9
                have hw193_8 := hx193_8
                have hw193_7 := hx193_7
                have hw193_6 := hx193_6
                have hw193_5 := hx193_5
                have hw193_4 := hx193_4
                have hw193_3 := hx193_3
                have hw193_2 := hx193_2
                have hw193_1 := hx193_1
                have hw193_0 := hx193_0
                cases e193
                replace hx193_0 := (HB.out.cell (World.block_lt_of_cell? w _ hx193_0)).trans hx193_0
                replace hx193_1 := (HB.out.cell (World.block_lt_of_cell? w _ hx193_1)).trans hx193_1
                replace hx193_2 := (HB.out.cell (World.block_lt_of_cell? w _ hx193_2)).trans hx193_2
                replace hx193_3 := (HB.out.cell (World.block_lt_of_cell? w _ hx193_3)).trans hx193_3
                replace hx193_4 := (HB.out.cell (World.block_lt_of_cell? w _ hx193_4)).trans hx193_4
                replace hx193_5 := (HB.out.cell (World.block_lt_of_cell? w _ hx193_5)).trans hx193_5
                replace hx193_6 := (HB.out.cell (World.block_lt_of_cell? w _ hx193_6)).trans hx193_6
                replace hx193_7 := (HB.out.cell (World.block_lt_of_cell? w _ hx193_7)).trans hx193_7
                replace hx193_8 := (HB.out.cell (World.block_lt_of_cell? w _ hx193_8)).trans hx193_8
                replace hx193_9 := (HB.out.cell (World.block_lt_of_cell? w _ hx193_9)).trans hx193_9
                replace hx193_10 := (HB.out.cell (World.block_lt_of_cell? w _ hx193_10)).trans hx193_10
                replace hx193_11 := (HB.out.cell (World.block_lt_of_cell? w _ hx193_11)).trans hx193_11
                have HR193_2 := Aside0.mk hi193_2
                have HC193_2 := Aside0.mk hl193_2
                clear hi193_2 hl193_2
                have HR193_3 := Aside0.mk hi193_3
                have HC193_3 := Aside0.mk hl193_3
                clear hi193_3 hl193_3
                replace p193 := eq_true p193
                replace q193 := eq_true q193
                have p195 : 0 ≤ (x4_1 : Int) := of_decide_eq_true (by first | (with_reducible assumption) | assumption)
                have q195 : x4_1 < (l0.length : Int) := of_decide_eq_true (by first | (with_reducible assumption) | assumption)
                obtain ⟨ad195, A195_2, c195_2, A195_3, c195_3, e195, hx195_0, hx195_1, hx195_2, hx195_3, hx195_4, hx195_5, hx195_6, hx195_7, hx195_8, hx195_9, hx195_10, hx195_11, hl195_2, hi195_2, hl195_3, hi195_3⟩ := at_T98 HR0.out x4_1 p195 q195
                have hw195_11 := hx195_11
                have hw195_10 := hx195_10
                have hw195_9 := hx195_9
                have hw195_8 := hx195_8
                have hw195_7 := hx195_7
                have hw195_6 := hx195_6
                have hw195_5 := hx195_5
                have hw195_4 := hx195_4
                have hw195_3 := hx195_3
                have hw195_2 := hx195_2
                have hw195_1 := hx195_1
                have hw195_0 := hx195_0
                obtain rfl : ad193 = ad195 := (by injection e195)
                replace hx195_0 := (HB.out.cell (World.block_lt_of_cell? w _ hx195_0)).trans hx195_0
                replace hx195_1 := (HB.out.cell (World.block_lt_of_cell? w _ hx195_1)).trans hx195_1
                replace hx195_2 := (HB.out.cell (World.block_lt_of_cell? w _ hx195_2)).trans hx195_2
                replace hx195_3 := (HB.out.cell (World.block_lt_of_cell? w _ hx195_3)).trans hx195_3
                replace hx195_4 := (HB.out.cell (World.block_lt_of_cell? w _ hx195_4)).trans hx195_4
                replace hx195_5 := (HB.out.cell (World.block_lt_of_cell? w _ hx195_5)).trans hx195_5
                replace hx195_6 := (HB.out.cell (World.block_lt_of_cell? w _ hx195_6)).trans hx195_6
                replace hx195_7 := (HB.out.cell (World.block_lt_of_cell? w _ hx195_7)).trans hx195_7
                replace hx195_8 := (HB.out.cell (World.block_lt_of_cell? w _ hx195_8)).trans hx195_8
                replace hx195_9 := (HB.out.cell (World.block_lt_of_cell? w _ hx195_9)).trans hx195_9
                replace hx195_10 := (HB.out.cell (World.block_lt_of_cell? w _ hx195_10)).trans hx195_10
                replace hx195_11 := (HB.out.cell (World.block_lt_of_cell? w _ hx195_11)).trans hx195_11
                have HR195_2 := Aside0.mk hi195_2
                have HC195_2 := Aside0.mk hl195_2
                clear hi195_2 hl195_2
                have HR195_3 := Aside0.mk hi195_3
                have HC195_3 := Aside0.mk hl195_3
                clear hi195_3 hl195_3
                replace p195 := eq_true p195
                replace q195 := eq_true q195
                have ea_ := Option.some.inj (hx193_2.symm.trans hx195_2)
                injection ea_ with ea_ en_ ec_
                subst ea_
                subst ec_
                clear en_
                have ea_ := Option.some.inj (hx193_3.symm.trans hx195_3)
                injection ea_ with ea_ en_ ec_
                subst ea_
                subst ec_
                clear en_
                have p197 : 0 ≤ (x4_1 : Int) := of_decide_eq_true (by first | (with_reducible assumption) | assumption)
                have q197 : x4_1 < (l0.length : Int) := of_decide_eq_true (by first | (with_reducible assumption) | assumption)
                obtain ⟨ad197, A197_2, c197_2, A197_3, c197_3, e197, hx197_0, hx197_1, hx197_2, hx197_3, hx197_4, hx197_5, hx197_6, hx197_7, hx197_8, hx197_9, hx197_10, hx197_11, hl197_2, hi197_2, hl197_3, hi197_3⟩ := at_T98 HR0.out x4_1 p197 q197
                have hw197_11 := hx197_11
                have hw197_10 := hx197_10
                have hw197_9 := hx197_9
                have hw197_8 := hx197_8
                have hw197_7 := hx197_7
                have hw197_6 := hx197_6
                have hw197_5 := hx197_5
                have hw197_4 := hx197_4
                have hw197_3 := hx197_3
                have hw197_2 := hx197_2
                have hw197_1 := hx197_1
                have hw197_0 := hx197_0
                obtain rfl : ad193 = ad197 := (by injection e197)
                replace hx197_0 := (HB.out.cell (World.block_lt_of_cell? w _ hx197_0)).trans hx197_0
                replace hx197_1 := (HB.out.cell (World.block_lt_of_cell? w _ hx197_1)).trans hx197_1
                replace hx197_2 := (HB.out.cell (World.block_lt_of_cell? w _ hx197_2)).trans hx197_2
                replace hx197_3 := (HB.out.cell (World.block_lt_of_cell? w _ hx197_3)).trans hx197_3
                replace hx197_4 := (HB.out.cell (World.block_lt_of_cell? w _ hx197_4)).trans hx197_4
                replace hx197_5 := (HB.out.cell (World.block_lt_of_cell? w _ hx197_5)).trans hx197_5
                replace hx197_6 := (HB.out.cell (World.block_lt_of_cell? w _ hx197_6)).trans hx197_6
                replace hx197_7 := (HB.out.cell (World.block_lt_of_cell? w _ hx197_7)).trans hx197_7
                replace hx197_8 := (HB.out.cell (World.block_lt_of_cell? w _ hx197_8)).trans hx197_8
                replace hx197_9 := (HB.out.cell (World.block_lt_of_cell? w _ hx197_9)).trans hx197_9
                replace hx197_10 := (HB.out.cell (World.block_lt_of_cell? w _ hx197_10)).trans hx197_10
                replace hx197_11 := (HB.out.cell (World.block_lt_of_cell? w _ hx197_11)).trans hx197_11
                have HR197_2 := Aside0.mk hi197_2
                have HC197_2 := Aside0.mk hl197_2
                clear hi197_2 hl197_2
                have HR197_3 := Aside0.mk hi197_3
                have HC197_3 := Aside0.mk hl197_3
                clear hi197_3 hl197_3
                replace p197 := eq_true p197
                replace q197 := eq_true q197
                have ea_ := Option.some.inj (hx193_2.symm.trans hx197_2)
                injection ea_ with ea_ en_ ec_
                subst ea_
                subst ec_
                clear en_
                have ea_ := Option.some.inj (hx193_3.symm.trans hx197_3)
                injection ea_ with ea_ en_ ec_
                subst ea_
                subst ec_
                clear en_
                have p198 : 0 ≤ (x4_1 : Int) := of_decide_eq_true (by first | (with_reducible assumption) | assumption)
                have q198 : x4_1 < (l0.length : Int) := of_decide_eq_true (by first | (with_reducible assumption) | assumption)
                obtain ⟨ad198, A198_2, c198_2, A198_3, c198_3, e198, hx198_0, hx198_1, hx198_2, hx198_3, hx198_4, hx198_5, hx198_6, hx198_7, hx198_8, hx198_9, hx198_10, hx198_11, hl198_2, hi198_2, hl198_3, hi198_3⟩ := at_T98 HR0.out x4_1 p198 q198
                have hw198_11 := hx198_11
                have hw198_10 := hx198_10
                have hw198_9 := hx198_9
                have hw198_8 := hx198_8
                have hw198_7 := hx198_7
                have hw198_6 := hx198_6
                have hw198_5 := hx198_5
                have hw198_4 := hx198_4
                have hw198_3 := hx198_3
                have hw198_2 := hx198_2
                have hw198_1 := hx198_1
                have hw198_0 := hx198_0
                obtain rfl : ad193 = ad198 := (by injection e198)
                replace hx198_0 := (HB.out.cell (World.block_lt_of_cell? w _ hx198_0)).trans hx198_0
                replace hx198_1 := (HB.out.cell (World.block_lt_of_cell? w _ hx198_1)).trans hx198_1
                replace hx198_2 := (HB.out.cell (World.block_lt_of_cell? w _ hx198_2)).trans hx198_2
                replace hx198_3 := (HB.out.cell (World.block_lt_of_cell? w _ hx198_3)).trans hx198_3
                replace hx198_4 := (HB.out.cell (World.block_lt_of_cell? w _ hx198_4)).trans hx198_4
                replace hx198_5 := (HB.out.cell (World.block_lt_of_cell? w _ hx198_5)).trans hx198_5
                replace hx198_6 := (HB.out.cell (World.block_lt_of_cell? w _ hx198_6)).trans hx198_6
                replace hx198_7 := (HB.out.cell (World.block_lt_of_cell? w _ hx198_7)).trans hx198_7
                replace hx198_8 := (HB.out.cell (World.block_lt_of_cell? w _ hx198_8)).trans hx198_8
                replace hx198_9 := (HB.out.cell (World.block_lt_of_cell? w _ hx198_9)).trans hx198_9
                replace hx198_10 := (HB.out.cell (World.block_lt_of_cell? w _ hx198_10)).trans hx198_10
                replace hx198_11 := (HB.out.cell (World.block_lt_of_cell? w _ hx198_11)).trans hx198_11
                have HR198_2 := Aside0.mk hi198_2
                have HC198_2 := Aside0.mk hl198_2
                clear hi198_2 hl198_2
                have HR198_3 := Aside0.mk hi198_3
                have HC198_3 := Aside0.mk hl198_3
                clear hi198_3 hl198_3
                replace p198 := eq_true p198
                replace q198 := eq_true q198
                have ea_ := Option.some.inj (hx193_2.symm.trans hx198_2)
                injection ea_ with ea_ en_ ec_
                subst ea_
                subst ec_
                clear en_
                have ea_ := Option.some.inj (hx193_3.symm.trans hx198_3)
                injection ea_ with ea_ en_ ec_
                subst ea_
                subst ec_
                clear en_
                have p199 : 0 ≤ (x4_1 : Int) := of_decide_eq_true (by first | (with_reducible assumption) | assumption)
                have q199 : x4_1 < (l0.length : Int) := of_decide_eq_true (by first | (with_reducible assumption) | assumption)
                obtain ⟨ad199, A199_2, c199_2, A199_3, c199_3, e199, hx199_0, hx199_1, hx199_2, hx199_3, hx199_4, hx199_5, hx199_6, hx199_7, hx199_8, hx199_9, hx199_10, hx199_11, hl199_2, hi199_2, hl199_3, hi199_3⟩ := at_T98 HR0.out x4_1 p199 q199
                have hw199_11 := hx199_11
                have hw199_10 := hx199_10
                have hw199_9 := hx199_9
                have hw199_8 := hx199_8
                have hw199_7 := hx199_7
                have hw199_6 := hx199_6
                have hw199_5 := hx199_5
                have hw199_4 := hx199_4
                have hw199_3 := hx199_3
                have hw199_2 := hx199_2
                have hw199_1 := hx199_1
                have hw199_0 := hx199_0
                obtain rfl : ad193 = ad199 := (by injection e199)
                replace hx199_0 := (HB.out.cell (World.block_lt_of_cell? w _ hx199_0)).trans hx199_0
                replace hx199_1 := (HB.out.cell (World.block_lt_of_cell? w _ hx199_1)).trans hx199_1
                replace hx199_2 := (HB.out.cell (World.block_lt_of_cell? w _ hx199_2)).trans hx199_2
                replace hx199_3 := (HB.out.cell (World.block_lt_of_cell? w _ hx199_3)).trans hx199_3
                replace hx199_4 := (HB.out.cell (World.block_lt_of_cell? w _ hx199_4)).trans hx199_4
                replace hx199_5 := (HB.out.cell (World.block_lt_of_cell? w _ hx199_5)).trans hx199_5
                replace hx199_6 := (HB.out.cell (World.block_lt_of_cell? w _ hx199_6)).trans hx199_6
                replace hx199_7 := (HB.out.cell (World.block_lt_of_cell? w _ hx199_7)).trans hx199_7
                replace hx199_8 := (HB.out.cell (World.block_lt_of_cell? w _ hx199_8)).trans hx199_8
                replace hx199_9 := (HB.out.cell (World.block_lt_of_cell? w _ hx199_9)).trans hx199_9
                replace hx199_10 := (HB.out.cell (World.block_lt_of_cell? w _ hx199_10)).trans hx199_10
                replace hx199_11 := (HB.out.cell (World.block_lt_of_cell? w _ hx199_11)).trans hx199_11
                have HR199_2 := Aside0.mk hi199_2
                have HC199_2 := Aside0.mk hl199_2
                clear hi199_2 hl199_2
                have HR199_3 := Aside0.mk hi199_3
                have HC199_3 := Aside0.mk hl199_3
                clear hi199_3 hl199_3
                replace p199 := eq_true p199
                replace q199 := eq_true q199
                have ea_ := Option.some.inj (hx193_2.symm.trans hx199_2)
                injection ea_ with ea_ en_ ec_
                subst ea_
                subst ec_
                clear en_
                have ea_ := Option.some.inj (hx193_3.symm.trans hx199_3)
                injection ea_ with ea_ en_ ec_
                subst ea_
                subst ec_
                clear en_
                have p200 : 0 ≤ (x4_1 : Int) := of_decide_eq_true (by first | (with_reducible assumption) | assumption)
                have q200 : x4_1 < (l0.length : Int) := of_decide_eq_true (by first | (with_reducible assumption) | assumption)
                obtain ⟨ad200, A200_2, c200_2, A200_3, c200_3, e200, hx200_0, hx200_1, hx200_2, hx200_3, hx200_4, hx200_5, hx200_6, hx200_7, hx200_8, hx200_9, hx200_10, hx200_11, hl200_2, hi200_2, hl200_3, hi200_3⟩ := at_T98 HR0.out x4_1 p200 q200
                have hw200_11 := hx200_11
                have hw200_10 := hx200_10
                have hw200_9 := hx200_9
                have hw200_8 := hx200_8
                have hw200_7 := hx200_7
                have hw200_6 := hx200_6
                have hw200_5 := hx200_5
                have hw200_4 := hx200_4
                have hw200_3 := hx200_3
                have hw200_2 := hx200_2
                have hw200_1 := hx200_1
                have hw200_0 := hx200_0
                obtain rfl : ad193 = ad200 := (by injection e200)
                replace hx200_0 := (HB.out.cell (World.block_lt_of_cell? w _ hx200_0)).trans hx200_0
                replace hx200_1 := (HB.out.cell (World.block_lt_of_cell? w _ hx200_1)).trans hx200_1
                replace hx200_2 := (HB.out.cell (World.block_lt_of_cell? w _ hx200_2)).trans hx200_2
                replace hx200_3 := (HB.out.cell (World.block_lt_of_cell? w _ hx200_3)).trans hx200_3
                replace hx200_4 := (HB.out.cell (World.block_lt_of_cell? w _ hx200_4)).trans hx200_4
                replace hx200_5 := (HB.out.cell (World.block_lt_of_cell? w _ hx200_5)).trans hx200_5
                replace hx200_6 := (HB.out.cell (World.block_lt_of_cell? w _ hx200_6)).trans hx200_6
                replace hx200_7 := (HB.out.cell (World.block_lt_of_cell? w _ hx200_7)).trans hx200_7
                replace hx200_8 := (HB.out.cell (World.block_lt_of_cell? w _ hx200_8)).trans hx200_8
                replace hx200_9 := (HB.out.cell (World.block_lt_of_cell? w _ hx200_9)).trans hx200_9
                replace hx200_10 := (HB.out.cell (World.block_lt_of_cell? w _ hx200_10)).trans hx200_10
                replace hx200_11 := (HB.out.cell (World.block_lt_of_cell? w _ hx200_11)).trans hx200_11
                have HR200_2 := Aside0.mk hi200_2
                have HC200_2 := Aside0.mk hl200_2
                clear hi200_2 hl200_2
                have HR200_3 := Aside0.mk hi200_3
                have HC200_3 := Aside0.mk hl200_3
                clear hi200_3 hl200_3
                replace p200 := eq_true p200
                replace q200 := eq_true q200
                have ea_ := Option.some.inj (hx193_2.symm.trans hx200_2)
                injection ea_ with ea_ en_ ec_
                subst ea_
                subst ec_
                clear en_
                have ea_ := Option.some.inj (hx193_3.symm.trans hx200_3)
                injection ea_ with ea_ en_ ec_
                subst ea_
                subst ec_
                clear en_
                refine start_ (n := 50) (S := fun w' => w'.cell? (ad193.add ((x4_1).toNat * 12)) = some (.int .i64 ((rd_T98 l0 x4_1).f0)) ∧ w'.cell? ⟨(ad193.add ((x4_1).toNat * 12)).block, (ad193.add ((x4_1).toNat * 12)).off + 1, none⟩ = some (.int .i64 ((rd_T98 l0 x4_1).f1)) ∧ w'.cell? ⟨(ad193.add ((x4_1).toNat * 12)).block, (ad193.add ((x4_1).toNat * 12)).off + 2, none⟩ = some (.slice A193_2 ((rd_T98 l0 x4_1).f2).length c193_2) ∧ w'.cell? ⟨(ad193.add ((x4_1).toNat * 12)).block, (ad193.add ((x4_1).toNat * 12)).off + 3, none⟩ = some (.slice A193_3 ((rd_T98 l0 x4_1).f3).length c193_3) ∧ w'.cell? ⟨(ad193.add ((x4_1).toNat * 12)).block, (ad193.add ((x4_1).toNat * 12)).off + 4, none⟩ = some (.string ((rd_T98 l0 x4_1).f4)) ∧ w'.cell? ⟨(ad193.add ((x4_1).toNat * 12)).block, (ad193.add ((x4_1).toNat * 12)).off + 5, none⟩ = some (.string ((rd_T98 l0 x4_1).f5)) ∧ w'.cell? ⟨(ad193.add ((x4_1).toNat * 12)).block, (ad193.add ((x4_1).toNat * 12)).off + 6, none⟩ = some (.int .i64 ((rd_T98 l0 x4_1).f6.f0)) ∧ w'.cell? ⟨(ad193.add ((x4_1).toNat * 12)).block, (ad193.add ((x4_1).toNat * 12)).off + 7, none⟩ = some (.string ((rd_T98 l0 x4_1).f6.f1)) ∧ w'.cell? ⟨(ad193.add ((x4_1).toNat * 12)).block, (ad193.add ((x4_1).toNat * 12)).off + 8, none⟩ = some (.bool ((rd_T98 l0 x4_1).f6.f2)) ∧ w'.cell? ⟨(ad193.add ((x4_1).toNat * 12)).block, (ad193.add ((x4_1).toNat * 12)).off + 9, none⟩ = some (.string ((rd_T98 l0 x4_1).f6.f3)) ∧ w'.cell? ⟨(ad193.add ((x4_1).toNat * 12)).block, (ad193.add ((x4_1).toNat * 12)).off + 10, none⟩ = some (.bool ((rd_T98 l0 x4_1).f6.f4)) ∧ w'.cell? ⟨(ad193.add ((x4_1).toNat * 12)).block, (ad193.add ((x4_1).toNat * 12)).off + 11, none⟩ = some (.string ((rd_T98 l0 x4_1).f6.f5)) ∧ w'.cell? (ad193.add ((x4_1).toNat * 12)) = some (.int .i64 ((rd_T98 l0 x4_1).f0)) ∧ w'.cell? ⟨(ad193.add ((x4_1).toNat * 12)).block, (ad193.add ((x4_1).toNat * 12)).off + 1, none⟩ = some (.int .i64 ((rd_T98 l0 x4_1).f1)) ∧ w'.cell? ⟨(ad193.add ((x4_1).toNat * 12)).block, (ad193.add ((x4_1).toNat * 12)).off + 2, none⟩ = some (.slice A193_2 ((rd_T98 l0 x4_1).f2).length c193_2) ∧ w'.cell? ⟨(ad193.add ((x4_1).toNat * 12)).block, (ad193.add ((x4_1).toNat * 12)).off + 3, none⟩ = some (.slice A193_3 ((rd_T98 l0 x4_1).f3).length c193_3) ∧ w'.cell? ⟨(ad193.add ((x4_1).toNat * 12)).block, (ad193.add ((x4_1).toNat * 12)).off + 4, none⟩ = some (.string ((rd_T98 l0 x4_1).f4)) ∧ w'.cell? ⟨(ad193.add ((x4_1).toNat * 12)).block, (ad193.add ((x4_1).toNat * 12)).off + 5, none⟩ = some (.string ((rd_T98 l0 x4_1).f5)) ∧ w'.cell? ⟨(ad193.add ((x4_1).toNat * 12)).block, (ad193.add ((x4_1).toNat * 12)).off + 6, none⟩ = some (.int .i64 ((rd_T98 l0 x4_1).f6.f0)) ∧ w'.cell? ⟨(ad193.add ((x4_1).toNat * 12)).block, (ad193.add ((x4_1).toNat * 12)).off + 7, none⟩ = some (.string ((rd_T98 l0 x4_1).f6.f1)) ∧ w'.cell? ⟨(ad193.add ((x4_1).toNat * 12)).block, (ad193.add ((x4_1).toNat * 12)).off + 8, none⟩ = some (.bool ((rd_T98 l0 x4_1).f6.f2)) ∧ w'.cell? ⟨(ad193.add ((x4_1).toNat * 12)).block, (ad193.add ((x4_1).toNat * 12)).off + 9, none⟩ = some (.string ((rd_T98 l0 x4_1).f6.f3)) ∧ w'.cell? ⟨(ad193.add ((x4_1).toNat * 12)).block, (ad193.add ((x4_1).toNat * 12)).off + 10, none⟩ = some (.bool ((rd_T98 l0 x4_1).f6.f4)) ∧ w'.cell? ⟨(ad193.add ((x4_1).toNat * 12)).block, (ad193.add ((x4_1).toNat * 12)).off + 11, none⟩ = some (.string ((rd_T98 l0 x4_1).f6.f5)) ∧ w'.cell? (ad193.add ((x4_1).toNat * 12)) = some (.int .i64 ((rd_T98 l0 x4_1).f0)) ∧ w'.cell? ⟨(ad193.add ((x4_1).toNat * 12)).block, (ad193.add ((x4_1).toNat * 12)).off + 1, none⟩ = some (.int .i64 ((rd_T98 l0 x4_1).f1)) ∧ w'.cell? ⟨(ad193.add ((x4_1).toNat * 12)).block, (ad193.add ((x4_1).toNat * 12)).off + 2, none⟩ = some (.slice A193_2 ((rd_T98 l0 x4_1).f2).length c193_2) ∧ w'.cell? ⟨(ad193.add ((x4_1).toNat * 12)).block, (ad193.add ((x4_1).toNat * 12)).off + 3, none⟩ = some (.slice A193_3 ((rd_T98 l0 x4_1).f3).length c193_3) ∧ w'.cell? ⟨(ad193.add ((x4_1).toNat * 12)).block, (ad193.add ((x4_1).toNat * 12)).off + 4, none⟩ = some (.string ((rd_T98 l0 x4_1).f4)) ∧ w'.cell? ⟨(ad193.add ((x4_1).toNat * 12)).block, (ad193.add ((x4_1).toNat * 12)).off + 5, none⟩ = some (.string ((rd_T98 l0 x4_1).f5)) ∧ w'.cell? ⟨(ad193.add ((x4_1).toNat * 12)).block, (ad193.add ((x4_1).toNat * 12)).off + 6, none⟩ = some (.int .i64 ((rd_T98 l0 x4_1).f6.f0)) ∧ w'.cell? ⟨(ad193.add ((x4_1).toNat * 12)).block, (ad193.add ((x4_1).toNat * 12)).off + 7, none⟩ = some (.string ((rd_T98 l0 x4_1).f6.f1)) ∧ w'.cell? ⟨(ad193.add ((x4_1).toNat * 12)).block, (ad193.add ((x4_1).toNat * 12)).off + 8, none⟩ = some (.bool ((rd_T98 l0 x4_1).f6.f2)) ∧ w'.cell? ⟨(ad193.add ((x4_1).toNat * 12)).block, (ad193.add ((x4_1).toNat * 12)).off + 9, none⟩ = some (.string ((rd_T98 l0 x4_1).f6.f3)) ∧ w'.cell? ⟨(ad193.add ((x4_1).toNat * 12)).block, (ad193.add ((x4_1).toNat * 12)).off + 10, none⟩ = some (.bool ((rd_T98 l0 x4_1).f6.f4)) ∧ w'.cell? ⟨(ad193.add ((x4_1).toNat * 12)).block, (ad193.add ((x4_1).toNat * 12)).off + 11, none⟩ = some (.string ((rd_T98 l0 x4_1).f6.f5)) ∧ w'.cell? (ad193.add ((x4_1).toNat * 12)) = some (.int .i64 ((rd_T98 l0 x4_1).f0)) ∧ w'.cell? ⟨(ad193.add ((x4_1).toNat * 12)).block, (ad193.add ((x4_1).toNat * 12)).off + 1, none⟩ = some (.int .i64 ((rd_T98 l0 x4_1).f1)) ∧ w'.cell? ⟨(ad193.add ((x4_1).toNat * 12)).block, (ad193.add ((x4_1).toNat * 12)).off + 2, none⟩ = some (.slice A193_2 ((rd_T98 l0 x4_1).f2).length c193_2) ∧ w'.cell? ⟨(ad193.add ((x4_1).toNat * 12)).block, (ad193.add ((x4_1).toNat * 12)).off + 3, none⟩ = some (.slice A193_3 ((rd_T98 l0 x4_1).f3).length c193_3) ∧ w'.cell? ⟨(ad193.add ((x4_1).toNat * 12)).block, (ad193.add ((x4_1).toNat * 12)).off + 4, none⟩ = some (.string ((rd_T98 l0 x4_1).f4)) ∧ w'.cell? ⟨(ad193.add ((x4_1).toNat * 12)).block, (ad193.add ((x4_1).toNat * 12)).off + 5, none⟩ = some (.string ((rd_T98 l0 x4_1).f5)) ∧ w'.cell? ⟨(ad193.add ((x4_1).toNat * 12)).block, (ad193.add ((x4_1).toNat * 12)).off + 6, none⟩ = some (.int .i64 ((rd_T98 l0 x4_1).f6.f0)) ∧ w'.cell? ⟨(ad193.add ((x4_1).toNat * 12)).block, (ad193.add ((x4_1).toNat * 12)).off + 7, none⟩ = some (.string ((rd_T98 l0 x4_1).f6.f1)) ∧ w'.cell? ⟨(ad193.add ((x4_1).toNat * 12)).block, (ad193.add ((x4_1).toNat * 12)).off + 8, none⟩ = some (.bool ((rd_T98 l0 x4_1).f6.f2)) ∧ w'.cell? ⟨(ad193.add ((x4_1).toNat * 12)).block, (ad193.add ((x4_1).toNat * 12)).off + 9, none⟩ = some (.string ((rd_T98 l0 x4_1).f6.f3)) ∧ w'.cell? ⟨(ad193.add ((x4_1).toNat * 12)).block, (ad193.add ((x4_1).toNat * 12)).off + 10, none⟩ = some (.bool ((rd_T98 l0 x4_1).f6.f4)) ∧ w'.cell? ⟨(ad193.add ((x4_1).toNat * 12)).block, (ad193.add ((x4_1).toNat * 12)).off + 11, none⟩ = some (.string ((rd_T98 l0 x4_1).f6.f5)) ∧ w'.cell? (ad193.add ((x4_1).toNat * 12)) = some (.int .i64 ((rd_T98 l0 x4_1).f0)) ∧ w'.cell? ⟨(ad193.add ((x4_1).toNat * 12)).block, (ad193.add ((x4_1).toNat * 12)).off + 1, none⟩ = some (.int .i64 ((rd_T98 l0 x4_1).f1)) ∧ w'.cell? ⟨(ad193.add ((x4_1).toNat * 12)).block, (ad193.add ((x4_1).toNat * 12)).off + 2, none⟩ = some (.slice A193_2 ((rd_T98 l0 x4_1).f2).length c193_2) ∧ w'.cell? ⟨(ad193.add ((x4_1).toNat * 12)).block, (ad193.add ((x4_1).toNat * 12)).off + 3, none⟩ = some (.slice A193_3 ((rd_T98 l0 x4_1).f3).length c193_3) ∧ w'.cell? ⟨(ad193.add ((x4_1).toNat * 12)).block, (ad193.add ((x4_1).toNat * 12)).off + 4, none⟩ = some (.string ((rd_T98 l0 x4_1).f4)) ∧ w'.cell? ⟨(ad193.add ((x4_1).toNat * 12)).block, (ad193.add ((x4_1).toNat * 12)).off + 5, none⟩ = some (.string ((rd_T98 l0 x4_1).f5)) ∧ w'.cell? ⟨(ad193.add ((x4_1).toNat * 12)).block, (ad193.add ((x4_1).toNat * 12)).off + 6, none⟩ = some (.int .i64 ((rd_T98 l0 x4_1).f6.f0)) ∧ w'.cell? ⟨(ad193.add ((x4_1).toNat * 12)).block, (ad193.add ((x4_1).toNat * 12)).off + 7, none⟩ = some (.string ((rd_T98 l0 x4_1).f6.f1)) ∧ w'.cell? ⟨(ad193.add ((x4_1).toNat * 12)).block, (ad193.add ((x4_1).toNat * 12)).off + 8, none⟩ = some (.bool ((rd_T98 l0 x4_1).f6.f2)) ∧ w'.cell? ⟨(ad193.add ((x4_1).toNat * 12)).block, (ad193.add ((x4_1).toNat * 12)).off + 9, none⟩ = some (.string ((rd_T98 l0 x4_1).f6.f3)) ∧ w'.cell? ⟨(ad193.add ((x4_1).toNat * 12)).block, (ad193.add ((x4_1).toNat * 12)).off + 10, none⟩ = some (.bool ((rd_T98 l0 x4_1).f6.f4)) ∧ w'.cell? ⟨(ad193.add ((x4_1).toNat * 12)).block, (ad193.add ((x4_1).toNat * 12)).off + 11, none⟩ = some (.string ((rd_T98 l0 x4_1).f6.f5)) ∧ w'.cell? (ad193.add ((x4_1).toNat * 12)) = some (.int .i64 ((rd_T98 l0 x4_1).f0)) ∧ w'.cell? ⟨(ad193.add ((x4_1).toNat * 12)).block, (ad193.add ((x4_1).toNat * 12)).off + 1, none⟩ = some (.int .i64 ((rd_T98 l0 x4_1).f1)) ∧ w'.cell? ⟨(ad193.add ((x4_1).toNat * 12)).block, (ad193.add ((x4_1).toNat * 12)).off + 2, none⟩ = some (.slice A193_2 ((rd_T98 l0 x4_1).f2).length c193_2) ∧ w'.cell? ⟨(ad193.add ((x4_1).toNat * 12)).block, (ad193.add ((x4_1).toNat * 12)).off + 3, none⟩ = some (.slice A193_3 ((rd_T98 l0 x4_1).f3).length c193_3) ∧ w'.cell? ⟨(ad193.add ((x4_1).toNat * 12)).block, (ad193.add ((x4_1).toNat * 12)).off + 4, none⟩ = some (.string ((rd_T98 l0 x4_1).f4)) ∧ w'.cell? ⟨(ad193.add ((x4_1).toNat * 12)).block, (ad193.add ((x4_1).toNat * 12)).off + 5, none⟩ = some (.string ((rd_T98 l0 x4_1).f5)) ∧ w'.cell? ⟨(ad193.add ((x4_1).toNat * 12)).block, (ad193.add ((x4_1).toNat * 12)).off + 6, none⟩ = some (.int .i64 ((rd_T98 l0 x4_1).f6.f0)) ∧ w'.cell? ⟨(ad193.add ((x4_1).toNat * 12)).block, (ad193.add ((x4_1).toNat * 12)).off + 7, none⟩ = some (.string ((rd_T98 l0 x4_1).f6.f1)) ∧ w'.cell? ⟨(ad193.add ((x4_1).toNat * 12)).block, (ad193.add ((x4_1).toNat * 12)).off + 8, none⟩ = some (.bool ((rd_T98 l0 x4_1).f6.f2)) ∧ w'.cell? ⟨(ad193.add ((x4_1).toNat * 12)).block, (ad193.add ((x4_1).toNat * 12)).off + 9, none⟩ = some (.string ((rd_T98 l0 x4_1).f6.f3)) ∧ w'.cell? ⟨(ad193.add ((x4_1).toNat * 12)).block, (ad193.add ((x4_1).toNat * 12)).off + 10, none⟩ = some (.bool ((rd_T98 l0 x4_1).f6.f4)) ∧ w'.cell? ⟨(ad193.add ((x4_1).toNat * 12)).block, (ad193.add ((x4_1).toNat * 12)).off + 11, none⟩ = some (.string ((rd_T98 l0 x4_1).f6.f5))) (ds := []) #[false, false, false, false, false, false, false, false, false, false, false, false, false, false, false, false, false, false, false, false, false, false, false, false, false, false, false, false, false, false, false, false, false, false, false, false, false, false, false, false, false, false, false, false, false, false, false, false, false, false] (by kernel_rfl) rfl rfl ⟨((HB.out.cell (World.block_lt_of_cell? w _ hw193_0)).trans hw193_0), ((HB.out.cell (World.block_lt_of_cell? w _ hw193_1)).trans hw193_1), ((HB.out.cell (World.block_lt_of_cell? w _ hw193_2)).trans hw193_2), ((HB.out.cell (World.block_lt_of_cell? w _ hw193_3)).trans hw193_3), ((HB.out.cell (World.block_lt_of_cell? w _ hw193_4)).trans hw193_4), ((HB.out.cell (World.block_lt_of_cell? w _ hw193_5)).trans hw193_5), ((HB.out.cell (World.block_lt_of_cell? w _ hw193_6)).trans hw193_6), ((HB.out.cell (World.block_lt_of_cell? w _ hw193_7)).trans hw193_7), ((HB.out.cell (World.block_lt_of_cell? w _ hw193_8)).trans hw193_8), ((HB.out.cell (World.block_lt_of_cell? w _ hw193_9)).trans hw193_9), ((HB.out.cell (World.block_lt_of_cell? w _ hw193_10)).trans hw193_10), ((HB.out.cell (World.block_lt_of_cell? w _ hw193_11)).trans hw193_11), ((HB.out.cell (World.block_lt_of_cell? w _ hw195_0)).trans hw195_0), ((HB.out.cell (World.block_lt_of_cell? w _ hw195_1)).trans hw195_1), ((HB.out.cell (World.block_lt_of_cell? w _ hw195_2)).trans hw195_2), ((HB.out.cell (World.block_lt_of_cell? w _ hw195_3)).trans hw195_3), ((HB.out.cell (World.block_lt_of_cell? w _ hw195_4)).trans hw195_4), ((HB.out.cell (World.block_lt_of_cell? w _ hw195_5)).trans hw195_5), ((HB.out.cell (World.block_lt_of_cell? w _ hw195_6)).trans hw195_6), ((HB.out.cell (World.block_lt_of_cell? w _ hw195_7)).trans hw195_7), ((HB.out.cell (World.block_lt_of_cell? w _ hw195_8)).trans hw195_8), ((HB.out.cell (World.block_lt_of_cell? w _ hw195_9)).trans hw195_9), ((HB.out.cell (World.block_lt_of_cell? w _ hw195_10)).trans hw195_10), ((HB.out.cell (World.block_lt_of_cell? w _ hw195_11)).trans hw195_11), ((HB.out.cell (World.block_lt_of_cell? w _ hw197_0)).trans hw197_0), ((HB.out.cell (World.block_lt_of_cell? w _ hw197_1)).trans hw197_1), ((HB.out.cell (World.block_lt_of_cell? w _ hw197_2)).trans hw197_2), ((HB.out.cell (World.block_lt_of_cell? w _ hw197_3)).trans hw197_3), ((HB.out.cell (World.block_lt_of_cell? w _ hw197_4)).trans hw197_4), ((HB.out.cell (World.block_lt_of_cell? w _ hw197_5)).trans hw197_5), ((HB.out.cell (World.block_lt_of_cell? w _ hw197_6)).trans hw197_6), ((HB.out.cell (World.block_lt_of_cell? w _ hw197_7)).trans hw197_7), ((HB.out.cell (World.block_lt_of_cell? w _ hw197_8)).trans hw197_8), ((HB.out.cell (World.block_lt_of_cell? w _ hw197_9)).trans hw197_9), ((HB.out.cell (World.block_lt_of_cell? w _ hw197_10)).trans hw197_10), ((HB.out.cell (World.block_lt_of_cell? w _ hw197_11)).trans hw197_11), ((HB.out.cell (World.block_lt_of_cell? w _ hw198_0)).trans hw198_0), ((HB.out.cell (World.block_lt_of_cell? w _ hw198_1)).trans hw198_1), ((HB.out.cell (World.block_lt_of_cell? w _ hw198_2)).trans hw198_2), ((HB.out.cell (World.block_lt_of_cell? w _ hw198_3)).trans hw198_3), ((HB.out.cell (World.block_lt_of_cell? w _ hw198_4)).trans hw198_4), ((HB.out.cell (World.block_lt_of_cell? w _ hw198_5)).trans hw198_5), ((HB.out.cell (World.block_lt_of_cell? w _ hw198_6)).trans hw198_6), ((HB.out.cell (World.block_lt_of_cell? w _ hw198_7)).trans hw198_7), ((HB.out.cell (World.block_lt_of_cell? w _ hw198_8)).trans hw198_8), ((HB.out.cell (World.block_lt_of_cell? w _ hw198_9)).trans hw198_9), ((HB.out.cell (World.block_lt_of_cell? w _ hw198_10)).trans hw198_10), ((HB.out.cell (World.block_lt_of_cell? w _ hw198_11)).trans hw198_11), ((HB.out.cell (World.block_lt_of_cell? w _ hw199_0)).trans hw199_0), ((HB.out.cell (World.block_lt_of_cell? w _ hw199_1)).trans hw199_1), ((HB.out.cell (World.block_lt_of_cell? w _ hw199_2)).trans hw199_2), ((HB.out.cell (World.block_lt_of_cell? w _ hw199_3)).trans hw199_3), ((HB.out.cell (World.block_lt_of_cell? w _ hw199_4)).trans hw199_4), ((HB.out.cell (World.block_lt_of_cell? w _ hw199_5)).trans hw199_5), ((HB.out.cell (World.block_lt_of_cell? w _ hw199_6)).trans hw199_6), ((HB.out.cell (World.block_lt_of_cell? w _ hw199_7)).trans hw199_7), ((HB.out.cell (World.block_lt_of_cell? w _ hw199_8)).trans hw199_8), ((HB.out.cell (World.block_lt_of_cell? w _ hw199_9)).trans hw199_9), ((HB.out.cell (World.block_lt_of_cell? w _ hw199_10)).trans hw199_10), ((HB.out.cell (World.block_lt_of_cell? w _ hw199_11)).trans hw199_11), ((HB.out.cell (World.block_lt_of_cell? w _ hw200_0)).trans hw200_0), ((HB.out.cell (World.block_lt_of_cell? w _ hw200_1)).trans hw200_1), ((HB.out.cell (World.block_lt_of_cell? w _ hw200_2)).trans hw200_2), ((HB.out.cell (World.block_lt_of_cell? w _ hw200_3)).trans hw200_3), ((HB.out.cell (World.block_lt_of_cell? w _ hw200_4)).trans hw200_4), ((HB.out.cell (World.block_lt_of_cell? w _ hw200_5)).trans hw200_5), ((HB.out.cell (World.block_lt_of_cell? w _ hw200_6)).trans hw200_6), ((HB.out.cell (World.block_lt_of_cell? w _ hw200_7)).trans hw200_7), ((HB.out.cell (World.block_lt_of_cell? w _ hw200_8)).trans hw200_8), ((HB.out.cell (World.block_lt_of_cell? w _ hw200_9)).trans hw200_9), ((HB.out.cell (World.block_lt_of_cell? w _ hw200_10)).trans hw200_10), ((HB.out.cell (World.block_lt_of_cell? w _ hw200_11)).trans hw200_11)⟩ (fun hHeld => ?_); refine with_tabW tidemarklaw09_short.tab5 tidemarklaw09_short.bits5 (fun HT_ HW_ => ?_)
                generalize wc.drew = w14 at HB HR193_2 HR193_3 HR195_2 HR195_3 HR197_2 HR197_3 HR198_2 HR198_3 HR199_2 HR199_3 HR200_2 HR200_3 hx193_0 hx193_1 hx193_10 hx193_11 hx193_2 hx193_3 hx193_4 hx193_5 hx193_6 hx193_7 hx193_8 hx193_9 hx195_0 hx195_1 hx195_10 hx195_11 hx195_2 hx195_3 hx195_4 hx195_5 hx195_6 hx195_7 hx195_8 hx195_9 hx197_0 hx197_1 hx197_10 hx197_11 hx197_2 hx197_3 hx197_4 hx197_5 hx197_6 hx197_7 hx197_8 hx197_9 hx198_0 hx198_1 hx198_10 hx198_11 hx198_2 hx198_3 hx198_4 hx198_5 hx198_6 hx198_7 hx198_8 hx198_9 hx199_0 hx199_1 hx199_10 hx199_11 hx199_2 hx199_3 hx199_4 hx199_5 hx199_6 hx199_7 hx199_8 hx199_9 hx200_0 hx200_1 hx200_10 hx200_11 hx200_2 hx200_3 hx200_4 hx200_5 hx200_6 hx200_7 hx200_8 hx200_9 hHeld ⊢
                refine pure_ (i := 0) (N := some 19) (v := ?_) (a' := ?_) #[true, false, false, false, false, false, false, false, false, false, false, false, false, false, false, false, false, false, false, false, false, false, false, false, false, false, false, false, false, false, false, false, false, false, false, false, false, false, false, false, false, false, false, false, false, false, false, false, false, false] rfl rfl (any_of HT_.out (by kernel_rfl)) (fun _ _ _ h => h) (Or.inl ⟨by rfl, ?_⟩) ?_ ?_
                rotate_left
                · intro w'
                  go_simp
                  with_reducible rfl
                rotate_left
                · simp only [Act.put, List.setIfInBounds_toArray, List.set_cons_zero, List.set_cons_succ, i64_w, i32_w]
                  rfl
                refine pure_ (i := 1) (N := some 20) (v := ?_) (a' := ?_) #[true, true, false, false, false, false, false, false, false, false, false, false, false, false, false, false, false, false, false, false, false, false, false, false, false, false, false, false, false, false, false, false, false, false, false, false, false, false, false, false, false, false, false, false, false, false, false, false, false, false] rfl rfl (any_of HT_.out (by kernel_rfl)) (fun _ _ _ h => h) (Or.inl ⟨by rfl, ?_⟩) ?_ ?_
                rotate_left
                · intro w'
                  go_simp
                  with_reducible rfl
                rotate_left
                · simp only [Act.put, List.setIfInBounds_toArray, List.set_cons_zero, List.set_cons_succ, i64_w, i32_w]
                  rfl
                refine pure_ (i := 2) (N := some 21) (v := ?_) (a' := ?_) #[true, true, true, false, false, false, false, false, false, false, false, false, false, false, false, false, false, false, false, false, false, false, false, false, false, false, false, false, false, false, false, false, false, false, false, false, false, false, false, false, false, false, false, false, false, false, false, false, false, false] rfl rfl (any_of HT_.out (by kernel_rfl)) (fun _ _ _ h => h) (Or.inl ⟨by rfl, ?_⟩) ?_ ?_
                rotate_left
                · intro w'
                  go_simp
                  with_reducible rfl
                rotate_left
                · simp only [Act.put, List.setIfInBounds_toArray, List.set_cons_zero, List.set_cons_succ, i64_w, i32_w]
                  rfl
                refine pure_ (i := 3) (N := some 22) (v := ?_) (a' := ?_) #[true, true, true, true, false, false, false, false, false, false, false, false, false, false, false, false, false, false, false, false, false, false, false, false, false, false, false, false, false, false, false, false, false, false, false, false, false, false, false, false, false, false, false, false, false, false, false, false, false, false] rfl rfl (any_of HT_.out (by kernel_rfl)) (fun _ _ _ h => h) (Or.inl ⟨by rfl, ?_⟩) ?_ ?_
                rotate_left
                · intro w'
                  go_simp
                  with_reducible rfl
                rotate_left
                · simp only [Act.put, List.setIfInBounds_toArray, List.set_cons_zero, List.set_cons_succ, i64_w, i32_w]
                  rfl
                refine pure_ (i := 4) (N := some 23) (v := ?_) (a' := ?_) #[true, true, true, true, true, false, false, false, false, false, false, false, false, false, false, false, false, false, false, false, false, false, false, false, false, false, false, false, false, false, false, false, false, false, false, false, false, false, false, false, false, false, false, false, false, false, false, false, false, false] rfl rfl (any_of HT_.out (by kernel_rfl)) (fun _ _ _ h => h) (Or.inl ⟨by rfl, ?_⟩) ?_ ?_
                rotate_left
                · intro w'
                  go_simp
                  with_reducible rfl
                rotate_left
                · simp only [Act.put, List.setIfInBounds_toArray, List.set_cons_zero, List.set_cons_succ, i64_w, i32_w]
                  rfl
                refine pure_ (i := 7) (N := some 26) (v := ?_) (a' := ?_) #[true, true, true, true, true, false, false, true, false, false, false, false, false, false, false, false, false, false, false, false, false, false, false, false, false, false, false, false, false, false, false, false, false, false, false, false, false, false, false, false, false, false, false, false, false, false, false, false, false, false] rfl rfl (any_of HT_.out (by kernel_rfl)) (fun _ _ _ h => h) (Or.inl ⟨by rfl, ?_⟩) ?_ ?_
                rotate_left
                · intro w'
                  go_simp
                  with_reducible rfl
                rotate_left
                · simp only [Act.put, List.setIfInBounds_toArray, List.set_cons_zero, List.set_cons_succ, i64_w, i32_w]
                  rfl
                refine pure_ (i := 8) (N := some 27) (v := ?_) (a' := ?_) #[true, true, true, true, true, false, false, true, true, false, false, false, false, false, false, false, false, false, false, false, false, false, false, false, false, false, false, false, false, false, false, false, false, false, false, false, false, false, false, false, false, false, false, false, false, false, false, false, false, false] rfl rfl (any_of HT_.out (by kernel_rfl)) (fun _ _ _ h => h) (Or.inl ⟨by rfl, ?_⟩) ?_ ?_
                rotate_left
                · intro w'
                  go_simp
                  with_reducible rfl
                rotate_left
                · simp only [Act.put, List.setIfInBounds_toArray, List.set_cons_zero, List.set_cons_succ, i64_w, i32_w]
                  rfl
                refine pure_ (i := 9) (N := some 28) (v := ?_) (a' := ?_) #[true, true, true, true, true, false, false, true, true, true, false, false, false, false, false, false, false, false, false, false, false, false, false, false, false, false, false, false, false, false, false, false, false, false, false, false, false, false, false, false, false, false, false, false, false, false, false, false, false, false] rfl rfl (any_of HT_.out (by kernel_rfl)) (fun _ _ _ h => h) (Or.inl ⟨by rfl, ?_⟩) ?_ ?_
                rotate_left
                · intro w'
                  go_simp
                  with_reducible rfl
                rotate_left
                · simp only [Act.put, List.setIfInBounds_toArray, List.set_cons_zero, List.set_cons_succ, i64_w, i32_w]
                  rfl
                refine pure_ (i := 10) (N := some 29) (v := ?_) (a' := ?_) #[true, true, true, true, true, false, false, true, true, true, true, false, false, false, false, false, false, false, false, false, false, false, false, false, false, false, false, false, false, false, false, false, false, false, false, false, false, false, false, false, false, false, false, false, false, false, false, false, false, false] rfl rfl (any_of HT_.out (by kernel_rfl)) (fun _ _ _ h => h) (Or.inl ⟨by rfl, ?_⟩) ?_ ?_
                rotate_left
                · intro w'
                  go_simp
                  with_reducible rfl
                rotate_left
                · simp only [Act.put, List.setIfInBounds_toArray, List.set_cons_zero, List.set_cons_succ, i64_w, i32_w]
                  rfl
                refine pure_ (i := 14) (N := some 33) (v := ?_) (a' := ?_) #[true, true, true, true, true, false, false, true, true, true, true, false, false, false, true, false, false, false, false, false, false, false, false, false, false, false, false, false, false, false, false, false, false, false, false, false, false, false, false, false, false, false, false, false, false, false, false, false, false, false] rfl rfl (any_of HT_.out (by kernel_rfl)) (fun _ _ _ h => h) (Or.inl ⟨by rfl, ?_⟩) ?_ ?_
                rotate_left
                · intro w'
                  go_simp
                  with_reducible rfl
                rotate_left
                · simp only [Act.put, List.setIfInBounds_toArray, List.set_cons_zero, List.set_cons_succ, i64_w, i32_w]
                  rfl
                refine pure_ (i := 15) (N := some 34) (v := ?_) (a' := ?_) #[true, true, true, true, true, false, false, true, true, true, true, false, false, false, true, true, false, false, false, false, false, false, false, false, false, false, false, false, false, false, false, false, false, false, false, false, false, false, false, false, false, false, false, false, false, false, false, false, false, false] rfl rfl (any_of HT_.out (by kernel_rfl)) (fun _ _ _ h => h) (Or.inl ⟨by rfl, ?_⟩) ?_ ?_
                rotate_left
                · intro w'
                  go_simp
                  with_reducible rfl
                rotate_left
                · simp only [Act.put, List.setIfInBounds_toArray, List.set_cons_zero, List.set_cons_succ, i64_w, i32_w]
                  rfl
                refine pure_ (i := 16) (N := some 35) (v := ?_) (a' := ?_) #[true, true, true, true, true, false, false, true, true, true, true, false, false, false, true, true, true, false, false, false, false, false, false, false, false, false, false, false, false, false, false, false, false, false, false, false, false, false, false, false, false, false, false, false, false, false, false, false, false, false] rfl rfl (any_of HT_.out (by kernel_rfl)) (fun _ _ _ h => h) (Or.inl ⟨by rfl, ?_⟩) ?_ ?_
                rotate_left
                · intro w'
                  go_simp
                  with_reducible rfl
                rotate_left
                · simp only [Act.put, List.setIfInBounds_toArray, List.set_cons_zero, List.set_cons_succ, i64_w, i32_w]
                  rfl
                refine pure_ (i := 17) (N := some 36) (v := ?_) (a' := ?_) #[true, true, true, true, true, false, false, true, true, true, true, false, false, false, true, true, true, true, false, false, false, false, false, false, false, false, false, false, false, false, false, false, false, false, false, false, false, false, false, false, false, false, false, false, false, false, false, false, false, false] rfl rfl (any_of HT_.out (by kernel_rfl)) (fun _ _ _ h => h) (Or.inl ⟨by rfl, ?_⟩) ?_ ?_
                rotate_left
                · intro w'
                  go_simp
                  with_reducible rfl
                rotate_left
                · simp only [Act.put, List.setIfInBounds_toArray, List.set_cons_zero, List.set_cons_succ, i64_w, i32_w]
                  rfl
                refine pure_ (i := 22) (N := some 41) (v := ?_) (a' := ?_) #[true, true, true, true, true, false, false, true, true, true, true, false, false, false, true, true, true, true, false, false, false, false, true, false, false, false, false, false, false, false, false, false, false, false, false, false, false, false, false, false, false, false, false, false, false, false, false, false, false, false] rfl rfl (any_of HT_.out (by kernel_rfl)) (fun _ _ _ h => h) (Or.inl ⟨by rfl, ?_⟩) ?_ ?_
                rotate_left
                · intro w'
                  go_simp
                  with_reducible rfl
                rotate_left
                · simp only [Act.put, List.setIfInBounds_toArray, List.set_cons_zero, List.set_cons_succ, i64_w, i32_w]
                  rfl
                refine pure_ (i := 23) (N := some 42) (v := ?_) (a' := ?_) #[true, true, true, true, true, false, false, true, true, true, true, false, false, false, true, true, true, true, false, false, false, false, true, true, false, false, false, false, false, false, false, false, false, false, false, false, false, false, false, false, false, false, false, false, false, false, false, false, false, false] rfl rfl (any_of HT_.out (by kernel_rfl)) (fun _ _ _ h => h) (Or.inl ⟨by rfl, ?_⟩) ?_ ?_
                rotate_left
                · intro w'
                  go_simp
                  with_reducible rfl
                rotate_left
                · simp only [Act.put, List.setIfInBounds_toArray, List.set_cons_zero, List.set_cons_succ, i64_w, i32_w]
                  rfl
                refine pure_ (i := 24) (N := some 43) (v := ?_) (a' := ?_) #[true, true, true, true, true, false, false, true, true, true, true, false, false, false, true, true, true, true, false, false, false, false, true, true, true, false, false, false, false, false, false, false, false, false, false, false, false, false, false, false, false, false, false, false, false, false, false, false, false, false] rfl rfl (any_of HT_.out (by kernel_rfl)) (fun _ _ _ h => h) (Or.inl ⟨by rfl, ?_⟩) ?_ ?_
                rotate_left
                · intro w'
                  go_simp
                  with_reducible rfl
                rotate_left
                · simp only [Act.put, List.setIfInBounds_toArray, List.set_cons_zero, List.set_cons_succ, i64_w, i32_w]
                  rfl
                refine pure_ (i := 25) (N := some 44) (v := ?_) (a' := ?_) #[true, true, true, true, true, false, false, true, true, true, true, false, false, false, true, true, true, true, false, false, false, false, true, true, true, true, false, false, false, false, false, false, false, false, false, false, false, false, false, false, false, false, false, false, false, false, false, false, false, false] rfl rfl (any_of HT_.out (by kernel_rfl)) (fun _ _ _ h => h) (Or.inl ⟨by rfl, ?_⟩) ?_ ?_
                rotate_left
                · intro w'
                  go_simp
                  with_reducible rfl
                rotate_left
                · simp only [Act.put, List.setIfInBounds_toArray, List.set_cons_zero, List.set_cons_succ, i64_w, i32_w]
                  rfl
                refine pure_ (i := 30) (N := some 49) (v := ?_) (a' := ?_) #[true, true, true, true, true, false, false, true, true, true, true, false, false, false, true, true, true, true, false, false, false, false, true, true, true, true, false, false, false, false, true, false, false, false, false, false, false, false, false, false, false, false, false, false, false, false, false, false, false, false] rfl rfl (any_of HT_.out (by kernel_rfl)) (fun _ _ _ h => h) (Or.inl ⟨by rfl, ?_⟩) ?_ ?_
                rotate_left
                · intro w'
                  go_simp
                  with_reducible rfl
                rotate_left
                · simp only [Act.put, List.setIfInBounds_toArray, List.set_cons_zero, List.set_cons_succ, i64_w, i32_w]
                  rfl
                refine pure_ (i := 31) (N := some 50) (v := ?_) (a' := ?_) #[true, true, true, true, true, false, false, true, true, true, true, false, false, false, true, true, true, true, false, false, false, false, true, true, true, true, false, false, false, false, true, true, false, false, false, false, false, false, false, false, false, false, false, false, false, false, false, false, false, false] rfl rfl (any_of HT_.out (by kernel_rfl)) (fun _ _ _ h => h) (Or.inl ⟨by rfl, ?_⟩) ?_ ?_
                rotate_left
                · intro w'
                  go_simp
                  with_reducible rfl
                rotate_left
                · simp only [Act.put, List.setIfInBounds_toArray, List.set_cons_zero, List.set_cons_succ, i64_w, i32_w]
                  rfl
                refine pure_ (i := 32) (N := some 51) (v := ?_) (a' := ?_) #[true, true, true, true, true, false, false, true, true, true, true, false, false, false, true, true, true, true, false, false, false, false, true, true, true, true, false, false, false, false, true, true, true, false, false, false, false, false, false, false, false, false, false, false, false, false, false, false, false, false] rfl rfl (any_of HT_.out (by kernel_rfl)) (fun _ _ _ h => h) (Or.inl ⟨by rfl, ?_⟩) ?_ ?_
                rotate_left
                · intro w'
                  go_simp
                  with_reducible rfl
                rotate_left
                · simp only [Act.put, List.setIfInBounds_toArray, List.set_cons_zero, List.set_cons_succ, i64_w, i32_w]
                  rfl
                refine pure_ (i := 33) (N := some 52) (v := ?_) (a' := ?_) #[true, true, true, true, true, false, false, true, true, true, true, false, false, false, true, true, true, true, false, false, false, false, true, true, true, true, false, false, false, false, true, true, true, true, false, false, false, false, false, false, false, false, false, false, false, false, false, false, false, false] rfl rfl (any_of HT_.out (by kernel_rfl)) (fun _ _ _ h => h) (Or.inl ⟨by rfl, ?_⟩) ?_ ?_
                rotate_left
                · intro w'
                  go_simp
                  with_reducible rfl
                rotate_left
                · simp only [Act.put, List.setIfInBounds_toArray, List.set_cons_zero, List.set_cons_succ, i64_w, i32_w]
                  rfl
                refine pure_ (i := 34) (N := some 53) (v := ?_) (a' := ?_) #[true, true, true, true, true, false, false, true, true, true, true, false, false, false, true, true, true, true, false, false, false, false, true, true, true, true, false, false, false, false, true, true, true, true, true, false, false, false, false, false, false, false, false, false, false, false, false, false, false, false] rfl rfl (any_of HT_.out (by kernel_rfl)) (fun _ _ _ h => h) (Or.inl ⟨by rfl, ?_⟩) ?_ ?_
                rotate_left
                · intro w'
                  go_simp
                  with_reducible rfl
                rotate_left
                · simp only [Act.put, List.setIfInBounds_toArray, List.set_cons_zero, List.set_cons_succ, i64_w, i32_w]
                  rfl
                refine pure_ (i := 39) (N := some 58) (v := ?_) (a' := ?_) #[true, true, true, true, true, false, false, true, true, true, true, false, false, false, true, true, true, true, false, false, false, false, true, true, true, true, false, false, false, false, true, true, true, true, true, false, false, false, false, true, false, false, false, false, false, false, false, false, false, false] rfl rfl (any_of HT_.out (by kernel_rfl)) (fun _ _ _ h => h) (Or.inl ⟨by rfl, ?_⟩) ?_ ?_
                rotate_left
                · intro w'
                  go_simp
                  with_reducible rfl
                rotate_left
                · simp only [Act.put, List.setIfInBounds_toArray, List.set_cons_zero, List.set_cons_succ, i64_w, i32_w]
                  rfl
                refine pure_ (i := 40) (N := some 59) (v := ?_) (a' := ?_) #[true, true, true, true, true, false, false, true, true, true, true, false, false, false, true, true, true, true, false, false, false, false, true, true, true, true, false, false, false, false, true, true, true, true, true, false, false, false, false, true, true, false, false, false, false, false, false, false, false, false] rfl rfl (any_of HT_.out (by kernel_rfl)) (fun _ _ _ h => h) (Or.inl ⟨by rfl, ?_⟩) ?_ ?_
                rotate_left
                · intro w'
                  go_simp
                  with_reducible rfl
                rotate_left
                · simp only [Act.put, List.setIfInBounds_toArray, List.set_cons_zero, List.set_cons_succ, i64_w, i32_w]
                  rfl
                refine pure_ (i := 41) (N := some 60) (v := ?_) (a' := ?_) #[true, true, true, true, true, false, false, true, true, true, true, false, false, false, true, true, true, true, false, false, false, false, true, true, true, true, false, false, false, false, true, true, true, true, true, false, false, false, false, true, true, true, false, false, false, false, false, false, false, false] rfl rfl (any_of HT_.out (by kernel_rfl)) (fun _ _ _ h => h) (Or.inl ⟨by rfl, ?_⟩) ?_ ?_
                rotate_left
                · intro w'
                  go_simp
                  with_reducible rfl
                rotate_left
                · simp only [Act.put, List.setIfInBounds_toArray, List.set_cons_zero, List.set_cons_succ, i64_w, i32_w]
                  rfl
                refine pure_ (i := 42) (N := some 61) (v := ?_) (a' := ?_) #[true, true, true, true, true, false, false, true, true, true, true, false, false, false, true, true, true, true, false, false, false, false, true, true, true, true, false, false, false, false, true, true, true, true, true, false, false, false, false, true, true, true, true, false, false, false, false, false, false, false] rfl rfl (any_of HT_.out (by kernel_rfl)) (fun _ _ _ h => h) (Or.inl ⟨by rfl, ?_⟩) ?_ ?_
                rotate_left
                · intro w'
                  go_simp
                  with_reducible rfl
                rotate_left
                · simp only [Act.put, List.setIfInBounds_toArray, List.set_cons_zero, List.set_cons_succ, i64_w, i32_w]
                  rfl
                refine pure_ (i := 43) (N := some 62) (v := ?_) (a' := ?_) #[true, true, true, true, true, false, false, true, true, true, true, false, false, false, true, true, true, true, false, false, false, false, true, true, true, true, false, false, false, false, true, true, true, true, true, false, false, false, false, true, true, true, true, true, false, false, false, false, false, false] rfl rfl (any_of HT_.out (by kernel_rfl)) (fun _ _ _ h => h) (Or.inl ⟨by rfl, ?_⟩) ?_ ?_
                rotate_left
                · intro w'
                  go_simp
                  with_reducible rfl
                rotate_left
                · simp only [Act.put, List.setIfInBounds_toArray, List.set_cons_zero, List.set_cons_succ, i64_w, i32_w]
                  rfl
                refine take_ (i := 5) (N := some 24) (v := ?_) (a' := ?_) #[true, true, true, true, true, true, false, true, true, true, true, false, false, false, true, true, true, true, false, false, false, false, true, true, true, true, false, false, false, false, true, true, true, true, true, false, false, false, false, true, true, true, true, true, false, false, false, false, false, false] rfl rfl (take_ofW HT_.out HW_.out (by kernel_rfl)) (fun _ _ _ h => h) (Or.inl ⟨by rfl, ?_⟩) hHeld ?_ ?_
                rotate_left
                · rintro w' ⟨s0, s1, s2, s3, s4, s5, s6, s7, s8, s9, s10, s11, s12, s13, s14, s15, s16, s17, s18, s19, s20, s21, s22, s23, s24, s25, s26, s27, s28, s29, s30, s31, s32, s33, s34, s35, s36, s37, s38, s39, s40, s41, s42, s43, s44, s45, s46, s47, s48, s49, s50, s51, s52, s53, s54, s55, s56, s57, s58, s59, s60, s61, s62, s63, s64, s65, s66, s67, s68, s69, s70, s71⟩
                  go_simp
                  with_reducible rfl
                rotate_left
                · simp only [Act.put, List.setIfInBounds_toArray, List.set_cons_zero, List.set_cons_succ, i64_w, i32_w]
                  rfl
                refine take_ (i := 11) (N := some 30) (v := ?_) (a' := ?_) #[true, true, true, true, true, true, false, true, true, true, true, true, false, false, true, true, true, true, false, false, false, false, true, true, true, true, false, false, false, false, true, true, true, true, true, false, false, false, false, true, true, true, true, true, false, false, false, false, false, false] rfl rfl (take_ofW HT_.out HW_.out (by kernel_rfl)) (fun _ _ _ h => h) (Or.inl ⟨by rfl, ?_⟩) hHeld ?_ ?_
                rotate_left
                · rintro w' ⟨s0, s1, s2, s3, s4, s5, s6, s7, s8, s9, s10, s11, s12, s13, s14, s15, s16, s17, s18, s19, s20, s21, s22, s23, s24, s25, s26, s27, s28, s29, s30, s31, s32, s33, s34, s35, s36, s37, s38, s39, s40, s41, s42, s43, s44, s45, s46, s47, s48, s49, s50, s51, s52, s53, s54, s55, s56, s57, s58, s59, s60, s61, s62, s63, s64, s65, s66, s67, s68, s69, s70, s71⟩
                  go_simp
                  with_reducible rfl
                rotate_left
                · simp only [Act.put, List.setIfInBounds_toArray, List.set_cons_zero, List.set_cons_succ, i64_w, i32_w]
                  rfl
                refine take_ (i := 18) (N := some 37) (v := ?_) (a' := ?_) #[true, true, true, true, true, true, false, true, true, true, true, true, false, false, true, true, true, true, true, false, false, false, true, true, true, true, false, false, false, false, true, true, true, true, true, false, false, false, false, true, true, true, true, true, false, false, false, false, false, false] rfl rfl (take_ofW HT_.out HW_.out (by kernel_rfl)) (fun _ _ _ h => h) (Or.inl ⟨by rfl, ?_⟩) hHeld ?_ ?_
                rotate_left
                · rintro w' ⟨s0, s1, s2, s3, s4, s5, s6, s7, s8, s9, s10, s11, s12, s13, s14, s15, s16, s17, s18, s19, s20, s21, s22, s23, s24, s25, s26, s27, s28, s29, s30, s31, s32, s33, s34, s35, s36, s37, s38, s39, s40, s41, s42, s43, s44, s45, s46, s47, s48, s49, s50, s51, s52, s53, s54, s55, s56, s57, s58, s59, s60, s61, s62, s63, s64, s65, s66, s67, s68, s69, s70, s71⟩
                  go_simp
                  with_reducible rfl
                rotate_left
                · simp only [Act.put, List.setIfInBounds_toArray, List.set_cons_zero, List.set_cons_succ, i64_w, i32_w]
                  rfl
                refine pure_ (i := 19) (N := some 38) (v := ?_) (a' := ?_) #[true, true, true, true, true, true, false, true, true, true, true, true, false, false, true, true, true, true, true, true, false, false, true, true, true, true, false, false, false, false, true, true, true, true, true, false, false, false, false, true, true, true, true, true, false, false, false, false, false, false] rfl rfl (any_of HT_.out (by kernel_rfl)) (fun _ _ _ h => h) (Or.inl ⟨by rfl, ?_⟩) ?_ ?_
                rotate_left
                · intro w'
                  go_simp
                  with_reducible rfl
                rotate_left
                · simp only [Act.put, List.setIfInBounds_toArray, List.set_cons_zero, List.set_cons_succ, i64_w, i32_w]
                  rfl
                refine pure_ (i := 20) (N := some 39) (v := ?_) (a' := ?_) #[true, true, true, true, true, true, false, true, true, true, true, true, false, false, true, true, true, true, true, true, true, false, true, true, true, true, false, false, false, false, true, true, true, true, true, false, false, false, false, true, true, true, true, true, false, false, false, false, false, false] rfl rfl (any_of HT_.out (by kernel_rfl)) (fun _ _ _ h => h) (Or.inl ⟨by rfl, ?_⟩) ?_ ?_
                rotate_left
                · intro w'
                  go_simp
                  with_reducible rfl
                rotate_left
                · simp only [Act.put, List.setIfInBounds_toArray, List.set_cons_zero, List.set_cons_succ, i64_w, i32_w]
                  rfl
                refine take_ (i := 26) (N := some 45) (v := ?_) (a' := ?_) #[true, true, true, true, true, true, false, true, true, true, true, true, false, false, true, true, true, true, true, true, true, false, true, true, true, true, true, false, false, false, true, true, true, true, true, false, false, false, false, true, true, true, true, true, false, false, false, false, false, false] rfl rfl (take_ofW HT_.out HW_.out (by kernel_rfl)) (fun _ _ _ h => h) (Or.inl ⟨by rfl, ?_⟩) hHeld ?_ ?_
                rotate_left
                · rintro w' ⟨s0, s1, s2, s3, s4, s5, s6, s7, s8, s9, s10, s11, s12, s13, s14, s15, s16, s17, s18, s19, s20, s21, s22, s23, s24, s25, s26, s27, s28, s29, s30, s31, s32, s33, s34, s35, s36, s37, s38, s39, s40, s41, s42, s43, s44, s45, s46, s47, s48, s49, s50, s51, s52, s53, s54, s55, s56, s57, s58, s59, s60, s61, s62, s63, s64, s65, s66, s67, s68, s69, s70, s71⟩
                  go_simp
                  with_reducible rfl
                rotate_left
                · simp only [Act.put, List.setIfInBounds_toArray, List.set_cons_zero, List.set_cons_succ, i64_w, i32_w]
                  rfl
                refine pure_ (i := 27) (N := some 46) (v := ?_) (a' := ?_) #[true, true, true, true, true, true, false, true, true, true, true, true, false, false, true, true, true, true, true, true, true, false, true, true, true, true, true, true, false, false, true, true, true, true, true, false, false, false, false, true, true, true, true, true, false, false, false, false, false, false] rfl rfl (any_of HT_.out (by kernel_rfl)) (fun _ _ _ h => h) (Or.inl ⟨by rfl, ?_⟩) ?_ ?_
                rotate_left
                · intro w'
                  go_simp
                  with_reducible rfl
                rotate_left
                · simp only [Act.put, List.setIfInBounds_toArray, List.set_cons_zero, List.set_cons_succ, i64_w, i32_w]
                  rfl
                refine pure_ (i := 28) (N := some 47) (v := ?_) (a' := ?_) #[true, true, true, true, true, true, false, true, true, true, true, true, false, false, true, true, true, true, true, true, true, false, true, true, true, true, true, true, true, false, true, true, true, true, true, false, false, false, false, true, true, true, true, true, false, false, false, false, false, false] rfl rfl (any_of HT_.out (by kernel_rfl)) (fun _ _ _ h => h) (Or.inl ⟨by rfl, ?_⟩) ?_ ?_
                rotate_left
                · intro w'
                  go_simp
                  with_reducible rfl
                rotate_left
                · simp only [Act.put, List.setIfInBounds_toArray, List.set_cons_zero, List.set_cons_succ, i64_w, i32_w]
                  rfl
                refine take_ (i := 35) (N := some 54) (v := ?_) (a' := ?_) #[true, true, true, true, true, true, false, true, true, true, true, true, false, false, true, true, true, true, true, true, true, false, true, true, true, true, true, true, true, false, true, true, true, true, true, true, false, false, false, true, true, true, true, true, false, false, false, false, false, false] rfl rfl (take_ofW HT_.out HW_.out (by kernel_rfl)) (fun _ _ _ h => h) (Or.inl ⟨by rfl, ?_⟩) hHeld ?_ ?_
                rotate_left
                · rintro w' ⟨s0, s1, s2, s3, s4, s5, s6, s7, s8, s9, s10, s11, s12, s13, s14, s15, s16, s17, s18, s19, s20, s21, s22, s23, s24, s25, s26, s27, s28, s29, s30, s31, s32, s33, s34, s35, s36, s37, s38, s39, s40, s41, s42, s43, s44, s45, s46, s47, s48, s49, s50, s51, s52, s53, s54, s55, s56, s57, s58, s59, s60, s61, s62, s63, s64, s65, s66, s67, s68, s69, s70, s71⟩
                  go_simp
                  with_reducible rfl
                rotate_left
                · simp only [Act.put, List.setIfInBounds_toArray, List.set_cons_zero, List.set_cons_succ, i64_w, i32_w]
                  rfl
                refine pure_ (i := 36) (N := some 55) (v := ?_) (a' := ?_) #[true, true, true, true, true, true, false, true, true, true, true, true, false, false, true, true, true, true, true, true, true, false, true, true, true, true, true, true, true, false, true, true, true, true, true, true, true, false, false, true, true, true, true, true, false, false, false, false, false, false] rfl rfl (any_of HT_.out (by kernel_rfl)) (fun _ _ _ h => h) (Or.inl ⟨by rfl, ?_⟩) ?_ ?_
                rotate_left
                · intro w'
                  go_simp
                  with_reducible rfl
                rotate_left
                · simp only [Act.put, List.setIfInBounds_toArray, List.set_cons_zero, List.set_cons_succ, i64_w, i32_w]
                  rfl
                refine pure_ (i := 37) (N := some 56) (v := ?_) (a' := ?_) #[true, true, true, true, true, true, false, true, true, true, true, true, false, false, true, true, true, true, true, true, true, false, true, true, true, true, true, true, true, false, true, true, true, true, true, true, true, true, false, true, true, true, true, true, false, false, false, false, false, false] rfl rfl (any_of HT_.out (by kernel_rfl)) (fun _ _ _ h => h) (Or.inl ⟨by rfl, ?_⟩) ?_ ?_
                rotate_left
                · intro w'
                  go_simp
                  with_reducible rfl
                rotate_left
                · simp only [Act.put, List.setIfInBounds_toArray, List.set_cons_zero, List.set_cons_succ, i64_w, i32_w]
                  rfl
                refine take_ (i := 44) (N := some 63) (v := ?_) (a' := ?_) #[true, true, true, true, true, true, false, true, true, true, true, true, false, false, true, true, true, true, true, true, true, false, true, true, true, true, true, true, true, false, true, true, true, true, true, true, true, true, false, true, true, true, true, true, true, false, false, false, false, false] rfl rfl (take_ofW HT_.out HW_.out (by kernel_rfl)) (fun _ _ _ h => h) (Or.inl ⟨by rfl, ?_⟩) hHeld ?_ ?_
                rotate_left
                · rintro w' ⟨s0, s1, s2, s3, s4, s5, s6, s7, s8, s9, s10, s11, s12, s13, s14, s15, s16, s17, s18, s19, s20, s21, s22, s23, s24, s25, s26, s27, s28, s29, s30, s31, s32, s33, s34, s35, s36, s37, s38, s39, s40, s41, s42, s43, s44, s45, s46, s47, s48, s49, s50, s51, s52, s53, s54, s55, s56, s57, s58, s59, s60, s61, s62, s63, s64, s65, s66, s67, s68, s69, s70, s71⟩
                  go_simp
                  with_reducible rfl
                rotate_left
                · simp only [Act.put, List.setIfInBounds_toArray, List.set_cons_zero, List.set_cons_succ, i64_w, i32_w]
                  rfl
                refine pure_ (i := 45) (N := some 64) (v := ?_) (a' := ?_) #[true, true, true, true, true, true, false, true, true, true, true, true, false, false, true, true, true, true, true, true, true, false, true, true, true, true, true, true, true, false, true, true, true, true, true, true, true, true, false, true, true, true, true, true, true, true, false, false, false, false] rfl rfl (any_of HT_.out (by kernel_rfl)) (fun _ _ _ h => h) (Or.inl ⟨by rfl, ?_⟩) ?_ ?_
                rotate_left
                · intro w'
                  go_simp
                  with_reducible rfl
                rotate_left
                · simp only [Act.put, List.setIfInBounds_toArray, List.set_cons_zero, List.set_cons_succ, i64_w, i32_w]
                  rfl
                refine pure_ (i := 46) (N := some 65) (v := ?_) (a' := ?_) #[true, true, true, true, true, true, false, true, true, true, true, true, false, false, true, true, true, true, true, true, true, false, true, true, true, true, true, true, true, false, true, true, true, true, true, true, true, true, false, true, true, true, true, true, true, true, true, false, false, false] rfl rfl (any_of HT_.out (by kernel_rfl)) (fun _ _ _ h => h) (Or.inl ⟨by rfl, ?_⟩) ?_ ?_
                rotate_left
                · intro w'
                  go_simp
                  with_reducible rfl
                rotate_left
                · simp only [Act.put, List.setIfInBounds_toArray, List.set_cons_zero, List.set_cons_succ, i64_w, i32_w]
                  rfl
                refine one_ (i := 6) (N := some 25) #[true, true, true, true, true, true, true, true, true, true, true, true, false, false, true, true, true, true, true, true, true, false, true, true, true, true, true, true, true, false, true, true, true, true, true, true, true, true, false, true, true, true, true, true, true, true, true, false, false, false] rfl rfl (one_of HT_.out (by kernel_rfl)) (by decide) (fun K hK => ?_)
                refine goes_ Try.func54 (by kernel_rfl) rfl #[.slice A193_2 ((rd_T98 l0 x4_1).f2).length c193_2] (by rfl) rfl rfl (by (try simp only [List.map_toArray, List.map_cons, List.map_nil]); first | done | rfl | (simp only [List.length_drop, List.length_take]; rfl)) ?_
                with_reducible refine (tidemarklaw09_weigh.calls kj1 _ _ ((rd_T98 l0 x4_1).f2) t194 _ ?side1 ?side2 A8.out).mono ?_
                (case side1 => repeat (first | exact (Kd.C_below HR193_2.out HB.out) | (with_reducible refine Kd.C_alloc ?_ _) | (with_reducible refine Kd.C_drewN ?_ _) | (with_reducible refine Kd.C_drew ?_)))
                (case side2 => exact HC193_2.out)
                rintro e w15 ⟨rfl, hb⟩
                refine ⟨_, rfl, ?_⟩
                have n0_ := Aside0.mk (below_step (by repeat (first | (with_reducible first | exact HB.out | apply below_alloc | apply pw_below_drewN | apply below_drew1) | exact HB.out)) hb)
                clear HB
                have HB := n0_
                clear n0_
                (try clear hb)
                (try clear hb2)
                (try clear hk)
                (try clear hi)
                refine hK.out _ _ ⟨((HB.out.cell (World.block_lt_of_cell? w _ hw193_0)).trans hw193_0), ((HB.out.cell (World.block_lt_of_cell? w _ hw193_1)).trans hw193_1), ((HB.out.cell (World.block_lt_of_cell? w _ hw193_2)).trans hw193_2), ((HB.out.cell (World.block_lt_of_cell? w _ hw193_3)).trans hw193_3), ((HB.out.cell (World.block_lt_of_cell? w _ hw193_4)).trans hw193_4), ((HB.out.cell (World.block_lt_of_cell? w _ hw193_5)).trans hw193_5), ((HB.out.cell (World.block_lt_of_cell? w _ hw193_6)).trans hw193_6), ((HB.out.cell (World.block_lt_of_cell? w _ hw193_7)).trans hw193_7), ((HB.out.cell (World.block_lt_of_cell? w _ hw193_8)).trans hw193_8), ((HB.out.cell (World.block_lt_of_cell? w _ hw193_9)).trans hw193_9), ((HB.out.cell (World.block_lt_of_cell? w _ hw193_10)).trans hw193_10), ((HB.out.cell (World.block_lt_of_cell? w _ hw193_11)).trans hw193_11), ((HB.out.cell (World.block_lt_of_cell? w _ hw195_0)).trans hw195_0), ((HB.out.cell (World.block_lt_of_cell? w _ hw195_1)).trans hw195_1), ((HB.out.cell (World.block_lt_of_cell? w _ hw195_2)).trans hw195_2), ((HB.out.cell (World.block_lt_of_cell? w _ hw195_3)).trans hw195_3), ((HB.out.cell (World.block_lt_of_cell? w _ hw195_4)).trans hw195_4), ((HB.out.cell (World.block_lt_of_cell? w _ hw195_5)).trans hw195_5), ((HB.out.cell (World.block_lt_of_cell? w _ hw195_6)).trans hw195_6), ((HB.out.cell (World.block_lt_of_cell? w _ hw195_7)).trans hw195_7), ((HB.out.cell (World.block_lt_of_cell? w _ hw195_8)).trans hw195_8), ((HB.out.cell (World.block_lt_of_cell? w _ hw195_9)).trans hw195_9), ((HB.out.cell (World.block_lt_of_cell? w _ hw195_10)).trans hw195_10), ((HB.out.cell (World.block_lt_of_cell? w _ hw195_11)).trans hw195_11), ((HB.out.cell (World.block_lt_of_cell? w _ hw197_0)).trans hw197_0), ((HB.out.cell (World.block_lt_of_cell? w _ hw197_1)).trans hw197_1), ((HB.out.cell (World.block_lt_of_cell? w _ hw197_2)).trans hw197_2), ((HB.out.cell (World.block_lt_of_cell? w _ hw197_3)).trans hw197_3), ((HB.out.cell (World.block_lt_of_cell? w _ hw197_4)).trans hw197_4), ((HB.out.cell (World.block_lt_of_cell? w _ hw197_5)).trans hw197_5), ((HB.out.cell (World.block_lt_of_cell? w _ hw197_6)).trans hw197_6), ((HB.out.cell (World.block_lt_of_cell? w _ hw197_7)).trans hw197_7), ((HB.out.cell (World.block_lt_of_cell? w _ hw197_8)).trans hw197_8), ((HB.out.cell (World.block_lt_of_cell? w _ hw197_9)).trans hw197_9), ((HB.out.cell (World.block_lt_of_cell? w _ hw197_10)).trans hw197_10), ((HB.out.cell (World.block_lt_of_cell? w _ hw197_11)).trans hw197_11), ((HB.out.cell (World.block_lt_of_cell? w _ hw198_0)).trans hw198_0), ((HB.out.cell (World.block_lt_of_cell? w _ hw198_1)).trans hw198_1), ((HB.out.cell (World.block_lt_of_cell? w _ hw198_2)).trans hw198_2), ((HB.out.cell (World.block_lt_of_cell? w _ hw198_3)).trans hw198_3), ((HB.out.cell (World.block_lt_of_cell? w _ hw198_4)).trans hw198_4), ((HB.out.cell (World.block_lt_of_cell? w _ hw198_5)).trans hw198_5), ((HB.out.cell (World.block_lt_of_cell? w _ hw198_6)).trans hw198_6), ((HB.out.cell (World.block_lt_of_cell? w _ hw198_7)).trans hw198_7), ((HB.out.cell (World.block_lt_of_cell? w _ hw198_8)).trans hw198_8), ((HB.out.cell (World.block_lt_of_cell? w _ hw198_9)).trans hw198_9), ((HB.out.cell (World.block_lt_of_cell? w _ hw198_10)).trans hw198_10), ((HB.out.cell (World.block_lt_of_cell? w _ hw198_11)).trans hw198_11), ((HB.out.cell (World.block_lt_of_cell? w _ hw199_0)).trans hw199_0), ((HB.out.cell (World.block_lt_of_cell? w _ hw199_1)).trans hw199_1), ((HB.out.cell (World.block_lt_of_cell? w _ hw199_2)).trans hw199_2), ((HB.out.cell (World.block_lt_of_cell? w _ hw199_3)).trans hw199_3), ((HB.out.cell (World.block_lt_of_cell? w _ hw199_4)).trans hw199_4), ((HB.out.cell (World.block_lt_of_cell? w _ hw199_5)).trans hw199_5), ((HB.out.cell (World.block_lt_of_cell? w _ hw199_6)).trans hw199_6), ((HB.out.cell (World.block_lt_of_cell? w _ hw199_7)).trans hw199_7), ((HB.out.cell (World.block_lt_of_cell? w _ hw199_8)).trans hw199_8), ((HB.out.cell (World.block_lt_of_cell? w _ hw199_9)).trans hw199_9), ((HB.out.cell (World.block_lt_of_cell? w _ hw199_10)).trans hw199_10), ((HB.out.cell (World.block_lt_of_cell? w _ hw199_11)).trans hw199_11), ((HB.out.cell (World.block_lt_of_cell? w _ hw200_0)).trans hw200_0), ((HB.out.cell (World.block_lt_of_cell? w _ hw200_1)).trans hw200_1), ((HB.out.cell (World.block_lt_of_cell? w _ hw200_2)).trans hw200_2), ((HB.out.cell (World.block_lt_of_cell? w _ hw200_3)).trans hw200_3), ((HB.out.cell (World.block_lt_of_cell? w _ hw200_4)).trans hw200_4), ((HB.out.cell (World.block_lt_of_cell? w _ hw200_5)).trans hw200_5), ((HB.out.cell (World.block_lt_of_cell? w _ hw200_6)).trans hw200_6), ((HB.out.cell (World.block_lt_of_cell? w _ hw200_7)).trans hw200_7), ((HB.out.cell (World.block_lt_of_cell? w _ hw200_8)).trans hw200_8), ((HB.out.cell (World.block_lt_of_cell? w _ hw200_9)).trans hw200_9), ((HB.out.cell (World.block_lt_of_cell? w _ hw200_10)).trans hw200_10), ((HB.out.cell (World.block_lt_of_cell? w _ hw200_11)).trans hw200_11)⟩ (fun hHeld => ?_)
                clear hK K
                refine norm_ (a' := ?_) ?_ ?_
                rotate_left
                · show Act.put _ (some 25) _ = _
                  simp only [Act.put, List.setIfInBounds_toArray, List.set_cons_zero, List.set_cons_succ, i64_w, i32_w]
                  rfl
                refine one_ (i := 12) (N := some 31) #[true, true, true, true, true, true, true, true, true, true, true, true, true, false, true, true, true, true, true, true, true, false, true, true, true, true, true, true, true, false, true, true, true, true, true, true, true, true, false, true, true, true, true, true, true, true, true, false, false, false] rfl rfl (one_of HT_.out (by kernel_rfl)) (by decide) (fun K hK => ?_)
                refine goes_ Try.func54 (by kernel_rfl) rfl #[.slice A193_3 ((rd_T98 l0 x4_1).f3).length c193_3] (by rfl) rfl rfl (by (try simp only [List.map_toArray, List.map_cons, List.map_nil]); first | done | rfl | (simp only [List.length_drop, List.length_take]; rfl)) ?_
                with_reducible refine (tidemarklaw09_weigh.calls kj1 _ _ ((rd_T98 l0 x4_1).f3) t196 _ ?side1 ?side2 A9.out).mono ?_
                (case side1 => repeat (first | exact (Kd.C_below HR195_3.out HB.out) | (with_reducible refine Kd.C_alloc ?_ _) | (with_reducible refine Kd.C_drewN ?_ _) | (with_reducible refine Kd.C_drew ?_)))
                (case side2 => exact HC195_3.out)
                rintro e w16 ⟨rfl, hb⟩
                refine ⟨_, rfl, ?_⟩
                have n0_ := Aside0.mk (below_step (by repeat (first | (with_reducible first | exact HB.out | apply below_alloc | apply pw_below_drewN | apply below_drew1) | exact HB.out)) hb)
                clear HB
                have HB := n0_
                clear n0_
                (try clear hb)
                (try clear hb2)
                (try clear hk)
                (try clear hi)
                refine hK.out _ _ ⟨((HB.out.cell (World.block_lt_of_cell? w _ hw193_0)).trans hw193_0), ((HB.out.cell (World.block_lt_of_cell? w _ hw193_1)).trans hw193_1), ((HB.out.cell (World.block_lt_of_cell? w _ hw193_2)).trans hw193_2), ((HB.out.cell (World.block_lt_of_cell? w _ hw193_3)).trans hw193_3), ((HB.out.cell (World.block_lt_of_cell? w _ hw193_4)).trans hw193_4), ((HB.out.cell (World.block_lt_of_cell? w _ hw193_5)).trans hw193_5), ((HB.out.cell (World.block_lt_of_cell? w _ hw193_6)).trans hw193_6), ((HB.out.cell (World.block_lt_of_cell? w _ hw193_7)).trans hw193_7), ((HB.out.cell (World.block_lt_of_cell? w _ hw193_8)).trans hw193_8), ((HB.out.cell (World.block_lt_of_cell? w _ hw193_9)).trans hw193_9), ((HB.out.cell (World.block_lt_of_cell? w _ hw193_10)).trans hw193_10), ((HB.out.cell (World.block_lt_of_cell? w _ hw193_11)).trans hw193_11), ((HB.out.cell (World.block_lt_of_cell? w _ hw195_0)).trans hw195_0), ((HB.out.cell (World.block_lt_of_cell? w _ hw195_1)).trans hw195_1), ((HB.out.cell (World.block_lt_of_cell? w _ hw195_2)).trans hw195_2), ((HB.out.cell (World.block_lt_of_cell? w _ hw195_3)).trans hw195_3), ((HB.out.cell (World.block_lt_of_cell? w _ hw195_4)).trans hw195_4), ((HB.out.cell (World.block_lt_of_cell? w _ hw195_5)).trans hw195_5), ((HB.out.cell (World.block_lt_of_cell? w _ hw195_6)).trans hw195_6), ((HB.out.cell (World.block_lt_of_cell? w _ hw195_7)).trans hw195_7), ((HB.out.cell (World.block_lt_of_cell? w _ hw195_8)).trans hw195_8), ((HB.out.cell (World.block_lt_of_cell? w _ hw195_9)).trans hw195_9), ((HB.out.cell (World.block_lt_of_cell? w _ hw195_10)).trans hw195_10), ((HB.out.cell (World.block_lt_of_cell? w _ hw195_11)).trans hw195_11), ((HB.out.cell (World.block_lt_of_cell? w _ hw197_0)).trans hw197_0), ((HB.out.cell (World.block_lt_of_cell? w _ hw197_1)).trans hw197_1), ((HB.out.cell (World.block_lt_of_cell? w _ hw197_2)).trans hw197_2), ((HB.out.cell (World.block_lt_of_cell? w _ hw197_3)).trans hw197_3), ((HB.out.cell (World.block_lt_of_cell? w _ hw197_4)).trans hw197_4), ((HB.out.cell (World.block_lt_of_cell? w _ hw197_5)).trans hw197_5), ((HB.out.cell (World.block_lt_of_cell? w _ hw197_6)).trans hw197_6), ((HB.out.cell (World.block_lt_of_cell? w _ hw197_7)).trans hw197_7), ((HB.out.cell (World.block_lt_of_cell? w _ hw197_8)).trans hw197_8), ((HB.out.cell (World.block_lt_of_cell? w _ hw197_9)).trans hw197_9), ((HB.out.cell (World.block_lt_of_cell? w _ hw197_10)).trans hw197_10), ((HB.out.cell (World.block_lt_of_cell? w _ hw197_11)).trans hw197_11), ((HB.out.cell (World.block_lt_of_cell? w _ hw198_0)).trans hw198_0), ((HB.out.cell (World.block_lt_of_cell? w _ hw198_1)).trans hw198_1), ((HB.out.cell (World.block_lt_of_cell? w _ hw198_2)).trans hw198_2), ((HB.out.cell (World.block_lt_of_cell? w _ hw198_3)).trans hw198_3), ((HB.out.cell (World.block_lt_of_cell? w _ hw198_4)).trans hw198_4), ((HB.out.cell (World.block_lt_of_cell? w _ hw198_5)).trans hw198_5), ((HB.out.cell (World.block_lt_of_cell? w _ hw198_6)).trans hw198_6), ((HB.out.cell (World.block_lt_of_cell? w _ hw198_7)).trans hw198_7), ((HB.out.cell (World.block_lt_of_cell? w _ hw198_8)).trans hw198_8), ((HB.out.cell (World.block_lt_of_cell? w _ hw198_9)).trans hw198_9), ((HB.out.cell (World.block_lt_of_cell? w _ hw198_10)).trans hw198_10), ((HB.out.cell (World.block_lt_of_cell? w _ hw198_11)).trans hw198_11), ((HB.out.cell (World.block_lt_of_cell? w _ hw199_0)).trans hw199_0), ((HB.out.cell (World.block_lt_of_cell? w _ hw199_1)).trans hw199_1), ((HB.out.cell (World.block_lt_of_cell? w _ hw199_2)).trans hw199_2), ((HB.out.cell (World.block_lt_of_cell? w _ hw199_3)).trans hw199_3), ((HB.out.cell (World.block_lt_of_cell? w _ hw199_4)).trans hw199_4), ((HB.out.cell (World.block_lt_of_cell? w _ hw199_5)).trans hw199_5), ((HB.out.cell (World.block_lt_of_cell? w _ hw199_6)).trans hw199_6), ((HB.out.cell (World.block_lt_of_cell? w _ hw199_7)).trans hw199_7), ((HB.out.cell (World.block_lt_of_cell? w _ hw199_8)).trans hw199_8), ((HB.out.cell (World.block_lt_of_cell? w _ hw199_9)).trans hw199_9), ((HB.out.cell (World.block_lt_of_cell? w _ hw199_10)).trans hw199_10), ((HB.out.cell (World.block_lt_of_cell? w _ hw199_11)).trans hw199_11), ((HB.out.cell (World.block_lt_of_cell? w _ hw200_0)).trans hw200_0), ((HB.out.cell (World.block_lt_of_cell? w _ hw200_1)).trans hw200_1), ((HB.out.cell (World.block_lt_of_cell? w _ hw200_2)).trans hw200_2), ((HB.out.cell (World.block_lt_of_cell? w _ hw200_3)).trans hw200_3), ((HB.out.cell (World.block_lt_of_cell? w _ hw200_4)).trans hw200_4), ((HB.out.cell (World.block_lt_of_cell? w _ hw200_5)).trans hw200_5), ((HB.out.cell (World.block_lt_of_cell? w _ hw200_6)).trans hw200_6), ((HB.out.cell (World.block_lt_of_cell? w _ hw200_7)).trans hw200_7), ((HB.out.cell (World.block_lt_of_cell? w _ hw200_8)).trans hw200_8), ((HB.out.cell (World.block_lt_of_cell? w _ hw200_9)).trans hw200_9), ((HB.out.cell (World.block_lt_of_cell? w _ hw200_10)).trans hw200_10), ((HB.out.cell (World.block_lt_of_cell? w _ hw200_11)).trans hw200_11)⟩ (fun hHeld => ?_)
                clear hK K
                refine norm_ (a' := ?_) ?_ ?_
                rotate_left
                · show Act.put _ (some 31) _ = _
                  simp only [Act.put, List.setIfInBounds_toArray, List.set_cons_zero, List.set_cons_succ, i64_w, i32_w]
                  rfl
                refine pure_ (i := 13) (N := some 32) (v := ?_) (a' := ?_) #[true, true, true, true, true, true, true, true, true, true, true, true, true, true, true, true, true, true, true, true, true, false, true, true, true, true, true, true, true, false, true, true, true, true, true, true, true, true, false, true, true, true, true, true, true, true, true, false, false, false] rfl rfl (any_of HT_.out (by kernel_rfl)) (fun _ _ _ h => h) (Or.inl ⟨by rfl, ?_⟩) ?_ ?_
                rotate_left
                · intro w'
                  go_simp
                  with_reducible rfl
                rotate_left
                · simp only [Act.put, List.setIfInBounds_toArray, List.set_cons_zero, List.set_cons_succ, i64_w, i32_w]
                  rfl
                refine pure_ (i := 21) (N := some 40) (v := ?_) (a' := ?_) #[true, true, true, true, true, true, true, true, true, true, true, true, true, true, true, true, true, true, true, true, true, true, true, true, true, true, true, true, true, false, true, true, true, true, true, true, true, true, false, true, true, true, true, true, true, true, true, false, false, false] rfl rfl (any_of HT_.out (by kernel_rfl)) (fun _ _ _ h => h) (Or.inl ⟨by rfl, ?_⟩) ?_ ?_
                rotate_left
                · intro w'
                  go_simp
                  with_reducible rfl
                rotate_left
                · simp only [Act.put, List.setIfInBounds_toArray, List.set_cons_zero, List.set_cons_succ, i64_w, i32_w]
                  rfl
                refine pure_ (i := 29) (N := some 48) (v := ?_) (a' := ?_) #[true, true, true, true, true, true, true, true, true, true, true, true, true, true, true, true, true, true, true, true, true, true, true, true, true, true, true, true, true, true, true, true, true, true, true, true, true, true, false, true, true, true, true, true, true, true, true, false, false, false] rfl rfl (any_of HT_.out (by kernel_rfl)) (fun _ _ _ h => h) (Or.inl ⟨by rfl, ?_⟩) ?_ ?_
                rotate_left
                · intro w'
                  go_simp
                  with_reducible rfl
                rotate_left
                · simp only [Act.put, List.setIfInBounds_toArray, List.set_cons_zero, List.set_cons_succ, i64_w, i32_w]
                  rfl
                refine pure_ (i := 38) (N := some 57) (v := ?_) (a' := ?_) #[true, true, true, true, true, true, true, true, true, true, true, true, true, true, true, true, true, true, true, true, true, true, true, true, true, true, true, true, true, true, true, true, true, true, true, true, true, true, true, true, true, true, true, true, true, true, true, false, false, false] rfl rfl (any_of HT_.out (by kernel_rfl)) (fun _ _ _ h => h) (Or.inl ⟨by rfl, ?_⟩) ?_ ?_
                rotate_left
                · intro w'
                  go_simp
                  with_reducible rfl
                rotate_left
                · simp only [Act.put, List.setIfInBounds_toArray, List.set_cons_zero, List.set_cons_succ, i64_w, i32_w]
                  rfl
                refine pure_ (i := 47) (N := some 66) (v := ?_) (a' := ?_) #[true, true, true, true, true, true, true, true, true, true, true, true, true, true, true, true, true, true, true, true, true, true, true, true, true, true, true, true, true, true, true, true, true, true, true, true, true, true, true, true, true, true, true, true, true, true, true, true, false, false] rfl rfl (any_of HT_.out (by kernel_rfl)) (fun _ _ _ h => h) (Or.inl ⟨by rfl, ?_⟩) ?_ ?_
                rotate_left
                · intro w'
                  go_simp
                  with_reducible rfl
                rotate_left
                · simp only [Act.put, List.setIfInBounds_toArray, List.set_cons_zero, List.set_cons_succ, i64_w, i32_w]
                  rfl
                refine pure_ (i := 48) (N := some 67) (v := ?_) (a' := ?_) #[true, true, true, true, true, true, true, true, true, true, true, true, true, true, true, true, true, true, true, true, true, true, true, true, true, true, true, true, true, true, true, true, true, true, true, true, true, true, true, true, true, true, true, true, true, true, true, true, true, false] rfl rfl (any_of HT_.out (by kernel_rfl)) (fun _ _ _ h => h) (Or.inl ⟨by rfl, ?_⟩) ?_ ?_
                rotate_left
                · intro w'
                  go_simp
                  with_reducible rfl
                rotate_left
                · simp only [Act.put, List.setIfInBounds_toArray, List.set_cons_zero, List.set_cons_succ, i64_w, i32_w]
                  rfl
                refine pure_ (i := 49) (N := some 3) (v := ?_) (a' := ?_) #[true, true, true, true, true, true, true, true, true, true, true, true, true, true, true, true, true, true, true, true, true, true, true, true, true, true, true, true, true, true, true, true, true, true, true, true, true, true, true, true, true, true, true, true, true, true, true, true, true, true] rfl rfl (any_of HT_.out (by kernel_rfl)) (fun _ _ _ h => h) (Or.inl ⟨by rfl, ?_⟩) ?_ ?_
                rotate_left
                · intro w'
                  go_simp
                  with_reducible rfl
                rotate_left
                · simp only [Act.put, List.setIfInBounds_toArray, List.set_cons_zero, List.set_cons_succ, i64_w, i32_w]
                  rfl
                refine done_ (done_of HT_.out (by kernel_rfl)) ?_
                try go_wp2
                go_roundg kj1
                case measure => have := HK1.out; have := HJ1.out; omega
                case rel => exact ⟨(wrap64 (x3_1 + (wrap64 ((wrap64 ((wrap64 ((wrap64 ((wrap64 (t194 + t196)) + (ji10))) + (ji11))) + (ji12))) + (ji13))))), (wrap64 (x4_1 + 1)), (by first | rfl | (simp; done) | (simp only [← hji10, ← hji11, ← hji12, ← hji13] <;> (first | rfl | simp)) | (simp [*]; done)), (by first | rfl | (simp; done) | (simp [*]; done)), H', ⟨by have := HK1.out; have := HJ1.out; omega⟩, ⟨by repeat (first | (with_reducible first | exact HB.out | apply below_alloc | apply pw_below_drewN | apply below_drew1) | exact HB.out)⟩⟩
              · rw [if_neg c7] at H
                exact absurd H (by simp)
            · rw [if_neg c6] at H
              exact absurd H (by simp)
          · replace c5 := Bool.eq_false_iff.mpr c5
            subst c5
            have H1 : (if (l0.length : Int) ≤ 100 then (some (decide (x3_1 ≤ 32768))) else (some false)) = some r := by rw [if_neg (show ¬ (false = true) by decide)] at H; exact H
            clear H
            have H := H1
            clear H1
            by_cases c17 : (l0.length : Int) ≤ 100
            · rw [if_pos c17] at H
              have c17b0 : decide ((l0.length : Int) ≤ 100) = true := decide_eq_true c17
              have c17b1 : decide (l0.length ≤ 100) = true := decide_eq_true (by omega)
              clear c17
              obtain rfl := Option.some.inj H
              go_wp2
              go_ret
              exact ⟨by first | rfl | (simp [errW_none, errW_some] <;> rfl) | (simp [*, errW_none, errW_some] <;> rfl), by repeat (first | (with_reducible first | exact HB.out | apply below_alloc | apply pw_below_drewN | apply below_drew1) | exact HB.out)⟩
            · rw [if_neg c17] at H
              have c17b0 : decide ((l0.length : Int) ≤ 100) = false := decide_eq_false c17
              have c17b1 : decide (l0.length ≤ 100) = false := decide_eq_false (by omega)
              clear c17
              obtain rfl := Option.some.inj H
              go_wp2
              go_ret
              exact ⟨by first | rfl | (simp [errW_none, errW_some] <;> rfl) | (simp [*, errW_none, errW_some] <;> rfl), by repeat (first | (with_reducible first | exact HB.out | apply below_alloc | apply pw_below_drewN | apply below_drew1) | exact HB.out)⟩

end Go.Proofs.Ytehnkoglhbbfjaa.PAll
