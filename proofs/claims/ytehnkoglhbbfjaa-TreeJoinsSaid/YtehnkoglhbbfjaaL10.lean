/-
  The law TreeJoins: its walk.
-/
import Derived.Test.YtehnkoglhbbfjaaT16
import Derived.Test.YtehnkoglhbbfjaaM11
set_option linter.unusedVariables false
set_option linter.unusedSimpArgs false
namespace Go.Proofs.Ytehnkoglhbbfjaa
open Go.RowKit Go.Proofs.YtehnkoglhbbfjaaW.PrintWords Go.Proofs.YtehnkoglhbbfjaaW.PrintLast Go.Proofs.YtehnkoglhbbfjaaW.PrintMore PAll

theorem RefJoin_under (u v : Value) (x y : List S29) (w : World) (hx : Sl w u x) (hy : Sl w v y) (hu : T.Under x y) (h1 : x.length < 1000000) (h2 : y.length < 1000000) :
    Calls Try.prog 52 #[u, v] w fun e w' => ∃ r, e = .returned (.tuple #[r, .bool true]) ∧ Sl w' r (x ++ y) ∧ Below w.heap.size w w' := by
  obtain ⟨A, c, rfl, hc, hC⟩ := hx
  obtain ⟨A', c', rfl, hc', hC'⟩ := hy
  obtain ⟨K, f1, -⟩ := Join_f x y h1 h2
  exact (tidemarkref03_Join.calls K A c x A' c' y _ _ w hC hc hC' hc' (f1 hu)).mono fun _ _ ⟨r, h, hR, hb⟩ => ⟨r, h, Sl.of_R hR, hb⟩
theorem RefJoin_not (u v : Value) (x y : List S29) (w : World) (hx : Sl w u x) (hy : Sl w v y) (hu : ¬ T.Under x y) (h1 : x.length < 1000000) (h2 : y.length < 1000000) :
    Calls Try.prog 52 #[u, v] w fun e w' => ∃ r, e = .returned (.tuple #[r, .bool false]) ∧ Below w.heap.size w w' := by
  obtain ⟨A, c, rfl, hc, hC⟩ := hx
  obtain ⟨A', c', rfl, hc', hC'⟩ := hy
  obtain ⟨K, -, f2⟩ := Join_f x y h1 h2
  exact (tidemarkref03_Join.calls K A c x A' c' y _ _ w hC hc hC' hc' (f2 hu)).mono fun _ _ ⟨r, h, hR, hb⟩ => ⟨r, h, hb⟩

set_option maxHeartbeats 1000000 in
set_option maxRecDepth 100000 in
theorem treeJoins_calls (v : Value) (l : List S27) (v' : Value) (m : List S27) (w : World) (h : SlD w v l) (h' : SlD w v' m) :
    Calls Try.prog 10 #[v, v'] w fun e w' => e = .returned (.bool true) ∧ Below w.heap.size w w' := by
  obtain ⟨A, c, rfl, hc, hC⟩ := h
  obtain ⟨B, d, rfl, hc', hC'⟩ := h'
  have HD : As (SlD w (.slice A l.length c) l) := ⟨A, c, rfl, hc, hC⟩
  have HE : As (SlD w (.slice B m.length d) m) := ⟨B, d, rfl, hc', hC'⟩
  have HC' := As.mk hC'
  have HS := As.mk (Short2 l m A B c d w HD.out HE.out)
  have hB0 : Below w.heap.size w (w.alloc (.cells #[.slice A l.length c, .slice B m.length d] 22)) := (Below.refl _ w).alloc (Nat.le_refl _) _
  have HB0 := As.mk hB0
  clear hC hc hC' hc' hB0
  go_enter Try.func10, Try.ntmps10
  go_wp2_with (first
    | (go_at_call 19; refine HS.out.mono ?_; rintro e w1 ⟨b, rfl, hle, hb⟩; have HB1 := As.mk (bstep HB0.out hb); have HLE := As.mk hle; clear hb hle; rcases b with _ | _)
    | (go_at_call 20; refine (awake_calls _).mono ?_; rintro e w2 ⟨rfl, hb⟩; have HB2 := As.mk (bstep HB1.out hb); clear hb)
    | (go_at_call_of 27 (Value.slice A l.length c); refine (Made_calls _ l _ (HD.out.below HB1.out) (HLE.out trivial).1).mono ?_; rintro e w3 ⟨p, Ax, cx, t, rfl, hpl, hts, htl, hT, hR, hb⟩; have HT := As.mk hT; have HX := As.mk (Sl.of_R hR); have HB := As.mk (bstep HB1.out hb); have HTL := As.mk htl; have hxl : t.toL.length ≤ 300 := (by rw [T.toL_length]; exact hts); have HBT : As (T.Bal t) := ⟨by rw [hpl]; exact T.play_bal l .nil trivial⟩; clear hT hR hb htl hpl)
    | (go_at_call_of 27 (Value.slice B m.length d); refine (Made_calls _ m _ (HE.out.below HB.out) (HLE.out trivial).2).mono ?_; rintro e w4 ⟨q, Ay, cy, u, rfl, hpl, hus, hul, hT, hR, hb⟩; have HU := As.mk hT; have HY := As.mk (Sl.of_R hR); have HT := As.mk (HT.out.below hb); have HX := As.mk (HX.out.below hb); have HB := As.mk (bstep HB.out hb); have HUL := As.mk hul; have hyl : u.toL.length ≤ 300 := (by rw [T.toL_length]; exact hus); have HBU : As (T.Bal u) := ⟨by rw [hpl]; exact T.play_bal m .nil trivial⟩; clear hT hR hb hul hpl)
    | (go_at_call 51; refine (Join_calls p q t u _ HT.out HU.out (by omega)).mono ?_; have hcs := T.tjoin_cases t u HTL.out HUL.out; rcases hcs with ⟨hu, hj⟩ | ⟨hu, hj⟩; all_goals rw [hj]; all_goals first | (rintro e w5 ⟨rfl, hb⟩; have HNU := As.mk hu; have HX := As.mk (HX.out.below hb); have HY := As.mk (HY.out.below hb); have HB := As.mk (bstep HB.out hb); clear hb hu hj) | (rintro e w5 ⟨p3, rfl, h3, hb⟩; have HUN := As.mk hu; have HP3 := As.mk h3; have HX := As.mk (HX.out.below hb); have HY := As.mk (HY.out.below hb); have HB := As.mk (bstep HB.out hb); clear hb h3 hu hj))
    | (go_at_call 52; refine (RefJoin_under _ _ t.toL u.toL _ HX.out HY.out HUN.out (by omega) (by omega)).mono ?_; rintro e w6 ⟨r, rfl, hr, hb⟩; have HR6 := As.mk hr; have HP3 := As.mk (HP3.out.below hb); have HB := As.mk (bstep HB.out hb); clear hb hr)
    | (go_at_call 52; refine (RefJoin_not _ _ t.toL u.toL _ HX.out HY.out HNU.out (by omega) (by omega)).mono ?_; rintro e w6 ⟨r, rfl, hb⟩; have HB1 := As.mk (bstep HB.out hb); clear hb)
    | (go_at_call 25; refine (All_calls p3 (T.glue t u) _ HP3.out (by rw [T.glue_size]; omega)).mono ?_; rintro e w7 ⟨va, rfl, hR, hb⟩; rw [T.all_toL (T.glue t u) (by rw [T.glue_toL]; exact srt_append HTL.out HUL.out HUN.out), T.glue_toL] at hR; have HSa := As.mk (Sl.of_R hR); have HR6 := As.mk (HR6.out.below hb); have HP3 := As.mk (HP3.out.below hb); have HB := As.mk (bstep HB.out hb); clear hb hR)
    | (go_at_call 24; refine (Same_calls _ _ (t.toL ++ u.toL) (t.toL ++ u.toL) _ HSa.out HR6.out (by rw [List.length_append]; omega)).mono ?_; rw [decide_eq_true rfl]; rintro e w8 ⟨rfl, hb⟩; have HP3 := As.mk (HP3.out.below hb); have HB := As.mk (bstep HB.out hb); clear hb)
    | (go_at_call 49; refine (shallow_calls p3 _ _ HP3.out (T.glue_bal HBT.out HBU.out) (by rw [T.glue_size]; omega)).mono ?_; rintro e w9 ⟨rfl, hb⟩; have HB1 := As.mk (bstep HB.out hb); clear hb))
  all_goals (go_ret; exact ⟨rfl, HB2.out⟩)

end Go.Proofs.Ytehnkoglhbbfjaa
