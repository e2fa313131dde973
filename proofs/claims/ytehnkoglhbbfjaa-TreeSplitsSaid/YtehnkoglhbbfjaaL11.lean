/-
  The law TreeSplits: its walk.
-/
import Derived.Test.YtehnkoglhbbfjaaT13
import Derived.Test.YtehnkoglhbbfjaaM7
set_option linter.unusedVariables false
set_option linter.unusedSimpArgs false
namespace Go.Proofs.Ytehnkoglhbbfjaa
open Go.RowKit Go.Proofs.YtehnkoglhbbfjaaW.PrintWords Go.Proofs.YtehnkoglhbbfjaaW.PrintLast Go.Proofs.YtehnkoglhbbfjaaW.PrintMore PAll

set_option maxHeartbeats 1000000 in
set_option maxRecDepth 100000 in
theorem treeSplits_calls (v : Value) (l : List S27) (key : ByteArray) (w : World) (h : SlD w v l) :
    Calls Try.prog 11 #[v, .string key] w fun e w' => e = .returned (.bool true) ∧ Below w.heap.size w w' := by
  obtain ⟨A, c, rfl, hc, hC⟩ := h
  have HD : As (SlD w (.slice A l.length c) l) := ⟨A, c, rfl, hc, hC⟩
  have HC := As.mk hC
  have HS := As.mk (Short1 l A c w HD.out)
  have hB0 : Below w.heap.size w (w.alloc (.cells #[.slice A l.length c] 22)) := (Below.refl _ w).alloc (Nat.le_refl _) _
  have HB0 := As.mk hB0
  clear hC hc hB0
  go_enter Try.func11, Try.ntmps11
  go_wp2_with (first
    | (go_at_call 19; refine HS.out.mono ?_; rintro e w1 ⟨b, rfl, hle, hb⟩; have HB1 := As.mk (bstep HB0.out hb); have HLE := As.mk hle; clear hb hle; rcases b with _ | _; (first | (have := HLE.out trivial; by_cases hf : 16384 < key.size) | skip))
    | (go_at_call 20; refine (awake_calls _).mono ?_; rintro e w2 ⟨rfl, hb⟩; have HB2 := As.mk (bstep HB1.out hb); clear hb)
    | (go_at_call 27; refine (Made_calls _ l _ (HD.out.below HB1.out) (HLE.out trivial)).mono ?_; rintro e w3 ⟨p, Ax, cx, t, rfl, -, hts, htl, hT, hR, hb⟩; have HT := As.mk hT; have HX := As.mk (Sl.of_R hR); have HB := As.mk (bstep HB1.out hb); have HTL := As.mk htl; have hxl : t.toL.length ≤ 300 := (by rw [T.toL_length]; omega); clear hT hR hb htl)
    | (go_at_call 50; refine (Split_calls p t key w3 HT.out (by omega)).mono ?_; have hsp := T.split_toL key t HTL.out; have hjn := T.tjoin_split t key HTL.out; have hsz := T.split_size key t; generalize T.split key t = SP at *; obtain ⟨S1, S2, S3⟩ := SP; dsimp only at hsp hjn hsz ⊢; generalize T.val S3 = gv at *; obtain ⟨g1, g2⟩ := gv; dsimp only; rintro e w4 ⟨p1, p2, rfl, h1, h2, hb⟩; have HP1 := As.mk h1; have HP2 := As.mk h2; have HT := As.mk (HT.out.below hb); have HX := As.mk (HX.out.below hb); have HB := As.mk (bstep HB.out hb); have HJN := As.mk hjn; have HS1 := As.mk hsp.1; have HS2 := As.mk hsp.2.1; have HGV := As.mk hsp.2.2.1; clear h1 h2 hb hjn hsp)
    | (go_at_call 53; refine (RefSplit_calls _ t.toL key _ HX.out (by omega)).mono ?_; rintro e w5 ⟨u1, u2, rfl, hu1, hu2, hb⟩; rw [← HS1.out] at hu1; rw [← HS2.out] at hu2; have HU1 := As.mk hu1; have HU2 := As.mk hu2; have HP1 := As.mk (HP1.out.below hb); have HP2 := As.mk (HP2.out.below hb); have HX := As.mk (HX.out.below hb); have HB := As.mk (bstep HB.out hb); clear hu1 hu2 hb)
    | (go_at_call 48; refine (RefGet_calls _ t.toL key _ HX.out (by omega)).mono ?_; rw [← HGV.out]; rintro e w6 ⟨rfl, hb⟩; have HU1 := As.mk (HU1.out.below hb); have HU2 := As.mk (HU2.out.below hb); have HP1 := As.mk (HP1.out.below hb); have HP2 := As.mk (HP2.out.below hb); have HX := As.mk (HX.out.below hb); have HB := As.mk (bstep HB.out hb); clear hb)
    | (go_at_call 51; refine (Join_calls p1 p2 S1 S2 _ HP1.out HP2.out (by omega)).mono ?_; rw [HJN.out.1]; rintro e w7 ⟨p3, rfl, h3, hb⟩; have HP3 := As.mk h3; have HU1 := As.mk (HU1.out.below hb); have HU2 := As.mk (HU2.out.below hb); have HP1 := As.mk (HP1.out.below hb); have HP2 := As.mk (HP2.out.below hb); have HX := As.mk (HX.out.below hb); have HB := As.mk (bstep HB.out hb); have e1 := T.all_toL S1 (by rw [HS1.out]; exact srt_filter HTL.out _); have e2 := T.all_toL S2 (by rw [HS2.out]; exact srt_filter HTL.out _); have e3 := T.all_toL (T.glue S1 S2) (by rw [HJN.out.2]; exact srt_without HTL.out _); have e4 := T.toL_length S1; have e5 := T.toL_length S2; rw [HJN.out.2] at e3; have HE1 := As.mk e1; have HE2 := As.mk e2; have HE3 := As.mk e3; have HE4 := As.mk e4; have HE5 := As.mk e5; clear hb h3 e1 e2 e3 e4 e5)
    | (go_at_call_of 25 (Value.pointer p1); refine (All_calls p1 S1 _ HP1.out (by omega)).mono ?_; rintro e w8 ⟨va, rfl, hR, hb⟩; rw [HE1.out] at hR; have HSa := As.mk (Sl.of_R hR); have HU1 := As.mk (HU1.out.below hb); have HU2 := As.mk (HU2.out.below hb); have HP2 := As.mk (HP2.out.below hb); have HP3 := As.mk (HP3.out.below hb); have HX := As.mk (HX.out.below hb); have HB := As.mk (bstep HB.out hb); clear hb hR)
    | (go_at_call 24; refine (Same_calls _ _ S1.toL S1.toL _ HSa.out HU1.out (by have := HE4.out; omega)).mono ?_; rw [decide_eq_true rfl]; rintro e w9 ⟨rfl, hb⟩; have HU2 := As.mk (HU2.out.below hb); have HP2 := As.mk (HP2.out.below hb); have HP3 := As.mk (HP3.out.below hb); have HX := As.mk (HX.out.below hb); have HB := As.mk (bstep HB.out hb); clear hb HSa HU1)
    | (go_at_call_of 25 (Value.pointer p2); refine (All_calls p2 S2 _ HP2.out (by omega)).mono ?_; rintro e w10 ⟨vb, rfl, hR, hb⟩; rw [HE2.out] at hR; have HSb := As.mk (Sl.of_R hR); have HU2 := As.mk (HU2.out.below hb); have HP3 := As.mk (HP3.out.below hb); have HX := As.mk (HX.out.below hb); have HB := As.mk (bstep HB.out hb); clear hb hR)
    | (go_at_call 24; refine (Same_calls _ _ S2.toL S2.toL _ HSb.out HU2.out (by have := HE5.out; omega)).mono ?_; rw [decide_eq_true rfl]; rintro e w11 ⟨rfl, hb⟩; have HP3 := As.mk (HP3.out.below hb); have HX := As.mk (HX.out.below hb); have HB := As.mk (bstep HB.out hb); clear hb HSb HU2)
    | (go_at_call_of 25 (Value.pointer p3); refine (All_calls p3 (T.glue S1 S2) _ HP3.out (by rw [T.glue_size]; omega)).mono ?_; rintro e w12 ⟨vc, rfl, hR, hb⟩; rw [HE3.out] at hR; have HSc := As.mk (Sl.of_R hR); have HX := As.mk (HX.out.below hb); have HB := As.mk (bstep HB.out hb); clear hb hR)
    | (go_at_call 32; refine (Without_calls _ t.toL key _ HX.out (by omega)).mono ?_; rintro e w13 ⟨vd, rfl, hR, hb⟩; have HSd := As.mk (Sl.of_R hR); have HSc := As.mk (HSc.out.below hb); have HB := As.mk (bstep HB.out hb); clear hb hR)
    | (go_at_call 24; refine (Same_calls _ _ (without key t.toL) (without key t.toL) _ HSc.out HSd.out (by have := without_length key t.toL; omega)).mono ?_; rw [decide_eq_true rfl]; rintro e w14 ⟨rfl, hb⟩; have HB := As.mk (bstep HB.out hb); clear hb HSc HSd)
    | (go_at_call 20; refine (awake_calls _).mono ?_; rintro e w15 ⟨rfl, hb⟩; have HBZ := As.mk (bstep HB.out hb); clear hb))
  all_goals (try (go_ret; exact ⟨rfl, HB2.out⟩))
  go_ret
  exact ⟨rfl, HBZ.out⟩

end Go.Proofs.Ytehnkoglhbbfjaa
