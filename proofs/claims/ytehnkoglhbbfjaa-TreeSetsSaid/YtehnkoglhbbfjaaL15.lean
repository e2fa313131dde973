/-
  The law TreeSets: its walk.
-/
import Derived.Test.YtehnkoglhbbfjaaT16
import Derived.Test.YtehnkoglhbbfjaaM14
set_option linter.unusedVariables false
set_option linter.unusedSimpArgs false
namespace Go.Proofs.Ytehnkoglhbbfjaa
open Go.RowKit Go.Proofs.YtehnkoglhbbfjaaW.PrintWords Go.Proofs.YtehnkoglhbbfjaaW.PrintLast Go.Proofs.YtehnkoglhbbfjaaW.PrintMore PAll

set_option maxHeartbeats 4000000 in
set_option maxRecDepth 100000 in
theorem treeSets_calls (v : Value) (l : List S27) (v' : Value) (m : List S27) (w : World) (h : SlD w v l) (h' : SlD w v' m) :
    Calls Try.prog 15 #[v, v'] w fun e w' => e = .returned (.bool true) ∧ Below w.heap.size w w' := by
  obtain ⟨A, c, rfl, hc, hC⟩ := h
  obtain ⟨B, d, rfl, hc', hC'⟩ := h'
  have HD : As (SlD w (.slice A l.length c) l) := ⟨A, c, rfl, hc, hC⟩
  have HE : As (SlD w (.slice B m.length d) m) := ⟨B, d, rfl, hc', hC'⟩
  have HC' := As.mk hC'
  have HS := As.mk (Short2 l m A B c d w HD.out HE.out)
  have hB0 : Below w.heap.size w (w.alloc (.cells #[.slice A l.length c, .slice B m.length d] 22)) := (Below.refl _ w).alloc (Nat.le_refl _) _
  have HB0 := As.mk hB0
  clear hC hc hC' hc' hB0
  go_enter Try.func15, Try.ntmps15
  have TOKHSa := True.intro
  have TOKHSc := True.intro
  have TOKHSe := True.intro
  go_wp2_with (first
    | (go_at_call 19; refine HS.out.mono ?_; rintro e w1 ⟨b, rfl, hle, hb⟩; have HB1 := As.mk (bstep HB0.out hb); have HLE := As.mk hle; clear hb hle; rcases b with _ | _)
    | (go_at_call 20; refine (awake_calls _).mono ?_; rintro e w2 ⟨rfl, hb⟩; have HB2 := As.mk (bstep HB1.out hb); clear hb)
    | (go_at_call_of 27 (Value.slice A l.length c); refine (Made_calls _ l _ (HD.out.below HB1.out) (HLE.out trivial).1).mono ?_; rintro e w3 ⟨p, Ax, cx, t, rfl, hpl, hts, htl, hT, hR, hb⟩; have HT := As.mk hT; have HX := As.mk (Sl.of_R hR); have HB := As.mk (bstep HB1.out hb); have HTL := As.mk htl; have hxl : t.toL.length ≤ 300 := (by rw [T.toL_length]; exact hts); have HBT : As (T.Bal t) := ⟨by rw [hpl]; exact T.play_bal l .nil trivial⟩; clear hT hR hb htl hpl)
    | (go_at_call_of 27 (Value.slice B m.length d); refine (Made_calls _ m _ (HE.out.below HB.out) (HLE.out trivial).2).mono ?_; rintro e w4 ⟨q, Ay, cy, u, rfl, hpl, hus, hul, hT, hR, hb⟩; have HU := As.mk hT; have HY := As.mk (Sl.of_R hR); have HT := As.mk (HT.out.below hb); have HX := As.mk (HX.out.below hb); have HB := As.mk (bstep HB.out hb); have HUL := As.mk hul; have hyl : u.toL.length ≤ 300 := (by rw [T.toL_length]; exact hus); have HBU : As (T.Bal u) := ⟨by rw [hpl]; exact T.play_bal m .nil trivial⟩; clear hT hR hb hul hpl)
    | (go_at_call 58; refine (Union_calls p q t u _ HT.out HU.out (by omega)).mono ?_; rintro e w5 ⟨p1, u1, rfl, h1, hr, hb⟩; have HP1 := As.mk h1; have HR1 := As.mk hr; have HL1 := As.mk (T.union_toL hr HTL.out HUL.out); have HS1 := As.mk (T.UnionR_get _ _ _ hr HTL.out HUL.out).1; have HB1' := As.mk (T.UnionR_bal _ _ _ hr HBT.out HBU.out); have hz1 := T.UnionR_size _ _ _ hr; have HT := As.mk (HT.out.below hb); have HU := As.mk (HU.out.below hb); have HX := As.mk (HX.out.below hb); have HY := As.mk (HY.out.below hb); have HB := As.mk (bstep HB.out hb); clear hb h1 hr)
    | (go_at_call 62; refine (Minus_calls p q t u _ HT.out HU.out (by omega)).mono ?_; rintro e w6 ⟨p2, d1, rfl, h1, hr, hb⟩; have HP2 := As.mk h1; have HR2 := As.mk hr; have HL2 := As.mk (T.minus_toL hr HTL.out HUL.out); have HS2 := As.mk (T.MinusR_get _ _ _ hr HTL.out HUL.out).1; have HB2' := As.mk (T.MinusR_bal _ _ _ hr HBT.out); have hz2 := T.MinusR_size _ _ _ hr; have HT := As.mk (HT.out.below hb); have HU := As.mk (HU.out.below hb); have HX := As.mk (HX.out.below hb); have HY := As.mk (HY.out.below hb); have HP1 := As.mk (HP1.out.below hb); have HB := As.mk (bstep HB.out hb); clear hb h1 hr)
    | (go_at_call 59; refine (Both_calls p q t u _ HT.out HU.out (by omega)).mono ?_; rintro e w7 ⟨p3, i1, rfl, h1, hr, hb⟩; have HP3 := As.mk h1; have HL3 := As.mk (T.both_toL hr HTL.out HUL.out); have HS3 := As.mk (T.BothR_get _ _ _ hr HTL.out HUL.out).1; have HB3' := As.mk (T.BothR_bal _ _ _ hr HBT.out); have hz3 := T.BothR_size _ _ _ hr; have hss := T.sets_sizes HR1.out HR2.out hr HTL.out HUL.out; have q1 : (((d1.size : Nat) : Int) + ((i1.size : Nat) : Int) == ((t.size : Nat) : Int)) = true := (by rw [beq_iff_eq]; omega); have q2 : (((u1.size : Nat) : Int) == ((d1.size : Nat) : Int) + ((u.size : Nat) : Int)) = true := (by rw [beq_iff_eq]; omega); have HT := As.mk (HT.out.below hb); have HU := As.mk (HU.out.below hb); have HX := As.mk (HX.out.below hb); have HY := As.mk (HY.out.below hb); have HP1 := As.mk (HP1.out.below hb); have HP2 := As.mk (HP2.out.below hb); have HB := As.mk (bstep HB.out hb); clear hb h1 hr hss)
    | (go_at_call_of 25 (Value.pointer p1); have _tok := TOKHSa; refine (All_calls p1 u1 _ HP1.out (by omega)).mono ?_; rintro e w8 ⟨va, rfl, hR, hb⟩; rw [T.all_toL _ HS1.out, HL1.out] at hR; have HSa := As.mk (Sl.of_R hR); have HT := As.mk (HT.out.below hb); have HU := As.mk (HU.out.below hb); have HX := As.mk (HX.out.below hb); have HY := As.mk (HY.out.below hb); have HP1 := As.mk (HP1.out.below hb); have HP2 := As.mk (HP2.out.below hb); have HP3 := As.mk (HP3.out.below hb); have HB := As.mk (bstep HB.out hb); clear hb hR TOKHSa)
    | (go_at_call 63; refine (RefUnion_calls _ _ t.toL u.toL _ HX.out HY.out (by omega)).mono ?_; rintro e w8 ⟨Aa, ca, rfl, hS, hb⟩; have HSb := As.mk hS; have HT := As.mk (HT.out.below hb); have HU := As.mk (HU.out.below hb); have HX := As.mk (HX.out.below hb); have HY := As.mk (HY.out.below hb); have HP1 := As.mk (HP1.out.below hb); have HP2 := As.mk (HP2.out.below hb); have HP3 := As.mk (HP3.out.below hb); have HSa := As.mk (HSa.out.below hb); have HB := As.mk (bstep HB.out hb); clear hb hS)
    | (go_at_call 24; refine (Same_calls _ _ (unionL t.toL u.toL) (unionL t.toL u.toL) _ HSa.out HSb.out (by have := unionL_length t.toL u.toL; omega)).mono ?_; rw [decide_eq_true rfl]; rintro e w9 ⟨rfl, hb⟩; have HT := As.mk (HT.out.below hb); have HU := As.mk (HU.out.below hb); have HX := As.mk (HX.out.below hb); have HY := As.mk (HY.out.below hb); have HP1 := As.mk (HP1.out.below hb); have HP2 := As.mk (HP2.out.below hb); have HP3 := As.mk (HP3.out.below hb); have HB := As.mk (bstep HB.out hb); clear hb HSa HSb)
    | (go_at_call_of 25 (Value.pointer p2); have _tok := TOKHSc; refine (All_calls p2 d1 _ HP2.out (by omega)).mono ?_; rintro e w8 ⟨va, rfl, hR, hb⟩; rw [T.all_toL _ HS2.out, HL2.out] at hR; have HSc := As.mk (Sl.of_R hR); have HT := As.mk (HT.out.below hb); have HU := As.mk (HU.out.below hb); have HX := As.mk (HX.out.below hb); have HY := As.mk (HY.out.below hb); have HP1 := As.mk (HP1.out.below hb); have HP2 := As.mk (HP2.out.below hb); have HP3 := As.mk (HP3.out.below hb); have HB := As.mk (bstep HB.out hb); clear hb hR TOKHSc)
    | (go_at_call 64; refine (RefMinus_calls _ _ t.toL u.toL _ HX.out HY.out (by omega)).mono ?_; rintro e w8 ⟨Aa, ca, rfl, hS, hb⟩; have HSd := As.mk hS; have HT := As.mk (HT.out.below hb); have HU := As.mk (HU.out.below hb); have HX := As.mk (HX.out.below hb); have HY := As.mk (HY.out.below hb); have HP1 := As.mk (HP1.out.below hb); have HP2 := As.mk (HP2.out.below hb); have HP3 := As.mk (HP3.out.below hb); have HSc := As.mk (HSc.out.below hb); have HB := As.mk (bstep HB.out hb); clear hb hS)
    | (go_at_call 24; refine (Same_calls _ _ (minusL t.toL u.toL) (minusL t.toL u.toL) _ HSc.out HSd.out (by have := minusL_length t.toL u.toL; omega)).mono ?_; rw [decide_eq_true rfl]; rintro e w9 ⟨rfl, hb⟩; have HT := As.mk (HT.out.below hb); have HU := As.mk (HU.out.below hb); have HX := As.mk (HX.out.below hb); have HY := As.mk (HY.out.below hb); have HP1 := As.mk (HP1.out.below hb); have HP2 := As.mk (HP2.out.below hb); have HP3 := As.mk (HP3.out.below hb); have HB := As.mk (bstep HB.out hb); clear hb HSc HSd)
    | (go_at_call_of 25 (Value.pointer p3); have _tok := TOKHSe; refine (All_calls p3 i1 _ HP3.out (by omega)).mono ?_; rintro e w8 ⟨va, rfl, hR, hb⟩; rw [T.all_toL _ HS3.out, HL3.out] at hR; have HSe := As.mk (Sl.of_R hR); have HT := As.mk (HT.out.below hb); have HU := As.mk (HU.out.below hb); have HX := As.mk (HX.out.below hb); have HY := As.mk (HY.out.below hb); have HP1 := As.mk (HP1.out.below hb); have HP2 := As.mk (HP2.out.below hb); have HP3 := As.mk (HP3.out.below hb); have HB := As.mk (bstep HB.out hb); clear hb hR TOKHSe)
    | (go_at_call 65; refine (RefBoth_calls _ _ t.toL u.toL _ HX.out HY.out (by omega)).mono ?_; rintro e w8 ⟨Aa, ca, rfl, hS, hb⟩; have HSf := As.mk hS; have HT := As.mk (HT.out.below hb); have HU := As.mk (HU.out.below hb); have HX := As.mk (HX.out.below hb); have HY := As.mk (HY.out.below hb); have HP1 := As.mk (HP1.out.below hb); have HP2 := As.mk (HP2.out.below hb); have HP3 := As.mk (HP3.out.below hb); have HSe := As.mk (HSe.out.below hb); have HB := As.mk (bstep HB.out hb); clear hb hS)
    | (go_at_call 24; refine (Same_calls _ _ (minusL t.toL (minusL t.toL u.toL)) (minusL t.toL (minusL t.toL u.toL)) _ HSe.out HSf.out (by have := minusL_length t.toL (minusL t.toL u.toL); omega)).mono ?_; rw [decide_eq_true rfl]; rintro e w9 ⟨rfl, hb⟩; have HT := As.mk (HT.out.below hb); have HU := As.mk (HU.out.below hb); have HX := As.mk (HX.out.below hb); have HY := As.mk (HY.out.below hb); have HP1 := As.mk (HP1.out.below hb); have HP2 := As.mk (HP2.out.below hb); have HP3 := As.mk (HP3.out.below hb); have HB := As.mk (bstep HB.out hb); clear hb HSe HSf)
    | (go_at_call_of 26 (Value.pointer p1); refine (Len_calls p1 u1 _ HP1.out).mono ?_; rintro e w9 ⟨rfl, rfl⟩)
    | (go_at_call_of 26 (Value.pointer p2); refine (Len_calls p2 d1 _ HP2.out).mono ?_; rintro e w9 ⟨rfl, rfl⟩)
    | (go_at_call_of 26 (Value.pointer p3); refine (Len_calls p3 i1 _ HP3.out).mono ?_; rintro e w9 ⟨rfl, rfl⟩)
    | (go_at_call_of 26 (Value.pointer p); refine (Len_calls p t _ HT.out).mono ?_; rintro e w9 ⟨rfl, rfl⟩)
    | (go_at_call_of 26 (Value.pointer q); refine (Len_calls q u _ HU.out).mono ?_; rintro e w9 ⟨rfl, rfl⟩)
    | (go_at_call_of 49 (Value.pointer p1); refine (shallow_calls p1 u1 _ HP1.out HB1'.out (by omega)).mono ?_; rintro e w9 ⟨rfl, hb⟩; have HP1 := As.mk (HP1.out.below hb); have HP2 := As.mk (HP2.out.below hb); have HP3 := As.mk (HP3.out.below hb); have HB := As.mk (bstep HB.out hb); clear hb)
    | (go_at_call_of 49 (Value.pointer p2); refine (shallow_calls p2 d1 _ HP2.out HB2'.out (by omega)).mono ?_; rintro e w9 ⟨rfl, hb⟩; have HP1 := As.mk (HP1.out.below hb); have HP2 := As.mk (HP2.out.below hb); have HP3 := As.mk (HP3.out.below hb); have HB := As.mk (bstep HB.out hb); clear hb)
    | (go_at_call_of 49 (Value.pointer p3); refine (shallow_calls p3 i1 _ HP3.out HB3'.out (by omega)).mono ?_; rintro e w9 ⟨rfl, hb⟩; have HP1 := As.mk (HP1.out.below hb); have HP2 := As.mk (HP2.out.below hb); have HP3 := As.mk (HP3.out.below hb); have HB := As.mk (bstep HB.out hb); clear hb)
    | (go_at_call 20; refine (awake_calls _).mono ?_; rintro e w15 ⟨rfl, hb⟩; have HBZ := As.mk (bstep HB.out hb); clear hb))
  all_goals (try (go_ret; exact ⟨rfl, HB2.out⟩))
  go_ret
  exact ⟨rfl, HBZ.out⟩

end Go.Proofs.Ytehnkoglhbbfjaa
