/-
  The law TreeScans: its walk.
-/
import Derived.Test.YtehnkoglhbbfjaaR2
namespace Go.Proofs.Ytehnkoglhbbfjaa
open Go.RowKit Go.Proofs.YtehnkoglhbbfjaaW.PrintWords Go.Proofs.YtehnkoglhbbfjaaW.PrintLast Go.Proofs.YtehnkoglhbbfjaaW.PrintMore PAll

set_option maxHeartbeats 4000000 in
set_option maxRecDepth 100000 in
theorem treeScans_calls (v : Value) (l : List S27) (fr tt : ByteArray) (most : Int) (w : World) (h : SlD w v l) :
    Calls Try.prog 4 #[v, .string fr, .string tt, .int .i64 most] w fun e w' => e = .returned (.bool true) ∧ Below w.heap.size w w' := by
  obtain ⟨A, c, rfl, hc, hC⟩ := h
  have HD : As (SlD w (.slice A l.length c) l) := ⟨A, c, rfl, hc, hC⟩
  have HC := As.mk hC
  have HS := As.mk (Short1 l A c w HD.out)
  have hB0 : Below w.heap.size w (w.alloc (.cells #[.slice A l.length c] 22)) := (Below.refl _ w).alloc (Nat.le_refl _) _
  have HB0 := As.mk hB0
  clear hC hc hB0
  go_enter Try.func4, Try.ntmps4
  go_wp2_with (first
    | (go_at_call 19; refine HS.out.mono ?_; rintro e w1 ⟨b, rfl, hle, hb⟩; have HB1 := As.mk (bstep HB0.out hb); have HLE := As.mk hle; clear hb hle; rcases b with _ | _; (first | (have := HLE.out trivial; by_cases hf : 16384 < fr.size <;> by_cases ht : 16384 < tt.size) | skip))
    | (go_at_call 20; refine (awake_calls _).mono ?_; rintro e w2 ⟨rfl, hb⟩; have HB2 := As.mk (bstep HB1.out hb); clear hb)
    | (go_at_call 27; refine (Made_calls _ l _ (HD.out.below HB1.out) (HLE.out trivial)).mono ?_; rintro e w3 ⟨p, Ax, cx, t, rfl, -, hts, htl, hT, hR, hb⟩; have HT := As.mk hT; have HX := As.mk (Sl.of_R hR); have HB3 := As.mk (bstep HB1.out hb); have HTL := As.mk htl; clear hT hR hb htl)
    | (go_at_call 28; refine (Scan_calls p t fr tt most w3 HT.out (by omega)).mono ?_; rintro e w4 ⟨vg, rfl, hR4, hb4⟩; have hsl := T.scan_length fr tt most t []; rw [T.scan_toL fr tt most t HTL.out []] at hR4 hsl; obtain ⟨G, hG⟩ : ∃ G, G = scanL fr tt most [] t.toL := ⟨_, rfl⟩; rw [← hG] at hR4 hsl; have hGL : G.length ≤ 300 := (by simp only [List.length_nil] at hsl; omega); clear hsl; have HO4 := As.mk (OwnB.of_R hR4); have HG4 := As.mk (Sl.of_R hR4); obtain ⟨Ag, cg, rfl⟩ := Kd.R_slice hR4; have HG := As.mk hG; have HX4 := As.mk (HX.out.below hb4); have HB4 := As.mk hb4; clear hR4 hG hb4)
    | (go_at_call 29; refine (RefScan_calls _ t.toL fr tt most _ HX4.out (by rw [T.toL_length]; omega)).mono ?_; rintro e w5 ⟨vr, rfl, hR5, hb5⟩; rw [← HG.out] at hR5; have HR5 := As.mk (Sl.of_R hR5); have HO5 := As.mk (HO4.out.below hb5); have HG5 := As.mk (HG4.out.below hb5); have HB5 := As.mk (bstep HB4.out hb5); clear hR5 hb5)
    | (go_at_call 24; refine (Same_calls _ _ G G _ HG5.out HR5.out ?hs).mono ?_; (case hs => omega); rw [decide_eq_true rfl]; rintro e w6 ⟨rfl, hb⟩; have HO6 := As.mk (HO5.out.below hb); have HB6 := As.mk (bstep HB5.out hb); clear hb))
  all_goals (try (go_ret; exact ⟨rfl, HB2.out⟩))
  go_loopg [13, 48] G.length (fun m v13 v48 wr => ∃ (k : Nat), v48 = .int .i64 k ∧ As (OwnB wr w3.heap.size (.slice Ag G.length cg) G.length ∧ k ≤ G.length ∧ G.length - k ≤ m ∧ Below w3.heap.size w3 wr))
  case atStart => exact ⟨0, rfl, ⟨HO6.out, Nat.zero_le _, Nat.le_refl _, HB6.out⟩⟩
  case round =>
    obtain ⟨k, rfl, ⟨hO, hk, hm, hB⟩⟩ := hrel
    by_cases hlt : k < G.length
    · rcases hO with ⟨-, hn⟩ | ⟨g, cap, cur, hv, hbase, hg, hn⟩
      · omega
      injection hv with hv1 _ hv3
      subst hv1 hv3
      obtain ⟨cv, hcv⟩ : ∃ cv, cur[k * 2]? = some cv := ⟨_, Array.getElem?_eq_getElem (by omega)⟩
      have x0 : wr.cell? ⟨g, k * 2, none⟩ = some cv := (heap_cell hg (k * 2)).trans hcv
      have z0 := blk_frozen hg (k * 2)
      have HN := As.mk (And.intro (OwnB.put (cap := cg) hbase hg hn (k * 2) (.string ⟨#[63]⟩) (by omega)) (hB.setCell (p := ⟨g, k * 2, none⟩) hbase (.string ⟨#[63]⟩)))
      have p0 : 0 ≤ (k : Int) := by omega
      clear hg hn hB hcv
      go_wp2
      go_roundg (G.length - (k + 1))
      case measure => omega
      case rel => exact ⟨k + 1, by go_num, ⟨HN.out.1, by omega, Nat.le_refl _, HN.out.2⟩⟩
    · have HBB := As.mk hB
      clear hB hO
      have hall : t.all = t.toL := T.all_toL _ HTL.out
      have HAL := As.mk hall
      clear hall
      go_wp2_with (first
        | (go_at_call 25; refine (All_calls p t _ (HT.out.below HBB.out) (by omega)).mono ?_; rintro e w7 ⟨v59, rfl, hR7, hb⟩; rw [HAL.out] at hR7; have HS7 := As.mk (Sl.of_R hR7); have HB7 := As.mk (bstep HBB.out hb); clear hb hR7)
        | (go_at_call 24; refine (Same_calls _ _ t.toL t.toL _ HS7.out (HX.out.below HB7.out) (by rw [T.toL_length]; omega)).mono ?_; rw [decide_eq_true rfl]; rintro e w8 ⟨rfl, hb⟩; have HB8 := As.mk (bstep HB7.out hb); clear hb)
        | (go_at_call 20; refine (awake_calls _).mono ?_; rintro e w9 ⟨rfl, hb⟩; have HB9 := As.mk (bstep HB8.out hb); clear hb))
      go_ret
      exact ⟨rfl, bstep HB3.out HB9.out⟩

end Go.Proofs.Ytehnkoglhbbfjaa
