/-
  The law TreeStays: its walk.
-/
import Derived.Test.YtehnkoglhbbfjaaR2
namespace Go.Proofs.Ytehnkoglhbbfjaa
open Go.RowKit Go.Proofs.YtehnkoglhbbfjaaW.PrintWords Go.Proofs.YtehnkoglhbbfjaaW.PrintLast Go.Proofs.YtehnkoglhbbfjaaW.PrintMore PAll

set_option maxHeartbeats 1000000 in
set_option maxRecDepth 100000 in
theorem treeStays_calls (v : Value) (l : List S27) (v' : Value) (m : List S27) (w : World) (h : SlD w v l) (h' : SlD w v' m) :
    Calls Try.prog 13 #[v, v'] w fun e w' => e = .returned (.bool true) ∧ Below w.heap.size w w' := by
  obtain ⟨A, c, rfl, hc, hC⟩ := h
  obtain ⟨B, d, rfl, hc', hC'⟩ := h'
  have HD : As (SlD w (.slice A l.length c) l) := ⟨A, c, rfl, hc, hC⟩
  have HE : As (SlD w (.slice B m.length d) m) := ⟨B, d, rfl, hc', hC'⟩
  have HC' := As.mk hC'
  have HS := As.mk (Short2 l m A B c d w HD.out HE.out)
  have hB0 : Below w.heap.size w (w.alloc (.cells #[.slice A l.length c, .slice B m.length d] 22)) := (Below.refl _ w).alloc (Nat.le_refl _) _
  have HB0 := As.mk hB0
  clear hC hc hC' hc' hB0
  go_enter Try.func13, Try.ntmps13
  go_wp2_with (first
    | (go_at_call 19; refine HS.out.mono ?_; rintro e w1 ⟨b, rfl, hle, hb⟩; have HB1 := As.mk (bstep HB0.out hb); have HLE := As.mk hle; clear hb hle; rcases b with _ | _)
    | (go_at_call 20; refine (awake_calls _).mono ?_; rintro e w2 ⟨rfl, hb⟩; have HB2 := As.mk (bstep HB1.out hb); clear hb)
    | (go_at_call 27; refine (Made_calls _ l _ (HD.out.below HB1.out) (HLE.out trivial).1).mono ?_; rintro e w3 ⟨p, Ax, cx, t, rfl, -, hts, htl, hT, hR, hb⟩; have HT := As.mk hT; have HX := As.mk (Sl.of_R hR); have HB3 := As.mk (bstep HB1.out hb); have HTL := As.mk htl; clear hT hR hb htl))
  · go_ret
    exact ⟨rfl, HB2.out⟩
  have hL : m.length ≤ 300 := (HLE.out trivial).2
  have HC3 := As.mk (Kd.C_below HC'.out HB3.out)
  have HALL := As.mk (T.all_toL t HTL.out)
  have hxl : t.toL.length ≤ 300 := by rw [T.toL_length]; exact hts
  clear HS HB0 HLE HC' HD HE
  go_loopg [7, 9, 24] m.length (fun mm v7 v9 v24 wr => ∃ (q : Option Addr) (k : Nat) (U : T), v7 = .pointer q ∧ v24 = .int .i64 k ∧ As (IsTr wr q U ∧ U.size ≤ 300 + k ∧ k ≤ m.length ∧ m.length - k ≤ mm ∧ Below w3.heap.size w3 wr))
  case atStart => exact ⟨p, 0, t, rfl, rfl, ⟨HT.out, hts, Nat.zero_le _, Nat.le_refl _, Below.refl _ _⟩⟩
  case round =>
    obtain ⟨q, k, U, rfl, rfl, ⟨hq, hU, hk, hm, hB⟩⟩ := hrel
    by_cases hlt : k < m.length
    · obtain ⟨ad, hA, hx0, hx1, hx2⟩ := at_T27 HC3.out (k : Int) (by omega) (by omega)
      subst hA
      have hrd : rd_T27 m (k : Int) = m.getD k z27 := by unfold rd_T27; rw [Int.toNat_natCast]
      rw [hrd, Int.toNat_natCast] at hx0
      rw [hrd, Int.toNat_natCast] at hx1 hx2
      clear hrd
      generalize m.getD k z27 = d at *
      obtain ⟨da, db, dc⟩ := d
      dsimp only at hx0 hx1 hx2
      replace hx0 := (hB.cell (World.block_lt_of_cell? w3 _ hx0)).trans hx0
      replace hx1 := (hB.cell (World.block_lt_of_cell? w3 _ hx1)).trans hx1
      replace hx2 := (hB.cell (World.block_lt_of_cell? w3 _ hx2)).trans hx2
      have p0 : 0 ≤ (k : Int) := by omega
      have hs2 := T.step_size U ⟨da, db, dc⟩
      go_wp2_with (first
        | ((with_reducible refine gate_dst (N := 9) rfl ?_); refine box_event ?hg (N := 9) ?hd (cs := #[.int .i64 0, .string (⟨#[]⟩ : ByteArray), .string (⟨#[]⟩ : ByteArray)]) (t := 27) ?hr ?_; (case hd => rfl); (case hg => rfl); (case hr => first | (go_simp; done) | (go_simp; rfl)); intro gd hg_gd w4 hx_gd hb_gd; have hB1 := bstep hB hb_gd; have GD := As.mk ((by rw [hg_gd]; exact hB.size) : w3.heap.size ≤ gd); have GQ := As.mk (Nat.le_of_eq hg_gd.symm); clear hg_gd; have x0 := (heap_cell hx_gd 0).trans rfl; have x1 := (heap_cell hx_gd 1).trans rfl; have x2 := (heap_cell hx_gd 2).trans rfl; have z0 := blk_frozen hx_gd 0; have z1 := blk_frozen hx_gd 1; have z2 := blk_frozen hx_gd 2)
        | (go_at_call 30; have hb2 := ((hb_gd.setCell (p := ⟨gd, 0, none⟩) GQ.out (.int .i64 da)).setCell (p := ⟨gd, 1, none⟩) GQ.out (.string db)).setCell (p := ⟨gd, 2, none⟩) GQ.out (.string dc); have hB2 := ((hB1.setCell (p := ⟨gd, 0, none⟩) GD.out (.int .i64 da)).setCell (p := ⟨gd, 1, none⟩) GD.out (.string db)).setCell (p := ⟨gd, 2, none⟩) GD.out (.string dc); have hx3 := blk_put (blk_put (blk_put hx_gd 0 (.int .i64 da) rfl) 1 (.string db) rfl) 2 (.string dc) rfl; refine (does_calls q U ⟨da, db, dc⟩ _ (hq.below hb2) (by omega)).mono ?_; rintro e w5 ⟨p3, rfl, h3, hb3⟩; have hx := blk_step hx3 hb3; have y0 := (heap_cell hx 0).trans rfl; have y1 := (heap_cell hx 1).trans rfl; have y2 := (heap_cell hx 2).trans rfl; have HU := As.mk h3; have HB := As.mk (bstep hB2 hb3); clear hb3 hx3 hb2 hB2 h3)
        | (go_at_call 50; refine (Split_calls p t db _ (HT.out.below HB.out) (by omega)).mono ?_; rintro e w6 ⟨s1, s2, rfl, -, -, hb⟩; have HU := As.mk (HU.out.below hb); have HB := As.mk (bstep HB.out hb); clear hb)
        | (go_at_call 58; refine (Union_calls p p3 t _ _ (HT.out.below HB.out) HU.out (by omega)).mono ?_; rintro e w7 ⟨s3, u3, rfl, -, -, hb⟩; have HU := As.mk (HU.out.below hb); have HB := As.mk (bstep HB.out hb); clear hb)
        | (go_at_call 59; refine (Both_calls p3 p _ t _ HU.out (HT.out.below HB.out) (by omega)).mono ?_; rintro e w8 ⟨s4, u4, rfl, -, -, hb⟩; have HU := As.mk (HU.out.below hb); have HB := As.mk (bstep HB.out hb); clear hb)
        | (go_at_call 25; refine (All_calls p t _ (HT.out.below HB.out) (by omega)).mono ?_; rintro e w9 ⟨v42, rfl, hR9, hb⟩; rw [HALL.out] at hR9; have HS9 := As.mk (Sl.of_R hR9); have HU := As.mk (HU.out.below hb); have HB := As.mk (bstep HB.out hb); clear hb hR9)
        | (go_at_call 24; refine (Same_calls _ _ t.toL t.toL _ HS9.out (HX.out.below HB.out) (by omega)).mono ?_; rw [decide_eq_true rfl]; rintro e w10 ⟨rfl, hb⟩; have HU := As.mk (HU.out.below hb); have HB := As.mk (bstep HB.out hb); clear hb))
      go_roundg (m.length - (k + 1))
      case measure => omega
      case rel => exact ⟨p3, k + 1, _, rfl, by go_num, ⟨HU.out, by omega, by omega, Nat.le_refl _, HB.out⟩⟩
    · have HB := As.mk hB
      have HTLN := As.mk (T.toL_length t)
      clear hB hq
      go_wp2_with (first
        | (go_at_call 26; refine (Len_calls p t _ (HT.out.below HB.out)).mono ?_; rintro e w9 ⟨rfl, rfl⟩; rw [← HTLN.out])
        | (go_at_call 20; refine (awake_calls _).mono ?_; rintro e w9 ⟨rfl, hb⟩; have HB9 := As.mk (bstep HB.out hb); clear hb))
      go_ret
      exact ⟨rfl, bstep HB3.out HB9.out⟩

end Go.Proofs.Ytehnkoglhbbfjaa
