/-
  The law TreePlays: its walk.
-/
import Derived.Test.YtehnkoglhbbfjaaR2
namespace Go.Proofs.Ytehnkoglhbbfjaa
open Go.RowKit Go.Proofs.YtehnkoglhbbfjaaW.PrintWords Go.Proofs.YtehnkoglhbbfjaaW.PrintLast Go.Proofs.YtehnkoglhbbfjaaW.PrintMore PAll

set_option maxHeartbeats 4000000 in
set_option maxRecDepth 100000 in
theorem treePlays_calls (v : Value) (l : List S27) (w : World) (h : SlD w v l) : Calls Try.prog 7 #[v] w fun e w' => e = .returned (.bool true) ∧ Below w.heap.size w w' := by
  obtain ⟨A, c, rfl, hc, hC⟩ := h
  have HD : As (SlD w (.slice A l.length c) l) := ⟨A, c, rfl, hc, hC⟩
  have HC := As.mk hC
  have HS := As.mk (Short1 l A c w HD.out)
  have hB0 : Below w.heap.size w (w.alloc (.cells #[.slice A l.length c] 22)) := (Below.refl _ w).alloc (Nat.le_refl _) _
  have HB0 := As.mk hB0
  clear hC hc hB0
  go_enter Try.func7, Try.ntmps7
  go_wp2_with (first
    | (go_at_call 19; refine HS.out.mono ?_; rintro e w1 ⟨b, rfl, hle, hb⟩; have HB1 := As.mk (bstep HB0.out hb); have HLE := As.mk hle; clear hb hle; rcases b with _ | _)
    | (go_at_call 20; refine (awake_calls _).mono ?_; rintro e w2 ⟨rfl, hb⟩; have HB2 := As.mk (bstep HB1.out hb); clear hb)
    | (go_at_call 46; refine (New_calls w1).mono ?_; rintro e wn ⟨p0, rfl, ht0, hb⟩; have HTN := As.mk ht0; have HBN := As.mk hb; clear ht0 hb))
  · go_ret
    exact ⟨rfl, HB2.out⟩
  have hL : l.length ≤ 300 := HLE.out trivial
  have HC1 := As.mk (Kd.C_below HC.out HB1.out)
  clear HS HB0 HLE HC HD
  go_loopg [3, 4, 6, 7, 8, 9, 10, 19] l.length (fun m v3 v4 v6 v7 v8 v9 v10 v19 wr => ∃ (q : Option Addr) (k : Nat) (X : List S29), v3 = .pointer q ∧ v19 = .int .i64 k ∧ As (X = (T.play .nil (l.take k)).toL ∧ IsTr wr q (T.play .nil (l.take k)) ∧ Kd.R k29 29 wr w1.heap.size (fun _ => True) v4 X ∧ k ≤ l.length ∧ l.length - k ≤ m ∧ Below w1.heap.size w1 wr))
  case atStart => exact ⟨p0, 0, [], rfl, rfl, ⟨rfl, HTN.out, Kd.R_nil _ _ _ _ _, Nat.zero_le _, Nat.le_refl _, HBN.out⟩⟩
  case round =>
    obtain ⟨q, k, X, rfl, rfl, ⟨hX, hq, hR, hk, hm, hB⟩⟩ := hrel
    clear HTN HBN
    by_cases hlt : k < l.length
    · obtain ⟨ad, hA, hx0, hx1, hx2⟩ := at_T27 HC1.out (k : Int) (by omega) (by omega)
      subst hA
      have hts := take_snoc l z27 k hlt
      have hpl := T.play_append .nil (l.take k) [l.getD k z27]
      rw [← hts] at hpl
      have hsz := T.play_size .nil (l.take k)
      rw [List.length_take] at hsz
      simp only [T.size] at hsz
      have hsr := T.play_srt .nil (l.take k) srt_nil
      have hst := T.step_toL (T.play .nil (l.take k)) (l.getD k z27) hsr
      have hss := T.step_srt (T.play .nil (l.take k)) (l.getD k z27) hsr
      have hs2 := T.step_size (T.play .nil (l.take k)) (l.getD k z27)
      have hXl : X.length ≤ (T.play .nil (l.take k)).size := by rw [hX, T.toL_length]; exact Nat.le_refl _
      rw [← hX] at hst
      have hrd : rd_T27 l (k : Int) = l.getD k z27 := by unfold rd_T27; rw [Int.toNat_natCast]
      rw [hrd, Int.toNat_natCast] at hx0
      rw [hrd, Int.toNat_natCast] at hx1 hx2
      have hpl' : T.play .nil (l.take (k + 1)) = T.step (T.play .nil (l.take k)) (l.getD k z27) := hpl
      generalize l.getD k z27 = d at *
      generalize T.play .nil (l.take k) = TT at *
      have HP := As.mk hpl'
      have HX := As.mk hX
      have HSS := As.mk hss
      clear hts hpl hpl' hrd hsr hX hss
      obtain ⟨da, db, dc⟩ := d
      dsimp only at hx0 hx1 hx2
      have HSZ : As ((T.step TT ⟨da, db, dc⟩).size ≤ 301) := ⟨by omega⟩
      clear hs2
      replace hx0 := (hB.cell (World.block_lt_of_cell? w1 _ hx0)).trans hx0
      replace hx1 := (hB.cell (World.block_lt_of_cell? w1 _ hx1)).trans hx1
      replace hx2 := (hB.cell (World.block_lt_of_cell? w1 _ hx2)).trans hx2
      have p0 : 0 ≤ (k : Int) := by omega
      obtain ⟨Ax, cx, rfl⟩ := Kd.R_slice hR
      have HR := As.mk hR
      clear hR
      cases hop : T.isPut ⟨da, db, dc⟩
      case false =>
        have hop' : decide (bits BinOp.and IntKind.i64 da 7 < 6) = false := hop
        rw [hop] at hst
        obtain ⟨Y, hY⟩ : ∃ Y, Y = without db X := ⟨_, rfl⟩
        have HS := As.mk (show (T.step TT ⟨da, db, dc⟩).toL = Y from hst.trans hY.symm)
        have HY := As.mk hY
        clear hst hop hY
        have hyl : Y.length = (T.step TT ⟨da, db, dc⟩).size := by rw [← HS.out, T.toL_length]
        have hgt : T.get (T.step TT ⟨da, db, dc⟩) db = getL db Y := by rw [T.get_toL db _ HSS.out, HS.out]
        have HYL := As.mk hyl
        have HGT := As.mk hgt
        clear hyl hgt
        generalize hUU : T.step TT ⟨da, db, dc⟩ = UU at *
        generalize hgv : getL db Y = gv at *
        obtain ⟨gv1, gv2⟩ := gv
        have HGV := As.mk hgv
        have HUU := As.mk hUU
        clear hgv hUU
        go_wp2_with (first
          | ((with_reducible refine gate_dst (N := 6) rfl ?_); refine box_event ?hg (N := 6) ?hd (cs := #[.int .i64 0, .string (⟨#[]⟩ : ByteArray), .string (⟨#[]⟩ : ByteArray)]) (t := 27) ?hr ?_; (case hd => rfl); (case hg => rfl); (case hr => first | (go_simp; done) | (go_simp; rfl)); intro gd hg_gd w3 hx_gd hb_gd; have hB1 := bstep hB hb_gd; have GD := As.mk ((by rw [hg_gd]; exact hB.size) : w1.heap.size ≤ gd); have GQ := As.mk (Nat.le_of_eq hg_gd.symm); clear hg_gd; have x0 := (heap_cell hx_gd 0).trans rfl; have x1 := (heap_cell hx_gd 1).trans rfl; have x2 := (heap_cell hx_gd 2).trans rfl; have z0 := blk_frozen hx_gd 0; have z1 := blk_frozen hx_gd 1; have z2 := blk_frozen hx_gd 2)
          | (go_at_call 30; have hb2 := ((hb_gd.setCell (p := ⟨gd, 0, none⟩) GQ.out (.int .i64 da)).setCell (p := ⟨gd, 1, none⟩) GQ.out (.string db)).setCell (p := ⟨gd, 2, none⟩) GQ.out (.string dc); have hB2 := ((hB1.setCell (p := ⟨gd, 0, none⟩) GD.out (.int .i64 da)).setCell (p := ⟨gd, 1, none⟩) GD.out (.string db)).setCell (p := ⟨gd, 2, none⟩) GD.out (.string dc); have hx3 := blk_put (blk_put (blk_put hx_gd 0 (.int .i64 da) rfl) 1 (.string db) rfl) 2 (.string dc) rfl; refine (does_calls q TT ⟨da, db, dc⟩ _ (hq.below hb2) (by omega)).mono ?_; rintro e w3 ⟨p3, rfl, h3, hb3⟩; rw [HUU.out] at h3; have hx4 := blk_step hx3 hb3; have y0 := (heap_cell hx4 0).trans rfl; have y1 := (heap_cell hx4 1).trans rfl; have y2 := (heap_cell hx4 2).trans rfl; have hR3 := Kd.R_below (Kd.R_below HR.out hb2) hb3; have hB3 := bstep hB2 hb3; clear hb3 hx3 hb2 hB2)
          | (go_at_call 32; refine (Without_calls _ X db _ (Sl.of_R hR3) (by omega)).mono ?_; rintro e w5 ⟨v4, rfl, hR5, hb⟩; rw [← HY.out] at hR5; obtain ⟨A5, c5, rfl⟩ := Kd.R_slice hR5; have hx6 := blk_step hx4 hb; have y0 := (heap_cell hx6 0).trans rfl; have y1 := (heap_cell hx6 1).trans rfl; have y2 := (heap_cell hx6 2).trans rfl; have H5 := As.mk (h3.below hb); have HR5 := As.mk (Kd.R_lower hR5 hB3.size); have HB5 := As.mk (bstep hB3 hb); clear hb hR5 hR3 h3 hB3)
          | (go_at_call 47; refine (Get_calls p3 UU db _ H5.out).mono ?_; rintro e w6 ⟨rfl, rfl⟩; rw [HGT.out])
          | (go_at_call 48; refine (RefGet_calls _ Y db _ (Sl.of_R HR5.out) (by rw [HYL.out]; have := HSZ.out; omega)).mono ?_; rw [HGV.out]; rintro e w7 ⟨rfl, hb⟩; have H7 := As.mk (H5.out.below hb); have HR7 := As.mk (Kd.R_below HR5.out hb); have HB7 := As.mk (bstep HB5.out hb); clear hb)
          | (go_at_call 26; refine (Len_calls p3 UU _ H7.out).mono ?_; rintro e w8 ⟨rfl, rfl⟩; rw [← HYL.out]))
        go_roundg (l.length - (k + 1))
        case measure => omega
        case rel => exact ⟨p3, k + 1, _, rfl, by go_num, ⟨by rw [HP.out, HS.out], by rw [HP.out]; exact H7.out, HR7.out, by omega, Nat.le_refl _, HB7.out⟩⟩
      case true =>
        have hop' : decide (bits BinOp.and IntKind.i64 da 7 < 6) = true := hop
        rw [hop] at hst
        obtain ⟨Y, hY⟩ : ∃ Y, Y = withP ⟨db, dc⟩ X := ⟨_, rfl⟩
        have HS := As.mk (show (T.step TT ⟨da, db, dc⟩).toL = Y from hst.trans hY.symm)
        have HY := As.mk hY
        clear hst hop hY
        have hyl : Y.length = (T.step TT ⟨da, db, dc⟩).size := by rw [← HS.out, T.toL_length]
        have hgt : T.get (T.step TT ⟨da, db, dc⟩) db = getL db Y := by rw [T.get_toL db _ HSS.out, HS.out]
        have HYL := As.mk hyl
        have HGT := As.mk hgt
        clear hyl hgt
        generalize hUU : T.step TT ⟨da, db, dc⟩ = UU at *
        generalize hgv : getL db Y = gv at *
        obtain ⟨gv1, gv2⟩ := gv
        have HGV := As.mk hgv
        have HUU := As.mk hUU
        clear hgv hUU
        go_wp2_with (first
          | ((with_reducible refine gate_dst (N := 6) rfl ?_); refine box_event ?hg (N := 6) ?hd (cs := #[.int .i64 0, .string (⟨#[]⟩ : ByteArray), .string (⟨#[]⟩ : ByteArray)]) (t := 27) ?hr ?_; (case hd => rfl); (case hg => rfl); (case hr => first | (go_simp; done) | (go_simp; rfl)); intro gd hg_gd w3 hx_gd hb_gd; have hB1 := bstep hB hb_gd; have GD := As.mk ((by rw [hg_gd]; exact hB.size) : w1.heap.size ≤ gd); have GQ := As.mk (Nat.le_of_eq hg_gd.symm); clear hg_gd; have x0 := (heap_cell hx_gd 0).trans rfl; have x1 := (heap_cell hx_gd 1).trans rfl; have x2 := (heap_cell hx_gd 2).trans rfl; have z0 := blk_frozen hx_gd 0; have z1 := blk_frozen hx_gd 1; have z2 := blk_frozen hx_gd 2)
          | (go_at_call 30; have hb2 := ((hb_gd.setCell (p := ⟨gd, 0, none⟩) GQ.out (.int .i64 da)).setCell (p := ⟨gd, 1, none⟩) GQ.out (.string db)).setCell (p := ⟨gd, 2, none⟩) GQ.out (.string dc); have hB2 := ((hB1.setCell (p := ⟨gd, 0, none⟩) GD.out (.int .i64 da)).setCell (p := ⟨gd, 1, none⟩) GD.out (.string db)).setCell (p := ⟨gd, 2, none⟩) GD.out (.string dc); have hx3 := blk_put (blk_put (blk_put hx_gd 0 (.int .i64 da) rfl) 1 (.string db) rfl) 2 (.string dc) rfl; refine (does_calls q TT ⟨da, db, dc⟩ _ (hq.below hb2) (by omega)).mono ?_; rintro e w3 ⟨p3, rfl, h3, hb3⟩; rw [HUU.out] at h3; have hx4 := blk_step hx3 hb3; have y0 := (heap_cell hx4 0).trans rfl; have y1 := (heap_cell hx4 1).trans rfl; have y2 := (heap_cell hx4 2).trans rfl; have hR3 := Kd.R_below (Kd.R_below HR.out hb2) hb3; have hB3 := bstep hB2 hb3; clear hb3 hx3 hb2 hB2)
          | (go_at_call 21; refine (pair_calls db dc _).mono ?_; rintro e w4 ⟨rfl, hb⟩; have h4 := h3.below hb; have hRx := Kd.R_below hR3 hb; have hx5 := blk_step hx4 hb; have y0 := (heap_cell hx5 0).trans rfl; have y1 := (heap_cell hx5 1).trans rfl; have y2 := (heap_cell hx5 2).trans rfl; have hB4 := bstep hB3 hb; clear hb hR3 h3 hB3)
          | (go_at_call 31; refine (With_calls _ X db dc _ (Sl.of_R hRx) (by omega)).mono ?_; rintro e w5 ⟨v4, rfl, hR5, hb⟩; rw [← HY.out] at hR5; obtain ⟨A5, c5, rfl⟩ := Kd.R_slice hR5; have hx6 := blk_step hx5 hb; have y0 := (heap_cell hx6 0).trans rfl; have y1 := (heap_cell hx6 1).trans rfl; have y2 := (heap_cell hx6 2).trans rfl; have H5 := As.mk (h4.below hb); have HR5 := As.mk (Kd.R_lower hR5 hB4.size); have HB5 := As.mk (bstep hB4 hb); clear hb hR5 hRx h4 hB4)
          | (go_at_call 47; refine (Get_calls p3 UU db _ H5.out).mono ?_; rintro e w6 ⟨rfl, rfl⟩; rw [HGT.out])
          | (go_at_call 48; refine (RefGet_calls _ Y db _ (Sl.of_R HR5.out) (by rw [HYL.out]; have := HSZ.out; omega)).mono ?_; rw [HGV.out]; rintro e w7 ⟨rfl, hb⟩; have H7 := As.mk (H5.out.below hb); have HR7 := As.mk (Kd.R_below HR5.out hb); have HB7 := As.mk (bstep HB5.out hb); clear hb)
          | (go_at_call 26; refine (Len_calls p3 UU _ H7.out).mono ?_; rintro e w8 ⟨rfl, rfl⟩; rw [← HYL.out]))
        go_roundg (l.length - (k + 1))
        case measure => omega
        case rel => exact ⟨p3, k + 1, _, rfl, by go_num, ⟨by rw [HP.out, HS.out], by rw [HP.out]; exact H7.out, HR7.out, by omega, Nat.le_refl _, HB7.out⟩⟩
    · obtain rfl : k = l.length := by omega
      rw [List.take_length] at hq hX
      obtain ⟨Ax, cx, rfl⟩ := Kd.R_slice hR
      have hsz := T.play_size .nil l
      simp only [T.size] at hsz
      have hall : (T.play .nil l).all = X := by rw [T.all_toL _ (T.play_srt .nil l srt_nil), hX]
      have hxl : X.length = (T.play .nil l).size := by rw [hX, T.toL_length]
      generalize T.play .nil l = TT at *
      have HAL := As.mk hall
      have HXL := As.mk hxl
      have HR := As.mk (Sl.of_R hR)
      have HB := As.mk hB
      have HQ := As.mk hq
      clear hR hX hB hq hall hxl
      go_wp2_with (first
        | (go_at_call 25; refine (All_calls q TT _ HQ.out (by omega)).mono ?_; rintro e w7 ⟨v59, rfl, hR7, hb⟩; rw [HAL.out] at hR7; have HS7 := As.mk (Sl.of_R hR7); have HR7 := As.mk (HR.out.below hb); have HB7 := As.mk (bstep HB.out hb); clear hb hR7)
        | (go_at_call 24; refine (Same_calls _ _ X X _ HS7.out HR7.out ?hs).mono ?_; (case hs => have := HXL.out; omega); rw [decide_eq_true rfl]; rintro e w8 ⟨rfl, hb⟩; have HB8 := As.mk (bstep HB7.out hb); clear hb)
        | (go_at_call 20; refine (awake_calls _).mono ?_; rintro e w9 ⟨rfl, hb⟩; have HB9 := As.mk (bstep HB8.out hb); clear hb))
      go_ret
      exact ⟨rfl, bstep HB1.out HB9.out⟩

end Go.Proofs.Ytehnkoglhbbfjaa
