/-
  The law TreeDiffs: its walk.
-/
import Derived.Test.YtehnkoglhbbfjaaT17
set_option linter.unusedVariables false
set_option linter.unusedSimpArgs false
namespace Go.Proofs.Ytehnkoglhbbfjaa
open Go.RowKit Go.Proofs.YtehnkoglhbbfjaaW.PrintWords Go.Proofs.YtehnkoglhbbfjaaW.PrintLast Go.Proofs.YtehnkoglhbbfjaaW.PrintMore PAll

set_option maxHeartbeats 4000000 in
set_option maxRecDepth 100000 in
theorem treeDiffs_calls (v : Value) (l : List S27) (v' : Value) (m : List S27) (v'' : Value) (n : List S27) (w : World) (h : SlD w v l) (h' : SlD w v' m) (h'' : SlD w v'' n) :
    Calls Try.prog 5 #[v, v', v''] w fun e w' => e = .returned (.bool true) ∧ Below w.heap.size w w' := by
  obtain ⟨A, c, rfl, hc, hC⟩ := h
  obtain ⟨B, d, rfl, hc', hC'⟩ := h'
  obtain ⟨C, f, rfl, hc'', hC''⟩ := h''
  have HD : As (SlD w (.slice A l.length c) l) := ⟨A, c, rfl, hc, hC⟩
  have HE : As (SlD w (.slice B m.length d) m) := ⟨B, d, rfl, hc', hC'⟩
  have HF : As (SlD w (.slice C n.length f) n) := ⟨C, f, rfl, hc'', hC''⟩
  have HCn := As.mk hC''
  have HS := As.mk (Short3 l m n A B C c d f w HD.out HE.out HF.out)
  have hB0 : Below w.heap.size w (w.alloc (.cells #[.slice A l.length c, .slice B m.length d, .slice C n.length f] 22)) := (Below.refl _ w).alloc (Nat.le_refl _) _
  have HB0 := As.mk hB0
  clear hC hc hC' hc' hC'' hc'' hB0
  go_enter Try.func5, Try.ntmps5
  go_wp2_with (first
    | (go_at_call 19; refine HS.out.mono ?_; rintro e w1 ⟨b, rfl, hle, hb⟩; have HB1 := As.mk (bstep HB0.out hb); have HLE := As.mk hle; clear hb hle; rcases b with _ | _)
    | (go_at_call 20; refine (awake_calls _).mono ?_; rintro e w2 ⟨rfl, hb⟩; have HB2 := As.mk (bstep HB1.out hb); clear hb)
    | (go_at_call_of 27 (Value.slice A l.length c); refine (Made_calls _ l _ (HD.out.below HB1.out) (HLE.out trivial).1).mono ?_; rintro e w3 ⟨p, Ax, cx, t, rfl, -, hts, htl, hT, hR, hb⟩; have HT := As.mk hT; have HX := As.mk (Sl.of_R hR); have HB := As.mk (bstep HB1.out hb); have HTL := As.mk htl; have hxl : t.toL.length ≤ 300 := (by rw [T.toL_length]; exact hts); clear hT hR hb htl)
    | (go_at_call_of 27 (Value.slice B m.length d); refine (Made_calls _ m _ (HE.out.below HB.out) (HLE.out trivial).2.1).mono ?_; rintro e w4 ⟨q, Ay, cy, u, rfl, -, hus, hul, hT, hR, hb⟩; have HU := As.mk hT; have HY := As.mk (Sl.of_R hR); have HT := As.mk (HT.out.below hb); have HX := As.mk (HX.out.below hb); have HB := As.mk (bstep HB.out hb); have HUL := As.mk hul; have hyl : u.toL.length ≤ 300 := (by rw [T.toL_length]; exact hus); clear hT hR hb hul))
  · go_ret
    exact ⟨rfl, HB2.out⟩
  have hL : n.length ≤ 300 := (HLE.out trivial).2.2
  have HC := As.mk (Kd.C_below HCn.out HB.out)
  clear HS HB0 HLE HCn HD HE HF HB1
  go_loopg [11, 12, 14, 39] n.length (fun mm v11 v12 v14 v39 wr => ∃ (q1 : Option Addr) (k : Nat) (X : List S29), v11 = .pointer q1 ∧ v39 = .int .i64 k ∧ As (X = (T.play t (n.take k)).toL ∧ IsTr wr q1 (T.play t (n.take k)) ∧ Sl wr v12 X ∧ k ≤ n.length ∧ n.length - k ≤ mm ∧ Below w4.heap.size w4 wr))
  case atStart => exact ⟨p, 0, t.toL, rfl, rfl, ⟨rfl, HT.out, HX.out, Nat.zero_le _, Nat.le_refl _, Below.refl _ _⟩⟩
  case round =>
    obtain ⟨q1, k, X, rfl, rfl, ⟨hX, hq, hR, hk, hm, hB⟩⟩ := hrel
    by_cases hlt : k < n.length
    · obtain ⟨ad, hA, hx0, hx1, hx2⟩ := at_T27 HC.out (k : Int) (by omega) (by omega)
      subst hA
      have hts := take_snoc n z27 k hlt
      have hpl := T.play_append t (n.take k) [n.getD k z27]
      rw [← hts] at hpl
      have hsz := T.play_size t (n.take k)
      rw [List.length_take] at hsz
      have hsr := T.play_srt t (n.take k) HTL.out
      have hst := T.step_toL (T.play t (n.take k)) (n.getD k z27) hsr
      have hXl : X.length ≤ (T.play t (n.take k)).size := by rw [hX, T.toL_length]; exact Nat.le_refl _
      rw [← hX] at hst
      have hrd : rd_T27 n (k : Int) = n.getD k z27 := by unfold rd_T27; rw [Int.toNat_natCast]
      rw [hrd, Int.toNat_natCast] at hx0
      rw [hrd, Int.toNat_natCast] at hx1 hx2
      have hpl' : T.play t (n.take (k + 1)) = T.step (T.play t (n.take k)) (n.getD k z27) := hpl
      generalize n.getD k z27 = dd at *
      generalize T.play t (n.take k) = TT at *
      have HP := As.mk hpl'
      clear hts hpl hpl' hrd hsr hX
      obtain ⟨da, db, dc⟩ := dd
      dsimp only at hx0 hx1 hx2
      replace hx0 := (hB.cell (World.block_lt_of_cell? w4 _ hx0)).trans hx0
      replace hx1 := (hB.cell (World.block_lt_of_cell? w4 _ hx1)).trans hx1
      replace hx2 := (hB.cell (World.block_lt_of_cell? w4 _ hx2)).trans hx2
      have p0 : 0 ≤ (k : Int) := by omega
      have HR := As.mk hR
      obtain ⟨Az, cz, rfl, -, -⟩ := hR
      cases hop : T.isPut ⟨da, db, dc⟩
      case false =>
        have hop' : decide (bits BinOp.and IntKind.i64 da 7 < 6) = false := hop
        rw [hop] at hst
        have HS := As.mk (show (T.step TT ⟨da, db, dc⟩).toL = without db X from hst)
        clear hst hop
        go_wp2_with (first
          | ((with_reducible refine gate_dst (N := 14) rfl ?_); refine box_event ?hg (N := 14) ?hd (cs := #[.int .i64 0, .string (⟨#[]⟩ : ByteArray), .string (⟨#[]⟩ : ByteArray)]) (t := 27) ?hr ?_; (case hd => rfl); (case hg => rfl); (case hr => first | (go_simp; done) | (go_simp; rfl)); intro gd hg_gd w5 hx_gd hb_gd; have hB1 := bstep hB hb_gd; have GD := As.mk ((by rw [hg_gd]; exact hB.size) : w4.heap.size ≤ gd); have GQ := As.mk (Nat.le_of_eq hg_gd.symm); clear hg_gd; have x0 := (heap_cell hx_gd 0).trans rfl; have z0 := blk_frozen hx_gd 0; have x1 := (heap_cell hx_gd 1).trans rfl; have z1 := blk_frozen hx_gd 1; have x2 := (heap_cell hx_gd 2).trans rfl; have z2 := blk_frozen hx_gd 2)
          | (go_at_call 30; have hb2 := (((hb_gd.setCell (p := ⟨gd, 0, none⟩) GQ.out (.int .i64 da)).setCell (p := ⟨gd, 1, none⟩) GQ.out (.string db)).setCell (p := ⟨gd, 2, none⟩) GQ.out (.string dc)); have hB2 := (((hB1.setCell (p := ⟨gd, 0, none⟩) GD.out (.int .i64 da)).setCell (p := ⟨gd, 1, none⟩) GD.out (.string db)).setCell (p := ⟨gd, 2, none⟩) GD.out (.string dc)); have hx3 := (blk_put (blk_put (blk_put hx_gd 0 (.int .i64 da) rfl) 1 (.string db) rfl) 2 (.string dc) rfl); refine (does_calls q1 TT ⟨da, db, dc⟩ _ (hq.below hb2) (by omega)).mono ?_; rintro e w3 ⟨p3, rfl, h3, hb3⟩; have hx4 := blk_step hx3 hb3; have y0 := (heap_cell hx4 0).trans rfl; have y1 := (heap_cell hx4 1).trans rfl; have y2 := (heap_cell hx4 2).trans rfl; have hR3 := (HR.out.below hb2).below hb3; have hB3 := bstep hB2 hb3; clear hb3 hx3 hb2 hB2)
          | (go_at_call 32; refine (Without_calls _ X db _ hR3 (by omega)).mono ?_; rintro e w6 ⟨v4, rfl, hR4, hb4⟩; have h4 := h3.below hb4; have hB4 := bstep hB3 hb4; replace hR4 := Sl.of_R hR4))
        go_roundg (n.length - (k + 1))
        case measure => omega
        case rel => exact ⟨p3, k + 1, _, rfl, by go_num, ⟨by rw [HP.out, HS.out], by rw [HP.out]; exact h4, hR4, by omega, Nat.le_refl _, hB4⟩⟩
      case true =>
        have hop' : decide (bits BinOp.and IntKind.i64 da 7 < 6) = true := hop
        rw [hop] at hst
        have HS := As.mk (show (T.step TT ⟨da, db, dc⟩).toL = withP ⟨db, dc⟩ X from hst)
        clear hst hop
        go_wp2_with (first
          | ((with_reducible refine gate_dst (N := 14) rfl ?_); refine box_event ?hg (N := 14) ?hd (cs := #[.int .i64 0, .string (⟨#[]⟩ : ByteArray), .string (⟨#[]⟩ : ByteArray)]) (t := 27) ?hr ?_; (case hd => rfl); (case hg => rfl); (case hr => first | (go_simp; done) | (go_simp; rfl)); intro gd hg_gd w5 hx_gd hb_gd; have hB1 := bstep hB hb_gd; have GD := As.mk ((by rw [hg_gd]; exact hB.size) : w4.heap.size ≤ gd); have GQ := As.mk (Nat.le_of_eq hg_gd.symm); clear hg_gd; have x0 := (heap_cell hx_gd 0).trans rfl; have z0 := blk_frozen hx_gd 0; have x1 := (heap_cell hx_gd 1).trans rfl; have z1 := blk_frozen hx_gd 1; have x2 := (heap_cell hx_gd 2).trans rfl; have z2 := blk_frozen hx_gd 2)
          | (go_at_call 30; have hb2 := (((hb_gd.setCell (p := ⟨gd, 0, none⟩) GQ.out (.int .i64 da)).setCell (p := ⟨gd, 1, none⟩) GQ.out (.string db)).setCell (p := ⟨gd, 2, none⟩) GQ.out (.string dc)); have hB2 := (((hB1.setCell (p := ⟨gd, 0, none⟩) GD.out (.int .i64 da)).setCell (p := ⟨gd, 1, none⟩) GD.out (.string db)).setCell (p := ⟨gd, 2, none⟩) GD.out (.string dc)); have hx3 := (blk_put (blk_put (blk_put hx_gd 0 (.int .i64 da) rfl) 1 (.string db) rfl) 2 (.string dc) rfl); refine (does_calls q1 TT ⟨da, db, dc⟩ _ (hq.below hb2) (by omega)).mono ?_; rintro e w3 ⟨p3, rfl, h3, hb3⟩; have hx4 := blk_step hx3 hb3; have y0 := (heap_cell hx4 0).trans rfl; have y1 := (heap_cell hx4 1).trans rfl; have y2 := (heap_cell hx4 2).trans rfl; have hR3 := (HR.out.below hb2).below hb3; have hB3 := bstep hB2 hb3; clear hb3 hx3 hb2 hB2)
          | (go_at_call 21; refine (pair_calls db dc _).mono ?_; rintro e w4 ⟨rfl, hb⟩; have h3 := h3.below hb; have hR3 := hR3.below hb; have hx4 := blk_step hx4 hb; have y0 := (heap_cell hx4 0).trans rfl; have y1 := (heap_cell hx4 1).trans rfl; have y2 := (heap_cell hx4 2).trans rfl; have hB3 := bstep hB3 hb; clear hb)
          | (go_at_call 31; refine (With_calls _ X db dc _ hR3 (by omega)).mono ?_; rintro e w6 ⟨v4, rfl, hR4, hb4⟩; have h4 := h3.below hb4; have hB4 := bstep hB3 hb4; replace hR4 := Sl.of_R hR4))
        go_roundg (n.length - (k + 1))
        case measure => omega
        case rel => exact ⟨p3, k + 1, _, rfl, by go_num, ⟨by rw [HP.out, HS.out], by rw [HP.out]; exact h4, hR4, by omega, Nat.le_refl _, hB4⟩⟩
    · obtain rfl : k = n.length := by omega
      rw [List.take_length] at hq hX
      have hgs := T.play_size t n
      have hgl := T.play_srt t n HTL.out
      generalize T.play t n = G at *
      have hzl : X.length ≤ 600 := by rw [hX, T.toL_length]; omega
      have hd1 := T.diff_L t u HTL.out HUL.out
      have hd2 := T.diff_L t G HTL.out hgl
      rw [← hX] at hd2
      have hdl := T.diff_length t u
      have hdl2 := T.diff_length t G
      obtain ⟨hE1, hE2⟩ := T.doEvs_diff HTL.out HUL.out
      obtain ⟨D, hD⟩ : ∃ D, D = T.diff t u := ⟨_, rfl⟩
      obtain ⟨D2, hD2⟩ : ∃ D2, D2 = T.diff t G := ⟨_, rfl⟩
      rw [← hD] at hd1 hdl hE1 hE2
      rw [← hD2] at hd2 hdl2
      have HD1 := As.mk hd1
      have HD2 := As.mk hd2
      have HDD := As.mk hD
      have HDD2 := As.mk hD2
      have HE1 := As.mk hE1
      have HE2 := As.mk hE2
      have HG := As.mk hq
      have HZ := As.mk hR
      have HT := As.mk (HT.out.below hB)
      have HU := As.mk (HU.out.below hB)
      have HX := As.mk (HX.out.below hB)
      have HY := As.mk (HY.out.below hB)
      have HB := As.mk (bstep HB.out hB)
      obtain ⟨Az, cz, rfl, -, -⟩ := hR
      clear hq hX hB hd1 hd2 hD hD2 hE1 hE2 hgl
      have TOK1 := True.intro
      have TOK2 := True.intro
      have TOK3 := True.intro
      go_wp2_with (first
        | (go_at_call 33; have _t := TOK1; refine (Diff_calls p q t u _ HT.out HU.out (by omega)).mono ?_; rw [← HDD.out]; rintro e w5 ⟨vd, rfl, hR, hb⟩; obtain ⟨Ad, cd, rfl⟩ := Kd.R_slice hR; have HSD := As.mk (SlE.of_R hR); have HT := As.mk (HT.out.below hb); have HU := As.mk (HU.out.below hb); have HG := As.mk (HG.out.below hb); have HX := As.mk (HX.out.below hb); have HY := As.mk (HY.out.below hb); have HZ := As.mk (HZ.out.below hb); have HB := As.mk (bstep HB.out hb); clear hb hR TOK1)
        | (go_at_call 35; have _t := TOK2; refine (RefDiff_calls _ _ t.toL u.toL _ HX.out HY.out (by omega)).mono ?_; rw [← HD1.out]; rintro e w6 ⟨vf, rfl, hS, hb⟩; have HSE := As.mk hS; have HT := As.mk (HT.out.below hb); have HU := As.mk (HU.out.below hb); have HG := As.mk (HG.out.below hb); have HX := As.mk (HX.out.below hb); have HY := As.mk (HY.out.below hb); have HZ := As.mk (HZ.out.below hb); have HSD := As.mk (HSD.out.below hb); have HB := As.mk (bstep HB.out hb); clear hb hS)
        | (go_at_call 34; have _t := TOK2; refine (Events_calls _ _ D _ HSD.out HSE.out (by omega)).mono ?_; rintro e w6 ⟨rfl, hb⟩; have HT := As.mk (HT.out.below hb); have HU := As.mk (HU.out.below hb); have HG := As.mk (HG.out.below hb); have HX := As.mk (HX.out.below hb); have HY := As.mk (HY.out.below hb); have HZ := As.mk (HZ.out.below hb); have HSD := As.mk (HSD.out.below hb); have HB := As.mk (bstep HB.out hb); clear hb HSE TOK2)
        | (go_at_call 33; have _t := TOK3; refine (Diff_calls p q1 t G _ HT.out HG.out (by omega)).mono ?_; rw [← HDD2.out]; rintro e w5 ⟨ve, rfl, hR, hb⟩; have HSF := As.mk (SlE.of_R hR); have HT := As.mk (HT.out.below hb); have HU := As.mk (HU.out.below hb); have HG := As.mk (HG.out.below hb); have HX := As.mk (HX.out.below hb); have HY := As.mk (HY.out.below hb); have HZ := As.mk (HZ.out.below hb); have HSD := As.mk (HSD.out.below hb); have HB := As.mk (bstep HB.out hb); clear hb hR TOK3)
        | (go_at_call 35; refine (RefDiff_calls _ _ t.toL X _ HX.out HZ.out (by omega)).mono ?_; rw [← HD2.out]; rintro e w6 ⟨vf, rfl, hS, hb⟩; have HSE := As.mk hS; have HT := As.mk (HT.out.below hb); have HU := As.mk (HU.out.below hb); have HG := As.mk (HG.out.below hb); have HX := As.mk (HX.out.below hb); have HY := As.mk (HY.out.below hb); have HZ := As.mk (HZ.out.below hb); have HSD := As.mk (HSD.out.below hb); have HSF := As.mk (HSF.out.below hb); have HB := As.mk (bstep HB.out hb); clear hb hS)
        | (go_at_call 34; refine (Events_calls _ _ D2 _ HSF.out HSE.out (by omega)).mono ?_; rintro e w6 ⟨rfl, hb⟩; have HT := As.mk (HT.out.below hb); have HU := As.mk (HU.out.below hb); have HG := As.mk (HG.out.below hb); have HX := As.mk (HX.out.below hb); have HY := As.mk (HY.out.below hb); have HZ := As.mk (HZ.out.below hb); have HSD := As.mk (HSD.out.below hb); have HB := As.mk (bstep HB.out hb); clear hb HSE HSF)
        | (go_at_call 33; refine (Diff_calls p p t t _ HT.out HT.out (by omega)).mono ?_; rw [T.diff_self]; rintro e w9 ⟨ve, rfl, hR, hb⟩; obtain ⟨Af, cf, rfl⟩ := Kd.R_slice hR; have HT := As.mk (HT.out.below hb); have HU := As.mk (HU.out.below hb); have HG := As.mk (HG.out.below hb); have HX := As.mk (HX.out.below hb); have HY := As.mk (HY.out.below hb); have HZ := As.mk (HZ.out.below hb); have HSD := As.mk (HSD.out.below hb); have HB := As.mk (bstep HB.out hb); clear hb hR))
      have HC9 : As (Kd.C k51 w9 Ad D.length D) := ⟨by obtain ⟨A', c', e', -, h'⟩ := HSD.out; cases e'; exact h'⟩
      go_loopg [7, 17, 90] D.length (fun mm v7 v17 v90 wr => ∃ (q2 : Option Addr) (k : Nat) (Z : T), v7 = .pointer q2 ∧ v90 = .int .i64 k ∧ As (Z = (D.take k).foldl T.doEv t ∧ IsTr wr q2 Z ∧ k ≤ D.length ∧ D.length - k ≤ mm ∧ Below w9.heap.size w9 wr))
      case atStart => exact ⟨p, 0, t, rfl, rfl, ⟨rfl, HT.out, Nat.zero_le _, Nat.le_refl _, Below.refl _ _⟩⟩
      case round =>
        obtain ⟨q2, k, TT, rfl, rfl, ⟨hZ, hq, hk, hm, hB⟩⟩ := hrel
        by_cases hlt : k < D.length
        · obtain ⟨ad, hA, hx0, hx1, hx2, hx3, hx4, hx5⟩ := at_T51 HC9.out (k : Int) (by omega) (by omega)
          subst hA
          have hts := take_snoc D z51 k hlt
          have hpl : (D.take (k + 1)).foldl T.doEv t = T.doEv TT (D.getD k z51) := by rw [hts, List.foldl_append, ← hZ]; rfl
          have hsz := T.doEvs_size (D.take k) t
          rw [List.length_take, ← hZ] at hsz
          have hrd : rd_T51 D (k : Int) = D.getD k z51 := by unfold rd_T51; rw [Int.toNat_natCast]
          rw [hrd, Int.toNat_natCast] at hx0
          rw [hrd, Int.toNat_natCast] at hx1 hx2 hx3 hx4 hx5
          generalize D.getD k z51 = dd at *
          have HP := As.mk hpl
          clear hts hpl hrd hZ
          obtain ⟨d0, d1, d2, d3, d4, d5⟩ := dd
          dsimp only at hx0 hx1 hx2 hx3 hx4 hx5
          replace hx0 := (hB.cell (World.block_lt_of_cell? w9 _ hx0)).trans hx0
          replace hx1 := (hB.cell (World.block_lt_of_cell? w9 _ hx1)).trans hx1
          replace hx2 := (hB.cell (World.block_lt_of_cell? w9 _ hx2)).trans hx2
          replace hx3 := (hB.cell (World.block_lt_of_cell? w9 _ hx3)).trans hx3
          replace hx4 := (hB.cell (World.block_lt_of_cell? w9 _ hx4)).trans hx4
          replace hx5 := (hB.cell (World.block_lt_of_cell? w9 _ hx5)).trans hx5
          have p0 : 0 ≤ (k : Int) := by omega
          cases d4
          case false =>
            go_wp2_with (first
              | ((with_reducible refine gate_dst (N := 17) rfl ?_); refine box_event ?hg (N := 17) ?hd (cs := #[.int .i64 0, .string (⟨#[]⟩ : ByteArray), .bool false, .string (⟨#[]⟩ : ByteArray), .bool false, .string (⟨#[]⟩ : ByteArray)]) (t := 51) ?hr ?_; (case hd => rfl); (case hg => rfl); (case hr => first | (go_simp; done) | (go_simp; rfl)); intro gd hg_gd w5 hx_gd hb_gd; have hB1 := bstep hB hb_gd; have GD := As.mk ((by rw [hg_gd]; exact hB.size) : w9.heap.size ≤ gd); have GQ := As.mk (Nat.le_of_eq hg_gd.symm); clear hg_gd; have x0 := (heap_cell hx_gd 0).trans rfl; have z0 := blk_frozen hx_gd 0; have x1 := (heap_cell hx_gd 1).trans rfl; have z1 := blk_frozen hx_gd 1; have x2 := (heap_cell hx_gd 2).trans rfl; have z2 := blk_frozen hx_gd 2; have x3 := (heap_cell hx_gd 3).trans rfl; have z3 := blk_frozen hx_gd 3; have x4 := (heap_cell hx_gd 4).trans rfl; have z4 := blk_frozen hx_gd 4; have x5 := (heap_cell hx_gd 5).trans rfl; have z5 := blk_frozen hx_gd 5)
              | (go_at_call 37; have hb2 := ((((((hb_gd.setCell (p := ⟨gd, 0, none⟩) GQ.out (.int .i64 d0)).setCell (p := ⟨gd, 1, none⟩) GQ.out (.string d1)).setCell (p := ⟨gd, 2, none⟩) GQ.out (.bool d2)).setCell (p := ⟨gd, 3, none⟩) GQ.out (.string d3)).setCell (p := ⟨gd, 4, none⟩) GQ.out (.bool false)).setCell (p := ⟨gd, 5, none⟩) GQ.out (.string d5)); have hB2 := ((((((hB1.setCell (p := ⟨gd, 0, none⟩) GD.out (.int .i64 d0)).setCell (p := ⟨gd, 1, none⟩) GD.out (.string d1)).setCell (p := ⟨gd, 2, none⟩) GD.out (.bool d2)).setCell (p := ⟨gd, 3, none⟩) GD.out (.string d3)).setCell (p := ⟨gd, 4, none⟩) GD.out (.bool false)).setCell (p := ⟨gd, 5, none⟩) GD.out (.string d5)); refine (Drop_calls q2 TT d1 _ (hq.below hb2) (by omega)).mono ?_; rintro e w3 ⟨p3, rfl, h3, hb3⟩; have hB3 := bstep hB2 hb3; clear hb3 hb2 hB2))
            go_roundg (D.length - (k + 1))
            case measure => omega
            case rel => exact ⟨p3, k + 1, _, rfl, by go_num, ⟨HP.out.symm, h3, by omega, Nat.le_refl _, hB3⟩⟩
          case true =>
            go_wp2_with (first
              | ((with_reducible refine gate_dst (N := 17) rfl ?_); refine box_event ?hg (N := 17) ?hd (cs := #[.int .i64 0, .string (⟨#[]⟩ : ByteArray), .bool false, .string (⟨#[]⟩ : ByteArray), .bool false, .string (⟨#[]⟩ : ByteArray)]) (t := 51) ?hr ?_; (case hd => rfl); (case hg => rfl); (case hr => first | (go_simp; done) | (go_simp; rfl)); intro gd hg_gd w5 hx_gd hb_gd; have hB1 := bstep hB hb_gd; have GD := As.mk ((by rw [hg_gd]; exact hB.size) : w9.heap.size ≤ gd); have GQ := As.mk (Nat.le_of_eq hg_gd.symm); clear hg_gd; have x0 := (heap_cell hx_gd 0).trans rfl; have z0 := blk_frozen hx_gd 0; have x1 := (heap_cell hx_gd 1).trans rfl; have z1 := blk_frozen hx_gd 1; have x2 := (heap_cell hx_gd 2).trans rfl; have z2 := blk_frozen hx_gd 2; have x3 := (heap_cell hx_gd 3).trans rfl; have z3 := blk_frozen hx_gd 3; have x4 := (heap_cell hx_gd 4).trans rfl; have z4 := blk_frozen hx_gd 4; have x5 := (heap_cell hx_gd 5).trans rfl; have z5 := blk_frozen hx_gd 5)
              | (go_at_call 36; have hb2 := ((((((hb_gd.setCell (p := ⟨gd, 0, none⟩) GQ.out (.int .i64 d0)).setCell (p := ⟨gd, 1, none⟩) GQ.out (.string d1)).setCell (p := ⟨gd, 2, none⟩) GQ.out (.bool d2)).setCell (p := ⟨gd, 3, none⟩) GQ.out (.string d3)).setCell (p := ⟨gd, 4, none⟩) GQ.out (.bool true)).setCell (p := ⟨gd, 5, none⟩) GQ.out (.string d5)); have hB2 := ((((((hB1.setCell (p := ⟨gd, 0, none⟩) GD.out (.int .i64 d0)).setCell (p := ⟨gd, 1, none⟩) GD.out (.string d1)).setCell (p := ⟨gd, 2, none⟩) GD.out (.bool d2)).setCell (p := ⟨gd, 3, none⟩) GD.out (.string d3)).setCell (p := ⟨gd, 4, none⟩) GD.out (.bool true)).setCell (p := ⟨gd, 5, none⟩) GD.out (.string d5)); refine (Put_calls q2 TT d1 d5 _ (hq.below hb2) (by omega)).mono ?_; rintro e w3 ⟨p3, rfl, h3, hb3⟩; have hB3 := bstep hB2 hb3; clear hb3 hb2 hB2))
            go_roundg (D.length - (k + 1))
            case measure => omega
            case rel => exact ⟨p3, k + 1, _, rfl, by go_num, ⟨HP.out.symm, h3, by omega, Nat.le_refl _, hB3⟩⟩
        · obtain rfl : k = D.length := by omega
          rw [List.take_length] at hZ
          have hss := T.doEvs_size D t
          rw [← hZ] at hss
          have HQ := As.mk hq
          have HY := As.mk (HY.out.below hB)
          have HB := As.mk (bstep HB.out hB)
          have HALL : As (TT.all = u.toL) := ⟨by rw [hZ, T.all_toL _ HE2.out, HE1.out]⟩
          clear hq hB hZ
          go_wp2_with (first
            | (go_at_call 25; refine (All_calls q2 TT _ HQ.out (by omega)).mono ?_; rw [HALL.out]; rintro e w7 ⟨v59, rfl, hR7, hb⟩; have HS7 := As.mk (Sl.of_R hR7); have HY := As.mk (HY.out.below hb); have HB := As.mk (bstep HB.out hb); clear hb hR7)
            | (go_at_call 24; refine (Same_calls _ _ u.toL u.toL _ HS7.out HY.out (by omega)).mono ?_; rw [decide_eq_true rfl]; rintro e w8 ⟨rfl, hb⟩; have HB := As.mk (bstep HB.out hb); clear hb)
            | (go_at_call 20; refine (awake_calls _).mono ?_; rintro e w10 ⟨rfl, hb⟩; have HBZ := As.mk (bstep HB.out hb); clear hb))
          go_ret
          exact ⟨rfl, HBZ.out⟩

end Go.Proofs.Ytehnkoglhbbfjaa
