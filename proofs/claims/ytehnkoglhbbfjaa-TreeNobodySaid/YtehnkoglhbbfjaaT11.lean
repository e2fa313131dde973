/-
  The printed functions' contracts in plain words; the walk of made.
-/
import Derived.Test.YtehnkoglhbbfjaaT10
import Derived.Test.YtehnkoglhbbfjaaM4
set_option linter.unusedVariables false
set_option linter.unusedSimpArgs false
namespace Go.Proofs.Ytehnkoglhbbfjaa
open Go.RowKit Go.Proofs.YtehnkoglhbbfjaaW.PrintWords Go.Proofs.YtehnkoglhbbfjaaW.PrintLast Go.Proofs.YtehnkoglhbbfjaaW.PrintMore PAll

/-- A slice of pairs that can be read. -/
def Sl (w : World) (v : Value) (l : List S29) : Prop := ∃ A c, v = .slice A l.length c ∧ l.length ≤ c ∧ Kd.C k29 w A l.length l
theorem Sl.below {w w' : World} {v : Value} {l : List S29} (h : Sl w v l) (hb : Below w.heap.size w w') : Sl w' v l := by
  obtain ⟨A, c, rfl, h1, h2⟩ := h
  exact ⟨A, c, rfl, h1, Kd.C_below h2 hb⟩
theorem Sl.of_R {w : World} {v : Value} {l : List S29} {base : Nat} {ok : Nat → Prop} (h : Kd.R k29 29 w base ok v l) : Sl w v l := by
  obtain ⟨A, c, h1, h2, h3⟩ := Kd.R_reads h
  exact ⟨A, c, h1, h2, h3⟩

theorem drawn_below {w w' : World} (h : Drawn0 w w') : Below w.heap.size w w' := h.below

theorem Same_calls (u v : Value) (x y : List S29) (w : World) (hx : Sl w u x) (hy : Sl w v y) (hs : x.length < 4398046511104) :
    Calls Try.prog 24 #[u, v] w fun e w' => e = .returned (.bool (decide (x = y))) ∧ Below w.heap.size w w' := by
  obtain ⟨A, c, rfl, h1, h2⟩ := hx
  obtain ⟨A', c', rfl, h3, h4⟩ := hy
  exact (tidemarkref03_Same.calls _ A c x A' c' y _ w h2 h1 h4 h3 (Same_f x y hs)).mono fun _ _ ⟨h, k⟩ => ⟨h, drawn_below k⟩
theorem Pairs_calls (u v : Value) (x y : List S29) (w : World) (hx : Sl w u x) (hy : Sl w v y) (hs : x.length < 4398046511104) :
    Calls Try.prog 61 #[u, v] w fun e w' => e = .returned (.bool (decide (x = y))) ∧ Below w.heap.size w w' := by
  obtain ⟨A, c, rfl, h1, h2⟩ := hx
  obtain ⟨A', c', rfl, h3, h4⟩ := hy
  exact (api_Pair.calls _ A c x A' c' y _ w h2 h1 h4 h3 (Pair_f x y hs)).mono fun _ _ ⟨h, k⟩ => ⟨h, drawn_below k⟩
theorem With_calls (u : Value) (x : List S29) (a b : ByteArray) (w : World) (hx : Sl w u x) (hs : x.length < 4398046511000) :
    Calls Try.prog 31 #[u, .agg #[.string a, .string b]] w fun e w' => ∃ v, e = .returned v ∧ Kd.R k29 29 w' w.heap.size (fun _ => True) v (withP ⟨a, b⟩ x) ∧ Below w.heap.size w w' := by
  obtain ⟨A, c, rfl, h1, h2⟩ := hx
  exact tidemarkref03_List_With.calls _ A c x a b _ w h2 h1 (With_f a b x hs)
theorem Without_calls (u : Value) (x : List S29) (a : ByteArray) (w : World) (hx : Sl w u x) (hs : x.length < 4398046511000) :
    Calls Try.prog 32 #[u, .string a] w fun e w' => ∃ v, e = .returned v ∧ Kd.R k29 29 w' w.heap.size (fun _ => True) v (without a x) ∧ Below w.heap.size w w' := by
  obtain ⟨A, c, rfl, h1, h2⟩ := hx
  exact tidemarkref03_List_Without.calls _ A c x a _ w h2 h1 (Without_f a x (by omega))
theorem RefOf_calls (u : Value) (x : List S29) (w : World) (hx : Sl w u x) (hs : x.length < 1000000000) :
    Calls Try.prog 23 #[u] w fun e w' => ∃ v, e = .returned v ∧ Kd.R k29 29 w' w.heap.size (fun _ => True) v (ofP [] x) ∧ Below w.heap.size w w' := by
  obtain ⟨A, c, rfl, h1, h2⟩ := hx
  exact tidemarkref03_Of.calls _ A c x _ w h2 h1 (Of_f x hs)
theorem RefGet_calls (u : Value) (x : List S29) (a : ByteArray) (w : World) (hx : Sl w u x) (hs : x.length < 4398046511104) :
    Calls Try.prog 48 #[u, .string a] w fun e w' => e = .returned (.tuple #[.string (getL a x).1, .bool (getL a x).2]) ∧ Below w.heap.size w w' := by
  obtain ⟨A, c, rfl, h1, h2⟩ := hx
  exact tidemarkref03_List_Get.calls _ A c x a _ _ w h2 h1 (Get_f a x hs)
theorem RefAt_calls (u : Value) (x : List S29) (i : Int) (w : World) (hx : Sl w u x) (hs : x.length < 4398046511104) :
    Calls Try.prog 39 #[u, .int .i64 i] w fun e w' => e = .returned (.tuple #[.agg #[.string (atL i x).1, .string (atL i x).2.1], .bool (atL i x).2.2]) ∧ Below w.heap.size w w' := by
  obtain ⟨A, c, rfl, h1, h2⟩ := hx
  exact tidemarkref03_List_At.calls _ A c x i _ _ _ w h2 h1 (At_f i x hs)
theorem RefCeil_calls (u : Value) (x : List S29) (a : ByteArray) (w : World) (hx : Sl w u x) (hs : x.length < 4398046511104) :
    Calls Try.prog 43 #[u, .string a] w fun e w' => e = .returned (.tuple #[.agg #[.string (ceilL a x).1, .string (ceilL a x).2.1], .bool (ceilL a x).2.2]) ∧ Below w.heap.size w w' := by
  obtain ⟨A, c, rfl, h1, h2⟩ := hx
  exact tidemarkref03_List_Ceil.calls _ A c x a _ _ _ w h2 h1 (Ceil_f a x hs)
theorem RefScan_calls (u : Value) (x : List S29) (a b : ByteArray) (most : Int) (w : World) (hx : Sl w u x) (hs : x.length < 4398046511104) :
    Calls Try.prog 29 #[u, .string a, .string b, .int .i64 most] w fun e w' => ∃ v, e = .returned v ∧ Kd.R k29 29 w' w.heap.size (fun _ => True) v (scanL a b most [] x) ∧ Below w.heap.size w w' := by
  obtain ⟨A, c, rfl, h1, h2⟩ := hx
  exact tidemarkref03_List_Scan.calls _ A c x a b most _ w h2 h1 (Scan_f a b most x hs)
theorem RefRank_calls (u : Value) (x : List S29) (a : ByteArray) (w : World) (hx : Sl w u x) (hs : x.length < 4398046511104) :
    Calls Try.prog 45 #[u, .string a] w fun e w' => e = .returned (.int .i64 ((rankL a x : Nat) : Int)) ∧ Below w.heap.size w w' := by
  obtain ⟨A, c, rfl, h1, h2⟩ := hx
  exact tidemarkref03_List_Rank.calls _ A c x a _ w h2 h1 (Rank_f a x hs)

set_option maxHeartbeats 2000000 in
set_option maxRecDepth 100000 in
theorem made_calls (l : List S27) (A : Option Addr) (c : Nat) (w : World) (hC : Kd.C k27 w A l.length l) (hs : l.length ≤ 300) :
    Calls Try.prog 27 #[.slice A l.length c] w fun e w' => ∃ p v, e = .returned (.tuple #[.pointer p, v]) ∧ IsTr w' p (T.play .nil l) ∧ Kd.R k29 29 w' w.heap.size (fun _ => True) v (T.play .nil l).toL ∧ Below w.heap.size w w' := by
  have HC := As.mk hC
  clear hC
  go_enter Try.func27, Try.ntmps27
  go_wp2_with (first
    | (go_at_call 46; refine (New_calls w).mono ?_; rintro e w0 ⟨p0, rfl, ht0, hB0⟩))
  go_loopg [4, 5, 11] l.length (fun m v4 v5 v11 wr => ∃ (q : Option Addr) (k : Nat) (X : List S29), v4 = .pointer q ∧ v11 = .int .i64 k ∧ As (X = (T.play .nil (l.take k)).toL ∧ IsTr wr q (T.play .nil (l.take k)) ∧ Kd.R k29 29 wr w.heap.size (fun _ => True) v5 X ∧ k ≤ l.length ∧ l.length - k ≤ m ∧ Below w.heap.size w wr))
  case atStart => exact ⟨p0, 0, [], rfl, rfl, ⟨rfl, ht0, Kd.R_nil _ _ _ _ _, Nat.zero_le _, Nat.le_refl _, hB0⟩⟩
  case round =>
    obtain ⟨q, k, X, rfl, rfl, ⟨hX, hq, hR, hk, hm, hB⟩⟩ := hrel
    clear ht0 hB0
    by_cases hlt : k < l.length
    · obtain ⟨ad, hA, hx0, hx1, hx2⟩ := at_T27 HC.out (k : Int) (by omega) (by omega)
      subst hA
      have hts := take_snoc l z27 k hlt
      have hpl := T.play_append .nil (l.take k) [l.getD k z27]
      rw [← hts] at hpl
      have hsz := T.play_size .nil (l.take k)
      rw [List.length_take] at hsz
      simp only [T.size] at hsz
      have hsr := T.play_srt .nil (l.take k) srt_nil
      have hst := T.step_toL (T.play .nil (l.take k)) (l.getD k z27) hsr
      have hXl : X.length ≤ (T.play .nil (l.take k)).size := by rw [hX, T.toL_length]; exact Nat.le_refl _
      rw [← hX] at hst
      have hrd : rd_T27 l (k : Int) = l.getD k z27 := by unfold rd_T27; rw [Int.toNat_natCast]
      rw [hrd, Int.toNat_natCast] at hx0
      rw [hrd, Int.toNat_natCast] at hx1 hx2
      have hpl' : T.play .nil (l.take (k + 1)) = T.step (T.play .nil (l.take k)) (l.getD k z27) := hpl
      generalize l.getD k z27 = d at *
      generalize T.play .nil (l.take k) = TT at *
      have HP := As.mk hpl'
      have HX := As.mk hX
      clear hts hpl hpl' hrd hsr hX
      obtain ⟨da, db, dc⟩ := d
      dsimp only at hx0 hx1 hx2
      replace hx0 := (hB.cell (World.block_lt_of_cell? w _ hx0)).trans hx0
      replace hx1 := (hB.cell (World.block_lt_of_cell? w _ hx1)).trans hx1
      replace hx2 := (hB.cell (World.block_lt_of_cell? w _ hx2)).trans hx2
      have p0 : 0 ≤ (k : Int) := by omega
      obtain ⟨Ax, cx, rfl⟩ := Kd.R_slice hR
      have HR := As.mk hR
      clear hR
      cases hop : T.isPut ⟨da, db, dc⟩
      case false =>
        have hop' : decide (bits BinOp.and IntKind.i64 da 7 < 6) = false := hop
        rw [hop] at hst
        have HS := As.mk (show (T.step TT ⟨da, db, dc⟩).toL = without db X from hst)
        clear hst hop
        go_wp2_with (first
          | ((with_reducible refine gate_dst (N := 7) rfl ?_); refine box_event ?hg (N := 7) ?hd (cs := #[.int .i64 0, .string (⟨#[]⟩ : ByteArray), .string (⟨#[]⟩ : ByteArray)]) (t := 27) ?hr ?_; (case hd => rfl); (case hg => rfl); (case hr => first | (go_simp; done) | (go_simp; rfl)); intro gd hg_gd w1 hx_gd hb_gd; have hB1 := bstep hB hb_gd; have GD := As.mk ((by rw [hg_gd]; exact hB.size) : w.heap.size ≤ gd); have GQ := As.mk (Nat.le_of_eq hg_gd.symm); clear hg_gd; have x0 := (heap_cell hx_gd 0).trans rfl; have x1 := (heap_cell hx_gd 1).trans rfl; have x2 := (heap_cell hx_gd 2).trans rfl; have z0 := blk_frozen hx_gd 0; have z1 := blk_frozen hx_gd 1; have z2 := blk_frozen hx_gd 2)
          | (go_at_call 30; have hb2 := ((hb_gd.setCell (p := ⟨gd, 0, none⟩) GQ.out (.int .i64 da)).setCell (p := ⟨gd, 1, none⟩) GQ.out (.string db)).setCell (p := ⟨gd, 2, none⟩) GQ.out (.string dc); have hB2 := ((hB1.setCell (p := ⟨gd, 0, none⟩) GD.out (.int .i64 da)).setCell (p := ⟨gd, 1, none⟩) GD.out (.string db)).setCell (p := ⟨gd, 2, none⟩) GD.out (.string dc); have hx3 := blk_put (blk_put (blk_put hx_gd 0 (.int .i64 da) rfl) 1 (.string db) rfl) 2 (.string dc) rfl; refine (does_calls q TT ⟨da, db, dc⟩ _ (hq.below hb2) (by omega)).mono ?_; rintro e w3 ⟨p3, rfl, h3, hb3⟩; have hx4 := blk_step hx3 hb3; have y0 := (heap_cell hx4 0).trans rfl; have y1 := (heap_cell hx4 1).trans rfl; have y2 := (heap_cell hx4 2).trans rfl; have hR3 := Kd.R_below (Kd.R_below HR.out hb2) hb3; have hB3 := bstep hB2 hb3; clear hb3 hx3 hx4 hb2 hB2)
          | (go_at_call 32; refine (Without_calls _ X db _ (Sl.of_R hR3) (by omega)).mono ?_; rintro e w4 ⟨v4, rfl, hR4, hb4⟩; have h4 := h3.below hb4; have hB4 := bstep hB3 hb4; replace hR4 := Kd.R_lower hR4 hB3.size))
        go_roundg (l.length - (k + 1))
        case measure => omega
        case rel => exact ⟨p3, k + 1, _, rfl, by go_num, ⟨by rw [HP.out, HS.out], by rw [HP.out]; exact h4, hR4, by omega, Nat.le_refl _, hB4⟩⟩
      case true =>
        have hop' : decide (bits BinOp.and IntKind.i64 da 7 < 6) = true := hop
        rw [hop] at hst
        have HS := As.mk (show (T.step TT ⟨da, db, dc⟩).toL = withP ⟨db, dc⟩ X from hst)
        clear hst hop
        go_wp2_with (first
          | ((with_reducible refine gate_dst (N := 7) rfl ?_); refine box_event ?hg (N := 7) ?hd (cs := #[.int .i64 0, .string (⟨#[]⟩ : ByteArray), .string (⟨#[]⟩ : ByteArray)]) (t := 27) ?hr ?_; (case hd => rfl); (case hg => rfl); (case hr => first | (go_simp; done) | (go_simp; rfl)); intro gd hg_gd w1 hx_gd hb_gd; have hB1 := bstep hB hb_gd; have GD := As.mk ((by rw [hg_gd]; exact hB.size) : w.heap.size ≤ gd); have GQ := As.mk (Nat.le_of_eq hg_gd.symm); clear hg_gd; have x0 := (heap_cell hx_gd 0).trans rfl; have x1 := (heap_cell hx_gd 1).trans rfl; have x2 := (heap_cell hx_gd 2).trans rfl; have z0 := blk_frozen hx_gd 0; have z1 := blk_frozen hx_gd 1; have z2 := blk_frozen hx_gd 2)
          | (go_at_call 30; have hb2 := ((hb_gd.setCell (p := ⟨gd, 0, none⟩) GQ.out (.int .i64 da)).setCell (p := ⟨gd, 1, none⟩) GQ.out (.string db)).setCell (p := ⟨gd, 2, none⟩) GQ.out (.string dc); have hB2 := ((hB1.setCell (p := ⟨gd, 0, none⟩) GD.out (.int .i64 da)).setCell (p := ⟨gd, 1, none⟩) GD.out (.string db)).setCell (p := ⟨gd, 2, none⟩) GD.out (.string dc); have hx3 := blk_put (blk_put (blk_put hx_gd 0 (.int .i64 da) rfl) 1 (.string db) rfl) 2 (.string dc) rfl; refine (does_calls q TT ⟨da, db, dc⟩ _ (hq.below hb2) (by omega)).mono ?_; rintro e w3 ⟨p3, rfl, h3, hb3⟩; have hx4 := blk_step hx3 hb3; have y0 := (heap_cell hx4 0).trans rfl; have y1 := (heap_cell hx4 1).trans rfl; have y2 := (heap_cell hx4 2).trans rfl; have hR3 := Kd.R_below (Kd.R_below HR.out hb2) hb3; have hB3 := bstep hB2 hb3; clear hb3 hx3 hx4 hb2 hB2)
          | (go_at_call 31; refine (With_calls _ X db dc _ (Sl.of_R hR3) (by omega)).mono ?_; rintro e w4 ⟨v4, rfl, hR4, hb4⟩; have h4 := h3.below hb4; have hB4 := bstep hB3 hb4; replace hR4 := Kd.R_lower hR4 hB3.size))
        go_roundg (l.length - (k + 1))
        case measure => omega
        case rel => exact ⟨p3, k + 1, _, rfl, by go_num, ⟨by rw [HP.out, HS.out], by rw [HP.out]; exact h4, hR4, by omega, Nat.le_refl _, hB4⟩⟩
    · obtain rfl : k = l.length := by omega
      rw [List.take_length] at hq hX
      obtain ⟨Ax, cx, rfl⟩ := Kd.R_slice hR
      have HR := As.mk hR
      have HX := As.mk hX
      clear hR hX
      go_wp2
      go_ret2
      exact ⟨_, _, rfl, hq, by rw [← HX.out]; exact HR.out, hB⟩

end Go.Proofs.Ytehnkoglhbbfjaa
