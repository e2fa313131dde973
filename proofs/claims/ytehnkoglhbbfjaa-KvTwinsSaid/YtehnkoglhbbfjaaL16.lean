/-
  The law KvTold: its walk.
-/
import Derived.Test.YtehnkoglhbbfjaaK7
import Derived.Test.YtehnkoglhbbfjaaM19
set_option linter.unusedVariables false
set_option linter.unusedSimpArgs false
namespace Go.Proofs.Ytehnkoglhbbfjaa
open Go.RowKit Go.Proofs.YtehnkoglhbbfjaaW.PrintWords Go.Proofs.YtehnkoglhbbfjaaW.PrintLast Go.Proofs.YtehnkoglhbbfjaaW.PrintMore PAll

theorem SlB_new (W : World) (b : Nat) (s : S51) (hb : b < W.heap.size) : SlB (W.alloc (.cells #[.int .i64 s.f0, .string s.f1, .bool s.f2, .string s.f3, .bool s.f4, .string s.f5] 51)) b (.slice (some ⟨W.heap.size, 0, none⟩) 1 1) [s] := by
  obtain ⟨A, c, e, h1, h2⟩ := SlE.of_R (R_lit_new k51 W 51 [s] [.int .i64 s.f0, .string s.f1, .bool s.f2, .string s.f3, .bool s.f4, .string s.f5] (Reps.c6 (k51_mkM _ _ _ _) (Reps.none _ _)) (by simp))
  refine ⟨A, c, e, h1, h2, fun ad e' => ?_⟩
  cases e
  cases e'
  show W.heap.size ≠ b
  omega
theorem kvGetB_calls (b : Nat) (t : T) (key : ByteArray) (w : World) (h : IsM w b t) : Calls Try.prog 69 #[.pointer (some ⟨b, 0, none⟩), .string key] w fun e w' => e = .returned (.tuple #[.string (t.get key).1, .bool (t.get key).2]) ∧ Below w.heap.size w w' :=
  (kvGet_calls b t key w h).mono fun _ _ ⟨h1, h2⟩ => ⟨h1, by rw [← h2]; exact Below.refl _ _⟩

set_option maxHeartbeats 4000000 in
set_option maxRecDepth 100000 in
theorem kvTold_calls (v : Value) (l : List S98) (w : World) (h : SlK w v l) : Calls Try.prog 16 #[v] w fun e w' => e = .returned (.bool true) ∧ Below w.heap.size w w' := by
  have HK := As.mk h
  obtain ⟨A0, c0, rfl, -, -⟩ := h
  obtain ⟨m1, m2, m3⟩ := madeF_told l
  have hsz := madeF_size l
  obtain ⟨t, L, hml⟩ : ∃ t L, madeF l = (t, L) := ⟨_, _, rfl⟩
  rw [hml] at m1 m2 m3 hsz
  dsimp only at m1 m2 m3 hsz
  have HML := As.mk hml
  have M2 := As.mk m2
  have M3 := As.mk m3
  clear hml m2 m3 m1
  go_enter Try.func16, Try.ntmps16
  go_wp2_with (first
    | (go_at_call 66; refine (Short9_calls _ l _ HK.out).mono ?_; rintro e w1 ⟨b, rfl, hle, hb⟩; have HLE := As.mk hle; have HB := As.mk hb; have HK := As.mk (HK.out.below hb); clear hb hle; rcases b with _ | _)
    | (go_at_call 55; refine (awake9_calls _).mono ?_; rintro e w2 ⟨rfl, hb⟩; have HB2 := As.mk (bstep HB.out hb); clear hb)
    | (go_at_call 67; refine (madeKv_calls _ l _ HK.out (HLE.out trivial)).mono ?_; rw [HML.out]; rintro e w3 ⟨b1, r1, rfl, hb1, hM1, hR1, hb⟩; obtain ⟨A, c, e1, -, hC⟩ := Kd.R_reads hR1; have HR1 := As.mk hR1; subst e1; have HM1 := As.mk hM1; have HC := As.mk hC; have HB3 := As.mk (bstep HB.out hb); have HBW := As.mk hb1; clear hb hC hM1 hb1 hR1)
    | (go_at_call 68; refine (kvNew_calls _).mono ?_; rintro e w4 ⟨b2, rfl, hb2, hM2, hb⟩; have HM2 := As.mk hM2; have HN12 : As (b1 ≠ b2) := ⟨by have := HM1.out.lt; omega⟩; have HM1 := As.mk (HM1.out.below hb); have HC := As.mk (Kd.C_below HC.out hb); have HLT := As.mk hb2; have HB4 := As.mk (bstep HB3.out hb); clear hb hM2 hb2))
  · go_ret
    exact ⟨rfl, HB2.out⟩
  have hll := HLE.out trivial
  have HNE : As (∀ ad, A = some ad → ad.block ≠ b2) := ⟨fun ad e => by
    subst e
    obtain ⟨g, rfl⟩ := Kd.R_head HR1.out
    have := Kd.R_lt HR1.out g rfl
    have := HLT.out
    show g ≠ b2
    omega⟩
  clear HR1
  have HM20 := HM2
  go_loopg [7, 8, 9, 22] L.length (fun m v7 v8 v9 v22 wr => ∃ (k : Nat) (U : T), v22 = .int .i64 k ∧ As (U = (L.take k).foldl T.doEv .nil ∧ IsM wr b2 U ∧ w4.grownBy wr (some b2) ∧ k ≤ L.length ∧ L.length - k ≤ m))
  case atStart => exact ⟨0, .nil, rfl, ⟨rfl, HM2.out, World.grownBy.refl _ _, Nat.zero_le _, Nat.le_refl _⟩⟩
  case round =>
    obtain ⟨k, U, rfl, ⟨hU, hM, hG, hk, hm⟩⟩ := hrel
    clear HM2
    by_cases hlt : k < L.length
    · have hC2 := C51_turn HC.out HNE.out hG
      obtain ⟨ad, hA, hx0, hx1, hx2, hx3, hx4, hx5⟩ := at_T51 hC2 (k : Int) (by omega) (by omega)
      subst hA
      have hts := take_snoc L z51 k hlt
      have hpl : (L.take (k + 1)).foldl T.doEv .nil = T.doEv U (L.getD k z51) := by rw [hts, List.foldl_append, ← hU]; rfl
      have htd := Told_at L .nil M3.out k hlt
      rw [← hU, show L[k] = L.getD k z51 by simp [List.getD, hlt]] at htd
      have hsu := T.doEvs_size (L.take k) .nil
      rw [← hU, List.length_take] at hsu
      simp only [T.size] at hsu
      have hrd : rd_T51 L (k : Int) = L.getD k z51 := by unfold rd_T51; rw [Int.toNat_natCast]
      rw [hrd, Int.toNat_natCast] at hx0
      rw [hrd, Int.toNat_natCast] at hx1 hx2 hx3 hx4 hx5
      generalize L.getD k z51 = dd at *
      have HPL := As.mk hpl
      clear hts hpl hrd hC2 hU
      obtain ⟨d0, d1, d2, d3, d4, d5⟩ := dd
      obtain ⟨hgt, hnn⟩ := htd
      dsimp only at hx0 hx1 hx2 hx3 hx4 hx5 hgt hnn
      have p0 : 0 ≤ (k : Int) := by omega
      have HM := As.mk hM
      have HG := As.mk hG
      clear hM hG
      cases d2 <;> cases d4
      · skip
        have HGT := As.mk hgt
        have HNN := As.mk hnn
        clear hgt hnn
        have q3 : (d3.toList == d5.toList) = false := key_ne (fun e => HNN.out ⟨rfl, e⟩)
        go_wp2_with (first
          | ((with_reducible refine gate_dst (N := 7) rfl ?_); refine box_event ?hg (N := 7) ?hd (cs := #[.int .i64 0, .string (⟨#[]⟩ : ByteArray), .bool false, .string (⟨#[]⟩ : ByteArray), .bool false, .string (⟨#[]⟩ : ByteArray)]) (t := 51) ?hr ?_; (case hd => rfl); (case hg => rfl); (case hr => first | (go_simp; done) | (go_simp; rfl)); intro gd hg_gd w5 hx_gd hb_gd; have HGQ := As.mk (Nat.le_of_eq hg_gd.symm : wr.heap.size ≤ gd); clear hg_gd; have x0 := (heap_cell hx_gd 0).trans rfl; have z0 := blk_frozen hx_gd 0; have x1 := (heap_cell hx_gd 1).trans rfl; have z1 := blk_frozen hx_gd 1; have x2 := (heap_cell hx_gd 2).trans rfl; have z2 := blk_frozen hx_gd 2; have x3 := (heap_cell hx_gd 3).trans rfl; have z3 := blk_frozen hx_gd 3; have x4 := (heap_cell hx_gd 4).trans rfl; have z4 := blk_frozen hx_gd 4; have x5 := (heap_cell hx_gd 5).trans rfl; have z5 := blk_frozen hx_gd 5)
          | (go_at_call 69; have hb2 := ((((((hb_gd.setCell (p := ⟨gd, 0, none⟩) HGQ.out (.int .i64 d0)).setCell (p := ⟨gd, 1, none⟩) HGQ.out (.string d1)).setCell (p := ⟨gd, 2, none⟩) HGQ.out (.bool false)).setCell (p := ⟨gd, 3, none⟩) HGQ.out (.string d3)).setCell (p := ⟨gd, 4, none⟩) HGQ.out (.bool false)).setCell (p := ⟨gd, 5, none⟩) HGQ.out (.string d5)); have hx3 := (blk_put (blk_put (blk_put (blk_put (blk_put (blk_put hx_gd 0 (.int .i64 d0) rfl) 1 (.string d1) rfl) 2 (.bool false) rfl) 3 (.string d3) rfl) 4 (.bool false) rfl) 5 (.string d5) rfl); refine (kvGetB_calls b2 U d1 _ (HM.out.below hb2)).mono ?_; rw [HGT.out]; rintro e w6 ⟨rfl, hb⟩; have hx := blk_step hx3 hb; have HM2 := As.mk ((HM.out.below hb2).below hb); have HG2 := As.mk (turn_trans HG.out (grown_of_below (bstep hb2 hb) (some b2))); have y0 := (heap_cell hx 0).trans rfl; have y1 := (heap_cell hx 1).trans rfl; have y2 := (heap_cell hx 2).trans rfl; have y3 := (heap_cell hx 3).trans rfl; have y4 := (heap_cell hx 4).trans rfl; have y5 := (heap_cell hx 5).trans rfl; clear hb hb2 hx3 hb_gd)
          | (go_at_call 70; have ha := (Below.refl w6.heap.size w6).alloc (Nat.le_refl _) (Obj.cells #[.int .i64 d0, .string d1, .bool false, .string d3, .bool false, .string d5] 51); refine (kvTake_calls b2 U _ [⟨d0, d1, false, d3, false, d5⟩] _ (HM2.out.below ha) (SlB_new _ b2 ⟨d0, d1, false, d3, false, d5⟩ (by have := HM2.out.lt; omega)) (by simp only [List.length_singleton]; omega)).mono ?_; rintro e w7 ⟨rfl, hM7, hG7⟩; have HM7 := As.mk hM7; have HG7 := As.mk (turn_trans (turn_trans HG2.out (grown_of_below ha (some b2))) hG7); clear ha hM7 hG7))
        go_roundg (L.length - (k + 1))
        case measure => omega
        case rel => exact ⟨k + 1, _, by go_num, ⟨HPL.out.symm, HM7.out, HG7.out, by omega, Nat.le_refl _⟩⟩
      · skip
        have HGT := As.mk hgt
        have HNN := As.mk hnn
        clear hgt hnn
        go_wp2_with (first
          | ((with_reducible refine gate_dst (N := 7) rfl ?_); refine box_event ?hg (N := 7) ?hd (cs := #[.int .i64 0, .string (⟨#[]⟩ : ByteArray), .bool false, .string (⟨#[]⟩ : ByteArray), .bool false, .string (⟨#[]⟩ : ByteArray)]) (t := 51) ?hr ?_; (case hd => rfl); (case hg => rfl); (case hr => first | (go_simp; done) | (go_simp; rfl)); intro gd hg_gd w5 hx_gd hb_gd; have HGQ := As.mk (Nat.le_of_eq hg_gd.symm : wr.heap.size ≤ gd); clear hg_gd; have x0 := (heap_cell hx_gd 0).trans rfl; have z0 := blk_frozen hx_gd 0; have x1 := (heap_cell hx_gd 1).trans rfl; have z1 := blk_frozen hx_gd 1; have x2 := (heap_cell hx_gd 2).trans rfl; have z2 := blk_frozen hx_gd 2; have x3 := (heap_cell hx_gd 3).trans rfl; have z3 := blk_frozen hx_gd 3; have x4 := (heap_cell hx_gd 4).trans rfl; have z4 := blk_frozen hx_gd 4; have x5 := (heap_cell hx_gd 5).trans rfl; have z5 := blk_frozen hx_gd 5)
          | (go_at_call 69; have hb2 := ((((((hb_gd.setCell (p := ⟨gd, 0, none⟩) HGQ.out (.int .i64 d0)).setCell (p := ⟨gd, 1, none⟩) HGQ.out (.string d1)).setCell (p := ⟨gd, 2, none⟩) HGQ.out (.bool false)).setCell (p := ⟨gd, 3, none⟩) HGQ.out (.string d3)).setCell (p := ⟨gd, 4, none⟩) HGQ.out (.bool true)).setCell (p := ⟨gd, 5, none⟩) HGQ.out (.string d5)); have hx3 := (blk_put (blk_put (blk_put (blk_put (blk_put (blk_put hx_gd 0 (.int .i64 d0) rfl) 1 (.string d1) rfl) 2 (.bool false) rfl) 3 (.string d3) rfl) 4 (.bool true) rfl) 5 (.string d5) rfl); refine (kvGetB_calls b2 U d1 _ (HM.out.below hb2)).mono ?_; rw [HGT.out]; rintro e w6 ⟨rfl, hb⟩; have hx := blk_step hx3 hb; have HM2 := As.mk ((HM.out.below hb2).below hb); have HG2 := As.mk (turn_trans HG.out (grown_of_below (bstep hb2 hb) (some b2))); have y0 := (heap_cell hx 0).trans rfl; have y1 := (heap_cell hx 1).trans rfl; have y2 := (heap_cell hx 2).trans rfl; have y3 := (heap_cell hx 3).trans rfl; have y4 := (heap_cell hx 4).trans rfl; have y5 := (heap_cell hx 5).trans rfl; clear hb hb2 hx3 hb_gd)
          | (go_at_call 70; have ha := (Below.refl w6.heap.size w6).alloc (Nat.le_refl _) (Obj.cells #[.int .i64 d0, .string d1, .bool false, .string d3, .bool true, .string d5] 51); refine (kvTake_calls b2 U _ [⟨d0, d1, false, d3, true, d5⟩] _ (HM2.out.below ha) (SlB_new _ b2 ⟨d0, d1, false, d3, true, d5⟩ (by have := HM2.out.lt; omega)) (by simp only [List.length_singleton]; omega)).mono ?_; rintro e w7 ⟨rfl, hM7, hG7⟩; have HM7 := As.mk hM7; have HG7 := As.mk (turn_trans (turn_trans HG2.out (grown_of_below ha (some b2))) hG7); clear ha hM7 hG7))
        go_roundg (L.length - (k + 1))
        case measure => omega
        case rel => exact ⟨k + 1, _, by go_num, ⟨HPL.out.symm, HM7.out, HG7.out, by omega, Nat.le_refl _⟩⟩
      · skip
        have HGT := As.mk hgt
        have HNN := As.mk hnn
        clear hgt hnn
        go_wp2_with (first
          | ((with_reducible refine gate_dst (N := 7) rfl ?_); refine box_event ?hg (N := 7) ?hd (cs := #[.int .i64 0, .string (⟨#[]⟩ : ByteArray), .bool false, .string (⟨#[]⟩ : ByteArray), .bool false, .string (⟨#[]⟩ : ByteArray)]) (t := 51) ?hr ?_; (case hd => rfl); (case hg => rfl); (case hr => first | (go_simp; done) | (go_simp; rfl)); intro gd hg_gd w5 hx_gd hb_gd; have HGQ := As.mk (Nat.le_of_eq hg_gd.symm : wr.heap.size ≤ gd); clear hg_gd; have x0 := (heap_cell hx_gd 0).trans rfl; have z0 := blk_frozen hx_gd 0; have x1 := (heap_cell hx_gd 1).trans rfl; have z1 := blk_frozen hx_gd 1; have x2 := (heap_cell hx_gd 2).trans rfl; have z2 := blk_frozen hx_gd 2; have x3 := (heap_cell hx_gd 3).trans rfl; have z3 := blk_frozen hx_gd 3; have x4 := (heap_cell hx_gd 4).trans rfl; have z4 := blk_frozen hx_gd 4; have x5 := (heap_cell hx_gd 5).trans rfl; have z5 := blk_frozen hx_gd 5)
          | (go_at_call 69; have hb2 := ((((((hb_gd.setCell (p := ⟨gd, 0, none⟩) HGQ.out (.int .i64 d0)).setCell (p := ⟨gd, 1, none⟩) HGQ.out (.string d1)).setCell (p := ⟨gd, 2, none⟩) HGQ.out (.bool true)).setCell (p := ⟨gd, 3, none⟩) HGQ.out (.string d3)).setCell (p := ⟨gd, 4, none⟩) HGQ.out (.bool false)).setCell (p := ⟨gd, 5, none⟩) HGQ.out (.string d5)); have hx3 := (blk_put (blk_put (blk_put (blk_put (blk_put (blk_put hx_gd 0 (.int .i64 d0) rfl) 1 (.string d1) rfl) 2 (.bool true) rfl) 3 (.string d3) rfl) 4 (.bool false) rfl) 5 (.string d5) rfl); refine (kvGetB_calls b2 U d1 _ (HM.out.below hb2)).mono ?_; rw [HGT.out]; rintro e w6 ⟨rfl, hb⟩; have hx := blk_step hx3 hb; have HM2 := As.mk ((HM.out.below hb2).below hb); have HG2 := As.mk (turn_trans HG.out (grown_of_below (bstep hb2 hb) (some b2))); have y0 := (heap_cell hx 0).trans rfl; have y1 := (heap_cell hx 1).trans rfl; have y2 := (heap_cell hx 2).trans rfl; have y3 := (heap_cell hx 3).trans rfl; have y4 := (heap_cell hx 4).trans rfl; have y5 := (heap_cell hx 5).trans rfl; clear hb hb2 hx3 hb_gd)
          | (go_at_call 70; have ha := (Below.refl w6.heap.size w6).alloc (Nat.le_refl _) (Obj.cells #[.int .i64 d0, .string d1, .bool true, .string d3, .bool false, .string d5] 51); refine (kvTake_calls b2 U _ [⟨d0, d1, true, d3, false, d5⟩] _ (HM2.out.below ha) (SlB_new _ b2 ⟨d0, d1, true, d3, false, d5⟩ (by have := HM2.out.lt; omega)) (by simp only [List.length_singleton]; omega)).mono ?_; rintro e w7 ⟨rfl, hM7, hG7⟩; have HM7 := As.mk hM7; have HG7 := As.mk (turn_trans (turn_trans HG2.out (grown_of_below ha (some b2))) hG7); clear ha hM7 hG7))
        go_roundg (L.length - (k + 1))
        case measure => omega
        case rel => exact ⟨k + 1, _, by go_num, ⟨HPL.out.symm, HM7.out, HG7.out, by omega, Nat.le_refl _⟩⟩
      · skip
        have HGT := As.mk hgt
        have HNN := As.mk hnn
        clear hgt hnn
        have q3 : (d3.toList == d5.toList) = false := key_ne (fun e => HNN.out ⟨rfl, e⟩)
        go_wp2_with (first
          | ((with_reducible refine gate_dst (N := 7) rfl ?_); refine box_event ?hg (N := 7) ?hd (cs := #[.int .i64 0, .string (⟨#[]⟩ : ByteArray), .bool false, .string (⟨#[]⟩ : ByteArray), .bool false, .string (⟨#[]⟩ : ByteArray)]) (t := 51) ?hr ?_; (case hd => rfl); (case hg => rfl); (case hr => first | (go_simp; done) | (go_simp; rfl)); intro gd hg_gd w5 hx_gd hb_gd; have HGQ := As.mk (Nat.le_of_eq hg_gd.symm : wr.heap.size ≤ gd); clear hg_gd; have x0 := (heap_cell hx_gd 0).trans rfl; have z0 := blk_frozen hx_gd 0; have x1 := (heap_cell hx_gd 1).trans rfl; have z1 := blk_frozen hx_gd 1; have x2 := (heap_cell hx_gd 2).trans rfl; have z2 := blk_frozen hx_gd 2; have x3 := (heap_cell hx_gd 3).trans rfl; have z3 := blk_frozen hx_gd 3; have x4 := (heap_cell hx_gd 4).trans rfl; have z4 := blk_frozen hx_gd 4; have x5 := (heap_cell hx_gd 5).trans rfl; have z5 := blk_frozen hx_gd 5)
          | (go_at_call 69; have hb2 := ((((((hb_gd.setCell (p := ⟨gd, 0, none⟩) HGQ.out (.int .i64 d0)).setCell (p := ⟨gd, 1, none⟩) HGQ.out (.string d1)).setCell (p := ⟨gd, 2, none⟩) HGQ.out (.bool true)).setCell (p := ⟨gd, 3, none⟩) HGQ.out (.string d3)).setCell (p := ⟨gd, 4, none⟩) HGQ.out (.bool true)).setCell (p := ⟨gd, 5, none⟩) HGQ.out (.string d5)); have hx3 := (blk_put (blk_put (blk_put (blk_put (blk_put (blk_put hx_gd 0 (.int .i64 d0) rfl) 1 (.string d1) rfl) 2 (.bool true) rfl) 3 (.string d3) rfl) 4 (.bool true) rfl) 5 (.string d5) rfl); refine (kvGetB_calls b2 U d1 _ (HM.out.below hb2)).mono ?_; rw [HGT.out]; rintro e w6 ⟨rfl, hb⟩; have hx := blk_step hx3 hb; have HM2 := As.mk ((HM.out.below hb2).below hb); have HG2 := As.mk (turn_trans HG.out (grown_of_below (bstep hb2 hb) (some b2))); have y0 := (heap_cell hx 0).trans rfl; have y1 := (heap_cell hx 1).trans rfl; have y2 := (heap_cell hx 2).trans rfl; have y3 := (heap_cell hx 3).trans rfl; have y4 := (heap_cell hx 4).trans rfl; have y5 := (heap_cell hx 5).trans rfl; clear hb hb2 hx3 hb_gd)
          | (go_at_call 70; have ha := (Below.refl w6.heap.size w6).alloc (Nat.le_refl _) (Obj.cells #[.int .i64 d0, .string d1, .bool true, .string d3, .bool true, .string d5] 51); refine (kvTake_calls b2 U _ [⟨d0, d1, true, d3, true, d5⟩] _ (HM2.out.below ha) (SlB_new _ b2 ⟨d0, d1, true, d3, true, d5⟩ (by have := HM2.out.lt; omega)) (by simp only [List.length_singleton]; omega)).mono ?_; rintro e w7 ⟨rfl, hM7, hG7⟩; have HM7 := As.mk hM7; have HG7 := As.mk (turn_trans (turn_trans HG2.out (grown_of_below ha (some b2))) hG7); clear ha hM7 hG7))
        go_roundg (L.length - (k + 1))
        case measure => omega
        case rel => exact ⟨k + 1, _, by go_num, ⟨HPL.out.symm, HM7.out, HG7.out, by omega, Nat.le_refl _⟩⟩
    · obtain rfl : k = L.length := by omega
      rw [List.take_length, M2.out] at hU
      rw [hU] at hM
      clear hU
      have HMa := As.mk (HM1.out.turn HM20.out HN12.out hG)
      have HMb := As.mk hM
      have HB := As.mk (HB4.out.trans (turn_below hG (Nat.le_trans HB3.out.size HLT.out) HB4.out.size))
      have hsl := T.scan_length ⟨#[]⟩ ⟨#[]⟩ t.size t []
      simp only [List.length_nil, Nat.zero_add] at hsl
      have HSL : As (((T.scan ⟨#[]⟩ ⟨#[]⟩ t.size t []).map mkO).length < 4398046511104) := ⟨by rw [List.length_map]; omega⟩
      clear hsl hG hM
      go_wp2_with (first
        | (go_at_call_of 72 (Value.pointer (some ⟨b1, 0, none⟩)); refine (kvScan_calls b1 t ⟨#[]⟩ ⟨#[]⟩ _ HMa.out (by omega)).mono ?_; rintro e w8 ⟨v8, rfl, hS, hb⟩; have HV8 := As.mk hS; have HMb := As.mk (HMb.out.below hb); have HB := As.mk (bstep HB.out hb); clear hS hb)
        | (go_at_call_of 72 (Value.pointer (some ⟨b2, 0, none⟩)); refine (kvScan_calls b2 t ⟨#[]⟩ ⟨#[]⟩ _ HMb.out (by omega)).mono ?_; rintro e w9 ⟨v9, rfl, hS, hb⟩; have HV9 := As.mk hS; have HV8 := As.mk (HV8.out.below hb); have HB := As.mk (bstep HB.out hb); clear hS hb)
        | (go_at_call 71; refine (OpsEq_calls _ _ _ _ HV8.out HV9.out HSL.out).mono ?_; rintro e w10 ⟨rfl, hb⟩; have HB := As.mk (bstep HB.out hb); clear hb)
        | (go_at_call 55; refine (awake9_calls _).mono ?_; rintro e w11 ⟨rfl, hb⟩; have HB := As.mk (bstep HB.out hb); clear hb))
      go_ret
      exact ⟨rfl, HB.out⟩

end Go.Proofs.Ytehnkoglhbbfjaa
