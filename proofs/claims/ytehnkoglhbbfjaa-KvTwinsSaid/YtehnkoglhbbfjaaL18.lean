/-
  The law KvTwins: its walk.
-/
import Derived.Test.YtehnkoglhbbfjaaL16
set_option linter.unusedVariables false
set_option linter.unusedSimpArgs false
namespace Go.Proofs.Ytehnkoglhbbfjaa
open Go.RowKit Go.Proofs.YtehnkoglhbbfjaaW.PrintWords Go.Proofs.YtehnkoglhbbfjaaW.PrintLast Go.Proofs.YtehnkoglhbbfjaaW.PrintMore PAll

def doK (t : T) (k : S98) : T := doF k.f1 t k.f2 k.f3
theorem foldD_size (l : List S98) : ∀ t : T, (l.foldl doK t).size ≤ t.size + 6 * l.length := by
  induction l with
  | nil => intro t; exact Nat.le_refl _
  | cons k r ih =>
    intro t
    have h1 := ih (doK t k)
    have h2 : (doK t k).size ≤ t.size + 6 := doF_size k.f1 t k.f2 k.f3
    simp only [List.foldl_cons, List.length_cons]
    omega

set_option maxHeartbeats 4000000 in
set_option maxRecDepth 100000 in
theorem kvTwins_calls (v : Value) (l : List S98) (v' : Value) (one : List S98) (v'' : Value) (two : List S98) (w : World) (h : SlK w v l) (h' : SlK w v' one) (h'' : SlK w v'' two) :
    Calls Try.prog 18 #[v, v', v''] w fun e w' => e = .returned (.bool true) ∧ Below w.heap.size w w' := by
  have HK := As.mk h
  have HO := As.mk h'
  have HW := As.mk h''
  have HB := As.mk (Below.refl w.heap.size w)
  have HC1 := As.mk h'
  have HK0 := As.mk h
  have HC2 := As.mk h''
  obtain ⟨A, c, rfl, -, -⟩ := h
  obtain ⟨A', c', rfl, -, -⟩ := h'
  obtain ⟨A'', c'', rfl, -, -⟩ := h''
  obtain ⟨m1, m2, m3⟩ := madeF_told l
  have hsz := madeF_size l
  obtain ⟨t, L, hml⟩ : ∃ t L, madeF l = (t, L) := ⟨_, _, rfl⟩
  rw [hml] at m1 m2 m3 hsz
  dsimp only at m1 m2 m3 hsz
  have HML := As.mk hml
  have T1 := True.intro
  have T2 := True.intro
  have T3 := True.intro
  clear hml m1 m2 m3
  go_enter Try.func18, Try.ntmps18
  go_wp2_with (first
    | (go_at_call 66; have _t := T1; refine (Short9_calls _ l _ HK.out).mono ?_; rintro e w1 ⟨b, rfl, hle, hb⟩; have HLE := As.mk hle; have HK := As.mk (HK.out.below hb); have HO := As.mk (HO.out.below hb); have HW := As.mk (HW.out.below hb); have HB := As.mk (bstep HB.out hb); clear hb hle T1; rcases b with _ | _)
    | (go_at_call 66; have _t := T2; refine (Short9_calls _ one _ HO.out).mono ?_; rintro e w1 ⟨b, rfl, hle, hb⟩; have HLE1 := As.mk hle; have HK := As.mk (HK.out.below hb); have HO := As.mk (HO.out.below hb); have HW := As.mk (HW.out.below hb); have HB := As.mk (bstep HB.out hb); clear hb hle T2; rcases b with _ | _)
    | (go_at_call 66; refine (Short9_calls _ two _ HW.out).mono ?_; rintro e w1 ⟨b, rfl, hle, hb⟩; have HLE2 := As.mk hle; have HK := As.mk (HK.out.below hb); have HO := As.mk (HO.out.below hb); have HW := As.mk (HW.out.below hb); have HB := As.mk (bstep HB.out hb); clear hb hle; rcases b with _ | _)
    | (go_at_call 55; refine (awake9_calls _).mono ?_; rintro e w2 ⟨rfl, hb⟩; have HB2 := As.mk (bstep HB.out hb); clear hb)
    | (go_at_call 67; refine (madeKv_calls _ l _ HK.out (HLE.out trivial)).mono ?_; rw [HML.out]; rintro e w3 ⟨b1, r1, rfl, hb1, hM1, hR1, hb⟩; obtain ⟨A1, c1, e1, -, -⟩ := Kd.R_reads hR1; subst e1; have HM1 := As.mk hM1; have HW1 := As.mk (Nat.le_trans HB.out.size hb1); have HK := As.mk (HK.out.below hb); have HB := As.mk (bstep HB.out hb); clear hb hM1 hb1 hR1)
    | (go_at_call 73; refine (kvClone_calls b1 t _ HM1.out).mono ?_; rintro e w4 ⟨b2, rfl, hb2, hM2, hb⟩; have HMa := As.mk hM2; have H12 : As (b1 ≠ b2) := ⟨by have := HM1.out.lt; omega⟩; have HM1 := As.mk (HM1.out.below hb); have HW2 := As.mk (Nat.le_trans HB.out.size hb2); have HK := As.mk (HK.out.below hb); have HB := As.mk (bstep HB.out hb); clear hb hM2 hb2))
  all_goals (try (go_ret; exact ⟨rfl, HB2.out⟩))
  have hl0 := HLE.out trivial
  have hl1 := HLE1.out trivial
  have hl2 := HLE2.out trivial
  have HC : As (Kd.C k98 w A' one.length one) := ⟨by obtain ⟨A1, c1, e1, -, h1⟩ := HC1.out; cases e1; exact h1⟩
  clear HO HW HC1
  go_loopg [11, 39] one.length (fun m v11 v39 wr => ∃ (k : Nat) (U : T), v39 = .int .i64 k ∧ As (U = (one.take k).foldl doK t ∧ IsM wr b1 U ∧ w4.grownBy wr (some b1) ∧ k ≤ one.length ∧ one.length - k ≤ m))
  case atStart => exact ⟨0, t, rfl, ⟨rfl, HM1.out, World.grownBy.refl _ _, Nat.zero_le _, Nat.le_refl _⟩⟩
  case round =>
    obtain ⟨k, U, rfl, ⟨hU, hM, hG, hk, hm⟩⟩ := hrel
    by_cases hlt : k < one.length
    · have hB := HB.out.trans (turn_below hG HW1.out HB.out.size)
      obtain ⟨ad, B2, c2, B3, c3, hA, hx0, hx1, hx2, hx3, hx4, hx5, hx6, hx7, hx8, hx9, hx10, hx11, hl2, hc2, hl3, hc3⟩ := at_T98 HC.out (k : Int) (by omega) (by omega)
      subst hA
      have hts := take_snoc one z98 k hlt
      have hrd : rd_T98 one (k : Int) = one.getD k z98 := by unfold rd_T98; rw [Int.toNat_natCast]
      rw [hrd, Int.toNat_natCast] at hx0
      rw [hrd] at hl2 hc2 hl3 hc3
      rw [hrd, Int.toNat_natCast] at hx1 hx2 hx3 hx4 hx5 hx6 hx7 hx8 hx9 hx10 hx11
      have hpl : (one.take (k + 1)).foldl doK t = doK U (one.getD k z98) := by rw [hts, List.foldl_append, ← hU]; rfl
      have hsu := foldD_size (one.take k) t
      rw [← hU, List.length_take] at hsu
      generalize one.getD k z98 = dd at *
      have HPL := As.mk hpl
      clear hts hrd hpl hU
      obtain ⟨d0, d1, d2, d3, d4, d5, e0, e1, e2, e3, e4, e5⟩ := dd
      dsimp only at hx0 hx1 hx2 hx3 hx4 hx5 hx6 hx7 hx8 hx9 hx10 hx11 hl2 hc2 hl3 hc3
      replace hx0 := (hB.cell (World.block_lt_of_cell? w _ hx0)).trans hx0
      replace hx1 := (hB.cell (World.block_lt_of_cell? w _ hx1)).trans hx1
      replace hx2 := (hB.cell (World.block_lt_of_cell? w _ hx2)).trans hx2
      replace hx3 := (hB.cell (World.block_lt_of_cell? w _ hx3)).trans hx3
      replace hx4 := (hB.cell (World.block_lt_of_cell? w _ hx4)).trans hx4
      replace hx5 := (hB.cell (World.block_lt_of_cell? w _ hx5)).trans hx5
      replace hx6 := (hB.cell (World.block_lt_of_cell? w _ hx6)).trans hx6
      replace hx7 := (hB.cell (World.block_lt_of_cell? w _ hx7)).trans hx7
      replace hx8 := (hB.cell (World.block_lt_of_cell? w _ hx8)).trans hx8
      replace hx9 := (hB.cell (World.block_lt_of_cell? w _ hx9)).trans hx9
      replace hx10 := (hB.cell (World.block_lt_of_cell? w _ hx10)).trans hx10
      replace hx11 := (hB.cell (World.block_lt_of_cell? w _ hx11)).trans hx11
      have p0 : 0 ≤ (k : Int) := by omega
      have HS2 : As (SlO w (.slice B2 d2.length c2) d2) := ⟨B2, c2, rfl, hl2, hc2⟩
      have HS3 : As (SlO w (.slice B3 d3.length c3) d3) := ⟨B3, c3, rfl, hl3, hc3⟩
      clear hl2 hc2 hl3 hc3
      have HM := As.mk hM
      have HG := As.mk hG
      have HBR := As.mk hB
      clear hM hG hB
      go_wp2_with (first
        | ((with_reducible refine gate_dst (N := 11) rfl ?_); refine box_event ?hg (N := 11) ?hd (cs := #[.int .i64 0, .int .i64 0, .slice none 0 0, .slice none 0 0, .string (⟨#[]⟩ : ByteArray), .string (⟨#[]⟩ : ByteArray), .int .i64 0, .string (⟨#[]⟩ : ByteArray), .bool false, .string (⟨#[]⟩ : ByteArray), .bool false, .string (⟨#[]⟩ : ByteArray)]) (t := 98) ?hr ?_; (case hd => rfl); (case hg => rfl); (case hr => first | (go_simp; done) | (go_simp; rfl)); intro gd hg_gd w5 hx_gd hb_gd; have HGQ := As.mk (Nat.le_of_eq hg_gd.symm : wr.heap.size ≤ gd); clear hg_gd; have x0 := (heap_cell hx_gd 0).trans rfl; have z0 := blk_frozen hx_gd 0; have x1 := (heap_cell hx_gd 1).trans rfl; have z1 := blk_frozen hx_gd 1; have x2 := (heap_cell hx_gd 2).trans rfl; have z2 := blk_frozen hx_gd 2; have x3 := (heap_cell hx_gd 3).trans rfl; have z3 := blk_frozen hx_gd 3; have x4 := (heap_cell hx_gd 4).trans rfl; have z4 := blk_frozen hx_gd 4; have x5 := (heap_cell hx_gd 5).trans rfl; have z5 := blk_frozen hx_gd 5; have x6 := (heap_cell hx_gd 6).trans rfl; have z6 := blk_frozen hx_gd 6; have x7 := (heap_cell hx_gd 7).trans rfl; have z7 := blk_frozen hx_gd 7; have x8 := (heap_cell hx_gd 8).trans rfl; have z8 := blk_frozen hx_gd 8; have x9 := (heap_cell hx_gd 9).trans rfl; have z9 := blk_frozen hx_gd 9; have x10 := (heap_cell hx_gd 10).trans rfl; have z10 := blk_frozen hx_gd 10; have x11 := (heap_cell hx_gd 11).trans rfl; have z11 := blk_frozen hx_gd 11)
        | (go_at_call 74; have hb2 := ((((((((((((hb_gd.setCell (p := ⟨gd, 0, none⟩) HGQ.out (.int .i64 d0)).setCell (p := ⟨gd, 1, none⟩) HGQ.out (.int .i64 d1)).setCell (p := ⟨gd, 2, none⟩) HGQ.out (.slice B2 d2.length c2)).setCell (p := ⟨gd, 3, none⟩) HGQ.out (.slice B3 d3.length c3)).setCell (p := ⟨gd, 4, none⟩) HGQ.out (.string d4)).setCell (p := ⟨gd, 5, none⟩) HGQ.out (.string d5)).setCell (p := ⟨gd, 6, none⟩) HGQ.out (.int .i64 e0)).setCell (p := ⟨gd, 7, none⟩) HGQ.out (.string e1)).setCell (p := ⟨gd, 8, none⟩) HGQ.out (.bool e2)).setCell (p := ⟨gd, 9, none⟩) HGQ.out (.string e3)).setCell (p := ⟨gd, 10, none⟩) HGQ.out (.bool e4)).setCell (p := ⟨gd, 11, none⟩) HGQ.out (.string e5)); have hx3 := (blk_put (blk_put (blk_put (blk_put (blk_put (blk_put (blk_put (blk_put (blk_put (blk_put (blk_put (blk_put hx_gd 0 (.int .i64 d0) rfl) 1 (.int .i64 d1) rfl) 2 (.slice B2 d2.length c2) rfl) 3 (.slice B3 d3.length c3) rfl) 4 (.string d4) rfl) 5 (.string d5) rfl) 6 (.int .i64 e0) rfl) 7 (.string e1) rfl) 8 (.bool e2) rfl) 9 (.string e3) rfl) 10 (.bool e4) rfl) 11 (.string e5) rfl); refine (kvDo_calls b1 U d1 _ _ d2 d3 _ (HM.out.below hb2) ((HS2.out.below HBR.out).below hb2) ((HS3.out.below HBR.out).below hb2) (by omega)).mono ?_; rintro e w6 ⟨r6, rfl, hR6, hM6, hG6⟩; have HM6 := As.mk hM6; have HG6 := As.mk (turn_trans (turn_trans HG.out (grown_of_below hb2 (some b1))) hG6); clear hb2 hx3 hR6 hM6 hG6 hb_gd))
      go_roundg (one.length - (k + 1))
      case measure => omega
      case rel => exact ⟨k + 1, _, by go_num, ⟨HPL.out.symm, HM6.out, HG6.out, by omega, Nat.le_refl _⟩⟩
    · obtain rfl : k = one.length := by omega
      have hB := HB.out.trans (turn_below hG HW1.out HB.out.size)
      have HBA := As.mk hB
      have HK5 := As.mk (HC2.out.below hB)
      have HK6 : As (SlK wr (.slice A l.length c) l) := ⟨by
        obtain ⟨A1, c1, e1, h2, h3⟩ := HK0.out
        exact ⟨A1, c1, e1, h2, Kd.C_below h3 hB⟩⟩
      have HMa5 := As.mk (HMa.out.turn HM1.out (fun e => H12.out e.symm) hG)
      clear hU hM hG hB HM1 HC HK HMa
      go_wp2_with (first
        | (go_at_call 67; refine (madeKv_calls _ l _ HK6.out hl0).mono ?_; rw [HML.out]; rintro e w8 ⟨b3, r3, rfl, hb3, hM3, hR3, hb⟩; obtain ⟨A3, c3, e3, -, -⟩ := Kd.R_reads hR3; subst e3; have HMb := As.mk hM3; have HW3 := As.mk (Nat.le_trans HBA.out.size hb3); have H23 : As (b2 ≠ b3) := ⟨by have := HMa5.out.lt; omega⟩; have HMa := As.mk (HMa5.out.below hb); have HB8 := As.mk (bstep HBA.out hb); clear hb hM3 hb3 hR3))
      have HC : As (Kd.C k98 w A'' two.length two) := ⟨by obtain ⟨A1, c1, e1, -, h1⟩ := HC2.out; cases e1; exact h1⟩
      have HMa0 := HMa
      have HMb0 := HMb
      clear HMa HMb HMa5 HBA HK5 HK6 HC2
      go_loopg [15, 59] two.length (fun m v15 v59 wr => ∃ (k : Nat) (U : T), v59 = .int .i64 k ∧ As (U = (two.take k).foldl doK t ∧ IsM wr b2 U ∧ IsM wr b3 U ∧ Below w.heap.size w wr ∧ k ≤ two.length ∧ two.length - k ≤ m))
      case atStart => exact ⟨0, t, rfl, ⟨rfl, HMa0.out, HMb0.out, HB8.out, Nat.zero_le _, Nat.le_refl _⟩⟩
      case round =>
        obtain ⟨k, U, rfl, ⟨hU, hMa, hMb, hB, hk, hm⟩⟩ := hrel
        clear HMa0 HMb0
        by_cases hlt : k < two.length
        · skip
          obtain ⟨ad, B2, c2, B3, c3, hA, hx0, hx1, hx2, hx3, hx4, hx5, hx6, hx7, hx8, hx9, hx10, hx11, hl2, hc2, hl3, hc3⟩ := at_T98 HC.out (k : Int) (by omega) (by omega)
          subst hA
          have hts := take_snoc two z98 k hlt
          have hrd : rd_T98 two (k : Int) = two.getD k z98 := by unfold rd_T98; rw [Int.toNat_natCast]
          rw [hrd, Int.toNat_natCast] at hx0
          rw [hrd] at hl2 hc2 hl3 hc3
          rw [hrd, Int.toNat_natCast] at hx1 hx2 hx3 hx4 hx5 hx6 hx7 hx8 hx9 hx10 hx11
          have hpl : (two.take (k + 1)).foldl doK t = doK U (two.getD k z98) := by rw [hts, List.foldl_append, ← hU]; rfl
          have hsu := foldD_size (two.take k) t
          rw [← hU, List.length_take] at hsu
          generalize two.getD k z98 = dd at *
          have HPL := As.mk hpl
          clear hts hrd hpl hU
          obtain ⟨d0, d1, d2, d3, d4, d5, e0, e1, e2, e3, e4, e5⟩ := dd
          dsimp only at hx0 hx1 hx2 hx3 hx4 hx5 hx6 hx7 hx8 hx9 hx10 hx11 hl2 hc2 hl3 hc3
          replace hx0 := (hB.cell (World.block_lt_of_cell? w _ hx0)).trans hx0
          replace hx1 := (hB.cell (World.block_lt_of_cell? w _ hx1)).trans hx1
          replace hx2 := (hB.cell (World.block_lt_of_cell? w _ hx2)).trans hx2
          replace hx3 := (hB.cell (World.block_lt_of_cell? w _ hx3)).trans hx3
          replace hx4 := (hB.cell (World.block_lt_of_cell? w _ hx4)).trans hx4
          replace hx5 := (hB.cell (World.block_lt_of_cell? w _ hx5)).trans hx5
          replace hx6 := (hB.cell (World.block_lt_of_cell? w _ hx6)).trans hx6
          replace hx7 := (hB.cell (World.block_lt_of_cell? w _ hx7)).trans hx7
          replace hx8 := (hB.cell (World.block_lt_of_cell? w _ hx8)).trans hx8
          replace hx9 := (hB.cell (World.block_lt_of_cell? w _ hx9)).trans hx9
          replace hx10 := (hB.cell (World.block_lt_of_cell? w _ hx10)).trans hx10
          replace hx11 := (hB.cell (World.block_lt_of_cell? w _ hx11)).trans hx11
          have p0 : 0 ≤ (k : Int) := by omega
          have HS2 : As (SlO w (.slice B2 d2.length c2) d2) := ⟨B2, c2, rfl, hl2, hc2⟩
          have HS3 : As (SlO w (.slice B3 d3.length c3) d3) := ⟨B3, c3, rfl, hl3, hc3⟩
          clear hl2 hc2 hl3 hc3
          have HMa := As.mk hMa
          have HMb := As.mk hMb
          have HBR := As.mk hB
          clear hMa hMb hB
          go_wp2_with (first
            | ((with_reducible refine gate_dst (N := 15) rfl ?_); refine box_event ?hg (N := 15) ?hd (cs := #[.int .i64 0, .int .i64 0, .slice none 0 0, .slice none 0 0, .string (⟨#[]⟩ : ByteArray), .string (⟨#[]⟩ : ByteArray), .int .i64 0, .string (⟨#[]⟩ : ByteArray), .bool false, .string (⟨#[]⟩ : ByteArray), .bool false, .string (⟨#[]⟩ : ByteArray)]) (t := 98) ?hr ?_; (case hd => rfl); (case hg => rfl); (case hr => first | (go_simp; done) | (go_simp; rfl)); intro gd hg_gd w5 hx_gd hb_gd; have HGQ := As.mk (Nat.le_of_eq hg_gd.symm : wr.heap.size ≤ gd); clear hg_gd; have x0 := (heap_cell hx_gd 0).trans rfl; have z0 := blk_frozen hx_gd 0; have x1 := (heap_cell hx_gd 1).trans rfl; have z1 := blk_frozen hx_gd 1; have x2 := (heap_cell hx_gd 2).trans rfl; have z2 := blk_frozen hx_gd 2; have x3 := (heap_cell hx_gd 3).trans rfl; have z3 := blk_frozen hx_gd 3; have x4 := (heap_cell hx_gd 4).trans rfl; have z4 := blk_frozen hx_gd 4; have x5 := (heap_cell hx_gd 5).trans rfl; have z5 := blk_frozen hx_gd 5; have x6 := (heap_cell hx_gd 6).trans rfl; have z6 := blk_frozen hx_gd 6; have x7 := (heap_cell hx_gd 7).trans rfl; have z7 := blk_frozen hx_gd 7; have x8 := (heap_cell hx_gd 8).trans rfl; have z8 := blk_frozen hx_gd 8; have x9 := (heap_cell hx_gd 9).trans rfl; have z9 := blk_frozen hx_gd 9; have x10 := (heap_cell hx_gd 10).trans rfl; have z10 := blk_frozen hx_gd 10; have x11 := (heap_cell hx_gd 11).trans rfl; have z11 := blk_frozen hx_gd 11)
            | (go_at_call_of 74 (Value.pointer (some ⟨b2, 0, none⟩)); have hb2 := ((((((((((((hb_gd.setCell (p := ⟨gd, 0, none⟩) HGQ.out (.int .i64 d0)).setCell (p := ⟨gd, 1, none⟩) HGQ.out (.int .i64 d1)).setCell (p := ⟨gd, 2, none⟩) HGQ.out (.slice B2 d2.length c2)).setCell (p := ⟨gd, 3, none⟩) HGQ.out (.slice B3 d3.length c3)).setCell (p := ⟨gd, 4, none⟩) HGQ.out (.string d4)).setCell (p := ⟨gd, 5, none⟩) HGQ.out (.string d5)).setCell (p := ⟨gd, 6, none⟩) HGQ.out (.int .i64 e0)).setCell (p := ⟨gd, 7, none⟩) HGQ.out (.string e1)).setCell (p := ⟨gd, 8, none⟩) HGQ.out (.bool e2)).setCell (p := ⟨gd, 9, none⟩) HGQ.out (.string e3)).setCell (p := ⟨gd, 10, none⟩) HGQ.out (.bool e4)).setCell (p := ⟨gd, 11, none⟩) HGQ.out (.string e5)); have hx3 := (blk_put (blk_put (blk_put (blk_put (blk_put (blk_put (blk_put (blk_put (blk_put (blk_put (blk_put (blk_put hx_gd 0 (.int .i64 d0) rfl) 1 (.int .i64 d1) rfl) 2 (.slice B2 d2.length c2) rfl) 3 (.slice B3 d3.length c3) rfl) 4 (.string d4) rfl) 5 (.string d5) rfl) 6 (.int .i64 e0) rfl) 7 (.string e1) rfl) 8 (.bool e2) rfl) 9 (.string e3) rfl) 10 (.bool e4) rfl) 11 (.string e5) rfl); have hgd : gd ≠ b2 := (by have := HMa.out.lt; have := HGQ.out; omega); refine (kvDo_calls b2 U d1 _ _ d2 d3 _ (HMa.out.below hb2) ((HS2.out.below HBR.out).below hb2) ((HS3.out.below HBR.out).below hb2) (by omega)).mono ?_; rintro e w6 ⟨r6, rfl, hR6, hM6, hG6⟩; have hx := blk_grown hx3 hG6 (fun e => hgd (by cases e; rfl)); have y1 := (heap_cell hx 1).trans rfl; have y2 := (heap_cell hx 2).trans rfl; have y3 := (heap_cell hx 3).trans rfl; have HMb6 := As.mk ((HMb.out.below hb2).turn (HMa.out.below hb2) (fun e => H23.out e.symm) hG6); have HMa6 := As.mk hM6; have HB6 := As.mk ((bstep HBR.out hb2).trans (turn_below hG6 HW2.out (Nat.le_trans HBR.out.size hb2.size))); clear hb2 hx3 hR6 hM6 hG6 hb_gd hx hgd)
            | (go_at_call_of 74 (Value.pointer (some ⟨b3, 0, none⟩)); refine (kvDo_calls b3 U d1 _ _ d2 d3 _ HMb6.out (HS2.out.below HB6.out) (HS3.out.below HB6.out) (by omega)).mono ?_; rintro e w7 ⟨r7, rfl, hR7, hM7, hG7⟩; have HMa7 := As.mk (HMa6.out.turn HMb6.out H23.out hG7); have HMb7 := As.mk hM7; have HB7 := As.mk (HB6.out.trans (turn_below hG7 HW3.out HB6.out.size)); clear hR7 hM7 hG7))
          go_roundg (two.length - (k + 1))
          case measure => omega
          case rel => exact ⟨k + 1, _, by go_num, ⟨HPL.out.symm, HMa7.out, HMb7.out, HB7.out, by omega, Nat.le_refl _⟩⟩
        · obtain rfl : k = two.length := by omega
          have hsu := foldD_size two t
          rw [List.take_length] at hU
          rw [← hU] at hsu
          have HMa := As.mk hMa
          have HMb := As.mk hMb
          have HB := As.mk hB
          have hsl := T.scan_length ⟨#[]⟩ ⟨#[]⟩ U.size U []
          simp only [List.length_nil, Nat.zero_add] at hsl
          have HSL : As (((T.scan ⟨#[]⟩ ⟨#[]⟩ U.size U []).map mkO).length < 4398046511104) := ⟨by rw [List.length_map]; omega⟩
          clear hsl hMa hMb hB hU
          go_wp2_with (first
            | (go_at_call_of 72 (Value.pointer (some ⟨b2, 0, none⟩)); refine (kvScan_calls b2 U ⟨#[]⟩ ⟨#[]⟩ _ HMa.out (by omega)).mono ?_; rintro e w8 ⟨v8, rfl, hS, hb⟩; have HV8 := As.mk hS; have HMa := As.mk (HMa.out.below hb); have HMb := As.mk (HMb.out.below hb); have HB := As.mk (bstep HB.out hb); clear hS hb)
            | (go_at_call_of 72 (Value.pointer (some ⟨b3, 0, none⟩)); refine (kvScan_calls b3 U ⟨#[]⟩ ⟨#[]⟩ _ HMb.out (by omega)).mono ?_; rintro e w9 ⟨v9, rfl, hS, hb⟩; have HV9 := As.mk hS; have HMa := As.mk (HMa.out.below hb); have HMb := As.mk (HMb.out.below hb); have HV8 := As.mk (HV8.out.below hb); have HB := As.mk (bstep HB.out hb); clear hS hb)
            | (go_at_call 71; refine (OpsEq_calls _ _ _ _ HV8.out HV9.out HSL.out).mono ?_; rintro e w10 ⟨rfl, hb⟩; have HMa := As.mk (HMa.out.below hb); have HMb := As.mk (HMb.out.below hb); have HB := As.mk (bstep HB.out hb); clear hb)
            | (go_at_call_of 76 (Value.pointer (some ⟨b2, 0, none⟩)); refine (kvLen_calls b2 U _ HMa.out).mono ?_; rintro e w11 ⟨rfl, rfl⟩)
            | (go_at_call_of 76 (Value.pointer (some ⟨b3, 0, none⟩)); refine (kvLen_calls b3 U _ HMb.out).mono ?_; rintro e w11 ⟨rfl, rfl⟩)
            | (go_at_call 55; refine (awake9_calls _).mono ?_; rintro e w11 ⟨rfl, hb⟩; have HB := As.mk (bstep HB.out hb); clear hb))
          go_ret
          exact ⟨rfl, HB.out⟩

end Go.Proofs.Ytehnkoglhbbfjaa
