/-
  The law TreeShallow: its walk.
-/
import Derived.Test.YtehnkoglhbbfjaaT16
set_option linter.unusedVariables false
set_option linter.unusedSimpArgs false
namespace Go.Proofs.Ytehnkoglhbbfjaa
open Go.RowKit Go.Proofs.YtehnkoglhbbfjaaW.PrintWords Go.Proofs.YtehnkoglhbbfjaaW.PrintLast Go.Proofs.YtehnkoglhbbfjaaW.PrintMore PAll

set_option maxHeartbeats 1000000 in
set_option maxRecDepth 100000 in
theorem treeShallow_calls (v : Value) (l : List S27) (w : World) (h : SlD w v l) :
    Calls Try.prog 9 #[v] w fun e w' => e = .returned (.bool true) ∧ Below w.heap.size w w' := by
  obtain ⟨A, c, rfl, hc, hC⟩ := h
  have HD : As (SlD w (.slice A l.length c) l) := ⟨A, c, rfl, hc, hC⟩
  have HC := As.mk hC
  have HS := As.mk (Short1 l A c w HD.out)
  have hB0 : Below w.heap.size w (w.alloc (.cells #[.slice A l.length c] 22)) := (Below.refl _ w).alloc (Nat.le_refl _) _
  have HB0 := As.mk hB0
  clear hC hc hB0
  go_enter Try.func9, Try.ntmps9
  go_wp2_with (first
    | (go_at_call 19; refine HS.out.mono ?_; rintro e w1 ⟨b, rfl, hle, hb⟩; have HB1 := As.mk (bstep HB0.out hb); have HLE := As.mk hle; clear hb hle; rcases b with _ | _)
    | (go_at_call 20; refine (awake_calls _).mono ?_; rintro e w2 ⟨rfl, hb⟩; have HB2 := As.mk (bstep HB1.out hb); clear hb)
    | (go_at_call 46; refine (New_calls w1).mono ?_; rintro e wn ⟨p0, rfl, ht0, hb⟩; have HTN := As.mk ht0; have HBN := As.mk hb; clear ht0 hb))
  · go_ret
    exact ⟨rfl, HB2.out⟩
  have hL : l.length ≤ 300 := HLE.out trivial
  have HC1 := As.mk (Kd.C_below HC.out HB1.out)
  clear HS HB0 HLE HC HD
  go_loopg [3, 5, 18] l.length (fun mm v3 v5 v18 wr => ∃ (q : Option Addr) (k : Nat) (U : T), v3 = .pointer q ∧ v18 = .int .i64 k ∧ As (IsTr wr q U ∧ T.Bal U ∧ U.size ≤ k ∧ k ≤ l.length ∧ l.length - k ≤ mm ∧ Below w1.heap.size w1 wr))
  case atStart => exact ⟨p0, 0, .nil, rfl, rfl, ⟨HTN.out, trivial, Nat.le_refl _, Nat.zero_le _, Nat.le_refl _, HBN.out⟩⟩
  case round =>
    obtain ⟨q, k, U, rfl, rfl, ⟨hq, hbal, hU, hk, hm, hB⟩⟩ := hrel
    clear HTN HBN
    by_cases hlt : k < l.length
    · obtain ⟨ad, hA, hx0, hx1, hx2⟩ := at_T27 HC1.out (k : Int) (by omega) (by omega)
      subst hA
      have hrd : rd_T27 l (k : Int) = l.getD k z27 := by unfold rd_T27; rw [Int.toNat_natCast]
      rw [hrd, Int.toNat_natCast] at hx0
      rw [hrd, Int.toNat_natCast] at hx1 hx2
      clear hrd
      generalize l.getD k z27 = d at *
      obtain ⟨da, db, dc⟩ := d
      dsimp only at hx0 hx1 hx2
      replace hx0 := (hB.cell (World.block_lt_of_cell? w1 _ hx0)).trans hx0
      replace hx1 := (hB.cell (World.block_lt_of_cell? w1 _ hx1)).trans hx1
      replace hx2 := (hB.cell (World.block_lt_of_cell? w1 _ hx2)).trans hx2
      have p0 : 0 ≤ (k : Int) := by omega
      have hs2 := T.step_size U ⟨da, db, dc⟩
      have HBL := As.mk (T.step_bal U ⟨da, db, dc⟩ hbal)
      go_wp2_with (first
        | ((with_reducible refine gate_dst (N := 5) rfl ?_); refine box_event ?hg (N := 5) ?hd (cs := #[.int .i64 0, .string (⟨#[]⟩ : ByteArray), .string (⟨#[]⟩ : ByteArray)]) (t := 27) ?hr ?_; (case hd => rfl); (case hg => rfl); (case hr => first | (go_simp; done) | (go_simp; rfl)); intro gd hg_gd w4 hx_gd hb_gd; have hB1 := bstep hB hb_gd; have GD := As.mk ((by rw [hg_gd]; exact hB.size) : w1.heap.size ≤ gd); have GQ := As.mk (Nat.le_of_eq hg_gd.symm); clear hg_gd; have x0 := (heap_cell hx_gd 0).trans rfl; have x1 := (heap_cell hx_gd 1).trans rfl; have x2 := (heap_cell hx_gd 2).trans rfl; have z0 := blk_frozen hx_gd 0; have z1 := blk_frozen hx_gd 1; have z2 := blk_frozen hx_gd 2)
        | (go_at_call 30; have hb2 := ((hb_gd.setCell (p := ⟨gd, 0, none⟩) GQ.out (.int .i64 da)).setCell (p := ⟨gd, 1, none⟩) GQ.out (.string db)).setCell (p := ⟨gd, 2, none⟩) GQ.out (.string dc); have hB2 := ((hB1.setCell (p := ⟨gd, 0, none⟩) GD.out (.int .i64 da)).setCell (p := ⟨gd, 1, none⟩) GD.out (.string db)).setCell (p := ⟨gd, 2, none⟩) GD.out (.string dc); refine (does_calls q U ⟨da, db, dc⟩ _ (hq.below hb2) (by omega)).mono ?_; rintro e w5 ⟨p3, rfl, h3, hb3⟩; have HU := As.mk h3; have HB := As.mk (bstep hB2 hb3); clear hb3 hb2 hB2 h3)
        | (go_at_call 49; refine (shallow_calls p3 _ _ HU.out HBL.out (by omega)).mono ?_; rintro e w6 ⟨rfl, hb⟩; have HU := As.mk (HU.out.below hb); have HB := As.mk (bstep HB.out hb); clear hb))
      go_roundg (l.length - (k + 1))
      case measure => omega
      case rel => exact ⟨p3, k + 1, _, rfl, by go_num, ⟨HU.out, HBL.out, by omega, by omega, Nat.le_refl _, HB.out⟩⟩
    · have HB := As.mk hB
      have HQ := As.mk hq
      have HSB := As.mk (T.split_bal ⟨#[109]⟩ U hbal)
      have hsz := T.split_size ⟨#[109]⟩ U
      clear hB hq
      go_wp2_with (first
        | (go_at_call 50; refine (Split_calls q U ⟨#[109]⟩ _ HQ.out (by omega)).mono ?_; rintro e w7 ⟨p1, p2, rfl, h1, h2, hb⟩; have HP1 := As.mk h1; have HP2 := As.mk h2; have HB := As.mk (bstep HB.out hb); clear h1 h2 hb)
        | (go_at_call_of 49 (Value.pointer p1); refine (shallow_calls p1 _ _ HP1.out HSB.out.1 (by omega)).mono ?_; rintro e w8 ⟨rfl, hb⟩; have HP2 := As.mk (HP2.out.below hb); have HB := As.mk (bstep HB.out hb); clear hb)
        | (go_at_call_of 49 (Value.pointer p2); refine (shallow_calls p2 _ _ HP2.out HSB.out.2 (by omega)).mono ?_; rintro e w9 ⟨rfl, hb⟩; have HB := As.mk (bstep HB.out hb); clear hb)
        | (go_at_call 20; refine (awake_calls _).mono ?_; rintro e w9 ⟨rfl, hb⟩; have HBZ := As.mk (bstep HB.out hb); clear hb))
      go_ret
      exact ⟨rfl, bstep HB1.out HBZ.out⟩

end Go.Proofs.Ytehnkoglhbbfjaa
