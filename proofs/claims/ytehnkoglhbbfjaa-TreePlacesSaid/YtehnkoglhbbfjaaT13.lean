/-
  The reference's functions that are not printed: Floor, Union, Minus, Both.
-/
import Derived.Test.YtehnkoglhbbfjaaR2
import Derived.Test.YtehnkoglhbbfjaaM7
namespace Go.Proofs.Ytehnkoglhbbfjaa
open Go.RowKit Go.Proofs.YtehnkoglhbbfjaaW.PrintWords Go.Proofs.YtehnkoglhbbfjaaW.PrintLast Go.Proofs.YtehnkoglhbbfjaaW.PrintMore PAll

theorem alloc_size (w : World) (o : Obj) : (w.alloc o).heap.size = w.heap.size + 1 := Array.size_push _
theorem blk_far {w : World} {g g' : Nat} {o : Obj} (h : w.heap[g]? = some o) (hne : g ≠ g') (i : Nat) (u : Value) : (w.setCell ⟨g', i, none⟩ u).heap[g]? = some o :=
  (Below.heap_setCell w ⟨g', i, none⟩ u g hne).trans h

set_option maxHeartbeats 1000000 in
set_option maxRecDepth 100000 in
theorem RefFloor_calls (v : Value) (l : List S29) (key : ByteArray) (w : World) (h : Sl w v l) (hs : l.length < 1000000000) :
    Calls Try.prog 41 #[v, .string key] w fun e w' => e = .returned (.tuple #[.agg #[.string (T.floorL key (z29, false) l).1.f0, .string (T.floorL key (z29, false) l).1.f1], .bool (T.floorL key (z29, false) l).2]) ∧ Below w.heap.size w w' := by
  obtain ⟨A, c, rfl, hc, hC⟩ := h
  have HC := As.mk hC
  clear hC hc
  go_enter Try.func41, Try.ntmps41
  go_wp2_with fail
  have h4 : ((w.alloc (Obj.cells #[.string (⟨#[]⟩ : ByteArray), .string (⟨#[]⟩ : ByteArray)] 29)).alloc (Obj.cells #[.string (⟨#[]⟩ : ByteArray), .string (⟨#[]⟩ : ByteArray)] 29)).heap[w.heap.size]? = some (Obj.cells #[.string (⟨#[]⟩ : ByteArray), .string (⟨#[]⟩ : ByteArray)] 29) := blk_step (heap_alloc_new w _) ((Below.refl _ _).alloc (Nat.le_refl _) _)
  have h6 : ((w.alloc (Obj.cells #[.string (⟨#[]⟩ : ByteArray), .string (⟨#[]⟩ : ByteArray)] 29)).alloc (Obj.cells #[.string (⟨#[]⟩ : ByteArray), .string (⟨#[]⟩ : ByteArray)] 29)).heap[w.heap.size + 1]? = some (Obj.cells #[.string (⟨#[]⟩ : ByteArray), .string (⟨#[]⟩ : ByteArray)] 29) := by
    have := heap_alloc_new (w.alloc (Obj.cells #[.string (⟨#[]⟩ : ByteArray), .string (⟨#[]⟩ : ByteArray)] 29)) (Obj.cells #[.string (⟨#[]⟩ : ByteArray), .string (⟨#[]⟩ : ByteArray)] 29)
    rwa [alloc_size] at this
  have hB0 : Below w.heap.size w ((w.alloc (Obj.cells #[.string (⟨#[]⟩ : ByteArray), .string (⟨#[]⟩ : ByteArray)] 29)).alloc (Obj.cells #[.string (⟨#[]⟩ : ByteArray), .string (⟨#[]⟩ : ByteArray)] 29)) := ((Below.refl _ w).alloc (Nat.le_refl _) _).alloc ((Below.refl _ w).alloc (Nat.le_refl _) _).size _
  have HB0 := As.mk hB0
  have HN := As.mk (And.intro h4 h6)
  clear h4 h6 hB0
  generalize (w.alloc (Obj.cells #[.string (⟨#[]⟩ : ByteArray), .string (⟨#[]⟩ : ByteArray)] 29)).alloc (Obj.cells #[.string (⟨#[]⟩ : ByteArray), .string (⟨#[]⟩ : ByteArray)] 29) = W0 at *
  obtain ⟨g4, hg4⟩ : ∃ g, g = w.heap.size := ⟨_, rfl⟩
  obtain ⟨g6, hg6⟩ : ∃ g, g = w.heap.size + 1 := ⟨_, rfl⟩
  have HG4 := As.mk (show w.heap.size ≤ g4 by omega)
  have HG6 := As.mk (show w.heap.size ≤ g6 by omega)
  have HNE := As.mk (show g4 ≠ g6 by omega)
  rw [← hg6, ← hg4] at HN
  rw [← hg6, ← hg4]
  clear hg4 hg6
  go_loopg [7, 9, 13] l.length (fun m v7 v9 v13 wr => ∃ (k : Nat) (acc : S29 × Bool), v7 = .bool acc.2 ∧ v13 = .int .i64 k ∧ As (acc = T.floorL key (z29, false) (l.take k) ∧ wr.heap[g4]? = some (Obj.cells #[.string (⟨#[]⟩ : ByteArray), .string (⟨#[]⟩ : ByteArray)] 29) ∧ wr.heap[g6]? = some (Obj.cells #[.string acc.1.f0, .string acc.1.f1] 29) ∧ k ≤ l.length ∧ l.length - k ≤ m ∧ Below w.heap.size w wr))
  case atStart => exact ⟨0, (z29, false), rfl, rfl, ⟨rfl, HN.out.1, HN.out.2, Nat.zero_le _, Nat.le_refl _, HB0.out⟩⟩
  case round =>
    obtain ⟨k, acc, rfl, rfl, ⟨hacc, h4, h6, hk, hm, hB⟩⟩ := hrel
    clear HN HB0
    by_cases hlt : k < l.length
    · skip
      obtain ⟨ad, hA, hx0, hx1⟩ := at_T29 HC.out (k : Int) (by omega) (by omega)
      subst hA
      have hts := take_snoc l z29 k hlt
      have hrd : rd_T29 l (k : Int) = l.getD k z29 := by unfold rd_T29; rw [Int.toNat_natCast]
      rw [hrd, Int.toNat_natCast] at hx0 hx1
      have hfs := T.floorL_snoc key (z29, false) (l.take k) (l.getD k z29)
      rw [← hts, ← hacc] at hfs
      clear hts hrd
      generalize l.getD k z29 = d at *
      obtain ⟨da, db⟩ := d
      dsimp only at hx0 hx1
      replace hx0 := (hB.cell (World.block_lt_of_cell? w _ hx0)).trans hx0
      replace hx1 := (hB.cell (World.block_lt_of_cell? w _ hx1)).trans hx1
      have p0 : 0 ≤ (k : Int) := by omega
      have HFS := As.mk hfs
      obtain ⟨⟨a1, a2⟩, a3⟩ := acc
      dsimp only at h6
      have H4 := As.mk h4
      have H6 := As.mk h6
      clear hfs hacc h4 h6
      have hne4 : g4 ≠ g6 := HNE.out
      by_cases hlt2 : lt da key = true
      · have c1 : Op.bytesLess da.toList key.toList = true := hlt2
        have HF2 : As (T.floorL key (z29, false) (l.take (k + 1)) = (⟨da, db⟩, true)) := ⟨by rw [HFS.out, lt_asymm hlt2]; rfl⟩
        clear hlt2
        go_wp2_with (first
          | ((with_reducible refine gate_dst (N := 9) rfl ?_); refine box_event ?hg (N := 9) ?hd (cs := #[.string (⟨#[]⟩ : ByteArray), .string (⟨#[]⟩ : ByteArray)]) (t := 29) ?hr ?_; (case hd => rfl); (case hg => rfl); (case hr => first | (go_simp; done) | (go_simp; rfl)); intro g9 hg_g9 w9 hx_g9 hb_g9; have hB1 := bstep hB hb_g9; have GD_g9 := As.mk ((by rw [hg_g9]; exact hB.size) : w.heap.size ≤ g9); have GQ_g9 := As.mk (Nat.le_of_eq hg_g9.symm); clear hg_g9; obtain ⟨x0, x1⟩ := cells2 hx_g9; have z0 := blk_frozen hx_g9 0; have z1 := blk_frozen hx_g9 1; have hx6 := blk_step H6.out hb_g9; obtain ⟨x60, x61⟩ := cells2 hx6; have z60 := blk_frozen hx6 0; have z61 := blk_frozen hx6 1; have hx4 := blk_step H4.out hb_g9; have L6 := As.mk (blk_lt H6.out); have L4 := As.mk (blk_lt H4.out); have HX6 := As.mk hx6; have HX4 := As.mk hx4; have HX9 := As.mk hx_g9; have e9 : g6 ≠ g9 := (by have := L6.out; have := GQ_g9.out; omega); have e9' : g9 ≠ g6 := e9.symm; clear hx6 hx4 hb_g9))
        have e4 : g4 ≠ g9 := by have := L4.out; have := GQ_g9.out; omega
        go_roundg (l.length - (k + 1))
        case measure => omega
        case rel => exact ⟨k + 1, (⟨da, db⟩, true), rfl, by go_num, ⟨HF2.out.symm, blk_far (blk_far (blk_far (blk_far HX4.out e4 0 _) e4 1 _) hne4 0 _) hne4 1 _, blk_put (blk_put (blk_far (blk_far HX6.out e9 0 _) e9 1 _) 0 _ rfl) 1 _ rfl, by omega, Nat.le_refl _, (((hB1.setCell (p := ⟨g9, 0, none⟩) GD_g9.out (.string da)).setCell (p := ⟨g9, 1, none⟩) GD_g9.out (.string db)).setCell (p := ⟨g6, 0, none⟩) HG6.out (.string da)).setCell (p := ⟨g6, 1, none⟩) HG6.out (.string db)⟩⟩
      · by_cases heq : da = key
        · subst heq
          have c1 : Op.bytesLess da.toList da.toList = false := lt_irrefl da
          have c2 : (da.toList == da.toList) = true := beq_self_eq_true _
          have HF2 : As (T.floorL da (z29, false) (l.take (k + 1)) = (⟨da, db⟩, true)) := ⟨by rw [HFS.out, lt_irrefl]; rfl⟩
          clear hlt2
          go_wp2_with (first
            | ((with_reducible refine gate_dst (N := 9) rfl ?_); refine box_event ?hg (N := 9) ?hd (cs := #[.string (⟨#[]⟩ : ByteArray), .string (⟨#[]⟩ : ByteArray)]) (t := 29) ?hr ?_; (case hd => rfl); (case hg => rfl); (case hr => first | (go_simp; done) | (go_simp; rfl)); intro g9 hg_g9 w9 hx_g9 hb_g9; have hB1 := bstep hB hb_g9; have GD_g9 := As.mk ((by rw [hg_g9]; exact hB.size) : w.heap.size ≤ g9); have GQ_g9 := As.mk (Nat.le_of_eq hg_g9.symm); clear hg_g9; obtain ⟨x0, x1⟩ := cells2 hx_g9; have z0 := blk_frozen hx_g9 0; have z1 := blk_frozen hx_g9 1; have hx6 := blk_step H6.out hb_g9; obtain ⟨x60, x61⟩ := cells2 hx6; have z60 := blk_frozen hx6 0; have z61 := blk_frozen hx6 1; have hx4 := blk_step H4.out hb_g9; have L6 := As.mk (blk_lt H6.out); have L4 := As.mk (blk_lt H4.out); have HX6 := As.mk hx6; have HX4 := As.mk hx4; have HX9 := As.mk hx_g9; have e9 : g6 ≠ g9 := (by have := L6.out; have := GQ_g9.out; omega); have e9' : g9 ≠ g6 := e9.symm; clear hx6 hx4 hb_g9))
          have e4 : g4 ≠ g9 := by have := L4.out; have := GQ_g9.out; omega
          go_roundg (l.length - (k + 1))
          case measure => omega
          case rel => exact ⟨k + 1, (⟨da, db⟩, true), rfl, by go_num, ⟨HF2.out.symm, blk_far (blk_far (blk_far (blk_far HX4.out e4 0 _) e4 1 _) hne4 0 _) hne4 1 _, blk_put (blk_put (blk_far (blk_far HX6.out e9 0 _) e9 1 _) 0 _ rfl) 1 _ rfl, by omega, Nat.le_refl _, (((hB1.setCell (p := ⟨g9, 0, none⟩) GD_g9.out (.string da)).setCell (p := ⟨g9, 1, none⟩) GD_g9.out (.string db)).setCell (p := ⟨g6, 0, none⟩) HG6.out (.string da)).setCell (p := ⟨g6, 1, none⟩) HG6.out (.string db)⟩⟩
        · have c1 : Op.bytesLess da.toList key.toList = false := by simpa [lt] using hlt2
          have c2 : (da.toList == key.toList) = false := key_ne' heq
          have HF2 : As (T.floorL key (z29, false) (l.take (k + 1)) = (⟨a1, a2⟩, a3)) := ⟨by rw [HFS.out, lt_tri (by simpa using hlt2) heq]; rfl⟩
          clear hlt2 heq
          go_wp2_with (first
            | ((with_reducible refine gate_dst (N := 9) rfl ?_); refine box_event ?hg (N := 9) ?hd (cs := #[.string (⟨#[]⟩ : ByteArray), .string (⟨#[]⟩ : ByteArray)]) (t := 29) ?hr ?_; (case hd => rfl); (case hg => rfl); (case hr => first | (go_simp; done) | (go_simp; rfl)); intro g9 hg_g9 w9 hx_g9 hb_g9; have hB1 := bstep hB hb_g9; have GD_g9 := As.mk ((by rw [hg_g9]; exact hB.size) : w.heap.size ≤ g9); have GQ_g9 := As.mk (Nat.le_of_eq hg_g9.symm); clear hg_g9; obtain ⟨x0, x1⟩ := cells2 hx_g9; have z0 := blk_frozen hx_g9 0; have z1 := blk_frozen hx_g9 1; have hx6 := blk_step H6.out hb_g9; obtain ⟨x60, x61⟩ := cells2 hx6; have z60 := blk_frozen hx6 0; have z61 := blk_frozen hx6 1; have hx4 := blk_step H4.out hb_g9; have L6 := As.mk (blk_lt H6.out); have L4 := As.mk (blk_lt H4.out); have HX6 := As.mk hx6; have HX4 := As.mk hx4; have HX9 := As.mk hx_g9; have e9 : g6 ≠ g9 := (by have := L6.out; have := GQ_g9.out; omega); have e9' : g9 ≠ g6 := e9.symm; clear hx6 hx4 hb_g9))
          have e4 : g4 ≠ g9 := by have := L4.out; have := GQ_g9.out; omega
          go_roundg (l.length - (k + 1))
          case measure => omega
          case rel => exact ⟨k + 1, (⟨a1, a2⟩, a3), rfl, by go_num, ⟨HF2.out.symm, blk_far (blk_far HX4.out e4 0 _) e4 1 _, blk_far (blk_far HX6.out e9 0 _) e9 1 _, by omega, Nat.le_refl _, (hB1.setCell (p := ⟨g9, 0, none⟩) GD_g9.out (.string da)).setCell (p := ⟨g9, 1, none⟩) GD_g9.out (.string db)⟩⟩
    · obtain rfl : k = l.length := by omega
      rw [List.take_length] at hacc
      obtain ⟨x60, x61⟩ := cells2 h6
      obtain ⟨x40, x41⟩ := cells2 h4
      have z40 := blk_frozen h4 0
      have z41 := blk_frozen h4 1
      have H4 := As.mk h4
      have HACC := As.mk hacc
      have HB := As.mk hB
      clear h4 h6 hB hacc
      go_wp2
      refine bodyPost_ret (results_ct rfl _ _ g4 29 #[.string acc.1.f0, .string acc.1.f1] (0, 0) _ rfl (by refine blk_put (cs := #[.string acc.1.f0, .string (⟨#[]⟩ : ByteArray)]) ?_ 1 _ rfl; refine blk_put (cs := #[.string (⟨#[]⟩ : ByteArray), .string (⟨#[]⟩ : ByteArray)]) ?_ 0 _ rfl; exact H4.out) Try.underlying29 rfl (by kernel_rfl)) rfl ?_
      exact ⟨by rw [← HACC.out]; rfl, (HB.out.setCell (p := ⟨g4, 0, none⟩) HG4.out _).setCell (p := ⟨g4, 1, none⟩) HG4.out _⟩

end Go.Proofs.Ytehnkoglhbbfjaa
