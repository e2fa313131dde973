/-
  The reference's functions that are not printed: Floor, Union, Minus, Both.
-/
import Derived.Test.YtehnkoglhbbfjaaR0
import Derived.Test.YtehnkoglhbbfjaaM7
set_option linter.unusedVariables false
set_option linter.unusedSimpArgs false
namespace Go.Proofs.Ytehnkoglhbbfjaa
open Go.RowKit Go.Proofs.YtehnkoglhbbfjaaW.PrintWords Go.Proofs.YtehnkoglhbbfjaaW.PrintLast Go.Proofs.YtehnkoglhbbfjaaW.PrintMore PAll

theorem alloc_size (w : World) (o : Obj) : (w.alloc o).heap.size = w.heap.size + 1 := Array.size_push _
theorem blk_far {w : World} {g g' : Nat} {o : Obj} (h : w.heap[g]? = some o) (hne : g ≠ g') (i : Nat) (u : Value) : (w.setCell ⟨g', i, none⟩ u).heap[g]? = some o :=
  (Below.heap_setCell w ⟨g', i, none⟩ u g hne).trans h

set_option maxHeartbeats 4000000 in
set_option maxRecDepth 100000 in
theorem RefFloor_calls (v : Value) (l : List S29) (key : ByteArray) (w : World) (h : Sl w v l) (hs : l.length < 1000000000) :
    Calls Try.prog 41 #[v, .string key] w fun e w' => e = .returned (.tuple #[.agg #[.string (T.floorL key (z29, false) l).1.f0, .string (T.floorL key (z29, false) l).1.f1], .bool (T.floorL key (z29, false) l).2]) ∧ Below w.heap.size w w' := by
  obtain ⟨A, c, rfl, hc, hC⟩ := h
  have HC := As.mk hC
  clear hC hc
  go_enter Try.func41, Try.ntmps41
  go_wp2_with fail
  have h4 : ((w.alloc (Obj.cells #[.string (⟨#[]⟩ : ByteArray), .string (⟨#[]⟩ : ByteArray)] 29)).alloc (Obj.cells #[.string (⟨#[]⟩ : ByteArray), .string (⟨#[]⟩ : ByteArray)] 29)).heap[w.heap.size]? = some (Obj.cells #[.string (⟨#[]⟩ : ByteArray), .string (⟨#[]⟩ : ByteArray)] 29) := blk_step (heap_alloc_new w _) ((Below.refl _ _).alloc (Nat.le_refl _) _)
  have h6 : ((w.alloc (Obj.cells #[.string (⟨#[]⟩ : ByteArray), .string (⟨#[]⟩ : ByteArray)] 29)).alloc (Obj.cells #[.string (⟨#[]⟩ : ByteArray), .string (⟨#[]⟩ : ByteArray)] 29)).heap[w.heap.size + 1]? = some (Obj.cells #[.string (⟨#[]⟩ : ByteArray), .string (⟨#[]⟩ : ByteArray)] 29) := by
    have := heap_alloc_new (w.alloc (Obj.cells #[.string (⟨#[]⟩ : ByteArray), .string (⟨#[]⟩ : ByteArray)] 29)) (Obj.cells #[.string (⟨#[]⟩ : ByteArray), .string (⟨#[]⟩ : ByteArray)] 29)
    rwa [alloc_size] at this
  have hB0 : Below w.heap.size w ((w.alloc (Obj.cells #[.string (⟨#[]⟩ : ByteArray), .string (⟨#[]⟩ : ByteArray)] 29)).alloc (Obj.cells #[.string (⟨#[]⟩ : ByteArray), .string (⟨#[]⟩ : ByteArray)] 29)) := ((Below.refl _ w).alloc (Nat.le_refl _) _).alloc ((Below.refl _ w).alloc (Nat.le_refl _) _).size _
  have HB0 := As.mk hB0
  have HN := As.mk (And.intro h4 h6)
  clear h4 h6 hB0
  generalize (w.alloc (Obj.cells #[.string (⟨#[]⟩ : ByteArray), .string (⟨#[]⟩ : ByteArray)] 29)).alloc (Obj.cells #[.string (⟨#[]⟩ : ByteArray), .string (⟨#[]⟩ : ByteArray)] 29) = W0 at *
  obtain ⟨g4, hg4⟩ : ∃ g, g = w.heap.size := ⟨_, rfl⟩
  obtain ⟨g6, hg6⟩ : ∃ g, g = w.heap.size + 1 := ⟨_, rfl⟩
  have HG4 := As.mk (show w.heap.size ≤ g4 by omega)
  have HG6 := As.mk (show w.heap.size ≤ g6 by omega)
  have HNE := As.mk (show g4 ≠ g6 by omega)
  rw [← hg6, ← hg4] at HN
  rw [← hg6, ← hg4]
  clear hg4 hg6
  go_loopg [7, 9, 13] l.length (fun m v7 v9 v13 wr => ∃ (k : Nat) (acc : S29 × Bool), v7 = .bool acc.2 ∧ v13 = .int .i64 k ∧ As (acc = T.floorL key (z29, false) (l.take k) ∧ wr.heap[g4]? = some (Obj.cells #[.string (⟨#[]⟩ : ByteArray), .string (⟨#[]⟩ : ByteArray)] 29) ∧ wr.heap[g6]? = some (Obj.cells #[.string acc.1.f0, .string acc.1.f1] 29) ∧ k ≤ l.length ∧ l.length - k ≤ m ∧ Below w.heap.size w wr))
  case atStart => exact ⟨0, (z29, false), rfl, rfl, ⟨rfl, HN.out.1, HN.out.2, Nat.zero_le _, Nat.le_refl _, HB0.out⟩⟩
  case round =>
    obtain ⟨k, acc, rfl, rfl, ⟨hacc, h4, h6, hk, hm, hB⟩⟩ := hrel
    clear HN HB0
    by_cases hlt : k < l.length
    · skip
      obtain ⟨ad, hA, hx0, hx1⟩ := at_T29 HC.out (k : Int) (by omega) (by omega)
      subst hA
      have hts := take_snoc l z29 k hlt
      have hrd : rd_T29 l (k : Int) = l.getD k z29 := by unfold rd_T29; rw [Int.toNat_natCast]
      rw [hrd, Int.toNat_natCast] at hx0 hx1
      have hfs := T.floorL_snoc key (z29, false) (l.take k) (l.getD k z29)
      rw [← hts, ← hacc] at hfs
      clear hts hrd
      generalize l.getD k z29 = d at *
      obtain ⟨da, db⟩ := d
      dsimp only at hx0 hx1
      replace hx0 := (hB.cell (World.block_lt_of_cell? w _ hx0)).trans hx0
      replace hx1 := (hB.cell (World.block_lt_of_cell? w _ hx1)).trans hx1
      have p0 : 0 ≤ (k : Int) := by omega
      have HFS := As.mk hfs
      obtain ⟨⟨a1, a2⟩, a3⟩ := acc
      dsimp only at h6
      have H4 := As.mk h4
      have H6 := As.mk h6
      clear hfs hacc h4 h6
      have hne4 : g4 ≠ g6 := HNE.out
      by_cases hlt2 : lt da key = true
      · have c1 : Op.bytesLess da.toList key.toList = true := hlt2
        have HF2 : As (T.floorL key (z29, false) (l.take (k + 1)) = (⟨da, db⟩, true)) := ⟨by rw [HFS.out, lt_asymm hlt2]; rfl⟩
        clear hlt2
        go_wp2_with (first
          | ((with_reducible refine gate_dst (N := 9) rfl ?_); refine box_event ?hg (N := 9) ?hd (cs := #[.string (⟨#[]⟩ : ByteArray), .string (⟨#[]⟩ : ByteArray)]) (t := 29) ?hr ?_; (case hd => rfl); (case hg => rfl); (case hr => first | (go_simp; done) | (go_simp; rfl)); intro g9 hg_g9 w9 hx_g9 hb_g9; have hB1 := bstep hB hb_g9; have GD_g9 := As.mk ((by rw [hg_g9]; exact hB.size) : w.heap.size ≤ g9); have GQ_g9 := As.mk (Nat.le_of_eq hg_g9.symm); clear hg_g9; obtain ⟨x0, x1⟩ := cells2 hx_g9; have z0 := blk_frozen hx_g9 0; have z1 := blk_frozen hx_g9 1; have hx6 := blk_step H6.out hb_g9; obtain ⟨x60, x61⟩ := cells2 hx6; have z60 := blk_frozen hx6 0; have z61 := blk_frozen hx6 1; have hx4 := blk_step H4.out hb_g9; have L6 := As.mk (blk_lt H6.out); have L4 := As.mk (blk_lt H4.out); have HX6 := As.mk hx6; have HX4 := As.mk hx4; have HX9 := As.mk hx_g9; have e9 : g6 ≠ g9 := (by have := L6.out; have := GQ_g9.out; omega); have e9' : g9 ≠ g6 := e9.symm; clear hx6 hx4 hb_g9))
        have e4 : g4 ≠ g9 := by have := L4.out; have := GQ_g9.out; omega
        go_roundg (l.length - (k + 1))
        case measure => omega
        case rel => exact ⟨k + 1, (⟨da, db⟩, true), rfl, by go_num, ⟨HF2.out.symm, blk_far (blk_far (blk_far (blk_far HX4.out e4 0 _) e4 1 _) hne4 0 _) hne4 1 _, blk_put (blk_put (blk_far (blk_far HX6.out e9 0 _) e9 1 _) 0 _ rfl) 1 _ rfl, by omega, Nat.le_refl _, (((hB1.setCell (p := ⟨g9, 0, none⟩) GD_g9.out (.string da)).setCell (p := ⟨g9, 1, none⟩) GD_g9.out (.string db)).setCell (p := ⟨g6, 0, none⟩) HG6.out (.string da)).setCell (p := ⟨g6, 1, none⟩) HG6.out (.string db)⟩⟩
      · by_cases heq : da = key
        · subst heq
          have c1 : Op.bytesLess da.toList da.toList = false := lt_irrefl da
          have c2 : (da.toList == da.toList) = true := beq_self_eq_true _
          have HF2 : As (T.floorL da (z29, false) (l.take (k + 1)) = (⟨da, db⟩, true)) := ⟨by rw [HFS.out, lt_irrefl]; rfl⟩
          clear hlt2
          go_wp2_with (first
            | ((with_reducible refine gate_dst (N := 9) rfl ?_); refine box_event ?hg (N := 9) ?hd (cs := #[.string (⟨#[]⟩ : ByteArray), .string (⟨#[]⟩ : ByteArray)]) (t := 29) ?hr ?_; (case hd => rfl); (case hg => rfl); (case hr => first | (go_simp; done) | (go_simp; rfl)); intro g9 hg_g9 w9 hx_g9 hb_g9; have hB1 := bstep hB hb_g9; have GD_g9 := As.mk ((by rw [hg_g9]; exact hB.size) : w.heap.size ≤ g9); have GQ_g9 := As.mk (Nat.le_of_eq hg_g9.symm); clear hg_g9; obtain ⟨x0, x1⟩ := cells2 hx_g9; have z0 := blk_frozen hx_g9 0; have z1 := blk_frozen hx_g9 1; have hx6 := blk_step H6.out hb_g9; obtain ⟨x60, x61⟩ := cells2 hx6; have z60 := blk_frozen hx6 0; have z61 := blk_frozen hx6 1; have hx4 := blk_step H4.out hb_g9; have L6 := As.mk (blk_lt H6.out); have L4 := As.mk (blk_lt H4.out); have HX6 := As.mk hx6; have HX4 := As.mk hx4; have HX9 := As.mk hx_g9; have e9 : g6 ≠ g9 := (by have := L6.out; have := GQ_g9.out; omega); have e9' : g9 ≠ g6 := e9.symm; clear hx6 hx4 hb_g9))
          have e4 : g4 ≠ g9 := by have := L4.out; have := GQ_g9.out; omega
          go_roundg (l.length - (k + 1))
          case measure => omega
          case rel => exact ⟨k + 1, (⟨da, db⟩, true), rfl, by go_num, ⟨HF2.out.symm, blk_far (blk_far (blk_far (blk_far HX4.out e4 0 _) e4 1 _) hne4 0 _) hne4 1 _, blk_put (blk_put (blk_far (blk_far HX6.out e9 0 _) e9 1 _) 0 _ rfl) 1 _ rfl, by omega, Nat.le_refl _, (((hB1.setCell (p := ⟨g9, 0, none⟩) GD_g9.out (.string da)).setCell (p := ⟨g9, 1, none⟩) GD_g9.out (.string db)).setCell (p := ⟨g6, 0, none⟩) HG6.out (.string da)).setCell (p := ⟨g6, 1, none⟩) HG6.out (.string db)⟩⟩
        · have c1 : Op.bytesLess da.toList key.toList = false := by simpa [lt] using hlt2
          have c2 : (da.toList == key.toList) = false := key_ne' heq
          have HF2 : As (T.floorL key (z29, false) (l.take (k + 1)) = (⟨a1, a2⟩, a3)) := ⟨by rw [HFS.out, lt_tri (by simpa using hlt2) heq]; rfl⟩
          clear hlt2 heq
          go_wp2_with (first
            | ((with_reducible refine gate_dst (N := 9) rfl ?_); refine box_event ?hg (N := 9) ?hd (cs := #[.string (⟨#[]⟩ : ByteArray), .string (⟨#[]⟩ : ByteArray)]) (t := 29) ?hr ?_; (case hd => rfl); (case hg => rfl); (case hr => first | (go_simp; done) | (go_simp; rfl)); intro g9 hg_g9 w9 hx_g9 hb_g9; have hB1 := bstep hB hb_g9; have GD_g9 := As.mk ((by rw [hg_g9]; exact hB.size) : w.heap.size ≤ g9); have GQ_g9 := As.mk (Nat.le_of_eq hg_g9.symm); clear hg_g9; obtain ⟨x0, x1⟩ := cells2 hx_g9; have z0 := blk_frozen hx_g9 0; have z1 := blk_frozen hx_g9 1; have hx6 := blk_step H6.out hb_g9; obtain ⟨x60, x61⟩ := cells2 hx6; have z60 := blk_frozen hx6 0; have z61 := blk_frozen hx6 1; have hx4 := blk_step H4.out hb_g9; have L6 := As.mk (blk_lt H6.out); have L4 := As.mk (blk_lt H4.out); have HX6 := As.mk hx6; have HX4 := As.mk hx4; have HX9 := As.mk hx_g9; have e9 : g6 ≠ g9 := (by have := L6.out; have := GQ_g9.out; omega); have e9' : g9 ≠ g6 := e9.symm; clear hx6 hx4 hb_g9))
          have e4 : g4 ≠ g9 := by have := L4.out; have := GQ_g9.out; omega
          go_roundg (l.length - (k + 1))
          case measure => omega
          case rel => exact ⟨k + 1, (⟨a1, a2⟩, a3), rfl, by go_num, ⟨HF2.out.symm, blk_far (blk_far HX4.out e4 0 _) e4 1 _, blk_far (blk_far HX6.out e9 0 _) e9 1 _, by omega, Nat.le_refl _, (hB1.setCell (p := ⟨g9, 0, none⟩) GD_g9.out (.string da)).setCell (p := ⟨g9, 1, none⟩) GD_g9.out (.string db)⟩⟩
    · obtain rfl : k = l.length := by omega
      rw [List.take_length] at hacc
      obtain ⟨x60, x61⟩ := cells2 h6
      obtain ⟨x40, x41⟩ := cells2 h4
      have z40 := blk_frozen h4 0
      have z41 := blk_frozen h4 1
      have H4 := As.mk h4
      have HACC := As.mk hacc
      have HB := As.mk hB
      clear h4 h6 hB hacc
      go_wp2
      refine bodyPost_ret (results_ct rfl _ _ g4 29 #[.string acc.1.f0, .string acc.1.f1] (0, 0) _ rfl (by refine blk_put (cs := #[.string acc.1.f0, .string (⟨#[]⟩ : ByteArray)]) ?_ 1 _ rfl; refine blk_put (cs := #[.string (⟨#[]⟩ : ByteArray), .string (⟨#[]⟩ : ByteArray)]) ?_ 0 _ rfl; exact H4.out) Try.underlying29 rfl (by kernel_rfl)) rfl ?_
      exact ⟨by rw [← HACC.out]; rfl, (HB.out.setCell (p := ⟨g4, 0, none⟩) HG4.out _).setCell (p := ⟨g4, 1, none⟩) HG4.out _⟩

end Go.Proofs.Ytehnkoglhbbfjaa

namespace Go.Proofs.Ytehnkoglhbbfjaa
open Go.RowKit Go.Proofs.YtehnkoglhbbfjaaW.PrintWords Go.Proofs.YtehnkoglhbbfjaaW.PrintLast Go.Proofs.YtehnkoglhbbfjaaW.PrintMore PAll

def unionL (a b : List S29) : List S29 := b.foldl (fun out p => withP p out) a
def minusL (a b : List S29) : List S29 := b.foldl (fun out p => without p.f0 out) a
theorem unionL_length (a b : List S29) : (unionL a b).length ≤ a.length + b.length := by
  induction b generalizing a with
  | nil => exact Nat.le_refl _
  | cons p r ih =>
    have h1 := ih (withP p a)
    have h2 := withP_length p a
    show (unionL (withP p a) r).length ≤ _
    simp only [List.length_cons]
    omega
theorem minusL_length (a b : List S29) : (minusL a b).length ≤ a.length := by
  induction b generalizing a with
  | nil => exact Nat.le_refl _
  | cons p r ih =>
    have h1 := ih (without p.f0 a)
    have h2 := without_length p.f0 a
    show (minusL (without p.f0 a) r).length ≤ _
    omega
theorem unionL_snoc (a b : List S29) (p : S29) : unionL a (b ++ [p]) = withP p (unionL a b) := by simp [unionL]
theorem minusL_snoc (a b : List S29) (p : S29) : minusL a (b ++ [p]) = without p.f0 (minusL a b) := by simp [minusL]

set_option maxHeartbeats 1000000 in
set_option maxRecDepth 100000 in
theorem RefUnion_calls (u v : Value) (x l : List S29) (w : World) (hx : Sl w u x) (h : Sl w v l) (hs : x.length + l.length < 1000000000) :
    Calls Try.prog 63 #[u, v] w fun e w' => ∃ A c, e = .returned (.slice A (unionL x l).length c) ∧ Sl w' (.slice A (unionL x l).length c) (unionL x l) ∧ Below w.heap.size w w' := by
  obtain ⟨Ax, cx, rfl, hcx, hCx⟩ := hx
  obtain ⟨A, c, rfl, hc, hC⟩ := h
  have HC := As.mk hC
  have HX : As (Sl w (.slice Ax x.length cx) x) := ⟨Ax, cx, rfl, hcx, hCx⟩
  clear hC hc hCx hcx
  go_enter Try.func63, Try.ntmps63
  go_wp2_with fail
  go_loopg [5, 7, 11] l.length (fun m v5 v7 v11 wr => ∃ (k : Nat) (X : List S29), v11 = .int .i64 k ∧ As (X = unionL x (l.take k) ∧ Sl wr v5 X ∧ k ≤ l.length ∧ l.length - k ≤ m ∧ Below w.heap.size w wr))
  case atStart => exact ⟨0, x, rfl, ⟨rfl, HX.out, Nat.zero_le _, Nat.le_refl _, Below.refl _ _⟩⟩
  case round =>
    obtain ⟨k, X, rfl, ⟨hX, hR, hk, hm, hB⟩⟩ := hrel
    by_cases hlt : k < l.length
    · skip
      obtain ⟨ad, hA, hx0, hx1⟩ := at_T29 HC.out (k : Int) (by omega) (by omega)
      subst hA
      have hts := take_snoc l z29 k hlt
      have hrd : rd_T29 l (k : Int) = l.getD k z29 := by unfold rd_T29; rw [Int.toNat_natCast]
      rw [hrd, Int.toNat_natCast] at hx0 hx1
      have hfs := unionL_snoc x (l.take k) (l.getD k z29)
      rw [← hts, ← hX] at hfs
      have hXl : X.length ≤ x.length + l.length := by
        have h1 := unionL_length x (l.take k)
        have h2 : (l.take k).length ≤ l.length := by rw [List.length_take]; omega
        rw [hX]
        omega
      clear hts hrd hX
      generalize l.getD k z29 = d at *
      obtain ⟨da, db⟩ := d
      dsimp only at hx0 hx1
      replace hx0 := (hB.cell (World.block_lt_of_cell? w _ hx0)).trans hx0
      replace hx1 := (hB.cell (World.block_lt_of_cell? w _ hx1)).trans hx1
      have p0 : 0 ≤ (k : Int) := by omega
      have HFS := As.mk hfs
      have HR := As.mk hR
      obtain ⟨A5, c5, rfl, -, -⟩ := hR
      clear hfs
      go_wp2_with (first
        | ((with_reducible refine gate_dst (N := 7) rfl ?_); refine box_event ?hg (N := 7) ?hd (cs := #[.string (⟨#[]⟩ : ByteArray), .string (⟨#[]⟩ : ByteArray)]) (t := 29) ?hr ?_; (case hd => rfl); (case hg => rfl); (case hr => first | (go_simp; done) | (go_simp; rfl)); intro gd hg_gd w4 hx_gd hb_gd; have hB1 := bstep hB hb_gd; have GD_gd := As.mk ((by rw [hg_gd]; exact hB.size) : w.heap.size ≤ gd); have GQ_gd := As.mk (Nat.le_of_eq hg_gd.symm); clear hg_gd; obtain ⟨x0, x1⟩ := cells2 hx_gd; have z0 := blk_frozen hx_gd 0; have z1 := blk_frozen hx_gd 1)
        | (go_at_call 31; have hb2 := (hb_gd.setCell (p := ⟨gd, 0, none⟩) GQ_gd.out (.string da)).setCell (p := ⟨gd, 1, none⟩) GQ_gd.out (.string db); have hB2 := (hB1.setCell (p := ⟨gd, 0, none⟩) GD_gd.out (.string da)).setCell (p := ⟨gd, 1, none⟩) GD_gd.out (.string db); refine (With_calls _ X da db _ (HR.out.below hb2) (by omega)).mono ?_; rintro e w5 ⟨v5, rfl, hR5, hb5⟩; have HR5 := As.mk (Sl.of_R hR5); have HB5 := As.mk (bstep hB2 hb5); clear hb2 hB2 hb5 hR5))
      go_roundg (l.length - (k + 1))
      case measure => omega
      case rel => exact ⟨k + 1, _, by go_num, ⟨HFS.out.symm, HR5.out, by omega, Nat.le_refl _, HB5.out⟩⟩
    · obtain rfl : k = l.length := by omega
      rw [List.take_length] at hX
      have HX2 := As.mk hX
      have HR := As.mk hR
      have HB := As.mk hB
      obtain ⟨A5, c5, rfl, -, -⟩ := hR
      clear hB hX
      go_wp2
      go_ret
      exact ⟨A5, c5, by rw [← HX2.out]; rfl, by rw [← HX2.out]; exact HR.out, HB.out⟩

set_option maxHeartbeats 1000000 in
set_option maxRecDepth 100000 in
theorem RefMinus_calls (u v : Value) (x l : List S29) (w : World) (hx : Sl w u x) (h : Sl w v l) (hs : x.length + l.length < 1000000000) :
    Calls Try.prog 64 #[u, v] w fun e w' => ∃ A c, e = .returned (.slice A (minusL x l).length c) ∧ Sl w' (.slice A (minusL x l).length c) (minusL x l) ∧ Below w.heap.size w w' := by
  obtain ⟨Ax, cx, rfl, hcx, hCx⟩ := hx
  obtain ⟨A, c, rfl, hc, hC⟩ := h
  have HC := As.mk hC
  have HX : As (Sl w (.slice Ax x.length cx) x) := ⟨Ax, cx, rfl, hcx, hCx⟩
  clear hC hc hCx hcx
  go_enter Try.func64, Try.ntmps64
  go_wp2_with fail
  go_loopg [5, 7, 11] l.length (fun m v5 v7 v11 wr => ∃ (k : Nat) (X : List S29), v11 = .int .i64 k ∧ As (X = minusL x (l.take k) ∧ Sl wr v5 X ∧ k ≤ l.length ∧ l.length - k ≤ m ∧ Below w.heap.size w wr))
  case atStart => exact ⟨0, x, rfl, ⟨rfl, HX.out, Nat.zero_le _, Nat.le_refl _, Below.refl _ _⟩⟩
  case round =>
    obtain ⟨k, X, rfl, ⟨hX, hR, hk, hm, hB⟩⟩ := hrel
    by_cases hlt : k < l.length
    · skip
      obtain ⟨ad, hA, hx0, hx1⟩ := at_T29 HC.out (k : Int) (by omega) (by omega)
      subst hA
      have hts := take_snoc l z29 k hlt
      have hrd : rd_T29 l (k : Int) = l.getD k z29 := by unfold rd_T29; rw [Int.toNat_natCast]
      rw [hrd, Int.toNat_natCast] at hx0 hx1
      have hfs := minusL_snoc x (l.take k) (l.getD k z29)
      rw [← hts, ← hX] at hfs
      have hXl : X.length ≤ x.length + l.length := by
        have h1 := minusL_length x (l.take k)
        have h2 : (l.take k).length ≤ l.length := by rw [List.length_take]; omega
        rw [hX]
        omega
      clear hts hrd hX
      generalize l.getD k z29 = d at *
      obtain ⟨da, db⟩ := d
      dsimp only at hx0 hx1
      replace hx0 := (hB.cell (World.block_lt_of_cell? w _ hx0)).trans hx0
      replace hx1 := (hB.cell (World.block_lt_of_cell? w _ hx1)).trans hx1
      have p0 : 0 ≤ (k : Int) := by omega
      have HFS := As.mk hfs
      have HR := As.mk hR
      obtain ⟨A5, c5, rfl, -, -⟩ := hR
      clear hfs
      go_wp2_with (first
        | ((with_reducible refine gate_dst (N := 7) rfl ?_); refine box_event ?hg (N := 7) ?hd (cs := #[.string (⟨#[]⟩ : ByteArray), .string (⟨#[]⟩ : ByteArray)]) (t := 29) ?hr ?_; (case hd => rfl); (case hg => rfl); (case hr => first | (go_simp; done) | (go_simp; rfl)); intro gd hg_gd w4 hx_gd hb_gd; have hB1 := bstep hB hb_gd; have GD_gd := As.mk ((by rw [hg_gd]; exact hB.size) : w.heap.size ≤ gd); have GQ_gd := As.mk (Nat.le_of_eq hg_gd.symm); clear hg_gd; obtain ⟨x0, x1⟩ := cells2 hx_gd; have z0 := blk_frozen hx_gd 0; have z1 := blk_frozen hx_gd 1)
        | (go_at_call 32; have hb2 := (hb_gd.setCell (p := ⟨gd, 0, none⟩) GQ_gd.out (.string da)).setCell (p := ⟨gd, 1, none⟩) GQ_gd.out (.string db); have hB2 := (hB1.setCell (p := ⟨gd, 0, none⟩) GD_gd.out (.string da)).setCell (p := ⟨gd, 1, none⟩) GD_gd.out (.string db); refine (Without_calls _ X da _ (HR.out.below hb2) (by omega)).mono ?_; rintro e w5 ⟨v5, rfl, hR5, hb5⟩; have HR5 := As.mk (Sl.of_R hR5); have HB5 := As.mk (bstep hB2 hb5); clear hb2 hB2 hb5 hR5))
      go_roundg (l.length - (k + 1))
      case measure => omega
      case rel => exact ⟨k + 1, _, by go_num, ⟨HFS.out.symm, HR5.out, by omega, Nat.le_refl _, HB5.out⟩⟩
    · obtain rfl : k = l.length := by omega
      rw [List.take_length] at hX
      have HX2 := As.mk hX
      have HR := As.mk hR
      have HB := As.mk hB
      obtain ⟨A5, c5, rfl, -, -⟩ := hR
      clear hB hX
      go_wp2
      go_ret
      exact ⟨A5, c5, by rw [← HX2.out]; rfl, by rw [← HX2.out]; exact HR.out, HB.out⟩

set_option maxHeartbeats 1000000 in
set_option maxRecDepth 100000 in
theorem RefBoth_calls (u v : Value) (x l : List S29) (w : World) (hx : Sl w u x) (h : Sl w v l) (hs : x.length + l.length < 400000000) :
    Calls Try.prog 65 #[u, v] w fun e w' => ∃ A c, e = .returned (.slice A (minusL x (minusL x l)).length c) ∧ Sl w' (.slice A (minusL x (minusL x l)).length c) (minusL x (minusL x l)) ∧ Below w.heap.size w w' := by
  have hml := minusL_length x l
  have HX := As.mk hx
  have HL := As.mk h
  go_enter Try.func65, Try.ntmps65
  go_wp2_with (first
    | (go_at_call 64; refine (RefMinus_calls _ _ x (minusL x l) w1 (HX.out.below HB.out) HS.out (by omega)).mono ?_; rintro e w2 ⟨A2, c2, rfl, hS2, hb⟩; have HS2 := As.mk hS2; have HB2 := As.mk (bstep HB.out hb); clear hS2 hb)
    | (go_at_call 64; refine (RefMinus_calls _ _ x l w HX.out HL.out (by omega)).mono ?_; rintro e w1 ⟨A1, c1, rfl, hS, hb⟩; have HS := As.mk hS; have HB := As.mk hb; clear hS hb))
  go_ret
  exact ⟨A2, c2, rfl, HS2.out, HB2.out⟩

end Go.Proofs.Ytehnkoglhbbfjaa

namespace Go.Proofs.Ytehnkoglhbbfjaa
open Go.RowKit Go.Proofs.YtehnkoglhbbfjaaW.PrintWords Go.Proofs.YtehnkoglhbbfjaaW.PrintLast Go.Proofs.YtehnkoglhbbfjaaW.PrintMore PAll

theorem less_snoc (key : ByteArray) (l : List S29) (p : S29) : T.lessL key (l ++ [p]) = if lt p.f0 key then T.lessL key l ++ [p] else T.lessL key l := by
  unfold T.lessL
  rw [List.filter_append]
  cases h : lt p.f0 key <;> simp [h]
theorem more_snoc (key : ByteArray) (l : List S29) (p : S29) : T.moreL key (l ++ [p]) = if lt key p.f0 then T.moreL key l ++ [p] else T.moreL key l := by
  unfold T.moreL
  rw [List.filter_append]
  cases h : lt key p.f0 <;> simp [h]

set_option maxHeartbeats 1000000 in
set_option maxRecDepth 100000 in
theorem RefSplit_calls (v : Value) (l : List S29) (key : ByteArray) (w : World) (h : Sl w v l) (hs : l.length < 1000000000) :
    Calls Try.prog 53 #[v, .string key] w fun e w' => ∃ u1 u2, e = .returned (.tuple #[u1, u2]) ∧ Sl w' u1 (T.lessL key l) ∧ Sl w' u2 (T.moreL key l) ∧ Below w.heap.size w w' := by
  obtain ⟨A, c, rfl, hc, hC⟩ := h
  have HC := As.mk hC
  clear hC hc
  go_enter Try.func53, Try.ntmps53
  go_wp2_with fail
  go_loopg [6, 7, 9, 12] l.length (fun m v6 v7 v9 v12 wr => ∃ (k : Nat) (X6 X7 : List S29), v12 = .int .i64 k ∧ As (X6 = T.lessL key (l.take k) ∧ X7 = T.moreL key (l.take k) ∧ Kd.R k29 29 wr w.heap.size (fun k => True ∧ some k ≠ v7.ownBlock) v6 X6 ∧ Kd.R k29 29 wr w.heap.size (fun k => True ∧ some k ≠ v6.ownBlock) v7 X7 ∧ k ≤ l.length ∧ l.length - k ≤ m ∧ Below w.heap.size w wr))
  case atStart => exact ⟨0, [], [], rfl, ⟨rfl, rfl, Kd.R_nil _ _ _ _ _, Kd.R_nil _ _ _ _ _, Nat.zero_le _, Nat.le_refl _, Below.refl _ _⟩⟩
  case round =>
    obtain ⟨k, X6, X7, rfl, ⟨hX6, hX7, hR6, hR7, hk, hm, hB⟩⟩ := hrel
    by_cases hlt : k < l.length
    · skip
      obtain ⟨ad, hA, hx0, hx1⟩ := at_T29 HC.out (k : Int) (by omega) (by omega)
      subst hA
      have hts := take_snoc l z29 k hlt
      have hrd : rd_T29 l (k : Int) = l.getD k z29 := by unfold rd_T29; rw [Int.toNat_natCast]
      rw [hrd, Int.toNat_natCast] at hx0 hx1
      have hls := less_snoc key (l.take k) (l.getD k z29)
      have hms := more_snoc key (l.take k) (l.getD k z29)
      rw [← hts, ← hX6] at hls
      rw [← hts, ← hX7] at hms
      have hl6 : X6.length ≤ l.length := by
        rw [hX6]
        refine Nat.le_trans (List.length_filter_le _ _) ?_
        rw [List.length_take]; omega
      have hl7 : X7.length ≤ l.length := by
        rw [hX7]
        refine Nat.le_trans (List.length_filter_le _ _) ?_
        rw [List.length_take]; omega
      clear hts hrd hX6 hX7
      generalize l.getD k z29 = d at *
      obtain ⟨da, db⟩ := d
      dsimp only at hx0 hx1
      replace hx0 := (hB.cell (World.block_lt_of_cell? w _ hx0)).trans hx0
      replace hx1 := (hB.cell (World.block_lt_of_cell? w _ hx1)).trans hx1
      have p0 : 0 ≤ (k : Int) := by omega
      dsimp only at hls hms
      have HR6 := As.mk hR6
      have HR7 := As.mk hR7
      obtain ⟨A6, c6, rfl⟩ := Kd.R_slice hR6
      obtain ⟨A7, c7, rfl⟩ := Kd.R_slice hR7
      clear hR6 hR7
      by_cases hlt2 : lt da key = true
      · have c1 : Op.bytesLess da.toList key.toList = true := hlt2
        have f1 : lt key da = false := lt_asymm hlt2
        rw [hlt2] at hls
        rw [f1] at hms
        have HLS := As.mk hls
        have HMS := As.mk hms
        obtain ⟨Y, hY⟩ : ∃ Y, Y = X6 ++ [⟨da, db⟩] := ⟨_, rfl⟩
        have HY := As.mk hY
        clear hls hms hY hlt2 f1
        go_wp2_with (first
          | ((with_reducible refine gate_dst (N := 9) rfl ?_); refine box_event ?hg (N := 9) ?hd (cs := #[.string (⟨#[]⟩ : ByteArray), .string (⟨#[]⟩ : ByteArray)]) (t := 29) ?hr ?_; (case hd => rfl); (case hg => rfl); (case hr => first | (go_simp; done) | (go_simp; rfl)); intro gd hg_gd w4 hx_gd hb_gd; have hB1 := bstep hB hb_gd; have GD_gd := As.mk ((by rw [hg_gd]; exact hB.size) : w.heap.size ≤ gd); have GQ_gd := As.mk (Nat.le_of_eq hg_gd.symm); clear hg_gd; obtain ⟨x0, x1⟩ := cells2 hx_gd; have z0 := blk_frozen hx_gd 0; have z1 := blk_frozen hx_gd 1; have hb2 := (hb_gd.setCell (p := ⟨gd, 0, none⟩) GQ_gd.out (.string da)).setCell (p := ⟨gd, 1, none⟩) GQ_gd.out (.string db); have HRM := As.mk (Kd.R_below HR6.out hb2); have HRO := As.mk (Kd.R_below HR7.out hb2); have HBM := As.mk ((hB1.setCell (p := ⟨gd, 0, none⟩) GD_gd.out (.string da)).setCell (p := ⟨gd, 1, none⟩) GD_gd.out (.string db)); have HX3 := As.mk (blk_put (blk_put hx_gd 0 (.string da) rfl) 1 (.string db) rfl); clear hb2)
          | ((with_reducible refine gate_builtin (b := .append) (xs := #[.tmp 20, .tmp 22]) rfl ?_); at_builtin; refine Kd.R_append k29 (w0 := w) w.heap.size rfl (.tmp 20) (.tmp 22) 33 29 (.agg #[(.string ⟨#[]⟩), (.string ⟨#[]⟩)]) 32 rfl Try.underlying33 info29 rfl (by decide) (by omega) _ X6 (⟨da, db⟩ : S29) [.string da, .string db] (fun k => True ∧ some k ≠ (Value.slice A7 X7.length c7).ownBlock) (fun _ => False) rfl (by first | (go_simp; done) | (go_simp; rfl)) ?aP (fun _ hk => hk.elim) (fun k hk => ⟨trivial, Kd.fresh_ok HRO.out k hk⟩) ?aO ?aB ?aS ?aL ?_; (case aP => exact k29_mkM _ _ _ (⟨da, db⟩ : S29)); (case aO => exact HRM.out); (case aB => exact HBM.out); (case aS => exact HBM.out.size); (case aL => omega); intro v5 w5 ho5 hB5 hg5 hat5; rw [← HY.out] at ho5; have hro := Kd.R_after HRO.out hg5 hat5; obtain ⟨A5, c5, rfl⟩ := Kd.R_slice ho5; have HR5 := As.mk ho5; have HB5 := As.mk hB5; have HRO5 := As.mk hro; have hx5 := (hg5.block gd (blk_lt HX3.out) (fun e' => by have := Kd.R_lt (HR6.out) gd e'.symm; have := GQ_gd.out; omega)).trans HX3.out; have y0 := (heap_cell hx5 0).trans rfl; have y1 := (heap_cell hx5 1).trans rfl; clear hx5 ho5 hB5 hg5 hat5 hro))
        go_roundg (l.length - (k + 1))
        case measure => omega
        case rel => exact ⟨k + 1, Y, X7, by go_num, ⟨HY.out.trans HLS.out.symm, HMS.out.symm, HR5.out, HRO5.out, by omega, Nat.le_refl _, HB5.out⟩⟩
      by_cases heq : da = key
      · subst heq
        have c1 : Op.bytesLess da.toList da.toList = false := lt_irrefl da
        have c2 : (da.toList == da.toList) = true := beq_self_eq_true _
        rw [lt_irrefl] at hls hms
        have HLS := As.mk hls
        have HMS := As.mk hms
        obtain ⟨Y, hY⟩ : ∃ Y, Y = X6 := ⟨_, rfl⟩
        have HY := As.mk hY
        clear hls hms hY hlt2
        go_wp2_with (first
          | ((with_reducible refine gate_dst (N := 9) rfl ?_); refine box_event ?hg (N := 9) ?hd (cs := #[.string (⟨#[]⟩ : ByteArray), .string (⟨#[]⟩ : ByteArray)]) (t := 29) ?hr ?_; (case hd => rfl); (case hg => rfl); (case hr => first | (go_simp; done) | (go_simp; rfl)); intro gd hg_gd w4 hx_gd hb_gd; have hB1 := bstep hB hb_gd; have GD_gd := As.mk ((by rw [hg_gd]; exact hB.size) : w.heap.size ≤ gd); have GQ_gd := As.mk (Nat.le_of_eq hg_gd.symm); clear hg_gd; obtain ⟨x0, x1⟩ := cells2 hx_gd; have z0 := blk_frozen hx_gd 0; have z1 := blk_frozen hx_gd 1; have hb2 := (hb_gd.setCell (p := ⟨gd, 0, none⟩) GQ_gd.out (.string da)).setCell (p := ⟨gd, 1, none⟩) GQ_gd.out (.string db); have HRM := As.mk (Kd.R_below HR6.out hb2); have HRO := As.mk (Kd.R_below HR7.out hb2); have HBM := As.mk ((hB1.setCell (p := ⟨gd, 0, none⟩) GD_gd.out (.string da)).setCell (p := ⟨gd, 1, none⟩) GD_gd.out (.string db)); have HX3 := As.mk (blk_put (blk_put hx_gd 0 (.string da) rfl) 1 (.string db) rfl); clear hb2))
        go_roundg (l.length - (k + 1))
        case measure => omega
        case rel => exact ⟨k + 1, X6, X7, by go_num, ⟨HLS.out.symm, HMS.out.symm, HRM.out, HRO.out, by omega, Nat.le_refl _, HBM.out⟩⟩
      · have c1 : Op.bytesLess da.toList key.toList = false := by simpa [lt] using hlt2
        have c2 : (da.toList == key.toList) = false := key_ne' heq
        have f0 : lt da key = false := by simpa using hlt2
        have f1 : lt key da = true := lt_tri f0 heq
        rw [f0] at hls
        rw [f1] at hms
        have HLS := As.mk hls
        have HMS := As.mk hms
        obtain ⟨Y, hY⟩ : ∃ Y, Y = X7 ++ [⟨da, db⟩] := ⟨_, rfl⟩
        have HY := As.mk hY
        clear hls hms hY hlt2 f0 f1
        go_wp2_with (first
          | ((with_reducible refine gate_dst (N := 9) rfl ?_); refine box_event ?hg (N := 9) ?hd (cs := #[.string (⟨#[]⟩ : ByteArray), .string (⟨#[]⟩ : ByteArray)]) (t := 29) ?hr ?_; (case hd => rfl); (case hg => rfl); (case hr => first | (go_simp; done) | (go_simp; rfl)); intro gd hg_gd w4 hx_gd hb_gd; have hB1 := bstep hB hb_gd; have GD_gd := As.mk ((by rw [hg_gd]; exact hB.size) : w.heap.size ≤ gd); have GQ_gd := As.mk (Nat.le_of_eq hg_gd.symm); clear hg_gd; obtain ⟨x0, x1⟩ := cells2 hx_gd; have z0 := blk_frozen hx_gd 0; have z1 := blk_frozen hx_gd 1; have hb2 := (hb_gd.setCell (p := ⟨gd, 0, none⟩) GQ_gd.out (.string da)).setCell (p := ⟨gd, 1, none⟩) GQ_gd.out (.string db); have HRM := As.mk (Kd.R_below HR7.out hb2); have HRO := As.mk (Kd.R_below HR6.out hb2); have HBM := As.mk ((hB1.setCell (p := ⟨gd, 0, none⟩) GD_gd.out (.string da)).setCell (p := ⟨gd, 1, none⟩) GD_gd.out (.string db)); have HX3 := As.mk (blk_put (blk_put hx_gd 0 (.string da) rfl) 1 (.string db) rfl); clear hb2)
          | ((with_reducible refine gate_builtin (b := .append) (xs := #[.tmp 28, .tmp 30]) rfl ?_); at_builtin; refine Kd.R_append k29 (w0 := w) w.heap.size rfl (.tmp 28) (.tmp 30) 33 29 (.agg #[(.string ⟨#[]⟩), (.string ⟨#[]⟩)]) 32 rfl Try.underlying33 info29 rfl (by decide) (by omega) _ X7 (⟨da, db⟩ : S29) [.string da, .string db] (fun k => True ∧ some k ≠ (Value.slice A6 X6.length c6).ownBlock) (fun _ => False) rfl (by first | (go_simp; done) | (go_simp; rfl)) ?aP (fun _ hk => hk.elim) (fun k hk => ⟨trivial, Kd.fresh_ok HRO.out k hk⟩) ?aO ?aB ?aS ?aL ?_; (case aP => exact k29_mkM _ _ _ (⟨da, db⟩ : S29)); (case aO => exact HRM.out); (case aB => exact HBM.out); (case aS => exact HBM.out.size); (case aL => omega); intro v5 w5 ho5 hB5 hg5 hat5; rw [← HY.out] at ho5; have hro := Kd.R_after HRO.out hg5 hat5; obtain ⟨A5, c5, rfl⟩ := Kd.R_slice ho5; have HR5 := As.mk ho5; have HB5 := As.mk hB5; have HRO5 := As.mk hro; have hx5 := (hg5.block gd (blk_lt HX3.out) (fun e' => by have := Kd.R_lt (HR7.out) gd e'.symm; have := GQ_gd.out; omega)).trans HX3.out; have y0 := (heap_cell hx5 0).trans rfl; have y1 := (heap_cell hx5 1).trans rfl; clear hx5 ho5 hB5 hg5 hat5 hro))
        go_roundg (l.length - (k + 1))
        case measure => omega
        case rel => exact ⟨k + 1, X6, Y, by go_num, ⟨HLS.out.symm, HY.out.trans HMS.out.symm, HRO5.out, HR5.out, by omega, Nat.le_refl _, HB5.out⟩⟩
    · obtain rfl : k = l.length := by omega
      rw [List.take_length] at hX6 hX7
      have H6 := As.mk hX6
      have H7 := As.mk hX7
      have HR6 := As.mk (Sl.of_R hR6)
      have HR7 := As.mk (Sl.of_R hR7)
      have HB := As.mk hB
      obtain ⟨A6, c6, rfl⟩ := Kd.R_slice hR6
      obtain ⟨A7, c7, rfl⟩ := Kd.R_slice hR7
      clear hB hX6 hX7 hR6 hR7
      go_wp2
      go_ret2
      exact ⟨_, _, rfl, by rw [← H6.out]; exact HR6.out, by rw [← H7.out]; exact HR7.out, HB.out⟩

end Go.Proofs.Ytehnkoglhbbfjaa
