/-
  The walks of tree's glue, split, find, put, drop.
-/
import Derived.Test.YtehnkoglhbbfjaaT1
import Derived.Deep.LoopGhost
set_option linter.unusedVariables false
set_option linter.unusedSimpArgs false
namespace Go.Proofs.Ytehnkoglhbbfjaa
open Go.RowKit Go.Proofs.YtehnkoglhbbfjaaW.PrintWords Go.Proofs.YtehnkoglhbbfjaaW.PrintLast Go.Proofs.YtehnkoglhbbfjaaW.PrintMore

theorem key_ne {a b : ByteArray} (h : ¬ a = b) : (a.toList == b.toList) = false := beq_eq_false_iff_ne.2 fun e => h (toList_inj e)

set_option maxHeartbeats 400000 in
set_option maxRecDepth 100000 in
theorem glue_calls (p q : Option Addr) (l m : T) (w : World) (hp : IsT w p l) (hq : IsT w q m) (hs : l.size + m.size < 1000000000) :
    Calls Try.prog 85 #[.pointer p, .pointer q] w fun e w' => ∃ p', e = .returned (.pointer p') ∧ IsT w' p' (T.glue l m) ∧ Below w.heap.size w w' := by
  cases l with
  | nil =>
    obtain rfl : p = none := hp
    go_enter Try.func85, Try.ntmps85
    go_wp2
    go_ret
    exact ⟨_, rfl, hq, Below.refl _ _⟩
  | node a ak av c =>
    have hgl : T.glue (T.node a ak av c) m = T.join (T.node a ak av c).last.1 (T.node a ak av c).last.2.1 (T.node a ak av c).last.2.2 m := rfl
    have hsz := T.last_size (T.node a ak av c) (by intro h; cases h)
    have hne : T.node a ak av c ≠ .nil := by intro h; cases h
    obtain ⟨pb, rfl⟩ : ∃ a, p = some a := by obtain ⟨b', lp', rp', rfl, -, -, -⟩ := hp; exact ⟨_, rfl⟩
    rw [hgl]
    clear hgl
    generalize T.node a ak av c = R at *
    generalize hL : R.last = L at *
    obtain ⟨L, lk, lv⟩ := L
    dsimp only at *
    have HL := As.mk hL
    clear hL
    go_enter Try.func85, Try.ntmps85
    go_wp2_with (first
      | (go_at_call 96; refine (last_calls R (some pb) _ hp hne (by omega)).mono ?_; rintro e w2 ⟨p2, rfl, ht2, hB2⟩; rw [HL.out] at ht2; rw [HL.out])
      | ((with_reducible refine gate_dst (N := 6) rfl ?_); refine box_event ?hg (N := 6) ?hd (cs := #[.string (⟨#[]⟩ : ByteArray), .string (⟨#[]⟩ : ByteArray)]) (t := 29) ?hr ?_; (case hd => rfl); (case hg => rfl); (case hr => first | (go_simp; done) | (go_simp; rfl)); intro gp hg_gp w3 hx_gp hb_gp; have hB3 := bstep hB2 hb_gp; have GP := As.mk ((by rw [hg_gp]; exact hB2.size) : w.heap.size ≤ gp); have GQ := As.mk (Nat.le_of_eq hg_gp.symm); clear hg_gp; obtain ⟨x0, x1⟩ := cells2 hx_gp; have z0 := blk_frozen hx_gp 0; have z1 := blk_frozen hx_gp 1)
      | (go_at_call 95; refine (join_calls p2 q L m lk lv _ ?h1 ?h2 (by omega)).mono ?_; (case h1 => exact ht2.below ((hb_gp.setCell (p := ⟨gp, 0, none⟩) GQ.out _).setCell (p := ⟨gp, 1, none⟩) GQ.out _)); (case h2 => exact hq.below ((hB3.setCell (p := ⟨gp, 0, none⟩) GP.out _).setCell (p := ⟨gp, 1, none⟩) GP.out _)); rintro e w5 ⟨p5, rfl, ht5, hb5⟩; have hB5 := bstep ((hB3.setCell (p := ⟨gp, 0, none⟩) GP.out (.string lk)).setCell (p := ⟨gp, 1, none⟩) GP.out (.string lv)) hb5))
    go_ret
    exact ⟨p5, rfl, ht5, hB5⟩

set_option maxHeartbeats 400000 in
set_option maxRecDepth 100000 in
theorem split_calls (key : ByteArray) (t : T) : ∀ (p : Option Addr) (w : World), IsT w p t → t.size < 1000000000 →
    Calls Try.prog 84 #[.pointer p, .string key] w fun e w' => ∃ p1 p2 p3, e = .returned (.tuple #[.pointer p1, .pointer p2, .pointer p3]) ∧ IsT w' p1 (t.split key).1 ∧ IsT w' p2 (t.split key).2.1 ∧ IsT w' p3 (t.split key).2.2 ∧ Below w.heap.size w w' := by
  induction t with
  | nil =>
    intro p w hp _
    obtain rfl : p = none := hp
    go_enter Try.func84, Try.ntmps84
    go_wp2
    go_ret3
    exact ⟨none, none, none, rfl, rfl, rfl, rfl, Below.refl _ _⟩
  | node l k' v' r ihl ihr =>
    intro p w hp hs
    have HP := As.mk hp
    obtain ⟨b, lp, rp, rfl, hb, hl, hr⟩ := hp
    have IHL := As.mk ihl
    have IHR := As.mk ihr
    clear ihl ihr
    have sl := T.split_size key l
    have sr := T.split_size key r
    simp only [T.size] at hs
    obtain ⟨e0, e1, e2, e3, -, -⟩ := cells6 hb
    have HT : As (∀ w', Below w.heap.size w w' → w'.cell? ⟨b, 0, none⟩ = some (.string k') ∧ w'.cell? ⟨b, 1, none⟩ = some (.string v') ∧ w'.cell? ⟨b, 2, none⟩ = some (.pointer lp) ∧ w'.cell? ⟨b, 3, none⟩ = some (.pointer rp) ∧ Below w.heap.size w w') := ⟨fun w' h => ⟨(heap_cell (blk_step hb h) 0).trans rfl, (heap_cell (blk_step hb h) 1).trans rfl, (heap_cell (blk_step hb h) 2).trans rfl, (heap_cell (blk_step hb h) 3).trans rfl, h⟩⟩
    by_cases c1 : lt key k' = true
    · have c1' : Op.bytesLess key.toList k'.toList = true := c1
      have hsp : T.split key (T.node l k' v' r) = ((T.split key l).1, T.join (T.split key l).2.1 k' v' r, (T.split key l).2.2) := by
        rw [T.split, if_pos c1]
      rw [hsp]
      generalize T.split key l = X at *
      obtain ⟨X1, X2, X3⟩ := X
      dsimp only at *
      have C1 := As.mk c1
      clear c1 hsp
      go_enter Try.func84, Try.ntmps84
      go_wp2_with (first
        | (go_at_call 84; refine (IHL.out lp _ hl (by omega)).mono ?_; rintro e w2 ⟨p1, p2, p3, rfl, ht1, ht2, ht3, hB2⟩))
      go_region_held3 (fun w' => w'.cell? ⟨b, 0, none⟩ = some (.string k') ∧ w'.cell? ⟨b, 1, none⟩ = some (.string v') ∧ w'.cell? ⟨b, 2, none⟩ = some (.pointer lp) ∧ w'.cell? ⟨b, 3, none⟩ = some (.pointer rp) ∧ Below w.heap.size w w')
        (first | exact HT.out _ hB2.drew | exact HT.out _ hB5)
        (first
          | (go_at_call 95; refine (join_calls p2 rp X2 r k' v' _ (ht2.below (Below.refl _ _).drew) (hr.below hB2.drew) (by omega)).mono ?_; rintro e w5 ⟨p5, rfl, ht5, hb5⟩; have hB5 := bstep hB2.drew hb5))
      go_wp2
      go_ret3
      have hq := (Below.refl w2.heap.size w2).drew.trans hb5
      exact ⟨_, _, _, rfl, ht1.below hq, ht5, ht3.below hq, hB5⟩
    · have c1' : Op.bytesLess key.toList k'.toList = false := by simpa [lt] using c1
      by_cases c2 : key = k'
      · subst c2
        have hsp : T.split key (T.node l key v' r) = (l, r, T.node l key v' r) := by
          rw [T.split, if_neg c1, if_pos rfl]
        rw [hsp]
        clear hsp c1
        go_enter Try.func84, Try.ntmps84
        go_wp2
        go_quiet (fail)
        go_wp2
        go_ret3
        exact ⟨lp, rp, _, rfl, hl.drewN _, hr.drewN _, HP.out.drewN _, pw_below_drewN (Below.refl _ _) _⟩
      · have c2' := key_ne c2
        have hsp : T.split key (T.node l k' v' r) = (T.join l k' v' (T.split key r).1, (T.split key r).2.1, (T.split key r).2.2) := by
          rw [T.split, if_neg c1, if_neg c2]
        rw [hsp]
        generalize T.split key r = X at *
        obtain ⟨X1, X2, X3⟩ := X
        dsimp only at *
        clear c1 hsp c2
        go_enter Try.func84, Try.ntmps84
        go_wp2_with (first
          | (go_at_call 84; refine (IHR.out rp _ hr (by omega)).mono ?_; rintro e w2 ⟨p1, p2, p3, rfl, ht1, ht2, ht3, hB2⟩))
        go_region_held3 (fun w' => w'.cell? ⟨b, 0, none⟩ = some (.string k') ∧ w'.cell? ⟨b, 1, none⟩ = some (.string v') ∧ w'.cell? ⟨b, 2, none⟩ = some (.pointer lp) ∧ w'.cell? ⟨b, 3, none⟩ = some (.pointer rp) ∧ Below w.heap.size w w')
          (first | exact HT.out _ hB2.drew | exact HT.out _ hB5)
          (first
            | (go_at_call 95; refine (join_calls lp p1 l X1 k' v' _ (hl.below hB2.drew) (ht1.below (Below.refl _ _).drew) (by omega)).mono ?_; rintro e w5 ⟨p5, rfl, ht5, hb5⟩; have hB5 := bstep hB2.drew hb5))
        go_wp2
        go_ret3
        have hq := (Below.refl w2.heap.size w2).drew.trans hb5
        exact ⟨_, _, _, rfl, ht5, ht2.below hq, ht3.below hq, hB5⟩

set_option maxHeartbeats 400000 in
set_option maxRecDepth 100000 in
theorem put_calls (k v : ByteArray) (t : T) : ∀ (p : Option Addr) (w : World), IsT w p t → t.size < 900000000 →
    Calls Try.prog 77 #[.pointer p, .agg #[.string k, .string v]] w fun e w' => ∃ p', e = .returned (.pointer p') ∧ IsT w' p' (t.put k v) ∧ Below w.heap.size w w' := by
  induction t with
  | nil =>
    intro p w hp _
    obtain rfl : p = none := hp
    go_enter Try.func77, Try.ntmps77
    go_wp2_with (first
      | ((with_reducible refine gate_dst (N := 3) rfl ?_); refine box_event ?hg (N := 3) ?hd (cs := #[.string k, .string v]) (t := 29) ?hr ?_; (case hd => rfl); (case hg => rfl); (case hr => first | (go_simp; done) | (go_simp; rfl)); intro gb hg w1 hbox hB1; clear hg; obtain ⟨x0, x1⟩ := cells2 hbox)
      | (go_at_call 94; refine (over_calls none none .nil .nil k v _ rfl rfl (by simp only [T.size]; omega)).mono ?_; rintro e w5 ⟨p5, rfl, ht5, hb5⟩; have hB5 := bstep hB1 hb5))
    go_ret
    exact ⟨_, rfl, ht5, hB5⟩
  | node l k' v' r ihl ihr =>
    intro p w hp hs
    obtain ⟨b, lp, rp, rfl, hb, hl, hr⟩ := hp
    have IHL := As.mk ihl
    have IHR := As.mk ihr
    clear ihl ihr
    have sl := T.put_size k v l
    have sr := T.put_size k v r
    simp only [T.size] at hs
    by_cases c1 : lt k k' = true
    · have c1' : Op.bytesLess k.toList k'.toList = true := c1
      have hsp : T.put k v (T.node l k' v' r) = T.join (T.put k v l) k' v' r := by rw [T.put, if_pos c1]
      rw [hsp]
      generalize T.put k v l = X at *
      clear c1 hsp
      go_enter Try.func77, Try.ntmps77
      go_wp2_with (first
        | ((with_reducible refine gate_dst (N := 3) rfl ?_); refine box_event ?hg (N := 3) ?hd (cs := #[.string k, .string v]) (t := 29) ?hr ?_; (case hd => rfl); (case hg => rfl); (case hr => first | (go_simp; done) | (go_simp; rfl)); intro gb hg w1 hbox hB1; clear hg; have HX := As.mk hbox; obtain ⟨x0, x1⟩ := cells2 hbox; obtain ⟨e0, e1, e2, e3, -, -⟩ := cells6 (blk_step hb hB1); clear hbox))
      go_quiet (fail)
      have HS : As (∀ w', Below w1.heap.size w1 w' → w'.cell? ⟨b, 0, none⟩ = some (.string k') ∧ w'.cell? ⟨b, 1, none⟩ = some (.string v') ∧ w'.cell? ⟨b, 2, none⟩ = some (.pointer lp) ∧ w'.cell? ⟨b, 3, none⟩ = some (.pointer rp) ∧ w'.cell? ⟨gb, 0, none⟩ = some (.string k) ∧ w'.cell? ⟨gb, 1, none⟩ = some (.string v) ∧ Below w.heap.size w w') := ⟨fun w' h => ⟨(heap_cell (blk_step hb (bstep hB1 h)) 0).trans rfl, (heap_cell (blk_step hb (bstep hB1 h)) 1).trans rfl, (heap_cell (blk_step hb (bstep hB1 h)) 2).trans rfl, (heap_cell (blk_step hb (bstep hB1 h)) 3).trans rfl, (heap_cell (blk_step HX.out h) 0).trans rfl, (heap_cell (blk_step HX.out h) 1).trans rfl, bstep hB1 h⟩⟩
      go_wp2_with fail
      go_region_held3 (fun w' => w'.cell? ⟨b, 0, none⟩ = some (.string k') ∧ w'.cell? ⟨b, 1, none⟩ = some (.string v') ∧ w'.cell? ⟨b, 2, none⟩ = some (.pointer lp) ∧ w'.cell? ⟨b, 3, none⟩ = some (.pointer rp) ∧ w'.cell? ⟨gb, 0, none⟩ = some (.string k) ∧ w'.cell? ⟨gb, 1, none⟩ = some (.string v) ∧ Below w.heap.size w w')
        (first | exact HS.out _ (pw_below_drewN (Below.refl _ _) nq).drew | exact HS.out _ hb4 | exact HS.out _ hb5)
        (first
          | (go_at_call 77; refine (IHL.out lp _ (hl.below (pw_below_drewN hB1 nq).drew) (by omega)).mono ?_; rintro e w4 ⟨p4, rfl, ht4, hb4'⟩; have hb4 := bstep (pw_below_drewN (Below.refl w1.heap.size w1) nq).drew hb4')
          | (go_at_call 95; refine (join_calls p4 rp X r k' v' _ ht4 (hr.below (bstep hB1 hb4)) (by omega)).mono ?_; rintro e w5 ⟨p5, rfl, ht5, hb5'⟩; have hb5 := bstep hb4 hb5'))
      go_wp2
      go_ret
      exact ⟨_, rfl, ht5, bstep hB1 hb5⟩
    · have c1' : Op.bytesLess k.toList k'.toList = false := by simpa [lt] using c1
      by_cases c2 : k = k'
      · subst c2
        have hsp : T.put k v (T.node l k v' r) = T.node l k v r := by rw [T.put, if_neg c1, if_pos rfl]
        rw [hsp]
        clear c1 hsp
        go_enter Try.func77, Try.ntmps77
        go_wp2_with (first
          | ((with_reducible refine gate_dst (N := 3) rfl ?_); refine box_event ?hg (N := 3) ?hd (cs := #[.string k, .string v]) (t := 29) ?hr ?_; (case hd => rfl); (case hg => rfl); (case hr => first | (go_simp; done) | (go_simp; rfl)); intro gb hg w1 hbox hB1; clear hg; have HX := As.mk hbox; obtain ⟨x0, x1⟩ := cells2 hbox; obtain ⟨e0, e1, e2, e3, -, -⟩ := cells6 (blk_step hb hB1); clear hbox))
        go_quiet (fail)
        go_wp2_with fail
        go_quiet (fail)
        have HS : As (∀ w', Below w1.heap.size w1 w' → w'.cell? ⟨b, 0, none⟩ = some (.string k) ∧ w'.cell? ⟨b, 1, none⟩ = some (.string v') ∧ w'.cell? ⟨b, 2, none⟩ = some (.pointer lp) ∧ w'.cell? ⟨b, 3, none⟩ = some (.pointer rp) ∧ w'.cell? ⟨gb, 0, none⟩ = some (.string k) ∧ w'.cell? ⟨gb, 1, none⟩ = some (.string v) ∧ Below w.heap.size w w') := ⟨fun w' h => ⟨(heap_cell (blk_step hb (bstep hB1 h)) 0).trans rfl, (heap_cell (blk_step hb (bstep hB1 h)) 1).trans rfl, (heap_cell (blk_step hb (bstep hB1 h)) 2).trans rfl, (heap_cell (blk_step hb (bstep hB1 h)) 3).trans rfl, (heap_cell (blk_step HX.out h) 0).trans rfl, (heap_cell (blk_step HX.out h) 1).trans rfl, bstep hB1 h⟩⟩
        go_wp2_with fail
        go_region_held3 (fun w' => w'.cell? ⟨b, 0, none⟩ = some (.string k) ∧ w'.cell? ⟨b, 1, none⟩ = some (.string v') ∧ w'.cell? ⟨b, 2, none⟩ = some (.pointer lp) ∧ w'.cell? ⟨b, 3, none⟩ = some (.pointer rp) ∧ w'.cell? ⟨gb, 0, none⟩ = some (.string k) ∧ w'.cell? ⟨gb, 1, none⟩ = some (.string v) ∧ Below w.heap.size w w')
          (first | exact HS.out _ (pw_below_drewN (Below.refl _ _) _).drew | exact HS.out _ (pw_below_drewN (pw_below_drewN (Below.refl _ _) _) _).drew | exact HS.out _ hb5)
          (first
            | (go_at_call 94; refine (over_calls lp rp l r k v _ (hl.below (pw_below_drewN hB1 _)) (hr.below (pw_below_drewN hB1 _)) (by omega)).mono ?_; rintro e w5 ⟨p5, rfl, ht5, hb5'⟩; have hb5 := bstep (w := w1) (pw_below_drewN (Below.refl w1.heap.size w1) _) hb5'))
        go_wp2
        go_ret
        exact ⟨_, rfl, ht5, bstep hB1 hb5⟩
      · have c2' := key_ne c2
        have hsp : T.put k v (T.node l k' v' r) = T.join l k' v' (T.put k v r) := by rw [T.put, if_neg c1, if_neg c2]
        rw [hsp]
        generalize T.put k v r = X at *
        clear c1 hsp c2
        go_enter Try.func77, Try.ntmps77
        go_wp2_with (first
          | ((with_reducible refine gate_dst (N := 3) rfl ?_); refine box_event ?hg (N := 3) ?hd (cs := #[.string k, .string v]) (t := 29) ?hr ?_; (case hd => rfl); (case hg => rfl); (case hr => first | (go_simp; done) | (go_simp; rfl)); intro gb hg w1 hbox hB1; clear hg; have HX := As.mk hbox; obtain ⟨x0, x1⟩ := cells2 hbox; obtain ⟨e0, e1, e2, e3, -, -⟩ := cells6 (blk_step hb hB1); clear hbox))
        go_quiet (fail)
        go_wp2_with fail
        go_quiet (fail)
        have HS : As (∀ w', Below w1.heap.size w1 w' → w'.cell? ⟨b, 0, none⟩ = some (.string k') ∧ w'.cell? ⟨b, 1, none⟩ = some (.string v') ∧ w'.cell? ⟨b, 2, none⟩ = some (.pointer lp) ∧ w'.cell? ⟨b, 3, none⟩ = some (.pointer rp) ∧ w'.cell? ⟨gb, 0, none⟩ = some (.string k) ∧ w'.cell? ⟨gb, 1, none⟩ = some (.string v) ∧ Below w.heap.size w w') := ⟨fun w' h => ⟨(heap_cell (blk_step hb (bstep hB1 h)) 0).trans rfl, (heap_cell (blk_step hb (bstep hB1 h)) 1).trans rfl, (heap_cell (blk_step hb (bstep hB1 h)) 2).trans rfl, (heap_cell (blk_step hb (bstep hB1 h)) 3).trans rfl, (heap_cell (blk_step HX.out h) 0).trans rfl, (heap_cell (blk_step HX.out h) 1).trans rfl, bstep hB1 h⟩⟩
        go_wp2_with fail
        go_region_held3 (fun w' => w'.cell? ⟨b, 0, none⟩ = some (.string k') ∧ w'.cell? ⟨b, 1, none⟩ = some (.string v') ∧ w'.cell? ⟨b, 2, none⟩ = some (.pointer lp) ∧ w'.cell? ⟨b, 3, none⟩ = some (.pointer rp) ∧ w'.cell? ⟨gb, 0, none⟩ = some (.string k) ∧ w'.cell? ⟨gb, 1, none⟩ = some (.string v) ∧ Below w.heap.size w w')
          (first | exact HS.out _ (pw_below_drewN (Below.refl _ _) _).drew | exact HS.out _ (pw_below_drewN (pw_below_drewN (Below.refl _ _) _) _).drew | exact HS.out _ hb4 | exact HS.out _ hb5)
          (first
            | (go_at_call 77; refine (IHR.out rp _ (hr.below (pw_below_drewN hB1 _)) (by omega)).mono ?_; rintro e w4 ⟨p4, rfl, ht4, hb4'⟩; have hb4 := bstep (w := w1) (pw_below_drewN (Below.refl w1.heap.size w1) _) hb4')
            | (go_at_call 95; refine (join_calls lp p4 l X k' v' _ (hl.below (bstep hB1 hb4)) ht4 (by omega)).mono ?_; rintro e w5 ⟨p5, rfl, ht5, hb5'⟩; have hb5 := bstep hb4 hb5'))
        go_wp2
        go_ret
        exact ⟨_, rfl, ht5, bstep hB1 hb5⟩

set_option maxHeartbeats 400000 in
set_option maxRecDepth 100000 in
theorem drop_calls (k : ByteArray) (t : T) : ∀ (p : Option Addr) (w : World), IsT w p t → t.size < 1000000000 →
    Calls Try.prog 83 #[.pointer p, .string k] w fun e w' => ∃ p', e = .returned (.pointer p') ∧ IsT w' p' (t.drop k) ∧ Below w.heap.size w w' := by
  induction t with
  | nil =>
    intro p w hp _
    obtain rfl : p = none := hp
    go_enter Try.func83, Try.ntmps83
    go_wp2
    go_ret
    exact ⟨none, rfl, rfl, Below.refl _ _⟩
  | node l k' v' r ihl ihr =>
    intro p w hp hs
    obtain ⟨b, lp, rp, rfl, hb, hl, hr⟩ := hp
    have IHL := As.mk ihl
    have IHR := As.mk ihr
    clear ihl ihr
    have sl := T.drop_size k l
    have sr := T.drop_size k r
    simp only [T.size] at hs
    obtain ⟨e0, e1, e2, e3, -, -⟩ := cells6 hb
    have HT : As (∀ w', Below w.heap.size w w' → w'.cell? ⟨b, 0, none⟩ = some (.string k') ∧ w'.cell? ⟨b, 1, none⟩ = some (.string v') ∧ w'.cell? ⟨b, 2, none⟩ = some (.pointer lp) ∧ w'.cell? ⟨b, 3, none⟩ = some (.pointer rp) ∧ Below w.heap.size w w') := ⟨fun w' h => ⟨(heap_cell (blk_step hb h) 0).trans rfl, (heap_cell (blk_step hb h) 1).trans rfl, (heap_cell (blk_step hb h) 2).trans rfl, (heap_cell (blk_step hb h) 3).trans rfl, h⟩⟩
    by_cases c1 : lt k k' = true
    · have c1' : Op.bytesLess k.toList k'.toList = true := c1
      have hsp : T.drop k (T.node l k' v' r) = T.join (T.drop k l) k' v' r := by rw [T.drop, if_pos c1]
      rw [hsp]
      generalize T.drop k l = X at *
      clear c1 hsp
      go_enter Try.func83, Try.ntmps83
      go_wp2_with fail
      go_region_held3 (fun w' => w'.cell? ⟨b, 0, none⟩ = some (.string k') ∧ w'.cell? ⟨b, 1, none⟩ = some (.string v') ∧ w'.cell? ⟨b, 2, none⟩ = some (.pointer lp) ∧ w'.cell? ⟨b, 3, none⟩ = some (.pointer rp) ∧ Below w.heap.size w w')
        (first | exact HT.out _ (Below.refl _ _).drew | exact HT.out _ hb4 | exact HT.out _ hb5)
        (first
          | (go_at_call 83; refine (IHL.out lp _ (hl.below (Below.refl _ _).drew) (by omega)).mono ?_; rintro e w4 ⟨p4, rfl, ht4, hb4'⟩; have hb4 := bstep (Below.refl w.heap.size w).drew hb4')
          | (go_at_call 95; refine (join_calls p4 rp X r k' v' _ ht4 (hr.below hb4) (by omega)).mono ?_; rintro e w5 ⟨p5, rfl, ht5, hb5'⟩; have hb5 := bstep hb4 hb5'))
      go_wp2
      go_ret
      exact ⟨_, rfl, ht5, hb5⟩
    · have c1' : Op.bytesLess k.toList k'.toList = false := by simpa [lt] using c1
      by_cases c2 : k = k'
      · subst c2
        have hsp : T.drop k (T.node l k v' r) = T.glue l r := by rw [T.drop, if_neg c1, if_pos rfl]
        rw [hsp]
        clear c1 hsp
        go_enter Try.func83, Try.ntmps83
        go_wp2_with fail
        go_region_held3 (fun w' => w'.cell? ⟨b, 0, none⟩ = some (.string k) ∧ w'.cell? ⟨b, 1, none⟩ = some (.string v') ∧ w'.cell? ⟨b, 2, none⟩ = some (.pointer lp) ∧ w'.cell? ⟨b, 3, none⟩ = some (.pointer rp) ∧ Below w.heap.size w w')
          (first | exact HT.out _ (Below.refl _ _).drew | exact HT.out _ hb5)
          (first
            | (go_at_call 85; refine (glue_calls lp rp l r _ (hl.below (Below.refl _ _).drew) (hr.below (Below.refl _ _).drew) (by omega)).mono ?_; rintro e w5 ⟨p5, rfl, ht5, hb5'⟩; have hb5 := bstep (Below.refl w.heap.size w).drew hb5'))
        go_wp2
        go_ret
        exact ⟨_, rfl, ht5, hb5⟩
      · have c2' := key_ne c2
        have hsp : T.drop k (T.node l k' v' r) = T.join l k' v' (T.drop k r) := by rw [T.drop, if_neg c1, if_neg c2]
        rw [hsp]
        generalize T.drop k r = X at *
        clear c1 hsp c2
        go_enter Try.func83, Try.ntmps83
        go_wp2_with fail
        go_region_held3 (fun w' => w'.cell? ⟨b, 0, none⟩ = some (.string k') ∧ w'.cell? ⟨b, 1, none⟩ = some (.string v') ∧ w'.cell? ⟨b, 2, none⟩ = some (.pointer lp) ∧ w'.cell? ⟨b, 3, none⟩ = some (.pointer rp) ∧ Below w.heap.size w w')
          (first | exact HT.out _ (Below.refl _ _).drew | exact HT.out _ hb4 | exact HT.out _ hb5)
          (first
            | (go_at_call 83; refine (IHR.out rp _ (hr.below (Below.refl _ _).drew) (by omega)).mono ?_; rintro e w4 ⟨p4, rfl, ht4, hb4'⟩; have hb4 := bstep (Below.refl w.heap.size w).drew hb4')
            | (go_at_call 95; refine (join_calls lp p4 l X k' v' _ (hl.below hb4) ht4 (by omega)).mono ?_; rintro e w5 ⟨p5, rfl, ht5, hb5'⟩; have hb5 := bstep hb4 hb5'))
        go_wp2
        go_ret
        exact ⟨_, rfl, ht5, hb5⟩

end Go.Proofs.Ytehnkoglhbbfjaa
