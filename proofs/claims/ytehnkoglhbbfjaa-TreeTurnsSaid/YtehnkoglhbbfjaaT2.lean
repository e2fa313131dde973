/-
  The walks of tree's join, last, glue, split, find, put, drop.
-/
import Derived.Test.YtehnkoglhbbfjaaT1
namespace Go.Proofs.Ytehnkoglhbbfjaa
open Go.RowKit Go.Proofs.YtehnkoglhbbfjaaW.PrintWords Go.Proofs.YtehnkoglhbbfjaaW.PrintLast Go.Proofs.YtehnkoglhbbfjaaW.PrintMore

set_option maxHeartbeats 400000 in
set_option maxRecDepth 100000 in
theorem join_calls (p q : Option Addr) (l m : T) (k v : ByteArray) (w : World) (hp : IsT w p l) (hq : IsT w q m) (hs : l.size + m.size < 1000000000) :
    Calls Try.prog 95 #[.pointer p, .agg #[.string k, .string v], .pointer q] w fun e w' => ∃ p', e = .returned (.pointer p') ∧ IsT w' p' (l.join k v m) ∧ Below w.heap.size w w' := by
  have d1 := l.depth_le
  have d2 := m.depth_le
  by_cases c1 : m.depth + 1 < l.depth
  · go_enter Try.func95, Try.ntmps95
    go_wp2_with (first
       | ((with_reducible refine gate_dst (N := 4) rfl ?_); refine box_event ?hg (N := 4) ?hd (cs := #[.string k, .string v]) (t := 29) ?hr ?_; (case hd => rfl); (case hg => rfl); (case hr => first | (go_simp; done) | (go_simp; rfl)); intro gb hg w1 hbox hB1; clear hg; obtain ⟨x0, x1⟩ := cells2 hbox; clear hbox)
       | (go_at_call_of 91 (Value.pointer p); refine (hp.below hB1).depth.mono ?_; rintro e w2 ⟨rfl, rfl⟩)
       | (go_at_call_of 91 (Value.pointer q); refine (hq.below hB1).depth.mono ?_; rintro e w2 ⟨rfl, rfl⟩)
       | (go_at_call 101; refine (downLess_calls m k v q l p _ (hp.below hB1) (hq.below hB1) c1 hs).mono ?_; rintro e w3 ⟨p3, rfl, ht3, hb3⟩))
    go_ret
    exact ⟨_, rfl, (by unfold T.join; rw [if_pos c1]; exact ht3), bstep hB1 hb3⟩
  by_cases c2 : l.depth + 1 < m.depth
  · go_enter Try.func95, Try.ntmps95
    go_wp2_with (first
       | ((with_reducible refine gate_dst (N := 4) rfl ?_); refine box_event ?hg (N := 4) ?hd (cs := #[.string k, .string v]) (t := 29) ?hr ?_; (case hd => rfl); (case hg => rfl); (case hr => first | (go_simp; done) | (go_simp; rfl)); intro gb hg w1 hbox hB1; clear hg; obtain ⟨x0, x1⟩ := cells2 hbox; clear hbox)
       | (go_at_call_of 91 (Value.pointer p); refine (hp.below hB1).depth.mono ?_; rintro e w2 ⟨rfl, rfl⟩)
       | (go_at_call_of 91 (Value.pointer q); refine (hq.below hB1).depth.mono ?_; rintro e w2 ⟨rfl, rfl⟩)
       | (go_at_call 102; refine (downMore_calls l k v p m q _ (hp.below hB1) (hq.below hB1) c2 hs).mono ?_; rintro e w3 ⟨p3, rfl, ht3, hb3⟩))
    go_ret
    exact ⟨_, rfl, (by unfold T.join; rw [if_neg c1, if_pos c2]; exact ht3), bstep hB1 hb3⟩
  · go_enter Try.func95, Try.ntmps95
    go_wp2_with (first
       | ((with_reducible refine gate_dst (N := 4) rfl ?_); refine box_event ?hg (N := 4) ?hd (cs := #[.string k, .string v]) (t := 29) ?hr ?_; (case hd => rfl); (case hg => rfl); (case hr => first | (go_simp; done) | (go_simp; rfl)); intro gb hg w1 hbox hB1; clear hg; obtain ⟨x0, x1⟩ := cells2 hbox; clear hbox)
       | (go_at_call_of 91 (Value.pointer p); refine (hp.below hB1).depth.mono ?_; rintro e w2 ⟨rfl, rfl⟩)
       | (go_at_call_of 91 (Value.pointer q); refine (hq.below hB1).depth.mono ?_; rintro e w2 ⟨rfl, rfl⟩)
       | (go_at_call 94; refine (over_calls p q l m k v _ (hp.below hB1) (hq.below hB1) hs).mono ?_; rintro e w3 ⟨p3, rfl, ht3, hb3⟩))
    go_ret
    exact ⟨_, rfl, (by unfold T.join; rw [if_neg c1, if_neg c2]; exact ht3), bstep hB1 hb3⟩

set_option maxHeartbeats 400000 in
set_option maxRecDepth 100000 in
theorem last_calls (t : T) : ∀ (p : Option Addr) (w : World), IsT w p t → t ≠ .nil → t.size < 1000000000 →
    Calls Try.prog 96 #[.pointer p] w fun e w' => ∃ p', e = .returned (.tuple #[.pointer p', .agg #[.string t.last.2.1, .string t.last.2.2]]) ∧ IsT w' p' t.last.1 ∧ Below w.heap.size w w' := by
  induction t with
  | nil => intro p w _ h; exact absurd rfl h
  | node l k v r _ ih =>
    intro p w hp _ hs
    have IH := As.mk ih
    clear ih
    obtain ⟨b, lp, rp, rfl, hb, hl, hr⟩ := hp
    simp only [T.size] at hs
    cases r with
    | nil =>
      obtain rfl : rp = none := hr
      go_enter Try.func96, Try.ntmps96
      go_wp2_with ((with_reducible refine gate_dst (N := 3) rfl ?_); refine box_event ?hg (N := 3) ?hd (cs := #[.string (⟨#[]⟩ : ByteArray), .string (⟨#[]⟩ : ByteArray)]) (t := 29) ?hr ?_; (case hd => rfl); (case hg => rfl); (case hr => first | (go_simp; done) | (go_simp; rfl)); intro gr hg_gr w1 hx_gr hb_gr; have hB1 : Below w.heap.size w w1 := hb_gr; have GE := As.mk (Nat.le_of_eq hg_gr.symm); clear hg_gr; obtain ⟨e0, e1, e2, e3, -, -⟩ := cells6 (blk_step hb hB1))
      obtain ⟨x0, x1⟩ := cells2 hx_gr
      have z0 := blk_frozen hx_gr 0
      have z1 := blk_frozen hx_gr 1
      go_region
      go_wp2
      refine bodyPost_ret (results_tc rfl _ _ gr 29 #[.string k, .string v] (0, 0) _ rfl (by refine blk_drew ?_; refine blk_put (cs := #[.string k, .string (⟨#[]⟩ : ByteArray)]) ?_ 1 _ rfl; refine blk_put (cs := #[.string (⟨#[]⟩ : ByteArray), .string (⟨#[]⟩ : ByteArray)]) ?_ 0 _ rfl; exact hx_gr) Try.underlying29 rfl (by kernel_rfl)) rfl ?_
      have hB2 := ((hB1.setCell (p := ⟨gr, 0, none⟩) GE.out (.string k)).setCell (p := ⟨gr, 1, none⟩) GE.out (.string v)).drew
      exact ⟨lp, rfl, hl.below hB2, hB2⟩
    | node a ak av c =>
      have hlast : (T.node l k v (T.node a ak av c)).last = (T.join l k v (T.node a ak av c).last.1, (T.node a ak av c).last.2) := rfl
      have hsz := T.last_size (T.node a ak av c) (by intro h; cases h)
      have hne : T.node a ak av c ≠ .nil := by intro h; cases h
      have hrp : rp ≠ none := by obtain ⟨b', lp', rp', rfl, -, -, -⟩ := hr; intro h; cases h
      rw [hlast]
      clear hlast
      generalize T.node a ak av c = R at *
      generalize hL : R.last = L at *
      obtain ⟨L, lk, lv⟩ := L
      dsimp only at *
      have HL := As.mk hL
      clear hL
      obtain ⟨rb, rfl⟩ : ∃ a, rp = some a := by cases rp with
        | none => exact absurd rfl hrp
        | some a => exact ⟨a, rfl⟩
      clear hrp
      go_enter Try.func96, Try.ntmps96
      go_wp2_with (first
        | ((with_reducible refine gate_dst (N := 3) rfl ?_); refine box_event ?hg (N := 3) ?hd (cs := #[.string (⟨#[]⟩ : ByteArray), .string (⟨#[]⟩ : ByteArray)]) (t := 29) ?hr ?_; (case hd => rfl); (case hg => rfl); (case hr => first | (go_simp; done) | (go_simp; rfl)); intro gr hg_gr w1 hx_gr hb_gr; have hB1 : Below w.heap.size w w1 := hb_gr; have GE := As.mk (Nat.le_of_eq hg_gr.symm); clear hg_gr; obtain ⟨e0, e1, e2, e3, -, -⟩ := cells6 (blk_step hb hB1))
        | (go_at_call 96; refine (IH.out (some rb) _ (hr.below hB1) hne (by omega)).mono ?_; rintro e w2 ⟨p2, rfl, ht2, hb2⟩; have hB2 := bstep hB1 hb2; have hx2 := blk_step hx_gr hb2)
        | ((with_reducible refine gate_dst (N := 5) rfl ?_); refine box_event ?hg (N := 5) ?hd (cs := #[.string (⟨#[]⟩ : ByteArray), .string (⟨#[]⟩ : ByteArray)]) (t := 29) ?hr ?_; (case hd => rfl); (case hg => rfl); (case hr => first | (go_simp; done) | (go_simp; rfl)); intro gp hg_gp w3 hx_gp hb_gp; have hB3 := bstep hB2 hb_gp; have hx3 := blk_step hx2 hb_gp; have GP := As.mk ((by rw [hg_gp]; exact Nat.le_trans hB2.size (Nat.le_refl _)) : w.heap.size ≤ gp); have GQ := As.mk (Nat.le_of_eq hg_gp.symm); have GN := As.mk ((by rw [hg_gp]; exact Nat.ne_of_lt (blk_lt hx2)) : gr ≠ gp); clear hg_gp; obtain ⟨x0, x1⟩ := cells2 hx_gp; have z0 := blk_frozen hx_gp 0; have z1 := blk_frozen hx_gp 1))
      have hB4 := (hB3.setCell (p := ⟨gp, 0, none⟩) GP.out (.string lk)).setCell (p := ⟨gp, 1, none⟩) GP.out (.string lv)
      have hb4 := (hb_gp.setCell (p := ⟨gp, 0, none⟩) GQ.out (.string lk)).setCell (p := ⟨gp, 1, none⟩) GQ.out (.string lv)
      have hx4 := blk_put (blk_put hx_gp 0 (.string lk) rfl) 1 (.string lv) rfl
      have hy4 := blk_far (blk_far hx3 (p := ⟨gp, 0, none⟩) GN.out (.string lk)) (p := ⟨gp, 1, none⟩) GN.out (.string lv)
      generalize (w3.setCell ⟨gp, 0, none⟩ (.string lk)).setCell ⟨gp, 1, none⟩ (.string lv) = w4 at *
      have ht4 := ht2.below hb4
      clear e0 e1 e2 e3 x0 x1 z0 z1
      obtain ⟨e0, e1, e2, e3, -, -⟩ := cells6 (blk_step hb hB4)
      obtain ⟨x0, x1⟩ := cells2 hx4
      obtain ⟨y0, y1⟩ := cells2 hy4
      have z0 := blk_frozen hy4 0
      have z1 := blk_frozen hy4 1
      go_region_with (go_at_call 95; refine (join_calls lp p2 l L k v _ (hl.below hB4.drew) (ht4.below (Below.refl _ _).drew) (by omega)).mono ?_; rintro e w5 ⟨p5, rfl, ht5, hb5⟩; have hB5 := bstep hB4.drew hb5; obtain ⟨x0, x1⟩ := cells2 (blk_step (w := w4.drew) hx4 hb5); obtain ⟨y0, y1⟩ := cells2 (blk_step (w := w4.drew) hy4 hb5); have z0 := blk_frozen (blk_step (w := w4.drew) hy4 hb5) 0; have z1 := blk_frozen (blk_step (w := w4.drew) hy4 hb5) 1)
      all_goals
        have hg5 := blk_step (w := w4.drew) hy4 hb5
        have hB6 := (hB5.setCell (p := ⟨gr, 0, none⟩) GE.out (.string lk)).setCell (p := ⟨gr, 1, none⟩) GE.out (.string lv)
        go_wp2
        refine bodyPost_ret (results_tc rfl _ _ gr 29 #[.string lk, .string lv] (0, 0) _ rfl (by refine blk_put (cs := #[.string lk, .string (⟨#[]⟩ : ByteArray)]) ?_ 1 _ rfl; refine blk_put (cs := #[.string (⟨#[]⟩ : ByteArray), .string (⟨#[]⟩ : ByteArray)]) ?_ 0 _ rfl; exact hg5) Try.underlying29 rfl (by kernel_rfl)) rfl ?_
        exact ⟨p5, rfl, (ht5.setCell hg5 (by decide) 0 _).setCell (blk_put hg5 0 _ rfl) (by decide) 1 _, hB6⟩

end Go.Proofs.Ytehnkoglhbbfjaa
