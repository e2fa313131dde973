/-
  The walks of tree's left, right, downLess, downMore: each makes the tree that the plain function of the same name makes.
-/
import Derived.Test.YtehnkoglhbbfjaaT0
import Derived.Deep.RegionHeld3
set_option linter.unusedVariables false
set_option linter.unusedSimpArgs false
namespace Go.Proofs.Ytehnkoglhbbfjaa
open Go.RowKit Go.Proofs.YtehnkoglhbbfjaaW.PrintWords Go.Proofs.YtehnkoglhbbfjaaW.PrintLast Go.Proofs.YtehnkoglhbbfjaaW.PrintMore

set_option maxHeartbeats 400000 in
set_option maxRecDepth 100000 in
theorem right_calls (pt : Option Addr) (l m n : T) (k v k' v' : ByteArray) (w : World) (h : IsT w pt (.node (.node l k' v' m) k v n)) (hs : l.size + m.size + n.size + 1 < 1000000000) :
    Calls Try.prog 107 #[.pointer pt] w fun e w' => ∃ p', e = .returned (.pointer p') ∧ IsT w' p' (.node l k' v' (.node m k v n)) ∧ Below w.heap.size w w' := by
  obtain ⟨b, cp, r, rfl, hb, ⟨c, p, q, rfl, hc, hp, hq⟩, hr⟩ := h
  have c0 : w.cell? ⟨b, 2, none⟩ = some (.pointer (some ⟨c, 0, none⟩)) := (heap_cell hb 2).trans rfl
  have HS : As (∀ w', Below w.heap.size w w' → w'.cell? ⟨b, 0, none⟩ = some (.string k) ∧ w'.cell? ⟨b, 1, none⟩ = some (.string v) ∧ w'.cell? ⟨b, 3, none⟩ = some (.pointer r) ∧ w'.cell? ⟨c, 0, none⟩ = some (.string k') ∧ w'.cell? ⟨c, 1, none⟩ = some (.string v') ∧ w'.cell? ⟨c, 2, none⟩ = some (.pointer p) ∧ w'.cell? ⟨c, 3, none⟩ = some (.pointer q) ∧ Below w.heap.size w w') := ⟨fun w' h => ⟨(heap_cell (blk_step hb h) 0).trans rfl, (heap_cell (blk_step hb h) 1).trans rfl, (heap_cell (blk_step hb h) 3).trans rfl, (heap_cell (blk_step hc h) 0).trans rfl, (heap_cell (blk_step hc h) 1).trans rfl, (heap_cell (blk_step hc h) 2).trans rfl, (heap_cell (blk_step hc h) 3).trans rfl, h⟩⟩
  go_enter Try.func107, Try.ntmps107
  go_wp2_with fail
  go_region_held3 (fun w' => w'.cell? ⟨b, 0, none⟩ = some (.string k) ∧ w'.cell? ⟨b, 1, none⟩ = some (.string v) ∧ w'.cell? ⟨b, 3, none⟩ = some (.pointer r) ∧ w'.cell? ⟨c, 0, none⟩ = some (.string k') ∧ w'.cell? ⟨c, 1, none⟩ = some (.string v') ∧ w'.cell? ⟨c, 2, none⟩ = some (.pointer p) ∧ w'.cell? ⟨c, 3, none⟩ = some (.pointer q) ∧ Below w.heap.size w w')
    (first | exact HS.out _ (Below.refl _ _).drew | exact HS.out _ (by assumption))
    (first
      | (go_at_call_of 94 (Value.pointer q); refine (over_calls q r m n k v _ (hq.below (Below.refl _ w).drew) (hr.below (Below.refl _ w).drew) (by omega)).mono ?_; rintro e w1 ⟨p1, rfl, ht1, hb1⟩; have hB1 := bstep (Below.refl _ w).drew hb1)
      | (go_at_call_of 94 (Value.pointer p); refine (over_calls p p1 l (.node m k v n) k' v' _ (hp.below hB1) ht1 (by simp only [T.size]; omega)).mono ?_; rintro e w2 ⟨p2, rfl, ht2, hb2⟩; have hB2 := bstep hB1 hb2))
  go_wp2
  go_ret
  exact ⟨_, rfl, ht2, hB2⟩

set_option maxHeartbeats 400000 in
set_option maxRecDepth 100000 in
theorem left_calls (pt : Option Addr) (l m n : T) (k v k' v' : ByteArray) (w : World) (h : IsT w pt (.node l k v (.node m k' v' n))) (hs : l.size + m.size + n.size + 1 < 1000000000) :
    Calls Try.prog 106 #[.pointer pt] w fun e w' => ∃ p', e = .returned (.pointer p') ∧ IsT w' p' (.node (.node l k v m) k' v' n) ∧ Below w.heap.size w w' := by
  obtain ⟨b, p, cp, rfl, hb, hp, ⟨c, q, r, rfl, hc, hq, hr⟩⟩ := h
  have c0 : w.cell? ⟨b, 3, none⟩ = some (.pointer (some ⟨c, 0, none⟩)) := (heap_cell hb 3).trans rfl
  have HS : As (∀ w', Below w.heap.size w w' → w'.cell? ⟨b, 0, none⟩ = some (.string k) ∧ w'.cell? ⟨b, 1, none⟩ = some (.string v) ∧ w'.cell? ⟨b, 2, none⟩ = some (.pointer p) ∧ w'.cell? ⟨c, 0, none⟩ = some (.string k') ∧ w'.cell? ⟨c, 1, none⟩ = some (.string v') ∧ w'.cell? ⟨c, 2, none⟩ = some (.pointer q) ∧ w'.cell? ⟨c, 3, none⟩ = some (.pointer r) ∧ Below w.heap.size w w') := ⟨fun w' h => ⟨(heap_cell (blk_step hb h) 0).trans rfl, (heap_cell (blk_step hb h) 1).trans rfl, (heap_cell (blk_step hb h) 2).trans rfl, (heap_cell (blk_step hc h) 0).trans rfl, (heap_cell (blk_step hc h) 1).trans rfl, (heap_cell (blk_step hc h) 2).trans rfl, (heap_cell (blk_step hc h) 3).trans rfl, h⟩⟩
  go_enter Try.func106, Try.ntmps106
  go_wp2_with fail
  go_region_held3 (fun w' => w'.cell? ⟨b, 0, none⟩ = some (.string k) ∧ w'.cell? ⟨b, 1, none⟩ = some (.string v) ∧ w'.cell? ⟨b, 2, none⟩ = some (.pointer p) ∧ w'.cell? ⟨c, 0, none⟩ = some (.string k') ∧ w'.cell? ⟨c, 1, none⟩ = some (.string v') ∧ w'.cell? ⟨c, 2, none⟩ = some (.pointer q) ∧ w'.cell? ⟨c, 3, none⟩ = some (.pointer r) ∧ Below w.heap.size w w')
    (first | exact HS.out _ (Below.refl _ _).drew | exact HS.out _ (by assumption))
    (first
      | (go_at_call_of 94 (Value.pointer p); refine (over_calls p q l m k v _ (hp.below (Below.refl _ w).drew) (hq.below (Below.refl _ w).drew) (by omega)).mono ?_; rintro e w1 ⟨p1, rfl, ht1, hb1⟩; have hB1 := bstep (Below.refl _ w).drew hb1)
      | (go_at_call_of 94 (Value.pointer r); refine (over_calls p1 r (.node l k v m) n k' v' _ ht1 (hr.below hB1) (by simp only [T.size]; omega)).mono ?_; rintro e w2 ⟨p2, rfl, ht2, hb2⟩; have hB2 := bstep hB1 hb2))
  go_wp2
  go_ret
  exact ⟨_, rfl, ht2, hB2⟩

set_option maxHeartbeats 400000 in
set_option maxRecDepth 100000 in
theorem downLess_calls (m : T) (k v : ByteArray) (q : Option Addr) (l : T) : ∀ (p : Option Addr) (w : World), IsT w p l → IsT w q m → m.depth + 1 < l.depth → l.size + m.size < 1000000000 →
    Calls Try.prog 101 #[.pointer p, .agg #[.string k, .string v], .pointer q] w fun e w' => ∃ p', e = .returned (.pointer p') ∧ IsT w' p' (l.downLess k v m) ∧ Below w.heap.size w w' := by
  induction l with
  | nil => intro p w _ _ h; simp [T.depth] at h
  | node ll lk lv lm _ ih =>
    intro p w hp hq hd hs
    obtain ⟨b, lp, rp, rfl, hb, hl, hr⟩ := hp
    have IH := As.mk ih
    clear ih
    have d1 := ll.depth_le
    have d2 := lm.depth_le
    have d3 := m.depth_le
    simp only [T.depth] at hd
    simp only [T.size] at hs
    have HT : As (∀ w', Below w.heap.size w w' → w'.cell? ⟨b, 0, none⟩ = some (.string lk) ∧ w'.cell? ⟨b, 1, none⟩ = some (.string lv) ∧ w'.cell? ⟨b, 2, none⟩ = some (.pointer lp) ∧ w'.cell? ⟨b, 3, none⟩ = some (.pointer rp) ∧ Below w.heap.size w w') := ⟨fun w' h => ⟨(heap_cell (blk_step hb h) 0).trans rfl, (heap_cell (blk_step hb h) 1).trans rfl, (heap_cell (blk_step hb h) 2).trans rfl, (heap_cell (blk_step hb h) 3).trans rfl, h⟩⟩
    by_cases c1 : lm.depth ≤ m.depth + 1
    · go_enter Try.func101, Try.ntmps101
      go_wp2_with (first
       | ((with_reducible refine gate_dst (N := 4) rfl ?_); refine box_event ?hg (N := 4) ?hd (cs := #[.string k, .string v]) (t := 29) ?hr ?_; (case hd => rfl); (case hg => rfl); (case hr => first | (go_simp; done) | (go_simp; rfl)); intro gb hg w1 hbox hB1; clear hg; obtain ⟨e0, e1, e2, e3, -, -⟩ := cells6 (blk_step hb hB1); obtain ⟨x0, x1⟩ := cells2 hbox; have HX := As.mk hbox; clear hbox)
       | (go_at_call_of 91 (Value.pointer rp); refine (hr.below hB1).depth.mono ?_; rintro e w2 ⟨rfl, rfl⟩)
       | (go_at_call_of 91 (Value.pointer q); refine (hq.below hB1).depth.mono ?_; rintro e w2 ⟨rfl, rfl⟩))
      have HS : As (∀ w', Below w.heap.size w w' → w'.heap[gb]? = some (.cells #[.string k, .string v] 29 (0, 0)) → w'.cell? ⟨b, 0, none⟩ = some (.string lk) ∧ w'.cell? ⟨b, 1, none⟩ = some (.string lv) ∧ w'.cell? ⟨b, 2, none⟩ = some (.pointer lp) ∧ w'.cell? ⟨b, 3, none⟩ = some (.pointer rp) ∧ w'.cell? ⟨gb, 0, none⟩ = some (.string k) ∧ w'.cell? ⟨gb, 1, none⟩ = some (.string v) ∧ Below w.heap.size w w') := ⟨fun w' h hx => ⟨(heap_cell (blk_step hb h) 0).trans rfl, (heap_cell (blk_step hb h) 1).trans rfl, (heap_cell (blk_step hb h) 2).trans rfl, (heap_cell (blk_step hb h) 3).trans rfl, (heap_cell hx 0).trans rfl, (heap_cell hx 1).trans rfl, h⟩⟩
      go_region_held3 (fun w' => w'.cell? ⟨b, 0, none⟩ = some (.string lk) ∧ w'.cell? ⟨b, 1, none⟩ = some (.string lv) ∧ w'.cell? ⟨b, 2, none⟩ = some (.pointer lp) ∧ w'.cell? ⟨b, 3, none⟩ = some (.pointer rp) ∧ w'.cell? ⟨gb, 0, none⟩ = some (.string k) ∧ w'.cell? ⟨gb, 1, none⟩ = some (.string v) ∧ Below w.heap.size w w')
        (first | exact HS.out _ hB1.drew HX.out | exact HS.out _ hB2 HX2.out)
        (first
          | (go_at_call_of 94 (Value.pointer rp); refine (over_calls rp q lm m k v _ (hr.below hB1.drew) (hq.below hB1.drew) (by omega)).mono ?_; rintro e w2 ⟨p2, rfl, ht2, hb2⟩; have hB2 := bstep hB1.drew hb2; have HX2 := As.mk (blk_step (w := w1.drew) HX.out hb2); have HT2 := As.mk ht2; obtain ⟨b2, lp2, rp2, rfl, hn2, -, -⟩ := ht2))
      obtain ⟨f0, f1, f2, f3, -, -, -⟩ := HS.out _ hB2 HX2.out
      obtain ⟨-, -, -, -, g4, -⟩ := cells6 hn2
      clear HS
      by_cases c2 : (T.node lm k v m).depth ≤ ll.depth + 1
      · go_wp2_with fail
        go_quiet ((go_at_call_of 91 (Value.pointer lp); exact Calls.quiet_of_same ((hl.below hB2).drewN _).depthS))
        have hB3 := pw_below_drewN hB2 nq
        have ht3 := HT2.out.drewN nq
        go_wp2_with fail
        go_region_held3 (fun w' => w'.cell? ⟨b, 0, none⟩ = some (.string lk) ∧ w'.cell? ⟨b, 1, none⟩ = some (.string lv) ∧ w'.cell? ⟨b, 2, none⟩ = some (.pointer lp) ∧ w'.cell? ⟨b, 3, none⟩ = some (.pointer rp) ∧ Below w.heap.size w w')
          (first | exact HT.out _ hB3.drew | exact HT.out _ hB4)
          (first
            | (go_at_call_of 94 (Value.pointer lp); refine (over_calls lp _ ll (T.node lm k v m) lk lv _ (hl.below hB3.drew) (ht3.below (Below.refl _ _).drew) (by simp only [T.size]; omega)).mono ?_; rintro e w4 ⟨p4, rfl, ht4, hb4⟩; have hB4 := bstep hB3.drew hb4))
        go_wp2
        go_ret
        exact ⟨_, rfl, (by unfold T.downLess; rw [if_pos c1, if_pos c2]; exact ht4), hB4⟩
      · go_wp2_with fail
        obtain ⟨a, ak, av, c, rfl⟩ : ∃ a ak av c, lm = T.node a ak av c := by
          cases lm with
          | nil => simp only [T.depth] at c2 hd; omega
          | node a ak av c => exact ⟨a, ak, av, c, rfl⟩
        go_quiet ((go_at_call_of 91 (Value.pointer lp); exact Calls.quiet_of_same ((hl.below hB2).drewN _).depthS))
        have hB3 := pw_below_drewN hB2 nq
        go_wp2_with fail
        go_region_held3 (fun w' => w'.cell? ⟨b, 0, none⟩ = some (.string lk) ∧ w'.cell? ⟨b, 1, none⟩ = some (.string lv) ∧ w'.cell? ⟨b, 2, none⟩ = some (.pointer lp) ∧ w'.cell? ⟨b, 3, none⟩ = some (.pointer rp) ∧ Below w.heap.size w w')
          (first | exact HT.out _ hB3.drew | exact HT.out _ hB5 | exact HT.out _ hB4 | exact HT.out _ hB6)
          (first
            | (go_at_call 107; refine (right_calls (some ⟨b2, 0, none⟩) a c m k v ak av _ (HT2.out.below (pw_below_drewN (Below.refl _ _) nq).drew) (by simp only [T.size] at hs; omega)).mono ?_; rintro e w5 ⟨p5, rfl, ht5, hb5⟩; have hB5 := bstep hB3.drew hb5)
            | (go_at_call_of 94 (Value.pointer lp); refine (over_calls lp p5 ll (T.node a ak av (T.node c k v m)) lk lv _ (hl.below hB5) ht5 (by simp only [T.size] at hs ⊢; omega)).mono ?_; rintro e w4 ⟨p4, rfl, ht4, hb4⟩; have hB4 := bstep hB5 hb4)
            | (go_at_call 106; refine (left_calls p4 ll a (T.node c k v m) lk lv ak av _ ht4 (by simp only [T.size] at hs ⊢; omega)).mono ?_; rintro e w6 ⟨p6, rfl, ht6, hb6⟩; have hB6 := bstep hB4 hb6))
        go_wp2
        go_ret
        exact ⟨_, rfl, (by unfold T.downLess; rw [if_pos c1, if_neg c2]; exact ht6), hB6⟩
    · go_enter Try.func101, Try.ntmps101
      go_wp2_with (first
       | ((with_reducible refine gate_dst (N := 4) rfl ?_); refine box_event ?hg (N := 4) ?hd (cs := #[.string k, .string v]) (t := 29) ?hr ?_; (case hd => rfl); (case hg => rfl); (case hr => first | (go_simp; done) | (go_simp; rfl)); intro gb hg w1 hbox hB1; clear hg; obtain ⟨e0, e1, e2, e3, -, -⟩ := cells6 (blk_step hb hB1); obtain ⟨x0, x1⟩ := cells2 hbox; have HX := As.mk hbox; clear hbox)
       | (go_at_call_of 91 (Value.pointer rp); refine (hr.below hB1).depth.mono ?_; rintro e w2 ⟨rfl, rfl⟩)
       | (go_at_call_of 91 (Value.pointer q); refine (hq.below hB1).depth.mono ?_; rintro e w2 ⟨rfl, rfl⟩))
      have HS : As (∀ w', Below w.heap.size w w' → w'.heap[gb]? = some (.cells #[.string k, .string v] 29 (0, 0)) → w'.cell? ⟨b, 0, none⟩ = some (.string lk) ∧ w'.cell? ⟨b, 1, none⟩ = some (.string lv) ∧ w'.cell? ⟨b, 2, none⟩ = some (.pointer lp) ∧ w'.cell? ⟨b, 3, none⟩ = some (.pointer rp) ∧ w'.cell? ⟨gb, 0, none⟩ = some (.string k) ∧ w'.cell? ⟨gb, 1, none⟩ = some (.string v) ∧ Below w.heap.size w w') := ⟨fun w' h hx => ⟨(heap_cell (blk_step hb h) 0).trans rfl, (heap_cell (blk_step hb h) 1).trans rfl, (heap_cell (blk_step hb h) 2).trans rfl, (heap_cell (blk_step hb h) 3).trans rfl, (heap_cell hx 0).trans rfl, (heap_cell hx 1).trans rfl, h⟩⟩
      go_region_held3 (fun w' => w'.cell? ⟨b, 0, none⟩ = some (.string lk) ∧ w'.cell? ⟨b, 1, none⟩ = some (.string lv) ∧ w'.cell? ⟨b, 2, none⟩ = some (.pointer lp) ∧ w'.cell? ⟨b, 3, none⟩ = some (.pointer rp) ∧ w'.cell? ⟨gb, 0, none⟩ = some (.string k) ∧ w'.cell? ⟨gb, 1, none⟩ = some (.string v) ∧ Below w.heap.size w w')
        (first | exact HS.out _ hB1.drew HX.out | exact HS.out _ hB2 (blk_step (w := w1.drew) HX.out hb2))
        (first
          | (go_at_call_of 101 (Value.pointer rp); refine (IH.out rp _ (hr.below hB1.drew) (hq.below hB1.drew) (by omega) (by omega)).mono ?_; rintro e w2 ⟨p2, rfl, ht2, hb2⟩; have hB2 := bstep hB1.drew hb2))
      clear HS
      go_wp2_with fail
      go_region_held3 (fun w' => w'.cell? ⟨b, 0, none⟩ = some (.string lk) ∧ w'.cell? ⟨b, 1, none⟩ = some (.string lv) ∧ w'.cell? ⟨b, 2, none⟩ = some (.pointer lp) ∧ w'.cell? ⟨b, 3, none⟩ = some (.pointer rp) ∧ Below w.heap.size w w')
        (first | exact HT.out _ hB2.drew | exact HT.out _ hB3)
        (first
          | (go_at_call_of 94 (Value.pointer lp); refine (over_calls lp p2 ll (T.downLess lm k v m) lk lv _ (hl.below hB2.drew) (ht2.below (Below.refl _ _).drew) (by rw [T.downLess_size]; omega)).mono ?_; rintro e w3 ⟨p3, rfl, ht3, hb3⟩; have hB3 := bstep hB2.drew hb3))
      obtain ⟨f0, f1, f2, f3, -⟩ := HT.out _ hB3
      have htx := ht2.below ((Below.refl _ w2).drew.trans hb3)
      by_cases c3 : (T.downLess lm k v m).depth ≤ ll.depth + 1
      · cases hY : (T.downLess lm k v m) with
        | nil => exact (T.downLess_ne _ _ _ _ hY).elim
        | node a ak av c =>
          rw [hY] at htx c3 ht3
          have HY := As.mk hY
          clear hY
          obtain ⟨b2, lp2, rp2, rfl, hn2, -, -⟩ := htx
          obtain ⟨-, -, -, -, g4, -⟩ := cells6 hn2
          go_wp2_with fail
          go_quiet ((go_at_call_of 91 (Value.pointer lp); exact Calls.quiet_of_same ((hl.below hB3).drewN _).depthS))
          have hB4 := pw_below_drewN hB3 nq
          go_wp2
          go_ret
          exact ⟨_, rfl, (by unfold T.downLess; rw [if_neg c1, HY.out, if_pos c3]; exact ht3.drewN nq), hB4⟩
      · cases hY : (T.downLess lm k v m) with
        | nil => exact (T.downLess_ne _ _ _ _ hY).elim
        | node a ak av c =>
          rw [hY] at htx c3 ht3
          have HY := As.mk hY
          clear hY
          obtain ⟨b2, lp2, rp2, rfl, hn2, -, -⟩ := htx
          obtain ⟨-, -, -, -, g4, -⟩ := cells6 hn2
          go_wp2_with fail
          go_quiet ((go_at_call_of 91 (Value.pointer lp); exact Calls.quiet_of_same ((hl.below hB3).drewN _).depthS))
          have hB4 := pw_below_drewN hB3 nq
          go_wp2_with (go_at_call 106; refine (left_calls p3 ll a c lk lv ak av _ (ht3.drewN nq) (by have := T.downLess_size lm k v m; rw [HY.out] at this; simp only [T.size] at this hs ⊢; omega)).mono ?_; rintro e w6 ⟨p6, rfl, ht6, hb6⟩; have hB6 := bstep hB4 hb6)
          go_ret
          exact ⟨_, rfl, (by unfold T.downLess; rw [if_neg c1, HY.out, if_neg c3]; exact ht6), hB6⟩

set_option maxHeartbeats 400000 in
set_option maxRecDepth 100000 in
theorem downMore_calls (l : T) (k v : ByteArray) (p : Option Addr) (m : T) : ∀ (q : Option Addr) (w : World), IsT w p l → IsT w q m → l.depth + 1 < m.depth → l.size + m.size < 1000000000 →
    Calls Try.prog 102 #[.pointer p, .agg #[.string k, .string v], .pointer q] w fun e w' => ∃ p', e = .returned (.pointer p') ∧ IsT w' p' (T.downMore l k v m) ∧ Below w.heap.size w w' := by
  induction m with
  | nil => intro q w _ _ h; simp [T.depth] at h
  | node ml mk mv mm ih _ =>
    intro q w hq hp hd hs
    obtain ⟨b, lp, rp, rfl, hb, hl, hr⟩ := hp
    have IH := As.mk ih
    clear ih
    have d1 := ml.depth_le
    have d2 := mm.depth_le
    have d3 := l.depth_le
    simp only [T.depth] at hd
    simp only [T.size] at hs
    have HT : As (∀ w', Below w.heap.size w w' → w'.cell? ⟨b, 0, none⟩ = some (.string mk) ∧ w'.cell? ⟨b, 1, none⟩ = some (.string mv) ∧ w'.cell? ⟨b, 2, none⟩ = some (.pointer lp) ∧ w'.cell? ⟨b, 3, none⟩ = some (.pointer rp) ∧ Below w.heap.size w w') := ⟨fun w' h => ⟨(heap_cell (blk_step hb h) 0).trans rfl, (heap_cell (blk_step hb h) 1).trans rfl, (heap_cell (blk_step hb h) 2).trans rfl, (heap_cell (blk_step hb h) 3).trans rfl, h⟩⟩
    by_cases c1 : ml.depth ≤ l.depth + 1
    · go_enter Try.func102, Try.ntmps102
      go_wp2_with (first
       | ((with_reducible refine gate_dst (N := 4) rfl ?_); refine box_event ?hg (N := 4) ?hd (cs := #[.string k, .string v]) (t := 29) ?hr ?_; (case hd => rfl); (case hg => rfl); (case hr => first | (go_simp; done) | (go_simp; rfl)); intro gb hg w1 hbox hB1; clear hg; obtain ⟨e0, e1, e2, e3, -, -⟩ := cells6 (blk_step hb hB1); obtain ⟨x0, x1⟩ := cells2 hbox; have HX := As.mk hbox; clear hbox)
       | (go_at_call_of 91 (Value.pointer lp); refine (hl.below hB1).depth.mono ?_; rintro e w2 ⟨rfl, rfl⟩)
       | (go_at_call_of 91 (Value.pointer p); refine (hq.below hB1).depth.mono ?_; rintro e w2 ⟨rfl, rfl⟩))
      have HS : As (∀ w', Below w.heap.size w w' → w'.heap[gb]? = some (.cells #[.string k, .string v] 29 (0, 0)) → w'.cell? ⟨b, 0, none⟩ = some (.string mk) ∧ w'.cell? ⟨b, 1, none⟩ = some (.string mv) ∧ w'.cell? ⟨b, 2, none⟩ = some (.pointer lp) ∧ w'.cell? ⟨b, 3, none⟩ = some (.pointer rp) ∧ w'.cell? ⟨gb, 0, none⟩ = some (.string k) ∧ w'.cell? ⟨gb, 1, none⟩ = some (.string v) ∧ Below w.heap.size w w') := ⟨fun w' h hx => ⟨(heap_cell (blk_step hb h) 0).trans rfl, (heap_cell (blk_step hb h) 1).trans rfl, (heap_cell (blk_step hb h) 2).trans rfl, (heap_cell (blk_step hb h) 3).trans rfl, (heap_cell hx 0).trans rfl, (heap_cell hx 1).trans rfl, h⟩⟩
      go_region_held3 (fun w' => w'.cell? ⟨b, 0, none⟩ = some (.string mk) ∧ w'.cell? ⟨b, 1, none⟩ = some (.string mv) ∧ w'.cell? ⟨b, 2, none⟩ = some (.pointer lp) ∧ w'.cell? ⟨b, 3, none⟩ = some (.pointer rp) ∧ w'.cell? ⟨gb, 0, none⟩ = some (.string k) ∧ w'.cell? ⟨gb, 1, none⟩ = some (.string v) ∧ Below w.heap.size w w')
        (first | exact HS.out _ hB1.drew HX.out | exact HS.out _ hB2 HX2.out)
        (first
          | (go_at_call_of 94 (Value.pointer lp); refine (over_calls p lp l ml k v _ (hq.below hB1.drew) (hl.below hB1.drew) (by omega)).mono ?_; rintro e w2 ⟨p2, rfl, ht2, hb2⟩; have hB2 := bstep hB1.drew hb2; have HX2 := As.mk (blk_step (w := w1.drew) HX.out hb2); have HT2 := As.mk ht2; obtain ⟨b2, lp2, rp2, rfl, hn2, -, -⟩ := ht2))
      obtain ⟨f0, f1, f2, f3, -, -, -⟩ := HS.out _ hB2 HX2.out
      obtain ⟨-, -, -, -, g4, -⟩ := cells6 hn2
      clear HS
      by_cases c2 : (T.node l k v ml).depth ≤ mm.depth + 1
      · go_wp2_with fail
        go_quiet ((go_at_call_of 91 (Value.pointer rp); exact Calls.quiet_of_same ((hr.below hB2).drewN _).depthS))
        have hB3 := pw_below_drewN hB2 nq
        have ht3 := HT2.out.drewN nq
        go_wp2_with fail
        go_region_held3 (fun w' => w'.cell? ⟨b, 0, none⟩ = some (.string mk) ∧ w'.cell? ⟨b, 1, none⟩ = some (.string mv) ∧ w'.cell? ⟨b, 2, none⟩ = some (.pointer lp) ∧ w'.cell? ⟨b, 3, none⟩ = some (.pointer rp) ∧ Below w.heap.size w w')
          (first | exact HT.out _ hB3.drew | exact HT.out _ hB4)
          (first
            | (go_at_call_of 94 (Value.pointer rp); refine (over_calls _ rp (T.node l k v ml) mm mk mv _ (ht3.below (Below.refl _ _).drew) (hr.below hB3.drew) (by simp only [T.size]; omega)).mono ?_; rintro e w4 ⟨p4, rfl, ht4, hb4⟩; have hB4 := bstep hB3.drew hb4))
        go_wp2
        go_ret
        exact ⟨_, rfl, (by unfold T.downMore; rw [if_pos c1, if_pos c2]; exact ht4), hB4⟩
      · go_wp2_with fail
        obtain ⟨a, ak, av, c, rfl⟩ : ∃ a ak av c, ml = T.node a ak av c := by
          cases ml with
          | nil => simp only [T.depth] at c2 hd; omega
          | node a ak av c => exact ⟨a, ak, av, c, rfl⟩
        go_quiet ((go_at_call_of 91 (Value.pointer rp); exact Calls.quiet_of_same ((hr.below hB2).drewN _).depthS))
        have hB3 := pw_below_drewN hB2 nq
        go_wp2_with fail
        go_region_held3 (fun w' => w'.cell? ⟨b, 0, none⟩ = some (.string mk) ∧ w'.cell? ⟨b, 1, none⟩ = some (.string mv) ∧ w'.cell? ⟨b, 2, none⟩ = some (.pointer lp) ∧ w'.cell? ⟨b, 3, none⟩ = some (.pointer rp) ∧ Below w.heap.size w w')
          (first | exact HT.out _ hB3.drew | exact HT.out _ hB5 | exact HT.out _ hB4 | exact HT.out _ hB6)
          (first
            | (go_at_call 106; refine (left_calls (some ⟨b2, 0, none⟩) l a c k v ak av _ (HT2.out.below (pw_below_drewN (Below.refl _ _) nq).drew) (by simp only [T.size] at hs; omega)).mono ?_; rintro e w5 ⟨p5, rfl, ht5, hb5⟩; have hB5 := bstep hB3.drew hb5)
            | (go_at_call_of 94 (Value.pointer rp); refine (over_calls p5 rp (T.node (T.node l k v a) ak av c) mm mk mv _ ht5 (hr.below hB5) (by simp only [T.size] at hs ⊢; omega)).mono ?_; rintro e w4 ⟨p4, rfl, ht4, hb4⟩; have hB4 := bstep hB5 hb4)
            | (go_at_call 107; refine (right_calls p4 (T.node l k v a) c mm mk mv ak av _ ht4 (by simp only [T.size] at hs ⊢; omega)).mono ?_; rintro e w6 ⟨p6, rfl, ht6, hb6⟩; have hB6 := bstep hB4 hb6))
        go_wp2
        go_ret
        exact ⟨_, rfl, (by unfold T.downMore; rw [if_pos c1, if_neg c2]; exact ht6), hB6⟩
    · go_enter Try.func102, Try.ntmps102
      go_wp2_with (first
       | ((with_reducible refine gate_dst (N := 4) rfl ?_); refine box_event ?hg (N := 4) ?hd (cs := #[.string k, .string v]) (t := 29) ?hr ?_; (case hd => rfl); (case hg => rfl); (case hr => first | (go_simp; done) | (go_simp; rfl)); intro gb hg w1 hbox hB1; clear hg; obtain ⟨e0, e1, e2, e3, -, -⟩ := cells6 (blk_step hb hB1); obtain ⟨x0, x1⟩ := cells2 hbox; have HX := As.mk hbox; clear hbox)
       | (go_at_call_of 91 (Value.pointer lp); refine (hl.below hB1).depth.mono ?_; rintro e w2 ⟨rfl, rfl⟩)
       | (go_at_call_of 91 (Value.pointer p); refine (hq.below hB1).depth.mono ?_; rintro e w2 ⟨rfl, rfl⟩))
      have HS : As (∀ w', Below w.heap.size w w' → w'.heap[gb]? = some (.cells #[.string k, .string v] 29 (0, 0)) → w'.cell? ⟨b, 0, none⟩ = some (.string mk) ∧ w'.cell? ⟨b, 1, none⟩ = some (.string mv) ∧ w'.cell? ⟨b, 2, none⟩ = some (.pointer lp) ∧ w'.cell? ⟨b, 3, none⟩ = some (.pointer rp) ∧ w'.cell? ⟨gb, 0, none⟩ = some (.string k) ∧ w'.cell? ⟨gb, 1, none⟩ = some (.string v) ∧ Below w.heap.size w w') := ⟨fun w' h hx => ⟨(heap_cell (blk_step hb h) 0).trans rfl, (heap_cell (blk_step hb h) 1).trans rfl, (heap_cell (blk_step hb h) 2).trans rfl, (heap_cell (blk_step hb h) 3).trans rfl, (heap_cell hx 0).trans rfl, (heap_cell hx 1).trans rfl, h⟩⟩
      go_region_held3 (fun w' => w'.cell? ⟨b, 0, none⟩ = some (.string mk) ∧ w'.cell? ⟨b, 1, none⟩ = some (.string mv) ∧ w'.cell? ⟨b, 2, none⟩ = some (.pointer lp) ∧ w'.cell? ⟨b, 3, none⟩ = some (.pointer rp) ∧ w'.cell? ⟨gb, 0, none⟩ = some (.string k) ∧ w'.cell? ⟨gb, 1, none⟩ = some (.string v) ∧ Below w.heap.size w w')
        (first | exact HS.out _ hB1.drew HX.out | exact HS.out _ hB2 (blk_step (w := w1.drew) HX.out hb2))
        (first
          | (go_at_call_of 102 (Value.pointer lp); refine (IH.out lp _ (hq.below hB1.drew) (hl.below hB1.drew) (by omega) (by omega)).mono ?_; rintro e w2 ⟨p2, rfl, ht2, hb2⟩; have hB2 := bstep hB1.drew hb2))
      clear HS
      go_wp2_with fail
      go_region_held3 (fun w' => w'.cell? ⟨b, 0, none⟩ = some (.string mk) ∧ w'.cell? ⟨b, 1, none⟩ = some (.string mv) ∧ w'.cell? ⟨b, 2, none⟩ = some (.pointer lp) ∧ w'.cell? ⟨b, 3, none⟩ = some (.pointer rp) ∧ Below w.heap.size w w')
        (first | exact HT.out _ hB2.drew | exact HT.out _ hB3)
        (first
          | (go_at_call_of 94 (Value.pointer rp); refine (over_calls p2 rp (T.downMore l k v ml) mm mk mv _ (ht2.below (Below.refl _ _).drew) (hr.below hB2.drew) (by rw [T.downMore_size]; omega)).mono ?_; rintro e w3 ⟨p3, rfl, ht3, hb3⟩; have hB3 := bstep hB2.drew hb3))
      obtain ⟨f0, f1, f2, f3, -⟩ := HT.out _ hB3
      have htx := ht2.below ((Below.refl _ w2).drew.trans hb3)
      by_cases c3 : (T.downMore l k v ml).depth ≤ mm.depth + 1
      · cases hY : (T.downMore l k v ml) with
        | nil => exact (T.downMore_ne _ _ _ _ hY).elim
        | node a ak av c =>
          rw [hY] at htx c3 ht3
          have HY := As.mk hY
          clear hY
          obtain ⟨b2, lp2, rp2, rfl, hn2, -, -⟩ := htx
          obtain ⟨-, -, -, -, g4, -⟩ := cells6 hn2
          go_wp2_with fail
          go_quiet ((go_at_call_of 91 (Value.pointer rp); exact Calls.quiet_of_same ((hr.below hB3).drewN _).depthS))
          have hB4 := pw_below_drewN hB3 nq
          go_wp2
          go_ret
          exact ⟨_, rfl, (by unfold T.downMore; rw [if_neg c1, HY.out, if_pos c3]; exact ht3.drewN nq), hB4⟩
      · cases hY : (T.downMore l k v ml) with
        | nil => exact (T.downMore_ne _ _ _ _ hY).elim
        | node a ak av c =>
          rw [hY] at htx c3 ht3
          have HY := As.mk hY
          clear hY
          obtain ⟨b2, lp2, rp2, rfl, hn2, -, -⟩ := htx
          obtain ⟨-, -, -, -, g4, -⟩ := cells6 hn2
          go_wp2_with fail
          go_quiet ((go_at_call_of 91 (Value.pointer rp); exact Calls.quiet_of_same ((hr.below hB3).drewN _).depthS))
          have hB4 := pw_below_drewN hB3 nq
          go_wp2_with (go_at_call 107; refine (right_calls p3 a c mm mk mv ak av _ (ht3.drewN nq) (by have := T.downMore_size l k v ml; rw [HY.out] at this; simp only [T.size] at this hs ⊢; omega)).mono ?_; rintro e w6 ⟨p6, rfl, ht6, hb6⟩; have hB6 := bstep hB4 hb6)
          go_ret
          exact ⟨_, rfl, (by unfold T.downMore; rw [if_neg c1, HY.out, if_neg c3]; exact ht6), hB6⟩

end Go.Proofs.Ytehnkoglhbbfjaa

namespace Go.Proofs.Ytehnkoglhbbfjaa
open Go.RowKit Go.Proofs.YtehnkoglhbbfjaaW.PrintWords Go.Proofs.YtehnkoglhbbfjaaW.PrintLast Go.Proofs.YtehnkoglhbbfjaaW.PrintMore

set_option maxHeartbeats 400000 in
set_option maxRecDepth 100000 in
theorem join_calls (p q : Option Addr) (l m : T) (k v : ByteArray) (w : World) (hp : IsT w p l) (hq : IsT w q m) (hs : l.size + m.size < 1000000000) :
    Calls Try.prog 95 #[.pointer p, .agg #[.string k, .string v], .pointer q] w fun e w' => ∃ p', e = .returned (.pointer p') ∧ IsT w' p' (l.join k v m) ∧ Below w.heap.size w w' := by
  have d1 := l.depth_le
  have d2 := m.depth_le
  by_cases c1 : m.depth + 1 < l.depth
  · go_enter Try.func95, Try.ntmps95
    go_wp2_with (first
       | ((with_reducible refine gate_dst (N := 4) rfl ?_); refine box_event ?hg (N := 4) ?hd (cs := #[.string k, .string v]) (t := 29) ?hr ?_; (case hd => rfl); (case hg => rfl); (case hr => first | (go_simp; done) | (go_simp; rfl)); intro gb hg w1 hbox hB1; clear hg; obtain ⟨x0, x1⟩ := cells2 hbox; clear hbox)
       | (go_at_call_of 91 (Value.pointer p); refine (hp.below hB1).depth.mono ?_; rintro e w2 ⟨rfl, rfl⟩)
       | (go_at_call_of 91 (Value.pointer q); refine (hq.below hB1).depth.mono ?_; rintro e w2 ⟨rfl, rfl⟩)
       | (go_at_call 101; refine (downLess_calls m k v q l p _ (hp.below hB1) (hq.below hB1) c1 hs).mono ?_; rintro e w3 ⟨p3, rfl, ht3, hb3⟩))
    go_ret
    exact ⟨_, rfl, (by unfold T.join; rw [if_pos c1]; exact ht3), bstep hB1 hb3⟩
  by_cases c2 : l.depth + 1 < m.depth
  · go_enter Try.func95, Try.ntmps95
    go_wp2_with (first
       | ((with_reducible refine gate_dst (N := 4) rfl ?_); refine box_event ?hg (N := 4) ?hd (cs := #[.string k, .string v]) (t := 29) ?hr ?_; (case hd => rfl); (case hg => rfl); (case hr => first | (go_simp; done) | (go_simp; rfl)); intro gb hg w1 hbox hB1; clear hg; obtain ⟨x0, x1⟩ := cells2 hbox; clear hbox)
       | (go_at_call_of 91 (Value.pointer p); refine (hp.below hB1).depth.mono ?_; rintro e w2 ⟨rfl, rfl⟩)
       | (go_at_call_of 91 (Value.pointer q); refine (hq.below hB1).depth.mono ?_; rintro e w2 ⟨rfl, rfl⟩)
       | (go_at_call 102; refine (downMore_calls l k v p m q _ (hp.below hB1) (hq.below hB1) c2 hs).mono ?_; rintro e w3 ⟨p3, rfl, ht3, hb3⟩))
    go_ret
    exact ⟨_, rfl, (by unfold T.join; rw [if_neg c1, if_pos c2]; exact ht3), bstep hB1 hb3⟩
  · go_enter Try.func95, Try.ntmps95
    go_wp2_with (first
       | ((with_reducible refine gate_dst (N := 4) rfl ?_); refine box_event ?hg (N := 4) ?hd (cs := #[.string k, .string v]) (t := 29) ?hr ?_; (case hd => rfl); (case hg => rfl); (case hr => first | (go_simp; done) | (go_simp; rfl)); intro gb hg w1 hbox hB1; clear hg; obtain ⟨x0, x1⟩ := cells2 hbox; clear hbox)
       | (go_at_call_of 91 (Value.pointer p); refine (hp.below hB1).depth.mono ?_; rintro e w2 ⟨rfl, rfl⟩)
       | (go_at_call_of 91 (Value.pointer q); refine (hq.below hB1).depth.mono ?_; rintro e w2 ⟨rfl, rfl⟩)
       | (go_at_call 94; refine (over_calls p q l m k v _ (hp.below hB1) (hq.below hB1) hs).mono ?_; rintro e w3 ⟨p3, rfl, ht3, hb3⟩))
    go_ret
    exact ⟨_, rfl, (by unfold T.join; rw [if_neg c1, if_neg c2]; exact ht3), bstep hB1 hb3⟩

set_option maxHeartbeats 400000 in
set_option maxRecDepth 100000 in
theorem last_calls (t : T) : ∀ (p : Option Addr) (w : World), IsT w p t → t ≠ .nil → t.size < 1000000000 →
    Calls Try.prog 96 #[.pointer p] w fun e w' => ∃ p', e = .returned (.tuple #[.pointer p', .agg #[.string t.last.2.1, .string t.last.2.2]]) ∧ IsT w' p' t.last.1 ∧ Below w.heap.size w w' := by
  induction t with
  | nil => intro p w _ h; exact absurd rfl h
  | node l k v r _ ih =>
    intro p w hp _ hs
    have IH := As.mk ih
    clear ih
    obtain ⟨b, lp, rp, rfl, hb, hl, hr⟩ := hp
    simp only [T.size] at hs
    cases r with
    | nil =>
      obtain rfl : rp = none := hr
      go_enter Try.func96, Try.ntmps96
      go_wp2_with ((with_reducible refine gate_dst (N := 3) rfl ?_); refine box_event ?hg (N := 3) ?hd (cs := #[.string (⟨#[]⟩ : ByteArray), .string (⟨#[]⟩ : ByteArray)]) (t := 29) ?hr ?_; (case hd => rfl); (case hg => rfl); (case hr => first | (go_simp; done) | (go_simp; rfl)); intro gr hg_gr w1 hx_gr hb_gr; have hB1 : Below w.heap.size w w1 := hb_gr; have GE := As.mk (Nat.le_of_eq hg_gr.symm); clear hg_gr; obtain ⟨e0, e1, e2, e3, -, -⟩ := cells6 (blk_step hb hB1))
      obtain ⟨x0, x1⟩ := cells2 hx_gr
      have z0 := blk_frozen hx_gr 0
      have z1 := blk_frozen hx_gr 1
      go_region
      go_wp2
      refine bodyPost_ret (results_tc rfl _ _ gr 29 #[.string k, .string v] (0, 0) _ rfl (by refine blk_drew ?_; refine blk_put (cs := #[.string k, .string (⟨#[]⟩ : ByteArray)]) ?_ 1 _ rfl; refine blk_put (cs := #[.string (⟨#[]⟩ : ByteArray), .string (⟨#[]⟩ : ByteArray)]) ?_ 0 _ rfl; exact hx_gr) Try.underlying29 rfl (by kernel_rfl)) rfl ?_
      have hB2 := ((hB1.setCell (p := ⟨gr, 0, none⟩) GE.out (.string k)).setCell (p := ⟨gr, 1, none⟩) GE.out (.string v)).drew
      exact ⟨lp, rfl, hl.below hB2, hB2⟩
    | node a ak av c =>
      have hlast : (T.node l k v (T.node a ak av c)).last = (T.join l k v (T.node a ak av c).last.1, (T.node a ak av c).last.2) := rfl
      have hsz := T.last_size (T.node a ak av c) (by intro h; cases h)
      have hne : T.node a ak av c ≠ .nil := by intro h; cases h
      have hrp : rp ≠ none := by obtain ⟨b', lp', rp', rfl, -, -, -⟩ := hr; intro h; cases h
      rw [hlast]
      clear hlast
      generalize T.node a ak av c = R at *
      generalize hL : R.last = L at *
      obtain ⟨L, lk, lv⟩ := L
      dsimp only at *
      have HL := As.mk hL
      clear hL
      obtain ⟨rb, rfl⟩ : ∃ a, rp = some a := by cases rp with
        | none => exact absurd rfl hrp
        | some a => exact ⟨a, rfl⟩
      clear hrp
      go_enter Try.func96, Try.ntmps96
      go_wp2_with (first
        | ((with_reducible refine gate_dst (N := 3) rfl ?_); refine box_event ?hg (N := 3) ?hd (cs := #[.string (⟨#[]⟩ : ByteArray), .string (⟨#[]⟩ : ByteArray)]) (t := 29) ?hr ?_; (case hd => rfl); (case hg => rfl); (case hr => first | (go_simp; done) | (go_simp; rfl)); intro gr hg_gr w1 hx_gr hb_gr; have hB1 : Below w.heap.size w w1 := hb_gr; have GE := As.mk (Nat.le_of_eq hg_gr.symm); clear hg_gr; obtain ⟨e0, e1, e2, e3, -, -⟩ := cells6 (blk_step hb hB1))
        | (go_at_call 96; refine (IH.out (some rb) _ (hr.below hB1) hne (by omega)).mono ?_; rintro e w2 ⟨p2, rfl, ht2, hb2⟩; have hB2 := bstep hB1 hb2; have hx2 := blk_step hx_gr hb2)
        | ((with_reducible refine gate_dst (N := 5) rfl ?_); refine box_event ?hg (N := 5) ?hd (cs := #[.string (⟨#[]⟩ : ByteArray), .string (⟨#[]⟩ : ByteArray)]) (t := 29) ?hr ?_; (case hd => rfl); (case hg => rfl); (case hr => first | (go_simp; done) | (go_simp; rfl)); intro gp hg_gp w3 hx_gp hb_gp; have hB3 := bstep hB2 hb_gp; have hx3 := blk_step hx2 hb_gp; have GP := As.mk ((by rw [hg_gp]; exact Nat.le_trans hB2.size (Nat.le_refl _)) : w.heap.size ≤ gp); have GQ := As.mk (Nat.le_of_eq hg_gp.symm); have GN := As.mk ((by rw [hg_gp]; exact Nat.ne_of_lt (blk_lt hx2)) : gr ≠ gp); clear hg_gp; obtain ⟨x0, x1⟩ := cells2 hx_gp; have z0 := blk_frozen hx_gp 0; have z1 := blk_frozen hx_gp 1))
      have hB4 := (hB3.setCell (p := ⟨gp, 0, none⟩) GP.out (.string lk)).setCell (p := ⟨gp, 1, none⟩) GP.out (.string lv)
      have hb4 := (hb_gp.setCell (p := ⟨gp, 0, none⟩) GQ.out (.string lk)).setCell (p := ⟨gp, 1, none⟩) GQ.out (.string lv)
      have hx4 := blk_put (blk_put hx_gp 0 (.string lk) rfl) 1 (.string lv) rfl
      have hy4 := blk_far (blk_far hx3 (p := ⟨gp, 0, none⟩) GN.out (.string lk)) (p := ⟨gp, 1, none⟩) GN.out (.string lv)
      generalize (w3.setCell ⟨gp, 0, none⟩ (.string lk)).setCell ⟨gp, 1, none⟩ (.string lv) = w4 at *
      have ht4 := ht2.below hb4
      clear e0 e1 e2 e3 x0 x1 z0 z1
      obtain ⟨e0, e1, e2, e3, -, -⟩ := cells6 (blk_step hb hB4)
      obtain ⟨x0, x1⟩ := cells2 hx4
      obtain ⟨y0, y1⟩ := cells2 hy4
      have z0 := blk_frozen hy4 0
      have z1 := blk_frozen hy4 1
      go_region_with (go_at_call 95; refine (join_calls lp p2 l L k v _ (hl.below hB4.drew) (ht4.below (Below.refl _ _).drew) (by omega)).mono ?_; rintro e w5 ⟨p5, rfl, ht5, hb5⟩; have hB5 := bstep hB4.drew hb5; obtain ⟨x0, x1⟩ := cells2 (blk_step (w := w4.drew) hx4 hb5); obtain ⟨y0, y1⟩ := cells2 (blk_step (w := w4.drew) hy4 hb5); have z0 := blk_frozen (blk_step (w := w4.drew) hy4 hb5) 0; have z1 := blk_frozen (blk_step (w := w4.drew) hy4 hb5) 1)
      all_goals
        have hg5 := blk_step (w := w4.drew) hy4 hb5
        have hB6 := (hB5.setCell (p := ⟨gr, 0, none⟩) GE.out (.string lk)).setCell (p := ⟨gr, 1, none⟩) GE.out (.string lv)
        go_wp2
        refine bodyPost_ret (results_tc rfl _ _ gr 29 #[.string lk, .string lv] (0, 0) _ rfl (by refine blk_put (cs := #[.string lk, .string (⟨#[]⟩ : ByteArray)]) ?_ 1 _ rfl; refine blk_put (cs := #[.string (⟨#[]⟩ : ByteArray), .string (⟨#[]⟩ : ByteArray)]) ?_ 0 _ rfl; exact hg5) Try.underlying29 rfl (by kernel_rfl)) rfl ?_
        exact ⟨p5, rfl, (ht5.setCell hg5 (by decide) 0 _).setCell (blk_put hg5 0 _ rfl) (by decide) 1 _, hB6⟩

end Go.Proofs.Ytehnkoglhbbfjaa
