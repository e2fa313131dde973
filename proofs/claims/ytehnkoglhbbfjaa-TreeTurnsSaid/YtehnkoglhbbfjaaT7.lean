/-
  The walks of union, minus, both, and of Split, Union, Minus, Both, Join.
-/
import Derived.Test.YtehnkoglhbbfjaaT6
import Derived.Test.YtehnkoglhbbfjaaM2
import Derived.LaidEqlPtr
namespace Go.Proofs.Ytehnkoglhbbfjaa
open Go.RowKit Go.Proofs.YtehnkoglhbbfjaaW.PrintWords Go.Proofs.YtehnkoglhbbfjaaW.PrintLast Go.Proofs.YtehnkoglhbbfjaaW.PrintMore PAll

theorem info111 : (Try.prog.info? 111).map (fun i => i.size) = some 6 := by kernel_rfl
theorem eql_same (w : World) (a : Addr) : (binOp .eql 81 (.pointer (some a)) (.pointer (some a))).run Try.prog w = .ok (.bool true) w := by
  obtain ⟨j, hj, -⟩ := Option.map_eq_some_iff.1 info111
  exact run_eql_ptr_same w a Try.underlying81 hj
theorem eql_nil_some (w : World) (a : Addr) : (binOp .eql 81 (.pointer none) (.pointer (some a))).run Try.prog w = .ok (.bool false) w := by
  obtain ⟨j, hj, -⟩ := Option.map_eq_some_iff.1 info111
  have h : ∀ d : Nat, (Op.equalIn (d + 1) 81 (.pointer none) (.pointer (some a))).run Try.prog w = .ok false w := fun d => by
    simp [Op.equalIn, run_underlying Try.underlying81, sizeOf, typeInfo, hj]
  simp only [binOp]
  simp [Op.equal, Op.maxDepth, h 9999]
theorem eql_other {w : World} {a b : Nat} {ca cb : Array Value} (h : a ≠ b) (ha : w.heap[a]? = some (.cells ca 111 (0, 0))) (hb : w.heap[b]? = some (.cells cb 111 (0, 0))) :
    (binOp .eql 81 (.pointer (some ⟨a, 0, none⟩)) (.pointer (some ⟨b, 0, none⟩))).run Try.prog w = .ok (.bool false) w := by
  obtain ⟨j, hj, hs⟩ := Option.map_eq_some_iff.1 info111
  exact run_eql_ptr_other w Try.underlying81 hj (by rw [hs]; decide) (fun e => h (by injection e)) ha hb

set_option maxHeartbeats 1000000 in
set_option maxRecDepth 100000 in
theorem union_calls (bt : T) : ∀ (a : T) (p q : Option Addr) (w : World), IsT w p a → IsT w q bt → a.size + bt.size < 1000000000 →
    Calls Try.prog 89 #[.pointer p, .pointer q] w fun e w' => ∃ p' u, e = .returned (.pointer p') ∧ IsT w' p' u ∧ T.UnionR a bt u ∧ Below w.heap.size w w' := by
  induction bt with
  | nil =>
    intro a p q w hp hq hs
    obtain rfl : q = none := hq
    cases a with
    | nil =>
      obtain rfl : p = none := hp
      go_enter Try.func89, Try.ntmps89
      go_wp2
      go_ret
      exact ⟨none, .nil, rfl, rfl, rfl, Below.refl _ _⟩
    | node al ak av ar =>
      have HP := As.mk hp
      obtain ⟨ab, alp, arp, rfl, ha, -, -⟩ := hp
      go_enter Try.func89, Try.ntmps89
      go_wp2
      go_ret
      exact ⟨_, .node al ak av ar, rfl, HP.out, rfl, Below.refl _ _⟩
  | node bl bk bv br ihl ihr =>
    intro a p q w hp hq hs
    have HQ := As.mk hq
    obtain ⟨b, lp, rp, rfl, hb, hl, hr⟩ := hq
    have IHL := As.mk ihl
    have IHR := As.mk ihr
    clear ihl ihr
    obtain ⟨e0, e1, e2, e3, -, -⟩ := cells6 hb
    have HT : As (∀ w', Below w.heap.size w w' → w'.cell? ⟨b, 0, none⟩ = some (.string bk) ∧ w'.cell? ⟨b, 1, none⟩ = some (.string bv) ∧ w'.cell? ⟨b, 2, none⟩ = some (.pointer lp) ∧ w'.cell? ⟨b, 3, none⟩ = some (.pointer rp) ∧ Below w.heap.size w w') := ⟨fun w' h => ⟨(heap_cell (blk_step hb h) 0).trans rfl, (heap_cell (blk_step hb h) 1).trans rfl, (heap_cell (blk_step hb h) 2).trans rfl, (heap_cell (blk_step hb h) 3).trans rfl, h⟩⟩
    cases a with
    | nil =>
      obtain rfl : p = none := hp
      have hns := eql_nil_some w ⟨b, 0, none⟩
      go_enter Try.func89, Try.ntmps89
      go_wp2
      go_ret
      exact ⟨_, .node bl bk bv br, rfl, HQ.out, Or.inl ⟨rfl, rfl⟩, Below.refl _ _⟩
    | node al ak av ar =>
      by_cases hpq : p = some ⟨b, 0, none⟩
      · subst hpq
        have hE := IsT.fun hp HQ.out
        have HP := As.mk hp
        clear hp
        have hsame := eql_same w ⟨b, 0, none⟩
        go_enter Try.func89, Try.ntmps89
        go_wp2
        go_ret
        exact ⟨_, .node al ak av ar, rfl, HP.out, Or.inr (Or.inl ⟨hE, rfl⟩), Below.refl _ _⟩
      · have HP := As.mk hp
        obtain ⟨ab, alp, arp, rfl, ha, -, -⟩ := hp
        have hne : T.node al ak av ar ≠ .nil := by intro h; cases h
        have hss := T.split_size3 bk (T.node al ak av ar)
        simp only [T.size] at hs
        have hs' : (T.node al ak av ar).size + (1 + bl.size + br.size) < 1000000000 := by simpa only [T.size] using hs
        clear hs
        have hother := eql_other (fun h => hpq (by rw [h])) ha hb
        clear hpq ha
        generalize T.node al ak av ar = A at *
        generalize hX : T.split bk A = X at *
        obtain ⟨X1, X2, X3⟩ := X
        dsimp only at *
        have HXX := As.mk hX
        clear hX
        go_enter Try.func89, Try.ntmps89
        go_wp2_with (first
          | (go_at_call 84; refine (split_calls bk A (some ⟨ab, 0, none⟩) w HP.out (by omega)).mono ?_; rintro e w2 ⟨p1, p2, p3, rfl, ht1, ht2, ht3, hB2⟩; rw [HXX.out] at ht1 ht2 ht3; obtain ⟨f0, f1, f2, f3, -⟩ := HT.out _ hB2))
        go_region_held3 (fun w' => w'.cell? ⟨b, 0, none⟩ = some (.string bk) ∧ w'.cell? ⟨b, 1, none⟩ = some (.string bv) ∧ w'.cell? ⟨b, 2, none⟩ = some (.pointer lp) ∧ w'.cell? ⟨b, 3, none⟩ = some (.pointer rp) ∧ Below w.heap.size w w')
          (first | exact HT.out _ hB2.drew | exact HT.out _ hB3 | exact HT.out _ hB4 | exact HT.out _ hB5)
          (first
            | (go_at_call_of 89 (Value.pointer lp); refine (IHL.out X1 p1 lp _ (ht1.below (Below.refl _ _).drew) (hl.below hB2.drew) (by omega)).mono ?_; rintro e w3 ⟨q3, u1, rfl, hu1, hr1, hb3⟩; have hB3 := bstep hB2.drew hb3; have hb23 := (Below.refl w2.heap.size w2).drew.trans hb3; have hz1 := T.UnionR_size _ _ _ hr1)
            | (go_at_call_of 89 (Value.pointer rp); refine (IHR.out X2 p2 rp _ (ht2.below hb23) (hr.below hB3) (by omega)).mono ?_; rintro e w4 ⟨q4, u2, rfl, hu2, hr2, hb4⟩; have hB4 := bstep hB3 hb4; have hz2 := T.UnionR_size _ _ _ hr2)
            | (go_at_call 95; refine (join_calls q3 q4 u1 u2 bk bv _ (hu1.below hb4) hu2 (by omega)).mono ?_; rintro e w5 ⟨p5, rfl, ht5, hb5⟩; have hB5 := bstep hB4 hb5))
        go_wp2
        go_ret
        exact ⟨_, _, rfl, ht5, Or.inr (Or.inr ⟨hne, u1, u2, by rw [HXX.out]; exact hr1, by rw [HXX.out]; exact hr2, rfl⟩), hB5⟩

set_option maxHeartbeats 1000000 in
set_option maxRecDepth 100000 in
theorem minus_calls (bt : T) : ∀ (a : T) (p q : Option Addr) (w : World), IsT w p a → IsT w q bt → a.size + bt.size < 1000000000 →
    Calls Try.prog 92 #[.pointer p, .pointer q] w fun e w' => ∃ p' u, e = .returned (.pointer p') ∧ IsT w' p' u ∧ T.MinusR a bt u ∧ Below w.heap.size w w' := by
  induction bt with
  | nil =>
    intro a p q w hp hq hs
    obtain rfl : q = none := hq
    cases a with
    | nil =>
      obtain rfl : p = none := hp
      go_enter Try.func92, Try.ntmps92
      go_wp2
      go_ret
      exact ⟨none, .nil, rfl, rfl, rfl, Below.refl _ _⟩
    | node al ak av ar =>
      have HP := As.mk hp
      obtain ⟨ab, alp, arp, rfl, ha, -, -⟩ := hp
      go_enter Try.func92, Try.ntmps92
      go_wp2
      go_ret
      exact ⟨_, .node al ak av ar, rfl, HP.out, rfl, Below.refl _ _⟩
  | node bl bk bv br ihl ihr =>
    intro a p q w hp hq hs
    have HQ := As.mk hq
    obtain ⟨b, lp, rp, rfl, hb, hl, hr⟩ := hq
    have IHL := As.mk ihl
    have IHR := As.mk ihr
    clear ihl ihr
    obtain ⟨e0, e1, e2, e3, -, -⟩ := cells6 hb
    have HT : As (∀ w', Below w.heap.size w w' → w'.cell? ⟨b, 0, none⟩ = some (.string bk) ∧ w'.cell? ⟨b, 1, none⟩ = some (.string bv) ∧ w'.cell? ⟨b, 2, none⟩ = some (.pointer lp) ∧ w'.cell? ⟨b, 3, none⟩ = some (.pointer rp) ∧ Below w.heap.size w w') := ⟨fun w' h => ⟨(heap_cell (blk_step hb h) 0).trans rfl, (heap_cell (blk_step hb h) 1).trans rfl, (heap_cell (blk_step hb h) 2).trans rfl, (heap_cell (blk_step hb h) 3).trans rfl, h⟩⟩
    cases a with
    | nil =>
      obtain rfl : p = none := hp
      have hns := eql_nil_some w ⟨b, 0, none⟩
      go_enter Try.func92, Try.ntmps92
      go_wp2
      go_ret
      exact ⟨none, .nil, rfl, rfl, Or.inl ⟨rfl, rfl⟩, Below.refl _ _⟩
    | node al ak av ar =>
      by_cases hpq : p = some ⟨b, 0, none⟩
      · subst hpq
        have hE := IsT.fun hp HQ.out
        have HP := As.mk hp
        clear hp
        have hsame := eql_same w ⟨b, 0, none⟩
        go_enter Try.func92, Try.ntmps92
        go_wp2
        go_ret
        exact ⟨none, .nil, rfl, rfl, Or.inr (Or.inl ⟨hE, rfl⟩), Below.refl _ _⟩
      · have HP := As.mk hp
        obtain ⟨ab, alp, arp, rfl, ha, -, -⟩ := hp
        have hne : T.node al ak av ar ≠ .nil := by intro h; cases h
        have hss := T.split_size3 bk (T.node al ak av ar)
        simp only [T.size] at hs
        have hs' : (T.node al ak av ar).size + (1 + bl.size + br.size) < 1000000000 := by simpa only [T.size] using hs
        clear hs
        have hother := eql_other (fun h => hpq (by rw [h])) ha hb
        clear hpq ha
        generalize T.node al ak av ar = A at *
        generalize hX : T.split bk A = X at *
        obtain ⟨X1, X2, X3⟩ := X
        dsimp only at *
        have HXX := As.mk hX
        clear hX
        go_enter Try.func92, Try.ntmps92
        go_wp2_with (first
          | (go_at_call 84; refine (split_calls bk A (some ⟨ab, 0, none⟩) w HP.out (by omega)).mono ?_; rintro e w2 ⟨p1, p2, p3, rfl, ht1, ht2, ht3, hB2⟩; rw [HXX.out] at ht1 ht2 ht3; obtain ⟨f0, f1, f2, f3, -⟩ := HT.out _ hB2))
        go_region_held3 (fun w' => w'.cell? ⟨b, 0, none⟩ = some (.string bk) ∧ w'.cell? ⟨b, 1, none⟩ = some (.string bv) ∧ w'.cell? ⟨b, 2, none⟩ = some (.pointer lp) ∧ w'.cell? ⟨b, 3, none⟩ = some (.pointer rp) ∧ Below w.heap.size w w')
          (first | exact HT.out _ hB2.drew | exact HT.out _ hB3 | exact HT.out _ hB4 | exact HT.out _ hB5)
          (first
            | (go_at_call_of 92 (Value.pointer lp); refine (IHL.out X1 p1 lp _ (ht1.below (Below.refl _ _).drew) (hl.below hB2.drew) (by omega)).mono ?_; rintro e w3 ⟨q3, u1, rfl, hu1, hr1, hb3⟩; have hB3 := bstep hB2.drew hb3; have hb23 := (Below.refl w2.heap.size w2).drew.trans hb3; have hz1 := T.MinusR_size _ _ _ hr1)
            | (go_at_call_of 92 (Value.pointer rp); refine (IHR.out X2 p2 rp _ (ht2.below hb23) (hr.below hB3) (by omega)).mono ?_; rintro e w4 ⟨q4, u2, rfl, hu2, hr2, hb4⟩; have hB4 := bstep hB3 hb4; have hz2 := T.MinusR_size _ _ _ hr2)
            | (go_at_call 85; refine (glue_calls q3 q4 u1 u2 _ (hu1.below hb4) hu2 (by omega)).mono ?_; rintro e w5 ⟨p5, rfl, ht5, hb5⟩; have hB5 := bstep hB4 hb5))
        go_wp2
        go_ret
        exact ⟨_, _, rfl, ht5, Or.inr (Or.inr ⟨hne, u1, u2, by rw [HXX.out]; exact hr1, by rw [HXX.out]; exact hr2, rfl⟩), hB5⟩

set_option maxHeartbeats 1000000 in
set_option maxRecDepth 100000 in
theorem both_calls (bt : T) : ∀ (a : T) (p q : Option Addr) (w : World), IsT w p a → IsT w q bt → a.size + bt.size < 1000000000 →
    Calls Try.prog 90 #[.pointer p, .pointer q] w fun e w' => ∃ p' u, e = .returned (.pointer p') ∧ IsT w' p' u ∧ T.BothR a bt u ∧ Below w.heap.size w w' := by
  induction bt with
  | nil =>
    intro a p q w hp hq hs
    obtain rfl : q = none := hq
    cases a with
    | nil =>
      obtain rfl : p = none := hp
      go_enter Try.func90, Try.ntmps90
      go_wp2
      go_ret
      exact ⟨none, .nil, rfl, rfl, rfl, Below.refl _ _⟩
    | node al ak av ar =>
      have HP := As.mk hp
      obtain ⟨ab, alp, arp, rfl, ha, -, -⟩ := hp
      go_enter Try.func90, Try.ntmps90
      go_wp2
      go_ret
      exact ⟨none, .nil, rfl, rfl, rfl, Below.refl _ _⟩
  | node bl bk bv br ihl ihr =>
    intro a p q w hp hq hs
    have HQ := As.mk hq
    obtain ⟨b, lp, rp, rfl, hb, hl, hr⟩ := hq
    have IHL := As.mk ihl
    have IHR := As.mk ihr
    clear ihl ihr
    obtain ⟨e0, e1, e2, e3, -, -⟩ := cells6 hb
    have HT : As (∀ w', Below w.heap.size w w' → w'.cell? ⟨b, 0, none⟩ = some (.string bk) ∧ w'.cell? ⟨b, 1, none⟩ = some (.string bv) ∧ w'.cell? ⟨b, 2, none⟩ = some (.pointer lp) ∧ w'.cell? ⟨b, 3, none⟩ = some (.pointer rp) ∧ Below w.heap.size w w') := ⟨fun w' h => ⟨(heap_cell (blk_step hb h) 0).trans rfl, (heap_cell (blk_step hb h) 1).trans rfl, (heap_cell (blk_step hb h) 2).trans rfl, (heap_cell (blk_step hb h) 3).trans rfl, h⟩⟩
    cases a with
    | nil =>
      obtain rfl : p = none := hp
      have hns := eql_nil_some w ⟨b, 0, none⟩
      go_enter Try.func90, Try.ntmps90
      go_wp2
      go_ret
      exact ⟨none, .nil, rfl, rfl, Or.inl ⟨rfl, rfl⟩, Below.refl _ _⟩
    | node al ak av ar =>
      by_cases hpq : p = some ⟨b, 0, none⟩
      · subst hpq
        have hE := IsT.fun hp HQ.out
        have HP := As.mk hp
        clear hp
        have hsame := eql_same w ⟨b, 0, none⟩
        go_enter Try.func90, Try.ntmps90
        go_wp2
        go_ret
        exact ⟨_, .node al ak av ar, rfl, HP.out, Or.inr (Or.inl ⟨hE, rfl⟩), Below.refl _ _⟩
      · have HP := As.mk hp
        obtain ⟨ab, alp, arp, rfl, ha, -, -⟩ := hp
        have hne : T.node al ak av ar ≠ .nil := by intro h; cases h
        have hss := T.split_size3 bk (T.node al ak av ar)
        simp only [T.size] at hs
        have hs' : (T.node al ak av ar).size + (1 + bl.size + br.size) < 1000000000 := by simpa only [T.size] using hs
        clear hs
        have hother := eql_other (fun h => hpq (by rw [h])) ha hb
        clear hpq ha
        generalize T.node al ak av ar = A at *
        generalize hX : T.split bk A = X at *
        obtain ⟨X1, X2, X3⟩ := X
        dsimp only at *
        have HXX := As.mk hX
        clear hX
        go_enter Try.func90, Try.ntmps90
        go_wp2_with (first
          | (go_at_call 84; refine (split_calls bk A (some ⟨ab, 0, none⟩) w HP.out (by omega)).mono ?_; rintro e w2 ⟨p1, p2, p3, rfl, ht1, ht2, ht3, hB2⟩; rw [HXX.out] at ht1 ht2 ht3; obtain ⟨f0, f1, f2, f3, -⟩ := HT.out _ hB2))
        go_region_held3 (fun w' => w'.cell? ⟨b, 0, none⟩ = some (.string bk) ∧ w'.cell? ⟨b, 1, none⟩ = some (.string bv) ∧ w'.cell? ⟨b, 2, none⟩ = some (.pointer lp) ∧ w'.cell? ⟨b, 3, none⟩ = some (.pointer rp) ∧ Below w.heap.size w w')
          (first | exact HT.out _ hB2.drew | exact HT.out _ hB3 | exact HT.out _ hB4)
          (first
            | (go_at_call_of 90 (Value.pointer lp); refine (IHL.out X1 p1 lp _ (ht1.below (Below.refl _ _).drew) (hl.below hB2.drew) (by omega)).mono ?_; rintro e w3 ⟨q3, u1, rfl, hu1, hr1, hb3⟩; have hB3 := bstep hB2.drew hb3; have hb23 := (Below.refl w2.heap.size w2).drew.trans hb3; have hz1 := T.BothR_size _ _ _ hr1)
            | (go_at_call_of 90 (Value.pointer rp); refine (IHR.out X2 p2 rp _ (ht2.below hb23) (hr.below hB3) (by omega)).mono ?_; rintro e w4 ⟨q4, u2, rfl, hu2, hr2, hb4⟩; have hB4 := bstep hB3 hb4; have hz2 := T.BothR_size _ _ _ hr2))
        have ht3' := ht3.below (hb23.trans (hb4.mono hb23.size))
        clear ht3
        cases X3 with
        | nil =>
          obtain rfl : p3 = none := ht3'
          go_wp2_with (go_at_call 85; refine (glue_calls q3 q4 u1 u2 _ (hu1.below hb4) hu2 (by omega)).mono ?_; rintro e w5 ⟨p5, rfl, ht5, hb5⟩; have hB5 := bstep hB4 hb5)
          go_ret
          exact ⟨_, _, rfl, ht5, Or.inr (Or.inr ⟨hne, u1, u2, by rw [HXX.out]; exact hr1, by rw [HXX.out]; exact hr2, by rw [HXX.out]⟩), hB5⟩
        | node xl xk xv xr =>
          simp only [T.one] at hss
          obtain ⟨b3, lp3, rp3, rfl, hb3c, -, -⟩ := ht3'
          obtain ⟨g0, g1, g2, g3, -, -⟩ := cells6 hb3c
          go_wp2_with (go_at_call 95; refine (join_calls q3 q4 u1 u2 xk xv _ (hu1.below hb4) hu2 (by omega)).mono ?_; rintro e w5 ⟨p5, rfl, ht5, hb5⟩; have hB5 := bstep hB4 hb5)
          go_ret
          exact ⟨_, _, rfl, ht5, Or.inr (Or.inr ⟨hne, u1, u2, by rw [HXX.out]; exact hr1, by rw [HXX.out]; exact hr2, by rw [HXX.out]⟩), hB5⟩

set_option maxHeartbeats 1000000 in
set_option maxRecDepth 100000 in
theorem Union_calls (p q : Option Addr) (a b : T) (w : World) (hp : IsTr w p a) (hq : IsTr w q b) (hs : a.size + b.size < 1000000000) :
    Calls Try.prog 58 #[.pointer p, .pointer q] w fun e w' => ∃ p' u, e = .returned (.pointer p') ∧ IsTr w' p' u ∧ T.UnionR a b u ∧ Below w.heap.size w w' := by
  go_enter Try.func58, Try.ntmps58
  go_wp2_with fail
  refine (top_calls p a w hp).mono ?_
  rintro e w2 ⟨pa, rfl, ha, rfl⟩
  go_wp2_with fail
  refine (top_calls q b w hq).mono ?_
  rintro e w2 ⟨pb, rfl, hb, rfl⟩
  go_wp2_with (first
    | (go_at_call 89; refine (union_calls b a pa pb w ha hb hs).mono ?_; rintro e w3 ⟨p3, u, rfl, hu, hr, hB3⟩)
    | ((with_reducible refine gate_dst (N := 11) rfl ?_); refine box_event ?hg (N := 11) ?hd (cs := #[.pointer p3]) (t := 83) ?hr ?_; (case hd => rfl); (case hg => rfl); (case hr => first | (go_simp; done) | (go_simp; rfl)); intro gt hg_gt wt hx_gt hb_gt; clear hg_gt))
  go_ret
  exact ⟨_, u, rfl, Or.inr ⟨_, p3, rfl, hx_gt, hu.below hb_gt⟩, hr, bstep hB3 hb_gt⟩

set_option maxHeartbeats 1000000 in
set_option maxRecDepth 100000 in
theorem Minus_calls (p q : Option Addr) (a b : T) (w : World) (hp : IsTr w p a) (hq : IsTr w q b) (hs : a.size + b.size < 1000000000) :
    Calls Try.prog 62 #[.pointer p, .pointer q] w fun e w' => ∃ p' u, e = .returned (.pointer p') ∧ IsTr w' p' u ∧ T.MinusR a b u ∧ Below w.heap.size w w' := by
  go_enter Try.func62, Try.ntmps62
  go_wp2_with fail
  refine (top_calls p a w hp).mono ?_
  rintro e w2 ⟨pa, rfl, ha, rfl⟩
  go_wp2_with fail
  refine (top_calls q b w hq).mono ?_
  rintro e w2 ⟨pb, rfl, hb, rfl⟩
  go_wp2_with (first
    | (go_at_call 92; refine (minus_calls b a pa pb w ha hb hs).mono ?_; rintro e w3 ⟨p3, u, rfl, hu, hr, hB3⟩)
    | ((with_reducible refine gate_dst (N := 11) rfl ?_); refine box_event ?hg (N := 11) ?hd (cs := #[.pointer p3]) (t := 83) ?hr ?_; (case hd => rfl); (case hg => rfl); (case hr => first | (go_simp; done) | (go_simp; rfl)); intro gt hg_gt wt hx_gt hb_gt; clear hg_gt))
  go_ret
  exact ⟨_, u, rfl, Or.inr ⟨_, p3, rfl, hx_gt, hu.below hb_gt⟩, hr, bstep hB3 hb_gt⟩

set_option maxHeartbeats 1000000 in
set_option maxRecDepth 100000 in
theorem Both_calls (p q : Option Addr) (a b : T) (w : World) (hp : IsTr w p a) (hq : IsTr w q b) (hs : a.size + b.size < 1000000000) :
    Calls Try.prog 59 #[.pointer p, .pointer q] w fun e w' => ∃ p' u, e = .returned (.pointer p') ∧ IsTr w' p' u ∧ T.BothR a b u ∧ Below w.heap.size w w' := by
  go_enter Try.func59, Try.ntmps59
  go_wp2_with fail
  refine (top_calls p a w hp).mono ?_
  rintro e w2 ⟨pa, rfl, ha, rfl⟩
  go_wp2_with fail
  refine (top_calls q b w hq).mono ?_
  rintro e w2 ⟨pb, rfl, hb, rfl⟩
  go_wp2_with (first
    | (go_at_call 90; refine (both_calls b a pa pb w ha hb hs).mono ?_; rintro e w3 ⟨p3, u, rfl, hu, hr, hB3⟩)
    | ((with_reducible refine gate_dst (N := 11) rfl ?_); refine box_event ?hg (N := 11) ?hd (cs := #[.pointer p3]) (t := 83) ?hr ?_; (case hd => rfl); (case hg => rfl); (case hr => first | (go_simp; done) | (go_simp; rfl)); intro gt hg_gt wt hx_gt hb_gt; clear hg_gt))
  go_ret
  exact ⟨_, u, rfl, Or.inr ⟨_, p3, rfl, hx_gt, hu.below hb_gt⟩, hr, bstep hB3 hb_gt⟩

set_option maxHeartbeats 1000000 in
set_option maxRecDepth 100000 in
theorem Split_calls (p : Option Addr) (t : T) (key : ByteArray) (w : World) (h : IsTr w p t) (hs : t.size < 1000000000) :
    Calls Try.prog 50 #[.pointer p, .string key] w fun e w' => ∃ p1 p2, e = .returned (.tuple #[.pointer p1, .pointer p2, .string (t.split key).2.2.val.1, .bool (t.split key).2.2.val.2]) ∧ IsTr w' p1 (t.split key).1 ∧ IsTr w' p2 (t.split key).2.1 ∧ Below w.heap.size w w' := by
  generalize hX : T.split key t = X
  obtain ⟨X1, X2, X3⟩ := X
  dsimp only
  have HXX := As.mk hX
  clear hX
  cases X3 with
  | nil =>
    go_enter Try.func50, Try.ntmps50
    go_wp2_with (first
      | (go_at_call 79; refine (top_calls p t w h).mono ?_; rintro e w2 ⟨q, rfl, ht, rfl⟩)
      | (go_at_call 84; refine (split_calls key t q w ht hs).mono ?_; rintro e w2 ⟨p1, p2, p3, rfl, ht1, ht2, ht3, hB2⟩; rw [HXX.out] at ht1 ht2 ht3; obtain rfl : p3 = none := ht3)
      | ((with_reducible refine gate_dst (N := 28) rfl ?_); refine box_event ?hg (N := 28) ?hd (cs := #[.pointer p1]) (t := 83) ?hr ?_; (case hd => rfl); (case hg => rfl); (case hr => first | (go_simp; done) | (go_simp; rfl)); intro ga hg_ga wa hx_ga hb_ga; clear hg_ga)
      | ((with_reducible refine gate_dst (N := 31) rfl ?_); refine box_event ?hg (N := 31) ?hd (cs := #[.pointer p2]) (t := 83) ?hr ?_; (case hd => rfl); (case hg => rfl); (case hr => first | (go_simp; done) | (go_simp; rfl)); intro gb hg_gb wb hx_gb hb_gb; clear hg_gb))
    refine bodyPost_ret (v := .tuple #[.pointer (some ⟨ga, 0, none⟩), .pointer (some ⟨gb, 0, none⟩), .string (⟨#[]⟩ : ByteArray), .bool false]) (by simp [results, Try.results50, go_sem]) rfl ?_
    exact ⟨_, _, rfl, Or.inr ⟨_, p1, rfl, blk_step hx_ga hb_gb, ht1.below (hb_ga.trans (hb_gb.mono hb_ga.size))⟩, Or.inr ⟨_, p2, rfl, hx_gb, ht2.below (hb_ga.trans (hb_gb.mono hb_ga.size))⟩, bstep (bstep hB2 hb_ga) hb_gb⟩
  | node xl xk xv xr =>
    go_enter Try.func50, Try.ntmps50
    go_wp2_with (first
      | (go_at_call 79; refine (top_calls p t w h).mono ?_; rintro e w2 ⟨q, rfl, ht, rfl⟩)
      | (go_at_call 84; refine (split_calls key t q w ht hs).mono ?_; rintro e w2 ⟨p1, p2, p3, rfl, ht1, ht2, ht3, hB2⟩; rw [HXX.out] at ht1 ht2 ht3; obtain ⟨b3, lp3, rp3, rfl, hb3c, -, -⟩ := ht3; obtain ⟨g0, g1, g2, g3, -, -⟩ := cells6 hb3c)
      | ((with_reducible refine gate_dst (N := 28) rfl ?_); refine box_event ?hg (N := 28) ?hd (cs := #[.pointer p1]) (t := 83) ?hr ?_; (case hd => rfl); (case hg => rfl); (case hr => first | (go_simp; done) | (go_simp; rfl)); intro ga hg_ga wa hx_ga hb_ga; clear hg_ga)
      | ((with_reducible refine gate_dst (N := 31) rfl ?_); refine box_event ?hg (N := 31) ?hd (cs := #[.pointer p2]) (t := 83) ?hr ?_; (case hd => rfl); (case hg => rfl); (case hr => first | (go_simp; done) | (go_simp; rfl)); intro gb hg_gb wb hx_gb hb_gb; clear hg_gb))
    refine bodyPost_ret (v := .tuple #[.pointer (some ⟨ga, 0, none⟩), .pointer (some ⟨gb, 0, none⟩), .string xv, .bool true]) (by simp [results, Try.results50, go_sem]) rfl ?_
    exact ⟨_, _, rfl, Or.inr ⟨_, p1, rfl, blk_step hx_ga hb_gb, ht1.below (hb_ga.trans (hb_gb.mono hb_ga.size))⟩, Or.inr ⟨_, p2, rfl, hx_gb, ht2.below (hb_ga.trans (hb_gb.mono hb_ga.size))⟩, bstep (bstep hB2 hb_ga) hb_gb⟩

end Go.Proofs.Ytehnkoglhbbfjaa
