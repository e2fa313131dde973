/-
  The walks of union, minus, both, and of Split, Union, Minus, Both, Join.
-/
import Derived.Test.YtehnkoglhbbfjaaT6
import Derived.Test.YtehnkoglhbbfjaaM1
import Derived.LaidEqlPtr
set_option linter.unusedVariables false
set_option linter.unusedSimpArgs false
namespace Go.Proofs.Ytehnkoglhbbfjaa
open Go.RowKit Go.Proofs.YtehnkoglhbbfjaaW.PrintWords Go.Proofs.YtehnkoglhbbfjaaW.PrintLast Go.Proofs.YtehnkoglhbbfjaaW.PrintMore PAll

theorem info111 : (Try.prog.info? 111).map (fun i => i.size) = some 6 := by kernel_rfl
theorem eql_same (w : World) (a : Addr) : (binOp .eql 81 (.pointer (some a)) (.pointer (some a))).run Try.prog w = .ok (.bool true) w := by
  obtain ⟨j, hj, -⟩ := Option.map_eq_some_iff.1 info111
  exact run_eql_ptr_same w a Try.underlying81 hj
theorem eql_nil_some (w : World) (a : Addr) : (binOp .eql 81 (.pointer none) (.pointer (some a))).run Try.prog w = .ok (.bool false) w := by
  obtain ⟨j, hj, -⟩ := Option.map_eq_some_iff.1 info111
  have h : ∀ d : Nat, (Op.equalIn (d + 1) 81 (.pointer none) (.pointer (some a))).run Try.prog w = .ok false w := fun d => by
    simp [Op.equalIn, run_underlying Try.underlying81, sizeOf, typeInfo, hj]
  simp only [binOp]
  simp [Op.equal, Op.maxDepth, h 9999]
theorem eql_other {w : World} {a b : Nat} {ca cb : Array Value} (h : a ≠ b) (ha : w.heap[a]? = some (.cells ca 111 (0, 0))) (hb : w.heap[b]? = some (.cells cb 111 (0, 0))) :
    (binOp .eql 81 (.pointer (some ⟨a, 0, none⟩)) (.pointer (some ⟨b, 0, none⟩))).run Try.prog w = .ok (.bool false) w := by
  obtain ⟨j, hj, hs⟩ := Option.map_eq_some_iff.1 info111
  exact run_eql_ptr_other w Try.underlying81 hj (by rw [hs]; decide) (fun e => h (by injection e)) ha hb

set_option maxHeartbeats 1000000 in
set_option maxRecDepth 100000 in
theorem union_calls (bt : T) : ∀ (a : T) (p q : Option Addr) (w : World), IsT w p a → IsT w q bt → a.size + bt.size < 1000000000 →
    Calls Try.prog 89 #[.pointer p, .pointer q] w fun e w' => ∃ p' u, e = .returned (.pointer p') ∧ IsT w' p' u ∧ T.UnionR a bt u ∧ Below w.heap.size w w' := by
  induction bt with
  | nil =>
    intro a p q w hp hq hs
    obtain rfl : q = none := hq
    cases a with
    | nil =>
      obtain rfl : p = none := hp
      go_enter Try.func89, Try.ntmps89
      go_wp2
      go_ret
      exact ⟨none, .nil, rfl, rfl, rfl, Below.refl _ _⟩
    | node al ak av ar =>
      have HP := As.mk hp
      obtain ⟨ab, alp, arp, rfl, ha, -, -⟩ := hp
      go_enter Try.func89, Try.ntmps89
      go_wp2
      go_ret
      exact ⟨_, .node al ak av ar, rfl, HP.out, rfl, Below.refl _ _⟩
  | node bl bk bv br ihl ihr =>
    intro a p q w hp hq hs
    have HQ := As.mk hq
    obtain ⟨b, lp, rp, rfl, hb, hl, hr⟩ := hq
    have IHL := As.mk ihl
    have IHR := As.mk ihr
    clear ihl ihr
    obtain ⟨e0, e1, e2, e3, -, -⟩ := cells6 hb
    have HT : As (∀ w', Below w.heap.size w w' → w'.cell? ⟨b, 0, none⟩ = some (.string bk) ∧ w'.cell? ⟨b, 1, none⟩ = some (.string bv) ∧ w'.cell? ⟨b, 2, none⟩ = some (.pointer lp) ∧ w'.cell? ⟨b, 3, none⟩ = some (.pointer rp) ∧ Below w.heap.size w w') := ⟨fun w' h => ⟨(heap_cell (blk_step hb h) 0).trans rfl, (heap_cell (blk_step hb h) 1).trans rfl, (heap_cell (blk_step hb h) 2).trans rfl, (heap_cell (blk_step hb h) 3).trans rfl, h⟩⟩
    cases a with
    | nil =>
      obtain rfl : p = none := hp
      have hns := eql_nil_some w ⟨b, 0, none⟩
      go_enter Try.func89, Try.ntmps89
      go_wp2
      go_ret
      exact ⟨_, .node bl bk bv br, rfl, HQ.out, Or.inl ⟨rfl, rfl⟩, Below.refl _ _⟩
    | node al ak av ar =>
      by_cases hpq : p = some ⟨b, 0, none⟩
      · subst hpq
        have hE := IsT.fun hp HQ.out
        have HP := As.mk hp
        clear hp
        have hsame := eql_same w ⟨b, 0, none⟩
        go_enter Try.func89, Try.ntmps89
        go_wp2
        go_ret
        exact ⟨_, .node al ak av ar, rfl, HP.out, Or.inr (Or.inl ⟨hE, rfl⟩), Below.refl _ _⟩
      · have HP := As.mk hp
        obtain ⟨ab, alp, arp, rfl, ha, -, -⟩ := hp
        have hne : T.node al ak av ar ≠ .nil := by intro h; cases h
        have hss := T.split_size3 bk (T.node al ak av ar)
        simp only [T.size] at hs
        have hs' : (T.node al ak av ar).size + (1 + bl.size + br.size) < 1000000000 := by simpa only [T.size] using hs
        clear hs
        have hother := eql_other (fun h => hpq (by rw [h])) ha hb
        clear hpq ha
        generalize T.node al ak av ar = A at *
        generalize hX : T.split bk A = X at *
        obtain ⟨X1, X2, X3⟩ := X
        dsimp only at *
        have HXX := As.mk hX
        clear hX
        go_enter Try.func89, Try.ntmps89
        go_wp2_with (first
          | (go_at_call 84; refine (split_calls bk A (some ⟨ab, 0, none⟩) w HP.out (by omega)).mono ?_; rintro e w2 ⟨p1, p2, p3, rfl, ht1, ht2, ht3, hB2⟩; rw [HXX.out] at ht1 ht2 ht3; obtain ⟨f0, f1, f2, f3, -⟩ := HT.out _ hB2))
        go_region_held3 (fun w' => w'.cell? ⟨b, 0, none⟩ = some (.string bk) ∧ w'.cell? ⟨b, 1, none⟩ = some (.string bv) ∧ w'.cell? ⟨b, 2, none⟩ = some (.pointer lp) ∧ w'.cell? ⟨b, 3, none⟩ = some (.pointer rp) ∧ Below w.heap.size w w')
          (first | exact HT.out _ hB2.drew | exact HT.out _ hB3 | exact HT.out _ hB4 | exact HT.out _ hB5)
          (first
            | (go_at_call_of 89 (Value.pointer lp); refine (IHL.out X1 p1 lp _ (ht1.below (Below.refl _ _).drew) (hl.below hB2.drew) (by omega)).mono ?_; rintro e w3 ⟨q3, u1, rfl, hu1, hr1, hb3⟩; have hB3 := bstep hB2.drew hb3; have hb23 := (Below.refl w2.heap.size w2).drew.trans hb3; have hz1 := T.UnionR_size _ _ _ hr1)
            | (go_at_call_of 89 (Value.pointer rp); refine (IHR.out X2 p2 rp _ (ht2.below hb23) (hr.below hB3) (by omega)).mono ?_; rintro e w4 ⟨q4, u2, rfl, hu2, hr2, hb4⟩; have hB4 := bstep hB3 hb4; have hz2 := T.UnionR_size _ _ _ hr2)
            | (go_at_call 95; refine (join_calls q3 q4 u1 u2 bk bv _ (hu1.below hb4) hu2 (by omega)).mono ?_; rintro e w5 ⟨p5, rfl, ht5, hb5⟩; have hB5 := bstep hB4 hb5))
        go_wp2
        go_ret
        exact ⟨_, _, rfl, ht5, Or.inr (Or.inr ⟨hne, u1, u2, by rw [HXX.out]; exact hr1, by rw [HXX.out]; exact hr2, rfl⟩), hB5⟩

set_option maxHeartbeats 1000000 in
set_option maxRecDepth 100000 in
theorem minus_calls (bt : T) : ∀ (a : T) (p q : Option Addr) (w : World), IsT w p a → IsT w q bt → a.size + bt.size < 1000000000 →
    Calls Try.prog 92 #[.pointer p, .pointer q] w fun e w' => ∃ p' u, e = .returned (.pointer p') ∧ IsT w' p' u ∧ T.MinusR a bt u ∧ Below w.heap.size w w' := by
  induction bt with
  | nil =>
    intro a p q w hp hq hs
    obtain rfl : q = none := hq
    cases a with
    | nil =>
      obtain rfl : p = none := hp
      go_enter Try.func92, Try.ntmps92
      go_wp2
      go_ret
      exact ⟨none, .nil, rfl, rfl, rfl, Below.refl _ _⟩
    | node al ak av ar =>
      have HP := As.mk hp
      obtain ⟨ab, alp, arp, rfl, ha, -, -⟩ := hp
      go_enter Try.func92, Try.ntmps92
      go_wp2
      go_ret
      exact ⟨_, .node al ak av ar, rfl, HP.out, rfl, Below.refl _ _⟩
  | node bl bk bv br ihl ihr =>
    intro a p q w hp hq hs
    have HQ := As.mk hq
    obtain ⟨b, lp, rp, rfl, hb, hl, hr⟩ := hq
    have IHL := As.mk ihl
    have IHR := As.mk ihr
    clear ihl ihr
    obtain ⟨e0, e1, e2, e3, -, -⟩ := cells6 hb
    have HT : As (∀ w', Below w.heap.size w w' → w'.cell? ⟨b, 0, none⟩ = some (.string bk) ∧ w'.cell? ⟨b, 1, none⟩ = some (.string bv) ∧ w'.cell? ⟨b, 2, none⟩ = some (.pointer lp) ∧ w'.cell? ⟨b, 3, none⟩ = some (.pointer rp) ∧ Below w.heap.size w w') := ⟨fun w' h => ⟨(heap_cell (blk_step hb h) 0).trans rfl, (heap_cell (blk_step hb h) 1).trans rfl, (heap_cell (blk_step hb h) 2).trans rfl, (heap_cell (blk_step hb h) 3).trans rfl, h⟩⟩
    cases a with
    | nil =>
      obtain rfl : p = none := hp
      have hns := eql_nil_some w ⟨b, 0, none⟩
      go_enter Try.func92, Try.ntmps92
      go_wp2
      go_ret
      exact ⟨none, .nil, rfl, rfl, Or.inl ⟨rfl, rfl⟩, Below.refl _ _⟩
    | node al ak av ar =>
      by_cases hpq : p = some ⟨b, 0, none⟩
      · subst hpq
        have hE := IsT.fun hp HQ.out
        have HP := As.mk hp
        clear hp
        have hsame := eql_same w ⟨b, 0, none⟩
        go_enter Try.func92, Try.ntmps92
        go_wp2
        go_ret
        exact ⟨none, .nil, rfl, rfl, Or.inr (Or.inl ⟨hE, rfl⟩), Below.refl _ _⟩
      · have HP := As.mk hp
        obtain ⟨ab, alp, arp, rfl, ha, -, -⟩ := hp
        have hne : T.node al ak av ar ≠ .nil := by intro h; cases h
        have hss := T.split_size3 bk (T.node al ak av ar)
        simp only [T.size] at hs
        have hs' : (T.node al ak av ar).size + (1 + bl.size + br.size) < 1000000000 := by simpa only [T.size] using hs
        clear hs
        have hother := eql_other (fun h => hpq (by rw [h])) ha hb
        clear hpq ha
        generalize T.node al ak av ar = A at *
        generalize hX : T.split bk A = X at *
        obtain ⟨X1, X2, X3⟩ := X
        dsimp only at *
        have HXX := As.mk hX
        clear hX
        go_enter Try.func92, Try.ntmps92
        go_wp2_with (first
          | (go_at_call 84; refine (split_calls bk A (some ⟨ab, 0, none⟩) w HP.out (by omega)).mono ?_; rintro e w2 ⟨p1, p2, p3, rfl, ht1, ht2, ht3, hB2⟩; rw [HXX.out] at ht1 ht2 ht3; obtain ⟨f0, f1, f2, f3, -⟩ := HT.out _ hB2))
        go_region_held3 (fun w' => w'.cell? ⟨b, 0, none⟩ = some (.string bk) ∧ w'.cell? ⟨b, 1, none⟩ = some (.string bv) ∧ w'.cell? ⟨b, 2, none⟩ = some (.pointer lp) ∧ w'.cell? ⟨b, 3, none⟩ = some (.pointer rp) ∧ Below w.heap.size w w')
          (first | exact HT.out _ hB2.drew | exact HT.out _ hB3 | exact HT.out _ hB4 | exact HT.out _ hB5)
          (first
            | (go_at_call_of 92 (Value.pointer lp); refine (IHL.out X1 p1 lp _ (ht1.below (Below.refl _ _).drew) (hl.below hB2.drew) (by omega)).mono ?_; rintro e w3 ⟨q3, u1, rfl, hu1, hr1, hb3⟩; have hB3 := bstep hB2.drew hb3; have hb23 := (Below.refl w2.heap.size w2).drew.trans hb3; have hz1 := T.MinusR_size _ _ _ hr1)
            | (go_at_call_of 92 (Value.pointer rp); refine (IHR.out X2 p2 rp _ (ht2.below hb23) (hr.below hB3) (by omega)).mono ?_; rintro e w4 ⟨q4, u2, rfl, hu2, hr2, hb4⟩; have hB4 := bstep hB3 hb4; have hz2 := T.MinusR_size _ _ _ hr2)
            | (go_at_call 85; refine (glue_calls q3 q4 u1 u2 _ (hu1.below hb4) hu2 (by omega)).mono ?_; rintro e w5 ⟨p5, rfl, ht5, hb5⟩; have hB5 := bstep hB4 hb5))
        go_wp2
        go_ret
        exact ⟨_, _, rfl, ht5, Or.inr (Or.inr ⟨hne, u1, u2, by rw [HXX.out]; exact hr1, by rw [HXX.out]; exact hr2, rfl⟩), hB5⟩

set_option maxHeartbeats 1000000 in
set_option maxRecDepth 100000 in
theorem both_calls (bt : T) : ∀ (a : T) (p q : Option Addr) (w : World), IsT w p a → IsT w q bt → a.size + bt.size < 1000000000 →
    Calls Try.prog 90 #[.pointer p, .pointer q] w fun e w' => ∃ p' u, e = .returned (.pointer p') ∧ IsT w' p' u ∧ T.BothR a bt u ∧ Below w.heap.size w w' := by
  induction bt with
  | nil =>
    intro a p q w hp hq hs
    obtain rfl : q = none := hq
    cases a with
    | nil =>
      obtain rfl : p = none := hp
      go_enter Try.func90, Try.ntmps90
      go_wp2
      go_ret
      exact ⟨none, .nil, rfl, rfl, rfl, Below.refl _ _⟩
    | node al ak av ar =>
      have HP := As.mk hp
      obtain ⟨ab, alp, arp, rfl, ha, -, -⟩ := hp
      go_enter Try.func90, Try.ntmps90
      go_wp2
      go_ret
      exact ⟨none, .nil, rfl, rfl, rfl, Below.refl _ _⟩
  | node bl bk bv br ihl ihr =>
    intro a p q w hp hq hs
    have HQ := As.mk hq
    obtain ⟨b, lp, rp, rfl, hb, hl, hr⟩ := hq
    have IHL := As.mk ihl
    have IHR := As.mk ihr
    clear ihl ihr
    obtain ⟨e0, e1, e2, e3, -, -⟩ := cells6 hb
    have HT : As (∀ w', Below w.heap.size w w' → w'.cell? ⟨b, 0, none⟩ = some (.string bk) ∧ w'.cell? ⟨b, 1, none⟩ = some (.string bv) ∧ w'.cell? ⟨b, 2, none⟩ = some (.pointer lp) ∧ w'.cell? ⟨b, 3, none⟩ = some (.pointer rp) ∧ Below w.heap.size w w') := ⟨fun w' h => ⟨(heap_cell (blk_step hb h) 0).trans rfl, (heap_cell (blk_step hb h) 1).trans rfl, (heap_cell (blk_step hb h) 2).trans rfl, (heap_cell (blk_step hb h) 3).trans rfl, h⟩⟩
    cases a with
    | nil =>
      obtain rfl : p = none := hp
      have hns := eql_nil_some w ⟨b, 0, none⟩
      go_enter Try.func90, Try.ntmps90
      go_wp2
      go_ret
      exact ⟨none, .nil, rfl, rfl, Or.inl ⟨rfl, rfl⟩, Below.refl _ _⟩
    | node al ak av ar =>
      by_cases hpq : p = some ⟨b, 0, none⟩
      · subst hpq
        have hE := IsT.fun hp HQ.out
        have HP := As.mk hp
        clear hp
        have hsame := eql_same w ⟨b, 0, none⟩
        go_enter Try.func90, Try.ntmps90
        go_wp2
        go_ret
        exact ⟨_, .node al ak av ar, rfl, HP.out, Or.inr (Or.inl ⟨hE, rfl⟩), Below.refl _ _⟩
      · have HP := As.mk hp
        obtain ⟨ab, alp, arp, rfl, ha, -, -⟩ := hp
        have hne : T.node al ak av ar ≠ .nil := by intro h; cases h
        have hss := T.split_size3 bk (T.node al ak av ar)
        simp only [T.size] at hs
        have hs' : (T.node al ak av ar).size + (1 + bl.size + br.size) < 1000000000 := by simpa only [T.size] using hs
        clear hs
        have hother := eql_other (fun h => hpq (by rw [h])) ha hb
        clear hpq ha
        generalize T.node al ak av ar = A at *
        generalize hX : T.split bk A = X at *
        obtain ⟨X1, X2, X3⟩ := X
        dsimp only at *
        have HXX := As.mk hX
        clear hX
        go_enter Try.func90, Try.ntmps90
        go_wp2_with (first
          | (go_at_call 84; refine (split_calls bk A (some ⟨ab, 0, none⟩) w HP.out (by omega)).mono ?_; rintro e w2 ⟨p1, p2, p3, rfl, ht1, ht2, ht3, hB2⟩; rw [HXX.out] at ht1 ht2 ht3; obtain ⟨f0, f1, f2, f3, -⟩ := HT.out _ hB2))
        go_region_held3 (fun w' => w'.cell? ⟨b, 0, none⟩ = some (.string bk) ∧ w'.cell? ⟨b, 1, none⟩ = some (.string bv) ∧ w'.cell? ⟨b, 2, none⟩ = some (.pointer lp) ∧ w'.cell? ⟨b, 3, none⟩ = some (.pointer rp) ∧ Below w.heap.size w w')
          (first | exact HT.out _ hB2.drew | exact HT.out _ hB3 | exact HT.out _ hB4)
          (first
            | (go_at_call_of 90 (Value.pointer lp); refine (IHL.out X1 p1 lp _ (ht1.below (Below.refl _ _).drew) (hl.below hB2.drew) (by omega)).mono ?_; rintro e w3 ⟨q3, u1, rfl, hu1, hr1, hb3⟩; have hB3 := bstep hB2.drew hb3; have hb23 := (Below.refl w2.heap.size w2).drew.trans hb3; have hz1 := T.BothR_size _ _ _ hr1)
            | (go_at_call_of 90 (Value.pointer rp); refine (IHR.out X2 p2 rp _ (ht2.below hb23) (hr.below hB3) (by omega)).mono ?_; rintro e w4 ⟨q4, u2, rfl, hu2, hr2, hb4⟩; have hB4 := bstep hB3 hb4; have hz2 := T.BothR_size _ _ _ hr2))
        have ht3' := ht3.below (hb23.trans (hb4.mono hb23.size))
        clear ht3
        cases X3 with
        | nil =>
          obtain rfl : p3 = none := ht3'
          go_wp2_with (go_at_call 85; refine (glue_calls q3 q4 u1 u2 _ (hu1.below hb4) hu2 (by omega)).mono ?_; rintro e w5 ⟨p5, rfl, ht5, hb5⟩; have hB5 := bstep hB4 hb5)
          go_ret
          exact ⟨_, _, rfl, ht5, Or.inr (Or.inr ⟨hne, u1, u2, by rw [HXX.out]; exact hr1, by rw [HXX.out]; exact hr2, by rw [HXX.out]⟩), hB5⟩
        | node xl xk xv xr =>
          simp only [T.one] at hss
          obtain ⟨b3, lp3, rp3, rfl, hb3c, -, -⟩ := ht3'
          obtain ⟨g0, g1, g2, g3, -, -⟩ := cells6 hb3c
          go_wp2_with (go_at_call 95; refine (join_calls q3 q4 u1 u2 xk xv _ (hu1.below hb4) hu2 (by omega)).mono ?_; rintro e w5 ⟨p5, rfl, ht5, hb5⟩; have hB5 := bstep hB4 hb5)
          go_ret
          exact ⟨_, _, rfl, ht5, Or.inr (Or.inr ⟨hne, u1, u2, by rw [HXX.out]; exact hr1, by rw [HXX.out]; exact hr2, by rw [HXX.out]⟩), hB5⟩

set_option maxHeartbeats 1000000 in
set_option maxRecDepth 100000 in
theorem Union_calls (p q : Option Addr) (a b : T) (w : World) (hp : IsTr w p a) (hq : IsTr w q b) (hs : a.size + b.size < 1000000000) :
    Calls Try.prog 58 #[.pointer p, .pointer q] w fun e w' => ∃ p' u, e = .returned (.pointer p') ∧ IsTr w' p' u ∧ T.UnionR a b u ∧ Below w.heap.size w w' := by
  go_enter Try.func58, Try.ntmps58
  go_wp2_with fail
  refine (top_calls p a w hp).mono ?_
  rintro e w2 ⟨pa, rfl, ha, rfl⟩
  go_wp2_with fail
  refine (top_calls q b w hq).mono ?_
  rintro e w2 ⟨pb, rfl, hb, rfl⟩
  go_wp2_with (first
    | (go_at_call 89; refine (union_calls b a pa pb w ha hb hs).mono ?_; rintro e w3 ⟨p3, u, rfl, hu, hr, hB3⟩)
    | ((with_reducible refine gate_dst (N := 11) rfl ?_); refine box_event ?hg (N := 11) ?hd (cs := #[.pointer p3]) (t := 83) ?hr ?_; (case hd => rfl); (case hg => rfl); (case hr => first | (go_simp; done) | (go_simp; rfl)); intro gt hg_gt wt hx_gt hb_gt; clear hg_gt))
  go_ret
  exact ⟨_, u, rfl, Or.inr ⟨_, p3, rfl, hx_gt, hu.below hb_gt⟩, hr, bstep hB3 hb_gt⟩

set_option maxHeartbeats 1000000 in
set_option maxRecDepth 100000 in
theorem Minus_calls (p q : Option Addr) (a b : T) (w : World) (hp : IsTr w p a) (hq : IsTr w q b) (hs : a.size + b.size < 1000000000) :
    Calls Try.prog 62 #[.pointer p, .pointer q] w fun e w' => ∃ p' u, e = .returned (.pointer p') ∧ IsTr w' p' u ∧ T.MinusR a b u ∧ Below w.heap.size w w' := by
  go_enter Try.func62, Try.ntmps62
  go_wp2_with fail
  refine (top_calls p a w hp).mono ?_
  rintro e w2 ⟨pa, rfl, ha, rfl⟩
  go_wp2_with fail
  refine (top_calls q b w hq).mono ?_
  rintro e w2 ⟨pb, rfl, hb, rfl⟩
  go_wp2_with (first
    | (go_at_call 92; refine (minus_calls b a pa pb w ha hb hs).mono ?_; rintro e w3 ⟨p3, u, rfl, hu, hr, hB3⟩)
    | ((with_reducible refine gate_dst (N := 11) rfl ?_); refine box_event ?hg (N := 11) ?hd (cs := #[.pointer p3]) (t := 83) ?hr ?_; (case hd => rfl); (case hg => rfl); (case hr => first | (go_simp; done) | (go_simp; rfl)); intro gt hg_gt wt hx_gt hb_gt; clear hg_gt))
  go_ret
  exact ⟨_, u, rfl, Or.inr ⟨_, p3, rfl, hx_gt, hu.below hb_gt⟩, hr, bstep hB3 hb_gt⟩

set_option maxHeartbeats 1000000 in
set_option maxRecDepth 100000 in
theorem Both_calls (p q : Option Addr) (a b : T) (w : World) (hp : IsTr w p a) (hq : IsTr w q b) (hs : a.size + b.size < 1000000000) :
    Calls Try.prog 59 #[.pointer p, .pointer q] w fun e w' => ∃ p' u, e = .returned (.pointer p') ∧ IsTr w' p' u ∧ T.BothR a b u ∧ Below w.heap.size w w' := by
  go_enter Try.func59, Try.ntmps59
  go_wp2_with fail
  refine (top_calls p a w hp).mono ?_
  rintro e w2 ⟨pa, rfl, ha, rfl⟩
  go_wp2_with fail
  refine (top_calls q b w hq).mono ?_
  rintro e w2 ⟨pb, rfl, hb, rfl⟩
  go_wp2_with (first
    | (go_at_call 90; refine (both_calls b a pa pb w ha hb hs).mono ?_; rintro e w3 ⟨p3, u, rfl, hu, hr, hB3⟩)
    | ((with_reducible refine gate_dst (N := 11) rfl ?_); refine box_event ?hg (N := 11) ?hd (cs := #[.pointer p3]) (t := 83) ?hr ?_; (case hd => rfl); (case hg => rfl); (case hr => first | (go_simp; done) | (go_simp; rfl)); intro gt hg_gt wt hx_gt hb_gt; clear hg_gt))
  go_ret
  exact ⟨_, u, rfl, Or.inr ⟨_, p3, rfl, hx_gt, hu.below hb_gt⟩, hr, bstep hB3 hb_gt⟩

set_option maxHeartbeats 1000000 in
set_option maxRecDepth 100000 in
theorem Split_calls (p : Option Addr) (t : T) (key : ByteArray) (w : World) (h : IsTr w p t) (hs : t.size < 1000000000) :
    Calls Try.prog 50 #[.pointer p, .string key] w fun e w' => ∃ p1 p2, e = .returned (.tuple #[.pointer p1, .pointer p2, .string (t.split key).2.2.val.1, .bool (t.split key).2.2.val.2]) ∧ IsTr w' p1 (t.split key).1 ∧ IsTr w' p2 (t.split key).2.1 ∧ Below w.heap.size w w' := by
  generalize hX : T.split key t = X
  obtain ⟨X1, X2, X3⟩ := X
  dsimp only
  have HXX := As.mk hX
  clear hX
  cases X3 with
  | nil =>
    go_enter Try.func50, Try.ntmps50
    go_wp2_with (first
      | (go_at_call 79; refine (top_calls p t w h).mono ?_; rintro e w2 ⟨q, rfl, ht, rfl⟩)
      | (go_at_call 84; refine (split_calls key t q w ht hs).mono ?_; rintro e w2 ⟨p1, p2, p3, rfl, ht1, ht2, ht3, hB2⟩; rw [HXX.out] at ht1 ht2 ht3; obtain rfl : p3 = none := ht3)
      | ((with_reducible refine gate_dst (N := 28) rfl ?_); refine box_event ?hg (N := 28) ?hd (cs := #[.pointer p1]) (t := 83) ?hr ?_; (case hd => rfl); (case hg => rfl); (case hr => first | (go_simp; done) | (go_simp; rfl)); intro ga hg_ga wa hx_ga hb_ga; clear hg_ga)
      | ((with_reducible refine gate_dst (N := 31) rfl ?_); refine box_event ?hg (N := 31) ?hd (cs := #[.pointer p2]) (t := 83) ?hr ?_; (case hd => rfl); (case hg => rfl); (case hr => first | (go_simp; done) | (go_simp; rfl)); intro gb hg_gb wb hx_gb hb_gb; clear hg_gb))
    refine bodyPost_ret (v := .tuple #[.pointer (some ⟨ga, 0, none⟩), .pointer (some ⟨gb, 0, none⟩), .string (⟨#[]⟩ : ByteArray), .bool false]) (by simp [results, Try.results50, go_sem]) rfl ?_
    exact ⟨_, _, rfl, Or.inr ⟨_, p1, rfl, blk_step hx_ga hb_gb, ht1.below (hb_ga.trans (hb_gb.mono hb_ga.size))⟩, Or.inr ⟨_, p2, rfl, hx_gb, ht2.below (hb_ga.trans (hb_gb.mono hb_ga.size))⟩, bstep (bstep hB2 hb_ga) hb_gb⟩
  | node xl xk xv xr =>
    go_enter Try.func50, Try.ntmps50
    go_wp2_with (first
      | (go_at_call 79; refine (top_calls p t w h).mono ?_; rintro e w2 ⟨q, rfl, ht, rfl⟩)
      | (go_at_call 84; refine (split_calls key t q w ht hs).mono ?_; rintro e w2 ⟨p1, p2, p3, rfl, ht1, ht2, ht3, hB2⟩; rw [HXX.out] at ht1 ht2 ht3; obtain ⟨b3, lp3, rp3, rfl, hb3c, -, -⟩ := ht3; obtain ⟨g0, g1, g2, g3, -, -⟩ := cells6 hb3c)
      | ((with_reducible refine gate_dst (N := 28) rfl ?_); refine box_event ?hg (N := 28) ?hd (cs := #[.pointer p1]) (t := 83) ?hr ?_; (case hd => rfl); (case hg => rfl); (case hr => first | (go_simp; done) | (go_simp; rfl)); intro ga hg_ga wa hx_ga hb_ga; clear hg_ga)
      | ((with_reducible refine gate_dst (N := 31) rfl ?_); refine box_event ?hg (N := 31) ?hd (cs := #[.pointer p2]) (t := 83) ?hr ?_; (case hd => rfl); (case hg => rfl); (case hr => first | (go_simp; done) | (go_simp; rfl)); intro gb hg_gb wb hx_gb hb_gb; clear hg_gb))
    refine bodyPost_ret (v := .tuple #[.pointer (some ⟨ga, 0, none⟩), .pointer (some ⟨gb, 0, none⟩), .string xv, .bool true]) (by simp [results, Try.results50, go_sem]) rfl ?_
    exact ⟨_, _, rfl, Or.inr ⟨_, p1, rfl, blk_step hx_ga hb_gb, ht1.below (hb_ga.trans (hb_gb.mono hb_ga.size))⟩, Or.inr ⟨_, p2, rfl, hx_gb, ht2.below (hb_ga.trans (hb_gb.mono hb_ga.size))⟩, bstep (bstep hB2 hb_ga) hb_gb⟩

end Go.Proofs.Ytehnkoglhbbfjaa

namespace Go.Proofs.Ytehnkoglhbbfjaa
open Go.RowKit Go.Proofs.YtehnkoglhbbfjaaW.PrintWords Go.Proofs.YtehnkoglhbbfjaaW.PrintLast Go.Proofs.YtehnkoglhbbfjaaW.PrintMore PAll

/-- What Join answers. -/
def Joined (w : World) : Option T → Ending → World → Prop
  | none, e, w' => e = .returned (.tuple #[.pointer none, .bool false]) ∧ Below w.heap.size w w'
  | some u, e, w' => ∃ p', e = .returned (.tuple #[.pointer p', .bool true]) ∧ IsTr w' p' u ∧ Below w.heap.size w w'

set_option maxHeartbeats 1000000 in
set_option maxRecDepth 100000 in
theorem Join_nil (p q : Option Addr) (A B : T) (hAB : A = .nil ∨ B = .nil) (w : World) (hp : IsTr w p A) (hq : IsTr w q B) (hs : A.size + B.size < 1000000000) :
    Calls Try.prog 51 #[.pointer p, .pointer q] w fun e w' => ∃ p', e = .returned (.tuple #[.pointer p', .bool true]) ∧ IsTr w' p' (T.glue A B) ∧ Below w.heap.size w w' := by
  go_enter Try.func51, Try.ntmps51
  go_wp2_with fail
  refine (top_calls p A w hp).mono ?_
  rintro e w2 ⟨pa, rfl, ha, rfl⟩
  go_wp2_with fail
  refine (top_calls q B w hq).mono ?_
  rintro e w2 ⟨pb, rfl, hb, rfl⟩
  have HA := As.mk ha
  have HB := As.mk hb
  have hab : pa = none ∨ ((∃ x, pa = some x) ∧ pb = none) := by
    cases A with
    | nil => exact Or.inl ha
    | node al ak av ar =>
      obtain ⟨ab, alp, arp, e, -, -, -⟩ := ha
      rcases hAB with h | h
      · cases h
      · subst h; exact Or.inr ⟨⟨_, e⟩, hb⟩
  clear ha hb
  rcases hab with rfl | ⟨⟨x, rfl⟩, rfl⟩
  all_goals
    go_wp2_with (first
      | (go_at_call 85; refine (glue_calls _ _ A B _ HA.out HB.out hs).mono ?_; rintro e w3 ⟨p3, rfl, h3, hB3⟩)
      | ((with_reducible refine gate_dst (N := 44) rfl ?_); refine box_event ?hg (N := 44) ?hd (cs := #[.pointer p3]) (t := 83) ?hr ?_; (case hd => rfl); (case hg => rfl); (case hr => first | (go_simp; done) | (go_simp; rfl)); intro gt hg_gt wt hx_gt hb_gt; clear hg_gt))
    go_ret2
    exact ⟨_, rfl, Or.inr ⟨_, p3, rfl, hx_gt, h3.below hb_gt⟩, bstep hB3 hb_gt⟩

set_option maxHeartbeats 1000000 in
set_option maxRecDepth 100000 in
theorem Join_no (p q : Option Addr) (A B : T) (ek ev fk fv : ByteArray) (eb fb : Bool) (hE : T.tat A ((A.size : Int) - 1) = ((ek, ev), eb)) (hF : T.tat B 0 = ((fk, fv), fb)) (hA : A ≠ .nil) (hB : B ≠ .nil) (hlt : Op.bytesLess ek.toList fk.toList = false) (w : World) (hp : IsTr w p A) (hq : IsTr w q B) (hs : A.size + B.size < 1000000000) :
    Calls Try.prog 51 #[.pointer p, .pointer q] w fun e w' => e = .returned (.tuple #[.pointer none, .bool false]) ∧ Below w.heap.size w w' := by
  go_enter Try.func51, Try.ntmps51
  go_wp2_with fail
  refine (top_calls p A w hp).mono ?_
  rintro e w2 ⟨pa, rfl, ha, rfl⟩
  go_wp2_with fail
  refine (top_calls q B w hq).mono ?_
  rintro e w2 ⟨pb, rfl, hb, rfl⟩
  obtain ⟨xa, rfl⟩ : ∃ x, pa = some x := by
    cases A with
    | nil => exact absurd rfl hA
    | node al ak av ar => obtain ⟨ab, alp, arp, rfl, -, -, -⟩ := ha; exact ⟨_, rfl⟩
  obtain ⟨xb, rfl⟩ : ∃ x, pb = some x := by
    cases B with
    | nil => exact absurd rfl hB
    | node al ak av ar => obtain ⟨ab, alp, arp, rfl, -, -, -⟩ := hb; exact ⟨_, rfl⟩
  have HE := As.mk hE
  have HF := As.mk hF
  clear hE hF
  go_wp2_with fail
  refine (Len_calls p A w hp).mono ?_
  rintro e w2 ⟨rfl, rfl⟩
  go_wp2_with fail
  refine (At_calls p A _ w hp (by omega)).mono ?_
  rintro e w3 ⟨rfl, hB3⟩
  rw [HE.out]
  go_wp2_with (first
    | ((with_reducible refine gate_dst (N := 8) rfl ?_); refine box_event ?hg (N := 8) ?hd (cs := #[.string (⟨#[]⟩ : ByteArray), .string (⟨#[]⟩ : ByteArray)]) (t := 29) ?hr ?_; (case hd => rfl); (case hg => rfl); (case hr => first | (go_simp; done) | (go_simp; rfl)); intro ge hg_ge w4 hx_ge hb_ge; have hB4 := bstep hB3 hb_ge; have GE := As.mk ((by rw [hg_ge]; exact hB3.size) : w.heap.size ≤ ge); clear hg_ge; obtain ⟨x0, x1⟩ := cells2 hx_ge; have z0 := blk_frozen hx_ge 0; have z1 := blk_frozen hx_ge 1))
  have hB5 := (hB4.setCell (p := ⟨ge, 0, none⟩) GE.out (.string ek)).setCell (p := ⟨ge, 1, none⟩) GE.out (.string ev)
  have hx5 := blk_put (blk_put hx_ge 0 (.string ek) rfl) 1 (.string ev) rfl
  clear x0 x1 z0 z1
  generalize (w4.setCell ⟨ge, 0, none⟩ (.string ek)).setCell ⟨ge, 1, none⟩ (.string ev) = w5 at *
  refine (At_calls q B _ w5 (hq.below hB5) (by omega)).mono ?_
  rintro e w6 ⟨rfl, hb6⟩
  rw [HF.out]
  have hB6 := bstep hB5 hb6
  have hx6 := blk_step hx5 hb6
  go_wp2_with (first
    | ((with_reducible refine gate_dst (N := 10) rfl ?_); refine box_event ?hg (N := 10) ?hd (cs := #[.string (⟨#[]⟩ : ByteArray), .string (⟨#[]⟩ : ByteArray)]) (t := 29) ?hr ?_; (case hd => rfl); (case hg => rfl); (case hr => first | (go_simp; done) | (go_simp; rfl)); intro gf hg_gf w7 hx_gf hb_gf; have hB7 := bstep hB6 hb_gf; have GF := As.mk ((by rw [hg_gf]; exact hB6.size) : w.heap.size ≤ gf); have GN := As.mk ((by rw [hg_gf]; exact Nat.ne_of_lt (blk_lt hx6)) : ge ≠ gf); have hx7 := blk_step hx6 hb_gf; clear hg_gf; obtain ⟨x0, x1⟩ := cells2 hx_gf; have z0 := blk_frozen hx_gf 0; have z1 := blk_frozen hx_gf 1; have y0 := cells2 (blk_far (blk_far hx7 (p := ⟨gf, 0, none⟩) GN.out (.string fk)) (p := ⟨gf, 1, none⟩) GN.out (.string fv)); have hneq := GN.out; have hneq' := Ne.symm GN.out; obtain ⟨y0, y1⟩ := y0))
  go_ret2
  exact ⟨rfl, (hB7.setCell (p := ⟨gf, 0, none⟩) GF.out _).setCell (p := ⟨gf, 1, none⟩) GF.out _⟩

set_option maxHeartbeats 1000000 in
set_option maxRecDepth 100000 in
theorem Join_yes (p q : Option Addr) (A B : T) (ek ev fk fv : ByteArray) (eb fb : Bool) (hE : T.tat A ((A.size : Int) - 1) = ((ek, ev), eb)) (hF : T.tat B 0 = ((fk, fv), fb)) (hA : A ≠ .nil) (hB : B ≠ .nil) (hlt : Op.bytesLess ek.toList fk.toList = true) (w : World) (hp : IsTr w p A) (hq : IsTr w q B) (hs : A.size + B.size < 1000000000) :
    Calls Try.prog 51 #[.pointer p, .pointer q] w fun e w' => ∃ p', e = .returned (.tuple #[.pointer p', .bool true]) ∧ IsTr w' p' (T.glue A B) ∧ Below w.heap.size w w' := by
  go_enter Try.func51, Try.ntmps51
  go_wp2_with fail
  refine (top_calls p A w hp).mono ?_
  rintro e w2 ⟨pa, rfl, ha, rfl⟩
  go_wp2_with fail
  refine (top_calls q B w hq).mono ?_
  rintro e w2 ⟨pb, rfl, hb, rfl⟩
  obtain ⟨xa, rfl⟩ : ∃ x, pa = some x := by
    cases A with
    | nil => exact absurd rfl hA
    | node al ak av ar => obtain ⟨ab, alp, arp, rfl, -, -, -⟩ := ha; exact ⟨_, rfl⟩
  obtain ⟨xb, rfl⟩ : ∃ x, pb = some x := by
    cases B with
    | nil => exact absurd rfl hB
    | node al ak av ar => obtain ⟨ab, alp, arp, rfl, -, -, -⟩ := hb; exact ⟨_, rfl⟩
  have HE := As.mk hE
  have HF := As.mk hF
  clear hE hF
  go_wp2_with fail
  refine (Len_calls p A w hp).mono ?_
  rintro e w2 ⟨rfl, rfl⟩
  go_wp2_with fail
  refine (At_calls p A _ w hp (by omega)).mono ?_
  rintro e w3 ⟨rfl, hB3⟩
  rw [HE.out]
  go_wp2_with (first
    | ((with_reducible refine gate_dst (N := 8) rfl ?_); refine box_event ?hg (N := 8) ?hd (cs := #[.string (⟨#[]⟩ : ByteArray), .string (⟨#[]⟩ : ByteArray)]) (t := 29) ?hr ?_; (case hd => rfl); (case hg => rfl); (case hr => first | (go_simp; done) | (go_simp; rfl)); intro ge hg_ge w4 hx_ge hb_ge; have hB4 := bstep hB3 hb_ge; have GE := As.mk ((by rw [hg_ge]; exact hB3.size) : w.heap.size ≤ ge); clear hg_ge; obtain ⟨x0, x1⟩ := cells2 hx_ge; have z0 := blk_frozen hx_ge 0; have z1 := blk_frozen hx_ge 1))
  have hB5 := (hB4.setCell (p := ⟨ge, 0, none⟩) GE.out (.string ek)).setCell (p := ⟨ge, 1, none⟩) GE.out (.string ev)
  have hx5 := blk_put (blk_put hx_ge 0 (.string ek) rfl) 1 (.string ev) rfl
  clear x0 x1 z0 z1
  generalize (w4.setCell ⟨ge, 0, none⟩ (.string ek)).setCell ⟨ge, 1, none⟩ (.string ev) = w5 at *
  refine (At_calls q B _ w5 (hq.below hB5) (by omega)).mono ?_
  rintro e w6 ⟨rfl, hb6⟩
  rw [HF.out]
  have hB6 := bstep hB5 hb6
  have hx6 := blk_step hx5 hb6
  go_wp2_with (first
    | ((with_reducible refine gate_dst (N := 10) rfl ?_); refine box_event ?hg (N := 10) ?hd (cs := #[.string (⟨#[]⟩ : ByteArray), .string (⟨#[]⟩ : ByteArray)]) (t := 29) ?hr ?_; (case hd => rfl); (case hg => rfl); (case hr => first | (go_simp; done) | (go_simp; rfl)); intro gf hg_gf w7 hx_gf hb_gf; have hB7 := bstep hB6 hb_gf; have GF := As.mk ((by rw [hg_gf]; exact hB6.size) : w.heap.size ≤ gf); have GN := As.mk ((by rw [hg_gf]; exact Nat.ne_of_lt (blk_lt hx6)) : ge ≠ gf); have hx7 := blk_step hx6 hb_gf; clear hg_gf; obtain ⟨x0, x1⟩ := cells2 hx_gf; have z0 := blk_frozen hx_gf 0; have z1 := blk_frozen hx_gf 1; have y0 := cells2 (blk_far (blk_far hx7 (p := ⟨gf, 0, none⟩) GN.out (.string fk)) (p := ⟨gf, 1, none⟩) GN.out (.string fv)); have hneq := GN.out; have hneq' := Ne.symm GN.out; obtain ⟨y0, y1⟩ := y0)
    | (go_at_call 85; have hB8 := (hB7.setCell (p := ⟨gf, 0, none⟩) GF.out (.string fk)).setCell (p := ⟨gf, 1, none⟩) GF.out (.string fv); refine (glue_calls _ _ A B _ (ha.below hB8) (hb.below hB8) hs).mono ?_; rintro e w9 ⟨p9, rfl, h9, hb9⟩; have hB9 := bstep hB8 hb9)
    | ((with_reducible refine gate_dst (N := 44) rfl ?_); refine box_event ?hg (N := 44) ?hd (cs := #[.pointer p9]) (t := 83) ?hr ?_; (case hd => rfl); (case hg => rfl); (case hr => first | (go_simp; done) | (go_simp; rfl)); intro gt hg_gt wt hx_gt hb_gt; clear hg_gt))
  go_ret2
  exact ⟨_, rfl, Or.inr ⟨_, p9, rfl, hx_gt, h9.below hb_gt⟩, bstep hB9 hb_gt⟩

theorem Join_calls (p q : Option Addr) (a b : T) (w : World) (hp : IsTr w p a) (hq : IsTr w q b) (hs : a.size + b.size < 1000000000) :
    Calls Try.prog 51 #[.pointer p, .pointer q] w (Joined w (T.tjoin a b)) := by
  cases ha : a with
  | nil =>
    rw [show T.tjoin .nil b = some (T.glue .nil b) by cases b <;> rfl]
    subst ha
    exact Join_nil p q _ b (Or.inl rfl) w hp hq hs
  | node al ak av ar =>
    cases hb : b with
    | nil =>
      rw [show T.tjoin (.node al ak av ar) .nil = some (T.glue (.node al ak av ar) .nil) from rfl]
      subst ha; subst hb
      exact Join_nil p q _ _ (Or.inr rfl) w hp hq hs
    | node bl bk bv br =>
      rw [← ha, ← hb]
      have hA : a ≠ .nil := by rw [ha]; intro h; cases h
      have hB : b ≠ .nil := by rw [hb]; intro h; cases h
      have hJ : T.tjoin a b = if lt (T.tat a ((a.size : Int) - 1)).1.1 (T.tat b 0).1.1 then some (T.glue a b) else none := by
        rw [ha, hb]; rfl
      rw [hJ]
      cases hlt : lt (T.tat a ((a.size : Int) - 1)).1.1 (T.tat b 0).1.1 with
      | false => exact Join_no p q a b _ _ _ _ _ _ rfl rfl hA hB hlt w hp hq hs
      | true => exact Join_yes p q a b _ _ _ _ _ _ rfl rfl hA hB hlt w hp hq hs

end Go.Proofs.Ytehnkoglhbbfjaa
