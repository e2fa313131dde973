/-
  The walks of diff and Diff.
-/
import Derived.Test.YtehnkoglhbbfjaaT7
set_option linter.unusedVariables false
set_option linter.unusedSimpArgs false
namespace Go.Proofs.Ytehnkoglhbbfjaa
open Go.RowKit Go.Proofs.YtehnkoglhbbfjaaW.PrintWords Go.Proofs.YtehnkoglhbbfjaaW.PrintLast Go.Proofs.YtehnkoglhbbfjaaW.PrintMore PAll

theorem info51 : (Try.prog.info? 51).map (fun i => (i.zero, i.size, i.bytes)) = some (some (.agg #[.int .i64 0, .string ⟨#[]⟩, .bool false, .string ⟨#[]⟩, .bool false, .string ⟨#[]⟩]), 6, 72) := by kernel_rfl

set_option maxHeartbeats 4000000 in
set_option maxRecDepth 100000 in
theorem diffNil_calls (bt : T) : ∀ (q : Option Addr) (w : World) (vo : Value) (xs : List S51) (base : Nat), IsT w q bt → Kd.R k51 51 w base (fun _ => True) vo xs → base ≤ w.heap.size → xs.length + bt.size < 1000000000 →
    Calls Try.prog 81 #[.pointer none, .pointer q, vo] w fun e w' => ∃ v', e = .returned v' ∧ Kd.R k51 51 w' base (fun _ => True) v' (xs ++ bt.diffNil) ∧ Grew w w' vo v' := by
  induction bt with
  | nil =>
    intro q w vo xs base hq hR hB hs
    obtain rfl : q = none := hq
    obtain ⟨Ao, co, rfl⟩ := Kd.R_slice hR
    rw [show xs ++ T.diffNil .nil = xs from List.append_nil _]
    go_enter Try.func81, Try.ntmps81
    go_wp2
    go_ret
    exact ⟨_, rfl, hR, Grew.refl _ _⟩
  | node l k v r ihl ihr =>
    intro q w vo xs base hq hR hB hs
    have IHL := As.mk ihl
    have IHR := As.mk ihr
    clear ihl ihr
    obtain ⟨b, lp, rp, rfl, hb, hl, hr⟩ := hq
    obtain ⟨e0, e1, e2, e3, -, -⟩ := cells6 hb
    have hln := T.diffNil_length l
    simp only [T.size] at hs
    obtain ⟨X, hX⟩ : ∃ X : List S51, X = xs ++ l.diffNil := ⟨_, rfl⟩
    obtain ⟨Y, hY⟩ : ∃ Y : List S51, Y = X ++ [⟨0, k, false, ⟨#[]⟩, true, v⟩] := ⟨_, rfl⟩
    obtain ⟨Z, hZ⟩ : ∃ Z : List S51, Z = Y ++ r.diffNil := ⟨_, rfl⟩
    rw [show xs ++ T.diffNil (.node l k v r) = Z by rw [hZ, hY, hX]; simp [T.diffNil]]
    have HZ := As.mk hZ
    clear hZ
    have hXl : X.length ≤ xs.length + l.size := by rw [hX, List.length_append, hln]; exact Nat.le_refl _
    have hYl : Y.length + r.size < 1000000000 := by rw [hY, List.length_append]; simp only [List.length_singleton]; omega
    have HX := As.mk hX
    have HY := As.mk hY
    clear hX hY hln
    have hns := eql_nil_some w ⟨b, 0, none⟩
    obtain ⟨Ao, co, rfl⟩ := Kd.R_slice hR
    have HR := As.mk hR
    clear hR
    go_enter Try.func81, Try.ntmps81
    go_wp2_with (first
      | (go_at_call_of 81 (Value.pointer lp); refine (IHL.out lp w _ xs base hl HR.out hB (by omega)).mono ?_; rintro e w2 ⟨v2, rfl, hR2, hG2⟩; rw [← HX.out] at hR2; have hr2 := hr.grew hG2 HR.out (by decide); have hS2 : base ≤ w2.heap.size := Nat.le_trans hB hG2.grown.size; have hb2 := (hG2.grown.block b (blk_lt hb) (fun e' => blk_no hb HR.out (by decide) e')).trans hb; obtain ⟨A2, c2, rfl⟩ := Kd.R_slice hR2; have HR2 := As.mk hR2; clear hR2))
    have HS : As (∀ w' : World, w'.heap[b]? = w2.heap[b]? → w'.cell? ⟨b, 0, none⟩ = some (.string k) ∧ w'.cell? ⟨b, 1, none⟩ = some (.string v)) := ⟨fun w' h => ⟨(heap_cell (h.trans hb2) 0).trans rfl, (heap_cell (h.trans hb2) 1).trans rfl⟩⟩
    go_region_held3 (fun w' => w'.cell? ⟨b, 0, none⟩ = some (.string k) ∧ w'.cell? ⟨b, 1, none⟩ = some (.string v))
      (first | exact HS.out _ rfl | exact HS.out _ (Below.heap_alloc w2.drew _ _ (blk_lt hb2)) | exact HS.out _ hk3)
      (first
        | (refine Kd.R_append_step k51 (w0 := w2.drew) base (by rfl) (.tmp 28) (.tmp 40) 47 51 (.agg #[.int .i64 0, .string ⟨#[]⟩, .bool false, .string ⟨#[]⟩, .bool false, .string ⟨#[]⟩]) 72 rfl Try.underlying47 info51 rfl (by decide) (by omega) _ X (⟨0, k, false, ⟨#[]⟩, true, v⟩ : S51) [.int .i64 0, .string k, .bool false, .string ⟨#[]⟩, .bool true, .string v] (fun _ => True) (fun _ => False) rfl (by first | (go_simp; done) | (go_simp; rfl)) (k51_mkM _ _ _ _) (fun _ hk => hk.elim) (fun _ _ => trivial) ?aO (Below.refl _ _) ?aS ?aL ?_; (case aO => exact Kd.R_drew HR2.out); (case aS => exact hS2); (case aL => omega); intro v3 w3 ho3 _ hg3 hat3; rw [← HY.out] at ho3; have hG3 : Grew w w3 _ _ := (hG2.trans (Grew.of_below (Below.refl _ _).drew _)).trans ⟨hg3, hat3⟩; have hk3 := hg3.block b (blk_lt hb2) (fun e' => blk_no hb2 HR2.out (by decide) e'); have hr3 := hr.grew hG3 HR.out (by decide); have hS3 : base ≤ w3.heap.size := Nat.le_trans hB hG3.grown.size; obtain ⟨A3, c3, rfl⟩ := Kd.R_slice ho3; have HR3 := As.mk ho3; clear ho3 hg3 hat3))
    have hb3 := hk3.trans hb2
    obtain ⟨g0, g1, g2, g3, -, -⟩ := cells6 hb3
    go_wp2_with (first
      | (go_at_call_of 81 (Value.pointer rp); refine (IHR.out rp w3 _ Y base hr3 HR3.out hS3 hYl).mono ?_; rintro e w4 ⟨v4, rfl, hR4, hG4⟩; rw [← HZ.out] at hR4; have hGE := hG3.trans hG4; obtain ⟨A4, c4, rfl⟩ := Kd.R_slice hR4; have HR4 := As.mk hR4; clear hR4))
    go_ret
    exact ⟨_, rfl, HR4.out, hGE⟩

set_option maxHeartbeats 4000000 in
set_option maxRecDepth 100000 in
theorem diff_nil_at (l r B X1 X2 : T)  (k v : ByteArray)
    (ihl : ∀ (bt : T) (p q : Option Addr) (w : World) (vo : Value) (xs : List S51) (base : Nat), IsT w p l → IsT w q bt → Kd.R k51 51 w base (fun _ => True) vo xs → base ≤ w.heap.size → xs.length + l.size + bt.size < 1000000000 →
      Calls Try.prog 81 #[.pointer p, .pointer q, vo] w fun e w' => ∃ v', e = .returned v' ∧ Kd.R k51 51 w' base (fun _ => True) v' (xs ++ T.diff l bt) ∧ Grew w w' vo v')
    (ihr : ∀ (bt : T) (p q : Option Addr) (w : World) (vo : Value) (xs : List S51) (base : Nat), IsT w p r → IsT w q bt → Kd.R k51 51 w base (fun _ => True) vo xs → base ≤ w.heap.size → xs.length + r.size + bt.size < 1000000000 →
      Calls Try.prog 81 #[.pointer p, .pointer q, vo] w fun e w' => ∃ v', e = .returned v' ∧ Kd.R k51 51 w' base (fun _ => True) v' (xs ++ T.diff r bt) ∧ Grew w w' vo v')
    (hX : T.split k B = (X1, X2, .nil)) 
    (b : Nat) (lp rp q : Option Addr) (w : World) (vo : Value) (xs : List S51) (base : Nat)
    (hb : w.heap[b]? = some (.cells #[.string k, .string v, .pointer lp, .pointer rp, .int .i64 (T.node l k v r).depth, .int .i64 (T.node l k v r).size] 111 (0, 0))) (hl : IsT w lp l) (hr : IsT w rp r)
    (hq : IsT w q B) (hne : (binOp .eql 81 (.pointer (some ⟨b, 0, none⟩)) (.pointer q)).run Try.prog w = .ok (.bool false) w)
    (hR : Kd.R k51 51 w base (fun _ => True) vo xs) (hB : base ≤ w.heap.size) (hs : xs.length + (1 + l.size + r.size) + B.size < 1000000000) :
    Calls Try.prog 81 #[.pointer (some ⟨b, 0, none⟩), .pointer q, vo] w fun e w' => ∃ v', e = .returned v' ∧ Kd.R k51 51 w' base (fun _ => True) v' (xs ++ (T.diff l X1 ++ [⟨0, k, true, v, false, ⟨#[]⟩⟩] ++ T.diff r X2)) ∧ Grew w w' vo v' := by
  have hss := T.split_size3 k B
  rw [hX] at hss
  dsimp only at hss
  simp only [T.one] at hss
  have hd1 := T.diff_length l X1
  have IHL := As.mk ihl
  have IHR := As.mk ihr
  have HXX := As.mk hX
  have HQ := As.mk hq
  clear ihl ihr hX hq
  obtain ⟨e0, e1, e2, e3, -, -⟩ := cells6 hb
  obtain ⟨X, hX⟩ : ∃ X : List S51, X = xs ++ T.diff l X1 := ⟨_, rfl⟩
  obtain ⟨Y, hY⟩ : ∃ Y : List S51, Y = X ++ [⟨0, k, true, v, false, ⟨#[]⟩⟩] := ⟨_, rfl⟩
  obtain ⟨Z, hZ⟩ : ∃ Z : List S51, Z = Y ++ T.diff r X2 := ⟨_, rfl⟩
  rw [show xs ++ (T.diff l X1 ++ [⟨0, k, true, v, false, ⟨#[]⟩⟩] ++ T.diff r X2) = Z by rw [hZ, hY, hX]; simp only [List.append_assoc]]
  have HZ := As.mk hZ
  clear hZ
  have hXl : X.length ≤ xs.length + l.size + X1.size := by rw [hX, List.length_append]; omega
  have hYl : Y.length + r.size + X2.size < 1000000000 := by rw [hY, List.length_append]; simp only [List.length_singleton, List.length_nil]; omega
  have HX := As.mk hX
  have HY := As.mk hY
  clear hX hY hd1
  obtain ⟨Ao, co, rfl⟩ := Kd.R_slice hR
  have HR := As.mk hR
  clear hR
  go_enter Try.func81, Try.ntmps81
  go_wp2_with (first
    | (go_at_call 84; refine (split_calls k B q w HQ.out (by omega)).mono ?_; rintro e w1 ⟨p1, p2, p3, rfl, ht1, ht2, ht3, hB1⟩; rw [HXX.out] at ht1 ht2 ht3; have hb1 := blk_step hb hB1; obtain ⟨f0, f1, f2, f3, -, -⟩ := cells6 hb1; obtain rfl : p3 = none := ht3)
    | (go_at_call_of 81 (Value.pointer lp); refine (IHL.out X1 lp p1 w1 _ xs base (hl.below hB1) ht1 (Kd.R_below HR.out hB1) (Nat.le_trans hB hB1.size) (by omega)).mono ?_; rintro e w2 ⟨v2, rfl, hR2, hG2'⟩; rw [← HX.out] at hR2; have hR1 := Kd.R_below HR.out hB1; have hG2 : Grew w w2 _ _ := (Grew.of_below hB1 _).trans hG2'; have hr2 := (hr.below hB1).grew hG2' hR1 (by decide); have ht22 := ht2.grew hG2' hR1 (by decide); have hS2 : base ≤ w2.heap.size := Nat.le_trans hB hG2.grown.size; have hb2 := (hG2'.grown.block b (blk_lt hb1) (fun e' => blk_no hb1 hR1 (by decide) e')).trans hb1; clear hR1; obtain ⟨A2, c2, rfl⟩ := Kd.R_slice hR2; have HR2 := As.mk hR2; clear hR2))
  have HS : As (∀ w' : World, w'.heap[b]? = w2.heap[b]? → w'.cell? ⟨b, 0, none⟩ = some (.string k) ∧ w'.cell? ⟨b, 1, none⟩ = some (.string v)) := ⟨fun w' h => ⟨(heap_cell (h.trans hb2) 0).trans rfl, (heap_cell (h.trans hb2) 1).trans rfl⟩⟩
  obtain ⟨j0, j1, j2, j3, -, -⟩ := cells6 hb2
  go_wp2_with fail
  go_region_held3 (fun w' => w'.cell? ⟨b, 0, none⟩ = some (.string k) ∧ w'.cell? ⟨b, 1, none⟩ = some (.string v))
    (first | exact HS.out _ rfl | exact HS.out _ (Below.heap_alloc w2.drew _ _ (blk_lt hb2)) | exact HS.out _ hk3)
    (first
      | (refine Kd.R_append_step k51 (w0 := w2.drew) base (by rfl) (.tmp 69) (.tmp 81) 47 51 (.agg #[.int .i64 0, .string ⟨#[]⟩, .bool false, .string ⟨#[]⟩, .bool false, .string ⟨#[]⟩]) 72 rfl Try.underlying47 info51 rfl (by decide) (by omega) _ X (⟨0, k, true, v, false, ⟨#[]⟩⟩ : S51) [.int .i64 0, .string k, .bool true, .string v, .bool false, .string ⟨#[]⟩] (fun _ => True) (fun _ => False) rfl (by first | (go_simp; done) | (go_simp; rfl)) (k51_mkM _ _ _ _) (fun _ hk => hk.elim) (fun _ _ => trivial) ?aO (Below.refl _ _) ?aS ?aL ?_; (case aO => exact Kd.R_drew HR2.out); (case aS => exact hS2); (case aL => omega); intro v3 w3 ho3 _ hg3 hat3; rw [← HY.out] at ho3; have hG3 : Grew w w3 _ _ := (hG2.trans (Grew.of_below (Below.refl _ _).drew _)).trans ⟨hg3, hat3⟩; have hk3 := hg3.block b (blk_lt hb2) (fun e' => blk_no hb2 HR2.out (by decide) e'); have hr3 := (hr2.drewN 1).grew ⟨hg3, hat3⟩ (Kd.R_drew HR2.out) (by decide); have ht23 := (ht22.drewN 1).grew ⟨hg3, hat3⟩ (Kd.R_drew HR2.out) (by decide); have hS3 : base ≤ w3.heap.size := Nat.le_trans hB hG3.grown.size; obtain ⟨A3, c3, rfl⟩ := Kd.R_slice ho3; have HR3 := As.mk ho3; clear ho3 hg3 hat3))
  have hb3 := hk3.trans hb2
  obtain ⟨m0, m1, m2, m3, -, -⟩ := cells6 hb3
  go_wp2_with (first
    | (go_at_call_of 81 (Value.pointer rp); refine (IHR.out X2 rp p2 w3 _ Y base hr3 ht23 HR3.out hS3 hYl).mono ?_; rintro e w4 ⟨v4, rfl, hR4, hG4⟩; rw [← HZ.out] at hR4; have hGE := hG3.trans hG4; obtain ⟨A4, c4, rfl⟩ := Kd.R_slice hR4; have HR4 := As.mk hR4; clear hR4))
  go_ret
  exact ⟨_, rfl, HR4.out, hGE⟩

set_option maxHeartbeats 4000000 in
set_option maxRecDepth 100000 in
theorem diff_same_at (l r B X1 X2 : T) (xl xr : T) (xk xv : ByteArray) (k v : ByteArray)
    (ihl : ∀ (bt : T) (p q : Option Addr) (w : World) (vo : Value) (xs : List S51) (base : Nat), IsT w p l → IsT w q bt → Kd.R k51 51 w base (fun _ => True) vo xs → base ≤ w.heap.size → xs.length + l.size + bt.size < 1000000000 →
      Calls Try.prog 81 #[.pointer p, .pointer q, vo] w fun e w' => ∃ v', e = .returned v' ∧ Kd.R k51 51 w' base (fun _ => True) v' (xs ++ T.diff l bt) ∧ Grew w w' vo v')
    (ihr : ∀ (bt : T) (p q : Option Addr) (w : World) (vo : Value) (xs : List S51) (base : Nat), IsT w p r → IsT w q bt → Kd.R k51 51 w base (fun _ => True) vo xs → base ≤ w.heap.size → xs.length + r.size + bt.size < 1000000000 →
      Calls Try.prog 81 #[.pointer p, .pointer q, vo] w fun e w' => ∃ v', e = .returned v' ∧ Kd.R k51 51 w' base (fun _ => True) v' (xs ++ T.diff r bt) ∧ Grew w w' vo v')
    (hX : T.split k B = (X1, X2, (.node xl xk xv xr))) (hv : (xv.toList == v.toList) = true)
    (b : Nat) (lp rp q : Option Addr) (w : World) (vo : Value) (xs : List S51) (base : Nat)
    (hb : w.heap[b]? = some (.cells #[.string k, .string v, .pointer lp, .pointer rp, .int .i64 (T.node l k v r).depth, .int .i64 (T.node l k v r).size] 111 (0, 0))) (hl : IsT w lp l) (hr : IsT w rp r)
    (hq : IsT w q B) (hne : (binOp .eql 81 (.pointer (some ⟨b, 0, none⟩)) (.pointer q)).run Try.prog w = .ok (.bool false) w)
    (hR : Kd.R k51 51 w base (fun _ => True) vo xs) (hB : base ≤ w.heap.size) (hs : xs.length + (1 + l.size + r.size) + B.size < 1000000000) :
    Calls Try.prog 81 #[.pointer (some ⟨b, 0, none⟩), .pointer q, vo] w fun e w' => ∃ v', e = .returned v' ∧ Kd.R k51 51 w' base (fun _ => True) v' (xs ++ (T.diff l X1 ++ [] ++ T.diff r X2)) ∧ Grew w w' vo v' := by
  have hss := T.split_size3 k B
  rw [hX] at hss
  dsimp only at hss
  simp only [T.one] at hss
  have hd1 := T.diff_length l X1
  have IHL := As.mk ihl
  have IHR := As.mk ihr
  have HXX := As.mk hX
  have HQ := As.mk hq
  clear ihl ihr hX hq
  obtain ⟨e0, e1, e2, e3, -, -⟩ := cells6 hb
  obtain ⟨X, hX⟩ : ∃ X : List S51, X = xs ++ T.diff l X1 := ⟨_, rfl⟩
  obtain ⟨Y, hY⟩ : ∃ Y : List S51, Y = X ++ [] := ⟨_, rfl⟩
  obtain ⟨Z, hZ⟩ : ∃ Z : List S51, Z = Y ++ T.diff r X2 := ⟨_, rfl⟩
  rw [show xs ++ (T.diff l X1 ++ [] ++ T.diff r X2) = Z by rw [hZ, hY, hX]; simp only [List.append_assoc]]
  have HZ := As.mk hZ
  clear hZ
  have hXl : X.length ≤ xs.length + l.size + X1.size := by rw [hX, List.length_append]; omega
  have hYl : Y.length + r.size + X2.size < 1000000000 := by rw [hY, List.length_append]; simp only [List.length_singleton, List.length_nil]; omega
  have HX := As.mk hX
  have HY := As.mk hY
  clear hX hY hd1
  obtain ⟨Ao, co, rfl⟩ := Kd.R_slice hR
  have HR := As.mk hR
  clear hR
  go_enter Try.func81, Try.ntmps81
  go_wp2_with (first
    | (go_at_call 84; refine (split_calls k B q w HQ.out (by omega)).mono ?_; rintro e w1 ⟨p1, p2, p3, rfl, ht1, ht2, ht3, hB1⟩; rw [HXX.out] at ht1 ht2 ht3; have hb1 := blk_step hb hB1; obtain ⟨f0, f1, f2, f3, -, -⟩ := cells6 hb1; obtain ⟨b3, lp3, rp3, rfl, -, -, -⟩ := id ht3)
    | (go_at_call_of 81 (Value.pointer lp); refine (IHL.out X1 lp p1 w1 _ xs base (hl.below hB1) ht1 (Kd.R_below HR.out hB1) (Nat.le_trans hB hB1.size) (by omega)).mono ?_; rintro e w2 ⟨v2, rfl, hR2, hG2'⟩; rw [← HX.out] at hR2; have hR1 := Kd.R_below HR.out hB1; have hG2 : Grew w w2 _ _ := (Grew.of_below hB1 _).trans hG2'; have hr2 := (hr.below hB1).grew hG2' hR1 (by decide); have ht22 := ht2.grew hG2' hR1 (by decide); have ht32 := ht3.grew hG2' hR1 (by decide); have hS2 : base ≤ w2.heap.size := Nat.le_trans hB hG2.grown.size; have hb2 := (hG2'.grown.block b (blk_lt hb1) (fun e' => blk_no hb1 hR1 (by decide) e')).trans hb1; clear hR1; obtain ⟨A2, c2, rfl⟩ := Kd.R_slice hR2; have HR2 := As.mk hR2; clear hR2; obtain ⟨b3x, lp3x, rp3x, hpe, hb3c, -, -⟩ := ht32; cases hpe))
  obtain ⟨j0, j1, j2, j3, -, -⟩ := cells6 hb2
  obtain ⟨l0, l1, l2, l3, -, -⟩ := cells6 hb3c
  have hv' : (xv.toList != v.toList) = false := by rw [bne, hv]; rfl
  go_wp2_with fail
  go_quiet (fail)
  have HY' := HY.out
  rw [List.append_nil] at HY'
  subst HY'
  go_wp2_with (first
    | (go_at_call_of 81 (Value.pointer rp); refine (IHR.out X2 rp p2 _ _ Y base (hr2.drewN nq) (ht22.drewN nq) (Kd.R_drewN HR2.out nq) hS2 hYl).mono ?_; rintro e w4 ⟨v4, rfl, hR4, hG4⟩; rw [← HZ.out] at hR4; have hGE := (hG2.trans (Grew.of_below (pw_below_drewN (Below.refl _ _) nq) _)).trans hG4; obtain ⟨A4, c4, rfl⟩ := Kd.R_slice hR4; have HR4 := As.mk hR4; clear hR4))
  go_ret
  exact ⟨_, rfl, HR4.out, hGE⟩

set_option maxHeartbeats 4000000 in
set_option maxRecDepth 100000 in
theorem diff_other_at (l r B X1 X2 : T) (xl xr : T) (xk xv : ByteArray) (k v : ByteArray)
    (ihl : ∀ (bt : T) (p q : Option Addr) (w : World) (vo : Value) (xs : List S51) (base : Nat), IsT w p l → IsT w q bt → Kd.R k51 51 w base (fun _ => True) vo xs → base ≤ w.heap.size → xs.length + l.size + bt.size < 1000000000 →
      Calls Try.prog 81 #[.pointer p, .pointer q, vo] w fun e w' => ∃ v', e = .returned v' ∧ Kd.R k51 51 w' base (fun _ => True) v' (xs ++ T.diff l bt) ∧ Grew w w' vo v')
    (ihr : ∀ (bt : T) (p q : Option Addr) (w : World) (vo : Value) (xs : List S51) (base : Nat), IsT w p r → IsT w q bt → Kd.R k51 51 w base (fun _ => True) vo xs → base ≤ w.heap.size → xs.length + r.size + bt.size < 1000000000 →
      Calls Try.prog 81 #[.pointer p, .pointer q, vo] w fun e w' => ∃ v', e = .returned v' ∧ Kd.R k51 51 w' base (fun _ => True) v' (xs ++ T.diff r bt) ∧ Grew w w' vo v')
    (hX : T.split k B = (X1, X2, (.node xl xk xv xr))) (hv : (xv.toList == v.toList) = false)
    (b : Nat) (lp rp q : Option Addr) (w : World) (vo : Value) (xs : List S51) (base : Nat)
    (hb : w.heap[b]? = some (.cells #[.string k, .string v, .pointer lp, .pointer rp, .int .i64 (T.node l k v r).depth, .int .i64 (T.node l k v r).size] 111 (0, 0))) (hl : IsT w lp l) (hr : IsT w rp r)
    (hq : IsT w q B) (hne : (binOp .eql 81 (.pointer (some ⟨b, 0, none⟩)) (.pointer q)).run Try.prog w = .ok (.bool false) w)
    (hR : Kd.R k51 51 w base (fun _ => True) vo xs) (hB : base ≤ w.heap.size) (hs : xs.length + (1 + l.size + r.size) + B.size < 1000000000) :
    Calls Try.prog 81 #[.pointer (some ⟨b, 0, none⟩), .pointer q, vo] w fun e w' => ∃ v', e = .returned v' ∧ Kd.R k51 51 w' base (fun _ => True) v' (xs ++ (T.diff l X1 ++ [⟨0, k, true, v, true, xv⟩] ++ T.diff r X2)) ∧ Grew w w' vo v' := by
  have hss := T.split_size3 k B
  rw [hX] at hss
  dsimp only at hss
  simp only [T.one] at hss
  have hd1 := T.diff_length l X1
  have IHL := As.mk ihl
  have IHR := As.mk ihr
  have HXX := As.mk hX
  have HQ := As.mk hq
  clear ihl ihr hX hq
  obtain ⟨e0, e1, e2, e3, -, -⟩ := cells6 hb
  obtain ⟨X, hX⟩ : ∃ X : List S51, X = xs ++ T.diff l X1 := ⟨_, rfl⟩
  obtain ⟨Y, hY⟩ : ∃ Y : List S51, Y = X ++ [⟨0, k, true, v, true, xv⟩] := ⟨_, rfl⟩
  obtain ⟨Z, hZ⟩ : ∃ Z : List S51, Z = Y ++ T.diff r X2 := ⟨_, rfl⟩
  rw [show xs ++ (T.diff l X1 ++ [⟨0, k, true, v, true, xv⟩] ++ T.diff r X2) = Z by rw [hZ, hY, hX]; simp only [List.append_assoc]]
  have HZ := As.mk hZ
  clear hZ
  have hXl : X.length ≤ xs.length + l.size + X1.size := by rw [hX, List.length_append]; omega
  have hYl : Y.length + r.size + X2.size < 1000000000 := by rw [hY, List.length_append]; simp only [List.length_singleton, List.length_nil]; omega
  have HX := As.mk hX
  have HY := As.mk hY
  clear hX hY hd1
  obtain ⟨Ao, co, rfl⟩ := Kd.R_slice hR
  have HR := As.mk hR
  clear hR
  go_enter Try.func81, Try.ntmps81
  go_wp2_with (first
    | (go_at_call 84; refine (split_calls k B q w HQ.out (by omega)).mono ?_; rintro e w1 ⟨p1, p2, p3, rfl, ht1, ht2, ht3, hB1⟩; rw [HXX.out] at ht1 ht2 ht3; have hb1 := blk_step hb hB1; obtain ⟨f0, f1, f2, f3, -, -⟩ := cells6 hb1; obtain ⟨b3, lp3, rp3, rfl, -, -, -⟩ := id ht3)
    | (go_at_call_of 81 (Value.pointer lp); refine (IHL.out X1 lp p1 w1 _ xs base (hl.below hB1) ht1 (Kd.R_below HR.out hB1) (Nat.le_trans hB hB1.size) (by omega)).mono ?_; rintro e w2 ⟨v2, rfl, hR2, hG2'⟩; rw [← HX.out] at hR2; have hR1 := Kd.R_below HR.out hB1; have hG2 : Grew w w2 _ _ := (Grew.of_below hB1 _).trans hG2'; have hr2 := (hr.below hB1).grew hG2' hR1 (by decide); have ht22 := ht2.grew hG2' hR1 (by decide); have ht32 := ht3.grew hG2' hR1 (by decide); have hS2 : base ≤ w2.heap.size := Nat.le_trans hB hG2.grown.size; have hb2 := (hG2'.grown.block b (blk_lt hb1) (fun e' => blk_no hb1 hR1 (by decide) e')).trans hb1; clear hR1; obtain ⟨A2, c2, rfl⟩ := Kd.R_slice hR2; have HR2 := As.mk hR2; clear hR2; obtain ⟨b3x, lp3x, rp3x, hpe, hb3c, -, -⟩ := ht32; cases hpe))
  obtain ⟨j0, j1, j2, j3, -, -⟩ := cells6 hb2
  obtain ⟨l0, l1, l2, l3, -, -⟩ := cells6 hb3c
  have hv' : (xv.toList != v.toList) = true := by rw [bne, hv]; rfl
  go_wp2_with fail
  go_quiet (fail)
  go_wp2_with fail
  have HS : As (∀ w' : World, w'.heap[b]? = w2.heap[b]? → w'.heap[b3]? = w2.heap[b3]? → w'.cell? ⟨b, 0, none⟩ = some (.string k) ∧ w'.cell? ⟨b, 1, none⟩ = some (.string v) ∧ w'.cell? ⟨b3, 1, none⟩ = some (.string xv)) := ⟨fun w' h h' => ⟨(heap_cell (h.trans hb2) 0).trans rfl, (heap_cell (h.trans hb2) 1).trans rfl, (heap_cell (h'.trans hb3c) 1).trans rfl⟩⟩
  go_region_held3 (fun w' => w'.cell? ⟨b, 0, none⟩ = some (.string k) ∧ w'.cell? ⟨b, 1, none⟩ = some (.string v) ∧ w'.cell? ⟨b3, 1, none⟩ = some (.string xv))
    (first | exact HS.out _ rfl rfl | exact HS.out _ (Below.heap_alloc (w2.drewN _) _ _ (blk_lt hb2)) (Below.heap_alloc (w2.drewN _) _ _ (blk_lt hb3c)) | exact HS.out _ hk3 hk4)
    (first
      | (refine Kd.R_append_step k51 (w0 := (w2.drewN nq).drew) base (by rfl) (.tmp 95) (.tmp 112) 47 51 (.agg #[.int .i64 0, .string ⟨#[]⟩, .bool false, .string ⟨#[]⟩, .bool false, .string ⟨#[]⟩]) 72 rfl Try.underlying47 info51 rfl (by decide) (by omega) _ X (⟨0, k, true, v, true, xv⟩ : S51) [.int .i64 0, .string k, .bool true, .string v, .bool true, .string xv] (fun _ => True) (fun _ => False) rfl (by first | (go_simp; done) | (go_simp; rfl)) (k51_mkM _ _ _ _) (fun _ hk => hk.elim) (fun _ _ => trivial) ?aO (Below.refl _ _) ?aS ?aL ?_; (case aO => exact Kd.R_drew (Kd.R_drewN HR2.out nq)); (case aS => exact hS2); (case aL => omega); intro v3 w3 ho3 _ hg3 hat3; rw [← HY.out] at ho3; have hG3 : Grew w w3 _ _ := (hG2.trans (Grew.of_below (pw_below_drewN (Below.refl _ _) nq).drew _)).trans ⟨hg3, hat3⟩; have hk3 := hg3.block b (blk_lt hb2) (fun e' => blk_no hb2 HR2.out (by decide) e'); have hk4 := hg3.block b3 (blk_lt hb3c) (fun e' => blk_no hb3c HR2.out (by decide) e'); have hr3 := ((hr2.drewN nq).drewN 1).grew ⟨hg3, hat3⟩ (Kd.R_drew (Kd.R_drewN HR2.out nq)) (by decide); have ht23 := ((ht22.drewN nq).drewN 1).grew ⟨hg3, hat3⟩ (Kd.R_drew (Kd.R_drewN HR2.out nq)) (by decide); have hS3 : base ≤ w3.heap.size := Nat.le_trans hB hG3.grown.size; obtain ⟨A3, c3, rfl⟩ := Kd.R_slice ho3; have HR3 := As.mk ho3; clear ho3 hg3 hat3))
  have hb3 := hk3.trans hb2
  obtain ⟨m0, m1, m2, m3, -, -⟩ := cells6 hb3
  go_wp2_with (first
    | (go_at_call_of 81 (Value.pointer rp); refine (IHR.out X2 rp p2 w3 _ Y base hr3 ht23 HR3.out hS3 hYl).mono ?_; rintro e w4 ⟨v4, rfl, hR4, hG4⟩; rw [← HZ.out] at hR4; have hGE := hG3.trans hG4; obtain ⟨A4, c4, rfl⟩ := Kd.R_slice hR4; have HR4 := As.mk hR4; clear hR4))
  go_ret
  exact ⟨_, rfl, HR4.out, hGE⟩

set_option maxHeartbeats 4000000 in
set_option maxRecDepth 100000 in
theorem diff_calls (at_ : T) : ∀ (bt : T) (p q : Option Addr) (w : World) (vo : Value) (xs : List S51) (base : Nat), IsT w p at_ → IsT w q bt → Kd.R k51 51 w base (fun _ => True) vo xs → base ≤ w.heap.size → xs.length + at_.size + bt.size < 1000000000 →
    Calls Try.prog 81 #[.pointer p, .pointer q, vo] w fun e w' => ∃ v', e = .returned v' ∧ Kd.R k51 51 w' base (fun _ => True) v' (xs ++ T.diff at_ bt) ∧ Grew w w' vo v' := by
  induction at_ with
  | nil =>
    intro bt p q w vo xs base hp hq hR hB hs
    obtain rfl : p = none := hp
    exact diffNil_calls bt q w vo xs base hq hR hB (by simp only [T.size] at hs; omega)
  | node l k v r ihl ihr =>
    intro bt p q w vo xs base hp hq hR hB hs
    have HP := As.mk hp
    obtain ⟨b, lp, rp, rfl, hb, hl, hr⟩ := hp
    by_cases hpq : q = some ⟨b, 0, none⟩
    · subst hpq
      obtain rfl := IsT.fun HP.out hq
      rw [T.diff_self, List.append_nil]
      obtain ⟨Ao, co, rfl⟩ := Kd.R_slice hR
      have hsame := eql_same w ⟨b, 0, none⟩
      have HR := As.mk hR
      clear hR
      go_enter Try.func81, Try.ntmps81
      go_wp2
      go_ret
      exact ⟨_, rfl, HR.out, Grew.refl _ _⟩
    · have hne : (binOp .eql 81 (.pointer (some ⟨b, 0, none⟩)) (.pointer q)).run Try.prog w = .ok (.bool false) w := by
        cases bt with
        | nil => obtain rfl : q = none := hq; exact run_eql_pointer_nil w 81 _ (by kernel_rfl)
        | node bl bk bv br =>
          obtain ⟨bb, blp, brp, rfl, hbb, -, -⟩ := hq
          exact eql_other (fun h => hpq (by rw [h])) hb hbb
      simp only [T.size] at hs
      rw [T.diff]
      cases hX : T.split k bt with
      | mk X1 X23 =>
        obtain ⟨X2, X3⟩ := X23
        dsimp only
        cases X3 with
        | nil => exact diff_nil_at l r bt X1 X2 k v ihl ihr hX b lp rp q w vo xs base hb hl hr hq hne hR hB hs
        | node xl xk xv xr =>
          by_cases hv : xv = v
          · rw [show T.diffAt k v (.node xl xk xv xr) = [] from if_pos hv]
            exact diff_same_at l r bt X1 X2 xl xr xk xv k v ihl ihr hX (by rw [hv]; exact beq_self_eq_true _) b lp rp q w vo xs base hb hl hr hq hne hR hB hs
          · rw [show T.diffAt k v (.node xl xk xv xr) = [⟨0, k, true, v, true, xv⟩] from if_neg hv]
            exact diff_other_at l r bt X1 X2 xl xr xk xv k v ihl ihr hX (key_ne hv) b lp rp q w vo xs base hb hl hr hq hne hR hB hs

set_option maxHeartbeats 4000000 in
set_option maxRecDepth 100000 in
theorem Diff_calls (p q : Option Addr) (a b : T) (w : World) (hp : IsTr w p a) (hq : IsTr w q b) (hs : a.size + b.size < 1000000000) :
    Calls Try.prog 33 #[.pointer p, .pointer q] w fun e w' => ∃ v', e = .returned v' ∧ Kd.R k51 51 w' w.heap.size (fun _ => True) v' (T.diff a b) ∧ Below w.heap.size w w' := by
  go_enter Try.func33, Try.ntmps33
  go_wp2_with fail
  refine (top_calls p a w hp).mono ?_
  rintro e w2 ⟨pa, rfl, ha, rfl⟩
  go_wp2_with fail
  refine (top_calls q b w hq).mono ?_
  rintro e w2 ⟨pb, rfl, hb, rfl⟩
  go_wp2_with (go_at_call 81; refine (diff_calls a b pa pb w _ [] w.heap.size ha hb (Kd.R_nil _ _ _ _ _) (Nat.le_refl _) (by simpa using hs)).mono ?_; rintro e w3 ⟨v3, rfl, hR3, hG3⟩; rw [List.nil_append] at hR3; have hB3 := hG3.below (Kd.R_nil k51 51 w w.heap.size (fun _ => True)) (Nat.le_refl _))
  go_ret
  exact ⟨_, rfl, hR3, hB3⟩

end Go.Proofs.Ytehnkoglhbbfjaa
