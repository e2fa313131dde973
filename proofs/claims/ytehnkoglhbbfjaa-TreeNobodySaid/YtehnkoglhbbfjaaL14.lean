/-
  The law TreeNobody: its walk.
-/
import Derived.Test.YtehnkoglhbbfjaaR3
import Derived.Test.YtehnkoglhbbfjaaT13
set_option linter.unusedVariables false
set_option linter.unusedSimpArgs false
namespace Go.Proofs.Ytehnkoglhbbfjaa
open Go.RowKit Go.Proofs.YtehnkoglhbbfjaaW.PrintWords Go.Proofs.YtehnkoglhbbfjaaW.PrintLast Go.Proofs.YtehnkoglhbbfjaaW.PrintMore PAll

theorem SlD.of_R {w : World} {v : Value} {l : List S27} {base : Nat} {ok : Nat → Prop} (h : Kd.R k27 27 w base ok v l) : SlD w v l := by
  obtain ⟨A, c, h1, h2, h3⟩ := Kd.R_reads h
  exact ⟨A, c, h1, h2, h3⟩
theorem sld_new (W : World) (s : S27) : SlD (W.alloc (.cells #[.int .i64 s.f0, .string s.f1, .string s.f2] 27)) (.slice (some ⟨W.heap.size, 0, none⟩) 1 1) [s] :=
  SlD.of_R (R_lit_new k27 W 27 [s] [.int .i64 s.f0, .string s.f1, .string s.f2] (Reps.c3 (k27_mkM _ _ _ _) (Reps.none _ _)) (by simp))

theorem T.tat_nil (i : Int) : T.tat .nil i = ((⟨#[]⟩, ⟨#[]⟩), false) := by
  unfold T.tat
  rw [if_pos]
  by_cases c : i < 0
  · exact .inl c
  · exact .inr (by show ((0 : Nat) : Int) ≤ i; omega)
theorem At_nil (p : Option Addr) (i : Int) (w : World) (h : IsTr w p .nil) : Calls Try.prog 38 #[.pointer p, .int .i64 i] w fun e w' => e = .returned (.tuple #[.agg #[.string ⟨#[]⟩, .string ⟨#[]⟩], .bool false]) ∧ Below w.heap.size w w' := by
  have := At_calls p .nil i w h (by decide)
  rw [T.tat_nil] at this
  exact this
theorem Get_nil (p : Option Addr) (k : ByteArray) (w : World) (h : IsTr w p .nil) : Calls Try.prog 47 #[.pointer p, .string k] w fun e w' => e = .returned (.tuple #[.string ⟨#[]⟩, .bool false]) ∧ Below w.heap.size w w' :=
  (Get_calls p .nil k w h).mono fun _ _ ⟨h1, h2⟩ => ⟨h1, by rw [← h2]; exact Below.refl _ _⟩
theorem Split_nil (p : Option Addr) (k : ByteArray) (w : World) (h : IsTr w p .nil) : Calls Try.prog 50 #[.pointer p, .string k] w fun e w' => ∃ p1 p2, e = .returned (.tuple #[.pointer p1, .pointer p2, .string ⟨#[]⟩, .bool false]) ∧ IsTr w' p1 .nil ∧ IsTr w' p2 .nil ∧ Below w.heap.size w w' :=
  Split_calls p .nil k w h (by decide)
theorem Join_none (p : Option Addr) (w : World) (h : IsTr w p .nil) : Calls Try.prog 51 #[.pointer p, .pointer p] w fun e w' => ∃ p', e = .returned (.tuple #[.pointer p', .bool true]) ∧ IsTr w' p' .nil ∧ Below w.heap.size w w' :=
  Join_nil p p .nil .nil (.inl rfl) w h h (by decide)
theorem Len_nil (p : Option Addr) (w : World) (h : IsTr w p .nil) : Calls Try.prog 26 #[.pointer p] w fun e w' => e = .returned (.int .i64 0) ∧ Below w.heap.size w w' :=
  (Len_calls p .nil w h).mono fun _ _ ⟨h1, h2⟩ => ⟨h1, by rw [← h2]; exact Below.refl _ _⟩
theorem Depth_nil (p : Option Addr) (w : World) (h : IsTr w p .nil) : Calls Try.prog 60 #[.pointer p] w fun e w' => e = .returned (.int .i64 0) ∧ Below w.heap.size w w' :=
  (Depth_calls p .nil w h).mono fun _ _ ⟨h1, h2⟩ => ⟨h1, by rw [← h2]; exact Below.refl _ _⟩
theorem Rank_nil (p : Option Addr) (k : ByteArray) (w : World) (h : IsTr w p .nil) : Calls Try.prog 44 #[.pointer p, .string k] w fun e w' => e = .returned (.int .i64 0) ∧ Below w.heap.size w w' :=
  (Rank_calls p .nil k w h (by decide)).mono fun _ _ ⟨n, h1, h2⟩ => ⟨h1, by rw [h2]; exact pw_below_drewN (Below.refl _ _) n⟩
theorem All_nil (p : Option Addr) (w : World) (h : IsTr w p .nil) : Calls Try.prog 25 #[.pointer p] w fun e w' => ∃ A c, e = .returned (.slice A 0 c) ∧ Below w.heap.size w w' :=
  (All_calls p .nil w h (by decide)).mono fun _ _ ⟨v, h1, h2, h3⟩ => by
    obtain ⟨A, c, rfl⟩ := Kd.R_slice h2
    exact ⟨A, c, h1, h3⟩
theorem Diff_nil (p : Option Addr) (w : World) (h : IsTr w p .nil) : Calls Try.prog 33 #[.pointer p, .pointer p] w fun e w' => ∃ A c, e = .returned (.slice A 0 c) ∧ Below w.heap.size w w' :=
  (Diff_calls p p .nil .nil w h h (by decide)).mono fun _ _ ⟨v, h1, h2, h3⟩ => by
    obtain ⟨A, c, rfl⟩ := Kd.R_slice h2
    exact ⟨A, c, h1, h3⟩
theorem Drop_nil (p : Option Addr) (k : ByteArray) (w : World) (h : IsTr w p .nil) : Calls Try.prog 37 #[.pointer p, .string k] w fun e w' => ∃ p', e = .returned (.pointer p') ∧ IsTr w' p' .nil ∧ Below w.heap.size w w' :=
  Drop_calls p .nil k w h (by decide)
theorem Put_nil (p : Option Addr) (k v : ByteArray) (w : World) (h : IsTr w p .nil) : Calls Try.prog 36 #[.pointer p, .string k, .string v] w fun e w' => ∃ p', e = .returned (.pointer p') ∧ IsTr w' p' (.node .nil k v .nil) ∧ Below w.heap.size w w' :=
  Put_calls p .nil k v w h (by simp [T.size])
theorem All_one (p : Option Addr) (k v : ByteArray) (w : World) (h : IsTr w p (.node .nil k v .nil)) : Calls Try.prog 25 #[.pointer p] w fun e w' => ∃ u, e = .returned u ∧ Sl w' u [⟨k, v⟩] ∧ Below w.heap.size w w' := by
  have := All_calls p _ w h (by simp [T.size])
  rw [T.all_toL (.node .nil k v .nil) (show Srt ([] ++ [⟨k, v⟩]) from srt_mid.2 ⟨srt_nil, srt_nil, fun x hx => by (cases hx), fun x hx => by (cases hx)⟩)] at this
  exact this.mono fun _ _ ⟨u, h1, h2, h3⟩ => ⟨u, h1, Sl.of_R h2, h3⟩
theorem sl_new (W : World) (k v : ByteArray) : Sl (W.alloc (.cells #[.string k, .string v] 29)) (.slice (some ⟨W.heap.size, 0, none⟩) 1 1) [⟨k, v⟩] :=
  Sl.of_R (R_lit_new k29 W 29 [⟨k, v⟩] [.string k, .string v] (Reps.c2 (k29_mkM _ _ _ _) (Reps.none _ _)) (by simp))
theorem Of_one (v : Value) (a b : ByteArray) (w : World) (h : Sl w v [⟨a, b⟩]) :
    Calls Try.prog 22 #[v] w fun e w' => ∃ p', e = .returned (.pointer p') ∧ IsTr w' p' (.node .nil a b .nil) ∧ Below w.heap.size w w' := by
  obtain ⟨A, c, rfl, h1, h2⟩ := h
  exact Of_calls _ A c w h2 h1 (by simp)
theorem Union_one (p q : Option Addr) (a b : ByteArray) (w : World) (hp : IsTr w p .nil) (hq : IsTr w q (.node .nil a b .nil)) :
    Calls Try.prog 58 #[.pointer p, .pointer q] w fun e w' => ∃ p', e = .returned (.pointer p') ∧ IsTr w' p' (.node .nil a b .nil) ∧ Below w.heap.size w w' :=
  (Union_calls p q _ _ w hp hq (by simp [T.size])).mono fun _ _ ⟨p', u, h1, h2, h3, h4⟩ => by
    rcases h3 with ⟨-, rfl⟩ | ⟨h, -⟩ | ⟨h, -⟩
    · exact ⟨p', h1, h2, h4⟩
    · cases h
    · exact absurd rfl h
theorem Len_one (p : Option Addr) (a b : ByteArray) (w : World) (h : IsTr w p (.node .nil a b .nil)) : Calls Try.prog 26 #[.pointer p] w fun e w' => e = .returned (.int .i64 1) ∧ Below w.heap.size w w' :=
  (Len_calls p _ w h).mono fun _ _ ⟨h1, h2⟩ => ⟨h1, by rw [← h2]; exact Below.refl _ _⟩

structure NobK (g : Nat) (s : S27) (p p1 p2 p3 : Option Addr) (w : World) : Prop where
  t : IsTr w p .nil
  t1 : IsTr w p1 .nil
  t2 : IsTr w p2 .nil
  t3 : IsTr w p3 .nil
  x : w.heap[g]? = some (.cells #[.int .i64 s.f0, .string s.f1, .string s.f2] 27 (0, 0))
theorem NobK.below {g : Nat} {s : S27} {p p1 p2 p3 : Option Addr} {w w' : World} (h : NobK g s p p1 p2 p3 w) (hb : Below w.heap.size w w') : NobK g s p p1 p2 p3 w' :=
  ⟨h.t.below hb, h.t1.below hb, h.t2.below hb, h.t3.below hb, blk_step h.x hb⟩
theorem NobK.cells {g : Nat} {s : S27} {p p1 p2 p3 : Option Addr} {w : World} (h : NobK g s p p1 p2 p3 w) : w.cell? ⟨g, 1, none⟩ = some (.string s.f1) ∧ w.cell? ⟨g, 2, none⟩ = some (.string s.f2) :=
  ⟨(heap_cell h.x 1).trans rfl, (heap_cell h.x 2).trans rfl⟩

set_option maxHeartbeats 4000000 in
set_option maxRecDepth 100000 in
theorem treeNobody_calls (s : S27) (i : Int) (w : World) :
    Calls Try.prog 14 #[.agg #[.int .i64 s.f0, .string s.f1, .string s.f2], .int .i64 i] w fun e w' => e = .returned (.bool true) ∧ Below w.heap.size w w' := by
  obtain ⟨sa, sb, sc⟩ := s
  dsimp only
  have hsl := sld_new (w.alloc (Obj.cells #[.int .i64 sa, .string sb, .string sc] 27)) ⟨sa, sb, sc⟩
  have hs1 := Short1 [⟨sa, sb, sc⟩] _ 1 _ hsl
  have hbx := heap_alloc_new w (Obj.cells #[.int .i64 sa, .string sb, .string sc] 27)
  have hB0 : Below w.heap.size w (w.alloc (Obj.cells #[.int .i64 sa, .string sb, .string sc] 27)) := (Below.refl _ w).alloc (Nat.le_refl _) _
  have hB1 := hB0.alloc hB0.size (Obj.cells #[.int .i64 sa, .string sb, .string sc] 27)
  have hB2 := hB1.alloc hB1.size (Obj.cells #[.slice (some ⟨w.heap.size + 1, 0, none⟩) 1 1] 22)
  have hbx2 := blk_step hbx ((Below.refl _ _).alloc (Nat.le_refl _) (Obj.cells #[.int .i64 sa, .string sb, .string sc] 27))
  have hbx3 := blk_step hbx2 ((Below.refl _ _).alloc (Nat.le_refl _) (Obj.cells #[.slice (some ⟨w.heap.size + 1, 0, none⟩) 1 1] 22))
  have e1 := alloc_size w (Obj.cells #[.int .i64 sa, .string sb, .string sc] 27)
  have e2 := alloc_size (w.alloc (Obj.cells #[.int .i64 sa, .string sb, .string sc] 27)) (Obj.cells #[.int .i64 sa, .string sb, .string sc] 27)
  rw [e1] at e2
  rw [e2, e1] at hs1
  clear e1 e2
  have HS := As.mk hs1
  have HB := As.mk hB2
  have HX := As.mk hbx3
  clear hs1 hB2 hbx3 hbx2 hbx hB0 hB1 hsl
  go_enter Try.func14, Try.ntmps14
  go_wp2_with (first
    | (go_at_call 19; refine HS.out.mono ?_; rintro e w1 ⟨b, rfl, -, hb⟩; have HX := As.mk (blk_step HX.out hb); have HB := As.mk (bstep HB.out hb); clear hb HS; rcases b with _ | _)
    | (go_at_call 20; refine (awake_calls _).mono ?_; rintro e w2 ⟨rfl, hb⟩; have HB2 := As.mk (bstep HB.out hb); clear hb))
  · go_ret
    exact ⟨rfl, HB2.out⟩
  have h83 := heap_alloc_new w1 (Obj.cells #[.pointer none] 83)
  have hb1 : Below w1.heap.size w1 (w1.alloc (Obj.cells #[.pointer none] 83)) := (Below.refl _ w1).alloc (Nat.le_refl _) _
  have h31 := heap_alloc_new (w1.alloc (Obj.cells #[.pointer none] 83)) (Obj.cells #[.pointer none, .pointer (some ⟨w1.heap.size, 0, none⟩)] 31)
  rw [alloc_size] at h31
  have h83 := blk_step h83 ((Below.refl _ _).alloc (Nat.le_refl _) (Obj.cells #[.pointer none, .pointer (some ⟨w1.heap.size, 0, none⟩)] 31))
  have hb2 := hb1.alloc hb1.size (Obj.cells #[.pointer none, .pointer (some ⟨w1.heap.size, 0, none⟩)] 31)
  have HX := As.mk (blk_step HX.out hb2)
  have HB := As.mk (bstep HB.out hb2)
  have H83 := As.mk h83
  have H31 := As.mk h31
  clear h83 h31 hb1 hb2
  generalize (w1.alloc (Obj.cells #[.pointer none] 83)).alloc (Obj.cells #[.pointer none, .pointer (some ⟨w1.heap.size, 0, none⟩)] 31) = W3 at *
  generalize w1.heap.size = g1 at *
  obtain ⟨bq, hgk⟩ : ∃ g, g = w.heap.size := ⟨_, rfl⟩
  rw [← hgk] at HX
  rw [← hgk]
  clear hgk
  go_loopg [6, 7, 8, 9, 10, 11, 12, 13, 14, 15, 16, 27] 2 (fun m v6 v7 v8 v9 v10 v11 v12 v13 v14 v15 v16 v27 wr => ∃ (k : Int), v27 = .int .i64 k ∧ As ((k = 0 ∧ 2 ≤ m ∨ k = 1 ∧ 1 ≤ m ∨ k = 2) ∧ Below W3.heap.size W3 wr))
  case atStart => exact ⟨0, rfl, ⟨.inl ⟨rfl, Nat.le_refl _⟩, Below.refl _ _⟩⟩
  case round =>
    obtain ⟨k, rfl, ⟨hk, hB⟩⟩ := hrel
    have HX := As.mk (blk_step HX.out hB)
    have HB := As.mk (bstep HB.out hB)
    have H83' := As.mk (blk_step H83.out hB)
    have c0 : wr.cell? ⟨g1 + 1, 0, none⟩ = some (.pointer none) := (heap_cell (blk_step H31.out hB) 0).trans rfl
    have c1 : wr.cell? ⟨g1 + 1, 1, none⟩ = some (.pointer (some ⟨g1, 0, none⟩)) := (heap_cell (blk_step H31.out hB) 1).trans rfl
    have HW := As.mk hB
    clear hB
    rcases hk with ⟨rfl, hm⟩ | ⟨rfl, hm⟩ | rfl
    · have HT : As (IsTr wr none .nil) := ⟨.inl ⟨rfl, rfl⟩⟩
      obtain ⟨pk, hpk⟩ : ∃ p : Option Addr, p = none := ⟨_, rfl⟩
      rw [← hpk] at HT c0
      clear hpk
      go_wp2_with (first
        | (go_at_call 38; refine (At_nil pk i _ HT.out).mono ?_; rintro e w4 ⟨rfl, hb⟩; have HT := As.mk (HT.out.below hb); have HX := As.mk (blk_step HX.out hb); have HB := As.mk (bstep HB.out hb); have HW := As.mk (bstep HW.out hb); clear hb)
        | ((with_reducible refine gate_dst (N := 7) rfl ?_); refine box_event ?hg (N := 7) ?hd (cs := #[.string (⟨#[]⟩ : ByteArray), .string (⟨#[]⟩ : ByteArray)]) (t := 29) ?hr ?_; (case hd => rfl); (case hg => rfl); (case hr => first | (go_simp; done) | (go_simp; rfl)); intro g7 hg_g7 w5 hx_g7 hb_g7; have GQ := As.mk (Nat.le_of_eq hg_g7.symm); clear hg_g7; obtain ⟨x0, x1⟩ := cells2 hx_g7; have z0 := blk_frozen hx_g7 0; have z1 := blk_frozen hx_g7 1; have y1 : _ = some (Value.string sb) := (heap_cell (blk_step HX.out hb_g7) 1).trans rfl; have ne1 : g7 ≠ bq := (by have := blk_lt HX.out; have := GQ.out; omega); have ne2 : bq ≠ g7 := ne1.symm)
        | (go_at_call 47; have hb := (hb_g7.setCell (p := ⟨g7, 0, none⟩) GQ.out (.string (⟨#[]⟩ : ByteArray))).setCell (p := ⟨g7, 1, none⟩) GQ.out (.string (⟨#[]⟩ : ByteArray)); have HT := As.mk (HT.out.below hb); have HX := As.mk (blk_step HX.out hb); have HB := As.mk (bstep HB.out hb); have HW := As.mk (bstep HW.out hb); clear hb hb_g7 GQ; refine (Get_nil pk sb _ HT.out).mono ?_; rintro e w6 ⟨rfl, hb⟩; have HT := As.mk (HT.out.below hb); have HX := As.mk (blk_step HX.out hb); have HB := As.mk (bstep HB.out hb); have HW := As.mk (bstep HW.out hb); have y1 : _ = some (Value.string sb) := (heap_cell HX.out 1).trans rfl; have y2 : _ = some (Value.string sc) := (heap_cell HX.out 2).trans rfl; clear hb)
        | (go_at_call 50; refine (Split_nil pk sb _ HT.out).mono ?_; rintro e w7 ⟨p1, p2, rfl, h1, h2, hb⟩; have HT := As.mk (HT.out.below hb); have HX := As.mk (blk_step HX.out hb); have HB := As.mk (bstep HB.out hb); have HW := As.mk (bstep HW.out hb); have y1 : _ = some (Value.string sb) := (heap_cell HX.out 1).trans rfl; have y2 : _ = some (Value.string sc) := (heap_cell HX.out 2).trans rfl; have HT1 := As.mk h1; have HT2 := As.mk h2; clear h1 h2 hb)
        | (go_at_call 51; refine (Join_none pk _ HT.out).mono ?_; rintro e w8 ⟨p3, rfl, h3, hb⟩; have HT := As.mk (HT.out.below hb); have HX := As.mk (blk_step HX.out hb); have HB := As.mk (bstep HB.out hb); have HW := As.mk (bstep HW.out hb); have y1 : _ = some (Value.string sb) := (heap_cell HX.out 1).trans rfl; have y2 : _ = some (Value.string sc) := (heap_cell HX.out 2).trans rfl; have HT1 := As.mk (HT1.out.below hb); have HT2 := As.mk (HT2.out.below hb); have HT3 := As.mk h3; clear h3 hb))
      have HK : As (NobK bq ⟨sa, sb, sc⟩ pk p1 p2 p3 w8) := ⟨⟨HT.out, HT1.out, HT2.out, HT3.out, HX.out⟩⟩
      have HN : As (∀ w', Below w8.heap.size w8 w' → NobK bq ⟨sa, sb, sc⟩ pk p1 p2 p3 w') := ⟨fun w' h => HK.out.below h⟩
      have hC : Below w8.heap.size w8 w8.drew := (Below.refl _ w8).drew
      clear HT HT1 HT2 HT3 HX
      go_region_held3 (fun w' => w'.cell? ⟨bq, 1, none⟩ = some (.string sb))
        (first | exact HK.out.cells.1 | exact (HN.out _ hC).cells.1)
        (first
          | (go_at_call_of 26 (Value.pointer p1); refine (Len_nil p1 _ (HN.out _ hC).t1).mono ?_; rintro e w2 ⟨rfl, hb⟩; replace hC := bstep hC hb; clear hb)
          | (go_at_call_of 26 (Value.pointer p2); refine (Len_nil p2 _ (HN.out _ hC).t2).mono ?_; rintro e w2 ⟨rfl, hb⟩; replace hC := bstep hC hb; clear hb)
          | (go_at_call_of 26 (Value.pointer p3); refine (Len_nil p3 _ (HN.out _ hC).t3).mono ?_; rintro e w2 ⟨rfl, hb⟩; replace hC := bstep hC hb; clear hb)
          | (go_at_call_of 26 (Value.pointer pk); refine (Len_nil pk _ (HN.out _ hC).t).mono ?_; rintro e w2 ⟨rfl, hb⟩; replace hC := bstep hC hb; clear hb)
          | (go_at_call_of 26 (Value.pointer p4); refine (Len_nil p4 _ h4).mono ?_; rintro e w2 ⟨rfl, hb⟩; replace hC := bstep hC hb; clear hb h4)
          | (go_at_call 60; refine (Depth_nil pk _ (HN.out _ hC).t).mono ?_; rintro e w2 ⟨rfl, hb⟩; replace hC := bstep hC hb; clear hb)
          | (go_at_call 44; refine (Rank_nil pk sb _ (HN.out _ hC).t).mono ?_; rintro e w2 ⟨rfl, hb⟩; replace hC := bstep hC hb; clear hb)
          | (go_at_call 25; refine (All_nil pk _ (HN.out _ hC).t).mono ?_; rintro e w2 ⟨AA, cA, rfl, hb⟩; replace hC := bstep hC hb; clear hb)
          | (go_at_call 33; refine (Diff_nil pk _ (HN.out _ hC).t).mono ?_; rintro e w2 ⟨AD, cD, rfl, hb⟩; replace hC := bstep hC hb; clear hb)
          | (go_at_call 37; refine (Drop_nil pk sb _ (HN.out _ hC).t).mono ?_; rintro e w2 ⟨p4, rfl, h4, hb⟩; replace hC := bstep hC hb; clear hb))
      go_wp2_with fail
      have HK2 := As.mk (HN.out _ hC)
      have HN2 : As (∀ w', Below w2.heap.size w2 w' → NobK bq ⟨sa, sb, sc⟩ pk p1 p2 p3 w') := ⟨fun w' h => HK2.out.below h⟩
      have HC2 := As.mk hC
      have hD : Below w2.heap.size w2 w2.drew := (Below.refl _ w2).drew
      clear hC
      go_region_held3 (fun w' => w'.cell? ⟨bq, 1, none⟩ = some (.string sb) ∧ w'.cell? ⟨bq, 2, none⟩ = some (.string sc))
        (first | exact HK2.out.cells | exact (HN2.out _ hD).cells | exact (HN2.out _ (hD.alloc hD.size _)).cells)
        (first
          | (go_at_call 36; refine (Put_nil pk sb sc _ (HN2.out _ hD).t).mono ?_; rintro e w3 ⟨p5, rfl, h5, hb⟩; replace hD := bstep hD hb; clear hb)
          | (go_at_call 25; refine (All_one p5 sb sc _ h5).mono ?_; rintro e w3 ⟨vA, rfl, hA, hb⟩; replace hD := bstep hD hb; clear hb h5)
          | (go_at_call 21; refine (pair_calls _ _ _).mono ?_; rintro e w3 ⟨rfl, hb⟩; replace hD := bstep hD hb; (try replace hA := hA.below hb); clear hb)
          | (go_at_call 61; have hb0 := hD.alloc hD.size (Obj.cells #[.string sb, .string sc] 29); replace hA := hA.below ((Below.refl _ _).alloc (Nat.le_refl _) (Obj.cells #[.string sb, .string sc] 29)); replace hD := hb0; refine (Pairs_calls _ _ [⟨sb, sc⟩] [⟨sb, sc⟩] _ hA (sl_new _ sb sc) (by simp)).mono ?_; rw [decide_eq_true rfl]; rintro e w3 ⟨rfl, hb⟩; replace hD := bstep hD hb; clear hb hb0 hA)
          | (go_at_call 22; replace hD := hD.alloc hD.size (Obj.cells #[.string ⟨#[97]⟩, .string ⟨#[98]⟩] 29); refine (Of_one _ ⟨#[97]⟩ ⟨#[98]⟩ _ (sl_new _ _ _)).mono ?_; rintro e w3 ⟨p6, rfl, h6, hb⟩; replace hD := bstep hD hb; clear hb)
          | (go_at_call 58; refine (Union_one pk p6 _ _ _ (HN2.out _ hD).t h6).mono ?_; rintro e w3 ⟨p7, rfl, h7, hb⟩; replace hD := bstep hD hb; clear hb h6)
          | (go_at_call 26; refine (Len_one p7 _ _ _ h7).mono ?_; rintro e w3 ⟨rfl, hb⟩; replace hD := bstep hD hb; clear hb h7))
      go_wp2_with fail
      go_roundg (gk - 1)
      case measure => omega
      case rel => exact ⟨1, by go_num, ⟨.inr (.inl ⟨rfl, by omega⟩), bstep HW.out (bstep HC2.out hD)⟩⟩
    · have HT : As (IsTr wr (some ⟨g1, 0, none⟩) .nil) := ⟨.inr ⟨g1, none, rfl, H83'.out, rfl⟩⟩
      obtain ⟨pk, hpk⟩ : ∃ p : Option Addr, p = some ⟨g1, 0, none⟩ := ⟨_, rfl⟩
      rw [← hpk] at HT c1
      clear hpk
      go_wp2_with (first
        | (go_at_call 38; refine (At_nil pk i _ HT.out).mono ?_; rintro e w4 ⟨rfl, hb⟩; have HT := As.mk (HT.out.below hb); have HX := As.mk (blk_step HX.out hb); have HB := As.mk (bstep HB.out hb); have HW := As.mk (bstep HW.out hb); clear hb)
        | ((with_reducible refine gate_dst (N := 7) rfl ?_); refine box_event ?hg (N := 7) ?hd (cs := #[.string (⟨#[]⟩ : ByteArray), .string (⟨#[]⟩ : ByteArray)]) (t := 29) ?hr ?_; (case hd => rfl); (case hg => rfl); (case hr => first | (go_simp; done) | (go_simp; rfl)); intro g7 hg_g7 w5 hx_g7 hb_g7; have GQ := As.mk (Nat.le_of_eq hg_g7.symm); clear hg_g7; obtain ⟨x0, x1⟩ := cells2 hx_g7; have z0 := blk_frozen hx_g7 0; have z1 := blk_frozen hx_g7 1; have y1 : _ = some (Value.string sb) := (heap_cell (blk_step HX.out hb_g7) 1).trans rfl; have ne1 : g7 ≠ bq := (by have := blk_lt HX.out; have := GQ.out; omega); have ne2 : bq ≠ g7 := ne1.symm)
        | (go_at_call 47; have hb := (hb_g7.setCell (p := ⟨g7, 0, none⟩) GQ.out (.string (⟨#[]⟩ : ByteArray))).setCell (p := ⟨g7, 1, none⟩) GQ.out (.string (⟨#[]⟩ : ByteArray)); have HT := As.mk (HT.out.below hb); have HX := As.mk (blk_step HX.out hb); have HB := As.mk (bstep HB.out hb); have HW := As.mk (bstep HW.out hb); clear hb hb_g7 GQ; refine (Get_nil pk sb _ HT.out).mono ?_; rintro e w6 ⟨rfl, hb⟩; have HT := As.mk (HT.out.below hb); have HX := As.mk (blk_step HX.out hb); have HB := As.mk (bstep HB.out hb); have HW := As.mk (bstep HW.out hb); have y1 : _ = some (Value.string sb) := (heap_cell HX.out 1).trans rfl; have y2 : _ = some (Value.string sc) := (heap_cell HX.out 2).trans rfl; clear hb)
        | (go_at_call 50; refine (Split_nil pk sb _ HT.out).mono ?_; rintro e w7 ⟨p1, p2, rfl, h1, h2, hb⟩; have HT := As.mk (HT.out.below hb); have HX := As.mk (blk_step HX.out hb); have HB := As.mk (bstep HB.out hb); have HW := As.mk (bstep HW.out hb); have y1 : _ = some (Value.string sb) := (heap_cell HX.out 1).trans rfl; have y2 : _ = some (Value.string sc) := (heap_cell HX.out 2).trans rfl; have HT1 := As.mk h1; have HT2 := As.mk h2; clear h1 h2 hb)
        | (go_at_call 51; refine (Join_none pk _ HT.out).mono ?_; rintro e w8 ⟨p3, rfl, h3, hb⟩; have HT := As.mk (HT.out.below hb); have HX := As.mk (blk_step HX.out hb); have HB := As.mk (bstep HB.out hb); have HW := As.mk (bstep HW.out hb); have y1 : _ = some (Value.string sb) := (heap_cell HX.out 1).trans rfl; have y2 : _ = some (Value.string sc) := (heap_cell HX.out 2).trans rfl; have HT1 := As.mk (HT1.out.below hb); have HT2 := As.mk (HT2.out.below hb); have HT3 := As.mk h3; clear h3 hb))
      have HK : As (NobK bq ⟨sa, sb, sc⟩ pk p1 p2 p3 w8) := ⟨⟨HT.out, HT1.out, HT2.out, HT3.out, HX.out⟩⟩
      have HN : As (∀ w', Below w8.heap.size w8 w' → NobK bq ⟨sa, sb, sc⟩ pk p1 p2 p3 w') := ⟨fun w' h => HK.out.below h⟩
      have hC : Below w8.heap.size w8 w8.drew := (Below.refl _ w8).drew
      clear HT HT1 HT2 HT3 HX
      go_region_held3 (fun w' => w'.cell? ⟨bq, 1, none⟩ = some (.string sb))
        (first | exact HK.out.cells.1 | exact (HN.out _ hC).cells.1)
        (first
          | (go_at_call_of 26 (Value.pointer p1); refine (Len_nil p1 _ (HN.out _ hC).t1).mono ?_; rintro e w2 ⟨rfl, hb⟩; replace hC := bstep hC hb; clear hb)
          | (go_at_call_of 26 (Value.pointer p2); refine (Len_nil p2 _ (HN.out _ hC).t2).mono ?_; rintro e w2 ⟨rfl, hb⟩; replace hC := bstep hC hb; clear hb)
          | (go_at_call_of 26 (Value.pointer p3); refine (Len_nil p3 _ (HN.out _ hC).t3).mono ?_; rintro e w2 ⟨rfl, hb⟩; replace hC := bstep hC hb; clear hb)
          | (go_at_call_of 26 (Value.pointer pk); refine (Len_nil pk _ (HN.out _ hC).t).mono ?_; rintro e w2 ⟨rfl, hb⟩; replace hC := bstep hC hb; clear hb)
          | (go_at_call_of 26 (Value.pointer p4); refine (Len_nil p4 _ h4).mono ?_; rintro e w2 ⟨rfl, hb⟩; replace hC := bstep hC hb; clear hb h4)
          | (go_at_call 60; refine (Depth_nil pk _ (HN.out _ hC).t).mono ?_; rintro e w2 ⟨rfl, hb⟩; replace hC := bstep hC hb; clear hb)
          | (go_at_call 44; refine (Rank_nil pk sb _ (HN.out _ hC).t).mono ?_; rintro e w2 ⟨rfl, hb⟩; replace hC := bstep hC hb; clear hb)
          | (go_at_call 25; refine (All_nil pk _ (HN.out _ hC).t).mono ?_; rintro e w2 ⟨AA, cA, rfl, hb⟩; replace hC := bstep hC hb; clear hb)
          | (go_at_call 33; refine (Diff_nil pk _ (HN.out _ hC).t).mono ?_; rintro e w2 ⟨AD, cD, rfl, hb⟩; replace hC := bstep hC hb; clear hb)
          | (go_at_call 37; refine (Drop_nil pk sb _ (HN.out _ hC).t).mono ?_; rintro e w2 ⟨p4, rfl, h4, hb⟩; replace hC := bstep hC hb; clear hb))
      go_wp2_with fail
      have HK2 := As.mk (HN.out _ hC)
      have HN2 : As (∀ w', Below w2.heap.size w2 w' → NobK bq ⟨sa, sb, sc⟩ pk p1 p2 p3 w') := ⟨fun w' h => HK2.out.below h⟩
      have HC2 := As.mk hC
      have hD : Below w2.heap.size w2 w2.drew := (Below.refl _ w2).drew
      clear hC
      go_region_held3 (fun w' => w'.cell? ⟨bq, 1, none⟩ = some (.string sb) ∧ w'.cell? ⟨bq, 2, none⟩ = some (.string sc))
        (first | exact HK2.out.cells | exact (HN2.out _ hD).cells | exact (HN2.out _ (hD.alloc hD.size _)).cells)
        (first
          | (go_at_call 36; refine (Put_nil pk sb sc _ (HN2.out _ hD).t).mono ?_; rintro e w3 ⟨p5, rfl, h5, hb⟩; replace hD := bstep hD hb; clear hb)
          | (go_at_call 25; refine (All_one p5 sb sc _ h5).mono ?_; rintro e w3 ⟨vA, rfl, hA, hb⟩; replace hD := bstep hD hb; clear hb h5)
          | (go_at_call 21; refine (pair_calls _ _ _).mono ?_; rintro e w3 ⟨rfl, hb⟩; replace hD := bstep hD hb; (try replace hA := hA.below hb); clear hb)
          | (go_at_call 61; have hb0 := hD.alloc hD.size (Obj.cells #[.string sb, .string sc] 29); replace hA := hA.below ((Below.refl _ _).alloc (Nat.le_refl _) (Obj.cells #[.string sb, .string sc] 29)); replace hD := hb0; refine (Pairs_calls _ _ [⟨sb, sc⟩] [⟨sb, sc⟩] _ hA (sl_new _ sb sc) (by simp)).mono ?_; rw [decide_eq_true rfl]; rintro e w3 ⟨rfl, hb⟩; replace hD := bstep hD hb; clear hb hb0 hA)
          | (go_at_call 22; replace hD := hD.alloc hD.size (Obj.cells #[.string ⟨#[97]⟩, .string ⟨#[98]⟩] 29); refine (Of_one _ ⟨#[97]⟩ ⟨#[98]⟩ _ (sl_new _ _ _)).mono ?_; rintro e w3 ⟨p6, rfl, h6, hb⟩; replace hD := bstep hD hb; clear hb)
          | (go_at_call 58; refine (Union_one pk p6 _ _ _ (HN2.out _ hD).t h6).mono ?_; rintro e w3 ⟨p7, rfl, h7, hb⟩; replace hD := bstep hD hb; clear hb h6)
          | (go_at_call 26; refine (Len_one p7 _ _ _ h7).mono ?_; rintro e w3 ⟨rfl, hb⟩; replace hD := bstep hD hb; clear hb h7))
      go_wp2_with fail
      go_roundg (gk - 1)
      case measure => omega
      case rel => exact ⟨2, by go_num, ⟨.inr (.inr rfl), bstep HW.out (bstep HC2.out hD)⟩⟩
    · go_wp2_with (first
        | (go_at_call 20; refine (awake_calls _).mono ?_; rintro e w2 ⟨rfl, hb⟩; have HB2 := As.mk (bstep HB.out hb); clear hb))
      go_ret
      exact ⟨rfl, HB2.out⟩

end Go.Proofs.Ytehnkoglhbbfjaa
