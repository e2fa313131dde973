/-
  The law TreeOf: its walk.
-/
import Derived.Test.YtehnkoglhbbfjaaR1
namespace Go.Proofs.Ytehnkoglhbbfjaa
open Go.RowKit Go.Proofs.YtehnkoglhbbfjaaW.PrintWords Go.Proofs.YtehnkoglhbbfjaaW.PrintLast Go.Proofs.YtehnkoglhbbfjaaW.PrintMore PAll

/-- The pairs of what is done. -/
def prs (l : List S27) : List S29 := l.map fun k => ⟨k.f1, k.f2⟩
theorem prs_take (l : List S27) (k : Nat) (h : k < l.length) : prs (l.take (k + 1)) = prs (l.take k) ++ [⟨(l.getD k z27).f1, (l.getD k z27).f2⟩] := by
  unfold prs
  rw [take_snoc l z27 k h, List.map_append]
  rfl

set_option maxHeartbeats 4000000 in
set_option maxRecDepth 100000 in
theorem treeOf_calls (v : Value) (l : List S27) (w : World) (h : SlD w v l) : Calls Try.prog 3 #[v] w fun e w' => e = .returned (.bool true) ∧ Below w.heap.size w w' := by
  obtain ⟨A, c, rfl, hc, hC⟩ := h
  have HC := As.mk hC
  have HS := As.mk (Short_calls [l] [.slice A l.length c] w (w.alloc (.cells #[.slice A l.length c] 22)) w.heap.size (heap_alloc_new _ _) (fun j p hj => by
    have : j = 0 := by
      have := (List.getElem?_eq_some_iff.1 hj).1
      simpa using this
    subst this
    simp at hj
    subst hj
    exact ⟨_, rfl, A, c, rfl, hc, hC⟩) ((Below.refl _ w).alloc (Nat.le_refl _) _) (by simp))
  have hB0 : Below w.heap.size w (w.alloc (.cells #[.slice A l.length c] 22)) := (Below.refl _ w).alloc (Nat.le_refl _) _
  have HB0 := As.mk hB0
  clear hC hc hB0
  go_enter Try.func3, Try.ntmps3
  go_wp2_with (first
    | (go_at_call 19; refine HS.out.mono ?_; rintro e w1 ⟨b, rfl, hle, hb⟩; have HB1 := As.mk (bstep HB0.out hb); have HLE := As.mk hle; clear hb hle; rcases b with _ | _)
    | (go_at_call 20; refine (awake_calls _).mono ?_; rintro e w2 ⟨rfl, hb⟩; have HB2 := As.mk (bstep HB1.out hb); clear hb))
  · go_ret
    exact ⟨rfl, HB2.out⟩
  have hL : l.length ≤ 300 := HLE.out trivial l (by simp)
  have HC1 := As.mk (Kd.C_below HC.out HB1.out)
  clear HS HB0 HLE HC
  go_loopg [3, 5, 16] l.length (fun m v3 v5 v16 wr => ∃ (k : Nat) (X : List S29), v16 = .int .i64 k ∧ As (X = prs (l.take k) ∧ Kd.R k29 29 wr w1.heap.size (fun _ => True) v3 X ∧ k ≤ l.length ∧ l.length - k ≤ m ∧ Below w1.heap.size w1 wr))
  case atStart => exact ⟨0, [], rfl, ⟨rfl, Kd.R_nil _ _ _ _ _, Nat.zero_le _, Nat.le_refl _, Below.refl _ _⟩⟩
  case round =>
    obtain ⟨k, X, rfl, ⟨hX, hR, hk, hm, hB⟩⟩ := hrel
    by_cases hlt : k < l.length
    · obtain ⟨ad, hA, hx0, hx1, hx2⟩ := at_T27 HC1.out (k : Int) (by omega) (by omega)
      subst hA
      have hts := prs_take l k hlt
      have hrd : rd_T27 l (k : Int) = l.getD k z27 := by unfold rd_T27; rw [Int.toNat_natCast]
      have hXl : X.length ≤ 300 := by rw [hX]; unfold prs; rw [List.length_map, List.length_take]; omega
      rw [hrd, Int.toNat_natCast] at hx0
      rw [hrd, Int.toNat_natCast] at hx1 hx2
      rw [← hX] at hts
      generalize l.getD k z27 = d at *
      obtain ⟨da, db, dc⟩ := d
      dsimp only at hx0 hx1 hx2 hts
      have HTS := As.mk hts
      obtain ⟨Y, hY⟩ : ∃ Y, Y = X ++ [⟨db, dc⟩] := ⟨_, rfl⟩
      have HY := As.mk hY
      clear hts hrd hX hY
      replace hx0 := (hB.cell (World.block_lt_of_cell? w1 _ hx0)).trans hx0
      replace hx1 := (hB.cell (World.block_lt_of_cell? w1 _ hx1)).trans hx1
      replace hx2 := (hB.cell (World.block_lt_of_cell? w1 _ hx2)).trans hx2
      have p0 : 0 ≤ (k : Int) := by omega
      obtain ⟨Ax, cx, rfl⟩ := Kd.R_slice hR
      have HR := As.mk hR
      clear hR
      go_wp2_with (first
        | ((with_reducible refine gate_dst (N := 5) rfl ?_); refine box_event ?hg (N := 5) ?hd (cs := #[.int .i64 0, .string (⟨#[]⟩ : ByteArray), .string (⟨#[]⟩ : ByteArray)]) (t := 27) ?hr ?_; (case hd => rfl); (case hg => rfl); (case hr => first | (go_simp; done) | (go_simp; rfl)); intro gd hg_gd w3 hx_gd hb_gd; have hB1 := bstep hB hb_gd; have GD := As.mk ((by rw [hg_gd]; exact hB.size) : w1.heap.size ≤ gd); have GQ := As.mk (Nat.le_of_eq hg_gd.symm); clear hg_gd; have x0 := (heap_cell hx_gd 0).trans rfl; have x1 := (heap_cell hx_gd 1).trans rfl; have x2 := (heap_cell hx_gd 2).trans rfl; have z0 := blk_frozen hx_gd 0; have z1 := blk_frozen hx_gd 1; have z2 := blk_frozen hx_gd 2)
        | (go_at_call 21; have hb2 := ((hb_gd.setCell (p := ⟨gd, 0, none⟩) GQ.out (.int .i64 da)).setCell (p := ⟨gd, 1, none⟩) GQ.out (.string db)).setCell (p := ⟨gd, 2, none⟩) GQ.out (.string dc); have hB2 := ((hB1.setCell (p := ⟨gd, 0, none⟩) GD.out (.int .i64 da)).setCell (p := ⟨gd, 1, none⟩) GD.out (.string db)).setCell (p := ⟨gd, 2, none⟩) GD.out (.string dc); refine (pair_calls db dc _).mono ?_; rintro e w4 ⟨rfl, hb4⟩; have hR3 := Kd.R_below (Kd.R_below HR.out hb2) hb4; have hB3 := bstep hB2 hb4; clear hb4 hb2 hB2)
        | ((with_reducible refine gate_builtin (b := .append) (xs := #[.tmp 20, .tmp 26]) rfl ?_); at_builtin; refine Kd.R_append k29 (w0 := w1) w1.heap.size rfl (.tmp 20) (.tmp 26) 25 29 (.agg #[(.string ⟨#[]⟩), (.string ⟨#[]⟩)]) 32 rfl Try.underlying25 info29 rfl (by decide) (by omega) _ X (⟨db, dc⟩ : S29) [.string db, .string dc] (fun _ => True) (fun _ => False) rfl (by first | (go_simp; done) | (go_simp; rfl)) ?aP (fun _ hk => hk.elim) (fun _ _ => trivial) ?aO ?aB ?aS ?aL ?_; (case aP => exact k29_mkM _ _ _ (⟨db, dc⟩ : S29)); (case aO => exact hR3); (case aB => exact hB3); (case aS => exact hB3.size); (case aL => omega); intro v5 w5 ho5 hB5 _ _; rw [← HY.out] at ho5; clear hR3 hB3; obtain ⟨A5, c5, rfl⟩ := Kd.R_slice ho5; have HR5 := As.mk ho5; have HB5 := As.mk hB5; clear ho5 hB5))
      go_roundg (l.length - (k + 1))
      case measure => omega
      case rel => exact ⟨k + 1, Y, by go_num, ⟨by rw [HY.out, HTS.out], HR5.out, by omega, Nat.le_refl _, HB5.out⟩⟩
    · obtain rfl : k = l.length := by omega
      rw [List.take_length] at hX
      have hXl : X.length ≤ 300 := by rw [hX]; unfold prs; rw [List.length_map]; omega
      have hO := OwnB.of_R hR
      obtain ⟨Ag, cg, rfl⟩ := Kd.R_slice hR
      have HO := As.mk hO
      have HR := As.mk hR
      have HB := As.mk hB
      have HXE := As.mk hX
      clear hO hR hB hX
      obtain ⟨Z, hZ⟩ : ∃ Z, Z = ofP [] X := ⟨_, rfl⟩
      have HZ := As.mk hZ
      clear hZ
      go_wp2_with (first
        | (go_at_call 22; refine (Of_calls X Ag cg _ (Sl.of_R HR.out).kc (Sl.of_R HR.out).cap (by omega)).mono ?_; rintro e w2 ⟨p, rfl, ht, hb⟩; have HT2 := As.mk ht; have HR2 := As.mk (Kd.R_below HR.out hb); have HO2 := As.mk (HO.out.below hb); have HB2 := As.mk (bstep HB.out hb); clear hb ht)
        | (go_at_call 23; refine (RefOf_calls _ X _ (Sl.of_R HR2.out) (by omega)).mono ?_; rintro e w3 ⟨v7, rfl, hR7, hb⟩; rw [← HZ.out] at hR7; have HT3 := As.mk (HT2.out.below hb); have HO3 := As.mk (HO2.out.below hb); have HB3 := As.mk (bstep HB2.out hb); obtain ⟨A7, c7, rfl⟩ := Kd.R_slice hR7; have HR7 := As.mk hR7; clear hb hR7))
      go_loopg [8, 35] X.length (fun m v8 v35 wr2 => ∃ (k : Nat), v35 = .int .i64 k ∧ As (OwnB wr2 w1.heap.size (.slice Ag X.length cg) X.length ∧ IsTr wr2 p (T.ofL .nil X) ∧ Kd.R k29 29 wr2 w2.heap.size (fun _ => True) (.slice A7 Z.length c7) Z ∧ k ≤ X.length ∧ X.length - k ≤ m ∧ Below w1.heap.size w1 wr2))
      case atStart => exact ⟨0, rfl, ⟨HO3.out, HT3.out, HR7.out, Nat.zero_le _, Nat.le_refl _, HB3.out⟩⟩
      case round =>
        obtain ⟨k, rfl, ⟨hO, hT, hR7, hk, hm, hB⟩⟩ := hrel
        by_cases hlt : k < X.length
        · rcases hO with ⟨-, hn⟩ | ⟨g, cap, cur, hv, hbase, hg, hn⟩
          · omega
          injection hv with hv1 _ hv3
          subst hv1 hv3
          have hgl : g < w2.heap.size := by
            rcases HO2.out with ⟨hx, -⟩ | ⟨g', _, _, hx, -, hx2, -⟩
            · cases hx
            · injection hx with hx1
              cases hx1
              exact blk_lt hx2
          obtain ⟨cv, hcv⟩ : ∃ cv, cur[k * 2]? = some cv := ⟨_, Array.getElem?_eq_getElem (by omega)⟩
          have x0 : wr.cell? ⟨g, k * 2, none⟩ = some cv := (heap_cell hg (k * 2)).trans hcv
          have z0 := blk_frozen hg (k * 2)
          have HN := As.mk (And.intro (OwnB.put (cap := cg) hbase hg hn (k * 2) (.string ⟨#[63]⟩) (by omega)) (And.intro (hT.setCell hg (by decide) (by decide) (k * 2) (.string ⟨#[63]⟩)) (And.intro (R29_far hR7 hgl (k * 2) (.string ⟨#[63]⟩)) (hB.setCell (p := ⟨g, k * 2, none⟩) hbase (.string ⟨#[63]⟩)))))
          have p0 : 0 ≤ (k : Int) := by omega
          clear hg hn hT hR7 hB hgl hcv
          go_wp2
          go_roundg (X.length - (k + 1))
          case measure => omega
          case rel => exact ⟨k + 1, by go_num, ⟨HN.out.1, HN.out.2.1, HN.out.2.2.1, by omega, Nat.le_refl _, HN.out.2.2.2⟩⟩
        · have HT := As.mk hT
          have HR7' := As.mk hR7
          have HBB := As.mk hB
          clear hT hR7 hB hO
          have hofs := T.ofL_toL .nil X srt_nil
          have hsz := T.ofL_size .nil X
          simp only [T.size] at hsz
          have hZ : (T.ofL .nil X).toL = Z := by rw [HZ.out]; exact hofs.1
          have hall : (T.ofL .nil X).all = Z := by rw [T.all_toL _ hofs.2, hZ]
          have hlen : (T.ofL .nil X).size = Z.length := by rw [← hZ, T.toL_length]
          generalize T.ofL .nil X = TT at *
          have HAL := As.mk hall
          have HLE := As.mk hlen
          clear hofs hZ hall hlen
          go_wp2_with (first
            | (go_at_call 25; refine (All_calls p TT _ HT.out (by omega)).mono ?_; rintro e w4 ⟨v44, rfl, hR44, hb⟩; rw [HAL.out] at hR44; have HT4 := As.mk (HT.out.below hb); have HS4 := As.mk (Sl.of_R hR44); have HS7 := As.mk ((Sl.of_R HR7'.out).below hb); have HB4 := As.mk (bstep HBB.out hb); clear hb hR44)
            | (go_at_call 24; refine (Same_calls _ _ Z Z _ HS4.out HS7.out ?hs).mono ?_; (case hs => have := HLE.out; omega); rw [decide_eq_true rfl]; rintro e w5 ⟨rfl, hb⟩; have HT5 := As.mk (HT4.out.below hb); have HB5 := As.mk (bstep HB4.out hb); clear hb)
            | (go_at_call 26; refine (Len_calls p TT _ HT5.out).mono ?_; rintro e w6 ⟨rfl, rfl⟩; rw [HLE.out])
            | (go_at_call 20; refine (awake_calls _).mono ?_; rintro e w7 ⟨rfl, hb⟩; have HB6 := As.mk (bstep HB5.out hb); clear hb))
          go_ret
          exact ⟨rfl, bstep HB1.out HB6.out⟩

end Go.Proofs.Ytehnkoglhbbfjaa
