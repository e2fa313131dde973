/-
  The reference's Diff.
-/
import Derived.Test.YtehnkoglhbbfjaaR0
import Derived.Test.YtehnkoglhbbfjaaM14
set_option linter.unusedVariables false
set_option linter.unusedSimpArgs false
namespace Go.Proofs.Ytehnkoglhbbfjaa
open Go.RowKit Go.Proofs.YtehnkoglhbbfjaaW.PrintWords Go.Proofs.YtehnkoglhbbfjaaW.PrintLast Go.Proofs.YtehnkoglhbbfjaaW.PrintMore PAll

namespace T
theorem ev_snoc (x y : List Pr) (l : List Pr) (p : Pr) : ((l ++ [p]).flatMap fun p => evAt x y p.f0) = (l.flatMap fun p => evAt x y p.f0) ++ evAt x y p.f0 := by
  rw [List.flatMap_append]
  simp
theorem evAt_length (x y : List Pr) (k : ByteArray) : (evAt x y k).length ≤ 1 := by
  unfold evAt
  split <;> simp
theorem ev_length (x y : List Pr) (l : List Pr) : (l.flatMap fun p => evAt x y p.f0).length ≤ l.length := by
  induction l with
  | nil => exact Nat.le_refl _
  | cons p r ih =>
    have := evAt_length x y p.f0
    rw [List.flatMap_cons, List.length_append, List.length_cons]
    omega
end T

set_option maxHeartbeats 4000000 in
set_option maxRecDepth 100000 in
theorem RefDiff_calls (u v : Value) (x l : List S29) (w : World) (hx : Sl w u x) (h : Sl w v l) (hs : x.length + l.length < 400000000) :
    Calls Try.prog 35 #[u, v] w fun e w' => ∃ v', e = .returned v' ∧ SlE w' v' (T.diffL x l) ∧ Below w.heap.size w w' := by
  have HX := As.mk hx
  have HL := As.mk h
  clear hx h
  go_enter Try.func35, Try.ntmps35
  go_wp2_with (first
    | (go_at_call 63; refine (RefUnion_calls _ _ x l w HX.out HL.out (by omega)).mono ?_; have hul := unionL_length x l; obtain ⟨U, hU⟩ : ∃ U, U = unionL x l := ⟨_, rfl⟩; rw [← hU] at hul ⊢; have HU := As.mk hU; clear hU; rintro e w1 ⟨AU, cU, rfl, hSU, hb⟩; have HSU := As.mk hSU; have HB0 := As.mk hb; have HX1 := As.mk (HX.out.below hb); have HL1 := As.mk (HL.out.below hb); clear hSU hb HX HL))
  have HC := As.mk HSU.out.kc
  go_loopg [5, 7, 8, 9, 10, 11, 16] U.length (fun m v5 v7 v8 v9 v10 v11 v16 wr => ∃ (k : Nat) (X : List S51), v16 = .int .i64 k ∧ As (X = (U.take k).flatMap (fun p => T.evAt x l p.f0) ∧ Kd.R k51 51 wr w1.heap.size (fun _ => True) v5 X ∧ k ≤ U.length ∧ U.length - k ≤ m ∧ Below w1.heap.size w1 wr))
  case atStart => exact ⟨0, [], rfl, ⟨rfl, Kd.R_nil _ _ _ _ _, Nat.zero_le _, Nat.le_refl _, Below.refl _ _⟩⟩
  case round =>
    obtain ⟨k, X, rfl, ⟨hX, hR, hk, hm, hB⟩⟩ := hrel
    by_cases hlt : k < U.length
    · skip
      obtain ⟨ad, hA, hx0, hx1⟩ := at_T29 HC.out (k : Int) (by omega) (by omega)
      subst hA
      have hts := take_snoc U z29 k hlt
      have hrd : rd_T29 U (k : Int) = U.getD k z29 := by unfold rd_T29; rw [Int.toNat_natCast]
      rw [hrd, Int.toNat_natCast] at hx0 hx1
      have hfs := T.ev_snoc x l (U.take k) (U.getD k z29)
      rw [← hts, ← hX] at hfs
      have hXl : X.length ≤ U.length := by
        have h1 := T.ev_length x l (U.take k)
        have h2 : (U.take k).length ≤ U.length := by rw [List.length_take]; omega
        rw [hX]
        exact Nat.le_trans h1 h2
      clear hts hrd hX
      generalize U.getD k z29 = d at *
      obtain ⟨da, db⟩ := d
      dsimp only at hx0 hx1 hfs
      replace hx0 := (hB.cell (World.block_lt_of_cell? w1 _ hx0)).trans hx0
      replace hx1 := (hB.cell (World.block_lt_of_cell? w1 _ hx1)).trans hx1
      have p0 : 0 ≤ (k : Int) := by omega
      have HR := As.mk hR
      obtain ⟨A5, c5, rfl⟩ := Kd.R_slice hR
      clear hR
      obtain ⟨o1, o2, hG1⟩ : ∃ o1 o2, getL da x = (o1, o2) := ⟨_, _, rfl⟩
      obtain ⟨n1, n2, hG2⟩ : ∃ n1 n2, getL da l = (n1, n2) := ⟨_, _, rfl⟩
      by_cases hbb : o2 = n2
      · subst hbb
        by_cases hv : o1 = n1
        · have q2 : (o1.toList == n1.toList) = true := by rw [hv, beq_self_eq_true]
          rw [show T.evAt x l da = [] by unfold T.evAt; rw [hG1, hG2]; exact if_pos ⟨rfl, hv⟩] at hfs
          obtain ⟨Y, hY⟩ : ∃ Y, Y = X := ⟨_, rfl⟩
          rw [List.append_nil] at hfs
          have HFS := As.mk hfs
          have HY := As.mk hY
          have HG1 := As.mk hG1
          have HG2 := As.mk hG2
          clear hfs hY hG1 hG2
          obtain rfl : Y = X := HY.out
          clear hv
          go_wp2_with (first
            | ((with_reducible refine gate_dst (N := 7) rfl ?_); refine box_event ?hg (N := 7) ?hd (cs := #[.string (⟨#[]⟩ : ByteArray), .string (⟨#[]⟩ : ByteArray)]) (t := 29) ?hr ?_; (case hd => rfl); (case hg => rfl); (case hr => first | (go_simp; done) | (go_simp; rfl)); intro gd hg_gd w4 hx_gd hb_gd; have hB1 := bstep hB hb_gd; have GD := As.mk ((by rw [hg_gd]; exact hB.size) : w1.heap.size ≤ gd); have GQ := As.mk (Nat.le_of_eq hg_gd.symm); clear hg_gd; obtain ⟨x0, x1⟩ := cells2 hx_gd; have z0 := blk_frozen hx_gd 0; have z1 := blk_frozen hx_gd 1)
            | (go_at_call 48; have hb2 := ((hb_gd.setCell (p := ⟨gd, 0, none⟩) GQ.out (.string da)).setCell (p := ⟨gd, 1, none⟩) GQ.out (.string db)); have hB2 := ((hB1.setCell (p := ⟨gd, 0, none⟩) GD.out (.string da)).setCell (p := ⟨gd, 1, none⟩) GD.out (.string db)); have hx3 := blk_put (blk_put hx_gd 0 (.string da) rfl) 1 (.string db) rfl; refine (RefGet_calls _ x da _ (HX1.out.below hB2) (by omega)).mono ?_; rw [HG1.out]; rintro e w5 ⟨rfl, hb⟩; have hx5 := blk_step hx3 hb; obtain ⟨y0, y1⟩ := cells2 hx5; have HR5 := As.mk (Kd.R_below (Kd.R_below HR.out hb2) hb); have HB5 := As.mk (bstep hB2 hb); clear hb hx3 hb2 hB2 hb_gd hB1)
            | (go_at_call 48; refine (RefGet_calls _ l da _ (HL1.out.below HB5.out) (by omega)).mono ?_; rw [HG2.out]; rintro e w6 ⟨rfl, hb⟩; have hx6 := blk_step hx5 hb; obtain ⟨s0, s1⟩ := cells2 hx6; have HR6 := As.mk (Kd.R_below HR5.out hb); have HB6 := As.mk (bstep HB5.out hb); clear hb HR5 HB5))
          go_roundg (U.length - (k + 1))
          case measure => omega
          case rel => exact ⟨k + 1, _, by go_num, ⟨HFS.out.symm, HR6.out, by omega, Nat.le_refl _, HB6.out⟩⟩
        · have q2 : (o1.toList == n1.toList) = false := key_ne hv
          rw [show T.evAt x l da = [⟨0, da, o2, o1, o2, n1⟩] by unfold T.evAt; rw [hG1, hG2]; exact if_neg fun h => hv h.2] at hfs
          obtain ⟨Y, hY⟩ : ∃ Y, Y = X ++ [⟨0, da, o2, o1, o2, n1⟩] := ⟨_, rfl⟩
          
          have HFS := As.mk hfs
          have HY := As.mk hY
          have HG1 := As.mk hG1
          have HG2 := As.mk hG2
          clear hfs hY hG1 hG2
          
          clear hv
          go_wp2_with (first
            | ((with_reducible refine gate_dst (N := 7) rfl ?_); refine box_event ?hg (N := 7) ?hd (cs := #[.string (⟨#[]⟩ : ByteArray), .string (⟨#[]⟩ : ByteArray)]) (t := 29) ?hr ?_; (case hd => rfl); (case hg => rfl); (case hr => first | (go_simp; done) | (go_simp; rfl)); intro gd hg_gd w4 hx_gd hb_gd; have hB1 := bstep hB hb_gd; have GD := As.mk ((by rw [hg_gd]; exact hB.size) : w1.heap.size ≤ gd); have GQ := As.mk (Nat.le_of_eq hg_gd.symm); clear hg_gd; obtain ⟨x0, x1⟩ := cells2 hx_gd; have z0 := blk_frozen hx_gd 0; have z1 := blk_frozen hx_gd 1)
            | (go_at_call 48; have hb2 := ((hb_gd.setCell (p := ⟨gd, 0, none⟩) GQ.out (.string da)).setCell (p := ⟨gd, 1, none⟩) GQ.out (.string db)); have hB2 := ((hB1.setCell (p := ⟨gd, 0, none⟩) GD.out (.string da)).setCell (p := ⟨gd, 1, none⟩) GD.out (.string db)); have hx3 := blk_put (blk_put hx_gd 0 (.string da) rfl) 1 (.string db) rfl; refine (RefGet_calls _ x da _ (HX1.out.below hB2) (by omega)).mono ?_; rw [HG1.out]; rintro e w5 ⟨rfl, hb⟩; have hx5 := blk_step hx3 hb; obtain ⟨y0, y1⟩ := cells2 hx5; have HR5 := As.mk (Kd.R_below (Kd.R_below HR.out hb2) hb); have HB5 := As.mk (bstep hB2 hb); clear hb hx3 hb2 hB2 hb_gd hB1)
            | (go_at_call 48; refine (RefGet_calls _ l da _ (HL1.out.below HB5.out) (by omega)).mono ?_; rw [HG2.out]; rintro e w6 ⟨rfl, hb⟩; have hx6 := blk_step hx5 hb; obtain ⟨s0, s1⟩ := cells2 hx6; have HR6 := As.mk (Kd.R_below HR5.out hb); have HB6 := As.mk (bstep HB5.out hb); clear hb HR5 HB5)
            | ((with_reducible refine gate_builtin (b := .append) (xs := #[.tmp 42, .tmp 50]) rfl ?_); at_builtin; refine Kd.R_append k51 (w0 := w1) w1.heap.size rfl (.tmp 42) (.tmp 50) 47 51 (.agg #[.int .i64 0, .string ⟨#[]⟩, .bool false, .string ⟨#[]⟩, .bool false, .string ⟨#[]⟩]) 72 rfl Try.underlying47 info51 rfl (by decide) (by omega) _ X (⟨0, da, o2, o1, o2, n1⟩ : S51) [.int .i64 0, .string da, .bool o2, .string o1, .bool o2, .string n1] (fun _ => True) (fun _ => False) rfl (by first | (go_simp; done) | (go_simp; rfl)) ?aP (fun _ hk => hk.elim) (fun k hk => trivial) ?aO ?aB ?aS ?aL ?_; (case aP => exact k51_mkM _ _ _ (⟨0, da, o2, o1, o2, n1⟩ : S51)); (case aO => exact HR6.out); (case aB => exact HB6.out); (case aS => exact HB6.out.size); (case aL => omega); intro v3 w3 ho3 hB3 hg3 hat3; rw [← HY.out] at ho3; obtain ⟨A3, c3, rfl⟩ := Kd.R_slice ho3; have HB3 := As.mk hB3; have HR3 := As.mk ho3; clear ho3 hg3 hat3 hB3))
          go_roundg (U.length - (k + 1))
          case measure => omega
          case rel => exact ⟨k + 1, _, by go_num, ⟨HY.out.trans HFS.out.symm, HR3.out, by omega, Nat.le_refl _, HB3.out⟩⟩
      · have q1 : (o2 != n2) = true := by revert hbb; cases o2 <;> cases n2 <;> simp
        rw [show T.evAt x l da = [⟨0, da, o2, o1, n2, n1⟩] by unfold T.evAt; rw [hG1, hG2]; exact if_neg fun h => hbb h.1] at hfs
        obtain ⟨Y, hY⟩ : ∃ Y, Y = X ++ [⟨0, da, o2, o1, n2, n1⟩] := ⟨_, rfl⟩
        
        have HFS := As.mk hfs
        have HY := As.mk hY
        have HG1 := As.mk hG1
        have HG2 := As.mk hG2
        clear hfs hY hG1 hG2
        
        go_wp2_with (first
          | ((with_reducible refine gate_dst (N := 7) rfl ?_); refine box_event ?hg (N := 7) ?hd (cs := #[.string (⟨#[]⟩ : ByteArray), .string (⟨#[]⟩ : ByteArray)]) (t := 29) ?hr ?_; (case hd => rfl); (case hg => rfl); (case hr => first | (go_simp; done) | (go_simp; rfl)); intro gd hg_gd w4 hx_gd hb_gd; have hB1 := bstep hB hb_gd; have GD := As.mk ((by rw [hg_gd]; exact hB.size) : w1.heap.size ≤ gd); have GQ := As.mk (Nat.le_of_eq hg_gd.symm); clear hg_gd; obtain ⟨x0, x1⟩ := cells2 hx_gd; have z0 := blk_frozen hx_gd 0; have z1 := blk_frozen hx_gd 1)
          | (go_at_call 48; have hb2 := ((hb_gd.setCell (p := ⟨gd, 0, none⟩) GQ.out (.string da)).setCell (p := ⟨gd, 1, none⟩) GQ.out (.string db)); have hB2 := ((hB1.setCell (p := ⟨gd, 0, none⟩) GD.out (.string da)).setCell (p := ⟨gd, 1, none⟩) GD.out (.string db)); have hx3 := blk_put (blk_put hx_gd 0 (.string da) rfl) 1 (.string db) rfl; refine (RefGet_calls _ x da _ (HX1.out.below hB2) (by omega)).mono ?_; rw [HG1.out]; rintro e w5 ⟨rfl, hb⟩; have hx5 := blk_step hx3 hb; obtain ⟨y0, y1⟩ := cells2 hx5; have HR5 := As.mk (Kd.R_below (Kd.R_below HR.out hb2) hb); have HB5 := As.mk (bstep hB2 hb); clear hb hx3 hb2 hB2 hb_gd hB1)
          | (go_at_call 48; refine (RefGet_calls _ l da _ (HL1.out.below HB5.out) (by omega)).mono ?_; rw [HG2.out]; rintro e w6 ⟨rfl, hb⟩; have hx6 := blk_step hx5 hb; obtain ⟨s0, s1⟩ := cells2 hx6; have HR6 := As.mk (Kd.R_below HR5.out hb); have HB6 := As.mk (bstep HB5.out hb); clear hb HR5 HB5)
          | ((with_reducible refine gate_builtin (b := .append) (xs := #[.tmp 42, .tmp 50]) rfl ?_); at_builtin; refine Kd.R_append k51 (w0 := w1) w1.heap.size rfl (.tmp 42) (.tmp 50) 47 51 (.agg #[.int .i64 0, .string ⟨#[]⟩, .bool false, .string ⟨#[]⟩, .bool false, .string ⟨#[]⟩]) 72 rfl Try.underlying47 info51 rfl (by decide) (by omega) _ X (⟨0, da, o2, o1, n2, n1⟩ : S51) [.int .i64 0, .string da, .bool o2, .string o1, .bool n2, .string n1] (fun _ => True) (fun _ => False) rfl (by first | (go_simp; done) | (go_simp; rfl)) ?aP (fun _ hk => hk.elim) (fun k hk => trivial) ?aO ?aB ?aS ?aL ?_; (case aP => exact k51_mkM _ _ _ (⟨0, da, o2, o1, n2, n1⟩ : S51)); (case aO => exact HR6.out); (case aB => exact HB6.out); (case aS => exact HB6.out.size); (case aL => omega); intro v3 w3 ho3 hB3 hg3 hat3; rw [← HY.out] at ho3; obtain ⟨A3, c3, rfl⟩ := Kd.R_slice ho3; have HB3 := As.mk hB3; have HR3 := As.mk ho3; clear ho3 hg3 hat3 hB3))
        go_roundg (U.length - (k + 1))
        case measure => omega
        case rel => exact ⟨k + 1, _, by go_num, ⟨HY.out.trans HFS.out.symm, HR3.out, by omega, Nat.le_refl _, HB3.out⟩⟩
    · obtain rfl : k = U.length := by omega
      rw [List.take_length] at hX
      have HXX := As.mk hX
      have HR := As.mk (SlE.of_R hR)
      have HB := As.mk hB
      obtain ⟨A5, c5, rfl⟩ := Kd.R_slice hR
      clear hB hX hR
      go_wp2
      go_ret
      exact ⟨_, rfl, by unfold T.diffL; rw [← HU.out, ← HXX.out]; exact HR.out, bstep HB0.out HB.out⟩

end Go.Proofs.Ytehnkoglhbbfjaa
