/-
  The walks of Of, does.
-/
import Derived.Test.YtehnkoglhbbfjaaT9
import Derived.Test.YtehnkoglhbbfjaaM1
set_option linter.unusedVariables false
set_option linter.unusedSimpArgs false
namespace Go.Proofs.Ytehnkoglhbbfjaa
open Go.RowKit Go.Proofs.YtehnkoglhbbfjaaW.PrintWords Go.Proofs.YtehnkoglhbbfjaaW.PrintLast Go.Proofs.YtehnkoglhbbfjaaW.PrintMore PAll

set_option maxHeartbeats 1000000 in
set_option maxRecDepth 100000 in
theorem Of_calls (l : List S29) (A : Option Addr) (c : Nat) (w : World) (hC : Kd.C k29 w A l.length l) (hc : l.length ≤ c) (hs : l.length < 900000000) :
    Calls Try.prog 22 #[.slice A l.length c] w fun e w' => ∃ p', e = .returned (.pointer p') ∧ IsTr w' p' (T.ofL .nil l) ∧ Below w.heap.size w w' := by
  have HC := As.mk hC
  clear hC hc
  go_enter Try.func22, Try.ntmps22
  go_wp2_with fail
  go_loopg [3, 8] l.length (fun m v3 v8 wr => ∃ (q : Option Addr) (k : Nat), v3 = .pointer q ∧ v8 = .int .i64 k ∧ As (IsT wr q (T.ofL .nil (l.take k)) ∧ k ≤ l.length ∧ l.length - k ≤ m ∧ Below w.heap.size w wr))
  case atStart => exact ⟨none, 0, rfl, rfl, ⟨rfl, Nat.zero_le _, Nat.le_refl _, Below.refl _ _⟩⟩
  case round =>
    obtain ⟨q, k, rfl, rfl, ⟨hq, hk, hm, hB⟩⟩ := hrel
    by_cases hlt : k < l.length
    · obtain ⟨ad, hA, hx0, hx1⟩ := at_T29 HC.out (k : Int) (by omega) (by omega)
      subst hA
      have hts := take_snoc l z29 k hlt
      have hof := T.ofL_append .nil (l.take k) [l.getD k z29]
      rw [← hts] at hof
      have hsz := T.ofL_size .nil (l.take k)
      rw [List.length_take] at hsz
      simp only [T.size] at hsz
      have HOF := As.mk hof
      have hrd : rd_T29 l (k : Int) = l.getD k z29 := by unfold rd_T29; rw [Int.toNat_natCast]
      rw [hrd, Int.toNat_natCast] at hx0 hx1
      generalize l.getD k z29 = pr at *
      clear hts hof hrd
      replace hx0 := (hB.cell (World.block_lt_of_cell? w _ hx0)).trans hx0
      replace hx1 := (hB.cell (World.block_lt_of_cell? w _ hx1)).trans hx1
      have p0 : 0 ≤ (k : Int) := by omega
      go_wp2_with (first
        | ((with_reducible refine gate_dst (N := 5) rfl ?_); refine box_event ?hg (N := 5) ?hd (cs := #[.string (⟨#[]⟩ : ByteArray), .string (⟨#[]⟩ : ByteArray)]) (t := 29) ?hr ?_; (case hd => rfl); (case hg => rfl); (case hr => first | (go_simp; done) | (go_simp; rfl)); intro gp hg_gp w1 hx_gp hb_gp; have hB1 := bstep hB hb_gp; have GP := As.mk ((by rw [hg_gp]; exact hB.size) : w.heap.size ≤ gp); have GQ := As.mk (Nat.le_of_eq hg_gp.symm); clear hg_gp; obtain ⟨x0, x1⟩ := cells2 hx_gp; have z0 := blk_frozen hx_gp 0; have z1 := blk_frozen hx_gp 1)
        | (go_at_call 77; refine (put_calls pr.f0 pr.f1 (T.ofL .nil (l.take k)) q _ ?h1 (by omega)).mono ?_; (case h1 => exact hq.below ((hb_gp.setCell (p := ⟨gp, 0, none⟩) GQ.out _).setCell (p := ⟨gp, 1, none⟩) GQ.out _)); rintro e w2 ⟨q2, rfl, hq2, hb2⟩; have hB2 := bstep ((hB1.setCell (p := ⟨gp, 0, none⟩) GP.out (.string pr.f0)).setCell (p := ⟨gp, 1, none⟩) GP.out (.string pr.f1)) hb2))
      go_roundg (l.length - (k + 1))
      case measure => omega
      case rel => exact ⟨q2, k + 1, rfl, by go_num, ⟨by rw [HOF.out]; exact hq2, by omega, Nat.le_refl _, hB2⟩⟩
    · obtain rfl : k = l.length := by omega
      rw [List.take_length] at hq
      go_wp2_with (first | ((with_reducible refine gate_dst (N := 18) rfl ?_); refine box_event ?hg (N := 18) ?hd (cs := #[.pointer q]) (t := 83) ?hr ?_; (case hd => rfl); (case hg => rfl); (case hr => first | (go_simp; done) | (go_simp; rfl)); intro gt hg_gt wt hx_gt hb_gt; clear hg_gt))
      go_ret
      exact ⟨_, rfl, Or.inr ⟨_, q, rfl, hx_gt, hq.below hb_gt⟩, bstep hB hb_gt⟩

set_option maxHeartbeats 1000000 in
set_option maxRecDepth 100000 in
theorem does_calls (p : Option Addr) (t : T) (k : S27) (w : World) (h : IsTr w p t) (hs : t.size < 900000000) :
    Calls Try.prog 30 #[.pointer p, .agg #[.int .i64 k.f0, .string k.f1, .string k.f2]] w fun e w' => ∃ p', e = .returned (.pointer p') ∧ IsTr w' p' (t.step k) ∧ Below w.heap.size w w' := by
  cases hc : T.isPut k with
  | true =>
    have hc' : decide (bits BinOp.and IntKind.i64 k.f0 7 < 6) = true := hc
    rw [show t.step k = t.tput k.f1 k.f2 by unfold T.step; rw [hc]; rfl]
    obtain ⟨a, b, c⟩ := k
    dsimp only at *
    clear hc
    go_enter Try.func30, Try.ntmps30
    go_wp2_with (first
      | ((with_reducible refine gate_dst (N := 3) rfl ?_); refine box_event ?hg (N := 3) ?hd (cs := #[.int .i64 a, .string b, .string c]) (t := 27) ?hr ?_; (case hd => rfl); (case hg => rfl); (case hr => first | (go_simp; done) | (go_simp; rfl)); intro gk hg_gk w1 hx_gk hb_gk; clear hg_gk; have x0 := (heap_cell hx_gk 0).trans rfl; have x1 := (heap_cell hx_gk 1).trans rfl; have x2 := (heap_cell hx_gk 2).trans rfl)
      | (go_at_call 36; refine (Put_calls p t b c _ (h.below hb_gk) hs).mono ?_; rintro e w2 ⟨p2, rfl, h2, hb2⟩))
    go_ret
    exact ⟨_, rfl, h2, bstep hb_gk hb2⟩
  | false =>
    have hc' : decide (bits BinOp.and IntKind.i64 k.f0 7 < 6) = false := hc
    rw [show t.step k = t.tdrop k.f1 by unfold T.step; rw [hc]; rfl]
    obtain ⟨a, b, c⟩ := k
    dsimp only at *
    clear hc
    go_enter Try.func30, Try.ntmps30
    go_wp2_with (first
      | ((with_reducible refine gate_dst (N := 3) rfl ?_); refine box_event ?hg (N := 3) ?hd (cs := #[.int .i64 a, .string b, .string c]) (t := 27) ?hr ?_; (case hd => rfl); (case hg => rfl); (case hr => first | (go_simp; done) | (go_simp; rfl)); intro gk hg_gk w1 hx_gk hb_gk; clear hg_gk; have x0 := (heap_cell hx_gk 0).trans rfl; have x1 := (heap_cell hx_gk 1).trans rfl; have x2 := (heap_cell hx_gk 2).trans rfl)
      | (go_at_call 37; refine (Drop_calls p t b _ (h.below hb_gk) (by omega)).mono ?_; rintro e w2 ⟨p2, rfl, h2, hb2⟩))
    go_ret
    exact ⟨_, rfl, h2, bstep hb_gk hb2⟩

end Go.Proofs.Ytehnkoglhbbfjaa
