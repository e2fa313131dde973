/-
  The law TreeTurns: its walk.
-/
import Derived.Test.YtehnkoglhbbfjaaM8
import Derived.Test.YtehnkoglhbbfjaaR3
namespace Go.Proofs.Ytehnkoglhbbfjaa
open Go.RowKit Go.Proofs.YtehnkoglhbbfjaaW.PrintWords Go.Proofs.YtehnkoglhbbfjaaW.PrintLast Go.Proofs.YtehnkoglhbbfjaaW.PrintMore PAll

set_option maxHeartbeats 1000000 in
set_option maxRecDepth 100000 in
theorem treeTurns_calls (v : Value) (l : List S27) (w : World) (h : SlD w v l) (hz : ∀ s ∈ l, s.f1.size ≤ reachBytes ∧ s.f2.size ≤ reachBytes) :
    Calls Try.prog 8 #[v] w fun e w' => e = .returned (.bool true) ∧ Below w.heap.size w w' := by
  obtain ⟨A, c, rfl, hc, hC⟩ := h
  have HD : As (SlD w (.slice A l.length c) l) := ⟨A, c, rfl, hc, hC⟩
  have HC := As.mk hC
  have HS := As.mk (Short1 l A c w HD.out)
  have hB0 : Below w.heap.size w (w.alloc (.cells #[.slice A l.length c] 22)) := (Below.refl _ w).alloc (Nat.le_refl _) _
  have HB0 := As.mk hB0
  clear hC hc hB0
  have HZ := As.mk hz
  clear hz
  go_enter Try.func8, Try.ntmps8
  go_wp2_with (first
    | (go_at_call 19; refine HS.out.mono ?_; rintro e w1 ⟨b, rfl, hle, hb⟩; have HB1 := As.mk (bstep HB0.out hb); have HLE := As.mk hle; clear hb hle; rcases b with _ | _)
    | (go_at_call 20; refine (awake_calls _).mono ?_; rintro e w2 ⟨rfl, hb⟩; have HB2 := As.mk (bstep HB1.out hb); clear hb)
    | (go_at_call 27; refine (Made_calls _ l _ (HD.out.below HB1.out) (HLE.out trivial)).mono ?_; rintro e w3 ⟨p, Ax, cx, t, rfl, hpl, hts, htl, hT, hR, hb⟩; have HT := As.mk hT; have HB3 := As.mk (bstep HB1.out hb); have HTL := As.mk htl; have HPL := As.mk hpl; clear hT hR hb htl hpl)
    | (go_at_call 26; refine (Len_calls p t w3 HT.out).mono ?_; rintro e w4 ⟨rfl, rfl⟩))
  · go_ret
    exact ⟨rfl, HB2.out⟩
  clear HS HB0 HLE HC HD
  go_loopg [5, 6, 7, 8, 9, 22] t.size (fun m v5 v6 v7 v8 v9 v22 wr => ∃ (k : Nat), v22 = .int .i64 k ∧ As (k ≤ t.size ∧ t.size - k ≤ m ∧ Below w3.heap.size w3 wr))
  case atStart => exact ⟨0, rfl, ⟨Nat.zero_le _, Nat.le_refl _, Below.refl _ _⟩⟩
  case round =>
    obtain ⟨k, rfl, ⟨hk, hm, hB⟩⟩ := hrel
    by_cases hlt : k < t.size
    · have HL := As.mk (T.turns t HTL.out k hlt)
      obtain ⟨⟨⟨a1, a2⟩, a3⟩, ha⟩ : ∃ x, x = t.tat k := ⟨_, rfl⟩
      have HA := As.mk ha
      obtain ⟨e1, e2, e3, e4, x, hx5, e5⟩ := HL.out
      rw [← ha] at e1 e2 e3 e4 e5
      dsimp only at e1 e2 e3 e4 e5
      have hsz : a1.size ≤ 140737488351232 := by
        rw [HPL.out] at hx5
        obtain ⟨s, hs, e⟩ := T.play_keys l x hx5
        rw [← e5, e]
        exact (HZ.out s hs).1
      clear hx5 e5
      subst e1
      have E2 := As.mk e2
      have E3 := As.mk e3.symm
      have E4 := As.mk e4.symm
      have HB := As.mk hB
      clear ha HL e2 e3 e4 hB
      go_wp2_with (first
        | (go_at_call 38; refine (At_calls p t k _ (HT.out.below HB.out) (by omega)).mono ?_; rw [← HA.out]; rintro e w5 ⟨rfl, hb⟩; have HB5 := As.mk (bstep HB.out hb); clear hb)
        | (go_at_call 47; have hal := (Below.refl w5.heap.size w5).alloc (Nat.le_refl _) (.cells #[.string a1, .string a2] 29); have hx := heap_alloc_new w5 (.cells #[.string a1, .string a2] 29); have x0 := (heap_cell hx 0).trans rfl; have x1 := (heap_cell hx 1).trans rfl; have HB6 := As.mk (bstep HB5.out hal); refine (Get_calls p t a1 _ (HT.out.below HB6.out)).mono ?_; rw [E2.out]; rintro e w6 ⟨rfl, rfl⟩)
        | (go_at_call 44; refine (RankB_calls p t _ _ (HT.out.below HB6.out) (by omega) k ?hr).mono ?_; (case hr => with_reducible exact E3.out); rintro e w7 ⟨rfl, hb⟩; have hx := blk_step hx hb; have y0 := (heap_cell hx 0).trans rfl; have y1 := (heap_cell hx 1).trans rfl; have HB6 := As.mk (bstep HB6.out hb); clear hb)
        | (go_at_call 44; refine (RankB_calls p t _ _ (HT.out.below HB6.out) (by omega) (k + 1) ?hr).mono ?_; (case hr => with_reducible exact E4.out); rintro e w7 ⟨rfl, hb⟩; have hx := blk_step hx hb; have y0 := (heap_cell hx 0).trans rfl; have y1 := (heap_cell hx 1).trans rfl; have HB6 := As.mk (bstep HB6.out hb); clear hb))
      go_roundg (t.size - (k + 1))
      case measure => omega
      case rel => exact ⟨k + 1, by go_num, ⟨by omega, Nat.le_refl _, HB6.out⟩⟩
    · have HB := As.mk hB
      clear hB
      go_wp2_with (first
        | (go_at_call 20; refine (awake_calls _).mono ?_; rintro e w9 ⟨rfl, hb⟩; have HB9 := As.mk (bstep HB.out hb); clear hb))
      go_ret
      exact ⟨rfl, bstep HB3.out HB9.out⟩

end Go.Proofs.Ytehnkoglhbbfjaa
