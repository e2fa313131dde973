/-
  The law TreePlaces: its walk.
-/
import Derived.Test.YtehnkoglhbbfjaaT13
namespace Go.Proofs.Ytehnkoglhbbfjaa
open Go.RowKit Go.Proofs.YtehnkoglhbbfjaaW.PrintWords Go.Proofs.YtehnkoglhbbfjaaW.PrintLast Go.Proofs.YtehnkoglhbbfjaaW.PrintMore PAll

/-- Boxes of pairs. -/
def Bx (w : World) : List (Nat × ByteArray × ByteArray) → Prop
  | [] => True
  | (g, a, b) :: r => w.heap[g]? = some (.cells #[.string a, .string b] 29 (0, 0)) ∧ Bx w r
theorem Bx.below {w w' : World} {l : List (Nat × ByteArray × ByteArray)} (h : Bx w l) (hb : Below w.heap.size w w') : Bx w' l := by
  induction l with
  | nil => trivial
  | cons x r ih => exact ⟨blk_step h.1 hb, ih h.2⟩
theorem Bx.new {w : World} {l : List (Nat × ByteArray × ByteArray)} (a b : ByteArray) (h : Bx w l) : Bx (w.alloc (.cells #[.string a, .string b] 29)) ((w.heap.size, a, b) :: l) :=
  ⟨heap_alloc_new _ _, h.below ((Below.refl _ w).alloc (Nat.le_refl _) _)⟩

theorem RankB_calls (p : Option Addr) (t : T) (key : ByteArray) (w : World) (h : IsTr w p t) (hs : t.size < 1000000000) (rk : Nat) (hr : rk = t.rank key) :
    Calls Try.prog 44 #[.pointer p, .string key] w fun e w' => e = .returned (.int .i64 (rk : Int)) ∧ Below w.heap.size w w' := by
  subst hr
  exact (Rank_calls p t key w h hs).mono fun _ _ ⟨n, h1, h2⟩ => ⟨h1, by rw [h2]; exact pw_below_drewN (Below.refl _ _) n⟩

set_option maxHeartbeats 4000000 in
set_option maxRecDepth 100000 in
theorem treePlaces_calls (v : Value) (l : List S27) (key : ByteArray) (i : Int) (w : World) (h : SlD w v l) :
    Calls Try.prog 6 #[v, .string key, .int .i64 i] w fun e w' => e = .returned (.bool true) ∧ Below w.heap.size w w' := by
  obtain ⟨A, c, rfl, hc, hC⟩ := h
  have HD : As (SlD w (.slice A l.length c) l) := ⟨A, c, rfl, hc, hC⟩
  have HC := As.mk hC
  have HS := As.mk (Short1 l A c w HD.out)
  have hB0 : Below w.heap.size w (w.alloc (.cells #[.slice A l.length c] 22)) := (Below.refl _ w).alloc (Nat.le_refl _) _
  have HB0 := As.mk hB0
  clear hC hc hB0
  go_enter Try.func6, Try.ntmps6
  go_wp2_with (first
    | (go_at_call 19; refine HS.out.mono ?_; rintro e w1 ⟨b, rfl, hle, hb⟩; have HB1 := As.mk (bstep HB0.out hb); have HLE := As.mk hle; clear hb hle; rcases b with _ | _; (first | (have := HLE.out trivial; by_cases hf : 16384 < key.size) | skip))
    | (go_at_call 20; refine (awake_calls _).mono ?_; rintro e w2 ⟨rfl, hb⟩; have HB2 := As.mk (bstep HB1.out hb); clear hb)
    | (go_at_call 27; refine (Made_calls _ l _ (HD.out.below HB1.out) (HLE.out trivial)).mono ?_; rintro e w3 ⟨p, Ax, cx, t, rfl, -, hts, htl, hT, hR, hb⟩; have HT := As.mk hT; have HX := As.mk (Sl.of_R hR); have HB := As.mk (bstep HB1.out hb); have HBX : As (Bx w3 []) := ⟨trivial⟩; have HTL := As.mk htl; have hxl : t.toL.length ≤ 300 := (by rw [T.toL_length]; omega); have HA := As.mk (T.tat_toL t i); have HF := As.mk (T.floor_toL t key htl); have HCE := As.mk (T.ceil_toL t key htl); have HRK := As.mk (T.rank_toL key t htl); obtain ⟨⟨⟨a1, a2⟩, a3⟩, ha⟩ : ∃ x, x = t.tat i := ⟨_, rfl⟩; obtain ⟨⟨⟨b1, b2⟩, b3⟩, hfl⟩ : ∃ x, x = t.floor key := ⟨_, rfl⟩; obtain ⟨⟨⟨c1, c2⟩, c3⟩, hce⟩ : ∃ x, x = t.ceil key := ⟨_, rfl⟩; obtain ⟨rk, hrk⟩ : ∃ r, r = t.rank key := ⟨_, rfl⟩; have HAE := As.mk ha; have HFE := As.mk hfl; have HCEE := As.mk hce; have HRE := As.mk hrk; clear hT hR hb htl ha hfl hce hrk)
    | (go_at_call 38; refine (At_calls p t i _ HT.out (by omega)).mono ?_; rw [← HAE.out]; rintro e w4 ⟨rfl, hb⟩; have HBX := As.mk (HBX.out.below hb); have HT := As.mk (HT.out.below hb); have HX := As.mk (HX.out.below hb); have HB := As.mk (bstep HB.out hb); clear hb)
    | (go_at_call 39; have HBX := As.mk (Bx.new a1 a2 HBX.out); have hal := (Below.refl w4.heap.size w4).alloc (Nat.le_refl _) (.cells #[.string a1, .string a2] 29); have HT := As.mk (HT.out.below hal); have HX := As.mk (HX.out.below hal); have HB := As.mk (bstep HB.out hal); clear hal; refine (RefAt_calls _ t.toL i _ HX.out (by omega)).mono ?_; rw [HA.out, ← HAE.out]; rintro e w5 ⟨rfl, hb⟩; have HBX := As.mk (HBX.out.below hb); have HT := As.mk (HT.out.below hb); have HX := As.mk (HX.out.below hb); have HB := As.mk (bstep HB.out hb); clear hb)
    | (go_at_call 40; have HBX := As.mk (Bx.new a1 a2 HBX.out); have hal := (Below.refl w5.heap.size w5).alloc (Nat.le_refl _) (.cells #[.string a1, .string a2] 29); have HT := As.mk (HT.out.below hal); have HX := As.mk (HX.out.below hal); have HB := As.mk (bstep HB.out hal); clear hal; refine (Floor_calls p t key _ HT.out (by omega)).mono ?_; rw [← HFE.out]; rintro e w6 ⟨rfl, hb⟩; have HBX := As.mk (HBX.out.below hb); have HT := As.mk (HT.out.below hb); have HX := As.mk (HX.out.below hb); have HB := As.mk (bstep HB.out hb); clear hb)
    | (go_at_call 41; have HBX := As.mk (Bx.new b1 b2 HBX.out); have hal := (Below.refl w6.heap.size w6).alloc (Nat.le_refl _) (.cells #[.string b1, .string b2] 29); have HT := As.mk (HT.out.below hal); have HX := As.mk (HX.out.below hal); have HB := As.mk (bstep HB.out hal); clear hal; refine (RefFloor_calls _ t.toL key _ HX.out (by omega)).mono ?_; rw [HF.out, ← HFE.out]; rintro e w7 ⟨rfl, hb⟩; have HBX := As.mk (HBX.out.below hb); have HT := As.mk (HT.out.below hb); have HX := As.mk (HX.out.below hb); have HB := As.mk (bstep HB.out hb); clear hb)
    | (go_at_call 42; have HBX := As.mk (Bx.new b1 b2 HBX.out); have hal := (Below.refl w7.heap.size w7).alloc (Nat.le_refl _) (.cells #[.string b1, .string b2] 29); have HT := As.mk (HT.out.below hal); have HX := As.mk (HX.out.below hal); have HB := As.mk (bstep HB.out hal); clear hal; refine (Ceil_calls p t key _ HT.out (by omega)).mono ?_; rw [← HCEE.out]; rintro e w8 ⟨rfl, hb⟩; have HBX := As.mk (HBX.out.below hb); have HT := As.mk (HT.out.below hb); have HX := As.mk (HX.out.below hb); have HB := As.mk (bstep HB.out hb); clear hb)
    | (go_at_call 43; have HBX := As.mk (Bx.new c1 c2 HBX.out); have hal := (Below.refl w8.heap.size w8).alloc (Nat.le_refl _) (.cells #[.string c1, .string c2] 29); have HT := As.mk (HT.out.below hal); have HX := As.mk (HX.out.below hal); have HB := As.mk (bstep HB.out hal); clear hal; refine (RefCeil_calls _ t.toL key _ HX.out (by omega)).mono ?_; rw [HCE.out, ← HCEE.out]; rintro e w9 ⟨rfl, hb⟩; have HBX := As.mk (HBX.out.below hb); have HT := As.mk (HT.out.below hb); have HX := As.mk (HX.out.below hb); have HB := As.mk (bstep HB.out hb); clear hb)
    | (go_at_call 44; have HBX := As.mk (Bx.new c1 c2 HBX.out); have hal := (Below.refl w9.heap.size w9).alloc (Nat.le_refl _) (.cells #[.string c1, .string c2] 29); have HT := As.mk (HT.out.below hal); have HX := As.mk (HX.out.below hal); have HB := As.mk (bstep HB.out hal); clear hal; refine (RankB_calls p t key _ HT.out (by omega) rk HRE.out).mono ?_; rintro e w10 ⟨rfl, hb⟩; have HBX := As.mk (HBX.out.below hb); have HT := As.mk (HT.out.below hb); have HX := As.mk (HX.out.below hb); have HB := As.mk (bstep HB.out hb); clear hb)
    | (go_at_call 45; refine (RefRank_calls _ t.toL key _ HX.out (by omega)).mono ?_; rw [← HRK.out, ← HRE.out]; rintro e w11 ⟨rfl, hb⟩; have HBX := As.mk (HBX.out.below hb); have HT := As.mk (HT.out.below hb); have HX := As.mk (HX.out.below hb); have HB := As.mk (bstep HB.out hb); clear hb; obtain ⟨hq0, hq1, hq2, hq3, hq4, hq5, -⟩ := HBX.out; have x00 := (heap_cell hq0 0).trans rfl; have x01 := (heap_cell hq0 1).trans rfl; have x10 := (heap_cell hq1 0).trans rfl; have x11 := (heap_cell hq1 1).trans rfl; have x20 := (heap_cell hq2 0).trans rfl; have x21 := (heap_cell hq2 1).trans rfl; have x30 := (heap_cell hq3 0).trans rfl; have x31 := (heap_cell hq3 1).trans rfl; have x40 := (heap_cell hq4 0).trans rfl; have x41 := (heap_cell hq4 1).trans rfl; have x50 := (heap_cell hq5 0).trans rfl; have x51 := (heap_cell hq5 1).trans rfl; clear hq0 hq1 hq2 hq3 hq4 hq5)
    | (go_at_call 20; refine (awake_calls _).mono ?_; rintro e w12 ⟨rfl, hb⟩; have HBZ := As.mk (bstep HB.out hb); clear hb))
  all_goals (try (go_ret; exact ⟨rfl, HB2.out⟩))
  go_ret
  exact ⟨rfl, HBZ.out⟩

end Go.Proofs.Ytehnkoglhbbfjaa
