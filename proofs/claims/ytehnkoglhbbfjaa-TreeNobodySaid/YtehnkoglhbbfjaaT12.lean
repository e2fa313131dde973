/-
  The walk of awake: the examples hold.
-/
import Derived.Test.YtehnkoglhbbfjaaT11
set_option linter.unusedVariables false
set_option linter.unusedSimpArgs false
namespace Go.Proofs.Ytehnkoglhbbfjaa
open Go.RowKit Go.Proofs.YtehnkoglhbbfjaaW.PrintWords Go.Proofs.YtehnkoglhbbfjaaW.PrintLast Go.Proofs.YtehnkoglhbbfjaaW.PrintMore PAll

def awT : T := T.ofL .nil [⟨⟨#[98]⟩, ⟨#[49]⟩⟩, ⟨⟨#[97]⟩, ⟨#[50]⟩⟩, ⟨⟨#[98]⟩, ⟨#[51]⟩⟩]
def awU : T := T.ofL .nil [⟨⟨#[98]⟩, ⟨#[52]⟩⟩]
def awL : List S29 := [⟨⟨#[97]⟩, ⟨#[50]⟩⟩, ⟨⟨#[98]⟩, ⟨#[51]⟩⟩]
def awE : List S51 := [⟨0, ⟨#[97]⟩, true, ⟨#[50]⟩, false, ⟨#[]⟩⟩, ⟨0, ⟨#[98]⟩, true, ⟨#[51]⟩, true, ⟨#[52]⟩⟩]
theorem awT_size : awT.size = 2 := by decide +kernel
theorem awU_size : awU.size = 1 := by decide +kernel
theorem awT_all : awT.all = awL := by decide +kernel
theorem awT_rank : awT.rank ⟨#[98]⟩ = 1 := by decide +kernel
theorem awT_floor : awT.floor ⟨#[97, 97]⟩ = ((⟨#[97]⟩, ⟨#[50]⟩), true) := by decide +kernel
theorem aw_diff : T.diff awT awU = awE := by kernel_rfl

/-- A slice of events that can be read. -/
def SlE (w : World) (v : Value) (l : List S51) : Prop := ∃ A c, v = .slice A l.length c ∧ l.length ≤ c ∧ Kd.C k51 w A l.length l
theorem SlE.below {w w' : World} {v : Value} {l : List S51} (h : SlE w v l) (hb : Below w.heap.size w w') : SlE w' v l := by
  obtain ⟨A, c, rfl, h1, h2⟩ := h
  exact ⟨A, c, rfl, h1, Kd.C_below h2 hb⟩
theorem SlE.of_R {w : World} {v : Value} {l : List S51} {base : Nat} {ok : Nat → Prop} (h : Kd.R k51 51 w base ok v l) : SlE w v l := by
  obtain ⟨A, c, h1, h2, h3⟩ := Kd.R_reads h
  exact ⟨A, c, h1, h2, h3⟩
theorem Events_calls (u v : Value) (x : List S51) (w : World) (hx : SlE w u x) (hy : SlE w v x) (hs : x.length < 4398046511104) :
    Calls Try.prog 34 #[u, v] w fun e w' => e = .returned (.bool true) ∧ Below w.heap.size w w' := by
  obtain ⟨A, c, rfl, h1, h2⟩ := hx
  obtain ⟨A', c', rfl, h3, h4⟩ := hy
  exact (api_Event.calls _ A c x A' c' x true w h2 h1 h4 h3 (Event_f x hs)).mono fun _ _ ⟨h, k⟩ => ⟨h, drawn_below k⟩
theorem pair_calls (a b : ByteArray) (w : World) : Calls Try.prog 21 #[.string a, .string b] w fun e w' => e = .returned (.agg #[.string a, .string b]) ∧ Below w.heap.size w w' :=
  tidemarklaw03_pair.calls a b a b w rfl
theorem Of_awake (v : Value) (w : World) (h : Sl w v [⟨⟨#[98]⟩, ⟨#[49]⟩⟩, ⟨⟨#[97]⟩, ⟨#[50]⟩⟩, ⟨⟨#[98]⟩, ⟨#[51]⟩⟩]) :
    Calls Try.prog 22 #[v] w fun e w' => ∃ p', e = .returned (.pointer p') ∧ IsTr w' p' awT ∧ Below w.heap.size w w' := by
  obtain ⟨A, c, rfl, h1, h2⟩ := h
  exact Of_calls _ A c w h2 h1 (by decide)
theorem Of_awake' (v : Value) (w : World) (h : Sl w v [⟨⟨#[98]⟩, ⟨#[52]⟩⟩]) :
    Calls Try.prog 22 #[v] w fun e w' => ∃ p', e = .returned (.pointer p') ∧ IsTr w' p' awU ∧ Below w.heap.size w w' := by
  obtain ⟨A, c, rfl, h1, h2⟩ := h
  exact Of_calls _ A c w h2 h1 (by decide)
theorem Floor_awake (p : Option Addr) (w : World) (h : IsTr w p awT) :
    Calls Try.prog 40 #[.pointer p, .string ⟨#[97, 97]⟩] w fun e w' => e = .returned (.tuple #[.agg #[.string ⟨#[97]⟩, .string ⟨#[50]⟩], .bool true]) ∧ Below w.heap.size w w' := by
  have := Floor_calls p awT ⟨#[97, 97]⟩ w h (by rw [awT_size]; decide)
  rw [awT_floor] at this
  exact this
theorem Diff_awake (p q : Option Addr) (w : World) (h : IsTr w p awT) (h' : IsTr w q awU) :
    Calls Try.prog 33 #[.pointer p, .pointer q] w fun e w' => ∃ v', e = .returned v' ∧ SlE w' v' awE ∧ Below w.heap.size w w' := by
  have := Diff_calls p q awT awU w h h' (by rw [awT_size, awU_size]; decide)
  rw [aw_diff] at this
  exact this.mono fun _ _ ⟨v, h1, h2, h3⟩ => ⟨v, h1, SlE.of_R h2, h3⟩
theorem All_awake (p : Option Addr) (w : World) (h : IsTr w p awT) :
    Calls Try.prog 25 #[.pointer p] w fun e w' => ∃ v', e = .returned v' ∧ Sl w' v' awL ∧ Below w.heap.size w w' := by
  have := All_calls p awT w h (by rw [awT_size]; decide)
  rw [awT_all] at this
  exact this.mono fun _ _ ⟨v, h1, h2, h3⟩ => ⟨v, h1, Sl.of_R h2, h3⟩
theorem Rank_awake (p : Option Addr) (w : World) (h : IsTr w p awT) :
    Calls Try.prog 44 #[.pointer p, .string ⟨#[98]⟩] w fun e w' => e = .returned (.int .i64 1) ∧ Below w.heap.size w w' := by
  have := Rank_calls p awT ⟨#[98]⟩ w h (by rw [awT_size]; decide)
  rw [awT_rank] at this
  exact this.mono fun _ _ ⟨n, h1, h2⟩ => ⟨h1, by rw [h2]; exact pw_below_drewN (Below.refl _ _) n⟩
theorem Pairs_awake (u v : Value) (w : World) (hx : Sl w u awL) (hy : Sl w v awL) :
    Calls Try.prog 61 #[u, v] w fun e w' => e = .returned (.bool true) ∧ Below w.heap.size w w' := by
  have := Pairs_calls u v awL awL w hx hy (by decide)
  rw [decide_eq_true rfl] at this
  exact this


theorem R_lit_new {α : Type} (d : Kd α) (W : World) (e : Nat) (xs : List α) (inner : List Value) (hrep : Reps (d.M W 0 (fun _ => True)) d.sz xs inner) (hm : xs.length ≤ 9223372036854775807) :
    d.R e (W.alloc (.cells inner.toArray e)) 0 (fun _ => True) (.slice (some ⟨W.heap.size, 0, none⟩) xs.length xs.length) xs := by
  refine ⟨fun k hk => trivial, inner, ?_, ?_⟩
  · have h2 := World.ownsRow_lit (base := 0) (e := e) (size := d.sz) W inner.toArray xs.length (Nat.zero_le _) (by simpa [maxLen] using hm) (by simpa using hrep.1)
    simpa using h2
  · refine hrep.imp_ (fun p c hp => d.M_mono (fun k hk => ⟨trivial, fun he => ?_⟩) (Kd.M_below (d.M_bound hp) (below_alloc (Below.refl _ _) _)))
    have h3 : k = W.heap.size := by simpa [Value.ownBlock] using he
    have := hk.2.2.1
    omega
theorem awL_new (W : World) : Sl (W.alloc (.cells #[.string ⟨#[97]⟩, .string ⟨#[50]⟩, .string ⟨#[98]⟩, .string ⟨#[51]⟩] 29)) (.slice (some ⟨W.heap.size, 0, none⟩) 2 2) awL :=
  Sl.of_R (R_lit_new k29 W 29 awL [.string ⟨#[97]⟩, .string ⟨#[50]⟩, .string ⟨#[98]⟩, .string ⟨#[51]⟩] (Reps.c2 (k29_mkM _ _ _ _) (Reps.c2 (k29_mkM _ _ _ _) (Reps.none _ _))) (by decide))
theorem awE_new (W : World) : SlE (W.alloc (.cells #[.int .i64 0, .string ⟨#[97]⟩, .bool true, .string ⟨#[50]⟩, .bool false, .string ⟨#[]⟩, .int .i64 0, .string ⟨#[98]⟩, .bool true, .string ⟨#[51]⟩, .bool true, .string ⟨#[52]⟩] 51)) (.slice (some ⟨W.heap.size, 0, none⟩) 2 2) awE :=
  SlE.of_R (R_lit_new k51 W 51 awE [.int .i64 0, .string ⟨#[97]⟩, .bool true, .string ⟨#[50]⟩, .bool false, .string ⟨#[]⟩, .int .i64 0, .string ⟨#[98]⟩, .bool true, .string ⟨#[51]⟩, .bool true, .string ⟨#[52]⟩] (Reps.c6 (k51_mkM _ _ _ _) (Reps.c6 (k51_mkM _ _ _ _) (Reps.none _ _))) (by decide))

structure AwK (g : Nat) (p : Option Addr) (v : Value) (w : World) : Prop where
  t : IsTr w p awT
  f : w.heap[g]? = some (.cells #[.string ⟨#[97]⟩, .string ⟨#[50]⟩] 29 (0, 0))
  d : SlE w v awE
theorem AwK.below {g : Nat} {p : Option Addr} {v : Value} {w w' : World} (h : AwK g p v w) (hb : Below w.heap.size w w') : AwK g p v w' := ⟨h.t.below hb, blk_step h.f hb, h.d.below hb⟩

set_option maxHeartbeats 2000000 in
set_option maxRecDepth 100000 in
theorem awake_calls (w : World) : Calls Try.prog 20 #[] w fun e w' => e = .returned (.bool true) ∧ Below w.heap.size w w' := by
  have hB := Below.refl w.heap.size w
  go_enter Try.func20, Try.ntmps20
  go_wp2_with (first
    | (go_at_call 21; have hb1 := (Below.refl wg.heap.size wg).alloc (Nat.le_refl _) (Obj.cells #[.string ⟨#[97]⟩, .string ⟨#[50]⟩] 29); have hF := heap_alloc_new wg (Obj.cells #[.string ⟨#[97]⟩, .string ⟨#[50]⟩] 29); replace hT := hT.below hb1; replace hB := bstep hB hb1; clear hb1; refine (pair_calls _ _ _).mono ?_; rintro e w2 ⟨rfl, hb⟩; have HN := As.mk (And.intro (blk_step hF hb) (And.intro (hT.below hb) (bstep hB hb))); clear hb hF hT hB)
    | (go_at_call 21; refine (pair_calls _ _ _).mono ?_; rintro e w1 ⟨rfl, hb⟩; replace hB := bstep hB hb; clear hb)
    | ((with_reducible refine gate_dst (N := 8) rfl ?_); refine Kd.R_lit k29 _ 29 ?hg (N := 8) ?hd (xs := ([⟨⟨#[98]⟩, ⟨#[49]⟩⟩, ⟨⟨#[97]⟩, ⟨#[50]⟩⟩, ⟨⟨#[98]⟩, ⟨#[51]⟩⟩] : List S29)) (inner := ([.string ⟨#[98]⟩, .string ⟨#[49]⟩, .string ⟨#[97]⟩, .string ⟨#[50]⟩, .string ⟨#[98]⟩, .string ⟨#[51]⟩] : List Value)) (ok := fun _ => True) (okp := fun _ => True) ?hr ?hp (fun _ hk => hk) trivial (Below.refl _ _) (Nat.le_refl _) (by decide) ?_; (case hd => rfl); (case hg => rfl); (case hr => first | (go_simp; done) | (go_simp; rfl)); (case hp => exact (Reps.c2 (k29_mkM _ _ _ _) (Reps.c2 (k29_mkM _ _ _ _) (Reps.c2 (k29_mkM _ _ _ _) (Reps.none _ _))))); intro v8 w1 hR_v8 hb_v8 _ _; replace hB := bstep hB hb_v8; replace hR_v8 := Sl.of_R hR_v8; clear hb_v8)
    | ((with_reducible refine gate_dst (N := 17) rfl ?_); refine Kd.R_lit k29 _ 29 ?hg (N := 17) ?hd (xs := ([⟨⟨#[98]⟩, ⟨#[52]⟩⟩] : List S29)) (inner := ([.string ⟨#[98]⟩, .string ⟨#[52]⟩] : List Value)) (ok := fun _ => True) (okp := fun _ => True) ?hr ?hp (fun _ hk => hk) trivial (Below.refl _ _) (Nat.le_refl _) (by decide) ?_; (case hd => rfl); (case hg => rfl); (case hr => first | (go_simp; done) | (go_simp; rfl)); (case hp => exact (Reps.c2 (k29_mkM _ _ _ _) (Reps.none _ _))); intro v17 w1 hR_v17 hb_v17 _ _; replace HN := As.mk (And.intro (blk_step HN.out.1 hb_v17) (And.intro (HN.out.2.1.below hb_v17) (bstep HN.out.2.2 hb_v17))); replace hR_v17 := Sl.of_R hR_v17; clear hb_v17)
    | (go_at_call 22; refine (Of_awake _ _ hR_v8).mono ?_; rintro e w1 ⟨p1, rfl, hT, hb⟩; replace hB := bstep hB hb; clear hb hR_v8)
    | (go_at_call 22; refine (Of_awake' _ _ hR_v17).mono ?_; rintro e w1 ⟨p2, rfl, hU, hb⟩; replace HN := As.mk (And.intro (blk_step HN.out.1 hb) (And.intro (HN.out.2.1.below hb) (bstep HN.out.2.2 hb))); clear hb)
    | (go_at_call 40; refine (Floor_awake _ _ hT).mono ?_; rintro e wg ⟨rfl, hb⟩; replace hB := bstep hB hb; replace hT := hT.below hb; clear hb)
    | (go_at_call 33; refine (Diff_awake _ _ _ HN.out.2.1 hU).mono ?_; rintro e w1 ⟨v4, rfl, hD, hb⟩; replace HN := As.mk (And.intro (blk_step HN.out.1 hb) (And.intro (HN.out.2.1.below hb) (bstep HN.out.2.2 hb))); clear hb))
  obtain ⟨hF, hT, hB⟩ := HN.out
  generalize wg.heap.size = g at *
  have hK : AwK g p1 v4 w1 := ⟨hT, hF, hD⟩
  clear hD hT hF HN
  have HX : As (∀ w', Below w1.heap.size w1 w' → AwK g p1 v4 w') := ⟨fun w' h => hK.below h⟩
  have hC : Below w1.heap.size w1 w1.drew := (Below.refl _ w1).drew
  have HB := As.mk hB
  obtain ⟨x0, x1⟩ := cells2 hK.f
  clear hK hB hU
  go_region_held3 (fun w' => w'.cell? ⟨g, 0, none⟩ = some (.string ⟨#[97]⟩) ∧ w'.cell? ⟨g, 1, none⟩ = some (.string ⟨#[50]⟩))
    (first | exact ⟨x0, x1⟩ | exact cells2 (HX.out _ hC).f | exact cells2 (HX.out _ (hC.alloc hC.size _)).f)
    (first
      | (go_at_call 25; refine (All_awake _ _ (HX.out _ hC).t).mono ?_; rintro e w2 ⟨vA, rfl, hA, hb⟩; replace hC := bstep hC hb; clear hb)
      | (go_at_call 21; refine (pair_calls _ _ _).mono ?_; rintro e w2 ⟨rfl, hb⟩; replace hC := bstep hC hb; (try replace hA := hA.below hb); clear hb)
      | (go_at_call 61; have hb0 := hC.alloc hC.size (Obj.cells #[.string ⟨#[97]⟩, .string ⟨#[50]⟩, .string ⟨#[98]⟩, .string ⟨#[51]⟩] 29); replace hA := hA.below ((Below.refl _ _).alloc (Nat.le_refl _) (Obj.cells #[.string ⟨#[97]⟩, .string ⟨#[50]⟩, .string ⟨#[98]⟩, .string ⟨#[51]⟩] 29)); replace hC := hb0; refine (Pairs_awake _ _ _ hA (awL_new _)).mono ?_; rintro e w2 ⟨rfl, hb⟩; replace hC := bstep hC hb; clear hb hb0 hA)
      | (go_at_call 44; refine (Rank_awake _ _ (HX.out _ hC).t).mono ?_; rintro e w2 ⟨rfl, hb⟩; replace hC := bstep hC hb; clear hb)
      | (go_at_call 34; replace hC := hC.alloc hC.size (Obj.cells #[.int .i64 0, .string ⟨#[97]⟩, .bool true, .string ⟨#[50]⟩, .bool false, .string ⟨#[]⟩, .int .i64 0, .string ⟨#[98]⟩, .bool true, .string ⟨#[51]⟩, .bool true, .string ⟨#[52]⟩] 51); refine (Events_calls _ _ awE _ (HX.out _ hC).d (awE_new _) (by decide)).mono ?_; rintro e w2 ⟨rfl, hb⟩; replace hC := bstep hC hb; clear hb))
  go_wp2
  go_ret
  exact ⟨rfl, bstep HB.out hC⟩

end Go.Proofs.Ytehnkoglhbbfjaa
