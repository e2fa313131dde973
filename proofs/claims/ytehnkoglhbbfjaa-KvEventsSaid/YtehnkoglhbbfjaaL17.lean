/-
  The law KvEvents: its walk.
-/
import Derived.Test.YtehnkoglhbbfjaaL16
set_option linter.unusedVariables false
set_option linter.unusedSimpArgs false
namespace Go.Proofs.Ytehnkoglhbbfjaa
open Go.RowKit Go.Proofs.YtehnkoglhbbfjaaW.PrintWords Go.Proofs.YtehnkoglhbbfjaaW.PrintLast Go.Proofs.YtehnkoglhbbfjaaW.PrintMore PAll

theorem info98 : (Try.prog.info? 98).map (fun i => (i.zero, i.size, i.bytes)) = some (some (.agg #[.int .i64 0, .int .i64 0, .slice none 0 0, .slice none 0 0, .string (⟨#[]⟩ : ByteArray), .string (⟨#[]⟩ : ByteArray), .int .i64 0, .string (⟨#[]⟩ : ByteArray), .bool false, .string (⟨#[]⟩ : ByteArray), .bool false, .string (⟨#[]⟩ : ByteArray)]), 12, 168) := by kernel_rfl
/-- Things done, as their cells were read in one world: a row of them whose slices lie elsewhere. -/
def kRaw (W0 : World) : Kd S98 where
  sz := 12
  E := []
  K := fun _ x cs => k98.K W0 x cs
  M := fun _ _ _ x cs => k98.K W0 x cs
  K_len := fun h => k98.K_len h
  K_one := fun h => k98.K_one h
  K_below := fun _ h => h
  K_of_M := fun h => h
  M_mono := fun _ h => h
  M_bound := fun h => h
  M_move := fun _ h => h
  M_lower := fun _ h => h
theorem alloc_size' (w : World) (o : Obj) : (w.alloc o).heap.size = w.heap.size + 1 := Array.size_push _
theorem SlK_of_raw {W0 w : World} {v : Value} {l : List S98} {base : Nat} {ok : Nat → Prop} (h : (kRaw W0).R 98 w base ok v l) (hb : Below W0.heap.size W0 w) : SlK w v l := by
  obtain ⟨A, c, rfl, h1, h2, h3, h4⟩ := Kd.R_reads h
  refine ⟨A, c, rfl, h1, h2, h3, fun hn => ?_⟩
  obtain ⟨ad, e, hc⟩ := h4 hn
  refine ⟨ad, e, fun j p hp => ?_⟩
  obtain ⟨cs, q1, q2, q3⟩ := hc j p hp
  exact ⟨cs, q1, k98.K_below hb q2, q3⟩

set_option maxHeartbeats 4000000 in
set_option maxRecDepth 100000 in
theorem kvEvents_calls (v : Value) (l : List S98) (s : S98) (cs : Array Value) (w : World) (h : SlK w v l) (hz : l.length * 168 ≤ 140737488351232) (hk : k98.K w s cs.toList) :
    Calls Try.prog 17 #[v, .agg cs] w fun e w' => e = .returned (.bool true) ∧ Below w.heap.size w w' := by
  have HK := As.mk h
  obtain ⟨A, c, rfl, hc, hC⟩ := h
  obtain ⟨B2, c2, B3, c3, hcs, hl2, g2, hl3, g3⟩ := k98_open hk
  obtain ⟨d0, d1, d2, d3, d4, d5, e0, e1, e2, e3, e4, e5⟩ := s
  dsimp only at hcs hl2 g2 hl3 g3
  obtain rfl : cs = #[.int .i64 d0, .int .i64 d1, .slice B2 d2.length c2, .slice B3 d3.length c3, .string d4, .string d5, .int .i64 e0, .string e1, .bool e2, .string e3, .bool e4, .string e5] := Array.toList_inj.1 hcs
  clear hcs
  have HS2 : As (SlO w (.slice B2 d2.length c2) d2) := ⟨B2, c2, rfl, hl2, g2⟩
  have HS3 : As (SlO w (.slice B3 d3.length c3) d3) := ⟨B3, c3, rfl, hl3, g3⟩
  have hb1 : Below w.heap.size w (w.alloc (.cells #[.int .i64 d0, .int .i64 d1, .slice B2 d2.length c2, .slice B3 d3.length c3, .string d4, .string d5, .int .i64 e0, .string e1, .bool e2, .string e3, .bool e4, .string e5] 98)) := (Below.refl _ w).alloc (Nat.le_refl _) _
  have HB2 := As.mk (hb1.alloc hb1.size (.cells #[.int .i64 d0, .int .i64 d1, .slice B2 d2.length c2, .slice B3 d3.length c3, .string d4, .string d5, .int .i64 e0, .string e1, .bool e2, .string e3, .bool e4, .string e5] 98))
  have HX2 := As.mk (blk_step (heap_alloc_new w (.cells #[.int .i64 d0, .int .i64 d1, .slice B2 d2.length c2, .slice B3 d3.length c3, .string d4, .string d5, .int .i64 e0, .string e1, .bool e2, .string e3, .bool e4, .string e5] 98)) ((Below.refl _ _).alloc (Nat.le_refl _) (.cells #[.int .i64 d0, .int .i64 d1, .slice B2 d2.length c2, .slice B3 d3.length c3, .string d4, .string d5, .int .i64 e0, .string e1, .bool e2, .string e3, .bool e4, .string e5] 98)))
  have HB0 := As.mk (HB2.out.mono (Nat.zero_le _))
  have hO := R_lit_new (kRaw w) (w.alloc (.cells #[.int .i64 d0, .int .i64 d1, .slice B2 d2.length c2, .slice B3 d3.length c3, .string d4, .string d5, .int .i64 e0, .string e1, .bool e2, .string e3, .bool e4, .string e5] 98)) 98 [⟨d0, d1, d2, d3, d4, d5, ⟨e0, e1, e2, e3, e4, e5⟩⟩] [.int .i64 d0, .int .i64 d1, .slice B2 d2.length c2, .slice B3 d3.length c3, .string d4, .string d5, .int .i64 e0, .string e1, .bool e2, .string e3, .bool e4, .string e5] (Reps.front hk rfl (Reps.none _ _) rfl) (by simp)
  rw [alloc_size'] at hO
  have HO := As.mk hO
  have HRR : As (ReadsRow (k98.K w) 12 ((w.alloc (.cells #[.int .i64 d0, .int .i64 d1, .slice B2 d2.length c2, .slice B3 d3.length c3, .string d4, .string d5, .int .i64 e0, .string e1, .bool e2, .string e3, .bool e4, .string e5] 98)).alloc (.cells #[.int .i64 d0, .int .i64 d1, .slice B2 d2.length c2, .slice B3 d3.length c3, .string d4, .string d5, .int .i64 e0, .string e1, .bool e2, .string e3, .bool e4, .string e5] 98)) A l.length l) := ⟨ReadsRow.imp_ hC HB2.out (fun _ _ hp => hp)⟩
  obtain ⟨m1, m2, m3⟩ := madeF_told l
  have hsz := madeF_size l
  obtain ⟨t, L, hml⟩ : ∃ t L, madeF l = (t, L) := ⟨_, _, rfl⟩
  rw [hml] at m1 m2 m3 hsz
  dsimp only at m1 m2 m3 hsz
  have hds := doF_size d1 t d2 d3
  have hpl := planF_len d1 t d2 d3
  have hde := doF_eq d1 t d2 d3
  have hag := plan_again d1 t d2 d3 m1
  obtain ⟨es, er, hpf⟩ : ∃ es er, planF d1 t d2 d3 = (es, er) := ⟨_, _, rfl⟩
  obtain ⟨D, hD⟩ : ∃ D, doF d1 t d2 d3 = D := ⟨_, rfl⟩
  rw [hD] at hds hde hag
  rw [hpf] at hpl hde hag
  dsimp only at hpl hde hag
  have hsl := T.scan_length ⟨#[]⟩ ⟨#[]⟩ D.size D []
  simp only [List.length_nil, Nat.zero_add] at hsl
  have HSLF : As (D.size ≤ 1000 → ((T.scan ⟨#[]⟩ ⟨#[]⟩ D.size D []).map mkO).length < 4398046511104) := ⟨fun _ => by rw [List.length_map]; omega⟩
  have HML := As.mk hml
  have HPF := As.mk hpf
  have HDD := As.mk hD
  have HDE := As.mk hde
  have HAG := As.mk hag
  clear hml hpf hD hde hag m1 m2 m3 hsl hb1 hO hk hl2 g2 hl3 g3 hC hc
  have T1 := True.intro
  go_enter Try.func17, Try.ntmps17
  go_wp2_with (first
    | ((with_reducible refine gate_builtin (b := .append) (xs := #[.tmp 15, .tmp 16]) rfl ?_); at_builtin; refine Kd.R_append_rows (kRaw w) (Rr := k98.K w) (w0 := w) 0 rfl (.tmp 15) (.tmp 16) 87 98 (.agg #[.int .i64 0, .int .i64 0, .slice none 0 0, .slice none 0 0, .string (⟨#[]⟩ : ByteArray), .string (⟨#[]⟩ : ByteArray), .int .i64 0, .string (⟨#[]⟩ : ByteArray), .bool false, .string (⟨#[]⟩ : ByteArray), .bool false, .string (⟨#[]⟩ : ByteArray)]) 168 rfl Try.underlying87 info98 rfl (show 0 < 12 by decide) (by omega) _ [⟨d0, d1, d2, d3, d4, d5, ⟨e0, e1, e2, e3, e4, e5⟩⟩] l A l.length c (fun _ => True) (fun _ => False) rfl rfl HO.out HRR.out (fun _ _ hk => hk) (fun _ hk => hk.elim) (fun _ _ => trivial) HB0.out (Nat.zero_le _) ?aL ?_; (case aL => simp only [List.length_singleton]; omega); intro v17 w1 ho1 _ hg1 _; have HB := As.mk (turn_below (b := w.heap.size + 1) hg1 (Nat.le_succ _) HB2.out.size |> fun hh => HB2.out.trans hh); have HX := As.mk ((hg1.block w.heap.size (blk_lt HX2.out) (fun e => by have e' : some w.heap.size = some (w.heap.size + 1) := e; injection e' with e'; omega)).trans HX2.out); have HV := As.mk (SlK_of_raw ho1 HB.out); clear ho1 hg1)
    | (go_at_call 66; refine (Short9_calls _ _ _ HV.out).mono ?_; rintro e w2 ⟨b, rfl, hle, hb⟩; have HLE := As.mk hle; have HB := As.mk (bstep HB.out hb); have HX := As.mk (blk_step HX.out hb); clear hb hle HV; rcases b with _ | _)
    | (go_at_call 55; refine (awake9_calls _).mono ?_; rintro e w2 ⟨rfl, hb⟩; have HBZ := As.mk (bstep HB.out hb); clear hb)
    | (go_at_call 67; have hll : l.length ≤ 100 := (by have := HLE.out trivial; simp only [List.length_cons, List.length_append, List.length_nil] at this; omega); refine (madeKv_calls _ l _ (HK.out.below HB.out) hll).mono ?_; rw [HML.out]; rintro e w3 ⟨b1, r1, rfl, hb1, hM1, hR1, hb⟩; obtain ⟨A1, c1, e1, -, -⟩ := Kd.R_reads hR1; subst e1; have HN1 : As (w.heap.size ≠ b1) := ⟨by have := blk_lt HX.out; omega⟩; have HW1 := As.mk (Nat.le_trans HB.out.size hb1); have HM1 := As.mk hM1; have HB := As.mk (bstep HB.out hb); have HX := As.mk (blk_step HX.out hb); clear hb hM1 hb1 hR1)
    | (go_at_call 73; refine (kvClone_calls b1 t _ HM1.out).mono ?_; rintro e w4 ⟨b2, rfl, hb2, hM2, hb⟩; have HN2 : As (w.heap.size ≠ b2) := ⟨by have := blk_lt HX.out; omega⟩; have H12 : As (b1 ≠ b2) := ⟨by have := HM1.out.lt; omega⟩; have HW2 := As.mk (Nat.le_trans HB.out.size hb2); have HM1 := As.mk (HM1.out.below hb); have HB := As.mk (bstep HB.out hb); have HX := As.mk (blk_step HX.out hb); have HM2 := As.mk hM2; have y1 := (heap_cell HX.out 1).trans rfl; have y2 := (heap_cell HX.out 2).trans rfl; have y3 := (heap_cell HX.out 3).trans rfl; clear hb hM2 hb2)
    | (go_at_call 74; have _t := T1; refine (kvDo_calls b1 t d1 _ _ d2 d3 _ HM1.out (HS2.out.below HB.out) (HS3.out.below HB.out) (by omega)).mono ?_; rw [HPF.out, HDD.out]; rintro e w5 ⟨r5, rfl, hR5, hM5, hG5⟩; have HE5 := As.mk (Kd.R_mono (Kd.R_bound hR5) (ok' := fun k => k ≠ b2) (fun k hk => by have := HM2.out.lt; have := hk.2.1; omega)); obtain ⟨A5, c5, rfl⟩ := Kd.R_slice hR5; have HM2 := As.mk (HM2.out.turn HM1.out (fun e => H12.out e.symm) hG5); have HX := As.mk (blk_grown HX.out hG5 (fun e => HN1.out (by cases e; rfl))); have HB := As.mk (HB.out.trans (turn_below hG5 HW1.out HB.out.size)); have HM1 := As.mk hM5; have y1 := (heap_cell HX.out 1).trans rfl; have y2 := (heap_cell HX.out 2).trans rfl; have y3 := (heap_cell HX.out 3).trans rfl; clear hR5 hM5 hG5 T1)
    | (go_at_call 75; refine (kvPlan_calls b2 t d1 _ _ d2 d3 _ HM2.out (HS2.out.below HB.out) (HS3.out.below HB.out) (by omega)).mono ?_; rw [HPF.out]; rintro e w6 ⟨r6, rfl, hR6, hb⟩; have HS6 := As.mk (SlB_of_R hR6 HM2.out.lt); obtain ⟨A6, c6, rfl⟩ := Kd.R_slice hR6; have HE6 := As.mk (SlE.of_R (Kd.R_mono (Kd.R_bound hR6) (ok' := fun k => k ≠ b2) (fun k hk => by have := HM2.out.lt; have := hk.2.1; omega))); have HR6 := As.mk (Kd.R_mono (Kd.R_bound hR6) (ok' := fun k => k ≠ b2) (fun k hk => by have := HM2.out.lt; have := hk.2.1; omega)); have HE5 := As.mk (Kd.R_below HE5.out hb); have HM1 := As.mk (HM1.out.below hb); have HM2 := As.mk (HM2.out.below hb); have HB := As.mk (bstep HB.out hb); have HX := As.mk (blk_step HX.out hb); clear hR6 hb)
    | (go_at_call 70; refine (kvTake_calls b2 t _ es _ HM2.out HS6.out (by omega)).mono ?_; rw [← HDE.out]; rintro e w7 ⟨rfl, hM7, hG7⟩; have HE5 := As.mk (SlE.of_R (Kd.R_grown HE5.out hG7 (fun k hk e => hk (by cases e; rfl)))); have HE6 := As.mk (SlE.of_R (Kd.R_grown HR6.out hG7 (fun k hk e => hk (by cases e; rfl)))); have HM1 := As.mk (HM1.out.turn HM2.out H12.out hG7); have HX := As.mk (blk_grown HX.out hG7 (fun e => HN2.out (by cases e; rfl))); have HB := As.mk (HB.out.trans (turn_below hG7 HW2.out HB.out.size)); have HM2 := As.mk hM7; clear hM7 hG7 HR6 HS6)
    | (go_at_call 34; refine (Events_calls _ _ es _ HE5.out HE6.out (by omega)).mono ?_; rintro e w8 ⟨rfl, hb⟩; have HM1 := As.mk (HM1.out.below hb); have HM2 := As.mk (HM2.out.below hb); have HB := As.mk (bstep HB.out hb); have HX := As.mk (blk_step HX.out hb); clear hb HE5 HE6)
    | (go_at_call_of 72 (Value.pointer (some ⟨b1, 0, none⟩)); refine (kvScan_calls b1 D ⟨#[]⟩ ⟨#[]⟩ _ HM1.out (by omega)).mono ?_; rintro e w9 ⟨v9, rfl, hS, hb⟩; have HV9 := As.mk hS; have HM1 := As.mk (HM1.out.below hb); have HM2 := As.mk (HM2.out.below hb); have HB := As.mk (bstep HB.out hb); have HX := As.mk (blk_step HX.out hb); clear hS hb)
    | (go_at_call_of 72 (Value.pointer (some ⟨b2, 0, none⟩)); refine (kvScan_calls b2 D ⟨#[]⟩ ⟨#[]⟩ _ HM2.out (by omega)).mono ?_; rintro e w10 ⟨v10, rfl, hS, hb⟩; have HV10 := As.mk hS; have HM1 := As.mk (HM1.out.below hb); have HM2 := As.mk (HM2.out.below hb); have HV9 := As.mk (HV9.out.below hb); have HB := As.mk (bstep HB.out hb); have HX := As.mk (blk_step HX.out hb); clear hS hb)
    | (go_at_call 71; refine (OpsEq_calls _ _ _ _ HV9.out HV10.out (HSLF.out (by omega))).mono ?_; rintro e w11 ⟨rfl, hb⟩; have HM1 := As.mk (HM1.out.below hb); have HB := As.mk (bstep HB.out hb); have HX := As.mk (blk_step HX.out hb); have y1 := (heap_cell HX.out 1).trans rfl; have y2 := (heap_cell HX.out 2).trans rfl; have y3 := (heap_cell HX.out 3).trans rfl; by_cases he : er = 0; all_goals clear hb HV9 HV10)
    | (go_at_call 74; refine (kvDo_calls b1 D d1 (.slice none 0 0) _ [] d3 _ HM1.out ⟨none, 0, rfl, Nat.le_refl _, Kd.C_nil _ _⟩ (HS3.out.below HB.out) (by omega)).mono ?_; rw [HAG.out he]; rintro e w12 ⟨r12, rfl, hR12, hM12, hG12⟩; obtain ⟨A12, c12, rfl⟩ := Kd.R_slice hR12; have HB := As.mk (HB.out.trans (turn_below hG12 HW1.out HB.out.size)); clear hR12 hM12 hG12))
  all_goals
    go_ret
    exact ⟨rfl, HBZ.out⟩

end Go.Proofs.Ytehnkoglhbbfjaa
