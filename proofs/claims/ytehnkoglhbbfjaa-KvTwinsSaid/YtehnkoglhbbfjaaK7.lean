/-
  The guards of the statements on maps: weigh and short answer; what they let in.
-/
import Derived.Test.YtehnkoglhbbfjaaPAllx6
import Derived.Test.YtehnkoglhbbfjaaPAllx8
import Derived.Test.YtehnkoglhbbfjaaPAllx9
import Derived.Test.YtehnkoglhbbfjaaM1
import Derived.Test.YtehnkoglhbbfjaaK0
import Derived.Test.YtehnkoglhbbfjaaB1
set_option linter.unusedVariables false
set_option linter.unusedSimpArgs false
namespace Go.Proofs.Ytehnkoglhbbfjaa
open Go.RowKit Go.Proofs.YtehnkoglhbbfjaaW.PrintWords Go.Proofs.YtehnkoglhbbfjaaW.PrintLast Go.Proofs.YtehnkoglhbbfjaaW.PrintMore PAll

theorem more_fuel {α : Type} {f : Nat → Option α} (hm : ∀ k, LeO (f k) (f (k + 1))) {K : Nat} {r : α} (h : f K = some r) : ∀ K', K ≤ K' → f K' = some r := by
  intro K' hk
  obtain ⟨d, rfl⟩ := Nat.exists_eq_add_of_le hk
  clear hk
  induction d with
  | zero => exact h
  | succ d ih => exact hm _ _ ih
theorem mn32_range (s : ByteArray) : 0 ≤ mn (s.size : Int) 32768 ∧ mn (s.size : Int) 32768 ≤ 32768 ∧ ((s.size : Int) ≤ 32768 ∨ mn (s.size : Int) 32768 = 32768) := by
  unfold mn
  split
  · exact ⟨by omega, by omega, .inr rfl⟩
  · exact ⟨by omega, by omega, .inl (by omega)⟩
theorem w64m {i n : Nat} (h : i < n) (hn : n ≤ 9223372036854775807) : wrap64 ((i : Int) + 1) = ((i + 1 : Nat) : Int) := by
  unfold wrap64; omega

theorem weigh_l0 (l : List S95) (hl : l.length ≤ 9223372036854775807) : ∀ (d j : Nat) (x3 : Int), j + d = l.length → 0 ≤ x3 → x3 ≤ 98305 →
    ∃ K r, tidemarklaw09_weigh.l0 K l x3 (j : Int) = some r ∧ x3 ≤ r ∧ r ≤ 98305 ∧ (r ≤ 32768 → ∀ o ∈ l.drop j, o.f0.size ≤ 32768 ∧ o.f2.size ≤ 32768) := by
  intro d
  induction d with
  | zero =>
    intro j x3 hj h0 h1
    refine ⟨1, x3, ?_, Int.le_refl _, h1, fun _ o ho => ?_⟩
    · simp only [tidemarklaw09_weigh.l0]
      rw [if_neg (by omega)]
    · rw [List.drop_eq_nil_of_le (by omega)] at ho; cases ho
  | succ d ih =>
    intro j x3 hj h0 h1
    have hlt : j < l.length := by omega
    by_cases c : x3 ≤ 32768
    · have hrd : rd_T95 l (j : Int) = l[j] := by simp [rd_T95, List.getD, hlt]
      have m1 := mn32_range (l[j]).f0
      have m2 := mn32_range (l[j]).f2
      have hdr : l.drop j = l[j] :: l.drop (j + 1) := List.drop_eq_getElem_cons hlt
      generalize hx : x3 + ((1 + mn ((l[j]).f0.size : Int) 32768) + mn ((l[j]).f2.size : Int) 32768) = x at *
      have hw : wrap64 x = x := by unfold wrap64; omega
      obtain ⟨K, r, hr, h2, h3, h4⟩ := ih (j + 1) x (by omega) (by omega) (by omega)
      refine ⟨K + 1, r, ?_, by omega, h3, fun hle o ho => ?_⟩
      · simp only [tidemarklaw09_weigh.l0]
        rw [if_pos (by omega), if_pos c, if_pos (by omega), hrd, hx, hw, w64m hlt hl]
        exact hr
      · rw [hdr] at ho
        rcases List.mem_cons.1 ho with rfl | ho
        · omega
        · exact h4 hle o ho
    · refine ⟨1, x3, ?_, Int.le_refl _, h1, fun hle => absurd hle c⟩
      simp only [tidemarklaw09_weigh.l0]
      rw [if_pos (by omega), if_neg c]
theorem weigh_f (l : List S95) (hl : l.length ≤ 9223372036854775807) : ∃ K r, tidemarklaw09_weigh.f K l = some r ∧ 0 ≤ r ∧ r ≤ 98305 ∧ (r ≤ 32768 → ∀ o ∈ l, o.f0.size ≤ 32768 ∧ o.f2.size ≤ 32768) := by
  obtain ⟨K, r, h1, h2, h3, h4⟩ := weigh_l0 l hl l.length 0 0 (by omega) (by omega) (by omega)
  exact ⟨K, r, h1, h2, h3, h4⟩

theorem short9_end (l : List S98) (x3 x4 : Int) : ∃ b, tidemarklaw09_short.j1 1 l x3 x4 false = some b ∧ (b = true → l.length ≤ 100) := by
  simp only [tidemarklaw09_short.j1]
  by_cases c : (l.length : Int) ≤ 100
  · exact ⟨decide (x3 ≤ 32768), by rw [if_neg (by decide), if_pos c], fun _ => by omega⟩
  · exact ⟨false, by rw [if_neg (by decide), if_neg c], fun h => by cases h⟩
theorem short9_l0 (l : List S98) (hn : ∀ k ∈ l, k.f2.length ≤ 9223372036854775807 ∧ k.f3.length ≤ 9223372036854775807) : ∀ (d i : Nat) (x3 : Int), i + d = 101 → 0 ≤ x3 → x3 ≤ 1000000 →
    ∃ K b, tidemarklaw09_short.l0 K l x3 (i : Int) = some b ∧ (b = true → l.length ≤ 100) := by
  intro d
  induction d with
  | zero =>
    intro i x3 hi h0 h1
    obtain ⟨b, hb, hp⟩ := short9_end l x3 (i : Int)
    refine ⟨2, b, ?_, hp⟩
    simp only [tidemarklaw09_short.l0]
    by_cases c : (i : Int) < l.length
    · rw [if_pos c, if_neg (by omega)]; exact hb
    · rw [if_neg c]; exact hb
  | succ d ih =>
    intro i x3 hi h0 h1
    by_cases c : (i : Int) < l.length
    · by_cases c2 : x3 ≤ 32768
      · have hlt : i < l.length := by omega
        have hrd : rd_T98 l (i : Int) = l[i] := by simp [rd_T98, List.getD, hlt]
        obtain ⟨n2, n3⟩ := hn l[i] (List.getElem_mem hlt)
        obtain ⟨K1, r1, e1, p1, q1, -⟩ := weigh_f (l[i]).f2 n2
        obtain ⟨K2, r2, e2, p2, q2, -⟩ := weigh_f (l[i]).f3 n3
        have m1 := mn32_range (l[i]).f4
        have m2 := mn32_range (l[i]).f5
        have m3 := mn32_range (l[i]).f6.f1
        have m4 := mn32_range (l[i]).f6.f5
        generalize hx : wrap64 (x3 + (wrap64 ((wrap64 ((wrap64 ((wrap64 ((wrap64 (r1 + r2)) + (mn ((l[i]).f4.size : Int) 32768))) + (mn ((l[i]).f5.size : Int) 32768))) + (mn ((l[i]).f6.f1.size : Int) 32768))) + (mn ((l[i]).f6.f5.size : Int) 32768)))) = x
        have hx2 : 0 ≤ x ∧ x ≤ 1000000 := by
          rw [← hx]
          generalize mn ((l[i]).f4.size : Int) 32768 = a1 at *
          generalize mn ((l[i]).f5.size : Int) 32768 = a2 at *
          generalize mn ((l[i]).f6.f1.size : Int) 32768 = a3 at *
          generalize mn ((l[i]).f6.f5.size : Int) 32768 = a4 at *
          have w1 : wrap64 (r1 + r2) = r1 + r2 := by unfold wrap64; omega
          rw [w1]
          have w2 : wrap64 (r1 + r2 + a1) = r1 + r2 + a1 := by unfold wrap64; omega
          rw [w2]
          have w3 : wrap64 (r1 + r2 + a1 + a2) = r1 + r2 + a1 + a2 := by unfold wrap64; omega
          rw [w3]
          have w4 : wrap64 (r1 + r2 + a1 + a2 + a3) = r1 + r2 + a1 + a2 + a3 := by unfold wrap64; omega
          rw [w4]
          have w5 : wrap64 (r1 + r2 + a1 + a2 + a3 + a4) = r1 + r2 + a1 + a2 + a3 + a4 := by unfold wrap64; omega
          rw [w5]
          have w6 : wrap64 (x3 + (r1 + r2 + a1 + a2 + a3 + a4)) = x3 + (r1 + r2 + a1 + a2 + a3 + a4) := by unfold wrap64; omega
          rw [w6]
          omega
        obtain ⟨K3, b, e3, hp⟩ := ih (i + 1) x (by omega) hx2.1 hx2.2
        refine ⟨max K1 (max K2 K3) + 2, b, ?_, hp⟩
        simp only [tidemarklaw09_short.l0]
        rw [if_pos c, if_pos (by omega), decide_eq_true c2]
        simp only [tidemarklaw09_short.j1]
        have f1 := more_fuel (f := fun k => tidemarklaw09_weigh.f k (l[i]).f2) (fun k => tidemarklaw09_weigh.mono _ k) e1 (max K1 (max K2 K3)) (by omega)
        have f2 := more_fuel (f := fun k => tidemarklaw09_weigh.f k (l[i]).f3) (fun k => tidemarklaw09_weigh.mono _ k) e2 (max K1 (max K2 K3)) (by omega)
        have f3 := more_fuel (f := fun k => tidemarklaw09_short.l0 k l x (((i + 1 : Nat)) : Int)) (fun k => (tidemarklaw09_short.mono_l k).1 _ _ _) e3 (max K1 (max K2 K3)) (by omega)
        rw [if_pos trivial, if_pos (by omega), if_pos c, hrd, f1, Option.bind_some, f2, Option.bind_some, hx]
        rw [show wrap64 ((i : Int) + 1) = (((i + 1 : Nat)) : Int) from w64m (n := 101) (by omega) (by omega)]
        exact f3
      · obtain ⟨b, hb, hp⟩ := short9_end l x3 (i : Int)
        refine ⟨2, b, ?_, hp⟩
        simp only [tidemarklaw09_short.l0]
        rw [if_pos c, if_pos (by omega), decide_eq_false c2]
        exact hb
    · obtain ⟨b, hb, hp⟩ := short9_end l x3 (i : Int)
      refine ⟨2, b, ?_, hp⟩
      simp only [tidemarklaw09_short.l0]
      rw [if_neg c]
      exact hb
theorem short9_f (l : List S98) (hn : ∀ k ∈ l, k.f2.length ≤ 9223372036854775807 ∧ k.f3.length ≤ 9223372036854775807) : ∃ K b, tidemarklaw09_short.f K l = some b ∧ (b = true → l.length ≤ 100) := by
  obtain ⟨K, b, h1, h2⟩ := short9_l0 l hn 101 0 0 (by omega) (by omega) (by omega)
  exact ⟨K, b, h1, h2⟩

theorem Op_l0 (x : List S95) (hx : x.length < 4398046511104) : ∀ (d k i : Nat), i + d = x.length → d < k →
    api_Op.l0 k x x (x.length : Int) (i : Int) = some true := by
  intro d
  induction d with
  | zero =>
    intro k i hi hk
    obtain ⟨k, rfl⟩ : ∃ m, k = m + 1 := ⟨k - 1, by omega⟩
    simp only [api_Op.l0]
    rw [if_neg (by omega)]
  | succ d ih =>
    intro k i hi hk
    obtain ⟨k, rfl⟩ : ∃ m, k = m + 1 := ⟨k - 1, by omega⟩
    have hlt : i < x.length := by omega
    simp only [api_Op.l0]
    rw [if_pos (by omega), if_pos (by omega), if_pos (by omega), if_pos (by omega), w64m hlt (by omega), if_neg (by simp), ih k (i + 1) (by omega) (by omega)]
theorem Op_f (x : List S95) (hx : x.length < 4398046511104) : api_Op.f (x.length + 1) x x = some true := by
  unfold api_Op.f
  rw [if_pos rfl, show (0 : Int) = ((0 : Nat) : Int) from rfl, Op_l0 x hx x.length _ 0 (by omega) (by omega)]
end Go.Proofs.Ytehnkoglhbbfjaa

namespace Go.Proofs.Ytehnkoglhbbfjaa
open Go.RowKit Go.Proofs.YtehnkoglhbbfjaaW.PrintWords Go.Proofs.YtehnkoglhbbfjaaW.PrintLast Go.Proofs.YtehnkoglhbbfjaaW.PrintMore PAll

/-- Things done that can be read. -/
def SlK (w : World) (v : Value) (l : List S98) : Prop := ∃ A c, v = .slice A l.length c ∧ l.length ≤ c ∧ Kd.C k98 w A l.length l
theorem SlK.below {w w' : World} {v : Value} {l : List S98} (h : SlK w v l) (hb : Below w.heap.size w w') : SlK w' v l := by
  obtain ⟨A, c, rfl, h1, h2⟩ := h
  exact ⟨A, c, rfl, h1, Kd.C_below h2 hb⟩
theorem C98_len {w : World} {A : Option Addr} {l : List S98} (h : Kd.C k98 w A l.length l) : ∀ k ∈ l, k.f2.length ≤ 9223372036854775807 ∧ k.f3.length ≤ 9223372036854775807 := by
  intro k hk
  obtain ⟨i, hi, rfl⟩ := List.mem_iff_getElem.1 hk
  obtain ⟨ad, B2, c2, B3, c3, -, -, -, -, -, -, -, -, -, -, -, -, -, -, h2, -, h3⟩ := at_T98 h (i : Int) (by omega) (by omega)
  rw [show rd_T98 l (i : Int) = l[i] by simp [rd_T98, List.getD, hi]] at h2 h3
  exact ⟨Kd.C_max h2, Kd.C_max h3⟩
theorem Short9_calls (v : Value) (l : List S98) (w : World) (h : SlK w v l) : Calls Try.prog 66 #[v] w fun e w' => ∃ b, e = .returned (.bool b) ∧ (b = true → l.length ≤ 100) ∧ Below w.heap.size w w' := by
  obtain ⟨A, c, rfl, h1, h2⟩ := h
  obtain ⟨K, b, hb, hp⟩ := short9_f l (C98_len h2)
  exact (tidemarklaw09_short.calls K A c l b w h2 h1 hb).mono fun _ _ ⟨h, k⟩ => ⟨b, h, hp, k⟩
theorem OpsEq_calls (u v : Value) (x : List S95) (w : World) (hx : SlO w u x) (hy : SlO w v x) (hs : x.length < 4398046511104) :
    Calls Try.prog 71 #[u, v] w fun e w' => e = .returned (.bool true) ∧ Below w.heap.size w w' := by
  obtain ⟨A, c, rfl, h1, h2⟩ := hx
  obtain ⟨A', c', rfl, h3, h4⟩ := hy
  exact (api_Op.calls _ A c x A' c' x true w h2 h1 h4 h3 (Op_f x hs)).mono fun _ _ ⟨h, k⟩ => ⟨h, drawn_below k⟩
theorem WeighO_calls (v : Value) (l : List S95) (w : World) (h : SlO w v l) : Calls Try.prog 54 #[v] w fun e w' => ∃ r, e = .returned (.int .i64 r) ∧ 0 ≤ r ∧ r ≤ 98305 ∧ (r ≤ 32768 → ∀ o ∈ l, o.f0.size ≤ 32768 ∧ o.f2.size ≤ 32768) ∧ Below w.heap.size w w' := by
  obtain ⟨A, c, rfl, h1, h2⟩ := h
  obtain ⟨K, r, hr, p1, p2, p3⟩ := weigh_f l (Kd.C_max h2)
  exact (tidemarklaw09_weigh.calls K A c l r w h2 h1 hr).mono fun _ _ ⟨h, k⟩ => ⟨r, h, p1, p2, p3, k⟩

def isDo (k : S98) : Bool := decide (wrap64 ((IntKind.u64.wrap k.f0).tmod 8) < 4)
def stepK (s : T × List S51) (k : S98) : T × List S51 := if isDo k = true then (doF k.f1 s.1 k.f2 k.f3, s.2 ++ (planF k.f1 s.1 k.f2 k.f3).1) else s
def madeF (l : List S98) : T × List S51 := l.foldl stepK (.nil, [])
theorem doF_size (pos : Int) (t : T) (cs os : List S95) : (doF pos t cs os).size ≤ t.size + 6 := by
  unfold doF
  split
  · have h1 := T.doEvs_size (planF pos t cs os).1 t
    have h2 := planF_len pos t cs os
    omega
  · omega
theorem stepK_size (s : T × List S51) (k : S98) : (stepK s k).1.size ≤ s.1.size + 6 ∧ (stepK s k).2.length ≤ s.2.length + 6 := by
  unfold stepK
  split
  · have h1 := doF_size k.f1 s.1 k.f2 k.f3
    have h2 := planF_len k.f1 s.1 k.f2 k.f3
    refine ⟨h1, ?_⟩
    show (s.2 ++ _).length ≤ _
    rw [List.length_append]
    omega
  · omega
theorem foldK_size (l : List S98) : ∀ s : T × List S51, (l.foldl stepK s).1.size ≤ s.1.size + 6 * l.length ∧ (l.foldl stepK s).2.length ≤ s.2.length + 6 * l.length := by
  induction l with
  | nil => intro s; exact ⟨Nat.le_refl _, Nat.le_refl _⟩
  | cons k r ih =>
    intro s
    have h1 := ih (stepK s k)
    have h2 := stepK_size s k
    simp only [List.foldl_cons, List.length_cons]
    omega
theorem madeF_size (l : List S98) : (madeF l).1.size ≤ 6 * l.length ∧ (madeF l).2.length ≤ 6 * l.length := by
  have := foldK_size l (.nil, [])
  simpa [T.size, madeF] using this

theorem IsM.grew {w w' : World} {v v' : Value} {b : Nat} {t : T} (hp : IsM w b t) (h : Grew w w' v v') {α : Type} {d : Kd α} {e base : Nat} {ok : Nat → Prop} {xs : List α} (hR : d.R e w base ok v xs) (he : e ≠ 111) (he' : e ≠ 83) (he2 : e ≠ 119) : IsM w' b t := by
  obtain ⟨g, q, h1, h2, h3⟩ := hp
  obtain ⟨inner, ho⟩ := Kd.R_own hR
  refine ⟨g, q, (h.grown.block b (blk_lt h1) (fun e' => ?_)).trans h1, (h.grown.block g (blk_lt h2) (fun e' => ?_)).trans h2, h3.grew h hR he⟩
  · obtain ⟨cells, hcc⟩ := own_typed ho b e'.symm
    rw [h1] at hcc
    simp only [Option.some.injEq, Obj.cells.injEq] at hcc
    exact he2 hcc.2.1.symm
  · obtain ⟨cells, hcc⟩ := own_typed ho g e'.symm
    rw [h2] at hcc
    simp only [Option.some.injEq, Obj.cells.injEq] at hcc
    exact he' hcc.2.1.symm

set_option maxHeartbeats 4000000 in
set_option maxRecDepth 100000 in
theorem madeKv_calls (v : Value) (l : List S98) (w : World) (h : SlK w v l) (hs : l.length ≤ 100) :
    Calls Try.prog 67 #[v] w fun e w' => ∃ b r, e = .returned (.tuple #[.pointer (some ⟨b, 0, none⟩), r]) ∧ w.heap.size ≤ b ∧ IsM w' b (madeF l).1 ∧ Kd.R k51 51 w' w.heap.size (fun k => k ≠ b) r (madeF l).2 ∧ Below w.heap.size w w' := by
  obtain ⟨A, c, rfl, -, hC⟩ := h
  have HC := As.mk hC
  clear hC
  go_enter Try.func67, Try.ntmps67
  go_wp2_with (first
    | (go_at_call 68; refine (kvNew_calls w).mono ?_; rintro e w0 ⟨b, rfl, hbw, hM, hb⟩; have HM := As.mk hM; have HB := As.mk hb; have HBW := As.mk hbw; clear hb hM hbw))
  go_loopg [5, 7, 8, 9, 10, 14] l.length (fun m v5 v7 v8 v9 v10 v14 wr => ∃ (k : Nat) (TT : T) (X : List S51), v14 = .int .i64 k ∧ As ((TT, X) = madeF (l.take k) ∧ IsM wr b TT ∧ Kd.R k51 51 wr w.heap.size (fun k => k ≠ b) v5 X ∧ k ≤ l.length ∧ l.length - k ≤ m ∧ Below w.heap.size w wr))
  case atStart => exact ⟨0, .nil, [], rfl, ⟨rfl, HM.out, Kd.R_nil _ _ _ _ _, Nat.zero_le _, Nat.le_refl _, HB.out⟩⟩
  case round =>
    obtain ⟨k, TT, X, rfl, ⟨hTX, hM, hR, hk, hm, hB⟩⟩ := hrel
    clear HM HB
    by_cases hlt : k < l.length
    · skip
      obtain ⟨ad, B2, c2, B3, c3, hA, hx0, hx1, hx2, hx3, hx4, hx5, hx6, hx7, hx8, hx9, hx10, hx11, hl2, hc2, hl3, hc3⟩ := at_T98 HC.out (k : Int) (by omega) (by omega)
      subst hA
      have hts := take_snoc l z98 k hlt
      have hrd : rd_T98 l (k : Int) = l.getD k z98 := by unfold rd_T98; rw [Int.toNat_natCast]
      rw [hrd, Int.toNat_natCast] at hx0
      rw [hrd] at hl2 hc2 hl3 hc3
      rw [hrd, Int.toNat_natCast] at hx1 hx2 hx3 hx4 hx5 hx6 hx7 hx8 hx9 hx10 hx11
      have hst : madeF (l.take (k + 1)) = stepK (TT, X) (l.getD k z98) := by rw [hts, madeF, List.foldl_append, hTX]; rfl
      have hsz := madeF_size (l.take k)
      rw [← hTX, List.length_take] at hsz
      generalize l.getD k z98 = dd at *
      clear hts hrd hTX
      obtain ⟨d0, d1, d2, d3, d4, d5, e0, e1, e2, e3, e4, e5⟩ := dd
      dsimp only at hx0 hx1 hx2 hx3 hx4 hx5 hx6 hx7 hx8 hx9 hx10 hx11 hl2 hc2 hl3 hc3
      replace hx0 := (hB.cell (World.block_lt_of_cell? w _ hx0)).trans hx0
      replace hx1 := (hB.cell (World.block_lt_of_cell? w _ hx1)).trans hx1
      replace hx2 := (hB.cell (World.block_lt_of_cell? w _ hx2)).trans hx2
      replace hx3 := (hB.cell (World.block_lt_of_cell? w _ hx3)).trans hx3
      replace hx4 := (hB.cell (World.block_lt_of_cell? w _ hx4)).trans hx4
      replace hx5 := (hB.cell (World.block_lt_of_cell? w _ hx5)).trans hx5
      replace hx6 := (hB.cell (World.block_lt_of_cell? w _ hx6)).trans hx6
      replace hx7 := (hB.cell (World.block_lt_of_cell? w _ hx7)).trans hx7
      replace hx8 := (hB.cell (World.block_lt_of_cell? w _ hx8)).trans hx8
      replace hx9 := (hB.cell (World.block_lt_of_cell? w _ hx9)).trans hx9
      replace hx10 := (hB.cell (World.block_lt_of_cell? w _ hx10)).trans hx10
      replace hx11 := (hB.cell (World.block_lt_of_cell? w _ hx11)).trans hx11
      have p0 : 0 ≤ (k : Int) := by omega
      have HS2 : As (SlO w (.slice B2 d2.length c2) d2) := ⟨B2, c2, rfl, hl2, hc2⟩
      have HS3 : As (SlO w (.slice B3 d3.length c3) d3) := ⟨B3, c3, rfl, hl3, hc3⟩
      clear hl2 hc2 hl3 hc3
      dsimp only at hsz
      have HR := As.mk hR
      have HM := As.mk hM
      have HB := As.mk hB
      obtain ⟨A5, c5, rfl⟩ := Kd.R_slice hR
      clear hR hM hB
      by_cases hdo : wrap64 ((IntKind.u64.wrap d0).tmod 8) < 4
      · rw [stepK, if_pos (show isDo _ = true from decide_eq_true hdo)] at hst
        dsimp only at hst
        obtain ⟨ES, ER, hPF⟩ : ∃ ES ER, planF d1 TT d2 d3 = (ES, ER) := ⟨_, _, rfl⟩
        obtain ⟨UU, hDF⟩ : ∃ UU, doF d1 TT d2 d3 = UU := ⟨_, rfl⟩
        rw [hPF, hDF] at hst
        obtain ⟨Y, hY⟩ : ∃ Y, Y = X ++ ES := ⟨_, rfl⟩
        rw [← hY] at hst
        have HPF := As.mk hPF
        have HDF := As.mk hDF
        have HST := As.mk hst
        have HY := As.mk hY
        clear hst hPF hDF hY
        go_wp2_with (first
          | ((with_reducible refine gate_dst (N := 7) rfl ?_); refine box_event ?hg (N := 7) ?hd (cs := #[.int .i64 0, .int .i64 0, .slice none 0 0, .slice none 0 0, .string (⟨#[]⟩ : ByteArray), .string (⟨#[]⟩ : ByteArray), .int .i64 0, .string (⟨#[]⟩ : ByteArray), .bool false, .string (⟨#[]⟩ : ByteArray), .bool false, .string (⟨#[]⟩ : ByteArray)]) (t := 98) ?hr ?_; (case hd => rfl); (case hg => rfl); (case hr => first | (go_simp; done) | (go_simp; rfl)); intro gd hg_gd w5 hx_gd hb_gd; have HGQ := As.mk (Nat.le_of_eq hg_gd.symm : wr.heap.size ≤ gd); clear hg_gd; have x0 := (heap_cell hx_gd 0).trans rfl; have z0 := blk_frozen hx_gd 0; have x1 := (heap_cell hx_gd 1).trans rfl; have z1 := blk_frozen hx_gd 1; have x2 := (heap_cell hx_gd 2).trans rfl; have z2 := blk_frozen hx_gd 2; have x3 := (heap_cell hx_gd 3).trans rfl; have z3 := blk_frozen hx_gd 3; have x4 := (heap_cell hx_gd 4).trans rfl; have z4 := blk_frozen hx_gd 4; have x5 := (heap_cell hx_gd 5).trans rfl; have z5 := blk_frozen hx_gd 5; have x6 := (heap_cell hx_gd 6).trans rfl; have z6 := blk_frozen hx_gd 6; have x7 := (heap_cell hx_gd 7).trans rfl; have z7 := blk_frozen hx_gd 7; have x8 := (heap_cell hx_gd 8).trans rfl; have z8 := blk_frozen hx_gd 8; have x9 := (heap_cell hx_gd 9).trans rfl; have z9 := blk_frozen hx_gd 9; have x10 := (heap_cell hx_gd 10).trans rfl; have z10 := blk_frozen hx_gd 10; have x11 := (heap_cell hx_gd 11).trans rfl; have z11 := blk_frozen hx_gd 11)
          | (go_at_call 74; have hb2 := ((((((((((((hb_gd.setCell (p := ⟨gd, 0, none⟩) HGQ.out (.int .i64 d0)).setCell (p := ⟨gd, 1, none⟩) HGQ.out (.int .i64 d1)).setCell (p := ⟨gd, 2, none⟩) HGQ.out (.slice B2 d2.length c2)).setCell (p := ⟨gd, 3, none⟩) HGQ.out (.slice B3 d3.length c3)).setCell (p := ⟨gd, 4, none⟩) HGQ.out (.string d4)).setCell (p := ⟨gd, 5, none⟩) HGQ.out (.string d5)).setCell (p := ⟨gd, 6, none⟩) HGQ.out (.int .i64 e0)).setCell (p := ⟨gd, 7, none⟩) HGQ.out (.string e1)).setCell (p := ⟨gd, 8, none⟩) HGQ.out (.bool e2)).setCell (p := ⟨gd, 9, none⟩) HGQ.out (.string e3)).setCell (p := ⟨gd, 10, none⟩) HGQ.out (.bool e4)).setCell (p := ⟨gd, 11, none⟩) HGQ.out (.string e5)); refine (kvDo_calls b TT d1 _ _ d2 d3 _ (HM.out.below hb2) ((HS2.out.below HB.out).below hb2) ((HS3.out.below HB.out).below hb2) (by omega)).mono ?_; have hel := planF_len d1 TT d2 d3; rw [HPF.out] at hel ⊢; rw [HDF.out]; rintro e w6 ⟨r6, rfl, hR6, hM6, hG6⟩; have HRX := As.mk (Kd.R_grown (Kd.R_below HR.out hb2) hG6 (fun k hk e => hk (by cases e; rfl))); have HM6 := As.mk hM6; have HB6 := As.mk ((bstep HB.out hb2).trans (turn_below hG6 HBW.out (Nat.le_trans HB.out.size hb2.size))); obtain ⟨A6, c6, e6, -, hC6⟩ := Kd.R_reads hR6; subst e6; have HC6 := As.mk hC6; clear hb2 hR6 hM6 hG6 hC6 hb_gd)
          | ((with_reducible refine gate_builtin (b := .append) (xs := #[.tmp 36, .tmp 37]) rfl ?_); at_builtin; refine Kd.R_append_rows k51 (Rr := k51.K w6) (w0 := w) w.heap.size rfl (.tmp 36) (.tmp 37) 47 51 (.agg #[.int .i64 0, .string ⟨#[]⟩, .bool false, .string ⟨#[]⟩, .bool false, .string ⟨#[]⟩]) 72 rfl Try.underlying47 info51 rfl (by decide) (by omega) _ X ES A6 ES.length c6 (fun k => k ≠ b) (fun _ => False) rfl rfl ?aO HC6.out (fun x cs hk => by have := k51_open hk; subst this; exact k51_mkM _ _ _ x) (fun _ hk => hk.elim) (fun k hk => by have := HM6.out.lt; omega) ?aB ?aS ?aL ?_; (case aO => exact HRX.out); (case aB => exact HB6.out); (case aS => exact HB6.out.size); (case aL => omega); intro v3 w7 ho3 hB3 hg3 hat3; have HM7 := As.mk (HM6.out.grew ⟨hg3, hat3⟩ HRX.out (by decide) (by decide) (by decide)); have HB7 := As.mk hB3; rw [← HY.out] at ho3; have HR7 := As.mk ho3; obtain ⟨A3, c3', rfl⟩ := Kd.R_slice ho3; clear ho3 hB3 hg3 hat3))
        go_roundg (l.length - (k + 1))
        case measure => omega
        case rel => exact ⟨k + 1, UU, Y, by go_num, ⟨HST.out.symm, HM7.out, HR7.out, by omega, Nat.le_refl _, HB7.out⟩⟩
      · rw [stepK, if_neg (show ¬ isDo _ = true by unfold isDo; rw [decide_eq_false hdo]; decide)] at hst
        have HST := As.mk hst
        clear hst
        go_wp2_with (first
          | ((with_reducible refine gate_dst (N := 7) rfl ?_); refine box_event ?hg (N := 7) ?hd (cs := #[.int .i64 0, .int .i64 0, .slice none 0 0, .slice none 0 0, .string (⟨#[]⟩ : ByteArray), .string (⟨#[]⟩ : ByteArray), .int .i64 0, .string (⟨#[]⟩ : ByteArray), .bool false, .string (⟨#[]⟩ : ByteArray), .bool false, .string (⟨#[]⟩ : ByteArray)]) (t := 98) ?hr ?_; (case hd => rfl); (case hg => rfl); (case hr => first | (go_simp; done) | (go_simp; rfl)); intro gd hg_gd w5 hx_gd hb_gd; have HGQ := As.mk (Nat.le_of_eq hg_gd.symm : wr.heap.size ≤ gd); clear hg_gd; have x0 := (heap_cell hx_gd 0).trans rfl; have z0 := blk_frozen hx_gd 0; have x1 := (heap_cell hx_gd 1).trans rfl; have z1 := blk_frozen hx_gd 1; have x2 := (heap_cell hx_gd 2).trans rfl; have z2 := blk_frozen hx_gd 2; have x3 := (heap_cell hx_gd 3).trans rfl; have z3 := blk_frozen hx_gd 3; have x4 := (heap_cell hx_gd 4).trans rfl; have z4 := blk_frozen hx_gd 4; have x5 := (heap_cell hx_gd 5).trans rfl; have z5 := blk_frozen hx_gd 5; have x6 := (heap_cell hx_gd 6).trans rfl; have z6 := blk_frozen hx_gd 6; have x7 := (heap_cell hx_gd 7).trans rfl; have z7 := blk_frozen hx_gd 7; have x8 := (heap_cell hx_gd 8).trans rfl; have z8 := blk_frozen hx_gd 8; have x9 := (heap_cell hx_gd 9).trans rfl; have z9 := blk_frozen hx_gd 9; have x10 := (heap_cell hx_gd 10).trans rfl; have z10 := blk_frozen hx_gd 10; have x11 := (heap_cell hx_gd 11).trans rfl; have z11 := blk_frozen hx_gd 11))
        have hb2 := ((((((((((((hb_gd.setCell (p := ⟨gd, 0, none⟩) HGQ.out (.int .i64 d0)).setCell (p := ⟨gd, 1, none⟩) HGQ.out (.int .i64 d1)).setCell (p := ⟨gd, 2, none⟩) HGQ.out (.slice B2 d2.length c2)).setCell (p := ⟨gd, 3, none⟩) HGQ.out (.slice B3 d3.length c3)).setCell (p := ⟨gd, 4, none⟩) HGQ.out (.string d4)).setCell (p := ⟨gd, 5, none⟩) HGQ.out (.string d5)).setCell (p := ⟨gd, 6, none⟩) HGQ.out (.int .i64 e0)).setCell (p := ⟨gd, 7, none⟩) HGQ.out (.string e1)).setCell (p := ⟨gd, 8, none⟩) HGQ.out (.bool e2)).setCell (p := ⟨gd, 9, none⟩) HGQ.out (.string e3)).setCell (p := ⟨gd, 10, none⟩) HGQ.out (.bool e4)).setCell (p := ⟨gd, 11, none⟩) HGQ.out (.string e5))
        go_roundg (l.length - (k + 1))
        case measure => omega
        case rel => exact ⟨k + 1, TT, X, by go_num, ⟨HST.out.symm, HM.out.below hb2, Kd.R_below HR.out hb2, by omega, Nat.le_refl _, bstep HB.out hb2⟩⟩
    · obtain rfl : k = l.length := by omega
      rw [List.take_length] at hTX
      have h1 : TT = (madeF l).1 := by rw [← hTX]
      have h2 : X = (madeF l).2 := by rw [← hTX]
      have H1 := As.mk h1
      have H2 := As.mk h2
      have HR := As.mk hR
      have HM := As.mk hM
      have HB := As.mk hB
      obtain ⟨A5, c5, rfl⟩ := Kd.R_slice hR
      clear hTX h1 h2 hR hM hB
      go_wp2_with fail
      go_ret2
      exact ⟨b, _, rfl, HBW.out, by rw [← H1.out]; exact HM.out, by rw [← H2.out]; exact HR.out, HB.out⟩

end Go.Proofs.Ytehnkoglhbbfjaa

namespace Go.Proofs.Ytehnkoglhbbfjaa
open Go.RowKit Go.Proofs.YtehnkoglhbbfjaaW.PrintWords Go.Proofs.YtehnkoglhbbfjaaW.PrintLast Go.Proofs.YtehnkoglhbbfjaaW.PrintMore PAll

theorem grown_below0 {w w' : World} (h : w.grownBy w' none) : Below w.heap.size w w' := ⟨h.os, h.tape, h.output, h.size, fun k hk => h.block k hk (by simp)⟩
theorem SlO.of_R {w : World} {v : Value} {l : List S95} {base : Nat} {ok : Nat → Prop} (h : Kd.R k95 95 w base ok v l) : SlO w v l := by
  obtain ⟨A, c, h1, h2, h3⟩ := Kd.R_reads h
  exact ⟨A, c, h1, h2, h3⟩
theorem put_calls9 (a b : ByteArray) (w : World) : Calls Try.prog 86 #[.string a, .string b] w fun e w' => e = .returned (.agg #[.string a, .bool true, .string b]) ∧ Below w.heap.size w w' :=
  tidemarklaw09_put.calls a b a true b w rfl
def awA : T := .node .nil ⟨#[97]⟩ ⟨#[49]⟩ .nil
def awB : T := .node .nil ⟨#[98]⟩ ⟨#[50]⟩ .nil
def awO : List S95 := [⟨⟨#[97]⟩, true, ⟨#[49]⟩⟩]
def awP : List S95 := [⟨⟨#[97]⟩, false, ⟨#[]⟩⟩, ⟨⟨#[98]⟩, true, ⟨#[50]⟩⟩]
def awQ : List S95 := [⟨⟨#[98]⟩, true, ⟨#[51]⟩⟩]
def awV : List S51 := [⟨5, ⟨#[97]⟩, false, ⟨#[]⟩, true, ⟨#[49]⟩⟩]
theorem aw_p1 : planF 5 .nil [] awO = (awV, 0) := by kernel_rfl
theorem aw_d1 : doF 5 .nil [] awO = awA := by kernel_rfl
theorem aw_p2 : (planF 6 awA awO awP).2 = 0 ∧ (planF 6 awA awO awP).1.length = 2 := ⟨by kernel_rfl, by kernel_rfl⟩
theorem aw_d2 : doF 6 awA awO awP = awB := by kernel_rfl
theorem aw_p3 : planF 7 awB awO awQ = ([], 60) := by kernel_rfl
theorem aw_d3 : doF 7 awB awO awQ = awB := by kernel_rfl
theorem aw_get : T.get awB ⟨#[98]⟩ = (⟨#[50]⟩, true) := by kernel_rfl
theorem aw_size : awB.size = 1 := by kernel_rfl
theorem Do1_calls (b : Nat) (v : Value) (w : World) (h : IsM w b .nil) (hv : SlO w v awO) : Calls Try.prog 74 #[.pointer (some ⟨b, 0, none⟩), .int .i64 5, .slice none 0 0, v] w fun e w' => ∃ A c, e = .returned (.tuple #[.slice A 1 c, .int .i64 0]) ∧ SlE w' (.slice A 1 c) awV ∧ IsM w' b awA ∧ (∀ ad, A = some ad → ad.block ≠ b) ∧ w.grownBy w' (some b) := by
  have := kvDo_calls b .nil 5 (.slice none 0 0) v [] awO w h ⟨none, 0, rfl, Nat.le_refl _, Kd.C_nil _ _⟩ hv (by decide)
  rw [aw_p1, aw_d1] at this
  refine this.mono fun _ _ ⟨r, h1, h2, h3, h4⟩ => ?_
  have h5 := SlE.of_R h2
  obtain ⟨A, c, rfl⟩ := Kd.R_slice h2
  refine ⟨A, c, h1, h5, h3, fun ad e => ?_, h4⟩
  subst e
  obtain ⟨g, rfl⟩ := Kd.R_head h2
  exact h2.1 g rfl
theorem Do2_calls (b : Nat) (u v : Value) (w : World) (h : IsM w b awA) (hu : SlO w u awO) (hv : SlO w v awP) : Calls Try.prog 74 #[.pointer (some ⟨b, 0, none⟩), .int .i64 6, u, v] w fun e w' => ∃ A c, e = .returned (.tuple #[.slice A 2 c, .int .i64 0]) ∧ IsM w' b awB ∧ w.grownBy w' (some b) := by
  have := kvDo_calls b awA 6 u v awO awP w h hu hv (by decide)
  rw [aw_d2, aw_p2.1] at this
  exact this.mono fun _ _ ⟨r, h1, h2, h3, h4⟩ => by
    obtain ⟨A, c, rfl⟩ := Kd.R_slice h2
    rw [aw_p2.2] at h1
    exact ⟨A, c, h1, h3, h4⟩
theorem Do3_calls (b : Nat) (u v : Value) (w : World) (h : IsM w b awB) (hu : SlO w u awO) (hv : SlO w v awQ) : Calls Try.prog 74 #[.pointer (some ⟨b, 0, none⟩), .int .i64 7, u, v] w fun e w' => ∃ r, e = .returned (.tuple #[r, .int .i64 60]) ∧ IsM w' b awB ∧ w.grownBy w' (some b) := by
  have := kvDo_calls b awB 7 u v awO awQ w h hu hv (by decide)
  rw [aw_p3, aw_d3] at this
  exact this.mono fun _ _ ⟨r, h1, h2, h3, h4⟩ => ⟨r, h1, h3, h4⟩
theorem GetA_calls (b : Nat) (w : World) (h : IsM w b awB) : Calls Try.prog 69 #[.pointer (some ⟨b, 0, none⟩), .string ⟨#[98]⟩] w fun e w' => e = .returned (.tuple #[.string ⟨#[50]⟩, .bool true]) ∧ w = w' := by
  have := kvGet_calls b awB ⟨#[98]⟩ w h
  rw [aw_get] at this
  exact this
theorem LenA_calls (b : Nat) (w : World) (h : IsM w b awB) : Calls Try.prog 76 #[.pointer (some ⟨b, 0, none⟩)] w fun e w' => e = .returned (.int .i64 1) ∧ w = w' := by
  have := kvLen_calls b awB w h
  rw [aw_size] at this
  exact this
theorem awV_new (W : World) : SlE (W.alloc (.cells #[.int .i64 5, .string ⟨#[97]⟩, .bool false, .string ⟨#[]⟩, .bool true, .string ⟨#[49]⟩] 51)) (.slice (some ⟨W.heap.size, 0, none⟩) 1 1) awV :=
  SlE.of_R (R_lit_new k51 W 51 awV [.int .i64 5, .string ⟨#[97]⟩, .bool false, .string ⟨#[]⟩, .bool true, .string ⟨#[49]⟩] (Reps.c6 (k51_mkM _ _ _ _) (Reps.none _ _)) (by decide))
theorem SlE_turn {w w' : World} {b : Nat} {A : Option Addr} {n c : Nat} {l : List S51} (h : SlE w (.slice A n c) l) (hne : ∀ ad, A = some ad → ad.block ≠ b) (hg : w.grownBy w' (some b)) : SlE w' (.slice A n c) l := by
  obtain ⟨A', c', e, h1, h2⟩ := h
  cases e
  exact ⟨_, _, rfl, h1, C51_turn h2 hne hg⟩

set_option maxHeartbeats 4000000 in
set_option maxRecDepth 100000 in
theorem awake9_calls (w : World) : Calls Try.prog 55 #[] w fun e w' => e = .returned (.bool true) ∧ Below w.heap.size w w' := by
  go_enter Try.func55, Try.ntmps55
  go_wp2_with (first
    | (go_at_call 68; refine (kvNew_calls w).mono ?_; rintro e w0 ⟨b, rfl, hbw, hM, hb⟩; have HM := As.mk hM; have HB := As.mk hb; have HBW := As.mk hbw; have T1 := True.intro; clear hb hM hbw)
    | (go_at_call 86; have _t := T1; refine (put_calls9 _ _ _).mono ?_; rintro e w1 ⟨rfl, hb⟩; have HM := As.mk (HM.out.below hb); have HB := As.mk (bstep HB.out hb); clear hb T1)
    | ((with_reducible refine gate_dst (N := 14) rfl ?_); refine Kd.R_lit k95 _ 95 ?hg (N := 14) ?hd (xs := ([⟨⟨#[97]⟩, true, ⟨#[49]⟩⟩] : List S95)) (inner := ([.string ⟨#[97]⟩, .bool true, .string ⟨#[49]⟩] : List Value)) (ok := fun _ => True) (okp := fun _ => True) ?hr ?hp (fun _ hk => hk) trivial (Below.refl _ _) (Nat.le_refl _) (by decide) ?_; (case hd => rfl); (case hg => rfl); (case hr => first | (go_simp; done) | (go_simp; rfl)); (case hp => exact (Reps.c3 (k95_mkM _ _ _ _) (Reps.none _ _))); intro v14 w2 hR_v14 hb_v14 _ _; have HM := As.mk (HM.out.below hb_v14); have HB := As.mk (bstep HB.out hb_v14); have HS14 := As.mk (SlO.of_R hR_v14); clear hb_v14 hR_v14)
    | (go_at_call 74; refine (Do1_calls b v14 _ HM.out HS14.out).mono ?_; rintro e w3 ⟨A, c, rfl, hE, hM, hne, hG⟩; have HNE := As.mk hne; have HE := As.mk hE; have HB := As.mk (HB.out.trans (turn_below hG HBW.out HB.out.size)); have HM := As.mk hM; have T2 := True.intro; clear hE hM hne hG HS14)
    | (go_at_call 86; have _t := T2; refine (put_calls9 _ _ _).mono ?_; rintro e w4 ⟨rfl, hb⟩; have HM := As.mk (HM.out.below hb); have HB := As.mk (bstep HB.out hb); have HE := As.mk (HE.out.below hb); clear hb T2)
    | ((with_reducible refine gate_dst (N := 21) rfl ?_); refine Kd.R_lit k95 _ 95 ?hg (N := 21) ?hd (xs := ([⟨⟨#[97]⟩, true, ⟨#[49]⟩⟩] : List S95)) (inner := ([.string ⟨#[97]⟩, .bool true, .string ⟨#[49]⟩] : List Value)) (ok := fun _ => True) (okp := fun _ => True) ?hr ?hp (fun _ hk => hk) trivial (Below.refl _ _) (Nat.le_refl _) (by decide) ?_; (case hd => rfl); (case hg => rfl); (case hr => first | (go_simp; done) | (go_simp; rfl)); (case hp => exact (Reps.c3 (k95_mkM _ _ _ _) (Reps.none _ _))); intro v21 w5 hR_v21 hb_v21 _ _; have HM := As.mk (HM.out.below hb_v21); have HB := As.mk (bstep HB.out hb_v21); have HE := As.mk (HE.out.below hb_v21); have HS21 := As.mk (SlO.of_R hR_v21); have T3 := True.intro; clear hb_v21 hR_v21)
    | (go_at_call 86; have _t := T3; refine (put_calls9 _ _ _).mono ?_; rintro e w6 ⟨rfl, hb⟩; have HM := As.mk (HM.out.below hb); have HB := As.mk (bstep HB.out hb); have HE := As.mk (HE.out.below hb); have HS21 := As.mk (HS21.out.below hb); clear hb T3)
    | ((with_reducible refine gate_dst (N := 24) rfl ?_); refine Kd.R_lit k95 _ 95 ?hg (N := 24) ?hd (xs := ([⟨⟨#[97]⟩, false, ⟨#[]⟩⟩, ⟨⟨#[98]⟩, true, ⟨#[50]⟩⟩] : List S95)) (inner := ([.string ⟨#[97]⟩, .bool false, .string ⟨#[]⟩, .string ⟨#[98]⟩, .bool true, .string ⟨#[50]⟩] : List Value)) (ok := fun _ => True) (okp := fun _ => True) ?hr ?hp (fun _ hk => hk) trivial (Below.refl _ _) (Nat.le_refl _) (by decide) ?_; (case hd => rfl); (case hg => rfl); (case hr => first | (go_simp; done) | (go_simp; rfl)); (case hp => exact (Reps.c3 (k95_mkM _ _ _ _) (Reps.c3 (k95_mkM _ _ _ _) (Reps.none _ _)))); intro v24 w7 hR_v24 hb_v24 _ _; have HM := As.mk (HM.out.below hb_v24); have HB := As.mk (bstep HB.out hb_v24); have HE := As.mk (HE.out.below hb_v24); have HS21 := As.mk (HS21.out.below hb_v24); have HS24 := As.mk (SlO.of_R hR_v24); clear hb_v24 hR_v24)
    | (go_at_call 74; refine (Do2_calls b v21 v24 _ HM.out HS21.out HS24.out).mono ?_; rintro e w8 ⟨A8, c8, rfl, hM, hG⟩; have HE := As.mk (SlE_turn HE.out HNE.out hG); have HB := As.mk (HB.out.trans (turn_below hG HBW.out HB.out.size)); have HM := As.mk hM; have T4 := True.intro; clear hM hG HS21 HS24)
    | (go_at_call 86; have _t := T4; refine (put_calls9 _ _ _).mono ?_; rintro e w9 ⟨rfl, hb⟩; have HM := As.mk (HM.out.below hb); have HB := As.mk (bstep HB.out hb); have HE := As.mk (HE.out.below hb); clear hb T4)
    | ((with_reducible refine gate_dst (N := 31) rfl ?_); refine Kd.R_lit k95 _ 95 ?hg (N := 31) ?hd (xs := ([⟨⟨#[97]⟩, true, ⟨#[49]⟩⟩] : List S95)) (inner := ([.string ⟨#[97]⟩, .bool true, .string ⟨#[49]⟩] : List Value)) (ok := fun _ => True) (okp := fun _ => True) ?hr ?hp (fun _ hk => hk) trivial (Below.refl _ _) (Nat.le_refl _) (by decide) ?_; (case hd => rfl); (case hg => rfl); (case hr => first | (go_simp; done) | (go_simp; rfl)); (case hp => exact (Reps.c3 (k95_mkM _ _ _ _) (Reps.none _ _))); intro v31 w10 hR_v31 hb_v31 _ _; have HM := As.mk (HM.out.below hb_v31); have HB := As.mk (bstep HB.out hb_v31); have HE := As.mk (HE.out.below hb_v31); have HS31 := As.mk (SlO.of_R hR_v31); have T5 := True.intro; clear hb_v31 hR_v31)
    | (go_at_call 86; have _t := T5; refine (put_calls9 _ _ _).mono ?_; rintro e w11 ⟨rfl, hb⟩; have HM := As.mk (HM.out.below hb); have HB := As.mk (bstep HB.out hb); have HE := As.mk (HE.out.below hb); have HS31 := As.mk (HS31.out.below hb); clear hb T5)
    | ((with_reducible refine gate_dst (N := 33) rfl ?_); refine Kd.R_lit k95 _ 95 ?hg (N := 33) ?hd (xs := ([⟨⟨#[98]⟩, true, ⟨#[51]⟩⟩] : List S95)) (inner := ([.string ⟨#[98]⟩, .bool true, .string ⟨#[51]⟩] : List Value)) (ok := fun _ => True) (okp := fun _ => True) ?hr ?hp (fun _ hk => hk) trivial (Below.refl _ _) (Nat.le_refl _) (by decide) ?_; (case hd => rfl); (case hg => rfl); (case hr => first | (go_simp; done) | (go_simp; rfl)); (case hp => exact (Reps.c3 (k95_mkM _ _ _ _) (Reps.none _ _))); intro v33 w12 hR_v33 hb_v33 _ _; have HM := As.mk (HM.out.below hb_v33); have HB := As.mk (bstep HB.out hb_v33); have HE := As.mk (HE.out.below hb_v33); have HS31 := As.mk (HS31.out.below hb_v33); have HS33 := As.mk (SlO.of_R hR_v33); clear hb_v33 hR_v33)
    | (go_at_call 74; refine (Do3_calls b v31 v33 _ HM.out HS31.out HS33.out).mono ?_; rintro e w13 ⟨r13, rfl, hM, hG⟩; have HE := As.mk (SlE_turn HE.out HNE.out hG); have HB := As.mk (HB.out.trans (turn_below hG HBW.out HB.out.size)); have HM := As.mk hM; clear hM hG HS31 HS33)
    | (go_at_call 69; refine (GetA_calls b _ HM.out).mono ?_; rintro e w14 ⟨rfl, rfl⟩)
    | (go_at_call 34; have hb0 := (Below.refl w13.heap.size w13).alloc (Nat.le_refl _) (Obj.cells #[.int .i64 5, .string ⟨#[97]⟩, .bool false, .string ⟨#[]⟩, .bool true, .string ⟨#[49]⟩] 51); refine (Events_calls _ _ awV _ (HE.out.below hb0) (awV_new _) (show 1 < 4398046511104 by decide)).mono ?_; rintro e w16 ⟨rfl, hb⟩; have HM := As.mk ((HM.out.below hb0).below hb); have HB := As.mk (bstep (bstep HB.out hb0) hb); clear hb hb0)
    | (go_at_call 76; refine (LenA_calls b _ HM.out).mono ?_; rintro e w17 ⟨rfl, rfl⟩))
  go_ret
  exact ⟨rfl, HB.out⟩

end Go.Proofs.Ytehnkoglhbbfjaa

namespace Go.Proofs.Ytehnkoglhbbfjaa
open Go.RowKit Go.Proofs.YtehnkoglhbbfjaaW.PrintWords Go.Proofs.YtehnkoglhbbfjaaW.PrintLast Go.Proofs.YtehnkoglhbbfjaaW.PrintMore PAll
open Go.ChangeShapes Go.WideShapes Go.ChangeAt

instance : Inhabited S95 := ⟨z95⟩
instance : Inhabited S98 := ⟨z98⟩
theorem cellsOf4 : Try.prog.cellsOf 4 = 1 := by kernel_rfl
theorem cellsOf75 : Try.prog.cellsOf 75 = 1 := by kernel_rfl
theorem cellsOf51 : Try.prog.cellsOf 51 = 6 := by kernel_rfl
theorem cellsOf95 : Try.prog.cellsOf 95 = 3 := by kernel_rfl
theorem cellsOf98 : Try.prog.cellsOf 98 = 12 := by kernel_rfl

theorem list6 {α : Type} {cs : List α} (h : cs.length = 6) : ∃ c0 c1 c2 c3 c4 c5, cs = [c0, c1, c2, c3, c4, c5] := by
  match cs, h with
  | [c0, c1, c2, c3, c4, c5], _ => exact ⟨c0, c1, c2, c3, c4, c5, rfl⟩
theorem list7 {α : Type} {cs : List α} (h : cs.length = 7) : ∃ c0 c1 c2 c3 c4 c5 c6, cs = [c0, c1, c2, c3, c4, c5, c6] := by
  match cs, h with
  | [c0, c1, c2, c3, c4, c5, c6], _ => exact ⟨c0, c1, c2, c3, c4, c5, c6, rfl⟩
theorem list12 {α : Type} {cs : List α} (h : cs.length = 12) : ∃ c0 c1 c2 c3 c4 c5 c6 c7 c8 c9 c10 c11, cs = [c0, c1, c2, c3, c4, c5, c6, c7, c8, c9, c10, c11] := by
  match cs, h with
  | [c0, c1, c2, c3, c4, c5, c6, c7, c8, c9, c10, c11], _ => exact ⟨c0, c1, c2, c3, c4, c5, c6, c7, c8, c9, c10, c11, rfl⟩

set_option maxRecDepth 100000 in
theorem open_kd {H : Type} {enc : TypeId × Value → H} {W : World} {α : Type} [Inhabited α] (d : Kd α) (t e : TypeId) (ht : Try.prog.underlying t = some (.slice e)) (hc : Try.prog.cellsOf e = d.sz)
    (hel : ∀ n cs x, DataW.trod enc Try.prog W 0 (fun _ => true) true n e cs = some x → ∃ s : α, d.K W s cs) {fuel : Nat} {cs : List Value} {x : DataW H × List MemPlace}
    (h : DataW.trod enc Try.prog W 0 (fun _ => true) true fuel t cs = some x) : ∃ (l : List α) (A : Option Addr) (c : Nat), cs = [.slice A l.length c] ∧ l.length ≤ c ∧ d.C W A l.length l := by
  rcases Go.Deep.open_slice ht h with ⟨rfl, -⟩ | ⟨a, len, cap, m, n, D, Pl, rfl, -, hl, hm, hmm, -, hx⟩
  · exact ⟨[], none, 0, rfl, Nat.le_refl _, Kd.C_nil d W⟩
  · have hml : len ≤ m := by rw [hmm]; split <;> omega
    rw [hc] at hx
    obtain ⟨f, hf⟩ := Go.Deep.choose_lt (α := α) (n := len) (p := fun i s => ∃ cs', W.cells? 0 (a.add (i * d.sz)) d.sz = some cs' ∧ d.K W s cs') (fun i hi => by
      obtain ⟨cs', h1, h2⟩ := hx i (by omega)
      obtain ⟨s, hs⟩ := hel _ _ _ h2
      exact ⟨s, cs', h1, hs⟩)
    refine ⟨(List.range len).map f, some a, cap, by simp, by simpa using hl, by simp, ?_, fun _ => ⟨a, rfl, fun j p hj => ?_⟩⟩
    · simp only [List.length_map, List.length_range]
      exact Nat.le_trans hl (by unfold maxLen at hm; omega)
    · obtain ⟨hjl, hp⟩ := List.getElem?_eq_some_iff.1 hj
      simp at hjl hp
      subst hp
      obtain ⟨cs', h1, h2⟩ := hf j hjl
      obtain ⟨h3, h4⟩ := cells_at h1
      refine ⟨cs', h3, h2, fun i u hu => ?_⟩
      have := h4 i u hu
      rwa [Go.Deep.add_add] at this

set_option maxRecDepth 100000 in
theorem open_op_cells {H : Type} {enc : TypeId × Value → H} {W : World} (n : Nat) (cs : List Value) (x : DataW H × List MemPlace)
    (h : DataW.trod enc Try.prog W 0 (fun _ => true) true n 95 cs = some x) : ∃ s : S95, k95.K W s cs := by
  obtain ⟨y0, y1, y2, m, -, hl, h0, h1, h2⟩ := Go.Deep.trod_struct3 Try.underlying95 h
  rw [cellsOf95] at hl
  rw [cellsOf9] at h0 h2
  rw [cellsOf4] at h1
  obtain ⟨c0, c1, c2, rfl⟩ : ∃ c0 c1 c2, cs = [c0, c1, c2] := by
    match cs, hl with
    | [c0, c1, c2], _ => exact ⟨c0, c1, c2, rfl⟩
  obtain ⟨a, e0, -⟩ := DataW.trod_string Try.underlying9 h0
  obtain ⟨b, e1, -⟩ := DataW.trod_bool Try.underlying4 h1
  obtain ⟨c, e2, -⟩ := DataW.trod_string Try.underlying9 h2
  simp at e0 e1 e2
  exact ⟨⟨a, b, c⟩, by rw [e0, e1, e2]; exact k95_mk W ⟨a, b, c⟩⟩

set_option maxRecDepth 100000 in
theorem open_ev_cells {H : Type} {enc : TypeId × Value → H} {W : World} (n : Nat) (cs : List Value) (x : DataW H × List MemPlace)
    (h : DataW.trod enc Try.prog W 0 (fun _ => true) true n 51 cs = some x) : ∃ s : S51, cs = [.int .i64 s.f0, .string s.f1, .bool s.f2, .string s.f3, .bool s.f4, .string s.f5] := by
  obtain ⟨xs, m, -, -, hl, hlen, hf⟩ := DataW.trod_struct Try.underlying51 h
  rw [cellsOf51] at hl
  obtain ⟨c0, c1, c2, c3, c4, c5, rfl⟩ := list6 hl
  have hx : xs.length = 6 := hlen
  obtain ⟨y0, y1, y2, y3, y4, y5, rfl⟩ := list6 hx
  have h0 := hf 0 _ rfl
  simp at h0
  have h1 := hf 1 _ rfl
  simp at h1
  have h2 := hf 2 _ rfl
  simp at h2
  have h3 := hf 3 _ rfl
  simp at h3
  have h4 := hf 4 _ rfl
  simp at h4
  have h5 := hf 5 _ rfl
  simp at h5

  rw [cellsOf3] at h0
  rw [cellsOf9] at h1 h3 h5
  rw [cellsOf4] at h2 h4
  obtain ⟨a0, e0, -⟩ := DataW.trod_int Try.underlying3 h0
  obtain ⟨a1, e1, -⟩ := DataW.trod_string Try.underlying9 h1
  obtain ⟨a2, e2, -⟩ := DataW.trod_bool Try.underlying4 h2
  obtain ⟨a3, e3, -⟩ := DataW.trod_string Try.underlying9 h3
  obtain ⟨a4, e4, -⟩ := DataW.trod_bool Try.underlying4 h4
  obtain ⟨a5, e5, -⟩ := DataW.trod_string Try.underlying9 h5
  simp at e0 e1 e2 e3 e4 e5
  exact ⟨⟨a0, a1, a2, a3, a4, a5⟩, by rw [e0, e1, e2, e3, e4, e5]⟩

set_option maxRecDepth 100000 in
theorem open_k_cells {H : Type} {enc : TypeId × Value → H} {W : World} (n : Nat) (cs : List Value) (x : DataW H × List MemPlace)
    (h : DataW.trod enc Try.prog W 0 (fun _ => true) true n 98 cs = some x) : ∃ s : S98, k98.K W s cs := by
  obtain ⟨xs, m, -, -, hl, hlen, hf⟩ := DataW.trod_struct Try.underlying98 h
  rw [cellsOf98] at hl
  obtain ⟨c0, c1, c2, c3, c4, c5, c6, c7, c8, c9, c10, c11, rfl⟩ := list12 hl
  have hx : xs.length = 7 := hlen
  obtain ⟨y0, y1, y2, y3, y4, y5, y6, rfl⟩ := list7 hx
  have h0 := hf 0 _ rfl
  simp at h0
  have h1 := hf 1 _ rfl
  simp at h1
  have h2 := hf 2 _ rfl
  simp at h2
  have h3 := hf 3 _ rfl
  simp at h3
  have h4 := hf 4 _ rfl
  simp at h4
  have h5 := hf 5 _ rfl
  simp at h5
  have h6 := hf 6 _ rfl
  simp at h6

  rw [cellsOf3] at h0 h1
  rw [cellsOf75] at h2 h3
  rw [cellsOf9] at h4 h5
  rw [cellsOf51] at h6
  obtain ⟨a0, e0, -⟩ := DataW.trod_int Try.underlying3 h0
  obtain ⟨a1, e1, -⟩ := DataW.trod_int Try.underlying3 h1
  obtain ⟨l2, A2, n2, e2, g2, k2⟩ := open_kd k95 75 95 Try.underlying75 cellsOf95 open_op_cells h2
  obtain ⟨l3, A3, n3, e3, g3, k3⟩ := open_kd k95 75 95 Try.underlying75 cellsOf95 open_op_cells h3
  obtain ⟨a4, e4, -⟩ := DataW.trod_string Try.underlying9 h4
  obtain ⟨a5, e5, -⟩ := DataW.trod_string Try.underlying9 h5
  obtain ⟨s, e6⟩ := open_ev_cells _ _ _ h6
  simp at e0 e1 e2 e3 e4 e5 e6
  obtain ⟨q0, q1, q2, q3, q4, q5⟩ := e6
  refine ⟨⟨a0, a1, l2, l3, a4, a5, s⟩, ?_⟩
  rw [e0, e1, e2, e3, e4, e5, q0, q1, q2, q3, q4, q5]
  exact k98_mk W ⟨a0, a1, l2, l3, a4, a5, s⟩ g2 k2 g3 k3

set_option maxRecDepth 100000 in
theorem open_ops {H : Type} {enc : TypeId × Value → H} {W : World} {b : Nat} {v : Value} {d : DataW H} {ps : List MemPlace}
    (hv : Value.okWide Try.prog W .any b 75 v) (h : DataW.Trod enc Try.prog W 0 (fun _ => true) true 75 v d ps) : ∃ l : List S95, SlO W v l := by
  obtain ⟨a0, len, cap, rfl⟩ := okWide_slice Try.underlying75 hv
  obtain ⟨fuel, hf⟩ := h
  obtain ⟨l, A, c, e, h1, h2⟩ := open_kd k95 75 95 Try.underlying75 cellsOf95 open_op_cells hf
  simp [Value.cells] at e
  obtain ⟨rfl, rfl, rfl⟩ := e
  exact ⟨l, _, _, rfl, h1, h2⟩
set_option maxRecDepth 100000 in
theorem open_ks {H : Type} {enc : TypeId × Value → H} {W : World} {b : Nat} {v : Value} {d : DataW H} {ps : List MemPlace}
    (hv : Value.okWide Try.prog W .any b 87 v) (h : DataW.Trod enc Try.prog W 0 (fun _ => true) true 87 v d ps) : ∃ l : List S98, SlK W v l := by
  obtain ⟨a0, len, cap, rfl⟩ := okWide_slice Try.underlying87 hv
  obtain ⟨fuel, hf⟩ := h
  obtain ⟨l, A, c, e, h1, h2⟩ := open_kd k98 87 98 Try.underlying87 cellsOf98 open_k_cells hf
  simp [Value.cells] at e
  obtain ⟨rfl, rfl, rfl⟩ := e
  exact ⟨l, _, _, rfl, h1, h2⟩
theorem slice_datum {H : Type} {enc : TypeId × Value → H} {W : World} {t e : TypeId} (ht : Try.prog.underlying t = some (.slice e)) {A : Option Addr} {n c fuel : Nat} {x : DataW H × List MemPlace}
    (h : DataW.trod enc Try.prog W 0 (fun _ => true) true fuel t [.slice A n c] = some x) : n = 0 ∨ ∃ elems spare, x.1 = .slice elems spare ∧ elems.length = n := by
  rcases Go.Deep.open_slice ht h with ⟨e, -⟩ | ⟨a, len, cap, m, n', D, Pl, e, -, -, -, -, hx, -⟩
  · simp at e
    exact .inl e.2.1
  · simp at e
    exact .inr ⟨_, _, by rw [hx], by simp [e.2.1]⟩
set_option maxRecDepth 100000 in
theorem open_ks' {H : Type} {enc : TypeId × Value → H} {W : World} {b : Nat} {v : Value} {d : DataW H} {ps : List MemPlace}
    (hv : Value.okWide Try.prog W .any b 87 v) (h : DataW.Trod enc Try.prog W 0 (fun _ => true) true 87 v d ps) : ∃ l : List S98, SlK W v l ∧ (l.length = 0 ∨ ∃ elems spare, d = .slice elems spare ∧ elems.length = l.length) := by
  obtain ⟨l, hl⟩ := open_ks hv h
  refine ⟨l, hl, ?_⟩
  obtain ⟨A, c, rfl, -, -⟩ := hl
  obtain ⟨fuel, hf⟩ := h
  exact slice_datum Try.underlying87 hf
theorem bytes98 : Try.prog.bytesOf 98 = 168 := by kernel_rfl
set_option maxRecDepth 100000 in
theorem open_k {H : Type} {enc : TypeId × Value → H} {W : World} {b : Nat} {v : Value} {d : DataW H} {ps : List MemPlace}
    (hv : Value.okWide Try.prog W .any b 98 v) (h : DataW.Trod enc Try.prog W 0 (fun _ => true) true 98 v d ps) : ∃ (s : S98) (cs : Array Value), v = .agg cs ∧ k98.K W s cs.toList := by
  obtain ⟨cs, rfl, hsz⟩ := okWide_struct Try.underlying98 hv
  obtain ⟨fuel, hf⟩ := h
  obtain ⟨s, hs⟩ := open_k_cells _ _ _ hf
  exact ⟨s, cs, rfl, by simpa [Value.cells] using hs⟩
end Go.Proofs.Ytehnkoglhbbfjaa
