/-
  The walks of the tree's methods: Floor, Ceil, scan, Scan, All.
-/
import Derived.Test.YtehnkoglhbbfjaaT4
import Derived.Test.YtehnkoglhbbfjaaM1
set_option linter.unusedVariables false
set_option linter.unusedSimpArgs false
namespace Go.Proofs.Ytehnkoglhbbfjaa
open Go.RowKit Go.Proofs.YtehnkoglhbbfjaaW.PrintWords Go.Proofs.YtehnkoglhbbfjaaW.PrintLast Go.Proofs.YtehnkoglhbbfjaaW.PrintMore PAll

/-- A call that writes a row of its caller's, or makes another one. -/
structure Grew (w w' : World) (v v' : Value) : Prop where
  grown : w.grownBy w' v.ownBlock
  at_ : v'.ownBlock = v.ownBlock ∨ ∃ b, v'.ownBlock = some b ∧ w.heap.size ≤ b

theorem grown_refl (w : World) (r : Option Nat) : w.grownBy w r := grown_of_below (Below.refl _ _) r
theorem Grew.refl (w : World) (v : Value) : Grew w w v v := ⟨grown_refl _ _, Or.inl rfl⟩
theorem Grew.trans {w w1 w2 : World} {v v1 v2 : Value} (h : Grew w w1 v v1) (k : Grew w1 w2 v1 v2) : Grew w w2 v v2 := by
  refine ⟨⟨k.grown.os.trans h.grown.os, k.grown.tape.trans h.grown.tape, k.grown.output.trans h.grown.output, Nat.le_trans h.grown.size k.grown.size, fun i hi hr => ?_⟩, ?_⟩
  · refine (k.grown.block i (Nat.lt_of_lt_of_le hi h.grown.size) ?_).trans (h.grown.block i hi hr)
    rcases h.at_ with e | ⟨b, e, hb⟩
    · rw [e]; exact hr
    · rw [e]; intro hc; injection hc with hc; omega
  · rcases k.at_ with e | ⟨b, e, hb⟩
    · rw [e]; exact h.at_
    · exact Or.inr ⟨b, e, Nat.le_trans h.grown.size hb⟩
theorem Grew.of_below {w w' : World} (h : Below w.heap.size w w') (v : Value) : Grew w w' v v := ⟨grown_of_below h _, Or.inl rfl⟩
theorem Grew.below {w w' : World} {v v' : Value} (h : Grew w w' v v') {α : Type} {d : Kd α} {e base : Nat} {ok : Nat → Prop} {xs : List α} (hR : d.R e w base ok v xs) (hb : base ≤ w.heap.size) : Below base w w' := by
  obtain ⟨inner, ho⟩ := Kd.R_own hR
  exact ⟨h.grown.os, h.grown.tape, h.grown.output, h.grown.size, fun i hi => h.grown.block i (by omega) (fun e => by have := own_base ho i e.symm; omega)⟩
theorem IsT.grew {w w' : World} {v v' : Value} (h : Grew w w' v v') {α : Type} {d : Kd α} {e base : Nat} {ok : Nat → Prop} {xs : List α} (hR : d.R e w base ok v xs) (he : e ≠ 111) {t : T} : ∀ {p : Option Addr}, IsT w p t → IsT w' p t := by
  obtain ⟨inner, ho⟩ := Kd.R_own hR
  induction t with
  | nil => intro p h; exact h
  | node l k v r ihl ihr =>
    intro p hp
    obtain ⟨b, lp, rp, rfl, hc, hl, hr⟩ := hp
    refine ⟨b, lp, rp, rfl, (h.grown.block b (blk_lt hc) (fun e' => ?_)).trans hc, ihl hl, ihr hr⟩
    obtain ⟨cells, hcc⟩ := own_typed ho b e'.symm
    rw [hc] at hcc
    simp only [Option.some.injEq, Obj.cells.injEq] at hcc
    exact he hcc.2.1.symm
theorem IsTr.grew {w w' : World} {v v' : Value} (h : Grew w w' v v') {α : Type} {d : Kd α} {e base : Nat} {ok : Nat → Prop} {xs : List α} (hR : d.R e w base ok v xs) (he : e ≠ 111) (he' : e ≠ 83) {t : T} {p : Option Addr} (hp : IsTr w p t) : IsTr w' p t := by
  rcases hp with hp | ⟨b, q, rfl, hc, ht⟩
  · exact Or.inl hp
  · obtain ⟨inner, ho⟩ := Kd.R_own hR
    refine Or.inr ⟨b, q, rfl, (h.grown.block b (blk_lt hc) (fun e' => ?_)).trans hc, ht.grew h hR he⟩
    obtain ⟨cells, hcc⟩ := own_typed ho b e'.symm
    rw [hc] at hcc
    simp only [Option.some.injEq, Obj.cells.injEq] at hcc
    exact he' hcc.2.1.symm

set_option maxHeartbeats 400000 in
set_option maxRecDepth 100000 in
theorem Ceil_calls (p : Option Addr) (t : T) (key : ByteArray) (w : World) (h : IsTr w p t) (hs : t.size < 1000000000) :
    Calls Try.prog 42 #[.pointer p, .string key] w fun e w' => e = .returned (.tuple #[.agg #[.string (t.ceil key).1.1, .string (t.ceil key).1.2], .bool (t.ceil key).2]) ∧ Below w.heap.size w w' := by
  unfold T.ceil
  generalize hR : t.tat (t.rank key : Nat) = R
  obtain ⟨⟨a, b⟩, c⟩ := R
  have HR := As.mk hR
  clear hR
  go_enter Try.func42, Try.ntmps42
  go_wp2_with (first
    | ((with_reducible refine gate_dst (N := 4) rfl ?_); refine box_event ?hg (N := 4) ?hd (cs := #[.string (⟨#[]⟩ : ByteArray), .string (⟨#[]⟩ : ByteArray)]) (t := 29) ?hr ?_; (case hd => rfl); (case hg => rfl); (case hr => first | (go_simp; done) | (go_simp; rfl)); intro gr hg_gr w1 hx_gr hb_gr; have hB1 : Below w.heap.size w w1 := hb_gr; have GE := As.mk (Nat.le_of_eq hg_gr.symm); clear hg_gr)
    | (go_at_call 44; refine (Rank_calls p t key _ (h.below hB1) hs).mono ?_; rintro e w2 ⟨n, rfl, rfl⟩)
    | (go_at_call 38; refine (At_calls p t _ _ ((h.below hB1).drewN n) hs).mono ?_; rintro e w3 ⟨rfl, hb3⟩; rw [HR.out]; have hx3 := blk_step (w := w1.drewN n) hx_gr hb3; obtain ⟨x0, x1⟩ := cells2 hx3; have z0 := blk_frozen hx3 0; have z1 := blk_frozen hx3 1; have hB3 := bstep (pw_below_drewN hB1 n) hb3))
  refine bodyPost_ret (results_ct rfl _ _ gr 29 #[.string a, .string b] (0, 0) _ rfl (by refine blk_put (cs := #[.string a, .string (⟨#[]⟩ : ByteArray)]) ?_ 1 _ rfl; refine blk_put (cs := #[.string (⟨#[]⟩ : ByteArray), .string (⟨#[]⟩ : ByteArray)]) ?_ 0 _ rfl; exact hx3) Try.underlying29 rfl (by kernel_rfl)) rfl ?_
  exact ⟨rfl, (hB3.setCell (p := ⟨gr, 0, none⟩) GE.out _).setCell (p := ⟨gr, 1, none⟩) GE.out _⟩

set_option maxHeartbeats 400000 in
set_option maxRecDepth 100000 in
theorem Floor_calls (p : Option Addr) (t : T) (key : ByteArray) (w : World) (h : IsTr w p t) (hs : t.size < 1000000000) :
    Calls Try.prog 40 #[.pointer p, .string key] w fun e w' => e = .returned (.tuple #[.agg #[.string (t.floor key).1.1, .string (t.floor key).1.2], .bool (t.floor key).2]) ∧ Below w.heap.size w w' := by
  cases hf : t.find key with
  | nil =>
    rw [show t.floor key = t.tat ((t.rank key : Nat) - 1) by unfold T.floor; rw [hf]]
    have HF := As.mk hf
    clear hf
    have hrk := T.rank_le key t
    generalize hR : t.tat ((t.rank key : Nat) - 1) = R
    obtain ⟨⟨a, b⟩, c⟩ := R
    have HR := As.mk hR
    clear hR
    go_enter Try.func40, Try.ntmps40
    go_wp2_with (first
      | ((with_reducible refine gate_dst (N := 4) rfl ?_); refine box_event ?hg (N := 4) ?hd (cs := #[.string (⟨#[]⟩ : ByteArray), .string (⟨#[]⟩ : ByteArray)]) (t := 29) ?hr ?_; (case hd => rfl); (case hg => rfl); (case hr => first | (go_simp; done) | (go_simp; rfl)); intro gr hg_gr w1 hx_gr hb_gr; have hB1 : Below w.heap.size w w1 := hb_gr; have GE := As.mk (Nat.le_of_eq hg_gr.symm); clear hg_gr)
      | (go_at_call 79; refine (top_calls p t _ (h.below hB1)).mono ?_; rintro e w2 ⟨q, rfl, ht, rfl⟩)
      | (go_at_call 82; refine (find_calls key t q _ ht).mono ?_; rintro e w2 ⟨q2, rfl, ht2, rfl⟩; rw [HF.out] at ht2; obtain rfl : q2 = none := ht2)
      | (go_at_call 44; refine (Rank_calls p t key _ (h.below hB1) hs).mono ?_; rintro e w2 ⟨n, rfl, rfl⟩)
      | (go_at_call 38; refine (At_calls p t _ _ ((h.below hB1).drewN n) hs).mono ?_; rintro e w3 ⟨rfl, hb3⟩; rw [HR.out]; have hx3 := blk_step (w := w1.drewN n) hx_gr hb3; obtain ⟨x0, x1⟩ := cells2 hx3; have z0 := blk_frozen hx3 0; have z1 := blk_frozen hx3 1; have hB3 := bstep (pw_below_drewN hB1 n) hb3))
    refine bodyPost_ret (results_ct rfl _ _ gr 29 #[.string a, .string b] (0, 0) _ rfl (by refine blk_put (cs := #[.string a, .string (⟨#[]⟩ : ByteArray)]) ?_ 1 _ rfl; refine blk_put (cs := #[.string (⟨#[]⟩ : ByteArray), .string (⟨#[]⟩ : ByteArray)]) ?_ 0 _ rfl; exact hx3) Try.underlying29 rfl (by kernel_rfl)) rfl ?_
    exact ⟨rfl, (hB3.setCell (p := ⟨gr, 0, none⟩) GE.out _).setCell (p := ⟨gr, 1, none⟩) GE.out _⟩
  | node l k v r =>
    rw [show t.floor key = ((k, v), true) by unfold T.floor; rw [hf]]
    have HF := As.mk hf
    clear hf
    go_enter Try.func40, Try.ntmps40
    go_wp2_with (first
      | ((with_reducible refine gate_dst (N := 4) rfl ?_); refine box_event ?hg (N := 4) ?hd (cs := #[.string (⟨#[]⟩ : ByteArray), .string (⟨#[]⟩ : ByteArray)]) (t := 29) ?hr ?_; (case hd => rfl); (case hg => rfl); (case hr => first | (go_simp; done) | (go_simp; rfl)); intro gr hg_gr w1 hx_gr hb_gr; have hB1 : Below w.heap.size w w1 := hb_gr; have GE := As.mk (Nat.le_of_eq hg_gr.symm); clear hg_gr; obtain ⟨x0, x1⟩ := cells2 hx_gr; have z0 := blk_frozen hx_gr 0; have z1 := blk_frozen hx_gr 1)
      | (go_at_call 79; refine (top_calls p t _ (h.below hB1)).mono ?_; rintro e w2 ⟨q, rfl, ht, rfl⟩)
      | (go_at_call 82; refine (find_calls key t q _ ht).mono ?_; rintro e w2 ⟨q2, rfl, ht2, rfl⟩; rw [HF.out] at ht2; obtain ⟨b, lp, rp, rfl, hb, hl, hr⟩ := ht2; obtain ⟨e0, e1, e2, e3, -, -⟩ := cells6 hb))
    refine bodyPost_ret (results_ct rfl _ _ gr 29 #[.string k, .string v] (0, 0) _ rfl (by refine blk_put (cs := #[.string k, .string (⟨#[]⟩ : ByteArray)]) ?_ 1 _ rfl; refine blk_put (cs := #[.string (⟨#[]⟩ : ByteArray), .string (⟨#[]⟩ : ByteArray)]) ?_ 0 _ rfl; exact hx_gr) Try.underlying29 rfl (by kernel_rfl)) rfl ?_
    exact ⟨rfl, (hB1.setCell (p := ⟨gr, 0, none⟩) GE.out _).setCell (p := ⟨gr, 1, none⟩) GE.out _⟩

theorem blk_no {w : World} {b : Nat} {cs : Array Value} {m : Nat × Nat} (h : w.heap[b]? = some (.cells cs 111 m)) {α : Type} {d : Kd α} {e base : Nat} {ok : Nat → Prop} {v : Value} {xs : List α} (hR : d.R e w base ok v xs) (he : e ≠ 111) : some b ≠ v.ownBlock := by
  intro e'
  obtain ⟨inner, ho⟩ := Kd.R_own hR
  obtain ⟨cells, hcc⟩ := own_typed ho b e'.symm
  rw [h] at hcc
  simp only [Option.some.injEq, Obj.cells.injEq] at hcc
  exact he hcc.2.1.symm

set_option maxHeartbeats 8000000 in
set_option maxRecDepth 100000 in
theorem scan_calls (fr tt : ByteArray) (most : Int) (t : T) : ∀ (p : Option Addr) (w : World) (vo : Value) (xs : List Pr) (base : Nat), IsT w p t → Kd.R k29 29 w base (fun _ => True) vo xs → base ≤ w.heap.size → xs.length + t.size < 1000000000 →
    Calls Try.prog 80 #[.pointer p, .string fr, .string tt, .int .i64 most, vo] w fun e w' => ∃ v', e = .returned v' ∧ Kd.R k29 29 w' base (fun _ => True) v' (t.scan fr tt most xs) ∧ Grew w w' vo v' := by
  induction t with
  | nil =>
    intro p w vo xs base hp hR hB hs
    obtain rfl : p = none := hp
    obtain ⟨Ao, co, rfl⟩ := Kd.R_slice hR
    go_enter Try.func80, Try.ntmps80
    go_wp2
    go_ret
    exact ⟨_, rfl, hR, Grew.refl _ _⟩
  | node l k v r ihl ihr =>
    intro p w vo xs base hp hR hB hs
    have IHL := As.mk ihl
    have IHR := As.mk ihr
    clear ihl ihr
    obtain ⟨b, lp, rp, rfl, hb, hl, hr⟩ := hp
    obtain ⟨e0, e1, e2, e3, -, -⟩ := cells6 hb
    simp only [T.size] at hs
    by_cases hm : most ≤ (xs.length : Int)
    · rw [show (T.node l k v r).scan fr tt most xs = xs by rw [T.scan, if_pos hm]]
      obtain ⟨Ao, co, rfl⟩ := Kd.R_slice hR
      go_enter Try.func80, Try.ntmps80
      go_wp2
      go_ret
      exact ⟨_, rfl, hR, Grew.refl _ _⟩
    rw [show (T.node l k v r).scan fr tt most xs = T.scanTail fr tt most k v r (if lt fr k then T.scan fr tt most l xs else xs) by rw [T.scan, if_neg hm]; rfl]
    have hX := T.scan_length fr tt most l xs
    cases hfk : lt fr k
    case false =>
      have a1 : Op.bytesLess fr.toList k.toList = false := hfk
      rw [if_neg (by decide)]
      clear hX
      clear hfk
      cases hte : tt.toList.isEmpty
      case false =>
        cases hkt : Op.bytesLess k.toList tt.toList
        case false =>
          have hin : T.inside tt k = false := (by unfold T.inside; rw [hte, hkt]; rfl)
          rw [show T.scanTail fr tt most k v r xs = xs from by unfold T.scanTail lt; simp [hin]]
          clear hin
          have hG0 := Grew.refl w vo
          obtain ⟨Ao, co, rfl⟩ := Kd.R_slice hR
          have HR := As.mk hR
          clear hR
          go_enter Try.func80, Try.ntmps80
          go_wp2
          all_goals (go_ret; exact ⟨_, rfl, HR.out, hG0⟩)
        case true =>
          have hin : T.inside tt k = true := (by unfold T.inside; rw [hte, hkt]; rfl)
          cases hkf : Op.bytesLess k.toList fr.toList
          case false =>
            by_cases hl2 : (xs.length : Int) < most
            · rw [show T.scanTail fr tt most k v r xs = T.scan fr tt most r (xs ++ [⟨k, v⟩]) from by unfold T.scanTail lt; simp [hin, hkf, hl2]]
              clear hin
              obtain ⟨Y, hY⟩ : ∃ Y : List Pr, Y = xs ++ [⟨k, v⟩] := ⟨_, rfl⟩
              rw [← hY]
              have hYl : Y.length = xs.length + 1 := by rw [hY]; simp
              have hYs : Y.length + r.size < 1000000000 := by omega
              have NY := As.mk hY
              clear hY hYl
              have hG0 := Grew.refl w vo
              obtain ⟨Ao, co, rfl⟩ := Kd.R_slice hR
              have HR := As.mk hR
              clear hR
              go_enter Try.func80, Try.ntmps80
              go_wp2_with (first
                | ((with_reducible refine gate_builtin (b := .append) (xs := #[.tmp 64, .tmp 69]) rfl ?_); at_builtin; refine Kd.R_append k29 (w0 := w) base rfl (.tmp 64) (.tmp 69) 25 29 (.agg #[(.string ⟨#[]⟩), (.string ⟨#[]⟩)]) 32 rfl Try.underlying25 info29 rfl (by decide) (by omega) _ xs (⟨k, v⟩ : S29) [.string k, .string v] (fun _ => True) (fun _ => False) rfl (by first | (go_simp; done) | (go_simp; rfl)) ?aP (fun _ hk => hk.elim) (fun _ _ => trivial) ?aO (Below.refl _ _) ?aS ?aL ?_; (case aP => exact k29_mkM _ _ _ (⟨k, v⟩ : S29)); (case aO => exact HR.out); (case aS => exact hB); (case aL => omega); intro v3 w3 ho3 _ hg3 hat3; rw [← NY.out] at ho3; have hG3 := Grew.trans hG0 ⟨hg3, hat3⟩; have hr3 := hr.grew ⟨hg3, hat3⟩ HR.out (by decide); have hb3 := (hg3.block b (blk_lt hb) (fun e' => blk_no hb HR.out (by decide) e')).trans hb; obtain ⟨g0, g1, g2, g3, -, -⟩ := cells6 hb3; have hS3 : base ≤ w3.heap.size := Nat.le_trans hB hg3.size; obtain ⟨A3, c3, rfl⟩ := Kd.R_slice ho3; have HR3 := As.mk ho3; clear ho3 hg3 hat3)
                | (go_at_call_of 80 (Value.pointer rp); refine (IHR.out rp w3 _ Y base hr3 HR3.out hS3 hYs).mono ?_; rintro e w4 ⟨v4, rfl, hR4, hG4⟩; have hGE := hG3.trans hG4; obtain ⟨A4, c4, rfl⟩ := Kd.R_slice hR4; have HR4 := As.mk hR4; clear hR4))
              go_ret
              exact ⟨_, rfl, HR4.out, hGE⟩
            · exact absurd (by omega) hl2
          case true =>
            rw [show T.scanTail fr tt most k v r xs = T.scan fr tt most r xs from by unfold T.scanTail lt; simp [hin, hkf]]
            clear hin
            have hG0 := Grew.refl w vo
            obtain ⟨Ao, co, rfl⟩ := Kd.R_slice hR
            have HR := As.mk hR
            clear hR
            go_enter Try.func80, Try.ntmps80
            go_wp2_with (first
              | (go_at_call_of 80 (Value.pointer rp); refine (IHR.out rp w _ xs base hr HR.out hB (by omega)).mono ?_; rintro e w4 ⟨v4, rfl, hR4, hG4⟩; have hGE := hG0.trans hG4; obtain ⟨A4, c4, rfl⟩ := Kd.R_slice hR4; have HR4 := As.mk hR4; clear hR4))
            go_ret
            exact ⟨_, rfl, HR4.out, hGE⟩
      case true =>
        have hin : T.inside tt k = true := (by unfold T.inside; rw [hte]; rfl)
        cases hkf : Op.bytesLess k.toList fr.toList
        case false =>
          by_cases hl2 : (xs.length : Int) < most
          · rw [show T.scanTail fr tt most k v r xs = T.scan fr tt most r (xs ++ [⟨k, v⟩]) from by unfold T.scanTail lt; simp [hin, hkf, hl2]]
            clear hin
            obtain ⟨Y, hY⟩ : ∃ Y : List Pr, Y = xs ++ [⟨k, v⟩] := ⟨_, rfl⟩
            rw [← hY]
            have hYl : Y.length = xs.length + 1 := by rw [hY]; simp
            have hYs : Y.length + r.size < 1000000000 := by omega
            have NY := As.mk hY
            clear hY hYl
            have hG0 := Grew.refl w vo
            obtain ⟨Ao, co, rfl⟩ := Kd.R_slice hR
            have HR := As.mk hR
            clear hR
            go_enter Try.func80, Try.ntmps80
            go_wp2_with (first
              | ((with_reducible refine gate_builtin (b := .append) (xs := #[.tmp 64, .tmp 69]) rfl ?_); at_builtin; refine Kd.R_append k29 (w0 := w) base rfl (.tmp 64) (.tmp 69) 25 29 (.agg #[(.string ⟨#[]⟩), (.string ⟨#[]⟩)]) 32 rfl Try.underlying25 info29 rfl (by decide) (by omega) _ xs (⟨k, v⟩ : S29) [.string k, .string v] (fun _ => True) (fun _ => False) rfl (by first | (go_simp; done) | (go_simp; rfl)) ?aP (fun _ hk => hk.elim) (fun _ _ => trivial) ?aO (Below.refl _ _) ?aS ?aL ?_; (case aP => exact k29_mkM _ _ _ (⟨k, v⟩ : S29)); (case aO => exact HR.out); (case aS => exact hB); (case aL => omega); intro v3 w3 ho3 _ hg3 hat3; rw [← NY.out] at ho3; have hG3 := Grew.trans hG0 ⟨hg3, hat3⟩; have hr3 := hr.grew ⟨hg3, hat3⟩ HR.out (by decide); have hb3 := (hg3.block b (blk_lt hb) (fun e' => blk_no hb HR.out (by decide) e')).trans hb; obtain ⟨g0, g1, g2, g3, -, -⟩ := cells6 hb3; have hS3 : base ≤ w3.heap.size := Nat.le_trans hB hg3.size; obtain ⟨A3, c3, rfl⟩ := Kd.R_slice ho3; have HR3 := As.mk ho3; clear ho3 hg3 hat3)
              | (go_at_call_of 80 (Value.pointer rp); refine (IHR.out rp w3 _ Y base hr3 HR3.out hS3 hYs).mono ?_; rintro e w4 ⟨v4, rfl, hR4, hG4⟩; have hGE := hG3.trans hG4; obtain ⟨A4, c4, rfl⟩ := Kd.R_slice hR4; have HR4 := As.mk hR4; clear hR4))
            go_ret
            exact ⟨_, rfl, HR4.out, hGE⟩
          · exact absurd (by omega) hl2
        case true =>
          rw [show T.scanTail fr tt most k v r xs = T.scan fr tt most r xs from by unfold T.scanTail lt; simp [hin, hkf]]
          clear hin
          have hG0 := Grew.refl w vo
          obtain ⟨Ao, co, rfl⟩ := Kd.R_slice hR
          have HR := As.mk hR
          clear hR
          go_enter Try.func80, Try.ntmps80
          go_wp2_with (first
            | (go_at_call_of 80 (Value.pointer rp); refine (IHR.out rp w _ xs base hr HR.out hB (by omega)).mono ?_; rintro e w4 ⟨v4, rfl, hR4, hG4⟩; have hGE := hG0.trans hG4; obtain ⟨A4, c4, rfl⟩ := Kd.R_slice hR4; have HR4 := As.mk hR4; clear hR4))
          go_ret
          exact ⟨_, rfl, HR4.out, hGE⟩
    case true =>
      have a1 : Op.bytesLess fr.toList k.toList = true := hfk
      rw [if_pos rfl]
      generalize hXX : T.scan fr tt most l xs = X at *
      have HXX := As.mk hXX
      clear hXX
      clear hfk
      cases hte : tt.toList.isEmpty
      case false =>
        cases hkt : Op.bytesLess k.toList tt.toList
        case false =>
          have hin : T.inside tt k = false := (by unfold T.inside; rw [hte, hkt]; rfl)
          rw [show T.scanTail fr tt most k v r X = X from by unfold T.scanTail lt; simp [hin]]
          clear hin
          obtain ⟨Ao, co, rfl⟩ := Kd.R_slice hR
          have HR := As.mk hR
          clear hR
          go_enter Try.func80, Try.ntmps80
          go_wp2_with (first
            | (go_at_call_of 80 (Value.pointer lp); refine (IHL.out lp w _ xs base hl HR.out hB (by omega)).mono ?_; rintro e w2 ⟨v2, rfl, hR2, hG2⟩; rw [HXX.out] at hR2; have hr2 := hr.grew hG2 HR.out (by decide); have hS2 : base ≤ w2.heap.size := Nat.le_trans hB hG2.grown.size; have hb2 := (hG2.grown.block b (blk_lt hb) (fun e' => blk_no hb HR.out (by decide) e')).trans hb; obtain ⟨f0, f1, f2, f3, -, -⟩ := cells6 hb2; obtain ⟨A2, c2, rfl⟩ := Kd.R_slice hR2; have HR2 := As.mk hR2; clear hR2))
          all_goals (go_ret; exact ⟨_, rfl, HR2.out, hG2⟩)
        case true =>
          have hin : T.inside tt k = true := (by unfold T.inside; rw [hte, hkt]; rfl)
          cases hkf : Op.bytesLess k.toList fr.toList
          case false =>
            by_cases hl2 : (X.length : Int) < most
            · rw [show T.scanTail fr tt most k v r X = T.scan fr tt most r (X ++ [⟨k, v⟩]) from by unfold T.scanTail lt; simp [hin, hkf, hl2]]
              clear hin
              obtain ⟨Y, hY⟩ : ∃ Y : List Pr, Y = X ++ [⟨k, v⟩] := ⟨_, rfl⟩
              rw [← hY]
              have hYl : Y.length = X.length + 1 := by rw [hY]; simp
              have hYs : Y.length + r.size < 1000000000 := by omega
              have NY := As.mk hY
              clear hY hYl
              obtain ⟨Ao, co, rfl⟩ := Kd.R_slice hR
              have HR := As.mk hR
              clear hR
              go_enter Try.func80, Try.ntmps80
              go_wp2_with (first
                | (go_at_call_of 80 (Value.pointer lp); refine (IHL.out lp w _ xs base hl HR.out hB (by omega)).mono ?_; rintro e w2 ⟨v2, rfl, hR2, hG2⟩; rw [HXX.out] at hR2; have hr2 := hr.grew hG2 HR.out (by decide); have hS2 : base ≤ w2.heap.size := Nat.le_trans hB hG2.grown.size; have hb2 := (hG2.grown.block b (blk_lt hb) (fun e' => blk_no hb HR.out (by decide) e')).trans hb; obtain ⟨f0, f1, f2, f3, -, -⟩ := cells6 hb2; obtain ⟨A2, c2, rfl⟩ := Kd.R_slice hR2; have HR2 := As.mk hR2; clear hR2)
                | ((with_reducible refine gate_builtin (b := .append) (xs := #[.tmp 64, .tmp 69]) rfl ?_); at_builtin; refine Kd.R_append k29 (w0 := w2) base rfl (.tmp 64) (.tmp 69) 25 29 (.agg #[(.string ⟨#[]⟩), (.string ⟨#[]⟩)]) 32 rfl Try.underlying25 info29 rfl (by decide) (by omega) _ X (⟨k, v⟩ : S29) [.string k, .string v] (fun _ => True) (fun _ => False) rfl (by first | (go_simp; done) | (go_simp; rfl)) ?aP (fun _ hk => hk.elim) (fun _ _ => trivial) ?aO (Below.refl _ _) ?aS ?aL ?_; (case aP => exact k29_mkM _ _ _ (⟨k, v⟩ : S29)); (case aO => exact HR2.out); (case aS => exact hS2); (case aL => omega); intro v3 w3 ho3 _ hg3 hat3; rw [← NY.out] at ho3; have hG3 := Grew.trans hG2 ⟨hg3, hat3⟩; have hr3 := hr2.grew ⟨hg3, hat3⟩ HR2.out (by decide); have hb3 := (hg3.block b (blk_lt hb2) (fun e' => blk_no hb2 HR2.out (by decide) e')).trans hb2; obtain ⟨g0, g1, g2, g3, -, -⟩ := cells6 hb3; have hS3 : base ≤ w3.heap.size := Nat.le_trans hS2 hg3.size; obtain ⟨A3, c3, rfl⟩ := Kd.R_slice ho3; have HR3 := As.mk ho3; clear ho3 hg3 hat3)
                | (go_at_call_of 80 (Value.pointer rp); refine (IHR.out rp w3 _ Y base hr3 HR3.out hS3 hYs).mono ?_; rintro e w4 ⟨v4, rfl, hR4, hG4⟩; have hGE := hG3.trans hG4; obtain ⟨A4, c4, rfl⟩ := Kd.R_slice hR4; have HR4 := As.mk hR4; clear hR4))
              go_ret
              exact ⟨_, rfl, HR4.out, hGE⟩
            · rw [show T.scanTail fr tt most k v r X = T.scan fr tt most r X from by unfold T.scanTail lt; simp [hin, hkf, hl2]]
              clear hin
              obtain ⟨Ao, co, rfl⟩ := Kd.R_slice hR
              have HR := As.mk hR
              clear hR
              go_enter Try.func80, Try.ntmps80
              go_wp2_with (first
                | (go_at_call_of 80 (Value.pointer lp); refine (IHL.out lp w _ xs base hl HR.out hB (by omega)).mono ?_; rintro e w2 ⟨v2, rfl, hR2, hG2⟩; rw [HXX.out] at hR2; have hr2 := hr.grew hG2 HR.out (by decide); have hS2 : base ≤ w2.heap.size := Nat.le_trans hB hG2.grown.size; have hb2 := (hG2.grown.block b (blk_lt hb) (fun e' => blk_no hb HR.out (by decide) e')).trans hb; obtain ⟨f0, f1, f2, f3, -, -⟩ := cells6 hb2; obtain ⟨A2, c2, rfl⟩ := Kd.R_slice hR2; have HR2 := As.mk hR2; clear hR2)
                | (go_at_call_of 80 (Value.pointer rp); refine (IHR.out rp w2 _ X base hr2 HR2.out hS2 (by omega)).mono ?_; rintro e w4 ⟨v4, rfl, hR4, hG4⟩; have hGE := hG2.trans hG4; obtain ⟨A4, c4, rfl⟩ := Kd.R_slice hR4; have HR4 := As.mk hR4; clear hR4))
              go_ret
              exact ⟨_, rfl, HR4.out, hGE⟩
          case true =>
            rw [show T.scanTail fr tt most k v r X = T.scan fr tt most r X from by unfold T.scanTail lt; simp [hin, hkf]]
            clear hin
            obtain ⟨Ao, co, rfl⟩ := Kd.R_slice hR
            have HR := As.mk hR
            clear hR
            go_enter Try.func80, Try.ntmps80
            go_wp2_with (first
              | (go_at_call_of 80 (Value.pointer lp); refine (IHL.out lp w _ xs base hl HR.out hB (by omega)).mono ?_; rintro e w2 ⟨v2, rfl, hR2, hG2⟩; rw [HXX.out] at hR2; have hr2 := hr.grew hG2 HR.out (by decide); have hS2 : base ≤ w2.heap.size := Nat.le_trans hB hG2.grown.size; have hb2 := (hG2.grown.block b (blk_lt hb) (fun e' => blk_no hb HR.out (by decide) e')).trans hb; obtain ⟨f0, f1, f2, f3, -, -⟩ := cells6 hb2; obtain ⟨A2, c2, rfl⟩ := Kd.R_slice hR2; have HR2 := As.mk hR2; clear hR2)
              | (go_at_call_of 80 (Value.pointer rp); refine (IHR.out rp w2 _ X base hr2 HR2.out hS2 (by omega)).mono ?_; rintro e w4 ⟨v4, rfl, hR4, hG4⟩; have hGE := hG2.trans hG4; obtain ⟨A4, c4, rfl⟩ := Kd.R_slice hR4; have HR4 := As.mk hR4; clear hR4))
            go_ret
            exact ⟨_, rfl, HR4.out, hGE⟩
      case true =>
        have hin : T.inside tt k = true := (by unfold T.inside; rw [hte]; rfl)
        cases hkf : Op.bytesLess k.toList fr.toList
        case false =>
          by_cases hl2 : (X.length : Int) < most
          · rw [show T.scanTail fr tt most k v r X = T.scan fr tt most r (X ++ [⟨k, v⟩]) from by unfold T.scanTail lt; simp [hin, hkf, hl2]]
            clear hin
            obtain ⟨Y, hY⟩ : ∃ Y : List Pr, Y = X ++ [⟨k, v⟩] := ⟨_, rfl⟩
            rw [← hY]
            have hYl : Y.length = X.length + 1 := by rw [hY]; simp
            have hYs : Y.length + r.size < 1000000000 := by omega
            have NY := As.mk hY
            clear hY hYl
            obtain ⟨Ao, co, rfl⟩ := Kd.R_slice hR
            have HR := As.mk hR
            clear hR
            go_enter Try.func80, Try.ntmps80
            go_wp2_with (first
              | (go_at_call_of 80 (Value.pointer lp); refine (IHL.out lp w _ xs base hl HR.out hB (by omega)).mono ?_; rintro e w2 ⟨v2, rfl, hR2, hG2⟩; rw [HXX.out] at hR2; have hr2 := hr.grew hG2 HR.out (by decide); have hS2 : base ≤ w2.heap.size := Nat.le_trans hB hG2.grown.size; have hb2 := (hG2.grown.block b (blk_lt hb) (fun e' => blk_no hb HR.out (by decide) e')).trans hb; obtain ⟨f0, f1, f2, f3, -, -⟩ := cells6 hb2; obtain ⟨A2, c2, rfl⟩ := Kd.R_slice hR2; have HR2 := As.mk hR2; clear hR2)
              | ((with_reducible refine gate_builtin (b := .append) (xs := #[.tmp 64, .tmp 69]) rfl ?_); at_builtin; refine Kd.R_append k29 (w0 := w2) base rfl (.tmp 64) (.tmp 69) 25 29 (.agg #[(.string ⟨#[]⟩), (.string ⟨#[]⟩)]) 32 rfl Try.underlying25 info29 rfl (by decide) (by omega) _ X (⟨k, v⟩ : S29) [.string k, .string v] (fun _ => True) (fun _ => False) rfl (by first | (go_simp; done) | (go_simp; rfl)) ?aP (fun _ hk => hk.elim) (fun _ _ => trivial) ?aO (Below.refl _ _) ?aS ?aL ?_; (case aP => exact k29_mkM _ _ _ (⟨k, v⟩ : S29)); (case aO => exact HR2.out); (case aS => exact hS2); (case aL => omega); intro v3 w3 ho3 _ hg3 hat3; rw [← NY.out] at ho3; have hG3 := Grew.trans hG2 ⟨hg3, hat3⟩; have hr3 := hr2.grew ⟨hg3, hat3⟩ HR2.out (by decide); have hb3 := (hg3.block b (blk_lt hb2) (fun e' => blk_no hb2 HR2.out (by decide) e')).trans hb2; obtain ⟨g0, g1, g2, g3, -, -⟩ := cells6 hb3; have hS3 : base ≤ w3.heap.size := Nat.le_trans hS2 hg3.size; obtain ⟨A3, c3, rfl⟩ := Kd.R_slice ho3; have HR3 := As.mk ho3; clear ho3 hg3 hat3)
              | (go_at_call_of 80 (Value.pointer rp); refine (IHR.out rp w3 _ Y base hr3 HR3.out hS3 hYs).mono ?_; rintro e w4 ⟨v4, rfl, hR4, hG4⟩; have hGE := hG3.trans hG4; obtain ⟨A4, c4, rfl⟩ := Kd.R_slice hR4; have HR4 := As.mk hR4; clear hR4))
            go_ret
            exact ⟨_, rfl, HR4.out, hGE⟩
          · rw [show T.scanTail fr tt most k v r X = T.scan fr tt most r X from by unfold T.scanTail lt; simp [hin, hkf, hl2]]
            clear hin
            obtain ⟨Ao, co, rfl⟩ := Kd.R_slice hR
            have HR := As.mk hR
            clear hR
            go_enter Try.func80, Try.ntmps80
            go_wp2_with (first
              | (go_at_call_of 80 (Value.pointer lp); refine (IHL.out lp w _ xs base hl HR.out hB (by omega)).mono ?_; rintro e w2 ⟨v2, rfl, hR2, hG2⟩; rw [HXX.out] at hR2; have hr2 := hr.grew hG2 HR.out (by decide); have hS2 : base ≤ w2.heap.size := Nat.le_trans hB hG2.grown.size; have hb2 := (hG2.grown.block b (blk_lt hb) (fun e' => blk_no hb HR.out (by decide) e')).trans hb; obtain ⟨f0, f1, f2, f3, -, -⟩ := cells6 hb2; obtain ⟨A2, c2, rfl⟩ := Kd.R_slice hR2; have HR2 := As.mk hR2; clear hR2)
              | (go_at_call_of 80 (Value.pointer rp); refine (IHR.out rp w2 _ X base hr2 HR2.out hS2 (by omega)).mono ?_; rintro e w4 ⟨v4, rfl, hR4, hG4⟩; have hGE := hG2.trans hG4; obtain ⟨A4, c4, rfl⟩ := Kd.R_slice hR4; have HR4 := As.mk hR4; clear hR4))
            go_ret
            exact ⟨_, rfl, HR4.out, hGE⟩
        case true =>
          rw [show T.scanTail fr tt most k v r X = T.scan fr tt most r X from by unfold T.scanTail lt; simp [hin, hkf]]
          clear hin
          obtain ⟨Ao, co, rfl⟩ := Kd.R_slice hR
          have HR := As.mk hR
          clear hR
          go_enter Try.func80, Try.ntmps80
          go_wp2_with (first
            | (go_at_call_of 80 (Value.pointer lp); refine (IHL.out lp w _ xs base hl HR.out hB (by omega)).mono ?_; rintro e w2 ⟨v2, rfl, hR2, hG2⟩; rw [HXX.out] at hR2; have hr2 := hr.grew hG2 HR.out (by decide); have hS2 : base ≤ w2.heap.size := Nat.le_trans hB hG2.grown.size; have hb2 := (hG2.grown.block b (blk_lt hb) (fun e' => blk_no hb HR.out (by decide) e')).trans hb; obtain ⟨f0, f1, f2, f3, -, -⟩ := cells6 hb2; obtain ⟨A2, c2, rfl⟩ := Kd.R_slice hR2; have HR2 := As.mk hR2; clear hR2)
            | (go_at_call_of 80 (Value.pointer rp); refine (IHR.out rp w2 _ X base hr2 HR2.out hS2 (by omega)).mono ?_; rintro e w4 ⟨v4, rfl, hR4, hG4⟩; have hGE := hG2.trans hG4; obtain ⟨A4, c4, rfl⟩ := Kd.R_slice hR4; have HR4 := As.mk hR4; clear hR4))
          go_ret
          exact ⟨_, rfl, HR4.out, hGE⟩

set_option maxHeartbeats 400000 in
set_option maxRecDepth 100000 in
theorem Scan_calls (p : Option Addr) (t : T) (fr tt : ByteArray) (most : Int) (w : World) (h : IsTr w p t) (hs : t.size < 1000000000) :
    Calls Try.prog 28 #[.pointer p, .string fr, .string tt, .int .i64 most] w fun e w' => ∃ v', e = .returned v' ∧ Kd.R k29 29 w' w.heap.size (fun _ => True) v' (t.scan fr tt most []) ∧ Below w.heap.size w w' := by
  go_enter Try.func28, Try.ntmps28
  go_wp2_with (first
    | (go_at_call 79; refine (top_calls p t w h).mono ?_; rintro e w2 ⟨q, rfl, ht, rfl⟩)
    | (go_at_call 80; refine (scan_calls fr tt most t q w _ [] w.heap.size ht (Kd.R_nil _ _ _ _ _) (Nat.le_refl _) (by simpa using hs)).mono ?_; rintro e w3 ⟨v3, rfl, hR3, hG3⟩; have hB3 := hG3.below (Kd.R_nil k29 29 w w.heap.size (fun _ => True)) (Nat.le_refl _)))
  go_ret
  exact ⟨_, rfl, hR3, hB3⟩

set_option maxHeartbeats 400000 in
set_option maxRecDepth 100000 in
theorem All_calls (p : Option Addr) (t : T) (w : World) (h : IsTr w p t) (hs : t.size < 1000000000) :
    Calls Try.prog 25 #[.pointer p] w fun e w' => ∃ v', e = .returned v' ∧ Kd.R k29 29 w' w.heap.size (fun _ => True) v' t.all ∧ Below w.heap.size w w' := by
  go_enter Try.func25, Try.ntmps25
  go_wp2_with (first
    | (go_at_call 26; refine (Len_calls p t w h).mono ?_; rintro e w2 ⟨rfl, rfl⟩)
    | (go_at_call 28; refine (Scan_calls p t _ _ _ w h hs).mono ?_; rintro e w3 ⟨v3, rfl, hR3, hB3⟩))
  go_ret
  exact ⟨_, rfl, hR3, hB3⟩

end Go.Proofs.Ytehnkoglhbbfjaa
