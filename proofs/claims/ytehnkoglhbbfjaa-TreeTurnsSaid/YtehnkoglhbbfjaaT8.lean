/-
  The walk of Join.
-/
import Derived.Test.YtehnkoglhbbfjaaT7
namespace Go.Proofs.Ytehnkoglhbbfjaa
open Go.RowKit Go.Proofs.YtehnkoglhbbfjaaW.PrintWords Go.Proofs.YtehnkoglhbbfjaaW.PrintLast Go.Proofs.YtehnkoglhbbfjaaW.PrintMore PAll

/-- What Join answers. -/
def Joined (w : World) : Option T → Ending → World → Prop
  | none, e, w' => e = .returned (.tuple #[.pointer none, .bool false]) ∧ Below w.heap.size w w'
  | some u, e, w' => ∃ p', e = .returned (.tuple #[.pointer p', .bool true]) ∧ IsTr w' p' u ∧ Below w.heap.size w w'

set_option maxHeartbeats 1000000 in
set_option maxRecDepth 100000 in
theorem Join_nil (p q : Option Addr) (A B : T) (hAB : A = .nil ∨ B = .nil) (w : World) (hp : IsTr w p A) (hq : IsTr w q B) (hs : A.size + B.size < 1000000000) :
    Calls Try.prog 51 #[.pointer p, .pointer q] w fun e w' => ∃ p', e = .returned (.tuple #[.pointer p', .bool true]) ∧ IsTr w' p' (T.glue A B) ∧ Below w.heap.size w w' := by
  go_enter Try.func51, Try.ntmps51
  go_wp2_with fail
  refine (top_calls p A w hp).mono ?_
  rintro e w2 ⟨pa, rfl, ha, rfl⟩
  go_wp2_with fail
  refine (top_calls q B w hq).mono ?_
  rintro e w2 ⟨pb, rfl, hb, rfl⟩
  have HA := As.mk ha
  have HB := As.mk hb
  have hab : pa = none ∨ ((∃ x, pa = some x) ∧ pb = none) := by
    cases A with
    | nil => exact Or.inl ha
    | node al ak av ar =>
      obtain ⟨ab, alp, arp, e, -, -, -⟩ := ha
      rcases hAB with h | h
      · cases h
      · subst h; exact Or.inr ⟨⟨_, e⟩, hb⟩
  clear ha hb
  rcases hab with rfl | ⟨⟨x, rfl⟩, rfl⟩
  all_goals
    go_wp2_with (first
      | (go_at_call 85; refine (glue_calls _ _ A B _ HA.out HB.out hs).mono ?_; rintro e w3 ⟨p3, rfl, h3, hB3⟩)
      | ((with_reducible refine gate_dst (N := 44) rfl ?_); refine box_event ?hg (N := 44) ?hd (cs := #[.pointer p3]) (t := 83) ?hr ?_; (case hd => rfl); (case hg => rfl); (case hr => first | (go_simp; done) | (go_simp; rfl)); intro gt hg_gt wt hx_gt hb_gt; clear hg_gt))
    go_ret2
    exact ⟨_, rfl, Or.inr ⟨_, p3, rfl, hx_gt, h3.below hb_gt⟩, bstep hB3 hb_gt⟩

set_option maxHeartbeats 1000000 in
set_option maxRecDepth 100000 in
theorem Join_no (p q : Option Addr) (A B : T) (ek ev fk fv : ByteArray) (eb fb : Bool) (hE : T.tat A ((A.size : Int) - 1) = ((ek, ev), eb)) (hF : T.tat B 0 = ((fk, fv), fb)) (hA : A ≠ .nil) (hB : B ≠ .nil) (hlt : Op.bytesLess ek.toList fk.toList = false) (w : World) (hp : IsTr w p A) (hq : IsTr w q B) (hs : A.size + B.size < 1000000000) :
    Calls Try.prog 51 #[.pointer p, .pointer q] w fun e w' => e = .returned (.tuple #[.pointer none, .bool false]) ∧ Below w.heap.size w w' := by
  go_enter Try.func51, Try.ntmps51
  go_wp2_with fail
  refine (top_calls p A w hp).mono ?_
  rintro e w2 ⟨pa, rfl, ha, rfl⟩
  go_wp2_with fail
  refine (top_calls q B w hq).mono ?_
  rintro e w2 ⟨pb, rfl, hb, rfl⟩
  obtain ⟨xa, rfl⟩ : ∃ x, pa = some x := by
    cases A with
    | nil => exact absurd rfl hA
    | node al ak av ar => obtain ⟨ab, alp, arp, rfl, -, -, -⟩ := ha; exact ⟨_, rfl⟩
  obtain ⟨xb, rfl⟩ : ∃ x, pb = some x := by
    cases B with
    | nil => exact absurd rfl hB
    | node al ak av ar => obtain ⟨ab, alp, arp, rfl, -, -, -⟩ := hb; exact ⟨_, rfl⟩
  have HE := As.mk hE
  have HF := As.mk hF
  clear hE hF
  go_wp2_with fail
  refine (Len_calls p A w hp).mono ?_
  rintro e w2 ⟨rfl, rfl⟩
  go_wp2_with fail
  refine (At_calls p A _ w hp (by omega)).mono ?_
  rintro e w3 ⟨rfl, hB3⟩
  rw [HE.out]
  go_wp2_with (first
    | ((with_reducible refine gate_dst (N := 8) rfl ?_); refine box_event ?hg (N := 8) ?hd (cs := #[.string (⟨#[]⟩ : ByteArray), .string (⟨#[]⟩ : ByteArray)]) (t := 29) ?hr ?_; (case hd => rfl); (case hg => rfl); (case hr => first | (go_simp; done) | (go_simp; rfl)); intro ge hg_ge w4 hx_ge hb_ge; have hB4 := bstep hB3 hb_ge; have GE := As.mk ((by rw [hg_ge]; exact hB3.size) : w.heap.size ≤ ge); clear hg_ge; obtain ⟨x0, x1⟩ := cells2 hx_ge; have z0 := blk_frozen hx_ge 0; have z1 := blk_frozen hx_ge 1))
  have hB5 := (hB4.setCell (p := ⟨ge, 0, none⟩) GE.out (.string ek)).setCell (p := ⟨ge, 1, none⟩) GE.out (.string ev)
  have hx5 := blk_put (blk_put hx_ge 0 (.string ek) rfl) 1 (.string ev) rfl
  clear x0 x1 z0 z1
  generalize (w4.setCell ⟨ge, 0, none⟩ (.string ek)).setCell ⟨ge, 1, none⟩ (.string ev) = w5 at *
  refine (At_calls q B _ w5 (hq.below hB5) (by omega)).mono ?_
  rintro e w6 ⟨rfl, hb6⟩
  rw [HF.out]
  have hB6 := bstep hB5 hb6
  have hx6 := blk_step hx5 hb6
  go_wp2_with (first
    | ((with_reducible refine gate_dst (N := 10) rfl ?_); refine box_event ?hg (N := 10) ?hd (cs := #[.string (⟨#[]⟩ : ByteArray), .string (⟨#[]⟩ : ByteArray)]) (t := 29) ?hr ?_; (case hd => rfl); (case hg => rfl); (case hr => first | (go_simp; done) | (go_simp; rfl)); intro gf hg_gf w7 hx_gf hb_gf; have hB7 := bstep hB6 hb_gf; have GF := As.mk ((by rw [hg_gf]; exact hB6.size) : w.heap.size ≤ gf); have GN := As.mk ((by rw [hg_gf]; exact Nat.ne_of_lt (blk_lt hx6)) : ge ≠ gf); have hx7 := blk_step hx6 hb_gf; clear hg_gf; obtain ⟨x0, x1⟩ := cells2 hx_gf; have z0 := blk_frozen hx_gf 0; have z1 := blk_frozen hx_gf 1; have y0 := cells2 (blk_far (blk_far hx7 (p := ⟨gf, 0, none⟩) GN.out (.string fk)) (p := ⟨gf, 1, none⟩) GN.out (.string fv)); have hneq := GN.out; have hneq' := Ne.symm GN.out; obtain ⟨y0, y1⟩ := y0))
  go_ret2
  exact ⟨rfl, (hB7.setCell (p := ⟨gf, 0, none⟩) GF.out _).setCell (p := ⟨gf, 1, none⟩) GF.out _⟩

set_option maxHeartbeats 1000000 in
set_option maxRecDepth 100000 in
theorem Join_yes (p q : Option Addr) (A B : T) (ek ev fk fv : ByteArray) (eb fb : Bool) (hE : T.tat A ((A.size : Int) - 1) = ((ek, ev), eb)) (hF : T.tat B 0 = ((fk, fv), fb)) (hA : A ≠ .nil) (hB : B ≠ .nil) (hlt : Op.bytesLess ek.toList fk.toList = true) (w : World) (hp : IsTr w p A) (hq : IsTr w q B) (hs : A.size + B.size < 1000000000) :
    Calls Try.prog 51 #[.pointer p, .pointer q] w fun e w' => ∃ p', e = .returned (.tuple #[.pointer p', .bool true]) ∧ IsTr w' p' (T.glue A B) ∧ Below w.heap.size w w' := by
  go_enter Try.func51, Try.ntmps51
  go_wp2_with fail
  refine (top_calls p A w hp).mono ?_
  rintro e w2 ⟨pa, rfl, ha, rfl⟩
  go_wp2_with fail
  refine (top_calls q B w hq).mono ?_
  rintro e w2 ⟨pb, rfl, hb, rfl⟩
  obtain ⟨xa, rfl⟩ : ∃ x, pa = some x := by
    cases A with
    | nil => exact absurd rfl hA
    | node al ak av ar => obtain ⟨ab, alp, arp, rfl, -, -, -⟩ := ha; exact ⟨_, rfl⟩
  obtain ⟨xb, rfl⟩ : ∃ x, pb = some x := by
    cases B with
    | nil => exact absurd rfl hB
    | node al ak av ar => obtain ⟨ab, alp, arp, rfl, -, -, -⟩ := hb; exact ⟨_, rfl⟩
  have HE := As.mk hE
  have HF := As.mk hF
  clear hE hF
  go_wp2_with fail
  refine (Len_calls p A w hp).mono ?_
  rintro e w2 ⟨rfl, rfl⟩
  go_wp2_with fail
  refine (At_calls p A _ w hp (by omega)).mono ?_
  rintro e w3 ⟨rfl, hB3⟩
  rw [HE.out]
  go_wp2_with (first
    | ((with_reducible refine gate_dst (N := 8) rfl ?_); refine box_event ?hg (N := 8) ?hd (cs := #[.string (⟨#[]⟩ : ByteArray), .string (⟨#[]⟩ : ByteArray)]) (t := 29) ?hr ?_; (case hd => rfl); (case hg => rfl); (case hr => first | (go_simp; done) | (go_simp; rfl)); intro ge hg_ge w4 hx_ge hb_ge; have hB4 := bstep hB3 hb_ge; have GE := As.mk ((by rw [hg_ge]; exact hB3.size) : w.heap.size ≤ ge); clear hg_ge; obtain ⟨x0, x1⟩ := cells2 hx_ge; have z0 := blk_frozen hx_ge 0; have z1 := blk_frozen hx_ge 1))
  have hB5 := (hB4.setCell (p := ⟨ge, 0, none⟩) GE.out (.string ek)).setCell (p := ⟨ge, 1, none⟩) GE.out (.string ev)
  have hx5 := blk_put (blk_put hx_ge 0 (.string ek) rfl) 1 (.string ev) rfl
  clear x0 x1 z0 z1
  generalize (w4.setCell ⟨ge, 0, none⟩ (.string ek)).setCell ⟨ge, 1, none⟩ (.string ev) = w5 at *
  refine (At_calls q B _ w5 (hq.below hB5) (by omega)).mono ?_
  rintro e w6 ⟨rfl, hb6⟩
  rw [HF.out]
  have hB6 := bstep hB5 hb6
  have hx6 := blk_step hx5 hb6
  go_wp2_with (first
    | ((with_reducible refine gate_dst (N := 10) rfl ?_); refine box_event ?hg (N := 10) ?hd (cs := #[.string (⟨#[]⟩ : ByteArray), .string (⟨#[]⟩ : ByteArray)]) (t := 29) ?hr ?_; (case hd => rfl); (case hg => rfl); (case hr => first | (go_simp; done) | (go_simp; rfl)); intro gf hg_gf w7 hx_gf hb_gf; have hB7 := bstep hB6 hb_gf; have GF := As.mk ((by rw [hg_gf]; exact hB6.size) : w.heap.size ≤ gf); have GN := As.mk ((by rw [hg_gf]; exact Nat.ne_of_lt (blk_lt hx6)) : ge ≠ gf); have hx7 := blk_step hx6 hb_gf; clear hg_gf; obtain ⟨x0, x1⟩ := cells2 hx_gf; have z0 := blk_frozen hx_gf 0; have z1 := blk_frozen hx_gf 1; have y0 := cells2 (blk_far (blk_far hx7 (p := ⟨gf, 0, none⟩) GN.out (.string fk)) (p := ⟨gf, 1, none⟩) GN.out (.string fv)); have hneq := GN.out; have hneq' := Ne.symm GN.out; obtain ⟨y0, y1⟩ := y0)
    | (go_at_call 85; have hB8 := (hB7.setCell (p := ⟨gf, 0, none⟩) GF.out (.string fk)).setCell (p := ⟨gf, 1, none⟩) GF.out (.string fv); refine (glue_calls _ _ A B _ (ha.below hB8) (hb.below hB8) hs).mono ?_; rintro e w9 ⟨p9, rfl, h9, hb9⟩; have hB9 := bstep hB8 hb9)
    | ((with_reducible refine gate_dst (N := 44) rfl ?_); refine box_event ?hg (N := 44) ?hd (cs := #[.pointer p9]) (t := 83) ?hr ?_; (case hd => rfl); (case hg => rfl); (case hr => first | (go_simp; done) | (go_simp; rfl)); intro gt hg_gt wt hx_gt hb_gt; clear hg_gt))
  go_ret2
  exact ⟨_, rfl, Or.inr ⟨_, p9, rfl, hx_gt, h9.below hb_gt⟩, bstep hB9 hb_gt⟩

theorem Join_calls (p q : Option Addr) (a b : T) (w : World) (hp : IsTr w p a) (hq : IsTr w q b) (hs : a.size + b.size < 1000000000) :
    Calls Try.prog 51 #[.pointer p, .pointer q] w (Joined w (T.tjoin a b)) := by
  cases ha : a with
  | nil =>
    rw [show T.tjoin .nil b = some (T.glue .nil b) by cases b <;> rfl]
    subst ha
    exact Join_nil p q _ b (Or.inl rfl) w hp hq hs
  | node al ak av ar =>
    cases hb : b with
    | nil =>
      rw [show T.tjoin (.node al ak av ar) .nil = some (T.glue (.node al ak av ar) .nil) from rfl]
      subst ha; subst hb
      exact Join_nil p q _ _ (Or.inr rfl) w hp hq hs
    | node bl bk bv br =>
      rw [← ha, ← hb]
      have hA : a ≠ .nil := by rw [ha]; intro h; cases h
      have hB : b ≠ .nil := by rw [hb]; intro h; cases h
      have hJ : T.tjoin a b = if lt (T.tat a ((a.size : Int) - 1)).1.1 (T.tat b 0).1.1 then some (T.glue a b) else none := by
        rw [ha, hb]; rfl
      rw [hJ]
      cases hlt : lt (T.tat a ((a.size : Int) - 1)).1.1 (T.tat b 0).1.1 with
      | false => exact Join_no p q a b _ _ _ _ _ _ rfl rfl hA hB hlt w hp hq hs
      | true => exact Join_yes p q a b _ _ _ _ _ _ rfl rfl hA hB hlt w hp hq hs

end Go.Proofs.Ytehnkoglhbbfjaa
