/-
  A text of the claim.
-/
import Derived.Test.YtehnkoglhbbfjaaProg
import Derived.Test.YtehnkoglhbbfjaaM0
import Derived.Test.YtehnkoglhbbfjaaWMore
import Derived.WalkKit
import Derived.WalkSpells
import Derived.WalkLawsBesides
import Derived.StillTailTactics
import Derived.BigQuiet
import Derived.Deep.QuietTactic
set_option linter.unusedVariables false
set_option linter.unusedSimpArgs false
namespace Go.Proofs.Ytehnkoglhbbfjaa
open Go.RowKit Go.Proofs.YtehnkoglhbbfjaaW.PrintWords Go.Proofs.YtehnkoglhbbfjaaW.PrintLast Go.Proofs.YtehnkoglhbbfjaaW.PrintMore

/-- A fact that the walk's simp does not see. -/
structure As (p : Prop) : Prop where
  out : p

theorem bstep {w w1 w2 : World} (h : Below w.heap.size w w1) (h2 : Below w1.heap.size w1 w2) : Below w.heap.size w w2 := h.trans (h2.mono h.size)

theorem blk_step {w w1 : World} {b : Nat} {o : Obj} (h : w.heap[b]? = some o) (hb : Below w.heap.size w w1) : w1.heap[b]? = some o := (hb.block b (Array.getElem?_eq_some_iff.1 h).1).trans h

/-- The world has a tree at a pointer. -/
def IsT (w : World) : Option Addr → T → Prop
  | p, .nil => p = none
  | p, .node l k v r => ∃ b lp rp, p = some ⟨b, 0, none⟩ ∧
      w.heap[b]? = some (.cells #[.string k, .string v, .pointer lp, .pointer rp, .int .i64 (T.node l k v r).depth, .int .i64 (T.node l k v r).size] 111 (0, 0)) ∧ IsT w lp l ∧ IsT w rp r

theorem heap_cell {w : World} {b : Nat} {cs : Array Value} {t : TypeId} {m : Nat × Nat} (h : w.heap[b]? = some (.cells cs t m)) (i : Nat) : w.cell? ⟨b, i, none⟩ = cs[i]? := cell_of_row w b i cs t m h

theorem cells6 {w : World} {b : Nat} {a0 a1 a2 a3 a4 a5 : Value} {t : TypeId} {m : Nat × Nat} (h : w.heap[b]? = some (.cells #[a0, a1, a2, a3, a4, a5] t m)) :
    w.cell? ⟨b, 0, none⟩ = some a0 ∧ w.cell? ⟨b, 1, none⟩ = some a1 ∧ w.cell? ⟨b, 2, none⟩ = some a2 ∧ w.cell? ⟨b, 3, none⟩ = some a3 ∧ w.cell? ⟨b, 4, none⟩ = some a4 ∧ w.cell? ⟨b, 5, none⟩ = some a5 :=
  ⟨heap_cell h 0, heap_cell h 1, heap_cell h 2, heap_cell h 3, heap_cell h 4, heap_cell h 5⟩
theorem cells2 {w : World} {b : Nat} {a0 a1 : Value} {t : TypeId} {m : Nat × Nat} (h : w.heap[b]? = some (.cells #[a0, a1] t m)) :
    w.cell? ⟨b, 0, none⟩ = some a0 ∧ w.cell? ⟨b, 1, none⟩ = some a1 := ⟨heap_cell h 0, heap_cell h 1⟩

set_option maxHeartbeats 400000 in
theorem depth_nil (w : World) : Calls Try.prog 91 #[.pointer none] w fun e w' => e = .returned (.int .i64 0) ∧ w = w' := by
  go_enter Try.func91, Try.ntmps91
  go_wp2
  go_ret
  exact ⟨rfl, rfl⟩

set_option maxHeartbeats 400000 in
theorem size_nil (w : World) : Calls Try.prog 78 #[.pointer none] w fun e w' => e = .returned (.int .i64 0) ∧ w = w' := by
  go_enter Try.func78, Try.ntmps78
  go_wp2
  go_ret
  exact ⟨rfl, rfl⟩

set_option maxHeartbeats 400000 in
theorem depth_some (b : Nat) (d : Int) (w : World) (h : w.cell? ⟨b, 4, none⟩ = some (.int .i64 d)) : Calls Try.prog 91 #[.pointer (some ⟨b, 0, none⟩)] w fun e w' => e = .returned (.int .i64 d) ∧ w = w' := by
  go_enter Try.func91, Try.ntmps91
  go_wp2
  go_ret
  exact ⟨rfl, rfl⟩

set_option maxHeartbeats 400000 in
theorem size_some (b : Nat) (d : Int) (w : World) (h : w.cell? ⟨b, 5, none⟩ = some (.int .i64 d)) : Calls Try.prog 78 #[.pointer (some ⟨b, 0, none⟩)] w fun e w' => e = .returned (.int .i64 d) ∧ w = w' := by
  go_enter Try.func78, Try.ntmps78
  go_wp2
  go_ret
  exact ⟨rfl, rfl⟩

theorem IsT.depth {w : World} {p : Option Addr} {t : T} (h : IsT w p t) : Calls Try.prog 91 #[.pointer p] w fun e w' => e = .returned (.int .i64 t.depth) ∧ w = w' := by
  cases t with
  | nil => obtain rfl := h; exact depth_nil w
  | node l k v r =>
    obtain ⟨b, lp, rp, rfl, hb, -, -⟩ := h
    exact depth_some b _ w ((heap_cell hb 4).trans rfl)

theorem IsT.size {w : World} {p : Option Addr} {t : T} (h : IsT w p t) : Calls Try.prog 78 #[.pointer p] w fun e w' => e = .returned (.int .i64 t.size) ∧ w = w' := by
  cases t with
  | nil => obtain rfl := h; exact size_nil w
  | node l k v r =>
    obtain ⟨b, lp, rp, rfl, hb, -, -⟩ := h
    exact size_some b _ w ((heap_cell hb 5).trans rfl)

theorem IsT.depthS {w : World} {p : Option Addr} {t : T} (h : IsT w p t) : Calls Try.prog 91 #[.pointer p] w fun e w' => e = .returned (.int .i64 t.depth) ∧ w' = w := h.depth.mono fun _ _ ⟨h, k⟩ => ⟨h, k.symm⟩
theorem IsT.sizeS {w : World} {p : Option Addr} {t : T} (h : IsT w p t) : Calls Try.prog 78 #[.pointer p] w fun e w' => e = .returned (.int .i64 t.size) ∧ w' = w := h.size.mono fun _ _ ⟨h, k⟩ => ⟨h, k.symm⟩

theorem IsT.below {w w' : World} {t : T} : ∀ {p : Option Addr}, IsT w p t → Below w.heap.size w w' → IsT w' p t := by
  induction t with
  | nil => intro p h _; exact h
  | node l k v r ihl ihr =>
    intro p h hb
    obtain ⟨b, lp, rp, rfl, hc, hl, hr⟩ := h
    exact ⟨b, lp, rp, rfl, (hb.block b (Array.getElem?_eq_some_iff.1 hc).1).trans hc, ihl hl hb, ihr hr hb⟩

/-- A store into a block that is no node's. -/
theorem IsT.setCell {w : World} {t : T} {g : Nat} {cs : Array Value} {ty : TypeId} {m : Nat × Nat} (hg : w.heap[g]? = some (.cells cs ty m)) (hty : ty ≠ 111) (i : Nat) (u : Value) : ∀ {p : Option Addr}, IsT w p t → IsT (w.setCell ⟨g, i, none⟩ u) p t := by
  induction t with
  | nil => intro p h; exact h
  | node l k v r ihl ihr =>
    intro p h
    obtain ⟨b, lp, rp, rfl, hc, hl, hr⟩ := h
    refine ⟨b, lp, rp, rfl, ?_, ihl hl, ihr hr⟩
    have hne : b ≠ g := by
      rintro rfl
      rw [hg] at hc
      simp only [Option.some.injEq, Obj.cells.injEq] at hc
      exact hty hc.2.1
    exact (Below.heap_setCell w ⟨g, i, none⟩ u b hne).trans hc

theorem IsT.drewN {w : World} {t : T} (n : Nat) : ∀ {p : Option Addr}, IsT w p t → IsT (w.drewN n) p t := by
  induction t with
  | nil => intro p h; exact h
  | node l k v r ihl ihr =>
    intro p h
    obtain ⟨b, lp, rp, rfl, hc, hl, hr⟩ := h
    exact ⟨b, lp, rp, rfl, hc, ihl hl, ihr hr⟩

theorem IsT.fun {w : World} {t : T} : ∀ {u : T} {p : Option Addr}, IsT w p t → IsT w p u → t = u := by
  induction t with
  | nil =>
    intro u p h h'
    cases u with
    | nil => rfl
    | node l k v r => obtain ⟨b, lp, rp, e, -⟩ := h'; rw [show p = none from h] at e; cases e
  | node l k v r ihl ihr =>
    intro u p h h'
    cases u with
    | nil => obtain ⟨b, lp, rp, e, -⟩ := h; rw [show p = none from h'] at e; cases e
    | node l' k' v' r' =>
      obtain ⟨b, lp, rp, rfl, hc, hl, hr⟩ := h
      obtain ⟨b', lp', rp', e, hc', hl', hr'⟩ := h'
      cases e
      rw [hc] at hc'
      simp only [Option.some.injEq, Obj.cells.injEq, Array.mk.injEq, List.cons.injEq, Value.string.injEq, Value.pointer.injEq] at hc'
      obtain ⟨⟨rfl, rfl, rfl, rfl, -⟩, -⟩ := hc'
      rw [ihl hl hl', ihr hr hr']

/-- A new block of a node's. -/
theorem IsT.made {w W : World} {p q : Option Addr} {l r : T} (k v : ByteArray) (hp : IsT w p l) (hq : IsT w q r) {d s : Int} (hb : Below w.heap.size w W)
    (hd : d = ((T.node l k v r).depth : Nat)) (hs : s = ((T.node l k v r).size : Nat)) :
    IsT (W.alloc (.cells #[.string k, .string v, .pointer p, .pointer q, .int .i64 d, .int .i64 s] 111)).drew (some ⟨W.heap.size, 0, none⟩) (.node l k v r) := by
  subst hd; subst hs
  have h1 : Below w.heap.size w (W.alloc (.cells #[.string k, .string v, .pointer p, .pointer q, .int .i64 ((T.node l k v r).depth : Nat), .int .i64 ((T.node l k v r).size : Nat)] 111)).drew := (hb.alloc hb.size _).drew
  exact ⟨W.heap.size, p, q, rfl, heap_alloc_new _ _, hp.below h1, hq.below h1⟩

set_option maxHeartbeats 400000 in
set_option maxRecDepth 100000 in
theorem over_calls (p q : Option Addr) (l r : T) (k v : ByteArray) (w : World) (hp : IsT w p l) (hq : IsT w q r) (hs : l.size + r.size < 1000000000) :
    Calls Try.prog 94 #[.pointer p, .agg #[.string k, .string v], .pointer q] w fun e w' => ∃ p', e = .returned (.pointer p') ∧ IsT w' p' (.node l k v r) ∧ Below w.heap.size w w' := by
  have hdl := l.depth_le
  have hdr := r.depth_le
  go_enter Try.func94, Try.ntmps94
  go_wp2_with fail
  have hb0 : Below w.heap.size w (w.alloc (Obj.cells #[.string k, .string v] 29)) := (Below.refl _ w).alloc (Nat.le_refl _) _
  have hc0 : (w.alloc (Obj.cells #[.string k, .string v] 29)).heap[w.heap.size]? = some (.cells #[.string k, .string v] 29 (0, 0)) := heap_alloc_new _ _
  generalize w.alloc (Obj.cells #[.string k, .string v] 29) = W at *
  refine wp_region_still_tail 16 (by kernel_rfl) (by kernel_rfl) ?_
  simp only [List.take_succ_cons, List.take_zero, List.drop_succ_cons, List.drop_zero]
  have hb1 : Below w.heap.size w W.drew := hb0.drew
  have hc1 : W.drew.heap[w.heap.size]? = some (.cells #[.string k, .string v] 29 (0, 0)) := hc0
  change wpStill _ _ W.drew _ _ _
  generalize W.drew = W2 at *
  have HP : IsT W2 p l := hp.below hb1
  have HQ : IsT W2 q r := hq.below hb1
  have c0 : W2.cell? ⟨w.heap.size, 0, none⟩ = some (.string k) := (heap_cell hc1 0).trans rfl
  have c1 : W2.cell? ⟨w.heap.size, 1, none⟩ = some (.string v) := (heap_cell hc1 1).trans rfl
  clear hc0 hc1
  still_step
  still_step
  still_step
  still_step
  still_call HP.depthS
  still_step
  still_call HQ.depthS
  still_step
  still_step
  still_step
  still_call HP.sizeS
  still_step
  still_step
  still_call HQ.sizeS
  still_step
  still_step
  refine wpStill_nil ?_
  clear HP HQ c0 c1 hb1
  go_wp2_with fail
  all_goals
    go_ret
    exact ⟨_, rfl, IsT.made k v hp hq hb0 (by simp only [T.depth]; omega) (by simp only [T.size]; omega), (hb0.alloc hb0.size _).drew⟩
end Go.Proofs.Ytehnkoglhbbfjaa
