/-
  The call's own slices of pairs, written in place.
-/
import Derived.Test.YtehnkoglhbbfjaaR0
namespace Go.Proofs.Ytehnkoglhbbfjaa
open Go.RowKit Go.Proofs.YtehnkoglhbbfjaaW.PrintWords Go.Proofs.YtehnkoglhbbfjaaW.PrintLast Go.Proofs.YtehnkoglhbbfjaaW.PrintMore PAll

theorem Sl.kc {w : World} {A : Option Addr} {n c : Nat} {l : List S29} (h : Sl w (.slice A n c) l) : Kd.C k29 w A l.length l := by
  obtain ⟨A', c', e, -, h2⟩ := h
  injection e with e1 e2 e3
  subst e1
  exact h2
theorem Sl.cap {w : World} {A : Option Addr} {n c : Nat} {l : List S29} (h : Sl w (.slice A n c) l) : l.length ≤ c := by
  obtain ⟨A', c', e, h1, -⟩ := h
  injection e with e1 e2 e3
  subst e3
  exact h1

/-- A row of n pairs at blocks from base on, whose cells may be written. -/
def OwnB (w : World) (base : Nat) (v : Value) (n : Nat) : Prop :=
  (v = .slice none 0 0 ∧ n = 0) ∨ ∃ g cap cur, v = .slice (some ⟨g, 0, none⟩) n cap ∧ base ≤ g ∧ w.heap[g]? = some (.cells cur 29 (0, 0)) ∧ n * 2 ≤ cur.size
theorem OwnB.of_R {w : World} {base : Nat} {ok : Nat → Prop} {v : Value} {X : List S29} (h : Kd.R k29 29 w base ok v X) : OwnB w base v X.length := by
  obtain ⟨-, inner, ⟨hl, h1⟩, -⟩ := h
  rcases h1 with ⟨rfl, hn⟩ | ⟨g, cap, cur, rfl, hb, hg, hn, -, hc, -⟩
  · exact .inl ⟨rfl, hn⟩
  · refine .inr ⟨g, cap, cur, rfl, hb, hg, ?_⟩
    have hc2 : cur.size = cap * 2 := hc
    omega
theorem OwnB.below {w w' : World} {base : Nat} {v : Value} {n : Nat} (h : OwnB w base v n) (hb : Below w.heap.size w w') : OwnB w' base v n := by
  rcases h with h | ⟨g, cap, cur, h1, h2, h3, h4⟩
  · exact .inl h
  · exact .inr ⟨g, cap, cur, h1, h2, blk_step h3 hb, h4⟩
/-- A store into the row. -/
theorem OwnB.put {w : World} {base : Nat} {g cap n : Nat} {cur : Array Value} (hb : base ≤ g) (hg : w.heap[g]? = some (.cells cur 29 (0, 0))) (hn : n * 2 ≤ cur.size) (i : Nat) (u : Value) (hi : i < cur.size) :
    OwnB (w.setCell ⟨g, i, none⟩ u) base (.slice (some ⟨g, 0, none⟩) n cap) n := by
  refine .inr ⟨g, cap, cur.setIfInBounds i u, rfl, hb, blk_put hg i u rfl, by simpa using hn⟩
/-- A row of the call's own is as it was behind a store into a block that is older than its base. -/
theorem R29_far {w : World} {base g : Nat} {ok : Nat → Prop} {v : Value} {X : List S29} (h : Kd.R k29 29 w base ok v X) (hg : g < base) (i : Nat) (u : Value) : Kd.R k29 29 (w.setCell ⟨g, i, none⟩ u) base ok v X :=
  Kd.R_mono (Kd.R_move (Kd.R_bound h) (fun k hk => Below.heap_setCell w ⟨g, i, none⟩ u k (by have := hk.2.1; show k ≠ g; omega))) (fun k hk => hk.1)

end Go.Proofs.Ytehnkoglhbbfjaa
