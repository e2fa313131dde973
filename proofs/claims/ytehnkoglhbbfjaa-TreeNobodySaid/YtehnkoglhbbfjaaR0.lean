/-
  A slice of Do, opened from its reading; the call of short on literals of such slices.
-/
import Derived.Test.YtehnkoglhbbfjaaT12
import Derived.ProofKit
import Derived.ChangeOld
import Derived.Deep.Slices
import Derived.Deep.Strs
set_option linter.unusedVariables false
set_option linter.unusedSimpArgs false
namespace Go.Proofs.Ytehnkoglhbbfjaa
open Go.RowKit Go.Proofs.YtehnkoglhbbfjaaW.PrintWords Go.Proofs.YtehnkoglhbbfjaaW.PrintLast Go.Proofs.YtehnkoglhbbfjaaW.PrintMore PAll
open Go.ChangeShapes Go.WideShapes Go.ChangeAt

/-- A slice of things done that can be read. -/
def SlD (w : World) (v : Value) (l : List S27) : Prop := ∃ A c, v = .slice A l.length c ∧ l.length ≤ c ∧ Kd.C k27 w A l.length l
theorem SlD.below {w w' : World} {v : Value} {l : List S27} (h : SlD w v l) (hb : Below w.heap.size w w') : SlD w' v l := by
  obtain ⟨A, c, rfl, h1, h2⟩ := h
  exact ⟨A, c, rfl, h1, Kd.C_below h2 hb⟩

theorem cells_at {w : World} {base : Nat} {a : Addr} {n : Nat} {cs : List Value} (h : w.cells? base a n = some cs) : cs.length = n ∧ ∀ j u, cs[j]? = some u → w.cell? (a.add j) = some u := by
  obtain ⟨h1, h2, h3⟩ := World.cells?_some h
  refine ⟨h2, fun j u hu => ?_⟩
  have hj : j < n := by rw [← h2]; exact (List.getElem?_eq_some_iff.1 hu).1
  rw [h3 j hj]
  exact hu

theorem cellsOf3 : Try.prog.cellsOf 3 = 1 := by kernel_rfl
theorem cellsOf9 : Try.prog.cellsOf 9 = 1 := by kernel_rfl
theorem cellsOf27 : Try.prog.cellsOf 27 = 3 := by kernel_rfl

theorem open_do_cells {H : Type} {enc : TypeId × Value → H} {W : World} {n : Nat} {cs : List Value} {x : DataW H × List MemPlace}
    (h : DataW.trod enc Try.prog W 0 (fun _ => true) true n 27 cs = some x) : ∃ s : S27, cs = [.int .i64 s.f0, .string s.f1, .string s.f2] := by
  obtain ⟨y0, y1, y2, m, -, hl, h0, h1, h2⟩ := Go.Deep.trod_struct3 Try.underlying27 h
  rw [cellsOf27] at hl
  rw [cellsOf3] at h0
  rw [cellsOf9] at h1 h2
  obtain ⟨c0, c1, c2, rfl⟩ : ∃ c0 c1 c2, cs = [c0, c1, c2] := by
    match cs, hl with
    | [c0, c1, c2], _ => exact ⟨c0, c1, c2, rfl⟩
  obtain ⟨a, e0, -⟩ := DataW.trod_int Try.underlying3 h0
  obtain ⟨b, e1, -⟩ := DataW.trod_string Try.underlying9 h1
  obtain ⟨c, e2, -⟩ := DataW.trod_string Try.underlying9 h2
  simp at e0 e1 e2
  exact ⟨⟨a, b, c⟩, by rw [e0, e1, e2]⟩

instance : Inhabited S27 := ⟨z27⟩

set_option maxRecDepth 100000 in
theorem open_dos {H : Type} {enc : TypeId × Value → H} {W : World} {b : Nat} {v : Value} {d : DataW H} {ps : List MemPlace}
    (hv : Value.okWide Try.prog W .any b 22 v) (h : DataW.Trod enc Try.prog W 0 (fun _ => true) true 22 v d ps) : ∃ l : List S27, SlD W v l := by
  obtain ⟨a0, len, cap, rfl⟩ := okWide_slice Try.underlying22 hv
  obtain ⟨fuel, hf⟩ := h
  rcases Go.Deep.open_slice Try.underlying22 hf with ⟨hcs, -⟩ | ⟨a, len', cap', m, n, D, Pl, hcs, -, hl, hm, hmm, -, hx⟩
  · simp [Value.cells] at hcs
    obtain ⟨rfl, rfl, rfl⟩ := hcs
    exact ⟨[], none, 0, rfl, Nat.le_refl _, rfl, Nat.zero_le _, fun h => absurd h (Nat.lt_irrefl 0)⟩
  · simp [Value.cells] at hcs
    obtain ⟨rfl, rfl, rfl⟩ := hcs
    have hml : len ≤ m := by rw [hmm]; split <;> omega
    rw [cellsOf27] at hx
    obtain ⟨f, hf⟩ := Go.Deep.choose_lt (α := S27) (n := len) (p := fun i s => W.cells? 0 (a.add (i * 3)) 3 = some [.int .i64 s.f0, .string s.f1, .string s.f2]) (fun i hi => by
      obtain ⟨cs', h1, h2⟩ := hx i (by omega)
      obtain ⟨s, rfl⟩ := open_do_cells h2
      exact ⟨s, h1⟩)
    refine ⟨(List.range len).map f, some a, cap, by simp, by simpa using hl, by simp, ?_, fun _ => ⟨a, rfl, fun j p hj => ?_⟩⟩
    · simp only [List.length_map, List.length_range]
      exact Nat.le_trans hl (by unfold maxLen at hm; omega)
    · obtain ⟨hjl, hp⟩ := List.getElem?_eq_some_iff.1 hj
      simp at hjl hp
      subst hp
      obtain ⟨h1, h2⟩ := cells_at (hf j hjl)
      refine ⟨_, rfl, k27_mk _ _, fun i u hu => ?_⟩
      have := h2 i u hu
      rwa [Go.Deep.add_add] at this

/-- The call of short on a literal. -/
theorem Short_calls (ls : List (List S27)) (vs : List Value) (W W' : World) (g : Nat) (hg : W'.heap[g]? = some (.cells vs.toArray 22 (0, 0)))
    (hv : ∀ (j : Nat) l, ls[j]? = some l → ∃ v, vs[j]? = some v ∧ SlD W v l) (hb : Below W.heap.size W W') (hl : ls.length ≤ 300) :
    Calls Try.prog 19 #[.slice (some ⟨g, 0, none⟩) ls.length ls.length] W' fun e w' => ∃ b, e = .returned (.bool b) ∧ (b = true → ∀ l ∈ ls, l.length ≤ 300) ∧ Below W'.heap.size W' w' := by
  obtain ⟨K, b, hf, hbt⟩ := short_f ls hl
  have hC : Kd.C (Kd.slice 27 k27) W' (some ⟨g, 0, none⟩) ls.length ls := by
    refine ⟨rfl, by omega, fun _ => ⟨_, rfl, fun j p hj => ?_⟩⟩
    obtain ⟨v, hvj, A, c, rfl, h1, h2⟩ := hv j p hj
    refine ⟨[_], rfl, ⟨A, c, rfl, h1, Kd.C_below h2 hb⟩, fun i u hu => ?_⟩
    have hi : i = 0 := by
      have := (List.getElem?_eq_some_iff.1 hu).1
      simpa using this
    subst hi
    simp at hu
    subst hu
    have e : (⟨g, 0, none⟩ : Addr).add (j * 1 + 0) = ⟨g, j, none⟩ := by
      unfold Addr.add
      by_cases h : j = 0
      · subst h; rfl
      · simp [h]
    show W'.cell? ((⟨g, 0, none⟩ : Addr).add (j * 1 + 0)) = _
    rw [e]
    refine (heap_cell hg j).trans ?_
    simpa using hvj
  exact (tidemarklaw03_short.calls K _ _ ls b W' hC (Nat.le_refl _) hf).mono fun _ _ ⟨h, k⟩ => ⟨b, h, hbt, k⟩

end Go.Proofs.Ytehnkoglhbbfjaa

namespace Go.Proofs.Ytehnkoglhbbfjaa
open Go.RowKit Go.Proofs.YtehnkoglhbbfjaaW.PrintWords Go.Proofs.YtehnkoglhbbfjaaW.PrintLast Go.Proofs.YtehnkoglhbbfjaaW.PrintMore PAll

theorem Sl.kc {w : World} {A : Option Addr} {n c : Nat} {l : List S29} (h : Sl w (.slice A n c) l) : Kd.C k29 w A l.length l := by
  obtain ⟨A', c', e, -, h2⟩ := h
  injection e with e1 e2 e3
  subst e1
  exact h2
theorem Sl.cap {w : World} {A : Option Addr} {n c : Nat} {l : List S29} (h : Sl w (.slice A n c) l) : l.length ≤ c := by
  obtain ⟨A', c', e, h1, -⟩ := h
  injection e with e1 e2 e3
  subst e3
  exact h1

/-- A row of n pairs at blocks from base on, whose cells may be written. -/
def OwnB (w : World) (base : Nat) (v : Value) (n : Nat) : Prop :=
  (v = .slice none 0 0 ∧ n = 0) ∨ ∃ g cap cur, v = .slice (some ⟨g, 0, none⟩) n cap ∧ base ≤ g ∧ w.heap[g]? = some (.cells cur 29 (0, 0)) ∧ n * 2 ≤ cur.size
theorem OwnB.of_R {w : World} {base : Nat} {ok : Nat → Prop} {v : Value} {X : List S29} (h : Kd.R k29 29 w base ok v X) : OwnB w base v X.length := by
  obtain ⟨-, inner, ⟨hl, h1⟩, -⟩ := h
  rcases h1 with ⟨rfl, hn⟩ | ⟨g, cap, cur, rfl, hb, hg, hn, -, hc, -⟩
  · exact .inl ⟨rfl, hn⟩
  · refine .inr ⟨g, cap, cur, rfl, hb, hg, ?_⟩
    have hc2 : cur.size = cap * 2 := hc
    omega
theorem OwnB.below {w w' : World} {base : Nat} {v : Value} {n : Nat} (h : OwnB w base v n) (hb : Below w.heap.size w w') : OwnB w' base v n := by
  rcases h with h | ⟨g, cap, cur, h1, h2, h3, h4⟩
  · exact .inl h
  · exact .inr ⟨g, cap, cur, h1, h2, blk_step h3 hb, h4⟩
/-- A store into the row. -/
theorem OwnB.put {w : World} {base : Nat} {g cap n : Nat} {cur : Array Value} (hb : base ≤ g) (hg : w.heap[g]? = some (.cells cur 29 (0, 0))) (hn : n * 2 ≤ cur.size) (i : Nat) (u : Value) (hi : i < cur.size) :
    OwnB (w.setCell ⟨g, i, none⟩ u) base (.slice (some ⟨g, 0, none⟩) n cap) n := by
  refine .inr ⟨g, cap, cur.setIfInBounds i u, rfl, hb, blk_put hg i u rfl, by simpa using hn⟩
/-- A row of the call's own is as it was behind a store into a block that is older than its base. -/
theorem R29_far {w : World} {base g : Nat} {ok : Nat → Prop} {v : Value} {X : List S29} (h : Kd.R k29 29 w base ok v X) (hg : g < base) (i : Nat) (u : Value) : Kd.R k29 29 (w.setCell ⟨g, i, none⟩ u) base ok v X :=
  Kd.R_mono (Kd.R_move (Kd.R_bound h) (fun k hk => Below.heap_setCell w ⟨g, i, none⟩ u k (by have := hk.2.1; show k ≠ g; omega))) (fun k hk => hk.1)

end Go.Proofs.Ytehnkoglhbbfjaa

namespace Go.Proofs.Ytehnkoglhbbfjaa
open Go.RowKit Go.Proofs.YtehnkoglhbbfjaaW.PrintWords Go.Proofs.YtehnkoglhbbfjaaW.PrintLast Go.Proofs.YtehnkoglhbbfjaaW.PrintMore PAll

theorem Short1 (l : List S27) (A : Option Addr) (c : Nat) (w : World) (h : SlD w (.slice A l.length c) l) :
    Calls Try.prog 19 #[.slice (some ⟨w.heap.size, 0, none⟩) 1 1] (w.alloc (.cells #[.slice A l.length c] 22)) fun e w' => ∃ b, e = .returned (.bool b) ∧ (b = true → l.length ≤ 300) ∧ Below (w.alloc (.cells #[.slice A l.length c] 22)).heap.size (w.alloc (.cells #[.slice A l.length c] 22)) w' := by
  refine (Short_calls [l] [.slice A l.length c] w _ w.heap.size (heap_alloc_new _ _) (fun j p hj => ?_) ((Below.refl _ w).alloc (Nat.le_refl _) _) (by simp)).mono fun e w' ⟨b, h1, h2, h3⟩ => ⟨b, h1, fun hb => h2 hb l (by simp), h3⟩
  match j, hj with
  | 0, hj => cases hj; exact ⟨_, rfl, h⟩
  | j + 1, hj => simp at hj
theorem Short2 (l m : List S27) (A B : Option Addr) (c d : Nat) (w : World) (h : SlD w (.slice A l.length c) l) (h' : SlD w (.slice B m.length d) m) :
    Calls Try.prog 19 #[.slice (some ⟨w.heap.size, 0, none⟩) 2 2] (w.alloc (.cells #[.slice A l.length c, .slice B m.length d] 22)) fun e w' => ∃ b, e = .returned (.bool b) ∧ (b = true → l.length ≤ 300 ∧ m.length ≤ 300) ∧ Below (w.alloc (.cells #[.slice A l.length c, .slice B m.length d] 22)).heap.size (w.alloc (.cells #[.slice A l.length c, .slice B m.length d] 22)) w' := by
  refine (Short_calls [l, m] [.slice A l.length c, .slice B m.length d] w _ w.heap.size (heap_alloc_new _ _) (fun j p hj => ?_) ((Below.refl _ w).alloc (Nat.le_refl _) _) (by simp)).mono fun e w' ⟨b, h1, h2, h3⟩ => ⟨b, h1, fun hb => ⟨h2 hb l (by simp), h2 hb m (by simp)⟩, h3⟩
  match j, hj with
  | 0, hj => cases hj; exact ⟨_, rfl, h⟩
  | 1, hj => cases hj; exact ⟨_, rfl, h'⟩
  | j + 2, hj => simp at hj
theorem Short3 (l m n : List S27) (A B C : Option Addr) (c d f : Nat) (w : World) (h : SlD w (.slice A l.length c) l) (h' : SlD w (.slice B m.length d) m) (h'' : SlD w (.slice C n.length f) n) :
    Calls Try.prog 19 #[.slice (some ⟨w.heap.size, 0, none⟩) 3 3] (w.alloc (.cells #[.slice A l.length c, .slice B m.length d, .slice C n.length f] 22)) fun e w' => ∃ b, e = .returned (.bool b) ∧ (b = true → l.length ≤ 300 ∧ m.length ≤ 300 ∧ n.length ≤ 300) ∧ Below (w.alloc (.cells #[.slice A l.length c, .slice B m.length d, .slice C n.length f] 22)).heap.size (w.alloc (.cells #[.slice A l.length c, .slice B m.length d, .slice C n.length f] 22)) w' := by
  refine (Short_calls [l, m, n] [.slice A l.length c, .slice B m.length d, .slice C n.length f] w _ w.heap.size (heap_alloc_new _ _) (fun j p hj => ?_) ((Below.refl _ w).alloc (Nat.le_refl _) _) (by simp)).mono fun e w' ⟨b, h1, h2, h3⟩ => ⟨b, h1, fun hb => ⟨h2 hb l (by simp), h2 hb m (by simp), h2 hb n (by simp)⟩, h3⟩
  match j, hj with
  | 0, hj => cases hj; exact ⟨_, rfl, h⟩
  | 1, hj => cases hj; exact ⟨_, rfl, h'⟩
  | 2, hj => cases hj; exact ⟨_, rfl, h''⟩
  | j + 3, hj => simp at hj

theorem Made_calls (v : Value) (l : List S27) (w : World) (h : SlD w v l) (hl : l.length ≤ 300) :
    Calls Try.prog 27 #[v] w fun e w' => ∃ p A c t, e = .returned (.tuple #[.pointer p, .slice A t.toL.length c]) ∧ t = T.play .nil l ∧ t.size ≤ 300 ∧ Srt t.toL ∧ IsTr w' p t ∧ Kd.R k29 29 w' w.heap.size (fun _ => True) (.slice A t.toL.length c) t.toL ∧ Below w.heap.size w w' := by
  obtain ⟨A, c, rfl, h1, h2⟩ := h
  refine (made_calls l A c w h2 hl).mono fun e w' ⟨p, v, he, ht, hR, hb⟩ => ?_
  obtain ⟨A', c', rfl⟩ := Kd.R_slice hR
  have hz := T.play_size .nil l
  simp only [T.size] at hz
  exact ⟨p, A', c', _, he, rfl, by omega, T.play_srt .nil l srt_nil, ht, hR, hb⟩

end Go.Proofs.Ytehnkoglhbbfjaa
