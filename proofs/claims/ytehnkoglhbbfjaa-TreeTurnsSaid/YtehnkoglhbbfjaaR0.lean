/-
  A slice of Do, opened from its reading; the call of short on literals of such slices.
-/
import Derived.Test.YtehnkoglhbbfjaaT12
import Derived.ProofKit
import Derived.ChangeOld
import Derived.Deep.Slices
import Derived.Deep.Strs
namespace Go.Proofs.Ytehnkoglhbbfjaa
open Go.RowKit Go.Proofs.YtehnkoglhbbfjaaW.PrintWords Go.Proofs.YtehnkoglhbbfjaaW.PrintLast Go.Proofs.YtehnkoglhbbfjaaW.PrintMore PAll
open Go.ChangeShapes Go.WideShapes Go.ChangeAt

/-- A slice of things done that can be read. -/
def SlD (w : World) (v : Value) (l : List S27) : Prop := ∃ A c, v = .slice A l.length c ∧ l.length ≤ c ∧ Kd.C k27 w A l.length l
theorem SlD.below {w w' : World} {v : Value} {l : List S27} (h : SlD w v l) (hb : Below w.heap.size w w') : SlD w' v l := by
  obtain ⟨A, c, rfl, h1, h2⟩ := h
  exact ⟨A, c, rfl, h1, Kd.C_below h2 hb⟩

theorem cells_at {w : World} {base : Nat} {a : Addr} {n : Nat} {cs : List Value} (h : w.cells? base a n = some cs) : cs.length = n ∧ ∀ j u, cs[j]? = some u → w.cell? (a.add j) = some u := by
  obtain ⟨h1, h2, h3⟩ := World.cells?_some h
  refine ⟨h2, fun j u hu => ?_⟩
  have hj : j < n := by rw [← h2]; exact (List.getElem?_eq_some_iff.1 hu).1
  rw [h3 j hj]
  exact hu

theorem cellsOf3 : Try.prog.cellsOf 3 = 1 := by kernel_rfl
theorem cellsOf9 : Try.prog.cellsOf 9 = 1 := by kernel_rfl
theorem cellsOf27 : Try.prog.cellsOf 27 = 3 := by kernel_rfl

theorem open_do_cells {H : Type} {enc : TypeId × Value → H} {W : World} {n : Nat} {cs : List Value} {x : DataW H × List MemPlace}
    (h : DataW.trod enc Try.prog W 0 (fun _ => true) true n 27 cs = some x) : ∃ s : S27, cs = [.int .i64 s.f0, .string s.f1, .string s.f2] := by
  obtain ⟨y0, y1, y2, m, -, hl, h0, h1, h2⟩ := Go.Deep.trod_struct3 Try.underlying27 h
  rw [cellsOf27] at hl
  rw [cellsOf3] at h0
  rw [cellsOf9] at h1 h2
  obtain ⟨c0, c1, c2, rfl⟩ : ∃ c0 c1 c2, cs = [c0, c1, c2] := by
    match cs, hl with
    | [c0, c1, c2], _ => exact ⟨c0, c1, c2, rfl⟩
  obtain ⟨a, e0, -⟩ := DataW.trod_int Try.underlying3 h0
  obtain ⟨b, e1, -⟩ := DataW.trod_string Try.underlying9 h1
  obtain ⟨c, e2, -⟩ := DataW.trod_string Try.underlying9 h2
  simp at e0 e1 e2
  exact ⟨⟨a, b, c⟩, by rw [e0, e1, e2]⟩

instance : Inhabited S27 := ⟨z27⟩

set_option maxRecDepth 100000 in
theorem open_dos {H : Type} {enc : TypeId × Value → H} {W : World} {b : Nat} {v : Value} {d : DataW H} {ps : List MemPlace}
    (hv : Value.okWide Try.prog W .any b 22 v) (h : DataW.Trod enc Try.prog W 0 (fun _ => true) true 22 v d ps) : ∃ l : List S27, SlD W v l := by
  obtain ⟨a0, len, cap, rfl⟩ := okWide_slice Try.underlying22 hv
  obtain ⟨fuel, hf⟩ := h
  rcases Go.Deep.open_slice Try.underlying22 hf with ⟨hcs, -⟩ | ⟨a, len', cap', m, n, D, Pl, hcs, -, hl, hm, hmm, -, hx⟩
  · simp [Value.cells] at hcs
    obtain ⟨rfl, rfl, rfl⟩ := hcs
    exact ⟨[], none, 0, rfl, Nat.le_refl _, rfl, Nat.zero_le _, fun h => absurd h (Nat.lt_irrefl 0)⟩
  · simp [Value.cells] at hcs
    obtain ⟨rfl, rfl, rfl⟩ := hcs
    have hml : len ≤ m := by rw [hmm]; split <;> omega
    rw [cellsOf27] at hx
    obtain ⟨f, hf⟩ := Go.Deep.choose_lt (α := S27) (n := len) (p := fun i s => W.cells? 0 (a.add (i * 3)) 3 = some [.int .i64 s.f0, .string s.f1, .string s.f2]) (fun i hi => by
      obtain ⟨cs', h1, h2⟩ := hx i (by omega)
      obtain ⟨s, rfl⟩ := open_do_cells h2
      exact ⟨s, h1⟩)
    refine ⟨(List.range len).map f, some a, cap, by simp, by simpa using hl, by simp, ?_, fun _ => ⟨a, rfl, fun j p hj => ?_⟩⟩
    · simp only [List.length_map, List.length_range]
      exact Nat.le_trans hl (by unfold maxLen at hm; omega)
    · obtain ⟨hjl, hp⟩ := List.getElem?_eq_some_iff.1 hj
      simp at hjl hp
      subst hp
      obtain ⟨h1, h2⟩ := cells_at (hf j hjl)
      refine ⟨_, rfl, k27_mk _ _, fun i u hu => ?_⟩
      have := h2 i u hu
      rwa [Go.Deep.add_add] at this

/-- The call of short on a literal. -/
theorem Short_calls (ls : List (List S27)) (vs : List Value) (W W' : World) (g : Nat) (hg : W'.heap[g]? = some (.cells vs.toArray 22 (0, 0)))
    (hv : ∀ (j : Nat) l, ls[j]? = some l → ∃ v, vs[j]? = some v ∧ SlD W v l) (hb : Below W.heap.size W W') (hl : ls.length ≤ 300) :
    Calls Try.prog 19 #[.slice (some ⟨g, 0, none⟩) ls.length ls.length] W' fun e w' => ∃ b, e = .returned (.bool b) ∧ (b = true → ∀ l ∈ ls, l.length ≤ 300) ∧ Below W'.heap.size W' w' := by
  obtain ⟨K, b, hf, hbt⟩ := short_f ls hl
  have hC : Kd.C (Kd.slice 27 k27) W' (some ⟨g, 0, none⟩) ls.length ls := by
    refine ⟨rfl, by omega, fun _ => ⟨_, rfl, fun j p hj => ?_⟩⟩
    obtain ⟨v, hvj, A, c, rfl, h1, h2⟩ := hv j p hj
    refine ⟨[_], rfl, ⟨A, c, rfl, h1, Kd.C_below h2 hb⟩, fun i u hu => ?_⟩
    have hi : i = 0 := by
      have := (List.getElem?_eq_some_iff.1 hu).1
      simpa using this
    subst hi
    simp at hu
    subst hu
    have e : (⟨g, 0, none⟩ : Addr).add (j * 1 + 0) = ⟨g, j, none⟩ := by
      unfold Addr.add
      by_cases h : j = 0
      · subst h; rfl
      · simp [h]
    show W'.cell? ((⟨g, 0, none⟩ : Addr).add (j * 1 + 0)) = _
    rw [e]
    refine (heap_cell hg j).trans ?_
    simpa using hvj
  exact (tidemarklaw03_short.calls K _ _ ls b W' hC (Nat.le_refl _) hf).mono fun _ _ ⟨h, k⟩ => ⟨b, h, hbt, k⟩

end Go.Proofs.Ytehnkoglhbbfjaa
