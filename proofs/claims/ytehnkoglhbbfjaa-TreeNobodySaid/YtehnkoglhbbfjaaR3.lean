/-
  A slice of Do, opened from its reading, with its strings' sizes out of the row's weights; the keys that a played tree has.
-/
import Derived.Test.YtehnkoglhbbfjaaR0
import Derived.SizedLaws
set_option linter.unusedVariables false
set_option linter.unusedSimpArgs false
namespace Go.Proofs.Ytehnkoglhbbfjaa
open Go.RowKit Go.Proofs.YtehnkoglhbbfjaaW.PrintWords Go.Proofs.YtehnkoglhbbfjaaW.PrintLast Go.Proofs.YtehnkoglhbbfjaaW.PrintMore PAll
open Go.ChangeShapes Go.WideShapes Go.ChangeAt

theorem RankB_calls (p : Option Addr) (t : T) (key : ByteArray) (w : World) (h : IsTr w p t) (hs : t.size < 1000000000) (rk : Nat) (hr : rk = t.rank key) :
    Calls Try.prog 44 #[.pointer p, .string key] w fun e w' => e = .returned (.int .i64 (rk : Int)) ∧ Below w.heap.size w w' := by
  subst hr
  exact (Rank_calls p t key w h hs).mono fun _ _ ⟨n, h1, h2⟩ => ⟨h1, by rw [h2]; exact pw_below_drewN (Below.refl _ _) n⟩

theorem mem_weightsAll {H : Type} {P : Program} {e : TypeId} {d : DataW H} {n : Nat} : ∀ {ds : List (DataW H)}, d ∈ ds → n ∈ d.weights P e → n ∈ DataW.weightsAll P e ds
  | x :: r, h, hn => by
    simp only [DataW.weightsAll, List.mem_append]
    rcases List.mem_cons.1 h with rfl | h
    · exact .inl hn
    · exact .inr (mem_weightsAll h hn)

theorem open_do_cells' {H : Type} {enc : TypeId × Value → H} {W : World} {n : Nat} {cs : List Value} {x : DataW H × List MemPlace}
    (h : DataW.trod enc Try.prog W 0 (fun _ => true) true n 27 cs = some x) : ∃ s : S27, cs = [.int .i64 s.f0, .string s.f1, .string s.f2] ∧ s.f1.size ∈ x.1.weights Try.prog 27 ∧ s.f2.size ∈ x.1.weights Try.prog 27 := by
  obtain ⟨y0, y1, y2, m, hx, hl, h0, h1, h2⟩ := Go.Deep.trod_struct3 Try.underlying27 h
  rw [cellsOf27] at hl
  rw [cellsOf3] at h0
  rw [cellsOf9] at h1 h2
  obtain ⟨c0, c1, c2, rfl⟩ : ∃ c0 c1 c2, cs = [c0, c1, c2] := by
    match cs, hl with
    | [c0, c1, c2], _ => exact ⟨c0, c1, c2, rfl⟩
  obtain ⟨a, e0, z0, -⟩ := DataW.trod_int Try.underlying3 h0
  obtain ⟨b, e1, z1, -⟩ := DataW.trod_string Try.underlying9 h1
  obtain ⟨c, e2, z2, -⟩ := DataW.trod_string Try.underlying9 h2
  simp at e0 e1 e2
  refine ⟨⟨a, b, c⟩, by rw [e0, e1, e2], ?_, ?_⟩
  · rw [hx, z0, z1, z2]
    simp [DataW.weights, Try.underlying27, DataW.weightsEach]
  · rw [hx, z0, z1, z2]
    simp [DataW.weights, Try.underlying27, DataW.weightsEach]

set_option maxRecDepth 100000 in
theorem open_dos' {H : Type} {enc : TypeId × Value → H} {W : World} {b : Nat} {v : Value} {d : DataW H} {ps : List MemPlace}
    (hv : Value.okWide Try.prog W .any b 22 v) (h : DataW.Trod enc Try.prog W 0 (fun _ => true) true 22 v d ps) (hz : ∀ n ∈ d.weights Try.prog 22, n ≤ reachBytes) :
    ∃ l : List S27, SlD W v l ∧ ∀ s ∈ l, s.f1.size ≤ reachBytes ∧ s.f2.size ≤ reachBytes := by
  obtain ⟨a0, len, cap, rfl⟩ := okWide_slice Try.underlying22 hv
  obtain ⟨fuel, hf⟩ := h
  rcases Go.Deep.open_slice Try.underlying22 hf with ⟨hcs, -⟩ | ⟨a, len', cap', m, n, D, Pl, hcs, -, hl, hm, hmm, hd, hx⟩
  · simp [Value.cells] at hcs
    obtain ⟨rfl, rfl, rfl⟩ := hcs
    exact ⟨[], ⟨none, 0, rfl, Nat.le_refl _, rfl, Nat.zero_le _, fun h => absurd h (Nat.lt_irrefl 0)⟩, fun s hs => by cases hs⟩
  · simp [Value.cells] at hcs
    obtain ⟨rfl, rfl, rfl⟩ := hcs
    have hml : len ≤ m := by rw [hmm]; split <;> omega
    rw [cellsOf27] at hx
    obtain ⟨hd1, -⟩ := Prod.mk.inj hd
    subst hd1
    obtain ⟨f, hf⟩ := Go.Deep.choose_lt (α := S27) (n := len) (p := fun i s => W.cells? 0 (a.add (i * 3)) 3 = some [.int .i64 s.f0, .string s.f1, .string s.f2] ∧ s.f1.size ≤ reachBytes ∧ s.f2.size ≤ reachBytes) (fun i hi => by
      obtain ⟨cs', h1, h2⟩ := hx i (by omega)
      obtain ⟨s, rfl, hs1, hs2⟩ := open_do_cells' h2
      have hmem : D i ∈ (List.range len).map D := List.mem_map.2 ⟨i, by simpa using hi, rfl⟩
      have hw : ∀ n ∈ (D i).weights Try.prog 27, n ≤ reachBytes := fun n hn => hz n (by
        simp only [DataW.weights, Try.underlying22, List.mem_cons, List.mem_append]
        exact .inr (.inl (mem_weightsAll hmem hn)))
      exact ⟨s, h1, hw _ hs1, hw _ hs2⟩)
    refine ⟨(List.range len).map f, ⟨some a, cap, by simp, by simpa using hl, by simp, ?_, fun _ => ⟨a, rfl, fun j p hj => ?_⟩⟩, ?_⟩
    · simp only [List.length_map, List.length_range]
      exact Nat.le_trans hl (by unfold maxLen at hm; omega)
    · obtain ⟨hjl, hp⟩ := List.getElem?_eq_some_iff.1 hj
      simp at hjl hp
      subst hp
      obtain ⟨h1, h2⟩ := cells_at (hf j hjl).1
      refine ⟨_, rfl, k27_mk _ _, fun i u hu => ?_⟩
      have := h2 i u hu
      rwa [Go.Deep.add_add] at this
    · intro s hs
      obtain ⟨i, hi, rfl⟩ := List.mem_map.1 hs
      exact (hf i (by simpa using hi)).2

namespace T
theorem play_keys (l : List S27) : ∀ x ∈ (play .nil l).toL, ∃ s ∈ l, x.f0 = s.f1 := by
  suffices h : ∀ (l : List S27) (t : T), Srt t.toL → ∀ x ∈ (play t l).toL, (∃ s ∈ l, x.f0 = s.f1) ∨ x ∈ t.toL by
    intro x hx
    rcases h l .nil srt_nil x hx with h | h
    · exact h
    · cases h
  intro l
  induction l with
  | nil => intro t _ x hx; exact .inr hx
  | cons k r ih =>
    intro t ht x hx
    rcases ih (step t k) (step_srt t k ht) x hx with ⟨s, hs, e⟩ | h
    · exact .inl ⟨s, List.mem_cons_of_mem _ hs, e⟩
    · rw [step_toL t k ht] at h
      split at h
      · rcases mem_withP.1 h with rfl | ⟨h, -⟩
        · exact .inl ⟨k, List.mem_cons_self .., rfl⟩
        · exact .inr h
      · exact .inr (mem_without.1 h).1
end T
end Go.Proofs.Ytehnkoglhbbfjaa

namespace Go.Proofs.Ytehnkoglhbbfjaa
open Go.RowKit Go.Proofs.YtehnkoglhbbfjaaW.PrintWords Go.Proofs.YtehnkoglhbbfjaaW.PrintLast Go.Proofs.YtehnkoglhbbfjaaW.PrintMore PAll
open Go.ChangeShapes Go.WideShapes Go.ChangeAt

set_option maxRecDepth 100000 in
theorem open_do {H : Type} {enc : TypeId × Value → H} {W : World} {b : Nat} {v : Value} {d : DataW H} {ps : List MemPlace}
    (hv : Value.okWide Try.prog W .any b 27 v) (h : DataW.Trod enc Try.prog W 0 (fun _ => true) true 27 v d ps) : ∃ s : S27, v = .agg #[.int .i64 s.f0, .string s.f1, .string s.f2] := by
  obtain ⟨cs, rfl, hsz⟩ := okWide_struct Try.underlying27 hv
  obtain ⟨fuel, hf⟩ := h
  obtain ⟨s, hs⟩ := open_do_cells hf
  refine ⟨s, ?_⟩
  obtain ⟨cs⟩ := cs
  simp [Value.cells] at hs
  rw [hs]
end Go.Proofs.Ytehnkoglhbbfjaa
