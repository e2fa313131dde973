/-
  The document's Join, out of the printed function.
-/
import Derived.Test.YtehnkoglhbbfjaaM4
import Derived.Test.YtehnkoglhbbfjaaM7
set_option linter.unusedVariables false
set_option linter.unusedSimpArgs false
namespace Go.Proofs.Ytehnkoglhbbfjaa
open Go.RowKit Go.Proofs.YtehnkoglhbbfjaaW.PrintWords PAll

theorem Join_l1 (x y : List S29) (lx : Int) (i : Nat) (a b : ByteArray) (hy : y.length < 1000000) : ∀ (d k j : Nat), j + d = y.length → d < k →
    ((∀ q ∈ y.drop j, lt a q.f0 = true) → tidemarkref03_Join.l1 k x y x lx (i : Int) y (y.length : Int) (j : Int) a b = tidemarkref03_Join.l0 (k - d - 1) x y x lx (wrap64 ((i : Int) + 1))) ∧
    (¬ (∀ q ∈ y.drop j, lt a q.f0 = true) → tidemarkref03_Join.l1 k x y x lx (i : Int) y (y.length : Int) (j : Int) a b = some ([], false)) := by
  intro d
  induction d with
  | zero =>
    intro k j hj hk
    obtain ⟨k, rfl⟩ : ∃ m, k = m + 1 := ⟨k - 1, by omega⟩
    refine ⟨fun _ => ?_, fun h => absurd (fun q hq => ?_) h⟩
    · simp only [tidemarkref03_Join.l1]
      rw [if_neg (by omega)]
      rfl
    · rw [List.drop_eq_nil_of_le (by omega)] at hq
      cases hq
  | succ d ih =>
    intro k j hj hk
    obtain ⟨k, rfl⟩ : ∃ m, k = m + 1 := ⟨k - 1, by omega⟩
    have hlt : j < y.length := by omega
    have hd := dropc y j hlt
    obtain ⟨i1, i2⟩ := ih k (j + 1) (by omega) (by omega)
    by_cases c : lt a y[j].f0 = true
    · constructor
      · intro h
        simp only [tidemarkref03_Join.l1]
        rw [if_pos (by omega), if_pos (by omega), if_pos (by omega), rdT y j hlt, if_pos (show Op.bytesLess a.toList y[j].f0.toList = true from c), w64 hlt (by omega), i1 fun q hq => h q (by rw [hd]; exact List.mem_cons_of_mem _ hq)]
        congr 1
        omega
      · intro h
        simp only [tidemarkref03_Join.l1]
        rw [if_pos (by omega), if_pos (by omega), if_pos (by omega), rdT y j hlt, if_pos (show Op.bytesLess a.toList y[j].f0.toList = true from c), w64 hlt (by omega), i2 fun hh => h fun q hq => ?_]
        rw [hd] at hq
        rcases List.mem_cons.1 hq with rfl | hq
        · exact c
        · exact hh q hq
    · constructor
      · intro h
        exact absurd (h y[j] (by rw [hd]; exact List.mem_cons_self ..)) c
      · intro _
        simp only [tidemarkref03_Join.l1]
        rw [if_pos (by omega), if_pos (by omega), if_pos (by omega), rdT y j hlt, if_neg (show ¬ Op.bytesLess a.toList y[j].f0.toList = true from c)]
theorem Join_l0 (x y : List S29) (hx : x.length < 1000000) (hy : y.length < 1000000) : ∀ (d k i : Nat), i + d = x.length → d * (y.length + 2) < k →
    (T.Under (x.drop i) y → tidemarkref03_Join.l0 k x y x (x.length : Int) (i : Int) = some (x ++ y, true)) ∧
    (¬ T.Under (x.drop i) y → tidemarkref03_Join.l0 k x y x (x.length : Int) (i : Int) = some ([], false)) := by
  intro d
  induction d with
  | zero =>
    intro k i hi hk
    obtain ⟨k, rfl⟩ : ∃ m, k = m + 1 := ⟨k - 1, by omega⟩
    refine ⟨fun _ => ?_, fun h => absurd (fun q hq => ?_) h⟩
    · simp only [tidemarkref03_Join.l0]
      rw [if_neg (by omega)]
      simp only [Option.bind_some, List.length_nil, List.nil_append]
      rw [if_pos (by omega), if_pos (by omega)]
    · rw [List.drop_eq_nil_of_le (by omega)] at hq
      cases hq
  | succ d ih =>
    intro k i hi hk
    obtain ⟨k, rfl⟩ : ∃ m, k = m + 1 := ⟨k - 1, by omega⟩
    have hlt : i < x.length := by omega
    have hd := dropc x i hlt
    rw [Nat.succ_mul] at hk
    obtain ⟨j1, j2⟩ := Join_l1 x y (x.length : Int) i x[i].f0 x[i].f1 hy y.length k 0 (by omega) (by omega)
    obtain ⟨i1, i2⟩ := ih (k - y.length - 1) (i + 1) (by omega) (by omega)
    rw [List.drop_zero] at j1 j2
    rw [w64 hlt (by omega)] at j1
    have hz : (0 : Int) = ((0 : Nat) : Int) := rfl
    by_cases c : ∀ q ∈ y, lt x[i].f0 q.f0 = true
    · constructor
      · intro h
        simp only [tidemarkref03_Join.l0]
        rw [if_pos (by omega), if_pos (by omega), if_pos (by omega), rdT x i hlt, hz, j1 c]
        exact i1 fun p hp q hq => h p (by rw [hd]; exact List.mem_cons_of_mem _ hp) q hq
      · intro h
        simp only [tidemarkref03_Join.l0]
        rw [if_pos (by omega), if_pos (by omega), if_pos (by omega), rdT x i hlt, hz, j1 c]
        refine i2 fun hh => h fun p hp q hq => ?_
        rw [hd] at hp
        rcases List.mem_cons.1 hp with rfl | hp
        · exact c q hq
        · exact hh p hp q hq
    · constructor
      · intro h
        exact absurd (fun q hq => h x[i] (by rw [hd]; exact List.mem_cons_self ..) q hq) c
      · intro _
        simp only [tidemarkref03_Join.l0]
        rw [if_pos (by omega), if_pos (by omega), if_pos (by omega), rdT x i hlt, hz, j2 c]
theorem Join_f (x y : List S29) (hx : x.length < 1000000) (hy : y.length < 1000000) : ∃ K,
    (T.Under x y → tidemarkref03_Join.f K x y = some (x ++ y, true)) ∧ (¬ T.Under x y → tidemarkref03_Join.f K x y = some ([], false)) := by
  have h := Join_l0 x y hx hy x.length (x.length * (y.length + 2) + 1) 0 (by omega) (by omega)
  rw [List.drop_zero] at h
  exact ⟨_, h⟩
end Go.Proofs.Ytehnkoglhbbfjaa
