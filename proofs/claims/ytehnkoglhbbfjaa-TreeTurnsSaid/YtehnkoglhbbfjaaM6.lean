/-
  The guard 'short' of the statements: it answers; and what it lets in.
-/
import Derived.Test.YtehnkoglhbbfjaaM5
namespace Go.Proofs.Ytehnkoglhbbfjaa
open Go.RowKit Go.Proofs.YtehnkoglhbbfjaaW.PrintWords Go.Proofs.YtehnkoglhbbfjaaW.PrintLast Go.Proofs.YtehnkoglhbbfjaaW.PrintMore PAll

theorem mn_range (s : ByteArray) : 0 ≤ mn (s.size : Int) 16384 ∧ mn (s.size : Int) 16384 ≤ 16384 := by
  unfold mn; split <;> omega
theorem w64' {i n : Nat} (h : i < n) (hn : n ≤ 300) : wrap64 ((i : Int) + 1) = ((i + 1 : Nat) : Int) := by
  unfold wrap64; omega

theorem short_inner (ll : List (List S27)) (i : Nat) (P : Prop)
    (next : ∀ x3 : Int, 0 ≤ x3 → x3 ≤ 16384 → ∃ K b, tidemarklaw03_short.l0 K x3 ll (ll.length : Int) (wrap64 ((i : Int) + 1)) = some b ∧ (b = true → P))
    (xs : List S27) (hxs : xs.length ≤ 300) : ∀ (d j : Nat) (x3 : Int), j + d = xs.length → 0 ≤ x3 → x3 ≤ 16384 →
    ∃ K b, tidemarklaw03_short.l1 K x3 ll (ll.length : Int) (i : Int) xs (xs.length : Int) (j : Int) = some b ∧ (b = true → P) := by
  intro d
  induction d with
  | zero =>
    intro j x3 hj h0 h1
    obtain ⟨K, b, hb, hp⟩ := next x3 h0 h1
    refine ⟨K + 1, b, ?_, hp⟩
    simp only [tidemarklaw03_short.l1]
    rw [if_neg (by omega)]
    exact hb
  | succ d ih =>
    intro j x3 hj h0 h1
    have hlt : j < xs.length := by omega
    have m1 := mn_range (rd_T27 xs (j : Int)).f1
    have m2 := mn_range (rd_T27 xs (j : Int)).f2
    generalize hx : x3 + (mn ((rd_T27 xs (j : Int)).f1.size : Int) 16384 + mn ((rd_T27 xs (j : Int)).f2.size : Int) 16384) = x at *
    have hw : wrap64 x = x := by unfold wrap64; omega
    by_cases c : x > 16384
    · refine ⟨1, false, ?_, fun h => by cases h⟩
      simp only [tidemarklaw03_short.l1]
      rw [if_pos (by omega), if_pos (by omega), if_pos (by omega), hx, hw, if_pos c]
    · obtain ⟨K, b, hb, hp⟩ := ih (j + 1) x (by omega) (by omega) (by omega)
      refine ⟨K + 1, b, ?_, hp⟩
      simp only [tidemarklaw03_short.l1]
      rw [if_pos (by omega), if_pos (by omega), if_pos (by omega), hx, hw, if_neg c, w64' hlt hxs]
      exact hb

theorem short_outer (ll : List (List S27)) (hl : ll.length ≤ 300) : ∀ (d i : Nat) (x3 : Int), i + d = ll.length → 0 ≤ x3 → x3 ≤ 16384 →
    ∃ K b, tidemarklaw03_short.l0 K x3 ll (ll.length : Int) (i : Int) = some b ∧ (b = true → ∀ l ∈ ll.drop i, l.length ≤ 300) := by
  intro d
  induction d with
  | zero =>
    intro i x3 hi h0 h1
    refine ⟨1, true, ?_, fun _ l h => ?_⟩
    · simp only [tidemarklaw03_short.l0]
      rw [if_neg (by omega)]
    · rw [List.drop_eq_nil_of_le (by omega)] at h; cases h
  | succ d ih =>
    intro i x3 hi h0 h1
    have hlt : i < ll.length := by omega
    have hrd : rd_L3 ll (i : Int) = ll[i] := by simp [rd_L3, List.getD, hlt]
    by_cases c : (ll[i].length : Int) > 300
    · refine ⟨1, false, ?_, fun h => by cases h⟩
      simp only [tidemarklaw03_short.l0]
      rw [if_pos (by omega), if_pos (by omega), if_pos (by omega), hrd, if_pos c]
    · obtain ⟨K, b, hb, hp⟩ := short_inner ll i (∀ l ∈ ll.drop (i + 1), l.length ≤ 300) (fun x h0 h1 => by
        rw [w64' hlt hl]; exact ih (i + 1) x (by omega) h0 h1) ll[i] (by omega) ll[i].length 0 x3 (by omega) h0 h1
      refine ⟨K + 1, b, ?_, fun hb l h => ?_⟩
      · simp only [tidemarklaw03_short.l0]
        rw [if_pos (by omega), if_pos (by omega), if_pos (by omega), hrd, if_neg c]
        exact hb
      · rw [dropc ll i hlt] at h
        rcases List.mem_cons.1 h with rfl | h
        · omega
        · exact hp hb l h
theorem short_f (ll : List (List S27)) (hl : ll.length ≤ 300) : ∃ K b, tidemarklaw03_short.f K ll = some b ∧ (b = true → ∀ l ∈ ll, l.length ≤ 300) := by
  obtain ⟨K, b, hb, hp⟩ := short_outer ll hl ll.length 0 0 (by omega) (by omega) (by omega)
  exact ⟨K, b, hb, hp⟩
end Go.Proofs.Ytehnkoglhbbfjaa
