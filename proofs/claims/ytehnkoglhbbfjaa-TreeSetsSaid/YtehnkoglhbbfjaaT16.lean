/-
  The walk of shallow.
-/
import Derived.Test.YtehnkoglhbbfjaaR0
import Derived.Test.YtehnkoglhbbfjaaM10
set_option linter.unusedVariables false
set_option linter.unusedSimpArgs false
namespace Go.Proofs.Ytehnkoglhbbfjaa
open Go.RowKit Go.Proofs.YtehnkoglhbbfjaaW.PrintWords Go.Proofs.YtehnkoglhbbfjaaW.PrintLast Go.Proofs.YtehnkoglhbbfjaaW.PrintMore PAll

set_option maxHeartbeats 1000000 in
set_option maxRecDepth 100000 in
theorem shallow_calls (p : Option Addr) (t : T) (w : World) (h : IsTr w p t) (hb : T.Bal t) (hs : t.size < 1000000000) :
    Calls Try.prog 49 #[.pointer p] w fun e w' => e = .returned (.bool true) ∧ Below w.heap.size w w' := by
  have h60 := T.depth_60 t hb hs
  have hfew := T.few_size t hb
  by_cases hz : t.depth = 0
  · have hsz : t.size = 0 := by
      cases t with
      | nil => rfl
      | node l k v r => simp only [T.depth] at hz; omega
    go_enter Try.func49, Try.ntmps49
    go_wp2_with (first
      | (go_at_call 60; refine (Depth_calls p t w h).mono ?_; rw [hz]; rintro e w2 ⟨rfl, rfl⟩)
      | (go_at_call 26; refine (Len_calls p t w h).mono ?_; rw [hsz]; rintro e w2 ⟨rfl, rfl⟩))
    go_ret
    exact ⟨rfl, Below.refl _ _⟩
  · obtain ⟨d, hd⟩ : ∃ d, t.depth = d + 1 := ⟨t.depth - 1, by omega⟩
    rw [hd] at h60 hfew
    have HF := As.mk hfew
    clear hz hfew
    have q1 : ((d : Int) + 1 == 0) = false := by rw [beq_eq_false_iff_ne]; omega
    have q2 : ¬ (60 : Int) < (d : Int) + 1 := by omega
    go_enter Try.func49, Try.ntmps49
    go_wp2_with (first
      | (go_at_call 60; refine (Depth_calls p t w h).mono ?_; rw [hd, show (((d + 1 : Nat) : Nat) : Int) = (d : Int) + 1 from rfl]; rintro e w2 ⟨rfl, rfl⟩))
    go_loopg [3, 4, 19] d (fun m v3 v4 v19 wr => ∃ (k a b : Nat), v3 = .int .i64 a ∧ v4 = .int .i64 b ∧ v19 = .int .i64 k ∧ As (a = T.few (k + 1) ∧ b = T.few (k + 2) ∧ k ≤ d ∧ d - k ≤ m ∧ wr = w))
    case atStart => exact ⟨0, 1, 2, rfl, rfl, rfl, ⟨rfl, rfl, Nat.zero_le _, Nat.le_refl _, rfl⟩⟩
    case round =>
      obtain ⟨k, a, b, rfl, rfl, rfl, ⟨ha, hb', hk, hm, rfl⟩⟩ := hrel
      have m1 := T.few_mono (show k + 1 ≤ 62 by omega)
      have m2 := T.few_mono (show k + 2 ≤ 62 by omega)
      have m3 := T.few_62
      rw [← ha] at m1
      rw [← hb'] at m2
      have l1 : a < 4611686018427387904 := Nat.lt_of_le_of_lt m1 m3
      have l2 : b < 4611686018427387904 := Nat.lt_of_le_of_lt m2 m3
      clear m1 m2 m3
      by_cases hlt : k < d
      · have hn : a + b + 1 = T.few (k + 3) := by rw [ha, hb']; show _ = T.few (k + 2) + T.few (k + 1) + 1; omega
        have HN := As.mk hn
        have HBB := As.mk hb'
        clear hn ha hb'
        have hm1 : T.few (k + 3) ≤ T.few 62 := T.few_mono (by omega)
        have hm2 := T.few_62
        have l3 : a + b + 1 < 4611686018427387904 := by have := HN.out; omega
        clear hm1 hm2
        go_wp2
        go_roundg (d - (k + 1))
        case measure => omega
        case rel => exact ⟨k + 1, b, a + b + 1, rfl, by go_num, by go_num, ⟨HBB.out, HN.out, by omega, Nat.le_refl _, rfl⟩⟩
      · obtain rfl : k = d := by omega
        have hge : a ≤ t.size := by rw [ha]; exact HF.out
        clear ha hb'
        go_wp2_with (first
          | (go_at_call 26; refine (Len_calls p t _ h).mono ?_; rintro e w2 ⟨rfl, rfl⟩))
        go_ret
        exact ⟨by first | rfl | simp [hge], Below.refl _ _⟩

end Go.Proofs.Ytehnkoglhbbfjaa
