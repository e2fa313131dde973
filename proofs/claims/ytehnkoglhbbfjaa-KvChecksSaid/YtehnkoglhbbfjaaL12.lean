/-
  The law KvChecks: its walk.
-/
import Derived.Test.YtehnkoglhbbfjaaK7
set_option linter.unusedVariables false
set_option linter.unusedSimpArgs false
namespace Go.Proofs.Ytehnkoglhbbfjaa
open Go.RowKit Go.Proofs.YtehnkoglhbbfjaaW.PrintWords Go.Proofs.YtehnkoglhbbfjaaW.PrintLast Go.Proofs.YtehnkoglhbbfjaaW.PrintMore PAll

set_option maxHeartbeats 4000000 in
set_option maxRecDepth 100000 in
theorem kvChecks_calls (u : Value) (cs : List S95) (v : Value) (os : List S95) (w : World) (hu : SlO w u cs) (hv : SlO w v os) :
    Calls Try.prog 12 #[u, v] w fun e w' => e = .returned (.bool true) ∧ Below w.heap.size w w' := by
  have HU := As.mk hu
  have HV := As.mk hv
  have HB := As.mk (Below.refl w.heap.size w)
  obtain ⟨A, c, rfl, -, -⟩ := hu
  obtain ⟨A', c', rfl, -, -⟩ := hv
  have TOK := True.intro
  go_enter Try.func12, Try.ntmps12
  go_wp2_with (first
    | (go_at_call 54; have _t := TOK; refine (WeighO_calls _ cs _ HU.out).mono ?_; rintro e w1 ⟨r1, rfl, p1, p2, p3, hb⟩; have HW1 := As.mk p3; have HU := As.mk (HU.out.below hb); have HV := As.mk (HV.out.below hb); have HB := As.mk (bstep HB.out hb); by_cases q1 : 32768 < r1; all_goals clear hb TOK p3)
    | (go_at_call 54; refine (WeighO_calls _ os _ HV.out).mono ?_; rintro e w2 ⟨r2, rfl, p4, p5, p6, hb⟩; have HW2 := As.mk p6; have HU := As.mk (HU.out.below hb); have HV := As.mk (HV.out.below hb); have HB := As.mk (bstep HB.out hb); by_cases q2 : 32768 < r2; all_goals clear hb p6)
    | (go_at_call 55; refine (awake9_calls _).mono ?_; rintro e w3 ⟨rfl, hb⟩; have HB := As.mk (bstep HB.out hb); clear hb)
    | (go_at_call 56; refine (kvCheck_calls _ _ cs os _ HU.out HV.out).mono ?_; rintro e w4 ⟨rfl, hb⟩; have HU := As.mk (HU.out.below hb); have HV := As.mk (HV.out.below hb); have HB := As.mk (bstep HB.out hb); clear hb)
    | (go_at_call 57; refine (refCheck_calls _ _ cs os _ HU.out HV.out (fun o ho => by have := HW1.out (by omega) o ho; omega) (fun o ho => by have := HW2.out (by omega) o ho; omega)).mono ?_; rintro e w5 ⟨rfl, hb⟩; have HB := As.mk (bstep HB.out hb); clear hb))
  all_goals
    go_ret
    exact ⟨rfl, HB.out⟩

end Go.Proofs.Ytehnkoglhbbfjaa
