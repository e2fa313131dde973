/-
  The walks of the tree's methods: New, Of, Len, Depth, Get, Put, Drop, Rank, At, Floor, Ceil.
-/
import Derived.Test.YtehnkoglhbbfjaaT3
import Derived.Deep.LoopGhost
set_option linter.unusedVariables false
set_option linter.unusedSimpArgs false
namespace Go.Proofs.Ytehnkoglhbbfjaa
open Go.RowKit Go.Proofs.YtehnkoglhbbfjaaW.PrintWords Go.Proofs.YtehnkoglhbbfjaaW.PrintLast Go.Proofs.YtehnkoglhbbfjaaW.PrintMore

/-- A tree as an object: nil, or a cell that holds the root. -/
def IsTr (w : World) (p : Option Addr) (t : T) : Prop :=
  (p = none ∧ t = .nil) ∨ ∃ b q, p = some ⟨b, 0, none⟩ ∧ w.heap[b]? = some (.cells #[.pointer q] 83 (0, 0)) ∧ IsT w q t

theorem IsTr.below {w w' : World} {p : Option Addr} {t : T} (h : IsTr w p t) (hb : Below w.heap.size w w') : IsTr w' p t := by
  rcases h with h | ⟨b, q, rfl, hc, ht⟩
  · exact Or.inl h
  · exact Or.inr ⟨b, q, rfl, blk_step hc hb, ht.below hb⟩
theorem IsTr.drewN {w : World} {p : Option Addr} {t : T} (n : Nat) (h : IsTr w p t) : IsTr (w.drewN n) p t := by
  rcases h with h | ⟨b, q, rfl, hc, ht⟩
  · exact Or.inl h
  · exact Or.inr ⟨b, q, rfl, hc, ht.drewN n⟩
theorem IsTr.setCell {w : World} {p : Option Addr} {t : T} (h : IsTr w p t) {g : Nat} {cs : Array Value} {ty : TypeId} {m : Nat × Nat} (hg : w.heap[g]? = some (.cells cs ty m)) (hty : ty ≠ 111) (hty' : ty ≠ 83) (i : Nat) (u : Value) : IsTr (w.setCell ⟨g, i, none⟩ u) p t := by
  rcases h with h | ⟨b, q, rfl, hc, ht⟩
  · exact Or.inl h
  · refine Or.inr ⟨b, q, rfl, ?_, ht.setCell hg hty i u⟩
    have hne : b ≠ g := by
      rintro rfl
      rw [hg] at hc
      simp only [Option.some.injEq, Obj.cells.injEq] at hc
      exact hty' hc.2.1
    exact (Below.heap_setCell w ⟨g, i, none⟩ u b hne).trans hc
theorem IsTr.fun {w : World} {p : Option Addr} {t u : T} (h : IsTr w p t) (k : IsTr w p u) : t = u := by
  rcases h with ⟨rfl, rfl⟩ | ⟨b, q, rfl, hc, ht⟩
  · rcases k with ⟨-, rfl⟩ | ⟨b, q, e, -⟩
    · rfl
    · cases e
  · rcases k with ⟨e, -⟩ | ⟨b', q', e, hc', ht'⟩
    · cases e
    · cases e
      rw [hc] at hc'
      simp only [Option.some.injEq, Obj.cells.injEq, Array.mk.injEq, List.cons.injEq, Value.pointer.injEq] at hc'
      obtain ⟨⟨rfl, -⟩, -⟩ := hc'
      exact ht.fun ht'

set_option maxHeartbeats 400000 in
set_option maxRecDepth 100000 in
theorem find_calls (key : ByteArray) (t : T) (p : Option Addr) (w : World) (hp : IsT w p t) :
    Calls Try.prog 82 #[.pointer p, .string key] w fun e w' => ∃ q, e = .returned (.pointer q) ∧ IsT w q (t.find key) ∧ w = w' := by
  go_enter Try.func82, Try.ntmps82
  go_wp2_with fail
  go_loopg [0] t.size (fun k v0 wr => ∃ (q : Option Addr) (s : T), v0 = .pointer q ∧ As (IsT w q s ∧ s.find key = t.find key ∧ s.size ≤ k) ∧ w = wr)
  case atStart => exact ⟨p, t, rfl, ⟨hp, rfl, Nat.le_refl _⟩, rfl⟩
  case round =>
    obtain ⟨q, s, rfl, ⟨hq, hf, hk⟩, rfl⟩ := hrel
    have HF := As.mk hf
    clear hf
    cases s with
    | nil =>
      obtain rfl : q = none := hq
      go_wp2
      go_ret
      exact ⟨none, rfl, (by rw [← HF.out]; rfl), rfl⟩
    | node l k' v' r =>
      have HQ := As.mk hq
      obtain ⟨b, lp, rp, rfl, hb, hl, hr⟩ := hq
      obtain ⟨e0, e1, e2, e3, -, -⟩ := cells6 hb
      simp only [T.size] at hk
      by_cases c2 : k' = key
      · subst c2
        have hsp : (T.node l k' v' r).find k' = T.node l k' v' r := by rw [T.find, if_pos rfl]
        have HS := As.mk hsp
        clear hsp
        go_wp2
        go_ret
        exact ⟨_, rfl, (by rw [← HF.out, HS.out]; exact HQ.out), rfl⟩
      · have c2' := key_ne c2
        by_cases c1 : lt key k' = true
        · have c1' : Op.bytesLess key.toList k'.toList = true := c1
          have HS := As.mk (show (T.node l k' v' r).find key = l.find key by rw [T.find, if_neg c2, if_pos c1])
          clear c1 c2
          go_wp2
          go_roundg l.size
          case measure => omega
          case rel => exact ⟨lp, l, rfl, ⟨hl, HS.out.symm.trans HF.out, Nat.le_refl _⟩, rfl⟩
        · have c1' : Op.bytesLess key.toList k'.toList = false := by simpa [lt] using c1
          have HS := As.mk (show (T.node l k' v' r).find key = r.find key by rw [T.find, if_neg c2, if_neg c1])
          clear c1 c2
          go_wp2
          go_roundg r.size
          case measure => omega
          case rel => exact ⟨rp, r, rfl, ⟨hr, HS.out.symm.trans HF.out, Nat.le_refl _⟩, rfl⟩

set_option maxHeartbeats 400000 in
set_option maxRecDepth 100000 in
theorem top_calls (p : Option Addr) (t : T) (w : World) (h : IsTr w p t) :
    Calls Try.prog 79 #[.pointer p] w fun e w' => ∃ q, e = .returned (.pointer q) ∧ IsT w q t ∧ w = w' := by
  rcases h with ⟨rfl, rfl⟩ | ⟨b, q, rfl, hc, ht⟩
  · go_enter Try.func79, Try.ntmps79
    go_wp2
    go_ret
    exact ⟨none, rfl, rfl, rfl⟩
  · have c0 : w.cell? ⟨b, 0, none⟩ = some (.pointer q) := (heap_cell hc 0).trans rfl
    go_enter Try.func79, Try.ntmps79
    go_wp2
    go_ret
    exact ⟨q, rfl, ht, rfl⟩

set_option maxHeartbeats 400000 in
set_option maxRecDepth 100000 in
theorem New_calls (w : World) : Calls Try.prog 46 #[] w fun e w' => ∃ p, e = .returned (.pointer p) ∧ IsTr w' p .nil ∧ Below w.heap.size w w' := by
  go_enter Try.func46, Try.ntmps46
  go_wp2_with (first | ((with_reducible refine gate_dst (N := 2) rfl ?_); refine box_event ?hg (N := 2) ?hd (cs := #[.pointer none]) (t := 83) ?hr ?_; (case hd => rfl); (case hg => rfl); (case hr => first | (go_simp; done) | (go_simp; rfl)); intro gt hg_t wt hx_t hb_t; clear hg_t; skip))
  go_ret
  exact ⟨_, rfl, Or.inr ⟨_, none, rfl, hx_t, rfl⟩, hb_t⟩

set_option maxHeartbeats 400000 in
set_option maxRecDepth 100000 in
theorem Len_calls (p : Option Addr) (t : T) (w : World) (h : IsTr w p t) : Calls Try.prog 26 #[.pointer p] w fun e w' => e = .returned (.int .i64 t.size) ∧ w = w' := by
  go_enter Try.func26, Try.ntmps26
  go_wp2_with (first
    | (go_at_call 79; refine (top_calls p t w h).mono ?_; rintro e w2 ⟨q, rfl, ht, rfl⟩)
    | (go_at_call 78; refine ht.size.mono ?_; rintro e w2 ⟨rfl, rfl⟩))
  go_ret
  exact ⟨rfl, rfl⟩

set_option maxHeartbeats 400000 in
set_option maxRecDepth 100000 in
theorem Depth_calls (p : Option Addr) (t : T) (w : World) (h : IsTr w p t) : Calls Try.prog 60 #[.pointer p] w fun e w' => e = .returned (.int .i64 t.depth) ∧ w = w' := by
  go_enter Try.func60, Try.ntmps60
  go_wp2_with (first
    | (go_at_call 79; refine (top_calls p t w h).mono ?_; rintro e w2 ⟨q, rfl, ht, rfl⟩)
    | (go_at_call 91; refine ht.depth.mono ?_; rintro e w2 ⟨rfl, rfl⟩))
  go_ret
  exact ⟨rfl, rfl⟩

set_option maxHeartbeats 400000 in
set_option maxRecDepth 100000 in
theorem Get_calls (p : Option Addr) (t : T) (key : ByteArray) (w : World) (h : IsTr w p t) :
    Calls Try.prog 47 #[.pointer p, .string key] w fun e w' => e = .returned (.tuple #[.string (t.get key).1, .bool (t.get key).2]) ∧ w = w' := by
  cases hf : t.find key with
  | nil =>
    rw [show t.get key = (⟨#[]⟩, false) by unfold T.get; rw [hf]]
    have HF := As.mk hf
    clear hf
    go_enter Try.func47, Try.ntmps47
    go_wp2_with (first
      | (go_at_call 79; refine (top_calls p t w h).mono ?_; rintro e w2 ⟨q, rfl, ht, rfl⟩)
      | (go_at_call 82; refine (find_calls key t q w ht).mono ?_; rintro e w2 ⟨q2, rfl, ht2, rfl⟩; rw [HF.out] at ht2; obtain rfl : q2 = none := ht2))
    go_ret2
    exact ⟨rfl, rfl⟩
  | node l k v r =>
    rw [show t.get key = (v, true) by unfold T.get; rw [hf]]
    have HF := As.mk hf
    clear hf
    go_enter Try.func47, Try.ntmps47
    go_wp2_with (first
      | (go_at_call 79; refine (top_calls p t w h).mono ?_; rintro e w2 ⟨q, rfl, ht, rfl⟩)
      | (go_at_call 82; refine (find_calls key t q w ht).mono ?_; rintro e w2 ⟨q2, rfl, ht2, rfl⟩; rw [HF.out] at ht2; obtain ⟨b, lp, rp, rfl, hb, hl, hr⟩ := ht2; obtain ⟨e0, e1, e2, e3, -, -⟩ := cells6 hb))
    go_ret2
    exact ⟨rfl, rfl⟩

set_option maxHeartbeats 400000 in
set_option maxRecDepth 100000 in
theorem Put_calls (p : Option Addr) (t : T) (key val : ByteArray) (w : World) (h : IsTr w p t) (hs : t.size < 900000000) :
    Calls Try.prog 36 #[.pointer p, .string key, .string val] w fun e w' => ∃ p', e = .returned (.pointer p') ∧ IsTr w' p' (t.tput key val) ∧ Below w.heap.size w w' := by
  cases hf : t.find key with
  | nil =>
    rw [show t.tput key val = t.put key val by unfold T.tput; rw [hf]]
    have HF := As.mk hf
    clear hf
    go_enter Try.func36, Try.ntmps36
    go_wp2_with (first
      | (go_at_call 79; refine (top_calls p t w h).mono ?_; rintro e w2 ⟨q, rfl, ht, rfl⟩)
      | (go_at_call 82; refine (find_calls key t q w ht).mono ?_; rintro e w2 ⟨q2, rfl, ht2, rfl⟩; rw [HF.out] at ht2; obtain rfl : q2 = none := ht2)
      | (go_at_call 77; refine (put_calls key val t _ w ht hs).mono ?_; rintro e w3 ⟨q3, rfl, ht3, hB3⟩)
      | ((with_reducible refine gate_dst (N := 34) rfl ?_); refine box_event ?hg (N := 34) ?hd (cs := #[.pointer q3]) (t := 83) ?hr ?_; (case hd => rfl); (case hg => rfl); (case hr => first | (go_simp; done) | (go_simp; rfl)); intro gt hg_t wt hx_t hb_t; clear hg_t; skip))
    go_ret
    exact ⟨_, rfl, Or.inr ⟨_, q3, rfl, hx_t, ht3.below hb_t⟩, bstep hB3 hb_t⟩
  | node l k v r =>
    by_cases c : v = val
    · subst c
      rw [show t.tput key v = t by unfold T.tput; rw [hf]; exact if_pos rfl]
      have HF := As.mk hf
      clear hf
      go_enter Try.func36, Try.ntmps36
      go_wp2_with (first
        | (go_at_call 79; refine (top_calls p t w h).mono ?_; rintro e w2 ⟨q, rfl, ht, rfl⟩)
        | (go_at_call 82; refine (find_calls key t q w ht).mono ?_; rintro e w2 ⟨q2, rfl, ht2, rfl⟩; rw [HF.out] at ht2; obtain ⟨b, lp, rp, rfl, hb, hl, hr⟩ := ht2; obtain ⟨e0, e1, e2, e3, -, -⟩ := cells6 hb)
        | ((with_reducible refine gate_dst (N := 26) rfl ?_); refine box_event ?hg (N := 26) ?hd (cs := #[.pointer q]) (t := 83) ?hr ?_; (case hd => rfl); (case hg => rfl); (case hr => first | (go_simp; done) | (go_simp; rfl)); intro gt hg_t wt hx_t hb_t; clear hg_t; skip))
      go_ret
      exact ⟨_, rfl, Or.inr ⟨_, q, rfl, hx_t, ht.below hb_t⟩, hb_t⟩
    · rw [show t.tput key val = t.put key val by unfold T.tput; rw [hf]; exact if_neg c]
      have c' := key_ne c
      have HF := As.mk hf
      clear hf c
      go_enter Try.func36, Try.ntmps36
      go_wp2_with (first
        | (go_at_call 79; refine (top_calls p t w h).mono ?_; rintro e w2 ⟨q, rfl, ht, rfl⟩)
        | (go_at_call 82; refine (find_calls key t q w ht).mono ?_; rintro e w2 ⟨q2, rfl, ht2, rfl⟩; rw [HF.out] at ht2; obtain ⟨b, lp, rp, rfl, hb, hl, hr⟩ := ht2; obtain ⟨e0, e1, e2, e3, -, -⟩ := cells6 hb)
        | (go_at_call 77; refine (put_calls key val t _ w ht hs).mono ?_; rintro e w3 ⟨q3, rfl, ht3, hB3⟩)
        | ((with_reducible refine gate_dst (N := 34) rfl ?_); refine box_event ?hg (N := 34) ?hd (cs := #[.pointer q3]) (t := 83) ?hr ?_; (case hd => rfl); (case hg => rfl); (case hr => first | (go_simp; done) | (go_simp; rfl)); intro gt hg_t wt hx_t hb_t; clear hg_t; skip))
      go_ret
      exact ⟨_, rfl, Or.inr ⟨_, q3, rfl, hx_t, ht3.below hb_t⟩, bstep hB3 hb_t⟩

end Go.Proofs.Ytehnkoglhbbfjaa

namespace Go.Proofs.Ytehnkoglhbbfjaa
open Go.RowKit Go.Proofs.YtehnkoglhbbfjaaW.PrintWords Go.Proofs.YtehnkoglhbbfjaaW.PrintLast Go.Proofs.YtehnkoglhbbfjaaW.PrintMore

set_option maxHeartbeats 400000 in
set_option maxRecDepth 100000 in
theorem Drop_calls (p : Option Addr) (t : T) (key : ByteArray) (w : World) (h : IsTr w p t) (hs : t.size < 1000000000) :
    Calls Try.prog 37 #[.pointer p, .string key] w fun e w' => ∃ p', e = .returned (.pointer p') ∧ IsTr w' p' (t.tdrop key) ∧ Below w.heap.size w w' := by
  cases hf : t.find key with
  | nil =>
    rw [show t.tdrop key = t by unfold T.tdrop; rw [hf]]
    have HF := As.mk hf
    clear hf
    go_enter Try.func37, Try.ntmps37
    go_wp2_with (first
      | (go_at_call 79; refine (top_calls p t _ h).mono ?_; rintro e w2 ⟨q, rfl, ht, rfl⟩)
      | (go_at_call 82; refine (find_calls key t q w ht).mono ?_; rintro e w2 ⟨q2, rfl, ht2, rfl⟩; rw [HF.out] at ht2; obtain rfl : q2 = none := ht2)
      | ((with_reducible refine gate_dst (N := 13) rfl ?_); refine box_event ?hg (N := 13) ?hd (cs := #[.pointer q]) (t := 83) ?hr ?_; (case hd => rfl); (case hg => rfl); (case hr => first | (go_simp; done) | (go_simp; rfl)); intro gt hg_t wt hx_t hb_t; clear hg_t; skip))
    go_ret
    exact ⟨_, rfl, Or.inr ⟨_, q, rfl, hx_t, ht.below hb_t⟩, hb_t⟩
  | node l k v r =>
    rw [show t.tdrop key = t.drop key by unfold T.tdrop; rw [hf]]
    have HF := As.mk hf
    clear hf
    go_enter Try.func37, Try.ntmps37
    go_wp2_with (first
      | (go_at_call 79; refine (top_calls p t _ h).mono ?_; rintro e w2 ⟨q, rfl, ht, rfl⟩)
      | (go_at_call 82; refine (find_calls key t q w ht).mono ?_; rintro e w2 ⟨q2, rfl, ht2, rfl⟩; rw [HF.out] at ht2; obtain ⟨b, lp, rp, rfl, hb, hl, hr⟩ := ht2; obtain ⟨e0, e1, e2, e3, -, -⟩ := cells6 hb)
      | (go_at_call 83; refine (drop_calls key t q w ht hs).mono ?_; rintro e w3 ⟨q3, rfl, ht3, hB3⟩)
      | ((with_reducible refine gate_dst (N := 19) rfl ?_); refine box_event ?hg (N := 19) ?hd (cs := #[.pointer q3]) (t := 83) ?hr ?_; (case hd => rfl); (case hg => rfl); (case hr => first | (go_simp; done) | (go_simp; rfl)); intro gt hg_t wt hx_t hb_t; clear hg_t; skip))
    go_ret
    exact ⟨_, rfl, Or.inr ⟨_, q3, rfl, hx_t, ht3.below hb_t⟩, bstep hB3 hb_t⟩

set_option maxHeartbeats 400000 in
set_option maxRecDepth 100000 in
theorem Rank_calls (p : Option Addr) (t : T) (key : ByteArray) (w : World) (h : IsTr w p t) (hs : t.size < 1000000000) :
    Calls Try.prog 44 #[.pointer p, .string key] w fun e w' => ∃ n, e = .returned (.int .i64 (t.rank key)) ∧ w' = w.drewN n := by
  go_enter Try.func44, Try.ntmps44
  go_wp2_with (go_at_call 79; refine (top_calls p t _ h).mono ?_; rintro e w2 ⟨q, rfl, ht, rfl⟩)
  go_loopg [5, 6] t.size (fun m v5 v6 wr => ∃ (c : Nat) (q : Option Addr) (s : T) (n : Nat), v5 = .int .i64 c ∧ v6 = .pointer q ∧ As (IsT wr q s ∧ c + s.rank key = t.rank key ∧ s.size ≤ m ∧ c + s.size < 1000000000 ∧ wr = w.drewN n))
  case atStart => exact ⟨0, q, t, 0, rfl, rfl, ⟨ht, by omega, Nat.le_refl _, by omega, rfl⟩⟩
  case round =>
    obtain ⟨c, q, s, n, rfl, rfl, ⟨hq, hf, hm, hc, hw⟩⟩ := hrel
    have HF := As.mk hf
    have HW := As.mk hw
    clear hf hw ht
    cases s with
    | nil =>
      obtain rfl : q = none := hq
      go_wp2
      go_ret
      exact ⟨n, by rw [← HF.out]; rfl, HW.out⟩
    | node l k' v' r =>
      obtain ⟨b, lp, rp, rfl, hb, hl, hr⟩ := hq
      obtain ⟨e0, e1, e2, e3, -, -⟩ := cells6 hb
      simp only [T.size] at hm hc
      by_cases c1 : lt key k' = true ∨ key = k'
      · have c1' : (Op.bytesLess key.toList k'.toList || key.toList == k'.toList) = true := by
          rcases c1 with c1 | rfl
          · rw [show Op.bytesLess key.toList k'.toList = true from c1]; rfl
          · simp
        have HS := As.mk (show (T.node l k' v' r).rank key = l.rank key by rw [T.rank, if_pos c1])
        clear c1
        go_wp2
        go_roundg l.size
        case measure => omega
        case rel => exact ⟨c, lp, l, n, rfl, rfl, ⟨hl, by rw [← HF.out, HS.out], Nat.le_refl _, by omega, HW.out⟩⟩
      · have c1' : (Op.bytesLess key.toList k'.toList || key.toList == k'.toList) = false := by
          rw [show Op.bytesLess key.toList k'.toList = false by simpa [lt] using fun h => c1 (Or.inl h), key_ne (fun h => c1 (Or.inr h))]; rfl
        have HS := As.mk (show (T.node l k' v' r).rank key = l.size + 1 + r.rank key by rw [T.rank, if_neg c1])
        clear c1
        go_wp2_with fail
        go_quiet ((go_at_call 78; exact Calls.quiet_of_same ((hl.drewN _).sizeS)))
        go_wp2
        go_roundg r.size
        case measure => omega
        case rel => exact ⟨c + l.size + 1, rp, r, n + nq, by go_num, rfl, ⟨hr.drewN nq, by rw [← HF.out, HS.out]; omega, Nat.le_refl _, by omega, by rw [HW.out, World.drewN_drewN]⟩⟩

set_option maxHeartbeats 400000 in
set_option maxRecDepth 100000 in
theorem At_calls (p : Option Addr) (t : T) (i : Int) (w : World) (h : IsTr w p t) (hs : t.size < 1000000000) :
    Calls Try.prog 38 #[.pointer p, .int .i64 i] w fun e w' => e = .returned (.tuple #[.agg #[.string (t.tat i).1.1, .string (t.tat i).1.2], .bool (t.tat i).2]) ∧ Below w.heap.size w w' := by
  by_cases c0 : i < 0
  · rw [show t.tat i = ((⟨#[]⟩, ⟨#[]⟩), false) by unfold T.tat; exact if_pos (Or.inl c0)]
    go_enter Try.func38, Try.ntmps38
    go_wp2_with (first
      | ((with_reducible refine gate_dst (N := 4) rfl ?_); refine box_event ?hg (N := 4) ?hd (cs := #[.string (⟨#[]⟩ : ByteArray), .string (⟨#[]⟩ : ByteArray)]) (t := 29) ?hr ?_; (case hd => rfl); (case hg => rfl); (case hr => first | (go_simp; done) | (go_simp; rfl)); intro gr hg_gr w1 hx_gr hb_gr; have hB1 : Below w.heap.size w w1 := hb_gr; have GE := As.mk (Nat.le_of_eq hg_gr.symm); clear hg_gr; obtain ⟨x0, x1⟩ := cells2 hx_gr; have z0 := blk_frozen hx_gr 0; have z1 := blk_frozen hx_gr 1)
      | (go_at_call 79; refine (top_calls p t _ (h.below hB1)).mono ?_; rintro e w2 ⟨q, rfl, ht, rfl⟩))
    refine bodyPost_ret (results_ct rfl _ _ gr 29 #[.string (⟨#[]⟩ : ByteArray), .string (⟨#[]⟩ : ByteArray)] (0, 0) _ rfl (by refine blk_put (cs := #[.string (⟨#[]⟩ : ByteArray), .string (⟨#[]⟩ : ByteArray)]) ?_ 1 _ rfl; refine blk_put (cs := #[.string (⟨#[]⟩ : ByteArray), .string (⟨#[]⟩ : ByteArray)]) ?_ 0 _ rfl; exact hx_gr) Try.underlying29 rfl (by kernel_rfl)) rfl ?_
    exact ⟨rfl, (hB1.setCell (p := ⟨gr, 0, none⟩) GE.out _).setCell (p := ⟨gr, 1, none⟩) GE.out _⟩
  by_cases c1 : (t.size : Int) ≤ i
  · rw [show t.tat i = ((⟨#[]⟩, ⟨#[]⟩), false) by unfold T.tat; exact if_pos (Or.inr c1)]
    go_enter Try.func38, Try.ntmps38
    go_wp2_with (first
      | ((with_reducible refine gate_dst (N := 4) rfl ?_); refine box_event ?hg (N := 4) ?hd (cs := #[.string (⟨#[]⟩ : ByteArray), .string (⟨#[]⟩ : ByteArray)]) (t := 29) ?hr ?_; (case hd => rfl); (case hg => rfl); (case hr => first | (go_simp; done) | (go_simp; rfl)); intro gr hg_gr w1 hx_gr hb_gr; have hB1 : Below w.heap.size w w1 := hb_gr; have GE := As.mk (Nat.le_of_eq hg_gr.symm); clear hg_gr; obtain ⟨x0, x1⟩ := cells2 hx_gr; have z0 := blk_frozen hx_gr 0; have z1 := blk_frozen hx_gr 1)
      | (go_at_call 79; refine (top_calls p t _ (h.below hB1)).mono ?_; rintro e w2 ⟨q, rfl, ht, rfl⟩)
      | (go_at_call 78; refine ht.size.mono ?_; rintro e w2 ⟨rfl, rfl⟩))
    refine bodyPost_ret (results_ct rfl _ _ gr 29 #[.string (⟨#[]⟩ : ByteArray), .string (⟨#[]⟩ : ByteArray)] (0, 0) _ rfl (by refine blk_put (cs := #[.string (⟨#[]⟩ : ByteArray), .string (⟨#[]⟩ : ByteArray)]) ?_ 1 _ rfl; refine blk_put (cs := #[.string (⟨#[]⟩ : ByteArray), .string (⟨#[]⟩ : ByteArray)]) ?_ 0 _ rfl; exact hx_gr) Try.underlying29 rfl (by kernel_rfl)) rfl ?_
    exact ⟨rfl, (hB1.setCell (p := ⟨gr, 0, none⟩) GE.out _).setCell (p := ⟨gr, 1, none⟩) GE.out _⟩
  · rw [show t.tat i = (t.at_ i, true) by unfold T.tat; exact if_neg (by omega)]
    go_enter Try.func38, Try.ntmps38
    go_wp2_with (first
      | ((with_reducible refine gate_dst (N := 4) rfl ?_); refine box_event ?hg (N := 4) ?hd (cs := #[.string (⟨#[]⟩ : ByteArray), .string (⟨#[]⟩ : ByteArray)]) (t := 29) ?hr ?_; (case hd => rfl); (case hg => rfl); (case hr => first | (go_simp; done) | (go_simp; rfl)); intro gr hg_gr w1 hx_gr hb_gr; have hB1 : Below w.heap.size w w1 := hb_gr; have GE := As.mk (Nat.le_of_eq hg_gr.symm); clear hg_gr)
      | (go_at_call 79; refine (top_calls p t _ (h.below hB1)).mono ?_; rintro e w2 ⟨q, rfl, ht, rfl⟩)
      | (go_at_call 78; refine ht.size.mono ?_; rintro e w2 ⟨rfl, rfl⟩))
    have c2 : 0 ≤ i := by omega
    have c3 : i < t.size := by omega
    clear c0 c1
    go_loopg [1, 6] t.size (fun m v1 v6 wr => ∃ (j : Int) (q : Option Addr) (s : T), v1 = .int .i64 j ∧ v6 = .pointer q ∧ As (IsT wr q s ∧ s.at_ j = t.at_ i ∧ s.size ≤ m ∧ s.size < 1000000000 ∧ 0 ≤ j ∧ j < s.size ∧ wr.heap[gr]? = some (.cells #[.string (⟨#[]⟩ : ByteArray), .string (⟨#[]⟩ : ByteArray)] 29 (0, 0)) ∧ Below w.heap.size w wr))
    case atStart => exact ⟨i, q, t, rfl, rfl, ⟨ht, rfl, Nat.le_refl _, hs, c2, c3, hx_gr, hB1⟩⟩
    case round =>
      clear hx_gr hb_gr hB1 ht
      obtain ⟨j, q, s, rfl, rfl, ⟨hq, hf, hm, hss, hj0, hj1, hxr, hBr⟩⟩ := hrel
      have HF := As.mk hf
      clear hf c2 c3
      cases s with
      | nil => simp only [T.size] at hj1; omega
      | node l k' v' r =>
        obtain ⟨b, lp, rp, rfl, hb, hl, hr⟩ := hq
        obtain ⟨e0, e1, e2, e3, -, -⟩ := cells6 hb
        simp only [T.size] at hm hj1 hss
        by_cases d1 : j = l.size
        · have HS := As.mk (show (T.node l k' v' r).at_ j = (k', v') by rw [T.at_, if_pos d1])
          have d1' : (j == (l.size : Int)) = true := beq_iff_eq.2 d1
          have d1'' : (j != (l.size : Int)) = false := by rw [bne, d1']; rfl
          have D := As.mk d1
          clear d1
          obtain ⟨x0, x1⟩ := cells2 hxr
          have z0 := blk_frozen hxr 0
          have z1 := blk_frozen hxr 1
          go_wp2_with (go_at_call 78; refine hl.size.mono ?_; rintro e w2 ⟨rfl, rfl⟩)
          refine bodyPost_ret (results_ct rfl _ _ gr 29 #[.string k', .string v'] (0, 0) _ rfl (by refine blk_put (cs := #[.string k', .string (⟨#[]⟩ : ByteArray)]) ?_ 1 _ rfl; refine blk_put (cs := #[.string (⟨#[]⟩ : ByteArray), .string (⟨#[]⟩ : ByteArray)]) ?_ 0 _ rfl; exact hxr) Try.underlying29 rfl (by kernel_rfl)) rfl ?_
          exact ⟨by rw [← HF.out, HS.out]; rfl, (hBr.setCell (p := ⟨gr, 0, none⟩) GE.out _).setCell (p := ⟨gr, 1, none⟩) GE.out _⟩
        · have d1' : (j == (l.size : Int)) = false := beq_eq_false_iff_ne.2 d1
          have d1'' : (j != (l.size : Int)) = true := by rw [bne, d1']; rfl
          by_cases d2 : j < l.size
          · have HS := As.mk (show (T.node l k' v' r).at_ j = l.at_ j by rw [T.at_, if_neg d1, if_pos d2])
            clear d1
            go_wp2_with (go_at_call 78; refine hl.size.mono ?_; rintro e w2 ⟨rfl, rfl⟩)
            go_roundg l.size
            case measure => omega
            case rel => exact ⟨j, lp, l, rfl, rfl, ⟨hl, by rw [← HF.out, HS.out], Nat.le_refl _, by omega, hj0, d2, hxr, hBr⟩⟩
          · have HS := As.mk (show (T.node l k' v' r).at_ j = r.at_ (j - l.size - 1) by rw [T.at_, if_neg d1, if_neg d2])
            have d3 : (l.size : Int) < j := by omega
            clear d1 d2
            go_wp2_with (go_at_call 78; refine hl.size.mono ?_; rintro e w2 ⟨rfl, rfl⟩)
            go_quiet ((go_at_call 78; exact Calls.quiet_of_same ((hl.drewN _).sizeS)))
            go_wp2
            go_roundg r.size
            case measure => omega
            case rel => exact ⟨j - l.size - 1, rp, r, rfl, rfl, ⟨hr.drewN nq, by rw [← HF.out, HS.out], Nat.le_refl _, by omega, by omega, by omega, hxr, pw_below_drewN hBr nq⟩⟩

end Go.Proofs.Ytehnkoglhbbfjaa
