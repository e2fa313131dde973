/-
  The walks of the tree's methods: New, Of, Len, Depth, Get, Put, Drop, Rank, At, Floor, Ceil.
-/
import Derived.Test.YtehnkoglhbbfjaaT3
import Derived.Deep.LoopGhost
namespace Go.Proofs.Ytehnkoglhbbfjaa
open Go.RowKit Go.Proofs.YtehnkoglhbbfjaaW.PrintWords Go.Proofs.YtehnkoglhbbfjaaW.PrintLast Go.Proofs.YtehnkoglhbbfjaaW.PrintMore

/-- A tree as an object: nil, or a cell that holds the root. -/
def IsTr (w : World) (p : Option Addr) (t : T) : Prop :=
  (p = none ∧ t = .nil) ∨ ∃ b q, p = some ⟨b, 0, none⟩ ∧ w.heap[b]? = some (.cells #[.pointer q] 83 (0, 0)) ∧ IsT w q t

theorem IsTr.below {w w' : World} {p : Option Addr} {t : T} (h : IsTr w p t) (hb : Below w.heap.size w w') : IsTr w' p t := by
  rcases h with h | ⟨b, q, rfl, hc, ht⟩
  · exact Or.inl h
  · exact Or.inr ⟨b, q, rfl, blk_step hc hb, ht.below hb⟩
theorem IsTr.drewN {w : World} {p : Option Addr} {t : T} (n : Nat) (h : IsTr w p t) : IsTr (w.drewN n) p t := by
  rcases h with h | ⟨b, q, rfl, hc, ht⟩
  · exact Or.inl h
  · exact Or.inr ⟨b, q, rfl, hc, ht.drewN n⟩
theorem IsTr.setCell {w : World} {p : Option Addr} {t : T} (h : IsTr w p t) {g : Nat} {cs : Array Value} {ty : TypeId} {m : Nat × Nat} (hg : w.heap[g]? = some (.cells cs ty m)) (hty : ty ≠ 111) (hty' : ty ≠ 83) (i : Nat) (u : Value) : IsTr (w.setCell ⟨g, i, none⟩ u) p t := by
  rcases h with h | ⟨b, q, rfl, hc, ht⟩
  · exact Or.inl h
  · refine Or.inr ⟨b, q, rfl, ?_, ht.setCell hg hty i u⟩
    have hne : b ≠ g := by
      rintro rfl
      rw [hg] at hc
      simp only [Option.some.injEq, Obj.cells.injEq] at hc
      exact hty' hc.2.1
    exact (Below.heap_setCell w ⟨g, i, none⟩ u b hne).trans hc
theorem IsTr.fun {w : World} {p : Option Addr} {t u : T} (h : IsTr w p t) (k : IsTr w p u) : t = u := by
  rcases h with ⟨rfl, rfl⟩ | ⟨b, q, rfl, hc, ht⟩
  · rcases k with ⟨-, rfl⟩ | ⟨b, q, e, -⟩
    · rfl
    · cases e
  · rcases k with ⟨e, -⟩ | ⟨b', q', e, hc', ht'⟩
    · cases e
    · cases e
      rw [hc] at hc'
      simp only [Option.some.injEq, Obj.cells.injEq, Array.mk.injEq, List.cons.injEq, Value.pointer.injEq] at hc'
      obtain ⟨⟨rfl, -⟩, -⟩ := hc'
      exact ht.fun ht'

set_option maxHeartbeats 400000 in
set_option maxRecDepth 100000 in
theorem find_calls (key : ByteArray) (t : T) (p : Option Addr) (w : World) (hp : IsT w p t) :
    Calls Try.prog 82 #[.pointer p, .string key] w fun e w' => ∃ q, e = .returned (.pointer q) ∧ IsT w q (t.find key) ∧ w = w' := by
  go_enter Try.func82, Try.ntmps82
  go_wp2_with fail
  go_loopg [0] t.size (fun k v0 wr => ∃ (q : Option Addr) (s : T), v0 = .pointer q ∧ As (IsT w q s ∧ s.find key = t.find key ∧ s.size ≤ k) ∧ w = wr)
  case atStart => exact ⟨p, t, rfl, ⟨hp, rfl, Nat.le_refl _⟩, rfl⟩
  case round =>
    obtain ⟨q, s, rfl, ⟨hq, hf, hk⟩, rfl⟩ := hrel
    have HF := As.mk hf
    clear hf
    cases s with
    | nil =>
      obtain rfl : q = none := hq
      go_wp2
      go_ret
      exact ⟨none, rfl, (by rw [← HF.out]; rfl), rfl⟩
    | node l k' v' r =>
      have HQ := As.mk hq
      obtain ⟨b, lp, rp, rfl, hb, hl, hr⟩ := hq
      obtain ⟨e0, e1, e2, e3, -, -⟩ := cells6 hb
      simp only [T.size] at hk
      by_cases c2 : k' = key
      · subst c2
        have hsp : (T.node l k' v' r).find k' = T.node l k' v' r := by rw [T.find, if_pos rfl]
        have HS := As.mk hsp
        clear hsp
        go_wp2
        go_ret
        exact ⟨_, rfl, (by rw [← HF.out, HS.out]; exact HQ.out), rfl⟩
      · have c2' := key_ne c2
        by_cases c1 : lt key k' = true
        · have c1' : Op.bytesLess key.toList k'.toList = true := c1
          have HS := As.mk (show (T.node l k' v' r).find key = l.find key by rw [T.find, if_neg c2, if_pos c1])
          clear c1 c2
          go_wp2
          go_roundg l.size
          case measure => omega
          case rel => exact ⟨lp, l, rfl, ⟨hl, HS.out.symm.trans HF.out, Nat.le_refl _⟩, rfl⟩
        · have c1' : Op.bytesLess key.toList k'.toList = false := by simpa [lt] using c1
          have HS := As.mk (show (T.node l k' v' r).find key = r.find key by rw [T.find, if_neg c2, if_neg c1])
          clear c1 c2
          go_wp2
          go_roundg r.size
          case measure => omega
          case rel => exact ⟨rp, r, rfl, ⟨hr, HS.out.symm.trans HF.out, Nat.le_refl _⟩, rfl⟩

set_option maxHeartbeats 400000 in
set_option maxRecDepth 100000 in
theorem top_calls (p : Option Addr) (t : T) (w : World) (h : IsTr w p t) :
    Calls Try.prog 79 #[.pointer p] w fun e w' => ∃ q, e = .returned (.pointer q) ∧ IsT w q t ∧ w = w' := by
  rcases h with ⟨rfl, rfl⟩ | ⟨b, q, rfl, hc, ht⟩
  · go_enter Try.func79, Try.ntmps79
    go_wp2
    go_ret
    exact ⟨none, rfl, rfl, rfl⟩
  · have c0 : w.cell? ⟨b, 0, none⟩ = some (.pointer q) := (heap_cell hc 0).trans rfl
    go_enter Try.func79, Try.ntmps79
    go_wp2
    go_ret
    exact ⟨q, rfl, ht, rfl⟩

set_option maxHeartbeats 400000 in
set_option maxRecDepth 100000 in
theorem New_calls (w : World) : Calls Try.prog 46 #[] w fun e w' => ∃ p, e = .returned (.pointer p) ∧ IsTr w' p .nil ∧ Below w.heap.size w w' := by
  go_enter Try.func46, Try.ntmps46
  go_wp2_with (first | ((with_reducible refine gate_dst (N := 2) rfl ?_); refine box_event ?hg (N := 2) ?hd (cs := #[.pointer none]) (t := 83) ?hr ?_; (case hd => rfl); (case hg => rfl); (case hr => first | (go_simp; done) | (go_simp; rfl)); intro gt hg_t wt hx_t hb_t; clear hg_t; skip))
  go_ret
  exact ⟨_, rfl, Or.inr ⟨_, none, rfl, hx_t, rfl⟩, hb_t⟩

set_option maxHeartbeats 400000 in
set_option maxRecDepth 100000 in
theorem Len_calls (p : Option Addr) (t : T) (w : World) (h : IsTr w p t) : Calls Try.prog 26 #[.pointer p] w fun e w' => e = .returned (.int .i64 t.size) ∧ w = w' := by
  go_enter Try.func26, Try.ntmps26
  go_wp2_with (first
    | (go_at_call 79; refine (top_calls p t w h).mono ?_; rintro e w2 ⟨q, rfl, ht, rfl⟩)
    | (go_at_call 78; refine ht.size.mono ?_; rintro e w2 ⟨rfl, rfl⟩))
  go_ret
  exact ⟨rfl, rfl⟩

set_option maxHeartbeats 400000 in
set_option maxRecDepth 100000 in
theorem Depth_calls (p : Option Addr) (t : T) (w : World) (h : IsTr w p t) : Calls Try.prog 60 #[.pointer p] w fun e w' => e = .returned (.int .i64 t.depth) ∧ w = w' := by
  go_enter Try.func60, Try.ntmps60
  go_wp2_with (first
    | (go_at_call 79; refine (top_calls p t w h).mono ?_; rintro e w2 ⟨q, rfl, ht, rfl⟩)
    | (go_at_call 91; refine ht.depth.mono ?_; rintro e w2 ⟨rfl, rfl⟩))
  go_ret
  exact ⟨rfl, rfl⟩

set_option maxHeartbeats 400000 in
set_option maxRecDepth 100000 in
theorem Get_calls (p : Option Addr) (t : T) (key : ByteArray) (w : World) (h : IsTr w p t) :
    Calls Try.prog 47 #[.pointer p, .string key] w fun e w' => e = .returned (.tuple #[.string (t.get key).1, .bool (t.get key).2]) ∧ w = w' := by
  cases hf : t.find key with
  | nil =>
    rw [show t.get key = (⟨#[]⟩, false) by unfold T.get; rw [hf]]
    have HF := As.mk hf
    clear hf
    go_enter Try.func47, Try.ntmps47
    go_wp2_with (first
      | (go_at_call 79; refine (top_calls p t w h).mono ?_; rintro e w2 ⟨q, rfl, ht, rfl⟩)
      | (go_at_call 82; refine (find_calls key t q w ht).mono ?_; rintro e w2 ⟨q2, rfl, ht2, rfl⟩; rw [HF.out] at ht2; obtain rfl : q2 = none := ht2))
    go_ret2
    exact ⟨rfl, rfl⟩
  | node l k v r =>
    rw [show t.get key = (v, true) by unfold T.get; rw [hf]]
    have HF := As.mk hf
    clear hf
    go_enter Try.func47, Try.ntmps47
    go_wp2_with (first
      | (go_at_call 79; refine (top_calls p t w h).mono ?_; rintro e w2 ⟨q, rfl, ht, rfl⟩)
      | (go_at_call 82; refine (find_calls key t q w ht).mono ?_; rintro e w2 ⟨q2, rfl, ht2, rfl⟩; rw [HF.out] at ht2; obtain ⟨b, lp, rp, rfl, hb, hl, hr⟩ := ht2; obtain ⟨e0, e1, e2, e3, -, -⟩ := cells6 hb))
    go_ret2
    exact ⟨rfl, rfl⟩

set_option maxHeartbeats 400000 in
set_option maxRecDepth 100000 in
theorem Put_calls (p : Option Addr) (t : T) (key val : ByteArray) (w : World) (h : IsTr w p t) (hs : t.size < 900000000) :
    Calls Try.prog 36 #[.pointer p, .string key, .string val] w fun e w' => ∃ p', e = .returned (.pointer p') ∧ IsTr w' p' (t.tput key val) ∧ Below w.heap.size w w' := by
  cases hf : t.find key with
  | nil =>
    rw [show t.tput key val = t.put key val by unfold T.tput; rw [hf]]
    have HF := As.mk hf
    clear hf
    go_enter Try.func36, Try.ntmps36
    go_wp2_with (first
      | (go_at_call 79; refine (top_calls p t w h).mono ?_; rintro e w2 ⟨q, rfl, ht, rfl⟩)
      | (go_at_call 82; refine (find_calls key t q w ht).mono ?_; rintro e w2 ⟨q2, rfl, ht2, rfl⟩; rw [HF.out] at ht2; obtain rfl : q2 = none := ht2)
      | (go_at_call 77; refine (put_calls key val t _ w ht hs).mono ?_; rintro e w3 ⟨q3, rfl, ht3, hB3⟩)
      | ((with_reducible refine gate_dst (N := 34) rfl ?_); refine box_event ?hg (N := 34) ?hd (cs := #[.pointer q3]) (t := 83) ?hr ?_; (case hd => rfl); (case hg => rfl); (case hr => first | (go_simp; done) | (go_simp; rfl)); intro gt hg_t wt hx_t hb_t; clear hg_t; skip))
    go_ret
    exact ⟨_, rfl, Or.inr ⟨_, q3, rfl, hx_t, ht3.below hb_t⟩, bstep hB3 hb_t⟩
  | node l k v r =>
    by_cases c : v = val
    · subst c
      rw [show t.tput key v = t by unfold T.tput; rw [hf]; exact if_pos rfl]
      have HF := As.mk hf
      clear hf
      go_enter Try.func36, Try.ntmps36
      go_wp2_with (first
        | (go_at_call 79; refine (top_calls p t w h).mono ?_; rintro e w2 ⟨q, rfl, ht, rfl⟩)
        | (go_at_call 82; refine (find_calls key t q w ht).mono ?_; rintro e w2 ⟨q2, rfl, ht2, rfl⟩; rw [HF.out] at ht2; obtain ⟨b, lp, rp, rfl, hb, hl, hr⟩ := ht2; obtain ⟨e0, e1, e2, e3, -, -⟩ := cells6 hb)
        | ((with_reducible refine gate_dst (N := 26) rfl ?_); refine box_event ?hg (N := 26) ?hd (cs := #[.pointer q]) (t := 83) ?hr ?_; (case hd => rfl); (case hg => rfl); (case hr => first | (go_simp; done) | (go_simp; rfl)); intro gt hg_t wt hx_t hb_t; clear hg_t; skip))
      go_ret
      exact ⟨_, rfl, Or.inr ⟨_, q, rfl, hx_t, ht.below hb_t⟩, hb_t⟩
    · rw [show t.tput key val = t.put key val by unfold T.tput; rw [hf]; exact if_neg c]
      have c' := key_ne c
      have HF := As.mk hf
      clear hf c
      go_enter Try.func36, Try.ntmps36
      go_wp2_with (first
        | (go_at_call 79; refine (top_calls p t w h).mono ?_; rintro e w2 ⟨q, rfl, ht, rfl⟩)
        | (go_at_call 82; refine (find_calls key t q w ht).mono ?_; rintro e w2 ⟨q2, rfl, ht2, rfl⟩; rw [HF.out] at ht2; obtain ⟨b, lp, rp, rfl, hb, hl, hr⟩ := ht2; obtain ⟨e0, e1, e2, e3, -, -⟩ := cells6 hb)
        | (go_at_call 77; refine (put_calls key val t _ w ht hs).mono ?_; rintro e w3 ⟨q3, rfl, ht3, hB3⟩)
        | ((with_reducible refine gate_dst (N := 34) rfl ?_); refine box_event ?hg (N := 34) ?hd (cs := #[.pointer q3]) (t := 83) ?hr ?_; (case hd => rfl); (case hg => rfl); (case hr => first | (go_simp; done) | (go_simp; rfl)); intro gt hg_t wt hx_t hb_t; clear hg_t; skip))
      go_ret
      exact ⟨_, rfl, Or.inr ⟨_, q3, rfl, hx_t, ht3.below hb_t⟩, bstep hB3 hb_t⟩

end Go.Proofs.Ytehnkoglhbbfjaa
