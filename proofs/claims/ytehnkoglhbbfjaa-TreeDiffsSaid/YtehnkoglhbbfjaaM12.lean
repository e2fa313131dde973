/-
  Sorted lists by what they have at each key: union, minus, both.
-/
import Derived.Test.YtehnkoglhbbfjaaM7
set_option linter.unusedVariables false
set_option linter.unusedSimpArgs false
namespace Go.Proofs.Ytehnkoglhbbfjaa
open PAll
namespace T

abbrev none_ : ByteArray × Bool := (⟨#[]⟩, false)
theorem getL_cases (k : ByteArray) (l : List Pr) : (∃ v, getL k l = (v, true) ∧ (⟨k, v⟩ : Pr) ∈ l) ∨ (getL k l = none_ ∧ ∀ x ∈ l, x.f0 ≠ k) := by
  induction l with
  | nil => exact .inr ⟨rfl, fun x hx => by cases hx⟩
  | cons p r ih =>
    by_cases c : p.f0 = k
    · exact .inl ⟨p.f1, by rw [getL, if_pos c], by rw [← c]; exact List.mem_cons_self ..⟩
    · rcases ih with ⟨v, h1, h2⟩ | ⟨h1, h2⟩
      · exact .inl ⟨v, by rw [getL, if_neg c, h1], List.mem_cons_of_mem _ h2⟩
      · refine .inr ⟨by rw [getL, if_neg c, h1], fun x hx => ?_⟩
        rcases List.mem_cons.1 hx with rfl | hx
        · exact c
        · exact h2 x hx
theorem getL_of_none {k : ByteArray} {l : List Pr} (h : ∀ x ∈ l, x.f0 ≠ k) : getL k l = none_ := getL_none h
theorem getL_mid (k : ByteArray) (L R : List Pr) (p : Pr) (h : Srt (L ++ p :: R)) : getL k (L ++ p :: R) = if k = p.f0 then (p.f1, true) else if lt k p.f0 = true then getL k L else getL k R := by
  obtain ⟨-, -, h1, h2⟩ := srt_mid.1 h
  by_cases c : k = p.f0
  · subst c
    rw [if_pos rfl, getL_append _ _ _ fun x hx => lt_ne (h1 x hx), getL, if_pos rfl]
  · rw [if_neg c]
    by_cases c2 : lt k p.f0 = true
    · rw [if_pos c2, getL_append_left _ _ _ fun x hx => ?_]
      rcases List.mem_cons.1 hx with rfl | hx
      · exact fun e => c e.symm
      · exact Ne.symm (lt_ne (lt_trans c2 (h2 x hx)))
    · rw [if_neg c2, getL_append _ _ _ fun x hx => ?_, getL, if_neg fun e => c e.symm]
      have := lt_tri (by simpa using c2) c
      exact lt_ne (lt_trans (h1 x hx) this)
theorem srt_ext : ∀ {a b : List Pr}, Srt a → Srt b → (∀ k, getL k a = getL k b) → a = b
  | [], [], _, _, _ => rfl
  | [], q :: s, _, _, h => by
    have := h q.f0
    rw [getL, getL, if_pos rfl] at this
    exact absurd (Prod.mk.inj this).2 (by decide)
  | p :: r, [], _, _, h => by
    have := h p.f0
    rw [getL, getL, if_pos rfl] at this
    exact absurd (Prod.mk.inj this).2 (by decide)
  | p :: r, q :: s, ha, hb, h => by
    obtain ⟨hp, hr⟩ := srt_cons ha
    obtain ⟨hq, hs⟩ := srt_cons hb
    have e : p.f0 = q.f0 := by
      by_cases c : p.f0 = q.f0
      · exact c
      · exfalso
        cases c2 : lt p.f0 q.f0 with
        | true =>
          have h1 := h p.f0
          rw [getL, if_pos rfl, getL_of_none (l := q :: s) fun x hx => ?_] at h1
          · exact absurd (Prod.mk.inj h1).2 (by decide)
          · rcases List.mem_cons.1 hx with rfl | hx
            · exact fun e => c e.symm
            · exact Ne.symm (lt_ne (lt_trans c2 (hq x hx)))
        | false =>
          have c3 := lt_tri c2 c
          have h1 := h q.f0
          rw [getL_of_none (l := p :: r) fun x hx => ?_, getL, if_pos rfl] at h1
          · exact absurd (Prod.mk.inj h1).2 (by decide)
          · rcases List.mem_cons.1 hx with rfl | hx
            · exact c
            · exact Ne.symm (lt_ne (lt_trans c3 (hp x hx)))
    have e2 : p.f1 = q.f1 := by
      have h1 := h p.f0
      rw [getL, if_pos rfl, getL, if_pos e.symm] at h1
      exact (Prod.mk.inj h1).1
    have hh : p = q := by cases p; cases q; simp only at e e2; rw [e, e2]
    subst hh
    rw [srt_ext hr hs fun k => ?_]
    by_cases c : p.f0 = k
    · subst c
      rw [getL_of_none fun x hx => Ne.symm (lt_ne (hp x hx)), getL_of_none fun x hx => Ne.symm (lt_ne (hq x hx))]
    · have := h k
      rwa [getL, if_neg c, getL, if_neg c] at this

theorem getL_filter (k : ByteArray) (f : ByteArray → Bool) (l : List Pr) : getL k (l.filter fun p => f p.f0) = if f k = true then getL k l else none_ := by
  induction l with
  | nil => simp [getL]
  | cons p r ih =>
    rw [List.filter_cons]
    by_cases c : p.f0 = k
    · subst c
      by_cases h : f p.f0 = true
      · rw [if_pos h, if_pos h, getL, getL]
        simp
      · rw [if_neg h, if_neg h, ih, if_neg h]
    · by_cases h : f p.f0 = true
      · rw [if_pos h, getL, getL, if_neg c, if_neg c, ih]
      · rw [if_neg h, ih, getL, if_neg c]
theorem getL_less (k key : ByteArray) (l : List Pr) : getL k (lessL key l) = if lt k key = true then getL k l else none_ := getL_filter k (fun x => lt x key) l
theorem getL_more (k key : ByteArray) (l : List Pr) : getL k (moreL key l) = if lt key k = true then getL k l else none_ := getL_filter k (fun x => lt key x) l
theorem getL_without (k q : ByteArray) (l : List Pr) : getL k (without q l) = if k = q then none_ else getL k l := by
  have := getL_filter k (fun x => !decide (x = q)) l
  unfold without
  rw [this]
  by_cases c : k = q <;> simp [c]
theorem getL_ins (k : ByteArray) (p : Pr) (l : List Pr) (h : ∀ x ∈ l, x.f0 ≠ p.f0) : getL k (ins p l) = if k = p.f0 then (p.f1, true) else getL k l := by
  induction l with
  | nil =>
    rw [ins, getL, getL]
    by_cases c : k = p.f0
    · rw [if_pos c.symm, if_pos c]
    · rw [if_neg fun e => c e.symm, if_neg c]
      rfl
  | cons x r ih =>
    rw [ins]
    split
    · rw [getL]
      by_cases c : k = p.f0
      · rw [if_pos c.symm, if_pos c]
      · rw [if_neg fun e => c e.symm, if_neg c]
    · rw [getL, ih fun y hy => h y (List.mem_cons_of_mem _ hy)]
      by_cases c : k = p.f0
      · rw [if_pos c, if_pos c, if_neg (by rw [c]; exact h x (List.mem_cons_self ..))]
      · rw [if_neg c, if_neg c, getL]
theorem getL_withP (k : ByteArray) (p : Pr) (l : List Pr) : getL k (withP p l) = if k = p.f0 then (p.f1, true) else getL k l := by
  unfold withP
  rw [getL_ins k p _ fun x hx => (mem_without.1 hx).2, getL_without]
  by_cases c : k = p.f0 <;> simp [c]

end T
end Go.Proofs.Ytehnkoglhbbfjaa

namespace Go.Proofs.Ytehnkoglhbbfjaa
open PAll
namespace T

/-- A key that is found in a list whose keys are all less. -/
theorem found_lt {k key : ByteArray} {l : List Pr} (h : ∀ x ∈ l, lt x.f0 key = true) (hf : (getL k l).2 = true) : lt k key = true := by
  rcases getL_cases k l with ⟨v, -, hm⟩ | ⟨e, -⟩
  · exact h _ hm
  · rw [e] at hf; cases hf
theorem found_gt {k key : ByteArray} {l : List Pr} (h : ∀ x ∈ l, lt key x.f0 = true) (hf : (getL k l).2 = true) : lt key k = true := by
  rcases getL_cases k l with ⟨v, -, hm⟩ | ⟨e, -⟩
  · exact h _ hm
  · rw [e] at hf; cases hf
theorem none_of {k : ByteArray} {l : List Pr} (h : ¬ (getL k l).2 = true) : getL k l = none_ := by
  rcases getL_cases k l with ⟨v, e, -⟩ | ⟨e, -⟩
  · rw [e] at h; exact absurd rfl h
  · exact e
theorem less_found {k key : ByteArray} {l : List Pr} (h : (getL k (lessL key l)).2 = true) : lt k key = true := by
  rw [getL_less] at h
  by_cases c : lt k key = true
  · exact c
  · rw [if_neg c] at h; cases h
theorem more_found {k key : ByteArray} {l : List Pr} (h : (getL k (moreL key l)).2 = true) : lt key k = true := by
  rw [getL_more] at h
  by_cases c : lt key k = true
  · exact c
  · rw [if_neg c] at h; cases h

theorem UnionR_get (b : T) : ∀ a u, UnionR a b u → Srt a.toL → Srt b.toL → Srt u.toL ∧ ∀ k, getL k u.toL = if (getL k b.toL).2 = true then getL k b.toL else getL k a.toL := by
  induction b with
  | nil => intro a u h ha _; rw [show u = a from h]; exact ⟨ha, fun k => rfl⟩
  | node bl bk bv br ihl ihr =>
    intro a u h ha hb
    obtain ⟨hbl, hbr, hb1, hb2⟩ := srt_node hb
    rcases h with ⟨rfl, rfl⟩ | ⟨rfl, rfl⟩ | ⟨-, u1, u2, h1, h2, rfl⟩
    · refine ⟨hb, fun k => ?_⟩
      by_cases c : (getL k (node bl bk bv br).toL).2 = true
      · rw [if_pos c]
      · rw [if_neg c, none_of c]; rfl
    · refine ⟨hb, fun k => ?_⟩
      split <;> rfl
    · obtain ⟨e1, e2, -, -⟩ := split_toL bk a ha
      have sa1 : Srt (split bk a).1.toL := by rw [e1]; exact srt_filter ha _
      have sa2 : Srt (split bk a).2.1.toL := by rw [e2]; exact srt_filter ha _
      obtain ⟨s1, g1⟩ := ihl _ _ h1 sa1 hbl
      obtain ⟨s2, g2⟩ := ihr _ _ h2 sa2 hbr
      have k1 : ∀ x ∈ u1.toL, lt x.f0 bk = true := fun x hx => by
        have h := g1 x.f0
        rw [getL_mem (v := x.f1) s1 hx] at h
        by_cases c : (getL x.f0 bl.toL).2 = true
        · exact found_lt hb1 c
        · rw [if_neg c, e1] at h
          exact less_found (l := a.toL) (by rw [← h])
      have k2 : ∀ x ∈ u2.toL, lt bk x.f0 = true := fun x hx => by
        have h := g2 x.f0
        rw [getL_mem (v := x.f1) s2 hx] at h
        by_cases c : (getL x.f0 br.toL).2 = true
        · exact found_gt hb2 c
        · rw [if_neg c, e2] at h
          exact more_found (l := a.toL) (by rw [← h])
      rw [join_toL]
      have su : Srt (u1.toL ++ ⟨bk, bv⟩ :: u2.toL) := srt_mid.2 ⟨s1, s2, k1, k2⟩
      refine ⟨su, fun k => ?_⟩
      rw [getL_mid k _ _ _ su]
      have hG : getL k (node bl bk bv br).toL = if k = bk then (bv, true) else if lt k bk = true then getL k bl.toL else getL k br.toL := getL_mid k _ _ _ hb
      generalize getL k (node bl bk bv br).toL = G at hG ⊢
      subst hG
      by_cases c : k = bk
      · rw [if_pos c, if_pos c]; rfl
      · rw [if_neg c, if_neg c]
        by_cases c2 : lt k bk = true
        · rw [if_pos c2, if_pos c2, g1, e1, getL_less, if_pos c2]
        · have c3 := lt_tri (by simpa using c2) c
          rw [if_neg c2, if_neg c2, g2, e2, getL_more, if_pos c3]

theorem MinusR_get (b : T) : ∀ a u, MinusR a b u → Srt a.toL → Srt b.toL → Srt u.toL ∧ ∀ k, getL k u.toL = if (getL k b.toL).2 = true then none_ else getL k a.toL := by
  induction b with
  | nil => intro a u h ha _; rw [show u = a from h]; exact ⟨ha, fun k => rfl⟩
  | node bl bk bv br ihl ihr =>
    intro a u h ha hb
    obtain ⟨hbl, hbr, hb1, hb2⟩ := srt_node hb
    rcases h with ⟨rfl, rfl⟩ | ⟨rfl, rfl⟩ | ⟨-, u1, u2, h1, h2, rfl⟩
    · exact ⟨srt_nil, fun k => by split <;> rfl⟩
    · refine ⟨srt_nil, fun k => ?_⟩
      by_cases c : (getL k (node bl bk bv br).toL).2 = true
      · rw [if_pos c]; rfl
      · rw [if_neg c, none_of c]; rfl
    · obtain ⟨e1, e2, -, -⟩ := split_toL bk a ha
      have sa1 : Srt (split bk a).1.toL := by rw [e1]; exact srt_filter ha _
      have sa2 : Srt (split bk a).2.1.toL := by rw [e2]; exact srt_filter ha _
      obtain ⟨s1, g1⟩ := ihl _ _ h1 sa1 hbl
      obtain ⟨s2, g2⟩ := ihr _ _ h2 sa2 hbr
      have k1 : ∀ x ∈ u1.toL, lt x.f0 bk = true := fun x hx => by
        have h := g1 x.f0
        rw [getL_mem (v := x.f1) s1 hx] at h
        by_cases c : (getL x.f0 bl.toL).2 = true
        · exact found_lt hb1 c
        · rw [if_neg c, e1] at h
          exact less_found (l := a.toL) (by rw [← h])
      have k2 : ∀ x ∈ u2.toL, lt bk x.f0 = true := fun x hx => by
        have h := g2 x.f0
        rw [getL_mem (v := x.f1) s2 hx] at h
        by_cases c : (getL x.f0 br.toL).2 = true
        · exact found_gt hb2 c
        · rw [if_neg c, e2] at h
          exact more_found (l := a.toL) (by rw [← h])
      rw [glue_toL]
      have su : Srt (u1.toL ++ u2.toL) := srt_append s1 s2 fun x hx y hy => lt_trans (k1 x hx) (k2 y hy)
      refine ⟨su, fun k => ?_⟩
      have hG : getL k (node bl bk bv br).toL = if k = bk then (bv, true) else if lt k bk = true then getL k bl.toL else getL k br.toL := getL_mid k _ _ _ hb
      generalize getL k (node bl bk bv br).toL = G at hG ⊢
      subst hG
      by_cases c : k = bk
      · rw [if_pos c, if_pos rfl, c]
        exact getL_of_none fun x hx => by
          rcases List.mem_append.1 hx with hx | hx
          · exact lt_ne (k1 x hx)
          · exact Ne.symm (lt_ne (k2 x hx))
      · rw [if_neg c]
        by_cases c2 : lt k bk = true
        · rw [if_pos c2, getL_append_left _ _ _ fun x hx => Ne.symm (lt_ne (lt_trans c2 (k2 x hx))), g1, e1, getL_less, if_pos c2]
        · have c3 := lt_tri (by simpa using c2) c
          rw [if_neg c2, getL_append _ _ _ fun x hx => lt_ne (lt_trans (k1 x hx) c3), g2, e2, getL_more, if_pos c3]
end T
end Go.Proofs.Ytehnkoglhbbfjaa
