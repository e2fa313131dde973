/-
  What a map's plan makes of a tree: the laws of the document on plain trees.
-/
import Derived.Test.YtehnkoglhbbfjaaK7
set_option linter.unusedVariables false
set_option linter.unusedSimpArgs false
namespace Go.Proofs.Ytehnkoglhbbfjaa
open PAll
open T (doEv doL get getL_withP getL_without none_ none_of)

theorem get_doEv {u : T} (e : S51) (h : Srt u.toL) (k : ByteArray) : get (doEv u e) k = if k = e.f1 then (if e.f4 = true then (e.f5, true) else (⟨#[]⟩, false)) else get u k := by
  obtain ⟨h1, h2⟩ := T.doEv_toL e h
  rw [T.get_toL k _ h2, h1, T.get_toL k u h]
  unfold doL
  by_cases c : e.f4 = true
  · rw [if_pos c, getL_withP, if_pos c]
  · rw [if_neg c, getL_without, if_neg c]
theorem len_without (k : ByteArray) : ∀ l : List S29, Srt l → ((without k l).length : Int) + (if (getL k l).2 = true then 1 else 0) = l.length
  | [], _ => by rfl
  | p :: r, h => by
    obtain ⟨hp, hr⟩ := T.srt_cons h
    have ih := len_without k r hr
    by_cases c : p.f0 = k
    · have hn : ∀ x ∈ r, x.f0 ≠ k := fun x hx => by rw [← c]; exact Ne.symm (lt_ne (hp x hx))
      rw [without_cons_eq c, without_id hn, getL, if_pos c, if_pos rfl, List.length_cons]
      rfl
    · rw [without_cons_ne c, getL, if_neg c, List.length_cons, List.length_cons]
      omega
theorem size_doEv {u : T} (e : S51) (h : Srt u.toL) :
    ((doEv u e).size : Int) = u.size + (if e.f4 = true then (if (get u e.f1).2 = true then 0 else 1) else (if (get u e.f1).2 = true then -1 else 0)) := by
  obtain ⟨h1, h2⟩ := T.doEv_toL e h
  have hl := len_without e.f1 u.toL h
  rw [← T.toL_length, h1, T.get_toL e.f1 u h, ← T.toL_length u]
  unfold doL
  by_cases c : e.f4 = true
  · rw [if_pos c, if_pos c]
    unfold withP
    rw [ins_length]
    by_cases d : (getL e.f1 u.toL).2 = true
    · rw [if_pos d] at hl ⊢; dsimp only; omega
    · rw [if_neg d] at hl ⊢; dsimp only; omega
  · rw [if_neg c, if_neg c]
    by_cases d : (getL e.f1 u.toL).2 = true
    · rw [if_pos d] at hl ⊢; omega
    · rw [if_neg d] at hl ⊢; omega

/-- Each event tells what the key had just ahead of it, and changes it. -/
def Told : T → List S51 → Prop
  | _, [] => True
  | t, e :: r => get t e.f1 = (e.f3, e.f2) ∧ ¬ (e.f2 = e.f4 ∧ e.f3 = e.f5) ∧ Told (doEv t e) r
theorem Told_append (a b : List S51) : ∀ t, Told t (a ++ b) ↔ Told t a ∧ Told (a.foldl doEv t) b := by
  induction a with
  | nil => intro t; exact ⟨fun h => ⟨trivial, h⟩, fun h => h.2⟩
  | cons e r ih =>
    intro t
    show (_ ∧ _ ∧ Told (doEv t e) (r ++ b)) ↔ (_ ∧ _ ∧ Told (doEv t e) r) ∧ Told (r.foldl doEv (doEv t e)) b
    rw [ih]
    exact ⟨fun ⟨h1, h2, h3, h4⟩ => ⟨⟨h1, h2, h3⟩, h4⟩, fun ⟨⟨h1, h2, h3⟩, h4⟩ => ⟨h1, h2, h3, h4⟩⟩
theorem Told_at (es : List S51) : ∀ (t : T), Told t es → ∀ k (hk : k < es.length), get ((es.take k).foldl doEv t) (es[k]).f1 = ((es[k]).f3, (es[k]).f2) ∧ ¬ ((es[k]).f2 = (es[k]).f4 ∧ (es[k]).f3 = (es[k]).f5) := by
  induction es with
  | nil => intro t _ k hk; cases hk
  | cons e r ih =>
    intro t ⟨h1, h2, h3⟩ k hk
    cases k with
    | zero => exact ⟨h1, h2⟩
    | succ k => exact ih (doEv t e) h3 k (by simpa using hk)

/-- One operation done to a tree that has at its key what another one has. -/
theorem op_step (pos : Int) (t u : T) (o : S95) (hu : Srt u.toL) (hg : get u o.f0 = get t o.f0) (hb : badV o = false) :
    Srt ((opEv pos t o).foldl doEv u).toL ∧ Told u (opEv pos t o) ∧ (∀ k, get ((opEv pos t o).foldl doEv u) k = if k = o.f0 then (o.f2, o.f1) else get u k) ∧
      (((opEv pos t o).foldl doEv u).size : Int) = u.size + opN t o := by
  have hv : o.f1 = false → o.f2 = ⟨#[]⟩ := fun h => by
    unfold badV at hb
    rw [h] at hb
    simpa using hb
  by_cases hs : same t o = true
  · have hss : (get t o.f0).2 = o.f1 ∧ (get t o.f0).1 = o.f2 := by
      unfold same at hs
      simpa using hs
    rw [show opEv pos t o = [] from if_pos hs, show opN t o = 0 from if_pos hs]
    refine ⟨hu, trivial, fun k => ?_, by simp⟩
    show get u k = _
    by_cases c : k = o.f0
    · rw [if_pos c, c, hg]; exact Prod.ext hss.2 hss.1
    · rw [if_neg c]
  · have hss : ¬ ((get t o.f0).2 = o.f1 ∧ (get t o.f0).1 = o.f2) := fun h => hs (by unfold same; simpa using h)
    rw [show opEv pos t o = [⟨pos, o.f0, (get t o.f0).2, (get t o.f0).1, o.f1, o.f2⟩] from if_neg hs]
    obtain ⟨e1, e2⟩ := T.doEv_toL (⟨pos, o.f0, (get t o.f0).2, (get t o.f0).1, o.f1, o.f2⟩ : S51) hu
    refine ⟨e2, ⟨hg, hss, trivial⟩, fun k => ?_, ?_⟩
    · show get (doEv u _) k = _
      rw [get_doEv _ hu]
      dsimp only
      by_cases c : k = o.f0
      · rw [if_pos c, if_pos c]
        by_cases d : o.f1 = true
        · rw [if_pos d, d]
        · have d' : o.f1 = false := by simpa using d
          rw [if_neg d, d', hv d']
      · rw [if_neg c, if_neg c]
    · show ((doEv u _).size : Int) = _
      rw [size_doEv _ hu]
      dsimp only
      rw [hg]
      unfold opN
      rw [if_neg hs]
      by_cases d : o.f1 = true
      · rw [if_pos d]
        by_cases c : (get t o.f0).2 = true
        · rw [if_pos c, if_neg (by rw [c]; decide), if_neg (by rw [d]; decide)]
        · rw [if_neg c, if_pos (by simpa using c)]
      · have d' : o.f1 = false := by simpa using d
        rw [if_neg d]
        by_cases c : (get t o.f0).2 = true
        · rw [if_pos c, if_neg (by rw [c]; decide), if_pos d']
        · exfalso
          have c' : (get t o.f0).2 = false := by simpa using c
          have hn : get t o.f0 = none_ := by
            rw [← hg, T.get_toL _ _ hu]
            exact none_of (by rw [← T.get_toL _ _ hu, hg]; exact c)
          exact hss ⟨by rw [c', d'], by rw [hn, hv d']⟩
/-- All operations, of unlike keys. -/
theorem ops_all (pos : Int) (t : T) (os : List S95) : ∀ u : T, Srt u.toL → (∀ o ∈ os, get u o.f0 = get t o.f0) → os.Pairwise (fun a b => a.f0 ≠ b.f0) → (∀ o ∈ os, badV o = false) →
    Srt ((evsF pos t os).foldl doEv u).toL ∧ Told u (evsF pos t os) ∧ (∀ k, (∀ o ∈ os, o.f0 ≠ k) → get ((evsF pos t os).foldl doEv u) k = get u k) ∧
      (∀ o ∈ os, get ((evsF pos t os).foldl doEv u) o.f0 = (o.f2, o.f1)) ∧ (((evsF pos t os).foldl doEv u).size : Int) = os.foldl (fun n o => n + opN t o) (u.size : Int) := by
  induction os with
  | nil => intro u hu _ _ _; exact ⟨hu, trivial, fun _ _ => rfl, fun o ho => by (cases ho), rfl⟩
  | cons o r ih =>
    intro u hu hg hp hb
    obtain ⟨hp1, hp2⟩ := List.pairwise_cons.1 hp
    obtain ⟨s1, s2, s3, s4⟩ := op_step pos t u o hu (hg o (List.mem_cons_self ..)) (hb o (List.mem_cons_self ..))
    have hev : evsF pos t (o :: r) = opEv pos t o ++ evsF pos t r := rfl
    obtain ⟨i1, i2, i3, i4, i5⟩ := ih ((opEv pos t o).foldl doEv u) s1 (fun o' ho' => by
      rw [s3, if_neg (fun e => hp1 o' ho' e.symm)]; exact hg o' (List.mem_cons_of_mem _ ho')) hp2 (fun o' ho' => hb o' (List.mem_cons_of_mem _ ho'))
    rw [hev, List.foldl_append]
    refine ⟨i1, (Told_append _ _ _).2 ⟨s2, i2⟩, fun k hk => ?_, fun o' ho' => ?_, ?_⟩
    · rw [i3 k fun o' ho' => hk o' (List.mem_cons_of_mem _ ho'), s3, if_neg fun e => hk o (List.mem_cons_self ..) e.symm]
    · rcases List.mem_cons.1 ho' with rfl | ho'
      · rw [i3 _ fun o'' ho'' => Ne.symm (hp1 o'' ho''), s3, if_pos rfl]
      · exact i4 o' ho'
    · rw [i5, s4]; rfl

theorem right_spec (os : List S95) : ∀ pre : List S95, rightF pre os = 0 → (∀ o ∈ os, badV o = false) ∧ os.Pairwise (fun a b => a.f0 ≠ b.f0) ∧ ∀ o ∈ os, ∀ p ∈ pre, p.f0 ≠ o.f0 := by
  induction os with
  | nil => intro pre _; exact ⟨fun o ho => by (cases ho), List.Pairwise.nil, fun o ho => by (cases ho)⟩
  | cons o r ih =>
    intro pre h
    rw [rightF] at h
    split at h
    · split at h
      · cases h
      · rename_i hb
        split at h
        · cases h
        · rename_i ha
          obtain ⟨h1, h2, h3⟩ := ih _ h
          refine ⟨fun x hx => ?_, List.pairwise_cons.2 ⟨fun x hx => h3 x hx o (by simp), h2⟩, fun x hx p hp => ?_⟩
          · rcases List.mem_cons.1 hx with rfl | hx
            · simpa using hb
            · exact h1 x hx
          · rcases List.mem_cons.1 hx with rfl | hx
            · intro e
              exact ha (List.any_eq_true.2 ⟨p, hp, decide_eq_true e⟩)
            · exact h3 x hx p (List.mem_append_left _ hp)
    · cases h
theorem check_right {cs os : List S95} (h : checkF cs os = 0) : rightF [] os = 0 ∧ rightF [] cs = 0 ∧ checkF [] os = 0 := by
  unfold checkF at h ⊢
  split at h
  · cases h
  · rename_i h1
    split at h
    · rename_i h2
      refine ⟨h, h2, ?_⟩
      rw [if_neg (by simp only [List.length_nil]; omega), if_pos (show rightF [] [] = 0 by rw [rightF])]
      exact h
    · rename_i h2; exact absurd h h2
theorem doF_eq (pos : Int) (t : T) (cs os : List S95) : doF pos t cs os = (planF pos t cs os).1.foldl doEv t := by
  unfold doF
  split
  · rfl
  · rename_i h
    unfold planF at h ⊢
    split
    · rename_i h1
      rw [if_pos h1] at h
      split
      · rename_i h2
        rw [if_pos h2] at h
        split
        · rfl
        · rename_i h3; rw [if_neg h3] at h; exact absurd rfl h
      · rfl
    · rfl
theorem plan_told (pos : Int) (t : T) (cs os : List S95) (h : Srt t.toL) : Told t (planF pos t cs os).1 ∧ Srt (doF pos t cs os).toL := by
  rw [doF_eq]
  unfold planF
  split
  · rename_i h1
    obtain ⟨r1, -, -⟩ := check_right h1
    obtain ⟨b1, b2, -⟩ := right_spec os [] r1
    obtain ⟨i1, i2, -⟩ := ops_all pos t os t h (fun o _ => rfl) b2 b1
    split
    · split
      · exact ⟨trivial, h⟩
      · exact ⟨i2, i1⟩
    · exact ⟨trivial, h⟩
  · exact ⟨trivial, h⟩
/-- The same operations without conditions, done again, change nothing more. -/
theorem plan_again (pos : Int) (t : T) (cs os : List S95) (h : Srt t.toL) (h0 : (planF pos t cs os).2 = 0) : planF pos (doF pos t cs os) [] os = ([], 0) := by
  rw [doF_eq]
  unfold planF at h0
  by_cases h1 : checkF cs os = 0
  · rw [if_pos h1] at h0
    by_cases h2 : cs.all (same t) = true
    · rw [if_pos h2] at h0
      by_cases h3 : 24 < nF t os
      · rw [if_pos h3] at h0; cases h0
      · obtain ⟨r1, -, r3⟩ := check_right h1
        obtain ⟨b1, b2, -⟩ := right_spec os [] r1
        obtain ⟨i1, i2, i3, i4, i5⟩ := ops_all pos t os t h (fun o _ => rfl) b2 b1
        rw [show (planF pos t cs os).1 = evsF pos t os by unfold planF; rw [if_pos h1, if_pos h2, if_neg h3]]
        generalize (evsF pos t os).foldl doEv t = u at *
        have hsame : ∀ o ∈ os, same u o = true := fun o ho => by
          unfold same
          rw [i4 o ho]
          simp
        have hev : evsF pos u os = [] := by
          unfold evsF
          rw [List.flatMap_eq_nil_iff]
          exact fun o ho => if_pos (hsame o ho)
        have hn : ∀ (l : List S95) (n : Int), (∀ o ∈ l, same u o = true) → l.foldl (fun n o => n + opN u o) n = n := by
          intro l
          induction l with
          | nil => intro n _; rfl
          | cons o r ih =>
            intro n hl
            rw [List.foldl_cons, show opN u o = 0 from if_pos (hl o (List.mem_cons_self ..)), Int.add_zero]
            exact ih n fun o' ho' => hl o' (List.mem_cons_of_mem _ ho')
        have hnn : nF u os = nF t os := by
          unfold nF
          rw [hn os _ hsame, i5]
        unfold planF
        rw [if_pos r3, if_pos (by rfl), hnn, if_neg h3, hev]
    · rw [if_neg h2] at h0; cases h0
  · rw [if_neg h1] at h0; exact absurd h0 h1

theorem stepK_told (s : T × List S51) (k : S98) (h : Srt s.1.toL) (h1 : s.2.foldl doEv .nil = s.1) (h2 : Told .nil s.2) :
    Srt (stepK s k).1.toL ∧ (stepK s k).2.foldl doEv .nil = (stepK s k).1 ∧ Told .nil (stepK s k).2 := by
  unfold stepK
  split
  · obtain ⟨p1, p2⟩ := plan_told k.f1 s.1 k.f2 k.f3 h
    refine ⟨p2, ?_, ?_⟩
    · dsimp only
      rw [List.foldl_append, h1, doF_eq]
    · exact (Told_append _ _ _).2 ⟨h2, by rw [h1]; exact p1⟩
  · exact ⟨h, h1, h2⟩
theorem madeF_told (l : List S98) : Srt (madeF l).1.toL ∧ (madeF l).2.foldl doEv .nil = (madeF l).1 ∧ Told .nil (madeF l).2 := by
  have key : ∀ (l : List S98) (s : T × List S51), Srt s.1.toL → s.2.foldl doEv .nil = s.1 → Told .nil s.2 →
      Srt (l.foldl stepK s).1.toL ∧ (l.foldl stepK s).2.foldl doEv .nil = (l.foldl stepK s).1 ∧ Told .nil (l.foldl stepK s).2 := by
    intro l
    induction l with
    | nil => intro s h1 h2 h3; exact ⟨h1, h2, h3⟩
    | cons k r ih =>
      intro s h1 h2 h3
      obtain ⟨s1, s2, s3⟩ := stepK_told s k h1 h2 h3
      exact ih _ s1 s2 s3
  exact key l (.nil, []) srt_nil rfl trivial
end Go.Proofs.Ytehnkoglhbbfjaa
