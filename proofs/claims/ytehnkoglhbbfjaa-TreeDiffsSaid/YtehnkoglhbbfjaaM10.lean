/-
  The trees are balanced: the two sides of each node differ by one at most in depth; so a tree is never deep.
-/
import Derived.Test.YtehnkoglhbbfjaaM7
import Derived.Test.YtehnkoglhbbfjaaM1
set_option linter.unusedVariables false
set_option linter.unusedSimpArgs false
namespace Go.Proofs.Ytehnkoglhbbfjaa
open PAll
namespace T

def Bal : T → Prop
  | nil => True
  | node l _ _ r => Bal l ∧ Bal r ∧ l.depth ≤ r.depth + 1 ∧ r.depth ≤ l.depth + 1

theorem bal_node {l r : T} {k v : ByteArray} (hl : Bal l) (hr : Bal r) (h1 : l.depth ≤ r.depth + 1) (h2 : r.depth ≤ l.depth + 1) : Bal (node l k v r) := ⟨hl, hr, h1, h2⟩

theorem downLess_bal (k v : ByteArray) (m : T) (hm : Bal m) : ∀ l : T, Bal l → m.depth + 1 < l.depth →
    Bal (downLess l k v m) ∧ ((downLess l k v m).depth = l.depth ∨ ((downLess l k v m).depth = l.depth + 1 ∧ ∃ A k' v' B, downLess l k v m = node A k' v' B ∧ A.depth + 1 = l.depth ∧ B.depth = l.depth)) := by
  intro l
  induction l with
  | nil => intro _ h; simp [depth] at h
  | node ll lk lv lm _ ih =>
    intro hl hd
    obtain ⟨hll, hlm, h1, h2⟩ := hl
    simp only [depth] at hd
    unfold downLess
    by_cases c1 : lm.depth ≤ m.depth + 1
    · rw [if_pos c1]
      have ex : (node lm k v m).depth = lm.depth + 1 := by simp only [depth]; omega
      have bx : Bal (node lm k v m) := bal_node hlm hm (by omega) (by omega)
      by_cases c2 : (node lm k v m).depth ≤ ll.depth + 1
      · rw [if_pos c2]
        refine ⟨bal_node hll bx (by omega) c2, ?_⟩
        rw [ex] at c2
        by_cases c3 : lm.depth + 1 ≤ ll.depth
        · left
          simp only [depth] at ex ⊢
          omega
        · right
          refine ⟨?_, ll, lk, lv, _, rfl, ?_, ?_⟩
          · simp only [depth] at ex ⊢; omega
          · simp only [depth] at ex ⊢; omega
          · simp only [depth] at ex ⊢; omega
      · rw [if_neg c2]
        rw [ex] at c2
        cases lm with
        | nil => simp only [depth] at c2 hd; omega
        | node a ka va b =>
          obtain ⟨ba, bb, g1, g2⟩ := hlm
          simp only [depth] at c1 c2 hd h1 h2 ex
          simp only [right, left]
          refine ⟨bal_node (bal_node hll ba (by omega) (by omega)) (bal_node bb hm (by omega) (by omega)) (by simp only [depth]; omega) (by simp only [depth]; omega), ?_⟩
          left
          simp only [depth]
          omega
    · rw [if_neg c1]
      obtain ⟨bx, hx⟩ := ih hlm (by omega)
      by_cases c2 : (downLess lm k v m).depth ≤ ll.depth + 1
      · rw [if_pos c2]
        refine ⟨bal_node hll bx (by rcases hx with h | ⟨h, -⟩ <;> omega) c2, ?_⟩
        simp only [depth]
        by_cases c3 : 1 + max ll.depth (downLess lm k v m).depth = 1 + max ll.depth lm.depth
        · exact .inl c3
        · right
          refine ⟨?_, ll, lk, lv, _, rfl, ?_, ?_⟩ <;> (rcases hx with h | ⟨h, -⟩ <;> omega)
      · rw [if_neg c2]
        rcases hx with h | ⟨h, A, k', v', B, e, hA, hB⟩
        · omega
        · rw [e] at bx ⊢
          obtain ⟨b1, b2, g1, g2⟩ := bx
          simp only [left]
          rw [e] at h c2
          simp only [depth] at h c2
          refine ⟨bal_node (bal_node hll b1 (by omega) (by omega)) b2 (by simp only [depth]; omega) (by simp only [depth]; omega), ?_⟩
          left
          simp only [depth]
          omega

theorem downMore_bal (k v : ByteArray) (l : T) (hl : Bal l) : ∀ m : T, Bal m → l.depth + 1 < m.depth →
    Bal (downMore l k v m) ∧ ((downMore l k v m).depth = m.depth ∨ ((downMore l k v m).depth = m.depth + 1 ∧ ∃ A k' v' B, downMore l k v m = node A k' v' B ∧ B.depth + 1 = m.depth ∧ A.depth = m.depth)) := by
  intro m
  induction m with
  | nil => intro _ h; simp [depth] at h
  | node ml mk mv mm ih _ =>
    intro hm hd
    obtain ⟨hml, hmm, h1, h2⟩ := hm
    simp only [depth] at hd
    unfold downMore
    by_cases c1 : ml.depth ≤ l.depth + 1
    · rw [if_pos c1]
      have ex : (node l k v ml).depth = ml.depth + 1 := by simp only [depth]; omega
      have bx : Bal (node l k v ml) := bal_node hl hml (by omega) (by omega)
      by_cases c2 : (node l k v ml).depth ≤ mm.depth + 1
      · rw [if_pos c2]
        refine ⟨bal_node bx hmm c2 (by omega), ?_⟩
        rw [ex] at c2
        by_cases c3 : ml.depth + 1 ≤ mm.depth
        · left
          simp only [depth] at ex ⊢
          omega
        · right
          refine ⟨?_, _, mk, mv, mm, rfl, ?_, ?_⟩
          · simp only [depth] at ex ⊢; omega
          · simp only [depth] at ex ⊢; omega
          · simp only [depth] at ex ⊢; omega
      · rw [if_neg c2]
        rw [ex] at c2
        cases ml with
        | nil => simp only [depth] at c2 hd; omega
        | node a ka va b =>
          obtain ⟨ba, bb, g1, g2⟩ := hml
          simp only [depth] at c1 c2 hd h1 h2 ex
          simp only [right, left]
          refine ⟨bal_node (bal_node hl ba (by omega) (by omega)) (bal_node bb hmm (by omega) (by omega)) (by simp only [depth]; omega) (by simp only [depth]; omega), ?_⟩
          left
          simp only [depth]
          omega
    · rw [if_neg c1]
      obtain ⟨bx, hx⟩ := ih hml (by omega)
      by_cases c2 : (downMore l k v ml).depth ≤ mm.depth + 1
      · rw [if_pos c2]
        refine ⟨bal_node bx hmm c2 (by rcases hx with h | ⟨h, -⟩ <;> omega), ?_⟩
        simp only [depth]
        by_cases c3 : 1 + max (downMore l k v ml).depth mm.depth = 1 + max ml.depth mm.depth
        · exact .inl c3
        · right
          refine ⟨?_, _, mk, mv, mm, rfl, ?_, ?_⟩ <;> (rcases hx with h | ⟨h, -⟩ <;> omega)
      · rw [if_neg c2]
        rcases hx with h | ⟨h, A, k', v', B, e, hA, hB⟩
        · omega
        · rw [e] at bx ⊢
          obtain ⟨b1, b2, g1, g2⟩ := bx
          simp only [right]
          rw [e] at h c2
          simp only [depth] at h c2
          refine ⟨bal_node b1 (bal_node b2 hmm (by omega) (by omega)) (by simp only [depth]; omega) (by simp only [depth]; omega), ?_⟩
          left
          simp only [depth]
          omega

theorem join_bal {l m : T} (k v : ByteArray) (hl : Bal l) (hm : Bal m) : Bal (join l k v m) := by
  unfold join
  split
  · rename_i h; exact (downLess_bal k v m hm l hl h).1
  · split
    · rename_i h; exact (downMore_bal k v l hl m hm h).1
    · exact bal_node hl hm (by omega) (by omega)
theorem last_bal (t : T) (h : Bal t) : Bal (last t).1 := by
  induction t with
  | nil => trivial
  | node l k v r _ ih =>
    cases r with
    | nil => exact h.1
    | node a b c d => rw [last]; exact join_bal _ _ h.1 (ih h.2.1); exact fun h => by cases h
theorem glue_bal {l m : T} (hl : Bal l) (hm : Bal m) : Bal (glue l m) := by
  cases l with
  | nil => exact hm
  | node a b c d => rw [glue]; exact join_bal _ _ (last_bal _ hl) hm; exact fun h => by cases h
theorem split_bal (key : ByteArray) (t : T) (h : Bal t) : Bal (split key t).1 ∧ Bal (split key t).2.1 := by
  induction t with
  | nil => exact ⟨trivial, trivial⟩
  | node l k v r ihl ihr =>
    unfold split
    split
    · exact ⟨(ihl h.1).1, join_bal _ _ (ihl h.1).2 h.2.1⟩
    · split
      · exact ⟨h.1, h.2.1⟩
      · exact ⟨join_bal _ _ h.1 (ihr h.2.1).1, (ihr h.2.1).2⟩
theorem put_bal (k v : ByteArray) (t : T) (h : Bal t) : Bal (put k v t) := by
  induction t with
  | nil => exact ⟨trivial, trivial, Nat.zero_le _, Nat.zero_le _⟩
  | node l k' v' r ihl ihr =>
    unfold put
    split
    · exact join_bal _ _ (ihl h.1) h.2.1
    · split
      · exact ⟨h.1, h.2.1, h.2.2.1, h.2.2.2⟩
      · exact join_bal _ _ h.1 (ihr h.2.1)
theorem drop_bal (k : ByteArray) (t : T) (h : Bal t) : Bal (drop k t) := by
  induction t with
  | nil => trivial
  | node l k' v' r ihl ihr =>
    unfold drop
    split
    · exact join_bal _ _ (ihl h.1) h.2.1
    · split
      · exact glue_bal h.1 h.2.1
      · exact join_bal _ _ h.1 (ihr h.2.1)
theorem step_bal (t : T) (k : Do) (h : Bal t) : Bal (step t k) := by
  unfold step
  split
  · unfold tput
    split
    · exact put_bal _ _ _ h
    · split
      · exact h
      · exact put_bal _ _ _ h
  · unfold tdrop
    split
    · exact h
    · exact drop_bal _ _ h
theorem play_bal (l : List Do) : ∀ t : T, Bal t → Bal (play t l) := by
  induction l with
  | nil => intro t h; exact h
  | cons k r ih => intro t h; exact ih _ (step_bal t k h)

/-- The fewest pairs of a balanced tree of a depth. -/
def few : Nat → Nat
  | 0 => 0
  | 1 => 1
  | d + 2 => few (d + 1) + few d + 1
theorem few_le (d : Nat) : few d ≤ few (d + 1) := by
  cases d with
  | zero => decide
  | succ d => show few (d + 1) ≤ few (d + 1) + few d + 1; omega
theorem few_mono {a b : Nat} (h : a ≤ b) : few a ≤ few b := by
  induction b with
  | zero => rw [Nat.le_zero.1 h]; exact Nat.le_refl _
  | succ b ih =>
    rcases Nat.lt_or_ge a (b + 1) with h1 | h1
    · exact Nat.le_trans (ih (by omega)) (few_le b)
    · rw [show a = b + 1 by omega]; exact Nat.le_refl _
theorem few_size (t : T) (h : Bal t) : few t.depth ≤ t.size := by
  induction t with
  | nil => exact Nat.le_refl _
  | node l k v r ihl ihr =>
    obtain ⟨bl, br, h1, h2⟩ := h
    have i1 := ihl bl
    have i2 := ihr br
    simp only [depth, size]
    by_cases c : l.depth ≤ r.depth
    · rw [Nat.max_eq_right c]
      by_cases z : r.depth = 0
      · rw [z]; show 1 ≤ _; omega
      · obtain ⟨d, hd⟩ : ∃ d, r.depth = d + 1 := ⟨r.depth - 1, by omega⟩
        have := few_mono (a := d) (b := l.depth) (by omega)
        rw [hd] at i2 ⊢
        rw [show 1 + (d + 1) = d + 2 by omega]
        show few (d + 1) + few d + 1 ≤ _
        omega
    · rw [Nat.max_eq_left (by omega)]
      obtain ⟨d, hd⟩ : ∃ d, l.depth = d + 1 := ⟨l.depth - 1, by omega⟩
      have := few_mono (a := d) (b := r.depth) (by omega)
      rw [hd] at i1 ⊢
      rw [show 1 + (d + 1) = d + 2 by omega]
      show few (d + 1) + few d + 1 ≤ _
      omega
/-- The sums by two numbers: reckoned fast. -/
def fews : Nat → Nat × Nat
  | 0 => (0, 1)
  | d + 1 => ((fews d).2, (fews d).2 + (fews d).1 + 1)
theorem fews_eq (d : Nat) : fews d = (few d, few (d + 1)) := by
  induction d with
  | zero => rfl
  | succ d ih => rw [fews, ih]; rfl
theorem few_61 : 1000000000 < few 61 := by
  have h := fews_eq 61
  have h2 : (fews 61).1 = 6557470319841 := by decide +kernel
  rw [h] at h2
  have h3 : few 61 = 6557470319841 := h2
  omega
theorem few_62 : few 62 < 4611686018427387904 := by
  have h := fews_eq 62
  have h2 : (fews 62).1 = 10610209857722 := by decide +kernel
  rw [h] at h2
  have h3 : few 62 = 10610209857722 := h2
  omega
theorem depth_60 (t : T) (h : Bal t) (hs : t.size < 1000000000) : t.depth ≤ 60 := by
  rcases Nat.lt_or_ge 60 t.depth with c | c
  · have h1 := few_mono (show 61 ≤ t.depth by omega)
    have h2 := few_size t h
    have h3 := few_61
    omega
  · exact c
end T
end Go.Proofs.Ytehnkoglhbbfjaa
