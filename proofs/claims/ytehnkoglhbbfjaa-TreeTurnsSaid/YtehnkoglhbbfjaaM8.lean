/-
  Places and ranks turn one another around.
-/
import Derived.Test.YtehnkoglhbbfjaaM5
namespace Go.Proofs.Ytehnkoglhbbfjaa
open PAll
namespace T

/-- A key with a zero byte behind it. -/
theorem bl_snoc (a b : List UInt8) : Op.bytesLess b (a ++ [0]) = (Op.bytesLess b a || (b == a)) := by
  induction a generalizing b with
  | nil =>
    cases b with
    | nil => rfl
    | cons x r => simp [Op.bytesLess]
  | cons y s ih =>
    cases b with
    | nil => simp [Op.bytesLess]
    | cons x r =>
      simp only [List.cons_append, Op.bytesLess]
      rw [ih]
      by_cases e : x = y
      · subst e
        have : ¬ x < x := UInt8.lt_irrefl x
        simp [this]
      · have e' : (x == y) = false := beq_eq_false_iff_ne.2 e
        have e2 : (x :: r == y :: s) = false := beq_eq_false_iff_ne.2 (by intro h; injection h with h1; exact e h1)
        rw [e', e2]
        simp
theorem toList_append (a b : ByteArray) : (a ++ b).toList = a.toList ++ b.toList := by
  rw [ByteArray.toList_eq, ByteArray.toList_eq, ByteArray.toList_eq]
  simp
theorem lt_snoc (a b : ByteArray) : lt b (a ++ ⟨#[0]⟩) = (lt b a || decide (b = a)) := by
  unfold lt
  rw [toList_append, show (⟨#[0]⟩ : ByteArray).toList = [0] from by rw [ByteArray.toList_eq], bl_snoc]
  congr 1
  rw [Bool.eq_iff_iff, beq_iff_eq, decide_eq_true_iff]
  exact ⟨fun h => toList_inj h, fun h => by rw [h]⟩

theorem rankL_mid (L R : List Pr) (p : Pr) (h : Srt (L ++ p :: R)) : rankL p.f0 (L ++ p :: R) = L.length ∧ rankL (p.f0 ++ ⟨#[0]⟩) (L ++ p :: R) = L.length + 1 := by
  obtain ⟨-, -, h1, h2⟩ := srt_mid.1 h
  have fnil : ∀ (L : List Pr) (f : Pr → Bool), (∀ x ∈ L, f x = false) → L.filter f = [] := fun L f h => by
    rw [List.filter_eq_nil_iff]; intro x hx; simp [h x hx]
  have fself : ∀ (L : List Pr) (f : Pr → Bool), (∀ x ∈ L, f x = true) → L.filter f = L := fun L f h => by
    rw [List.filter_eq_self]; exact h
  constructor
  · unfold rankL
    rw [List.filter_append, List.filter_cons, lt_irrefl, fself L _ h1, fnil R _ fun x hx => lt_asymm (h2 x hx)]
    simp
  · unfold rankL
    rw [List.filter_append, List.filter_cons, fself L _ fun x hx => by rw [lt_snoc, h1 x hx]; rfl, fnil R _ fun x hx => by rw [lt_snoc, lt_asymm (h2 x hx)]; simp [Ne.symm (lt_ne (h2 x hx))]]
    rw [lt_snoc, lt_irrefl]
    simp

theorem turns (t : T) (h : Srt t.toL) (k : Nat) (hk : k < t.size) :
    (t.tat k).2 = true ∧ t.get (t.tat k).1.1 = ((t.tat k).1.2, true) ∧ t.rank (t.tat k).1.1 = k ∧ t.rank ((t.tat k).1.1 ++ ⟨#[0]⟩) = k + 1 ∧ ∃ x ∈ t.toL, x.f0 = (t.tat k).1.1 := by
  have hl : k < t.toL.length := by rw [toL_length]; exact hk
  have ht := tat_toL t k
  unfold atL at ht
  rw [if_pos ⟨by omega, by omega⟩, Int.toNat_natCast] at ht
  simp only [Prod.mk.injEq] at ht
  obtain ⟨e1, e2, e3⟩ := ht
  have hd : t.toL = t.toL.take k ++ t.toL[k] :: t.toL.drop (k + 1) := by rw [← List.drop_eq_getElem_cons hl, List.take_append_drop]
  have hg : t.toL.getD k z29 = t.toL[k] := by rw [List.getD_eq_getElem?_getD, List.getElem?_eq_getElem hl]; rfl
  rw [hg] at e1 e2
  have hlen : (t.toL.take k).length = k := by rw [List.length_take]; omega
  have hm := rankL_mid (t.toL.take k) (t.toL.drop (k + 1)) t.toL[k] (by rw [← hd]; exact h)
  rw [← hd, hlen] at hm
  refine ⟨e3.symm, ?_, ?_, ?_, t.toL[k], List.getElem_mem hl, e1⟩
  · rw [get_toL _ _ h, ← e1, ← e2]
    exact getL_mem h (List.getElem_mem hl)
  · rw [rank_toL _ _ h, ← e1]; exact hm.1
  · rw [rank_toL _ _ h, ← e1]; exact hm.2
end T
end Go.Proofs.Ytehnkoglhbbfjaa
