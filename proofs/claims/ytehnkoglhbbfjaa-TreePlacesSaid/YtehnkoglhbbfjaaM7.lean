/-
  Sorted lists by what they have at each key: floor, union, minus, both.
-/
import Derived.Test.YtehnkoglhbbfjaaM5
import Derived.Test.YtehnkoglhbbfjaaM2
namespace Go.Proofs.Ytehnkoglhbbfjaa
open PAll
namespace T

/-! ### floor -/
/-- The document's Floor. -/
def floorL (key : ByteArray) : Pr × Bool → List Pr → Pr × Bool
  | acc, [] => acc
  | acc, p :: r => floorL key (if lt key p.f0 then acc else (p, true)) r
theorem floorL_snoc (key : ByteArray) (acc : Pr × Bool) (l : List Pr) (p : Pr) : floorL key acc (l ++ [p]) = if lt key p.f0 then floorL key acc l else (p, true) := by
  induction l generalizing acc with
  | nil => rfl
  | cons q r ih => simp only [List.cons_append, floorL]; exact ih _
theorem floorL_gt (key : ByteArray) (acc : Pr × Bool) (l : List Pr) (h : ∀ x ∈ l, lt key x.f0 = true) : floorL key acc l = acc := by
  induction l generalizing acc with
  | nil => rfl
  | cons q r ih => rw [floorL, if_pos (h q (List.mem_cons_self ..)), ih _ fun x hx => h x (List.mem_cons_of_mem _ hx)]
theorem srt_cons {p : Pr} {r : List Pr} (h : Srt (p :: r)) : (∀ x ∈ r, lt p.f0 x.f0 = true) ∧ Srt r := List.pairwise_cons.1 h
theorem floorL_hit (key v : ByteArray) (l : List Pr) (h : Srt l) (hm : (⟨key, v⟩ : Pr) ∈ l) : ∀ acc, floorL key acc l = (⟨key, v⟩, true) := by
  induction l with
  | nil => cases hm
  | cons q r ih =>
    intro acc
    obtain ⟨h1, h2⟩ := srt_cons h
    rcases List.mem_cons.1 hm with rfl | hm
    · rw [floorL, if_neg (by rw [lt_irrefl]; decide), floorL_gt _ _ _ h1]
    · exact ih h2 hm _
theorem floorL_miss (key : ByteArray) (l : List Pr) (h : Srt l) (hm : ∀ x ∈ l, x.f0 ≠ key) : ∀ acc, floorL key acc l = if rankL key l = 0 then acc else (l.getD (rankL key l - 1) z29, true) := by
  induction l with
  | nil => intro acc; rfl
  | cons q r ih =>
    intro acc
    obtain ⟨h1, h2⟩ := srt_cons h
    by_cases c : lt key q.f0 = true
    · have hg : ∀ x ∈ q :: r, lt key x.f0 = true := fun x hx => by
        rcases List.mem_cons.1 hx with rfl | hx
        · exact c
        · exact lt_trans c (h1 x hx)
      have hr : rankL key (q :: r) = 0 := by
        unfold rankL
        rw [List.length_eq_zero_iff, List.filter_eq_nil_iff]
        intro x hx
        rw [lt_asymm (hg x hx)]
        decide
      rw [floorL_gt _ _ _ hg, if_pos hr]
    · have c' : lt key q.f0 = false := by simpa using c
      have hq : lt q.f0 key = true := lt_tri c' (Ne.symm (hm q (List.mem_cons_self ..)))
      have hr : rankL key (q :: r) = rankL key r + 1 := by
        unfold rankL
        rw [List.filter_cons, hq]
        rfl
      rw [floorL, if_neg c, ih h2 (fun x hx => hm x (List.mem_cons_of_mem _ hx)), hr, if_neg (by omega : ¬ rankL key r + 1 = 0)]
      by_cases hz : rankL key r = 0
      · rw [if_pos hz, hz]; rfl
      · rw [if_neg hz, Nat.add_sub_cancel]
        congr 1
        conv => rhs; rw [show rankL key r = (rankL key r - 1) + 1 by omega]
        rfl
theorem floor_toL (t : T) (key : ByteArray) (h : Srt t.toL) : floorL key (z29, false) t.toL = (⟨(t.floor key).1.1, (t.floor key).1.2⟩, (t.floor key).2) := by
  have hf := find_cases key t h
  unfold floor
  cases hc : find key t with
  | node _ k v _ =>
    rw [hc] at hf
    obtain ⟨rfl, hm⟩ := hf
    exact floorL_hit k v _ h hm _
  | nil =>
    rw [hc] at hf
    rw [floorL_miss key _ h hf]
    have ht := tat_toL t ((rank key t : Nat) - 1)
    rw [rank_toL key t h] at ht ⊢
    dsimp only
    unfold atL at ht
    have hle : rankL key t.toL ≤ t.toL.length := List.length_filter_le _ _
    by_cases hz : rankL key t.toL = 0
    · rw [if_pos hz]
      rw [if_neg (by omega)] at ht
      simp only [Prod.mk.injEq] at ht
      obtain ⟨e1, e2, e3⟩ := ht
      rw [← e1, ← e2, ← e3]
      rfl
    · rw [if_neg hz]
      rw [if_pos (by omega)] at ht
      simp only [Prod.mk.injEq] at ht
      obtain ⟨e1, e2, e3⟩ := ht
      rw [← e1, ← e2, ← e3]
      rw [show (((rankL key t.toL : Nat) : Int) - 1).toNat = rankL key t.toL - 1 by omega]
end T
end Go.Proofs.Ytehnkoglhbbfjaa
