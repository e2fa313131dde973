/-
  Sorted lists by what they have at each key: floor, union, minus, both.
-/
import Derived.Test.YtehnkoglhbbfjaaM4
import Derived.Test.YtehnkoglhbbfjaaM1
set_option linter.unusedVariables false
set_option linter.unusedSimpArgs false
namespace Go.Proofs.Ytehnkoglhbbfjaa
open PAll
namespace T

/-! ### floor -/
/-- The document's Floor. -/
def floorL (key : ByteArray) : Pr × Bool → List Pr → Pr × Bool
  | acc, [] => acc
  | acc, p :: r => floorL key (if lt key p.f0 then acc else (p, true)) r
theorem floorL_snoc (key : ByteArray) (acc : Pr × Bool) (l : List Pr) (p : Pr) : floorL key acc (l ++ [p]) = if lt key p.f0 then floorL key acc l else (p, true) := by
  induction l generalizing acc with
  | nil => rfl
  | cons q r ih => simp only [List.cons_append, floorL]; exact ih _
theorem floorL_gt (key : ByteArray) (acc : Pr × Bool) (l : List Pr) (h : ∀ x ∈ l, lt key x.f0 = true) : floorL key acc l = acc := by
  induction l generalizing acc with
  | nil => rfl
  | cons q r ih => rw [floorL, if_pos (h q (List.mem_cons_self ..)), ih _ fun x hx => h x (List.mem_cons_of_mem _ hx)]
theorem srt_cons {p : Pr} {r : List Pr} (h : Srt (p :: r)) : (∀ x ∈ r, lt p.f0 x.f0 = true) ∧ Srt r := List.pairwise_cons.1 h
theorem floorL_hit (key v : ByteArray) (l : List Pr) (h : Srt l) (hm : (⟨key, v⟩ : Pr) ∈ l) : ∀ acc, floorL key acc l = (⟨key, v⟩, true) := by
  induction l with
  | nil => cases hm
  | cons q r ih =>
    intro acc
    obtain ⟨h1, h2⟩ := srt_cons h
    rcases List.mem_cons.1 hm with rfl | hm
    · rw [floorL, if_neg (by rw [lt_irrefl]; decide), floorL_gt _ _ _ h1]
    · exact ih h2 hm _
theorem floorL_miss (key : ByteArray) (l : List Pr) (h : Srt l) (hm : ∀ x ∈ l, x.f0 ≠ key) : ∀ acc, floorL key acc l = if rankL key l = 0 then acc else (l.getD (rankL key l - 1) z29, true) := by
  induction l with
  | nil => intro acc; rfl
  | cons q r ih =>
    intro acc
    obtain ⟨h1, h2⟩ := srt_cons h
    by_cases c : lt key q.f0 = true
    · have hg : ∀ x ∈ q :: r, lt key x.f0 = true := fun x hx => by
        rcases List.mem_cons.1 hx with rfl | hx
        · exact c
        · exact lt_trans c (h1 x hx)
      have hr : rankL key (q :: r) = 0 := by
        unfold rankL
        rw [List.length_eq_zero_iff, List.filter_eq_nil_iff]
        intro x hx
        rw [lt_asymm (hg x hx)]
        decide
      rw [floorL_gt _ _ _ hg, if_pos hr]
    · have c' : lt key q.f0 = false := by simpa using c
      have hq : lt q.f0 key = true := lt_tri c' (Ne.symm (hm q (List.mem_cons_self ..)))
      have hr : rankL key (q :: r) = rankL key r + 1 := by
        unfold rankL
        rw [List.filter_cons, hq]
        rfl
      rw [floorL, if_neg c, ih h2 (fun x hx => hm x (List.mem_cons_of_mem _ hx)), hr, if_neg (by omega : ¬ rankL key r + 1 = 0)]
      by_cases hz : rankL key r = 0
      · rw [if_pos hz, hz]; rfl
      · rw [if_neg hz, Nat.add_sub_cancel]
        congr 1
        conv => rhs; rw [show rankL key r = (rankL key r - 1) + 1 by omega]
        rfl
theorem floor_toL (t : T) (key : ByteArray) (h : Srt t.toL) : floorL key (z29, false) t.toL = (⟨(t.floor key).1.1, (t.floor key).1.2⟩, (t.floor key).2) := by
  have hf := find_cases key t h
  unfold floor
  cases hc : find key t with
  | node _ k v _ =>
    rw [hc] at hf
    obtain ⟨rfl, hm⟩ := hf
    exact floorL_hit k v _ h hm _
  | nil =>
    rw [hc] at hf
    rw [floorL_miss key _ h hf]
    have ht := tat_toL t ((rank key t : Nat) - 1)
    rw [rank_toL key t h] at ht ⊢
    dsimp only
    unfold atL at ht
    have hle : rankL key t.toL ≤ t.toL.length := List.length_filter_le _ _
    by_cases hz : rankL key t.toL = 0
    · rw [if_pos hz]
      rw [if_neg (by omega)] at ht
      simp only [Prod.mk.injEq] at ht
      obtain ⟨e1, e2, e3⟩ := ht
      rw [← e1, ← e2, ← e3]
      rfl
    · rw [if_neg hz]
      rw [if_pos (by omega)] at ht
      simp only [Prod.mk.injEq] at ht
      obtain ⟨e1, e2, e3⟩ := ht
      rw [← e1, ← e2, ← e3]
      rw [show (((rankL key t.toL : Nat) : Int) - 1).toNat = rankL key t.toL - 1 by omega]
end T
end Go.Proofs.Ytehnkoglhbbfjaa

namespace Go.Proofs.Ytehnkoglhbbfjaa
open PAll
namespace T

theorem tat_get (t : T) (i : Nat) (hi : i < t.toL.length) : (t.tat i).1.1 = (t.toL[i]).f0 := by
  have ht := tat_toL t i
  unfold atL at ht
  rw [if_pos ⟨by omega, by omega⟩, Int.toNat_natCast] at ht
  simp only [Prod.mk.injEq] at ht
  rw [← ht.1, List.getD_eq_getElem?_getD, List.getElem?_eq_getElem hi]
  rfl
theorem srt_get {l : List Pr} (h : Srt l) {i j : Nat} (hij : i < j) (hj : j < l.length) : lt (l[i]).f0 (l[j]).f0 = true := List.pairwise_iff_getElem.1 h i j (by omega) hj hij
theorem srt_last {l : List Pr} (h : Srt l) (hl : 0 < l.length) : ∀ x ∈ l, x = l[l.length - 1] ∨ lt x.f0 (l[l.length - 1]).f0 = true := by
  intro x hx
  obtain ⟨i, hi, rfl⟩ := List.getElem_of_mem hx
  by_cases e : i = l.length - 1
  · subst e; exact .inl rfl
  · exact .inr (srt_get h (by omega) (by omega))
theorem srt_first {l : List Pr} (h : Srt l) (hl : 0 < l.length) : ∀ x ∈ l, x = l[0] ∨ lt (l[0]).f0 x.f0 = true := by
  intro x hx
  obtain ⟨i, hi, rfl⟩ := List.getElem_of_mem hx
  by_cases e : i = 0
  · subst e; exact .inl rfl
  · exact .inr (srt_get h (by omega) hi)

/-- All of one are less than all of the other. -/
def Under (a b : List Pr) : Prop := ∀ x ∈ a, ∀ y ∈ b, lt x.f0 y.f0 = true

theorem tjoin_cases (a b : T) (ha : Srt a.toL) (hb : Srt b.toL) : (Under a.toL b.toL ∧ tjoin a b = some (glue a b)) ∨ (¬ Under a.toL b.toL ∧ tjoin a b = none) := by
  cases a with
  | nil => exact .inl ⟨fun x hx => absurd hx List.not_mem_nil, (show tjoin .nil b = some (glue .nil b) by cases b <;> rfl)⟩
  | node al ak av ar =>
    cases b with
    | nil => exact .inl ⟨fun x _ y hy => absurd hy List.not_mem_nil, rfl⟩
    | node bl bk bv br =>
      have la : 0 < (node al ak av ar).toL.length := by rw [toL_length]; simp only [size]; omega
      have lb : 0 < (node bl bk bv br).toL.length := by rw [toL_length]; simp only [size]; omega
      have e1 := tat_get (node al ak av ar) ((node al ak av ar).toL.length - 1) (by omega)
      have e2 := tat_get (node bl bk bv br) 0 lb
      rw [show (((node al ak av ar).toL.length - 1 : Nat) : Int) = ((node al ak av ar).size : Int) - 1 by rw [toL_length] at *; omega] at e1
      have hl := srt_last ha la
      have hf := srt_first hb lb
      unfold tjoin
      dsimp only
      rw [e1, show (0 : Int) = ((0 : Nat) : Int) from rfl, e2]
      by_cases c : lt ((node al ak av ar).toL[(node al ak av ar).toL.length - 1]).f0 ((node bl bk bv br).toL[0]).f0 = true
      · refine .inl ⟨fun x hx y hy => ?_, if_pos c⟩
        rcases hl x hx with rfl | h1 <;> rcases hf y hy with rfl | h2
        · exact c
        · exact lt_trans c h2
        · exact lt_trans h1 c
        · exact lt_trans (lt_trans h1 c) h2
      · exact .inr ⟨fun h => c (h _ (List.getElem_mem _) _ (List.getElem_mem _)), if_neg c⟩

theorem tjoin_split (t : T) (key : ByteArray) (h : Srt t.toL) : tjoin (split key t).1 (split key t).2.1 = some (glue (split key t).1 (split key t).2.1) ∧
    (glue (split key t).1 (split key t).2.1).toL = without key t.toL := by
  obtain ⟨h1, h2, -, -⟩ := split_toL key t h
  have s1 : Srt (split key t).1.toL := by rw [h1]; exact srt_filter h _
  have s2 : Srt (split key t).2.1.toL := by rw [h2]; exact srt_filter h _
  have hu : Under (split key t).1.toL (split key t).2.1.toL := by
    rw [h1, h2]
    intro x hx y hy
    exact lt_trans (by simpa using (List.mem_filter.1 hx).2) (List.mem_filter.1 hy).2
  constructor
  · rcases tjoin_cases _ _ s1 s2 with ⟨-, h⟩ | ⟨h, -⟩
    · exact h
    · exact absurd hu h
  · rw [glue_toL, h1, h2]
    have gen : ∀ l : List Pr, Srt l → lessL key l ++ moreL key l = without key l := by
      intro l
      induction l with
      | nil => intro _; rfl
      | cons p r ih =>
        intro hs
        obtain ⟨hp, hr⟩ := srt_cons hs
        have ihr := ih hr
        by_cases c : lt p.f0 key = true
        · have e1 : lessL key (p :: r) = p :: lessL key r := by unfold lessL; rw [List.filter_cons, c]; rfl
          have e2 : moreL key (p :: r) = moreL key r := by unfold moreL; rw [List.filter_cons, lt_asymm c]; rfl
          rw [e1, e2, without_cons_ne (lt_ne c), ← ihr]
          rfl
        · have c' : lt p.f0 key = false := by simpa using c
          have nl : lessL key (p :: r) = [] := by
            unfold lessL
            rw [List.filter_eq_nil_iff]
            intro x hx
            rcases List.mem_cons.1 hx with rfl | hx
            · exact c
            · intro hc
              exact c (lt_trans (hp x hx) hc)
          have nl' : lessL key r = [] := by
            unfold lessL
            rw [List.filter_eq_nil_iff]
            intro x hx hc
            exact c (lt_trans (hp x hx) hc)
          rw [nl] 
          rw [nl'] at ihr
          by_cases e : p.f0 = key
          · have e2 : moreL key (p :: r) = moreL key r := by unfold moreL; rw [List.filter_cons, e, lt_irrefl]; rfl
            rw [e2, without_cons_eq e]
            exact ihr
          · have e2 : moreL key (p :: r) = p :: moreL key r := by unfold moreL; rw [List.filter_cons, lt_tri c' e]; rfl
            rw [e2, without_cons_ne e, ← ihr]
            rfl
    exact gen _ h
end T
end Go.Proofs.Ytehnkoglhbbfjaa
