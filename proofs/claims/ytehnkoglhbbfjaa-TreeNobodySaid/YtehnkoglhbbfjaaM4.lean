/-
  What the printed functions over lists of pairs answer, as plain functions on lists.
-/
import Derived.Test.YtehnkoglhbbfjaaPAllx4
import Derived.Test.YtehnkoglhbbfjaaPAllx5
import Derived.Test.YtehnkoglhbbfjaaPAllx6
import Derived.Test.YtehnkoglhbbfjaaM1
set_option linter.unusedVariables false
set_option linter.unusedSimpArgs false
namespace Go.Proofs.Ytehnkoglhbbfjaa
open Go.RowKit Go.Proofs.YtehnkoglhbbfjaaW.PrintWords Go.Proofs.YtehnkoglhbbfjaaW.PrintLast Go.Proofs.YtehnkoglhbbfjaaW.PrintMore PAll

instance : DecidableEq S29 := fun a b => decidable_of_iff (a.f0 = b.f0 ∧ a.f1 = b.f1) (by cases a; cases b; simp)

theorem rdT (l : List S29) (i : Nat) (h : i < l.length) : rd_T29 l (i : Int) = l[i] := by
  simp [rd_T29, List.getD, h]
theorem w64 {i n : Nat} (h : i < n) (hn : n < 4398046511104) : wrap64 ((i : Int) + 1) = ((i + 1 : Nat) : Int) := by
  unfold wrap64; omega
theorem dropc {α : Type} (l : List α) (i : Nat) (h : i < l.length) : l.drop i = l[i] :: l.drop (i + 1) := List.drop_eq_getElem_cons h
theorem key_ne' {a b : ByteArray} (h : ¬ a = b) : (a.toList == b.toList) = false := beq_eq_false_iff_ne.2 fun e => h (toList_inj e)
theorem toList_eq_iff {a b : ByteArray} : a.toList = b.toList ↔ a = b := ⟨toList_inj, fun h => by rw [h]⟩

/-! ### the plain functions -/
def without (key : ByteArray) (l : List Pr) : List Pr := l.filter fun p => !decide (p.f0 = key)
def ins (p : Pr) : List Pr → List Pr
  | [] => [p]
  | x :: l => if lt p.f0 x.f0 then p :: x :: l else x :: ins p l
def withP (p : Pr) (l : List Pr) : List Pr := ins p (without p.f0 l)
def getL (key : ByteArray) : List Pr → ByteArray × Bool
  | [] => (⟨#[]⟩, false)
  | p :: l => if p.f0 = key then (p.f1, true) else getL key l
def rankL (key : ByteArray) (l : List Pr) : Nat := (l.filter fun p => lt p.f0 key).length
def ceilL (key : ByteArray) : List Pr → ByteArray × ByteArray × Bool
  | [] => (⟨#[]⟩, ⟨#[]⟩, false)
  | p :: l => if lt p.f0 key then ceilL key l else (p.f0, p.f1, true)
def atL (i : Int) (l : List Pr) : ByteArray × ByteArray × Bool :=
  if 0 ≤ i ∧ i < l.length then ((l.getD i.toNat z29).f0, (l.getD i.toNat z29).f1, true) else (⟨#[]⟩, ⟨#[]⟩, false)
def scanL (fr tt : ByteArray) (most : Int) : List Pr → List Pr → List Pr
  | out, [] => out
  | out, p :: l => if lt p.f0 fr = false ∧ T.inside tt p.f0 = true ∧ (out.length : Int) < most then scanL fr tt most (out ++ [p]) l else scanL fr tt most out l

theorem without_length (key : ByteArray) (l : List Pr) : (without key l).length ≤ l.length := List.length_filter_le _ _
theorem ins_length (p : Pr) (l : List Pr) : (ins p l).length = l.length + 1 := by
  induction l with
  | nil => rfl
  | cons x l ih => unfold ins; split <;> simp [ih]
theorem withP_length (p : Pr) (l : List Pr) : (withP p l).length ≤ l.length + 1 := by
  unfold withP; rw [ins_length]; have := without_length p.f0 l; omega

/-! ### what is printed answers them -/
theorem Without_l0 (key : ByteArray) (l : List S29) (hl : l.length < 4398046511104) : ∀ (d k i : Nat) (out : List S29), i + d = l.length → d < k → out.length + d < 4398046511104 →
    tidemarkref03_List_Without.l0 k key out l (l.length : Int) (i : Int) = some (out ++ without key (l.drop i)) := by
  intro d
  induction d with
  | zero =>
    intro k i out hi hk ho
    obtain ⟨k, rfl⟩ : ∃ m, k = m + 1 := ⟨k - 1, by omega⟩
    simp only [tidemarkref03_List_Without.l0]
    rw [if_neg (by omega), List.drop_eq_nil_of_le (by omega)]
    simp [without]
  | succ d ih =>
    intro k i out hi hk ho
    obtain ⟨k, rfl⟩ : ∃ m, k = m + 1 := ⟨k - 1, by omega⟩
    have hlt : i < l.length := by omega
    simp only [tidemarkref03_List_Without.l0]
    rw [if_pos (by omega), if_pos (by omega), if_pos (by omega), w64 hlt hl, rdT l i hlt, dropc l i hlt]
    by_cases c : l[i].f0 = key
    · rw [if_pos (by rw [c]), ih k (i + 1) out (by omega) (by omega) (by omega)]
      generalize l[i] = pr at *
      generalize List.drop (i + 1) l = dr
      simp [without, c]
    · rw [if_neg (fun h => c (toList_inj h)), if_pos (by omega), ih k (i + 1) _ (by omega) (by omega) (by simp; omega)]
      generalize l[i] = pr at *
      generalize List.drop (i + 1) l = dr
      simp [without, c]
theorem Without_f (key : ByteArray) (l : List S29) (hl : l.length < 4398046511104) : tidemarkref03_List_Without.f (l.length + 1) l key = some (without key l) := by
  unfold tidemarkref03_List_Without.f
  rw [show (0 : Int) = ((0 : Nat) : Int) from rfl, Without_l0 key l hl l.length (l.length + 1) 0 [] (by omega) (by omega) (by simpa using hl)]
  simp

theorem With_l0_done (a b : ByteArray) (l : List S29) (hl : l.length < 4398046511104) : ∀ (d k i : Nat) (out : List S29), i + d = l.length → d < k → out.length + d < 4398046511104 →
    tidemarkref03_List_With.l0 k out true l (l.length : Int) (i : Int) a b = some (out ++ l.drop i) := by
  intro d
  induction d with
  | zero =>
    intro k i out hi hk ho
    obtain ⟨k, rfl⟩ : ∃ m, k = m + 1 := ⟨k - 1, by omega⟩
    simp only [tidemarkref03_List_With.l0]
    rw [if_neg (by omega), List.drop_eq_nil_of_le (by omega)]
    simp
  | succ d ih =>
    intro k i out hi hk ho
    obtain ⟨k, rfl⟩ : ∃ m, k = m + 1 := ⟨k - 1, by omega⟩
    have hlt : i < l.length := by omega
    simp only [tidemarkref03_List_With.l0]
    rw [if_pos (by omega), if_pos (by omega), if_pos (by omega), w64 hlt hl, rdT l i hlt, dropc l i hlt, if_pos trivial, if_pos (by omega), ih k (i + 1) _ (by omega) (by omega) (by simp; omega)]
    generalize l[i] = pr
    generalize List.drop (i + 1) l = dr
    simp
theorem With_l0 (a b : ByteArray) (l : List S29) (hl : l.length < 4398046511100) : ∀ (d k i : Nat) (out : List S29), i + d = l.length → d < k → out.length + d < 4398046511100 →
    tidemarkref03_List_With.l0 k out false l (l.length : Int) (i : Int) a b = some (out ++ ins ⟨a, b⟩ (l.drop i)) := by
  intro d
  induction d with
  | zero =>
    intro k i out hi hk ho
    obtain ⟨k, rfl⟩ : ∃ m, k = m + 1 := ⟨k - 1, by omega⟩
    simp only [tidemarkref03_List_With.l0]
    rw [if_neg (by omega), List.drop_eq_nil_of_le (by omega), if_neg (by decide), if_pos (by omega)]
    rfl
  | succ d ih =>
    intro k i out hi hk ho
    obtain ⟨k, rfl⟩ : ∃ m, k = m + 1 := ⟨k - 1, by omega⟩
    have hlt : i < l.length := by omega
    simp only [tidemarkref03_List_With.l0]
    rw [if_pos (by omega), if_pos (by omega), if_pos (by omega), w64 hlt (by omega), rdT l i hlt, dropc l i hlt, if_neg (by decide)]
    by_cases c : lt a l[i].f0 = true
    · rw [if_pos (show Op.bytesLess a.toList l[i].f0.toList = true from c), if_pos (by omega)]
      simp only [Option.bind_some]
      rw [if_pos (by simp; omega), With_l0_done a b l (by omega) d k (i + 1) _ (by omega) (by omega) (by simp; omega)]
      generalize l[i] = pr at *
      generalize List.drop (i + 1) l = dr
      simp [ins, c]
    · rw [if_neg (show ¬ Op.bytesLess a.toList l[i].f0.toList = true from c), if_pos (by omega), ih k (i + 1) _ (by omega) (by omega) (by simp; omega)]
      generalize l[i] = pr at *
      generalize List.drop (i + 1) l = dr
      simp [ins, c]
theorem With_f (a b : ByteArray) (l : List S29) (hl : l.length < 4398046511000) : tidemarkref03_List_With.f (l.length + 1) l a b = some (withP ⟨a, b⟩ l) := by
  unfold tidemarkref03_List_With.f
  have hw := without_length a l
  rw [Without_f a l (by omega)]
  simp only [Option.bind_some]
  rw [show (0 : Int) = ((0 : Nat) : Int) from rfl, With_l0 a b (without a l) (by omega) (without a l).length (l.length + 1) 0 [] (by omega) (by omega) (by simp; omega)]
  simp [withP]
theorem With_more (a b : ByteArray) (l : List S29) (hl : l.length < 4398046511000) (k : Nat) (hk : l.length < k) : tidemarkref03_List_With.f k l a b = some (withP ⟨a, b⟩ l) :=
  at_rounds (tidemarkref03_List_With.mono l a b) hk (With_f a b l hl)

def ofP (x : List Pr) : List Pr → List Pr
  | [] => x
  | p :: l => ofP (withP p x) l
theorem ofP_length (x l : List Pr) : (ofP x l).length ≤ x.length + l.length := by
  induction l generalizing x with
  | nil => exact Nat.le_refl _
  | cons p l ih => have := ih (withP p x); have := withP_length p x; simp only [ofP, List.length_cons]; omega
theorem Of_l0 (l : List S29) (hl : l.length < 1000000000) : ∀ (d k i : Nat) (x : List S29), i + d = l.length → d + 1000000000 < k → x.length + d < 1000000000 →
    tidemarkref03_Of.l0 k x l (l.length : Int) (i : Int) = some (ofP x (l.drop i)) := by
  intro d
  induction d with
  | zero =>
    intro k i x hi hk ho
    obtain ⟨k, rfl⟩ : ∃ m, k = m + 1 := ⟨k - 1, by omega⟩
    simp only [tidemarkref03_Of.l0]
    rw [if_neg (by omega), List.drop_eq_nil_of_le (by omega)]
    rfl
  | succ d ih =>
    intro k i x hi hk ho
    obtain ⟨k, rfl⟩ : ∃ m, k = m + 1 := ⟨k - 1, by omega⟩
    have hlt : i < l.length := by omega
    simp only [tidemarkref03_Of.l0]
    have hw := withP_length l[i] x
    rw [if_pos (by omega), if_pos (by omega), if_pos (by omega), w64 hlt (by omega), rdT l i hlt, dropc l i hlt, With_more _ _ x (by omega) k (by omega)]
    simp only [Option.bind_some]
    rw [ih k (i + 1) _ (by omega) (by omega) (by show (withP l[i] x).length + d < _; omega)]
    rfl
theorem Of_f (l : List S29) (hl : l.length < 1000000000) : tidemarkref03_Of.f 3000000000 l = some (ofP [] l) := by
  unfold tidemarkref03_Of.f
  rw [show (0 : Int) = ((0 : Nat) : Int) from rfl, Of_l0 l hl l.length _ 0 [] (by omega) (by omega) (by simpa using hl)]
  simp

theorem Same_l0 (x y : List S29) (hl : x.length = y.length) (hx : x.length < 4398046511104) : ∀ (d k i : Nat), i + d = x.length → d < k →
    tidemarkref03_Same.l0 k x y (x.length : Int) (i : Int) = some (decide (x.drop i = y.drop i)) := by
  intro d
  induction d with
  | zero =>
    intro k i hi hk
    obtain ⟨k, rfl⟩ : ∃ m, k = m + 1 := ⟨k - 1, by omega⟩
    simp only [tidemarkref03_Same.l0]
    rw [if_neg (by omega), List.drop_eq_nil_of_le (by omega), List.drop_eq_nil_of_le (by omega)]
    simp
  | succ d ih =>
    intro k i hi hk
    obtain ⟨k, rfl⟩ : ∃ m, k = m + 1 := ⟨k - 1, by omega⟩
    have hlt : i < x.length := by omega
    have hlt' : i < y.length := by omega
    simp only [tidemarkref03_Same.l0]
    rw [if_pos (by omega), if_pos (by omega), if_pos (by omega), if_pos (by omega), w64 hlt hx, rdT x i hlt, rdT y i hlt', dropc x i hlt, dropc y i hlt', ih k (i + 1) (by omega) (by omega)]
    generalize x[i] = a
    generalize y[i] = b
    generalize List.drop (i + 1) x = dx
    generalize List.drop (i + 1) y = dy
    obtain ⟨a0, a1⟩ := a
    obtain ⟨b0, b1⟩ := b
    by_cases c0 : a0 = b0
    · subst c0
      by_cases c1 : a1 = b1
      · subst c1
        simp
      · rw [if_pos (by rw [key_ne' c1]; simp)]
        simp [c1]
    · rw [if_pos (by rw [key_ne' c0]; simp)]
      simp [c0]
theorem Same_f (x y : List S29) (hx : x.length < 4398046511104) : tidemarkref03_Same.f (x.length + 1) x y = some (decide (x = y)) := by
  unfold tidemarkref03_Same.f
  by_cases c : x.length = y.length
  · rw [if_pos (by omega), show (0 : Int) = ((0 : Nat) : Int) from rfl, Same_l0 x y c hx x.length _ 0 (by omega) (by omega)]
    simp
  · rw [if_neg (by omega)]
    simp [show ¬ x = y from fun h => c (by rw [h])]
theorem Same_self (x : List S29) (hx : x.length < 4398046511104) : tidemarkref03_Same.f (x.length + 1) x x = some true := by
  rw [Same_f x x hx]; simp
theorem Pair_l0 (x y : List S29) (hl : x.length = y.length) (hx : x.length < 4398046511104) : ∀ (d k i : Nat), i + d = x.length → d < k →
    api_Pair.l0 k x y (x.length : Int) (i : Int) = some (decide (x.drop i = y.drop i)) := by
  intro d
  induction d with
  | zero =>
    intro k i hi hk
    obtain ⟨k, rfl⟩ : ∃ m, k = m + 1 := ⟨k - 1, by omega⟩
    simp only [api_Pair.l0]
    rw [if_neg (by omega), List.drop_eq_nil_of_le (by omega), List.drop_eq_nil_of_le (by omega)]
    simp
  | succ d ih =>
    intro k i hi hk
    obtain ⟨k, rfl⟩ : ∃ m, k = m + 1 := ⟨k - 1, by omega⟩
    have hlt : i < x.length := by omega
    have hlt' : i < y.length := by omega
    simp only [api_Pair.l0]
    rw [if_pos (by omega), if_pos (by omega), if_pos (by omega), if_pos (by omega), w64 hlt hx, rdT x i hlt, rdT y i hlt', dropc x i hlt, dropc y i hlt', ih k (i + 1) (by omega) (by omega)]
    generalize x[i] = a
    generalize y[i] = b
    generalize List.drop (i + 1) x = dx
    generalize List.drop (i + 1) y = dy
    obtain ⟨a0, a1⟩ := a
    obtain ⟨b0, b1⟩ := b
    by_cases c0 : a0 = b0
    · subst c0
      by_cases c1 : a1 = b1
      · subst c1
        simp
      · rw [if_pos (by rw [key_ne' c1]; simp)]
        simp [c1]
    · rw [if_pos (by rw [key_ne' c0]; simp)]
      simp [c0]
theorem Pair_f (x y : List S29) (hx : x.length < 4398046511104) : api_Pair.f (x.length + 1) x y = some (decide (x = y)) := by
  unfold api_Pair.f
  by_cases c : x.length = y.length
  · rw [if_pos (by omega), show (0 : Int) = ((0 : Nat) : Int) from rfl, Pair_l0 x y c hx x.length _ 0 (by omega) (by omega)]
    simp
  · rw [if_neg (by omega)]
    simp [show ¬ x = y from fun h => c (by rw [h])]

theorem rdE (l : List S51) (i : Nat) (h : i < l.length) : rd_T51 l (i : Int) = l[i] := by
  simp [rd_T51, List.getD, h]
theorem Event_l0 (x : List S51) (hx : x.length < 4398046511104) : ∀ (d k i : Nat), i + d = x.length → d < k →
    api_Event.l0 k x x (x.length : Int) (i : Int) = some true := by
  intro d
  induction d with
  | zero =>
    intro k i hi hk
    obtain ⟨k, rfl⟩ : ∃ m, k = m + 1 := ⟨k - 1, by omega⟩
    simp only [api_Event.l0]
    rw [if_neg (by omega)]
  | succ d ih =>
    intro k i hi hk
    obtain ⟨k, rfl⟩ : ∃ m, k = m + 1 := ⟨k - 1, by omega⟩
    have hlt : i < x.length := by omega
    simp only [api_Event.l0]
    rw [if_pos (by omega), if_pos (by omega), if_pos (by omega), if_pos (by omega), w64 hlt hx, rdE x i hlt, if_neg (by simp), ih k (i + 1) (by omega) (by omega)]
theorem Event_f (x : List S51) (hx : x.length < 4398046511104) : api_Event.f (x.length + 1) x x = some true := by
  unfold api_Event.f
  rw [if_pos rfl, show (0 : Int) = ((0 : Nat) : Int) from rfl, Event_l0 x hx x.length _ 0 (by omega) (by omega)]

theorem Get_l0 (key : ByteArray) (l : List S29) (hl : l.length < 4398046511104) : ∀ (d k i : Nat), i + d = l.length → d < k →
    tidemarkref03_List_Get.l0 k key l (l.length : Int) (i : Int) = some (getL key (l.drop i)) := by
  intro d
  induction d with
  | zero =>
    intro k i hi hk
    obtain ⟨k, rfl⟩ : ∃ m, k = m + 1 := ⟨k - 1, by omega⟩
    simp only [tidemarkref03_List_Get.l0]
    rw [if_neg (by omega), List.drop_eq_nil_of_le (by omega)]
    rfl
  | succ d ih =>
    intro k i hi hk
    obtain ⟨k, rfl⟩ : ∃ m, k = m + 1 := ⟨k - 1, by omega⟩
    have hlt : i < l.length := by omega
    simp only [tidemarkref03_List_Get.l0]
    rw [if_pos (by omega), if_pos (by omega), if_pos (by omega), w64 hlt hl, rdT l i hlt, dropc l i hlt, ih k (i + 1) (by omega) (by omega)]
    by_cases c : l[i].f0 = key
    · rw [if_pos (by rw [c]), getL, if_pos c]
    · rw [if_neg (fun h => c (toList_inj h)), getL, if_neg c]
theorem Get_f (key : ByteArray) (l : List S29) (hl : l.length < 4398046511104) : tidemarkref03_List_Get.f (l.length + 1) l key = some (getL key l) := by
  unfold tidemarkref03_List_Get.f
  rw [show (0 : Int) = ((0 : Nat) : Int) from rfl, Get_l0 key l hl l.length _ 0 (by omega) (by omega)]
  simp

theorem Ceil_l0 (key : ByteArray) (l : List S29) (hl : l.length < 4398046511104) : ∀ (d k i : Nat), i + d = l.length → d < k →
    tidemarkref03_List_Ceil.l0 k key l (l.length : Int) (i : Int) = some (ceilL key (l.drop i)) := by
  intro d
  induction d with
  | zero =>
    intro k i hi hk
    obtain ⟨k, rfl⟩ : ∃ m, k = m + 1 := ⟨k - 1, by omega⟩
    simp only [tidemarkref03_List_Ceil.l0]
    rw [if_neg (by omega), List.drop_eq_nil_of_le (by omega)]
    rfl
  | succ d ih =>
    intro k i hi hk
    obtain ⟨k, rfl⟩ : ∃ m, k = m + 1 := ⟨k - 1, by omega⟩
    have hlt : i < l.length := by omega
    simp only [tidemarkref03_List_Ceil.l0]
    rw [if_pos (by omega), if_pos (by omega), if_pos (by omega), w64 hlt hl, rdT l i hlt, dropc l i hlt, ih k (i + 1) (by omega) (by omega)]
    by_cases c : lt l[i].f0 key = true
    · rw [if_pos (show Op.bytesLess l[i].f0.toList key.toList = true from c), ceilL, if_pos c]
    · rw [if_neg (show ¬ Op.bytesLess l[i].f0.toList key.toList = true from c), ceilL, if_neg c]
theorem Ceil_f (key : ByteArray) (l : List S29) (hl : l.length < 4398046511104) : tidemarkref03_List_Ceil.f (l.length + 1) l key = some (ceilL key l) := by
  unfold tidemarkref03_List_Ceil.f
  rw [show (0 : Int) = ((0 : Nat) : Int) from rfl, Ceil_l0 key l hl l.length _ 0 (by omega) (by omega)]
  simp

theorem At_l0 (j : Int) (l : List S29) (hl : l.length < 4398046511104) : ∀ (d k i : Nat), i + d = l.length → d < k →
    tidemarkref03_List_At.l0 k j l (l.length : Int) (i : Int) = some (if (i : Int) ≤ j then atL j l else (⟨#[]⟩, ⟨#[]⟩, false)) := by
  intro d
  induction d with
  | zero =>
    intro k i hi hk
    obtain ⟨k, rfl⟩ : ∃ m, k = m + 1 := ⟨k - 1, by omega⟩
    simp only [tidemarkref03_List_At.l0]
    rw [if_neg (by omega)]
    split
    · rw [atL, if_neg (by omega)]
    · rfl
  | succ d ih =>
    intro k i hi hk
    obtain ⟨k, rfl⟩ : ∃ m, k = m + 1 := ⟨k - 1, by omega⟩
    have hlt : i < l.length := by omega
    simp only [tidemarkref03_List_At.l0]
    rw [if_pos (by omega), if_pos (by omega), if_pos (by omega), w64 hlt hl, rdT l i hlt, ih k (i + 1) (by omega) (by omega)]
    by_cases c : (i : Int) = j
    · subst c
      rw [if_pos rfl, if_pos (Int.le_refl _), atL, if_pos ⟨by omega, by omega⟩, Int.toNat_natCast]
      simp [List.getD, hlt]
    · rw [if_neg c]
      by_cases c2 : (i : Int) ≤ j
      · rw [if_pos c2, if_pos (by omega)]
      · rw [if_neg c2, if_neg (by omega)]
theorem At_f (j : Int) (l : List S29) (hl : l.length < 4398046511104) : tidemarkref03_List_At.f (l.length + 1) l j = some (atL j l) := by
  unfold tidemarkref03_List_At.f
  have h := At_l0 j l hl l.length (l.length + 1) 0 (by omega) (by omega)
  rw [show (0 : Int) = ((0 : Nat) : Int) from rfl, h]
  split
  · rfl
  · rw [atL, if_neg (by omega)]

theorem Rank_l0 (key : ByteArray) (l : List S29) (hl : l.length < 4398046511104) : ∀ (d k i c : Nat), i + d = l.length → d < k → c ≤ i →
    tidemarkref03_List_Rank.l0 k key (c : Int) l (l.length : Int) (i : Int) = some ((c + rankL key (l.drop i) : Nat) : Int) := by
  intro d
  induction d with
  | zero =>
    intro k i c hi hk hc
    obtain ⟨k, rfl⟩ : ∃ m, k = m + 1 := ⟨k - 1, by omega⟩
    simp only [tidemarkref03_List_Rank.l0]
    rw [if_neg (by omega), List.drop_eq_nil_of_le (by omega)]
    simp [rankL]
  | succ d ih =>
    intro k i c hi hk hc
    obtain ⟨k, rfl⟩ : ∃ m, k = m + 1 := ⟨k - 1, by omega⟩
    have hlt : i < l.length := by omega
    simp only [tidemarkref03_List_Rank.l0]
    rw [if_pos (by omega), if_pos (by omega), if_pos (by omega), w64 hlt hl, rdT l i hlt, dropc l i hlt]
    by_cases h : lt l[i].f0 key = true
    · rw [if_pos (show Op.bytesLess l[i].f0.toList key.toList = true from h), w64 (show c < l.length by omega) hl, ih k (i + 1) (c + 1) (by omega) (by omega) (by omega)]
      simp only [rankL, List.filter_cons, h, if_true, List.length_cons]
      congr 2; omega
    · rw [if_neg (show ¬ Op.bytesLess l[i].f0.toList key.toList = true from h), ih k (i + 1) c (by omega) (by omega) (by omega)]
      simp only [rankL, List.filter_cons, h]
      simp
theorem Rank_f (key : ByteArray) (l : List S29) (hl : l.length < 4398046511104) : tidemarkref03_List_Rank.f (l.length + 1) l key = some ((rankL key l : Nat) : Int) := by
  unfold tidemarkref03_List_Rank.f
  have h := Rank_l0 key l hl l.length (l.length + 1) 0 0 (by omega) (by omega) (by omega)
  simpa using h

theorem Scan_l0 (fr tt : ByteArray) (most : Int) (l : List S29) (hl : l.length < 4398046511104) : ∀ (d k i : Nat) (out : List S29), i + d = l.length → d < k → out.length ≤ i →
    tidemarkref03_List_Scan.l0 k fr tt most out l (l.length : Int) (i : Int) = some (scanL fr tt most out (l.drop i)) := by
  intro d
  induction d with
  | zero =>
    intro k i out hi hk ho
    obtain ⟨k, rfl⟩ : ∃ m, k = m + 1 := ⟨k - 1, by omega⟩
    simp only [tidemarkref03_List_Scan.l0]
    rw [if_neg (by omega), List.drop_eq_nil_of_le (by omega)]
    rfl
  | succ d ih =>
    intro k i out hi hk ho
    obtain ⟨k, rfl⟩ : ∃ m, k = m + 1 := ⟨k - 1, by omega⟩
    have hlt : i < l.length := by omega
    simp only [tidemarkref03_List_Scan.l0]
    rw [if_pos (by omega), if_pos (by omega), if_pos (by omega), w64 hlt hl, rdT l i hlt, dropc l i hlt, ih k (i + 1) out (by omega) (by omega) (by omega), ih k (i + 1) (out ++ [(⟨l[i].f0, l[i].f1⟩ : S29)]) (by omega) (by omega) (by simp; omega), scanL]
    by_cases c1 : lt l[i].f0 fr = true
    · rw [if_pos (show Op.bytesLess l[i].f0.toList fr.toList = true from c1), if_neg (by rw [c1]; simp)]
    · have c1' : lt l[i].f0 fr = false := by simpa using c1
      rw [if_neg (show ¬ Op.bytesLess l[i].f0.toList fr.toList = true from c1)]
      by_cases c2 : tt.toList = []
      · have hin : T.inside tt l[i].f0 = true := by unfold T.inside; rw [c2]; rfl
        rw [if_pos c2]
        by_cases c3 : (out.length : Int) < most
        · rw [if_pos c3, if_pos (by omega), if_pos ⟨c1', hin, c3⟩]
        · rw [if_neg c3, if_neg (fun h => c3 h.2.2)]
      · rw [if_neg c2]
        have he : tt.toList.isEmpty = false := by cases h : tt.toList with
          | nil => exact absurd h c2
          | cons a b => rfl
        by_cases c4 : Op.bytesLess l[i].f0.toList tt.toList = true
        · have hin : T.inside tt l[i].f0 = true := by unfold T.inside; rw [c4]; simp
          rw [if_pos c4]
          by_cases c3 : (out.length : Int) < most
          · rw [if_pos c3, if_pos (by omega), if_pos ⟨c1', hin, c3⟩]
          · rw [if_neg c3, if_neg (fun h => c3 h.2.2)]
        · have hin : T.inside tt l[i].f0 = false := by unfold T.inside; rw [he]; simpa using c4
          rw [if_neg c4, if_neg (by rw [hin]; simp)]
theorem Scan_f (fr tt : ByteArray) (most : Int) (l : List S29) (hl : l.length < 4398046511104) : tidemarkref03_List_Scan.f (l.length + 1) l fr tt most = some (scanL fr tt most [] l) := by
  unfold tidemarkref03_List_Scan.f
  rw [show (0 : Int) = ((0 : Nat) : Int) from rfl, Scan_l0 fr tt most l hl l.length _ 0 [] (by omega) (by omega) (by simp)]
  simp
end Go.Proofs.Ytehnkoglhbbfjaa

namespace Go.Proofs.Ytehnkoglhbbfjaa
open PAll

def Srt (l : List Pr) : Prop := l.Pairwise fun a b => lt a.f0 b.f0 = true

theorem srt_nil : Srt [] := List.Pairwise.nil
theorem srt_mid {L R : List Pr} {p : Pr} : Srt (L ++ p :: R) ↔ Srt L ∧ Srt R ∧ (∀ x ∈ L, lt x.f0 p.f0 = true) ∧ (∀ x ∈ R, lt p.f0 x.f0 = true) := by
  unfold Srt
  rw [List.pairwise_append, List.pairwise_cons]
  constructor
  · rintro ⟨h1, ⟨h2, h3⟩, h4⟩
    exact ⟨h1, h3, fun x hx => h4 x hx p List.mem_cons_self, h2⟩
  · rintro ⟨h1, h3, h5, h2⟩
    refine ⟨h1, ⟨h2, h3⟩, fun x hx y hy => ?_⟩
    rcases List.mem_cons.1 hy with rfl | hy
    · exact h5 x hx
    · exact lt_trans (h5 x hx) (h2 y hy)
theorem srt_filter {l : List Pr} (h : Srt l) (f : Pr → Bool) : Srt (l.filter f) := List.Pairwise.filter f h
theorem srt_without {l : List Pr} (h : Srt l) (k : ByteArray) : Srt (without k l) := srt_filter h _
theorem srt_append {L R : List Pr} (hL : Srt L) (hR : Srt R) (h : ∀ x ∈ L, ∀ y ∈ R, lt x.f0 y.f0 = true) : Srt (L ++ R) := List.pairwise_append.2 ⟨hL, hR, h⟩

theorem without_append (k : ByteArray) (L R : List Pr) : without k (L ++ R) = without k L ++ without k R := List.filter_append ..
theorem without_cons_ne {k : ByteArray} {p : Pr} (h : p.f0 ≠ k) (R : List Pr) : without k (p :: R) = p :: without k R := by simp [without, h]
theorem without_cons_eq {k : ByteArray} {p : Pr} (h : p.f0 = k) (R : List Pr) : without k (p :: R) = without k R := by simp [without, h]
theorem without_id {k : ByteArray} {l : List Pr} (h : ∀ x ∈ l, x.f0 ≠ k) : without k l = l := by
  unfold without
  rw [List.filter_eq_self]
  intro x hx
  simp [h x hx]
theorem mem_without {k : ByteArray} {l : List Pr} {x : Pr} : x ∈ without k l ↔ x ∈ l ∧ x.f0 ≠ k := by simp [without]

theorem ins_skip {p : Pr} {A B : List Pr} (h : ∀ x ∈ A, lt p.f0 x.f0 = false) : ins p (A ++ B) = A ++ ins p B := by
  induction A with
  | nil => rfl
  | cons a A ih =>
    simp only [List.cons_append, ins]
    rw [if_neg (by rw [h a List.mem_cons_self]; decide), ih fun x hx => h x (List.mem_cons_of_mem _ hx)]
theorem ins_before {p : Pr} {l : List Pr} (h : ∀ x ∈ l, lt p.f0 x.f0 = true) : ins p l = p :: l := by
  cases l with
  | nil => rfl
  | cons a l => rw [ins, if_pos (h a List.mem_cons_self)]
theorem ins_left {p x : Pr} {A B : List Pr} (h : lt p.f0 x.f0 = true) : ins p (A ++ x :: B) = ins p A ++ x :: B := by
  induction A with
  | nil => simp only [List.nil_append, ins]; rw [if_pos h]; rfl
  | cons a A ih =>
    simp only [List.cons_append, ins]
    split
    · rfl
    · rw [ih]; rfl
theorem mem_ins {p x : Pr} {l : List Pr} : x ∈ ins p l ↔ x = p ∨ x ∈ l := by
  induction l with
  | nil => simp [ins]
  | cons a l ih =>
    simp only [ins]
    split
    · simp
    · simp only [List.mem_cons, ih]
      constructor
      · rintro (h | h | h) <;> simp [h]
      · rintro (h | h | h) <;> simp [h]
theorem srt_ins {p : Pr} {l : List Pr} (h : Srt l) (hp : ∀ x ∈ l, x.f0 ≠ p.f0) : Srt (ins p l) := by
  induction l with
  | nil => exact List.pairwise_singleton _ _
  | cons a l ih =>
    obtain ⟨h1, h2⟩ := List.pairwise_cons.1 h
    simp only [ins]
    split
    · rename_i c
      refine List.pairwise_cons.2 ⟨fun x hx => ?_, h⟩
      rcases List.mem_cons.1 hx with rfl | hx
      · exact c
      · exact lt_trans c (h1 x hx)
    · rename_i c
      have hap : lt a.f0 p.f0 = true := lt_tri (by simpa using c) (Ne.symm (hp a List.mem_cons_self))
      refine List.pairwise_cons.2 ⟨fun x hx => ?_, ih h2 fun x hx => hp x (List.mem_cons_of_mem _ hx)⟩
      rcases mem_ins.1 hx with rfl | hx
      · exact hap
      · exact h1 x hx
theorem srt_withP {p : Pr} {l : List Pr} (h : Srt l) : Srt (withP p l) := srt_ins (srt_without h _) fun x hx => (mem_without.1 hx).2
theorem mem_withP {p x : Pr} {l : List Pr} : x ∈ withP p l ↔ x = p ∨ (x ∈ l ∧ x.f0 ≠ p.f0) := by
  unfold withP; rw [mem_ins, mem_without]

theorem getL_append (k : ByteArray) (A B : List Pr) (h : ∀ x ∈ A, x.f0 ≠ k) : getL k (A ++ B) = getL k B := by
  induction A with
  | nil => rfl
  | cons a A ih => simp only [List.cons_append, getL]; rw [if_neg (h a List.mem_cons_self), ih fun x hx => h x (List.mem_cons_of_mem _ hx)]
theorem getL_append_left (k : ByteArray) (A B : List Pr) (h : ∀ x ∈ B, x.f0 ≠ k) : getL k (A ++ B) = getL k A := by
  induction A with
  | nil =>
    have : ∀ B : List Pr, (∀ x ∈ B, x.f0 ≠ k) → getL k B = (⟨#[]⟩, false) := by
      intro B
      induction B with
      | nil => intro _; rfl
      | cons b B ih => intro h; rw [getL, if_neg (h b List.mem_cons_self), ih fun x hx => h x (List.mem_cons_of_mem _ hx)]
    exact this B h
  | cons a A ih => simp only [List.cons_append, getL]; rw [ih]

namespace T
theorem srt_node {l r : T} {k v : ByteArray} (h : Srt (node l k v r).toL) : Srt l.toL ∧ Srt r.toL ∧ (∀ x ∈ l.toL, lt x.f0 k = true) ∧ (∀ x ∈ r.toL, lt k x.f0 = true) := srt_mid.1 h

theorem put_toL (k v : ByteArray) (t : T) (h : Srt t.toL) : (put k v t).toL = withP ⟨k, v⟩ t.toL := by
  induction t with
  | nil => rfl
  | node l k' v' r ihl ihr =>
    obtain ⟨hl, hr, h1, h2⟩ := srt_node h
    simp only [put]
    split
    · rename_i c
      have hR : ∀ x ∈ r.toL, x.f0 ≠ k := fun x hx => Ne.symm (lt_ne (lt_trans c (h2 x hx)))
      rw [join_toL, ihl hl]
      simp only [toL, withP]
      rw [without_append, without_cons_ne (Ne.symm (lt_ne c)), without_id hR, ins_left (show lt k k' = true from c)]
    · rename_i c
      have c' : lt k k' = false := by simpa using c
      split
      · rename_i e
        subst e
        simp only [toL, withP]
        rw [without_append, without_cons_eq (show (⟨k, v'⟩ : Pr).f0 = k from rfl), without_id fun x hx => lt_ne (h1 x hx), without_id fun x hx => Ne.symm (lt_ne (h2 x hx)), ins_skip fun x hx => lt_asymm (h1 x hx), ins_before h2]
      · rename_i e
        have hg : lt k' k = true := lt_tri c' e
        rw [join_toL, ihr hr]
        simp only [toL, withP]
        rw [without_append, without_cons_ne (Ne.symm e), without_id fun x hx => lt_ne (lt_trans (h1 x hx) hg)]
        rw [ins_skip fun x hx => lt_asymm (lt_trans (h1 x hx) hg)]
        rw [ins, if_neg (by rw [show lt (⟨k, v⟩ : Pr).f0 (⟨k', v'⟩ : Pr).f0 = lt k k' from rfl, c']; decide)]
theorem drop_toL (k : ByteArray) (t : T) (h : Srt t.toL) : (drop k t).toL = without k t.toL := by
  induction t with
  | nil => rfl
  | node l k' v' r ihl ihr =>
    obtain ⟨hl, hr, h1, h2⟩ := srt_node h
    simp only [drop]
    split
    · rename_i c
      rw [join_toL, ihl hl]
      simp only [toL]
      rw [without_append, without_cons_ne (Ne.symm (lt_ne c)), without_id (l := r.toL) fun x hx => Ne.symm (lt_ne (lt_trans c (h2 x hx)))]
    · rename_i c
      have c' : lt k k' = false := by simpa using c
      split
      · rename_i e
        subst e
        rw [glue_toL]
        simp only [toL]
        rw [without_append, without_cons_eq (show (⟨k, v'⟩ : Pr).f0 = k from rfl), without_id fun x hx => lt_ne (h1 x hx), without_id fun x hx => Ne.symm (lt_ne (h2 x hx))]
      · rename_i e
        have hg : lt k' k = true := lt_tri c' e
        rw [join_toL, ihr hr]
        simp only [toL]
        rw [without_append, without_cons_ne (Ne.symm e), without_id (l := l.toL) fun x hx => lt_ne (lt_trans (h1 x hx) hg)]

theorem find_cases (k : ByteArray) (t : T) (h : Srt t.toL) : match find k t with
    | nil => ∀ x ∈ t.toL, x.f0 ≠ k
    | node _ k' v _ => k' = k ∧ (⟨k, v⟩ : Pr) ∈ t.toL := by
  induction t with
  | nil => intro x hx; cases hx
  | node l k' v' r ihl ihr =>
    obtain ⟨hl, hr, h1, h2⟩ := srt_node h
    simp only [find]
    by_cases e : k' = k
    · rw [if_pos e]
      subst e
      exact ⟨rfl, by simp [toL]⟩
    · rw [if_neg e]
      by_cases c : lt k k' = true
      · rw [if_pos c]
        have ih := ihl hl
        cases hf : find k l with
        | nil =>
          rw [hf] at ih
          intro x hx
          rcases List.mem_append.1 hx with hx | hx
          · exact ih x hx
          · rcases List.mem_cons.1 hx with rfl | hx
            · exact e
            · exact Ne.symm (lt_ne (lt_trans c (h2 x hx)))
        | node a b c' d =>
          rw [hf] at ih
          exact ⟨ih.1, List.mem_append_left _ ih.2⟩
      · rw [if_neg c]
        have hg : lt k' k = true := lt_tri (by simpa using c) (Ne.symm e)
        have ih := ihr hr
        cases hf : find k r with
        | nil =>
          rw [hf] at ih
          intro x hx
          rcases List.mem_append.1 hx with hx | hx
          · exact lt_ne (lt_trans (h1 x hx) hg)
          · rcases List.mem_cons.1 hx with rfl | hx
            · exact e
            · exact ih x hx
        | node a b c' d =>
          rw [hf] at ih
          exact ⟨ih.1, List.mem_append_right _ (List.mem_cons_of_mem _ ih.2)⟩
end T
theorem getL_mem {k v : ByteArray} {l : List Pr} (h : Srt l) (hm : (⟨k, v⟩ : Pr) ∈ l) : getL k l = (v, true) := by
  induction l with
  | nil => cases hm
  | cons a l ih =>
    obtain ⟨h1, h2⟩ := List.pairwise_cons.1 h
    rw [getL]
    rcases List.mem_cons.1 hm with e | hm
    · subst e; rw [if_pos rfl]
    · rw [if_neg (lt_ne (h1 _ hm)), ih h2 hm]
theorem getL_none {k : ByteArray} {l : List Pr} (h : ∀ x ∈ l, x.f0 ≠ k) : getL k l = (⟨#[]⟩, false) := by
  have := getL_append_left k [] l h
  rw [List.nil_append] at this
  rw [this]; rfl
theorem withP_same {k v : ByteArray} {l : List Pr} (h : Srt l) (hm : (⟨k, v⟩ : Pr) ∈ l) : withP ⟨k, v⟩ l = l := by
  obtain ⟨A, B, rfl⟩ := List.append_of_mem hm
  obtain ⟨-, -, h1, h2⟩ := srt_mid.1 h
  unfold withP
  rw [without_append, without_cons_eq rfl, without_id fun x hx => lt_ne (h1 x hx), without_id fun x hx => Ne.symm (lt_ne (h2 x hx)), ins_skip fun x hx => lt_asymm (h1 x hx), ins_before h2]
namespace T
theorem get_toL (k : ByteArray) (t : T) (h : Srt t.toL) : get t k = getL k t.toL := by
  have hc := find_cases k t h
  unfold get
  cases hf : find k t with
  | nil => rw [hf] at hc; rw [getL_none hc]
  | node a b c d => rw [hf] at hc; rw [getL_mem h hc.2]
theorem tput_toL (k v : ByteArray) (t : T) (h : Srt t.toL) : (tput t k v).toL = withP ⟨k, v⟩ t.toL := by
  have hc := find_cases k t h
  unfold tput
  cases hf : find k t with
  | nil => exact put_toL k v t h
  | node a b c d =>
    rw [hf] at hc
    by_cases e : c = v
    · subst e
      show (if c = c then t else put k c t).toL = _
      rw [if_pos rfl, withP_same h hc.2]
    · show (if c = v then t else put k v t).toL = _
      rw [if_neg e]
      exact put_toL k v t h
theorem tdrop_toL (k : ByteArray) (t : T) (h : Srt t.toL) : (tdrop t k).toL = without k t.toL := by
  have hc := find_cases k t h
  unfold tdrop
  cases hf : find k t with
  | nil => rw [hf] at hc; rw [without_id hc]
  | node a b c d => exact drop_toL k t h
theorem step_srt (t : T) (k : Do) (h : Srt t.toL) : Srt (step t k).toL := by
  unfold step
  split
  · rw [tput_toL _ _ _ h]; exact srt_withP h
  · rw [tdrop_toL _ _ h]; exact srt_without h _
theorem play_srt (t : T) (l : List Do) (h : Srt t.toL) : Srt (play t l).toL := by
  induction l generalizing t with
  | nil => exact h
  | cons k l ih => exact ih _ (step_srt t k h)
theorem step_toL (t : T) (k : Do) (h : Srt t.toL) : (step t k).toL = if isPut k then withP ⟨k.f1, k.f2⟩ t.toL else without k.f1 t.toL := by
  unfold step
  split
  · exact tput_toL _ _ _ h
  · exact tdrop_toL _ _ h
theorem ofL_toL (t : T) (l : List Pr) (h : Srt t.toL) : (ofL t l).toL = ofP t.toL l ∧ Srt (ofL t l).toL := by
  induction l generalizing t with
  | nil => exact ⟨rfl, h⟩
  | cons p l ih =>
    have hp := put_toL p.f0 p.f1 t h
    have := ih (put p.f0 p.f1 t) (by rw [hp]; exact srt_withP h)
    rw [hp] at this
    exact this

theorem rank_toL (key : ByteArray) (t : T) (h : Srt t.toL) : rank key t = rankL key t.toL := by
  induction t with
  | nil => rfl
  | node l k v r ihl ihr =>
    obtain ⟨hl, hr, h1, h2⟩ := srt_node h
    have hall : ∀ (L : List Pr), (∀ x ∈ L, lt x.f0 key = false) → L.filter (fun p => lt p.f0 key) = [] := fun L h => by
      rw [List.filter_eq_nil_iff]; intro x hx; simp [h x hx]
    have hself : ∀ (L : List Pr), (∀ x ∈ L, lt x.f0 key = true) → L.filter (fun p => lt p.f0 key) = L := fun L h => by
      rw [List.filter_eq_self]; exact h
    simp only [rank]
    split
    · rename_i c
      rw [ihl hl]
      have hk : lt k key = false := by
        rcases c with c | rfl
        · exact lt_asymm c
        · exact lt_irrefl _
      have hR : ∀ x ∈ r.toL, lt x.f0 key = false := fun x hx => by
        rcases c with c | rfl
        · exact lt_asymm (lt_trans c (h2 x hx))
        · exact lt_asymm (h2 x hx)
      simp only [rankL, toL, List.filter_append, List.filter_cons, hk]
      rw [hall _ hR]
      simp
    · rename_i c
      have hk : lt k key = true := by
        refine lt_tri ?_ (fun e => c (Or.inr e))
        cases hh : lt key k with
        | false => rfl
        | true => exact absurd (Or.inl hh) c
      rw [ihr hr]
      simp only [rankL, toL, List.filter_append, List.filter_cons, hk, if_true, List.length_append, List.length_cons]
      rw [hself _ fun x hx => lt_trans (h1 x hx) hk, toL_length]
      omega

theorem at_toL (t : T) : ∀ (i : Nat), i < t.size → at_ (i : Int) t = ((t.toL.getD i z29).f0, (t.toL.getD i z29).f1) := by
  induction t with
  | nil => intro i h; simp [size] at h
  | node l k v r ihl ihr =>
    intro i h
    simp only [size] at h
    simp only [at_, toL]
    have hl := toL_length l
    by_cases e : i = l.size
    · rw [if_pos (by omega)]
      simp [List.getD, List.getElem?_append_right (show l.toL.length ≤ i by omega), e, hl]
    · rw [if_neg (by omega)]
      by_cases c : i < l.size
      · rw [if_pos (by omega), ihl i c]
        simp [List.getD, List.getElem?_append_left (show i < l.toL.length by omega)]
      · rw [if_neg (by omega), show (i : Int) - l.size - 1 = ((i - l.size - 1 : Nat) : Int) by omega, ihr _ (by omega)]
        have e2 : i - l.toL.length = (i - l.size - 1) + 1 := by omega
        simp [List.getD, List.getElem?_append_right (show l.toL.length ≤ i by omega), e2]
theorem tat_toL (t : T) (i : Int) : atL i t.toL = ((tat t i).1.1, (tat t i).1.2, (tat t i).2) := by
  unfold tat atL
  rw [toL_length]
  by_cases c : i < 0 ∨ (t.size : Int) ≤ i
  · rw [if_pos c, if_neg (by omega)]
  · rw [if_neg c, if_pos (by omega)]
    have := at_toL t i.toNat (by omega)
    rw [show ((i.toNat : Nat) : Int) = i by omega] at this
    rw [this]

theorem ceilL_rank (key : ByteArray) (l : List Pr) (h : Srt l) : ceilL key l = atL ((rankL key l : Nat) : Int) l := by
  induction l with
  | nil => rfl
  | cons a l ih =>
    obtain ⟨h1, h2⟩ := List.pairwise_cons.1 h
    rw [ceilL]
    by_cases c : lt a.f0 key = true
    · rw [if_pos c, ih h2]
      have hr : rankL key (a :: l) = rankL key l + 1 := by simp [rankL, c]
      rw [hr]
      unfold atL
      by_cases d : rankL key l < l.length
      · rw [if_pos ⟨by omega, by omega⟩, if_pos ⟨by omega, by simp; omega⟩]
        simp [List.getD]
      · rw [if_neg (by omega), if_neg (by simp; omega)]
    · rw [if_neg c]
      have hz : rankL key (a :: l) = 0 := by
        unfold rankL
        rw [List.filter_eq_nil_iff.2, List.length_nil]
        intro x hx
        rcases List.mem_cons.1 hx with rfl | hx
        · exact c
        · intro hh; exact c (lt_trans (h1 x hx) hh)
      rw [hz]
      unfold atL
      rw [if_pos ⟨by omega, by simp <;> omega⟩]
      simp [List.getD]
theorem ceil_toL (t : T) (key : ByteArray) (h : Srt t.toL) : ceilL key t.toL = ((ceil t key).1.1, (ceil t key).1.2, (ceil t key).2) := by
  rw [ceilL_rank key t.toL h, ← rank_toL key t h, tat_toL]; rfl

theorem scanL_skip (fr tt : ByteArray) (most : Int) (l : List Pr) : ∀ out, (∀ x ∈ l, lt x.f0 fr = true ∨ inside tt x.f0 = false) → scanL fr tt most out l = out := by
  induction l with
  | nil => intro out _; rfl
  | cons a l ih =>
    intro out h
    rw [scanL, if_neg, ih out fun x hx => h x (List.mem_cons_of_mem _ hx)]
    rintro ⟨h1, h2, -⟩
    rcases h a List.mem_cons_self with e | e
    · rw [e] at h1; cases h1
    · rw [e] at h2; cases h2
theorem scanL_full (fr tt : ByteArray) (most : Int) (l : List Pr) : ∀ out : List Pr, most ≤ out.length → scanL fr tt most out l = out := by
  induction l with
  | nil => intro out _; rfl
  | cons a l ih =>
    intro out h
    rw [scanL, if_neg (fun hh => by omega), ih out h]
theorem scanL_append (fr tt : ByteArray) (most : Int) (A B : List Pr) : ∀ out, scanL fr tt most out (A ++ B) = scanL fr tt most (scanL fr tt most out A) B := by
  induction A with
  | nil => intro out; rfl
  | cons a A ih =>
    intro out
    simp only [List.cons_append, scanL]
    split <;> exact ih _
theorem inside_mono {tt a b : ByteArray} (h : lt a b = true) (hb : inside tt b = true) : inside tt a = true := by
  unfold inside at *
  rw [Bool.or_eq_true] at *
  rcases hb with hb | hb
  · exact Or.inl hb
  · exact Or.inr (lt_trans h hb)
theorem scan_toL (fr tt : ByteArray) (most : Int) (t : T) (h : Srt t.toL) : ∀ out, scan fr tt most t out = scanL fr tt most out t.toL := by
  induction t with
  | nil => intro out; rfl
  | node l k v r ihl ihr =>
    obtain ⟨hl, hr, h1, h2⟩ := srt_node h
    intro out
    simp only [scan, toL]
    split
    · rename_i c
      rw [scanL_full _ _ _ _ _ c]
    · rename_i c
      have e1 : (if lt fr k = true then scan fr tt most l out else out) = scanL fr tt most out l.toL := by
        split
        · exact ihl hl out
        · rename_i c1
          refine (scanL_skip _ _ _ _ _ fun x hx => Or.inl ?_).symm
          by_cases e : k = fr
          · subst e; exact h1 x hx
          · exact lt_trans (h1 x hx) (lt_tri (by simpa using c1) (Ne.symm e))
      rw [e1, scanL_append]
      generalize scanL fr tt most out l.toL = a
      rw [scanL]
      by_cases c3 : inside tt k = true
      · rw [if_pos c3, ihr hr]
        by_cases c2 : lt k fr = false ∧ inside tt k = true ∧ (a.length : Int) < most
        · rw [if_pos c2, if_pos c2]
        · rw [if_neg c2, if_neg c2]
      · rw [if_neg c3, if_neg (fun h => c3 h.2.1), if_neg (fun h => c3 h.2.1)]
        refine (scanL_skip _ _ _ _ _ fun x hx => Or.inr ?_).symm
        cases hh : inside tt x.f0 with
        | false => rfl
        | true => exact absurd (inside_mono (h2 x hx) hh) c3
theorem scanL_all (most : Int) (l : List Pr) : ∀ out : List Pr, (out.length : Int) + l.length ≤ most → scanL ⟨#[]⟩ ⟨#[]⟩ most out l = out ++ l := by
  induction l with
  | nil => intro out _; simp [scanL]
  | cons a l ih =>
    intro out h
    simp only [List.length_cons] at h
    rw [scanL, if_pos ⟨lt_empty _, inside_empty _, by omega⟩, ih _ (by simp; omega)]
    simp
theorem all_toL (t : T) (h : Srt t.toL) : all t = t.toL := by
  unfold all
  rw [scan_toL _ _ _ _ h, scanL_all _ _ _ (by rw [toL_length]; simp)]
  rfl

def lessL (key : ByteArray) (l : List Pr) : List Pr := l.filter fun p => lt p.f0 key
def moreL (key : ByteArray) (l : List Pr) : List Pr := l.filter fun p => lt key p.f0
theorem split_toL (key : ByteArray) (t : T) (h : Srt t.toL) : (split key t).1.toL = lessL key t.toL ∧ (split key t).2.1.toL = moreL key t.toL ∧ (split key t).2.2.val = getL key t.toL ∧
    (match (split key t).2.2 with | nil => True | node _ k v _ => k = key ∧ (⟨key, v⟩ : Pr) ∈ t.toL) := by
  induction t with
  | nil => exact ⟨rfl, rfl, rfl, trivial⟩
  | node l k v r ihl ihr =>
    obtain ⟨hl, hr, h1, h2⟩ := srt_node h
    have fnil : ∀ (L : List Pr) (f : Pr → Bool), (∀ x ∈ L, f x = false) → L.filter f = [] := fun L f h => by
      rw [List.filter_eq_nil_iff]; intro x hx; simp [h x hx]
    have fself : ∀ (L : List Pr) (f : Pr → Bool), (∀ x ∈ L, f x = true) → L.filter f = L := fun L f h => by
      rw [List.filter_eq_self]; exact h
    simp only [split]
    split
    · rename_i c
      obtain ⟨i1, i2, i3, i4⟩ := ihl hl
      have hR : ∀ x ∈ r.toL, lt key x.f0 = true := fun x hx => lt_trans c (h2 x hx)
      refine ⟨?_, ?_, ?_, ?_⟩
      · dsimp only
        rw [i1]
        simp only [lessL, toL, List.filter_append, List.filter_cons, lt_asymm c]
        rw [fnil r.toL _ fun x hx => lt_asymm (hR x hx)]
        simp
      · dsimp only
        rw [join_toL, i2]
        simp only [moreL, toL, List.filter_append, List.filter_cons, c, if_true]
        rw [fself r.toL _ hR]
      · dsimp only
        rw [i3]
        simp only [toL]
        rw [getL_append_left _ _ _ fun x hx => ?_]
        rcases List.mem_cons.1 hx with rfl | hx
        · exact Ne.symm (lt_ne c)
        · exact Ne.symm (lt_ne (hR x hx))
      · dsimp only
        cases hc : (split key l).2.2 with
        | nil => trivial
        | node a b c' d => rw [hc] at i4; exact ⟨i4.1, List.mem_append_left _ i4.2⟩
    · rename_i c
      split
      · rename_i e
        subst e
        refine ⟨?_, ?_, ?_, ?_⟩
        · dsimp only
          simp only [lessL, toL, List.filter_append, List.filter_cons, lt_irrefl]
          rw [fself l.toL _ h1, fnil r.toL _ fun x hx => lt_asymm (h2 x hx)]
          simp
        · dsimp only
          simp only [moreL, toL, List.filter_append, List.filter_cons, lt_irrefl]
          rw [fself r.toL _ h2, fnil l.toL _ fun x hx => lt_asymm (h1 x hx)]
          simp
        · dsimp only
          rw [getL_mem (k := key) (v := v) h (by simp [toL])]
          rfl
        · exact ⟨rfl, by simp [toL]⟩
      · rename_i e
        have hg : lt k key = true := lt_tri (by simpa using c) e
        obtain ⟨i1, i2, i3, i4⟩ := ihr hr
        have hL : ∀ x ∈ l.toL, lt x.f0 key = true := fun x hx => lt_trans (h1 x hx) hg
        refine ⟨?_, ?_, ?_, ?_⟩
        · dsimp only
          rw [join_toL, i1]
          simp only [lessL, toL, List.filter_append, List.filter_cons, hg, if_true]
          rw [fself l.toL _ hL]
        · dsimp only
          rw [i2]
          simp only [moreL, toL, List.filter_append, List.filter_cons, lt_asymm hg]
          rw [fnil l.toL _ fun x hx => lt_asymm (hL x hx)]
          simp
        · dsimp only
          rw [i3]
          simp only [toL]
          rw [getL_append _ _ _ fun x hx => lt_ne (hL x hx), getL, if_neg (Ne.symm e)]
        · dsimp only
          cases hc : (split key r).2.2 with
          | nil => trivial
          | node a b c' d => rw [hc] at i4; exact ⟨i4.1, List.mem_append_right _ (List.mem_cons_of_mem _ i4.2)⟩
end T
end Go.Proofs.Ytehnkoglhbbfjaa

namespace Go.Proofs.Ytehnkoglhbbfjaa
open Go.RowKit Go.Proofs.YtehnkoglhbbfjaaW.PrintWords Go.Proofs.YtehnkoglhbbfjaaW.PrintLast Go.Proofs.YtehnkoglhbbfjaaW.PrintMore PAll

theorem mn_range (s : ByteArray) : 0 ≤ mn (s.size : Int) 16384 ∧ mn (s.size : Int) 16384 ≤ 16384 := by
  unfold mn; split <;> omega
theorem w64' {i n : Nat} (h : i < n) (hn : n ≤ 300) : wrap64 ((i : Int) + 1) = ((i + 1 : Nat) : Int) := by
  unfold wrap64; omega

theorem short_inner (ll : List (List S27)) (i : Nat) (P : Prop)
    (next : ∀ x3 : Int, 0 ≤ x3 → x3 ≤ 16384 → ∃ K b, tidemarklaw03_short.l0 K x3 ll (ll.length : Int) (wrap64 ((i : Int) + 1)) = some b ∧ (b = true → P))
    (xs : List S27) (hxs : xs.length ≤ 300) : ∀ (d j : Nat) (x3 : Int), j + d = xs.length → 0 ≤ x3 → x3 ≤ 16384 →
    ∃ K b, tidemarklaw03_short.l1 K x3 ll (ll.length : Int) (i : Int) xs (xs.length : Int) (j : Int) = some b ∧ (b = true → P) := by
  intro d
  induction d with
  | zero =>
    intro j x3 hj h0 h1
    obtain ⟨K, b, hb, hp⟩ := next x3 h0 h1
    refine ⟨K + 1, b, ?_, hp⟩
    simp only [tidemarklaw03_short.l1]
    rw [if_neg (by omega)]
    exact hb
  | succ d ih =>
    intro j x3 hj h0 h1
    have hlt : j < xs.length := by omega
    have m1 := mn_range (rd_T27 xs (j : Int)).f1
    have m2 := mn_range (rd_T27 xs (j : Int)).f2
    generalize hx : x3 + (mn ((rd_T27 xs (j : Int)).f1.size : Int) 16384 + mn ((rd_T27 xs (j : Int)).f2.size : Int) 16384) = x at *
    have hw : wrap64 x = x := by unfold wrap64; omega
    by_cases c : x > 16384
    · refine ⟨1, false, ?_, fun h => by cases h⟩
      simp only [tidemarklaw03_short.l1]
      rw [if_pos (by omega), if_pos (by omega), if_pos (by omega), hx, hw, if_pos c]
    · obtain ⟨K, b, hb, hp⟩ := ih (j + 1) x (by omega) (by omega) (by omega)
      refine ⟨K + 1, b, ?_, hp⟩
      simp only [tidemarklaw03_short.l1]
      rw [if_pos (by omega), if_pos (by omega), if_pos (by omega), hx, hw, if_neg c, w64' hlt hxs]
      exact hb

theorem short_outer (ll : List (List S27)) (hl : ll.length ≤ 300) : ∀ (d i : Nat) (x3 : Int), i + d = ll.length → 0 ≤ x3 → x3 ≤ 16384 →
    ∃ K b, tidemarklaw03_short.l0 K x3 ll (ll.length : Int) (i : Int) = some b ∧ (b = true → ∀ l ∈ ll.drop i, l.length ≤ 300) := by
  intro d
  induction d with
  | zero =>
    intro i x3 hi h0 h1
    refine ⟨1, true, ?_, fun _ l h => ?_⟩
    · simp only [tidemarklaw03_short.l0]
      rw [if_neg (by omega)]
    · rw [List.drop_eq_nil_of_le (by omega)] at h; cases h
  | succ d ih =>
    intro i x3 hi h0 h1
    have hlt : i < ll.length := by omega
    have hrd : rd_L3 ll (i : Int) = ll[i] := by simp [rd_L3, List.getD, hlt]
    by_cases c : (ll[i].length : Int) > 300
    · refine ⟨1, false, ?_, fun h => by cases h⟩
      simp only [tidemarklaw03_short.l0]
      rw [if_pos (by omega), if_pos (by omega), if_pos (by omega), hrd, if_pos c]
    · obtain ⟨K, b, hb, hp⟩ := short_inner ll i (∀ l ∈ ll.drop (i + 1), l.length ≤ 300) (fun x h0 h1 => by
        rw [w64' hlt hl]; exact ih (i + 1) x (by omega) h0 h1) ll[i] (by omega) ll[i].length 0 x3 (by omega) h0 h1
      refine ⟨K + 1, b, ?_, fun hb l h => ?_⟩
      · simp only [tidemarklaw03_short.l0]
        rw [if_pos (by omega), if_pos (by omega), if_pos (by omega), hrd, if_neg c]
        exact hb
      · rw [dropc ll i hlt] at h
        rcases List.mem_cons.1 h with rfl | h
        · omega
        · exact hp hb l h
theorem short_f (ll : List (List S27)) (hl : ll.length ≤ 300) : ∃ K b, tidemarklaw03_short.f K ll = some b ∧ (b = true → ∀ l ∈ ll, l.length ≤ 300) := by
  obtain ⟨K, b, hb, hp⟩ := short_outer ll hl ll.length 0 0 (by omega) (by omega) (by omega)
  exact ⟨K, b, hb, hp⟩
end Go.Proofs.Ytehnkoglhbbfjaa
