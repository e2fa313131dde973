/-
  What the printed functions over lists of pairs answer, as plain functions on lists.
-/
import Derived.Test.YtehnkoglhbbfjaaPAllx4
import Derived.Test.YtehnkoglhbbfjaaPAllx5
import Derived.Test.YtehnkoglhbbfjaaPAllx6
import Derived.Test.YtehnkoglhbbfjaaM3
namespace Go.Proofs.Ytehnkoglhbbfjaa
open Go.RowKit Go.Proofs.YtehnkoglhbbfjaaW.PrintWords Go.Proofs.YtehnkoglhbbfjaaW.PrintLast Go.Proofs.YtehnkoglhbbfjaaW.PrintMore PAll

instance : DecidableEq S29 := fun a b => decidable_of_iff (a.f0 = b.f0 ∧ a.f1 = b.f1) (by cases a; cases b; simp)

theorem rdT (l : List S29) (i : Nat) (h : i < l.length) : rd_T29 l (i : Int) = l[i] := by
  simp [rd_T29, List.getD, h]
theorem w64 {i n : Nat} (h : i < n) (hn : n < 4398046511104) : wrap64 ((i : Int) + 1) = ((i + 1 : Nat) : Int) := by
  unfold wrap64; omega
theorem dropc {α : Type} (l : List α) (i : Nat) (h : i < l.length) : l.drop i = l[i] :: l.drop (i + 1) := List.drop_eq_getElem_cons h
theorem key_ne' {a b : ByteArray} (h : ¬ a = b) : (a.toList == b.toList) = false := beq_eq_false_iff_ne.2 fun e => h (toList_inj e)
theorem toList_eq_iff {a b : ByteArray} : a.toList = b.toList ↔ a = b := ⟨toList_inj, fun h => by rw [h]⟩

/-! ### the plain functions -/
def without (key : ByteArray) (l : List Pr) : List Pr := l.filter fun p => !decide (p.f0 = key)
def ins (p : Pr) : List Pr → List Pr
  | [] => [p]
  | x :: l => if lt p.f0 x.f0 then p :: x :: l else x :: ins p l
def withP (p : Pr) (l : List Pr) : List Pr := ins p (without p.f0 l)
def getL (key : ByteArray) : List Pr → ByteArray × Bool
  | [] => (⟨#[]⟩, false)
  | p :: l => if p.f0 = key then (p.f1, true) else getL key l
def rankL (key : ByteArray) (l : List Pr) : Nat := (l.filter fun p => lt p.f0 key).length
def ceilL (key : ByteArray) : List Pr → ByteArray × ByteArray × Bool
  | [] => (⟨#[]⟩, ⟨#[]⟩, false)
  | p :: l => if lt p.f0 key then ceilL key l else (p.f0, p.f1, true)
def atL (i : Int) (l : List Pr) : ByteArray × ByteArray × Bool :=
  if 0 ≤ i ∧ i < l.length then ((l.getD i.toNat z29).f0, (l.getD i.toNat z29).f1, true) else (⟨#[]⟩, ⟨#[]⟩, false)
def scanL (fr tt : ByteArray) (most : Int) : List Pr → List Pr → List Pr
  | out, [] => out
  | out, p :: l => if lt p.f0 fr = false ∧ T.inside tt p.f0 = true ∧ (out.length : Int) < most then scanL fr tt most (out ++ [p]) l else scanL fr tt most out l

theorem without_length (key : ByteArray) (l : List Pr) : (without key l).length ≤ l.length := List.length_filter_le _ _
theorem ins_length (p : Pr) (l : List Pr) : (ins p l).length = l.length + 1 := by
  induction l with
  | nil => rfl
  | cons x l ih => unfold ins; split <;> simp [ih]
theorem withP_length (p : Pr) (l : List Pr) : (withP p l).length ≤ l.length + 1 := by
  unfold withP; rw [ins_length]; have := without_length p.f0 l; omega

/-! ### what is printed answers them -/
theorem Without_l0 (key : ByteArray) (l : List S29) (hl : l.length < 4398046511104) : ∀ (d k i : Nat) (out : List S29), i + d = l.length → d < k → out.length + d < 4398046511104 →
    tidemarkref03_List_Without.l0 k key out l (l.length : Int) (i : Int) = some (out ++ without key (l.drop i)) := by
  intro d
  induction d with
  | zero =>
    intro k i out hi hk ho
    obtain ⟨k, rfl⟩ : ∃ m, k = m + 1 := ⟨k - 1, by omega⟩
    simp only [tidemarkref03_List_Without.l0]
    rw [if_neg (by omega), List.drop_eq_nil_of_le (by omega)]
    simp [without]
  | succ d ih =>
    intro k i out hi hk ho
    obtain ⟨k, rfl⟩ : ∃ m, k = m + 1 := ⟨k - 1, by omega⟩
    have hlt : i < l.length := by omega
    simp only [tidemarkref03_List_Without.l0]
    rw [if_pos (by omega), if_pos (by omega), if_pos (by omega), w64 hlt hl, rdT l i hlt, dropc l i hlt]
    by_cases c : l[i].f0 = key
    · rw [if_pos (by rw [c]), ih k (i + 1) out (by omega) (by omega) (by omega)]
      generalize l[i] = pr at *
      generalize List.drop (i + 1) l = dr
      simp [without, c]
    · rw [if_neg (fun h => c (toList_inj h)), if_pos (by omega), ih k (i + 1) _ (by omega) (by omega) (by simp; omega)]
      generalize l[i] = pr at *
      generalize List.drop (i + 1) l = dr
      simp [without, c]
theorem Without_f (key : ByteArray) (l : List S29) (hl : l.length < 4398046511104) : tidemarkref03_List_Without.f (l.length + 1) l key = some (without key l) := by
  unfold tidemarkref03_List_Without.f
  rw [show (0 : Int) = ((0 : Nat) : Int) from rfl, Without_l0 key l hl l.length (l.length + 1) 0 [] (by omega) (by omega) (by simpa using hl)]
  simp

theorem With_l0_done (a b : ByteArray) (l : List S29) (hl : l.length < 4398046511104) : ∀ (d k i : Nat) (out : List S29), i + d = l.length → d < k → out.length + d < 4398046511104 →
    tidemarkref03_List_With.l0 k out true l (l.length : Int) (i : Int) a b = some (out ++ l.drop i) := by
  intro d
  induction d with
  | zero =>
    intro k i out hi hk ho
    obtain ⟨k, rfl⟩ : ∃ m, k = m + 1 := ⟨k - 1, by omega⟩
    simp only [tidemarkref03_List_With.l0]
    rw [if_neg (by omega), List.drop_eq_nil_of_le (by omega)]
    simp
  | succ d ih =>
    intro k i out hi hk ho
    obtain ⟨k, rfl⟩ : ∃ m, k = m + 1 := ⟨k - 1, by omega⟩
    have hlt : i < l.length := by omega
    simp only [tidemarkref03_List_With.l0]
    rw [if_pos (by omega), if_pos (by omega), if_pos (by omega), w64 hlt hl, rdT l i hlt, dropc l i hlt, if_pos trivial, if_pos (by omega), ih k (i + 1) _ (by omega) (by omega) (by simp; omega)]
    generalize l[i] = pr
    generalize List.drop (i + 1) l = dr
    simp
theorem With_l0 (a b : ByteArray) (l : List S29) (hl : l.length < 4398046511100) : ∀ (d k i : Nat) (out : List S29), i + d = l.length → d < k → out.length + d < 4398046511100 →
    tidemarkref03_List_With.l0 k out false l (l.length : Int) (i : Int) a b = some (out ++ ins ⟨a, b⟩ (l.drop i)) := by
  intro d
  induction d with
  | zero =>
    intro k i out hi hk ho
    obtain ⟨k, rfl⟩ : ∃ m, k = m + 1 := ⟨k - 1, by omega⟩
    simp only [tidemarkref03_List_With.l0]
    rw [if_neg (by omega), List.drop_eq_nil_of_le (by omega), if_neg (by decide), if_pos (by omega)]
    rfl
  | succ d ih =>
    intro k i out hi hk ho
    obtain ⟨k, rfl⟩ : ∃ m, k = m + 1 := ⟨k - 1, by omega⟩
    have hlt : i < l.length := by omega
    simp only [tidemarkref03_List_With.l0]
    rw [if_pos (by omega), if_pos (by omega), if_pos (by omega), w64 hlt (by omega), rdT l i hlt, dropc l i hlt, if_neg (by decide)]
    by_cases c : lt a l[i].f0 = true
    · rw [if_pos (show Op.bytesLess a.toList l[i].f0.toList = true from c), if_pos (by omega)]
      simp only [Option.bind_some]
      rw [if_pos (by simp; omega), With_l0_done a b l (by omega) d k (i + 1) _ (by omega) (by omega) (by simp; omega)]
      generalize l[i] = pr at *
      generalize List.drop (i + 1) l = dr
      simp [ins, c]
    · rw [if_neg (show ¬ Op.bytesLess a.toList l[i].f0.toList = true from c), if_pos (by omega), ih k (i + 1) _ (by omega) (by omega) (by simp; omega)]
      generalize l[i] = pr at *
      generalize List.drop (i + 1) l = dr
      simp [ins, c]
theorem With_f (a b : ByteArray) (l : List S29) (hl : l.length < 4398046511000) : tidemarkref03_List_With.f (l.length + 1) l a b = some (withP ⟨a, b⟩ l) := by
  unfold tidemarkref03_List_With.f
  have hw := without_length a l
  rw [Without_f a l (by omega)]
  simp only [Option.bind_some]
  rw [show (0 : Int) = ((0 : Nat) : Int) from rfl, With_l0 a b (without a l) (by omega) (without a l).length (l.length + 1) 0 [] (by omega) (by omega) (by simp; omega)]
  simp [withP]
theorem With_more (a b : ByteArray) (l : List S29) (hl : l.length < 4398046511000) (k : Nat) (hk : l.length < k) : tidemarkref03_List_With.f k l a b = some (withP ⟨a, b⟩ l) :=
  at_rounds (tidemarkref03_List_With.mono l a b) hk (With_f a b l hl)

def ofP (x : List Pr) : List Pr → List Pr
  | [] => x
  | p :: l => ofP (withP p x) l
theorem ofP_length (x l : List Pr) : (ofP x l).length ≤ x.length + l.length := by
  induction l generalizing x with
  | nil => exact Nat.le_refl _
  | cons p l ih => have := ih (withP p x); have := withP_length p x; simp only [ofP, List.length_cons]; omega
theorem Of_l0 (l : List S29) (hl : l.length < 1000000000) : ∀ (d k i : Nat) (x : List S29), i + d = l.length → d + 1000000000 < k → x.length + d < 1000000000 →
    tidemarkref03_Of.l0 k x l (l.length : Int) (i : Int) = some (ofP x (l.drop i)) := by
  intro d
  induction d with
  | zero =>
    intro k i x hi hk ho
    obtain ⟨k, rfl⟩ : ∃ m, k = m + 1 := ⟨k - 1, by omega⟩
    simp only [tidemarkref03_Of.l0]
    rw [if_neg (by omega), List.drop_eq_nil_of_le (by omega)]
    rfl
  | succ d ih =>
    intro k i x hi hk ho
    obtain ⟨k, rfl⟩ : ∃ m, k = m + 1 := ⟨k - 1, by omega⟩
    have hlt : i < l.length := by omega
    simp only [tidemarkref03_Of.l0]
    have hw := withP_length l[i] x
    rw [if_pos (by omega), if_pos (by omega), if_pos (by omega), w64 hlt (by omega), rdT l i hlt, dropc l i hlt, With_more _ _ x (by omega) k (by omega)]
    simp only [Option.bind_some]
    rw [ih k (i + 1) _ (by omega) (by omega) (by show (withP l[i] x).length + d < _; omega)]
    rfl
theorem Of_f (l : List S29) (hl : l.length < 1000000000) : tidemarkref03_Of.f 3000000000 l = some (ofP [] l) := by
  unfold tidemarkref03_Of.f
  rw [show (0 : Int) = ((0 : Nat) : Int) from rfl, Of_l0 l hl l.length _ 0 [] (by omega) (by omega) (by simpa using hl)]
  simp

theorem Same_l0 (x y : List S29) (hl : x.length = y.length) (hx : x.length < 4398046511104) : ∀ (d k i : Nat), i + d = x.length → d < k →
    tidemarkref03_Same.l0 k x y (x.length : Int) (i : Int) = some (decide (x.drop i = y.drop i)) := by
  intro d
  induction d with
  | zero =>
    intro k i hi hk
    obtain ⟨k, rfl⟩ : ∃ m, k = m + 1 := ⟨k - 1, by omega⟩
    simp only [tidemarkref03_Same.l0]
    rw [if_neg (by omega), List.drop_eq_nil_of_le (by omega), List.drop_eq_nil_of_le (by omega)]
    simp
  | succ d ih =>
    intro k i hi hk
    obtain ⟨k, rfl⟩ : ∃ m, k = m + 1 := ⟨k - 1, by omega⟩
    have hlt : i < x.length := by omega
    have hlt' : i < y.length := by omega
    simp only [tidemarkref03_Same.l0]
    rw [if_pos (by omega), if_pos (by omega), if_pos (by omega), if_pos (by omega), w64 hlt hx, rdT x i hlt, rdT y i hlt', dropc x i hlt, dropc y i hlt', ih k (i + 1) (by omega) (by omega)]
    generalize x[i] = a
    generalize y[i] = b
    generalize List.drop (i + 1) x = dx
    generalize List.drop (i + 1) y = dy
    obtain ⟨a0, a1⟩ := a
    obtain ⟨b0, b1⟩ := b
    by_cases c0 : a0 = b0
    · subst c0
      by_cases c1 : a1 = b1
      · subst c1
        simp
      · rw [if_pos (by rw [key_ne' c1]; simp)]
        simp [c1]
    · rw [if_pos (by rw [key_ne' c0]; simp)]
      simp [c0]
theorem Same_f (x y : List S29) (hx : x.length < 4398046511104) : tidemarkref03_Same.f (x.length + 1) x y = some (decide (x = y)) := by
  unfold tidemarkref03_Same.f
  by_cases c : x.length = y.length
  · rw [if_pos (by omega), show (0 : Int) = ((0 : Nat) : Int) from rfl, Same_l0 x y c hx x.length _ 0 (by omega) (by omega)]
    simp
  · rw [if_neg (by omega)]
    simp [show ¬ x = y from fun h => c (by rw [h])]
theorem Same_self (x : List S29) (hx : x.length < 4398046511104) : tidemarkref03_Same.f (x.length + 1) x x = some true := by
  rw [Same_f x x hx]; simp
theorem Pair_l0 (x y : List S29) (hl : x.length = y.length) (hx : x.length < 4398046511104) : ∀ (d k i : Nat), i + d = x.length → d < k →
    api_Pair.l0 k x y (x.length : Int) (i : Int) = some (decide (x.drop i = y.drop i)) := by
  intro d
  induction d with
  | zero =>
    intro k i hi hk
    obtain ⟨k, rfl⟩ : ∃ m, k = m + 1 := ⟨k - 1, by omega⟩
    simp only [api_Pair.l0]
    rw [if_neg (by omega), List.drop_eq_nil_of_le (by omega), List.drop_eq_nil_of_le (by omega)]
    simp
  | succ d ih =>
    intro k i hi hk
    obtain ⟨k, rfl⟩ : ∃ m, k = m + 1 := ⟨k - 1, by omega⟩
    have hlt : i < x.length := by omega
    have hlt' : i < y.length := by omega
    simp only [api_Pair.l0]
    rw [if_pos (by omega), if_pos (by omega), if_pos (by omega), if_pos (by omega), w64 hlt hx, rdT x i hlt, rdT y i hlt', dropc x i hlt, dropc y i hlt', ih k (i + 1) (by omega) (by omega)]
    generalize x[i] = a
    generalize y[i] = b
    generalize List.drop (i + 1) x = dx
    generalize List.drop (i + 1) y = dy
    obtain ⟨a0, a1⟩ := a
    obtain ⟨b0, b1⟩ := b
    by_cases c0 : a0 = b0
    · subst c0
      by_cases c1 : a1 = b1
      · subst c1
        simp
      · rw [if_pos (by rw [key_ne' c1]; simp)]
        simp [c1]
    · rw [if_pos (by rw [key_ne' c0]; simp)]
      simp [c0]
theorem Pair_f (x y : List S29) (hx : x.length < 4398046511104) : api_Pair.f (x.length + 1) x y = some (decide (x = y)) := by
  unfold api_Pair.f
  by_cases c : x.length = y.length
  · rw [if_pos (by omega), show (0 : Int) = ((0 : Nat) : Int) from rfl, Pair_l0 x y c hx x.length _ 0 (by omega) (by omega)]
    simp
  · rw [if_neg (by omega)]
    simp [show ¬ x = y from fun h => c (by rw [h])]

theorem rdE (l : List S51) (i : Nat) (h : i < l.length) : rd_T51 l (i : Int) = l[i] := by
  simp [rd_T51, List.getD, h]
theorem Event_l0 (x : List S51) (hx : x.length < 4398046511104) : ∀ (d k i : Nat), i + d = x.length → d < k →
    api_Event.l0 k x x (x.length : Int) (i : Int) = some true := by
  intro d
  induction d with
  | zero =>
    intro k i hi hk
    obtain ⟨k, rfl⟩ : ∃ m, k = m + 1 := ⟨k - 1, by omega⟩
    simp only [api_Event.l0]
    rw [if_neg (by omega)]
  | succ d ih =>
    intro k i hi hk
    obtain ⟨k, rfl⟩ : ∃ m, k = m + 1 := ⟨k - 1, by omega⟩
    have hlt : i < x.length := by omega
    simp only [api_Event.l0]
    rw [if_pos (by omega), if_pos (by omega), if_pos (by omega), if_pos (by omega), w64 hlt hx, rdE x i hlt, if_neg (by simp), ih k (i + 1) (by omega) (by omega)]
theorem Event_f (x : List S51) (hx : x.length < 4398046511104) : api_Event.f (x.length + 1) x x = some true := by
  unfold api_Event.f
  rw [if_pos rfl, show (0 : Int) = ((0 : Nat) : Int) from rfl, Event_l0 x hx x.length _ 0 (by omega) (by omega)]

theorem Get_l0 (key : ByteArray) (l : List S29) (hl : l.length < 4398046511104) : ∀ (d k i : Nat), i + d = l.length → d < k →
    tidemarkref03_List_Get.l0 k key l (l.length : Int) (i : Int) = some (getL key (l.drop i)) := by
  intro d
  induction d with
  | zero =>
    intro k i hi hk
    obtain ⟨k, rfl⟩ : ∃ m, k = m + 1 := ⟨k - 1, by omega⟩
    simp only [tidemarkref03_List_Get.l0]
    rw [if_neg (by omega), List.drop_eq_nil_of_le (by omega)]
    rfl
  | succ d ih =>
    intro k i hi hk
    obtain ⟨k, rfl⟩ : ∃ m, k = m + 1 := ⟨k - 1, by omega⟩
    have hlt : i < l.length := by omega
    simp only [tidemarkref03_List_Get.l0]
    rw [if_pos (by omega), if_pos (by omega), if_pos (by omega), w64 hlt hl, rdT l i hlt, dropc l i hlt, ih k (i + 1) (by omega) (by omega)]
    by_cases c : l[i].f0 = key
    · rw [if_pos (by rw [c]), getL, if_pos c]
    · rw [if_neg (fun h => c (toList_inj h)), getL, if_neg c]
theorem Get_f (key : ByteArray) (l : List S29) (hl : l.length < 4398046511104) : tidemarkref03_List_Get.f (l.length + 1) l key = some (getL key l) := by
  unfold tidemarkref03_List_Get.f
  rw [show (0 : Int) = ((0 : Nat) : Int) from rfl, Get_l0 key l hl l.length _ 0 (by omega) (by omega)]
  simp

theorem Ceil_l0 (key : ByteArray) (l : List S29) (hl : l.length < 4398046511104) : ∀ (d k i : Nat), i + d = l.length → d < k →
    tidemarkref03_List_Ceil.l0 k key l (l.length : Int) (i : Int) = some (ceilL key (l.drop i)) := by
  intro d
  induction d with
  | zero =>
    intro k i hi hk
    obtain ⟨k, rfl⟩ : ∃ m, k = m + 1 := ⟨k - 1, by omega⟩
    simp only [tidemarkref03_List_Ceil.l0]
    rw [if_neg (by omega), List.drop_eq_nil_of_le (by omega)]
    rfl
  | succ d ih =>
    intro k i hi hk
    obtain ⟨k, rfl⟩ : ∃ m, k = m + 1 := ⟨k - 1, by omega⟩
    have hlt : i < l.length := by omega
    simp only [tidemarkref03_List_Ceil.l0]
    rw [if_pos (by omega), if_pos (by omega), if_pos (by omega), w64 hlt hl, rdT l i hlt, dropc l i hlt, ih k (i + 1) (by omega) (by omega)]
    by_cases c : lt l[i].f0 key = true
    · rw [if_pos (show Op.bytesLess l[i].f0.toList key.toList = true from c), ceilL, if_pos c]
    · rw [if_neg (show ¬ Op.bytesLess l[i].f0.toList key.toList = true from c), ceilL, if_neg c]
theorem Ceil_f (key : ByteArray) (l : List S29) (hl : l.length < 4398046511104) : tidemarkref03_List_Ceil.f (l.length + 1) l key = some (ceilL key l) := by
  unfold tidemarkref03_List_Ceil.f
  rw [show (0 : Int) = ((0 : Nat) : Int) from rfl, Ceil_l0 key l hl l.length _ 0 (by omega) (by omega)]
  simp

theorem At_l0 (j : Int) (l : List S29) (hl : l.length < 4398046511104) : ∀ (d k i : Nat), i + d = l.length → d < k →
    tidemarkref03_List_At.l0 k j l (l.length : Int) (i : Int) = some (if (i : Int) ≤ j then atL j l else (⟨#[]⟩, ⟨#[]⟩, false)) := by
  intro d
  induction d with
  | zero =>
    intro k i hi hk
    obtain ⟨k, rfl⟩ : ∃ m, k = m + 1 := ⟨k - 1, by omega⟩
    simp only [tidemarkref03_List_At.l0]
    rw [if_neg (by omega)]
    split
    · rw [atL, if_neg (by omega)]
    · rfl
  | succ d ih =>
    intro k i hi hk
    obtain ⟨k, rfl⟩ : ∃ m, k = m + 1 := ⟨k - 1, by omega⟩
    have hlt : i < l.length := by omega
    simp only [tidemarkref03_List_At.l0]
    rw [if_pos (by omega), if_pos (by omega), if_pos (by omega), w64 hlt hl, rdT l i hlt, ih k (i + 1) (by omega) (by omega)]
    by_cases c : (i : Int) = j
    · subst c
      rw [if_pos rfl, if_pos (Int.le_refl _), atL, if_pos ⟨by omega, by omega⟩, Int.toNat_natCast]
      simp [List.getD, hlt]
    · rw [if_neg c]
      by_cases c2 : (i : Int) ≤ j
      · rw [if_pos c2, if_pos (by omega)]
      · rw [if_neg c2, if_neg (by omega)]
theorem At_f (j : Int) (l : List S29) (hl : l.length < 4398046511104) : tidemarkref03_List_At.f (l.length + 1) l j = some (atL j l) := by
  unfold tidemarkref03_List_At.f
  have h := At_l0 j l hl l.length (l.length + 1) 0 (by omega) (by omega)
  rw [show (0 : Int) = ((0 : Nat) : Int) from rfl, h]
  split
  · rfl
  · rw [atL, if_neg (by omega)]

theorem Rank_l0 (key : ByteArray) (l : List S29) (hl : l.length < 4398046511104) : ∀ (d k i c : Nat), i + d = l.length → d < k → c ≤ i →
    tidemarkref03_List_Rank.l0 k key (c : Int) l (l.length : Int) (i : Int) = some ((c + rankL key (l.drop i) : Nat) : Int) := by
  intro d
  induction d with
  | zero =>
    intro k i c hi hk hc
    obtain ⟨k, rfl⟩ : ∃ m, k = m + 1 := ⟨k - 1, by omega⟩
    simp only [tidemarkref03_List_Rank.l0]
    rw [if_neg (by omega), List.drop_eq_nil_of_le (by omega)]
    simp [rankL]
  | succ d ih =>
    intro k i c hi hk hc
    obtain ⟨k, rfl⟩ : ∃ m, k = m + 1 := ⟨k - 1, by omega⟩
    have hlt : i < l.length := by omega
    simp only [tidemarkref03_List_Rank.l0]
    rw [if_pos (by omega), if_pos (by omega), if_pos (by omega), w64 hlt hl, rdT l i hlt, dropc l i hlt]
    by_cases h : lt l[i].f0 key = true
    · rw [if_pos (show Op.bytesLess l[i].f0.toList key.toList = true from h), w64 (show c < l.length by omega) hl, ih k (i + 1) (c + 1) (by omega) (by omega) (by omega)]
      simp only [rankL, List.filter_cons, h, if_true, List.length_cons]
      congr 2; omega
    · rw [if_neg (show ¬ Op.bytesLess l[i].f0.toList key.toList = true from h), ih k (i + 1) c (by omega) (by omega) (by omega)]
      simp only [rankL, List.filter_cons, h]
      simp
theorem Rank_f (key : ByteArray) (l : List S29) (hl : l.length < 4398046511104) : tidemarkref03_List_Rank.f (l.length + 1) l key = some ((rankL key l : Nat) : Int) := by
  unfold tidemarkref03_List_Rank.f
  have h := Rank_l0 key l hl l.length (l.length + 1) 0 0 (by omega) (by omega) (by omega)
  simpa using h

theorem Scan_l0 (fr tt : ByteArray) (most : Int) (l : List S29) (hl : l.length < 4398046511104) : ∀ (d k i : Nat) (out : List S29), i + d = l.length → d < k → out.length ≤ i →
    tidemarkref03_List_Scan.l0 k fr tt most out l (l.length : Int) (i : Int) = some (scanL fr tt most out (l.drop i)) := by
  intro d
  induction d with
  | zero =>
    intro k i out hi hk ho
    obtain ⟨k, rfl⟩ : ∃ m, k = m + 1 := ⟨k - 1, by omega⟩
    simp only [tidemarkref03_List_Scan.l0]
    rw [if_neg (by omega), List.drop_eq_nil_of_le (by omega)]
    rfl
  | succ d ih =>
    intro k i out hi hk ho
    obtain ⟨k, rfl⟩ : ∃ m, k = m + 1 := ⟨k - 1, by omega⟩
    have hlt : i < l.length := by omega
    simp only [tidemarkref03_List_Scan.l0]
    rw [if_pos (by omega), if_pos (by omega), if_pos (by omega), w64 hlt hl, rdT l i hlt, dropc l i hlt, ih k (i + 1) out (by omega) (by omega) (by omega), ih k (i + 1) (out ++ [(⟨l[i].f0, l[i].f1⟩ : S29)]) (by omega) (by omega) (by simp; omega), scanL]
    by_cases c1 : lt l[i].f0 fr = true
    · rw [if_pos (show Op.bytesLess l[i].f0.toList fr.toList = true from c1), if_neg (by rw [c1]; simp)]
    · have c1' : lt l[i].f0 fr = false := by simpa using c1
      rw [if_neg (show ¬ Op.bytesLess l[i].f0.toList fr.toList = true from c1)]
      by_cases c2 : tt.toList = []
      · have hin : T.inside tt l[i].f0 = true := by unfold T.inside; rw [c2]; rfl
        rw [if_pos c2]
        by_cases c3 : (out.length : Int) < most
        · rw [if_pos c3, if_pos (by omega), if_pos ⟨c1', hin, c3⟩]
        · rw [if_neg c3, if_neg (fun h => c3 h.2.2)]
      · rw [if_neg c2]
        have he : tt.toList.isEmpty = false := by cases h : tt.toList with
          | nil => exact absurd h c2
          | cons a b => rfl
        by_cases c4 : Op.bytesLess l[i].f0.toList tt.toList = true
        · have hin : T.inside tt l[i].f0 = true := by unfold T.inside; rw [c4]; simp
          rw [if_pos c4]
          by_cases c3 : (out.length : Int) < most
          · rw [if_pos c3, if_pos (by omega), if_pos ⟨c1', hin, c3⟩]
          · rw [if_neg c3, if_neg (fun h => c3 h.2.2)]
        · have hin : T.inside tt l[i].f0 = false := by unfold T.inside; rw [he]; simpa using c4
          rw [if_neg c4, if_neg (by rw [hin]; simp)]
theorem Scan_f (fr tt : ByteArray) (most : Int) (l : List S29) (hl : l.length < 4398046511104) : tidemarkref03_List_Scan.f (l.length + 1) l fr tt most = some (scanL fr tt most [] l) := by
  unfold tidemarkref03_List_Scan.f
  rw [show (0 : Int) = ((0 : Nat) : Int) from rfl, Scan_l0 fr tt most l hl l.length _ 0 [] (by omega) (by omega) (by simp)]
  simp
end Go.Proofs.Ytehnkoglhbbfjaa
