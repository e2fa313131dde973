/-
  Sorted lists and trees, for the maps' texts.
-/
import Derived.Test.YtehnkoglhbbfjaaM1
import Derived.Test.YtehnkoglhbbfjaaPAllx0
set_option linter.unusedVariables false
set_option linter.unusedSimpArgs false
namespace Go.Proofs.Ytehnkoglhbbfjaa
open Go.RowKit Go.Proofs.YtehnkoglhbbfjaaW.PrintWords Go.Proofs.YtehnkoglhbbfjaaW.PrintLast Go.Proofs.YtehnkoglhbbfjaaW.PrintMore PAll
instance : DecidableEq S29 := fun a b => decidable_of_iff (a.f0 = b.f0 ∧ a.f1 = b.f1) (by cases a; cases b; simp)

theorem rdT (l : List S29) (i : Nat) (h : i < l.length) : rd_T29 l (i : Int) = l[i] := by
  simp [rd_T29, List.getD, h]
theorem w64 {i n : Nat} (h : i < n) (hn : n < 4398046511104) : wrap64 ((i : Int) + 1) = ((i + 1 : Nat) : Int) := by
  unfold wrap64; omega
theorem dropc {α : Type} (l : List α) (i : Nat) (h : i < l.length) : l.drop i = l[i] :: l.drop (i + 1) := List.drop_eq_getElem_cons h
theorem key_ne' {a b : ByteArray} (h : ¬ a = b) : (a.toList == b.toList) = false := beq_eq_false_iff_ne.2 fun e => h (toList_inj e)
theorem toList_eq_iff {a b : ByteArray} : a.toList = b.toList ↔ a = b := ⟨toList_inj, fun h => by rw [h]⟩

/-! ### the plain functions -/
def without (key : ByteArray) (l : List Pr) : List Pr := l.filter fun p => !decide (p.f0 = key)
def ins (p : Pr) : List Pr → List Pr
  | [] => [p]
  | x :: l => if lt p.f0 x.f0 then p :: x :: l else x :: ins p l
def withP (p : Pr) (l : List Pr) : List Pr := ins p (without p.f0 l)
def getL (key : ByteArray) : List Pr → ByteArray × Bool
  | [] => (⟨#[]⟩, false)
  | p :: l => if p.f0 = key then (p.f1, true) else getL key l
def rankL (key : ByteArray) (l : List Pr) : Nat := (l.filter fun p => lt p.f0 key).length
def ceilL (key : ByteArray) : List Pr → ByteArray × ByteArray × Bool
  | [] => (⟨#[]⟩, ⟨#[]⟩, false)
  | p :: l => if lt p.f0 key then ceilL key l else (p.f0, p.f1, true)
def atL (i : Int) (l : List Pr) : ByteArray × ByteArray × Bool :=
  if 0 ≤ i ∧ i < l.length then ((l.getD i.toNat z29).f0, (l.getD i.toNat z29).f1, true) else (⟨#[]⟩, ⟨#[]⟩, false)
def scanL (fr tt : ByteArray) (most : Int) : List Pr → List Pr → List Pr
  | out, [] => out
  | out, p :: l => if lt p.f0 fr = false ∧ T.inside tt p.f0 = true ∧ (out.length : Int) < most then scanL fr tt most (out ++ [p]) l else scanL fr tt most out l

theorem without_length (key : ByteArray) (l : List Pr) : (without key l).length ≤ l.length := List.length_filter_le _ _
theorem ins_length (p : Pr) (l : List Pr) : (ins p l).length = l.length + 1 := by
  induction l with
  | nil => rfl
  | cons x l ih => unfold ins; split <;> simp [ih]
theorem withP_length (p : Pr) (l : List Pr) : (withP p l).length ≤ l.length + 1 := by
  unfold withP; rw [ins_length]; have := without_length p.f0 l; omega

end Go.Proofs.Ytehnkoglhbbfjaa
namespace Go.Proofs.Ytehnkoglhbbfjaa
open PAll

def Srt (l : List Pr) : Prop := l.Pairwise fun a b => lt a.f0 b.f0 = true

theorem srt_nil : Srt [] := List.Pairwise.nil
theorem srt_mid {L R : List Pr} {p : Pr} : Srt (L ++ p :: R) ↔ Srt L ∧ Srt R ∧ (∀ x ∈ L, lt x.f0 p.f0 = true) ∧ (∀ x ∈ R, lt p.f0 x.f0 = true) := by
  unfold Srt
  rw [List.pairwise_append, List.pairwise_cons]
  constructor
  · rintro ⟨h1, ⟨h2, h3⟩, h4⟩
    exact ⟨h1, h3, fun x hx => h4 x hx p List.mem_cons_self, h2⟩
  · rintro ⟨h1, h3, h5, h2⟩
    refine ⟨h1, ⟨h2, h3⟩, fun x hx y hy => ?_⟩
    rcases List.mem_cons.1 hy with rfl | hy
    · exact h5 x hx
    · exact lt_trans (h5 x hx) (h2 y hy)
theorem srt_filter {l : List Pr} (h : Srt l) (f : Pr → Bool) : Srt (l.filter f) := List.Pairwise.filter f h
theorem srt_without {l : List Pr} (h : Srt l) (k : ByteArray) : Srt (without k l) := srt_filter h _
theorem srt_append {L R : List Pr} (hL : Srt L) (hR : Srt R) (h : ∀ x ∈ L, ∀ y ∈ R, lt x.f0 y.f0 = true) : Srt (L ++ R) := List.pairwise_append.2 ⟨hL, hR, h⟩

theorem without_append (k : ByteArray) (L R : List Pr) : without k (L ++ R) = without k L ++ without k R := List.filter_append ..
theorem without_cons_ne {k : ByteArray} {p : Pr} (h : p.f0 ≠ k) (R : List Pr) : without k (p :: R) = p :: without k R := by simp [without, h]
theorem without_cons_eq {k : ByteArray} {p : Pr} (h : p.f0 = k) (R : List Pr) : without k (p :: R) = without k R := by simp [without, h]
theorem without_id {k : ByteArray} {l : List Pr} (h : ∀ x ∈ l, x.f0 ≠ k) : without k l = l := by
  unfold without
  rw [List.filter_eq_self]
  intro x hx
  simp [h x hx]
theorem mem_without {k : ByteArray} {l : List Pr} {x : Pr} : x ∈ without k l ↔ x ∈ l ∧ x.f0 ≠ k := by simp [without]

theorem ins_skip {p : Pr} {A B : List Pr} (h : ∀ x ∈ A, lt p.f0 x.f0 = false) : ins p (A ++ B) = A ++ ins p B := by
  induction A with
  | nil => rfl
  | cons a A ih =>
    simp only [List.cons_append, ins]
    rw [if_neg (by rw [h a List.mem_cons_self]; decide), ih fun x hx => h x (List.mem_cons_of_mem _ hx)]
theorem ins_before {p : Pr} {l : List Pr} (h : ∀ x ∈ l, lt p.f0 x.f0 = true) : ins p l = p :: l := by
  cases l with
  | nil => rfl
  | cons a l => rw [ins, if_pos (h a List.mem_cons_self)]
theorem ins_left {p x : Pr} {A B : List Pr} (h : lt p.f0 x.f0 = true) : ins p (A ++ x :: B) = ins p A ++ x :: B := by
  induction A with
  | nil => simp only [List.nil_append, ins]; rw [if_pos h]; rfl
  | cons a A ih =>
    simp only [List.cons_append, ins]
    split
    · rfl
    · rw [ih]; rfl
theorem mem_ins {p x : Pr} {l : List Pr} : x ∈ ins p l ↔ x = p ∨ x ∈ l := by
  induction l with
  | nil => simp [ins]
  | cons a l ih =>
    simp only [ins]
    split
    · simp
    · simp only [List.mem_cons, ih]
      constructor
      · rintro (h | h | h) <;> simp [h]
      · rintro (h | h | h) <;> simp [h]
theorem srt_ins {p : Pr} {l : List Pr} (h : Srt l) (hp : ∀ x ∈ l, x.f0 ≠ p.f0) : Srt (ins p l) := by
  induction l with
  | nil => exact List.pairwise_singleton _ _
  | cons a l ih =>
    obtain ⟨h1, h2⟩ := List.pairwise_cons.1 h
    simp only [ins]
    split
    · rename_i c
      refine List.pairwise_cons.2 ⟨fun x hx => ?_, h⟩
      rcases List.mem_cons.1 hx with rfl | hx
      · exact c
      · exact lt_trans c (h1 x hx)
    · rename_i c
      have hap : lt a.f0 p.f0 = true := lt_tri (by simpa using c) (Ne.symm (hp a List.mem_cons_self))
      refine List.pairwise_cons.2 ⟨fun x hx => ?_, ih h2 fun x hx => hp x (List.mem_cons_of_mem _ hx)⟩
      rcases mem_ins.1 hx with rfl | hx
      · exact hap
      · exact h1 x hx
theorem srt_withP {p : Pr} {l : List Pr} (h : Srt l) : Srt (withP p l) := srt_ins (srt_without h _) fun x hx => (mem_without.1 hx).2
theorem mem_withP {p x : Pr} {l : List Pr} : x ∈ withP p l ↔ x = p ∨ (x ∈ l ∧ x.f0 ≠ p.f0) := by
  unfold withP; rw [mem_ins, mem_without]

theorem getL_append (k : ByteArray) (A B : List Pr) (h : ∀ x ∈ A, x.f0 ≠ k) : getL k (A ++ B) = getL k B := by
  induction A with
  | nil => rfl
  | cons a A ih => simp only [List.cons_append, getL]; rw [if_neg (h a List.mem_cons_self), ih fun x hx => h x (List.mem_cons_of_mem _ hx)]
theorem getL_append_left (k : ByteArray) (A B : List Pr) (h : ∀ x ∈ B, x.f0 ≠ k) : getL k (A ++ B) = getL k A := by
  induction A with
  | nil =>
    have : ∀ B : List Pr, (∀ x ∈ B, x.f0 ≠ k) → getL k B = (⟨#[]⟩, false) := by
      intro B
      induction B with
      | nil => intro _; rfl
      | cons b B ih => intro h; rw [getL, if_neg (h b List.mem_cons_self), ih fun x hx => h x (List.mem_cons_of_mem _ hx)]
    exact this B h
  | cons a A ih => simp only [List.cons_append, getL]; rw [ih]

namespace T
theorem srt_node {l r : T} {k v : ByteArray} (h : Srt (node l k v r).toL) : Srt l.toL ∧ Srt r.toL ∧ (∀ x ∈ l.toL, lt x.f0 k = true) ∧ (∀ x ∈ r.toL, lt k x.f0 = true) := srt_mid.1 h

theorem put_toL (k v : ByteArray) (t : T) (h : Srt t.toL) : (put k v t).toL = withP ⟨k, v⟩ t.toL := by
  induction t with
  | nil => rfl
  | node l k' v' r ihl ihr =>
    obtain ⟨hl, hr, h1, h2⟩ := srt_node h
    simp only [put]
    split
    · rename_i c
      have hR : ∀ x ∈ r.toL, x.f0 ≠ k := fun x hx => Ne.symm (lt_ne (lt_trans c (h2 x hx)))
      rw [join_toL, ihl hl]
      simp only [toL, withP]
      rw [without_append, without_cons_ne (Ne.symm (lt_ne c)), without_id hR, ins_left (show lt k k' = true from c)]
    · rename_i c
      have c' : lt k k' = false := by simpa using c
      split
      · rename_i e
        subst e
        simp only [toL, withP]
        rw [without_append, without_cons_eq (show (⟨k, v'⟩ : Pr).f0 = k from rfl), without_id fun x hx => lt_ne (h1 x hx), without_id fun x hx => Ne.symm (lt_ne (h2 x hx)), ins_skip fun x hx => lt_asymm (h1 x hx), ins_before h2]
      · rename_i e
        have hg : lt k' k = true := lt_tri c' e
        rw [join_toL, ihr hr]
        simp only [toL, withP]
        rw [without_append, without_cons_ne (Ne.symm e), without_id fun x hx => lt_ne (lt_trans (h1 x hx) hg)]
        rw [ins_skip fun x hx => lt_asymm (lt_trans (h1 x hx) hg)]
        rw [ins, if_neg (by rw [show lt (⟨k, v⟩ : Pr).f0 (⟨k', v'⟩ : Pr).f0 = lt k k' from rfl, c']; decide)]
theorem drop_toL (k : ByteArray) (t : T) (h : Srt t.toL) : (drop k t).toL = without k t.toL := by
  induction t with
  | nil => rfl
  | node l k' v' r ihl ihr =>
    obtain ⟨hl, hr, h1, h2⟩ := srt_node h
    simp only [drop]
    split
    · rename_i c
      rw [join_toL, ihl hl]
      simp only [toL]
      rw [without_append, without_cons_ne (Ne.symm (lt_ne c)), without_id (l := r.toL) fun x hx => Ne.symm (lt_ne (lt_trans c (h2 x hx)))]
    · rename_i c
      have c' : lt k k' = false := by simpa using c
      split
      · rename_i e
        subst e
        rw [glue_toL]
        simp only [toL]
        rw [without_append, without_cons_eq (show (⟨k, v'⟩ : Pr).f0 = k from rfl), without_id fun x hx => lt_ne (h1 x hx), without_id fun x hx => Ne.symm (lt_ne (h2 x hx))]
      · rename_i e
        have hg : lt k' k = true := lt_tri c' e
        rw [join_toL, ihr hr]
        simp only [toL]
        rw [without_append, without_cons_ne (Ne.symm e), without_id (l := l.toL) fun x hx => lt_ne (lt_trans (h1 x hx) hg)]

theorem find_cases (k : ByteArray) (t : T) (h : Srt t.toL) : match find k t with
    | nil => ∀ x ∈ t.toL, x.f0 ≠ k
    | node _ k' v _ => k' = k ∧ (⟨k, v⟩ : Pr) ∈ t.toL := by
  induction t with
  | nil => intro x hx; cases hx
  | node l k' v' r ihl ihr =>
    obtain ⟨hl, hr, h1, h2⟩ := srt_node h
    simp only [find]
    by_cases e : k' = k
    · rw [if_pos e]
      subst e
      exact ⟨rfl, by simp [toL]⟩
    · rw [if_neg e]
      by_cases c : lt k k' = true
      · rw [if_pos c]
        have ih := ihl hl
        cases hf : find k l with
        | nil =>
          rw [hf] at ih
          intro x hx
          rcases List.mem_append.1 hx with hx | hx
          · exact ih x hx
          · rcases List.mem_cons.1 hx with rfl | hx
            · exact e
            · exact Ne.symm (lt_ne (lt_trans c (h2 x hx)))
        | node a b c' d =>
          rw [hf] at ih
          exact ⟨ih.1, List.mem_append_left _ ih.2⟩
      · rw [if_neg c]
        have hg : lt k' k = true := lt_tri (by simpa using c) (Ne.symm e)
        have ih := ihr hr
        cases hf : find k r with
        | nil =>
          rw [hf] at ih
          intro x hx
          rcases List.mem_append.1 hx with hx | hx
          · exact lt_ne (lt_trans (h1 x hx) hg)
          · rcases List.mem_cons.1 hx with rfl | hx
            · exact e
            · exact ih x hx
        | node a b c' d =>
          rw [hf] at ih
          exact ⟨ih.1, List.mem_append_right _ (List.mem_cons_of_mem _ ih.2)⟩
end T
theorem getL_mem {k v : ByteArray} {l : List Pr} (h : Srt l) (hm : (⟨k, v⟩ : Pr) ∈ l) : getL k l = (v, true) := by
  induction l with
  | nil => cases hm
  | cons a l ih =>
    obtain ⟨h1, h2⟩ := List.pairwise_cons.1 h
    rw [getL]
    rcases List.mem_cons.1 hm with e | hm
    · subst e; rw [if_pos rfl]
    · rw [if_neg (lt_ne (h1 _ hm)), ih h2 hm]
theorem getL_none {k : ByteArray} {l : List Pr} (h : ∀ x ∈ l, x.f0 ≠ k) : getL k l = (⟨#[]⟩, false) := by
  have := getL_append_left k [] l h
  rw [List.nil_append] at this
  rw [this]; rfl
theorem withP_same {k v : ByteArray} {l : List Pr} (h : Srt l) (hm : (⟨k, v⟩ : Pr) ∈ l) : withP ⟨k, v⟩ l = l := by
  obtain ⟨A, B, rfl⟩ := List.append_of_mem hm
  obtain ⟨-, -, h1, h2⟩ := srt_mid.1 h
  unfold withP
  rw [without_append, without_cons_eq rfl, without_id fun x hx => lt_ne (h1 x hx), without_id fun x hx => Ne.symm (lt_ne (h2 x hx)), ins_skip fun x hx => lt_asymm (h1 x hx), ins_before h2]
namespace T
theorem get_toL (k : ByteArray) (t : T) (h : Srt t.toL) : get t k = getL k t.toL := by
  have hc := find_cases k t h
  unfold get
  cases hf : find k t with
  | nil => rw [hf] at hc; rw [getL_none hc]
  | node a b c d => rw [hf] at hc; rw [getL_mem h hc.2]
theorem tput_toL (k v : ByteArray) (t : T) (h : Srt t.toL) : (tput t k v).toL = withP ⟨k, v⟩ t.toL := by
  have hc := find_cases k t h
  unfold tput
  cases hf : find k t with
  | nil => exact put_toL k v t h
  | node a b c d =>
    rw [hf] at hc
    by_cases e : c = v
    · subst e
      show (if c = c then t else put k c t).toL = _
      rw [if_pos rfl, withP_same h hc.2]
    · show (if c = v then t else put k v t).toL = _
      rw [if_neg e]
      exact put_toL k v t h
theorem tdrop_toL (k : ByteArray) (t : T) (h : Srt t.toL) : (tdrop t k).toL = without k t.toL := by
  have hc := find_cases k t h
  unfold tdrop
  cases hf : find k t with
  | nil => rw [hf] at hc; rw [without_id hc]
  | node a b c d => exact drop_toL k t h
theorem step_srt (t : T) (k : Do) (h : Srt t.toL) : Srt (step t k).toL := by
  unfold step
  split
  · rw [tput_toL _ _ _ h]; exact srt_withP h
  · rw [tdrop_toL _ _ h]; exact srt_without h _
theorem play_srt (t : T) (l : List Do) (h : Srt t.toL) : Srt (play t l).toL := by
  induction l generalizing t with
  | nil => exact h
  | cons k l ih => exact ih _ (step_srt t k h)
theorem step_toL (t : T) (k : Do) (h : Srt t.toL) : (step t k).toL = if isPut k then withP ⟨k.f1, k.f2⟩ t.toL else without k.f1 t.toL := by
  unfold step
  split
  · exact tput_toL _ _ _ h
  · exact tdrop_toL _ _ h

theorem rank_toL (key : ByteArray) (t : T) (h : Srt t.toL) : rank key t = rankL key t.toL := by
  induction t with
  | nil => rfl
  | node l k v r ihl ihr =>
    obtain ⟨hl, hr, h1, h2⟩ := srt_node h
    have hall : ∀ (L : List Pr), (∀ x ∈ L, lt x.f0 key = false) → L.filter (fun p => lt p.f0 key) = [] := fun L h => by
      rw [List.filter_eq_nil_iff]; intro x hx; simp [h x hx]
    have hself : ∀ (L : List Pr), (∀ x ∈ L, lt x.f0 key = true) → L.filter (fun p => lt p.f0 key) = L := fun L h => by
      rw [List.filter_eq_self]; exact h
    simp only [rank]
    split
    · rename_i c
      rw [ihl hl]
      have hk : lt k key = false := by
        rcases c with c | rfl
        · exact lt_asymm c
        · exact lt_irrefl _
      have hR : ∀ x ∈ r.toL, lt x.f0 key = false := fun x hx => by
        rcases c with c | rfl
        · exact lt_asymm (lt_trans c (h2 x hx))
        · exact lt_asymm (h2 x hx)
      simp only [rankL, toL, List.filter_append, List.filter_cons, hk]
      rw [hall _ hR]
      simp
    · rename_i c
      have hk : lt k key = true := by
        refine lt_tri ?_ (fun e => c (Or.inr e))
        cases hh : lt key k with
        | false => rfl
        | true => exact absurd (Or.inl hh) c
      rw [ihr hr]
      simp only [rankL, toL, List.filter_append, List.filter_cons, hk, if_true, List.length_append, List.length_cons]
      rw [hself _ fun x hx => lt_trans (h1 x hx) hk, toL_length]
      omega

theorem at_toL (t : T) : ∀ (i : Nat), i < t.size → at_ (i : Int) t = ((t.toL.getD i z29).f0, (t.toL.getD i z29).f1) := by
  induction t with
  | nil => intro i h; simp [size] at h
  | node l k v r ihl ihr =>
    intro i h
    simp only [size] at h
    simp only [at_, toL]
    have hl := toL_length l
    by_cases e : i = l.size
    · rw [if_pos (by omega)]
      simp [List.getD, List.getElem?_append_right (show l.toL.length ≤ i by omega), e, hl]
    · rw [if_neg (by omega)]
      by_cases c : i < l.size
      · rw [if_pos (by omega), ihl i c]
        simp [List.getD, List.getElem?_append_left (show i < l.toL.length by omega)]
      · rw [if_neg (by omega), show (i : Int) - l.size - 1 = ((i - l.size - 1 : Nat) : Int) by omega, ihr _ (by omega)]
        have e2 : i - l.toL.length = (i - l.size - 1) + 1 := by omega
        simp [List.getD, List.getElem?_append_right (show l.toL.length ≤ i by omega), e2]
theorem tat_toL (t : T) (i : Int) : atL i t.toL = ((tat t i).1.1, (tat t i).1.2, (tat t i).2) := by
  unfold tat atL
  rw [toL_length]
  by_cases c : i < 0 ∨ (t.size : Int) ≤ i
  · rw [if_pos c, if_neg (by omega)]
  · rw [if_neg c, if_pos (by omega)]
    have := at_toL t i.toNat (by omega)
    rw [show ((i.toNat : Nat) : Int) = i by omega] at this
    rw [this]

theorem ceilL_rank (key : ByteArray) (l : List Pr) (h : Srt l) : ceilL key l = atL ((rankL key l : Nat) : Int) l := by
  induction l with
  | nil => rfl
  | cons a l ih =>
    obtain ⟨h1, h2⟩ := List.pairwise_cons.1 h
    rw [ceilL]
    by_cases c : lt a.f0 key = true
    · rw [if_pos c, ih h2]
      have hr : rankL key (a :: l) = rankL key l + 1 := by simp [rankL, c]
      rw [hr]
      unfold atL
      by_cases d : rankL key l < l.length
      · rw [if_pos ⟨by omega, by omega⟩, if_pos ⟨by omega, by simp; omega⟩]
        simp [List.getD]
      · rw [if_neg (by omega), if_neg (by simp; omega)]
    · rw [if_neg c]
      have hz : rankL key (a :: l) = 0 := by
        unfold rankL
        rw [List.filter_eq_nil_iff.2, List.length_nil]
        intro x hx
        rcases List.mem_cons.1 hx with rfl | hx
        · exact c
        · intro hh; exact c (lt_trans (h1 x hx) hh)
      rw [hz]
      unfold atL
      rw [if_pos ⟨by omega, by simp <;> omega⟩]
      simp [List.getD]
theorem ceil_toL (t : T) (key : ByteArray) (h : Srt t.toL) : ceilL key t.toL = ((ceil t key).1.1, (ceil t key).1.2, (ceil t key).2) := by
  rw [ceilL_rank key t.toL h, ← rank_toL key t h, tat_toL]; rfl

theorem scanL_skip (fr tt : ByteArray) (most : Int) (l : List Pr) : ∀ out, (∀ x ∈ l, lt x.f0 fr = true ∨ inside tt x.f0 = false) → scanL fr tt most out l = out := by
  induction l with
  | nil => intro out _; rfl
  | cons a l ih =>
    intro out h
    rw [scanL, if_neg, ih out fun x hx => h x (List.mem_cons_of_mem _ hx)]
    rintro ⟨h1, h2, -⟩
    rcases h a List.mem_cons_self with e | e
    · rw [e] at h1; cases h1
    · rw [e] at h2; cases h2
theorem scanL_full (fr tt : ByteArray) (most : Int) (l : List Pr) : ∀ out : List Pr, most ≤ out.length → scanL fr tt most out l = out := by
  induction l with
  | nil => intro out _; rfl
  | cons a l ih =>
    intro out h
    rw [scanL, if_neg (fun hh => by omega), ih out h]
theorem scanL_append (fr tt : ByteArray) (most : Int) (A B : List Pr) : ∀ out, scanL fr tt most out (A ++ B) = scanL fr tt most (scanL fr tt most out A) B := by
  induction A with
  | nil => intro out; rfl
  | cons a A ih =>
    intro out
    simp only [List.cons_append, scanL]
    split <;> exact ih _
theorem inside_mono {tt a b : ByteArray} (h : lt a b = true) (hb : inside tt b = true) : inside tt a = true := by
  unfold inside at *
  rw [Bool.or_eq_true] at *
  rcases hb with hb | hb
  · exact Or.inl hb
  · exact Or.inr (lt_trans h hb)
theorem scan_toL (fr tt : ByteArray) (most : Int) (t : T) (h : Srt t.toL) : ∀ out, scan fr tt most t out = scanL fr tt most out t.toL := by
  induction t with
  | nil => intro out; rfl
  | node l k v r ihl ihr =>
    obtain ⟨hl, hr, h1, h2⟩ := srt_node h
    intro out
    simp only [scan, toL]
    split
    · rename_i c
      rw [scanL_full _ _ _ _ _ c]
    · rename_i c
      have e1 : (if lt fr k = true then scan fr tt most l out else out) = scanL fr tt most out l.toL := by
        split
        · exact ihl hl out
        · rename_i c1
          refine (scanL_skip _ _ _ _ _ fun x hx => Or.inl ?_).symm
          by_cases e : k = fr
          · subst e; exact h1 x hx
          · exact lt_trans (h1 x hx) (lt_tri (by simpa using c1) (Ne.symm e))
      rw [e1, scanL_append]
      generalize scanL fr tt most out l.toL = a
      rw [scanL]
      by_cases c3 : inside tt k = true
      · rw [if_pos c3, ihr hr]
        by_cases c2 : lt k fr = false ∧ inside tt k = true ∧ (a.length : Int) < most
        · rw [if_pos c2, if_pos c2]
        · rw [if_neg c2, if_neg c2]
      · rw [if_neg c3, if_neg (fun h => c3 h.2.1), if_neg (fun h => c3 h.2.1)]
        refine (scanL_skip _ _ _ _ _ fun x hx => Or.inr ?_).symm
        cases hh : inside tt x.f0 with
        | false => rfl
        | true => exact absurd (inside_mono (h2 x hx) hh) c3
theorem scanL_all (most : Int) (l : List Pr) : ∀ out : List Pr, (out.length : Int) + l.length ≤ most → scanL ⟨#[]⟩ ⟨#[]⟩ most out l = out ++ l := by
  induction l with
  | nil => intro out _; simp [scanL]
  | cons a l ih =>
    intro out h
    simp only [List.length_cons] at h
    rw [scanL, if_pos ⟨lt_empty _, inside_empty _, by omega⟩, ih _ (by simp; omega)]
    simp
theorem all_toL (t : T) (h : Srt t.toL) : all t = t.toL := by
  unfold all
  rw [scan_toL _ _ _ _ h, scanL_all _ _ _ (by rw [toL_length]; simp)]
  rfl

def lessL (key : ByteArray) (l : List Pr) : List Pr := l.filter fun p => lt p.f0 key
def moreL (key : ByteArray) (l : List Pr) : List Pr := l.filter fun p => lt key p.f0
theorem split_toL (key : ByteArray) (t : T) (h : Srt t.toL) : (split key t).1.toL = lessL key t.toL ∧ (split key t).2.1.toL = moreL key t.toL ∧ (split key t).2.2.val = getL key t.toL ∧
    (match (split key t).2.2 with | nil => True | node _ k v _ => k = key ∧ (⟨key, v⟩ : Pr) ∈ t.toL) := by
  induction t with
  | nil => exact ⟨rfl, rfl, rfl, trivial⟩
  | node l k v r ihl ihr =>
    obtain ⟨hl, hr, h1, h2⟩ := srt_node h
    have fnil : ∀ (L : List Pr) (f : Pr → Bool), (∀ x ∈ L, f x = false) → L.filter f = [] := fun L f h => by
      rw [List.filter_eq_nil_iff]; intro x hx; simp [h x hx]
    have fself : ∀ (L : List Pr) (f : Pr → Bool), (∀ x ∈ L, f x = true) → L.filter f = L := fun L f h => by
      rw [List.filter_eq_self]; exact h
    simp only [split]
    split
    · rename_i c
      obtain ⟨i1, i2, i3, i4⟩ := ihl hl
      have hR : ∀ x ∈ r.toL, lt key x.f0 = true := fun x hx => lt_trans c (h2 x hx)
      refine ⟨?_, ?_, ?_, ?_⟩
      · dsimp only
        rw [i1]
        simp only [lessL, toL, List.filter_append, List.filter_cons, lt_asymm c]
        rw [fnil r.toL _ fun x hx => lt_asymm (hR x hx)]
        simp
      · dsimp only
        rw [join_toL, i2]
        simp only [moreL, toL, List.filter_append, List.filter_cons, c, if_true]
        rw [fself r.toL _ hR]
      · dsimp only
        rw [i3]
        simp only [toL]
        rw [getL_append_left _ _ _ fun x hx => ?_]
        rcases List.mem_cons.1 hx with rfl | hx
        · exact Ne.symm (lt_ne c)
        · exact Ne.symm (lt_ne (hR x hx))
      · dsimp only
        cases hc : (split key l).2.2 with
        | nil => trivial
        | node a b c' d => rw [hc] at i4; exact ⟨i4.1, List.mem_append_left _ i4.2⟩
    · rename_i c
      split
      · rename_i e
        subst e
        refine ⟨?_, ?_, ?_, ?_⟩
        · dsimp only
          simp only [lessL, toL, List.filter_append, List.filter_cons, lt_irrefl]
          rw [fself l.toL _ h1, fnil r.toL _ fun x hx => lt_asymm (h2 x hx)]
          simp
        · dsimp only
          simp only [moreL, toL, List.filter_append, List.filter_cons, lt_irrefl]
          rw [fself r.toL _ h2, fnil l.toL _ fun x hx => lt_asymm (h1 x hx)]
          simp
        · dsimp only
          rw [getL_mem (k := key) (v := v) h (by simp [toL])]
          rfl
        · exact ⟨rfl, by simp [toL]⟩
      · rename_i e
        have hg : lt k key = true := lt_tri (by simpa using c) e
        obtain ⟨i1, i2, i3, i4⟩ := ihr hr
        have hL : ∀ x ∈ l.toL, lt x.f0 key = true := fun x hx => lt_trans (h1 x hx) hg
        refine ⟨?_, ?_, ?_, ?_⟩
        · dsimp only
          rw [join_toL, i1]
          simp only [lessL, toL, List.filter_append, List.filter_cons, hg, if_true]
          rw [fself l.toL _ hL]
        · dsimp only
          rw [i2]
          simp only [moreL, toL, List.filter_append, List.filter_cons, lt_asymm hg]
          rw [fnil l.toL _ fun x hx => lt_asymm (hL x hx)]
          simp
        · dsimp only
          rw [i3]
          simp only [toL]
          rw [getL_append _ _ _ fun x hx => lt_ne (hL x hx), getL, if_neg (Ne.symm e)]
        · dsimp only
          cases hc : (split key r).2.2 with
          | nil => trivial
          | node a b c' d => rw [hc] at i4; exact ⟨i4.1, List.mem_append_right _ (List.mem_cons_of_mem _ i4.2)⟩
end T
end Go.Proofs.Ytehnkoglhbbfjaa
namespace Go.Proofs.Ytehnkoglhbbfjaa
open PAll
namespace T
theorem srt_cons {p : Pr} {r : List Pr} (h : Srt (p :: r)) : (∀ x ∈ r, lt p.f0 x.f0 = true) ∧ Srt r := List.pairwise_cons.1 h
end T
end Go.Proofs.Ytehnkoglhbbfjaa
namespace Go.Proofs.Ytehnkoglhbbfjaa
open PAll
namespace T

abbrev none_ : ByteArray × Bool := (⟨#[]⟩, false)
theorem getL_cases (k : ByteArray) (l : List Pr) : (∃ v, getL k l = (v, true) ∧ (⟨k, v⟩ : Pr) ∈ l) ∨ (getL k l = none_ ∧ ∀ x ∈ l, x.f0 ≠ k) := by
  induction l with
  | nil => exact .inr ⟨rfl, fun x hx => by cases hx⟩
  | cons p r ih =>
    by_cases c : p.f0 = k
    · exact .inl ⟨p.f1, by rw [getL, if_pos c], by rw [← c]; exact List.mem_cons_self ..⟩
    · rcases ih with ⟨v, h1, h2⟩ | ⟨h1, h2⟩
      · exact .inl ⟨v, by rw [getL, if_neg c, h1], List.mem_cons_of_mem _ h2⟩
      · refine .inr ⟨by rw [getL, if_neg c, h1], fun x hx => ?_⟩
        rcases List.mem_cons.1 hx with rfl | hx
        · exact c
        · exact h2 x hx
theorem getL_of_none {k : ByteArray} {l : List Pr} (h : ∀ x ∈ l, x.f0 ≠ k) : getL k l = none_ := getL_none h
theorem getL_mid (k : ByteArray) (L R : List Pr) (p : Pr) (h : Srt (L ++ p :: R)) : getL k (L ++ p :: R) = if k = p.f0 then (p.f1, true) else if lt k p.f0 = true then getL k L else getL k R := by
  obtain ⟨-, -, h1, h2⟩ := srt_mid.1 h
  by_cases c : k = p.f0
  · subst c
    rw [if_pos rfl, getL_append _ _ _ fun x hx => lt_ne (h1 x hx), getL, if_pos rfl]
  · rw [if_neg c]
    by_cases c2 : lt k p.f0 = true
    · rw [if_pos c2, getL_append_left _ _ _ fun x hx => ?_]
      rcases List.mem_cons.1 hx with rfl | hx
      · exact fun e => c e.symm
      · exact Ne.symm (lt_ne (lt_trans c2 (h2 x hx)))
    · rw [if_neg c2, getL_append _ _ _ fun x hx => ?_, getL, if_neg fun e => c e.symm]
      have := lt_tri (by simpa using c2) c
      exact lt_ne (lt_trans (h1 x hx) this)
theorem srt_ext : ∀ {a b : List Pr}, Srt a → Srt b → (∀ k, getL k a = getL k b) → a = b
  | [], [], _, _, _ => rfl
  | [], q :: s, _, _, h => by
    have := h q.f0
    rw [getL, getL, if_pos rfl] at this
    exact absurd (Prod.mk.inj this).2 (by decide)
  | p :: r, [], _, _, h => by
    have := h p.f0
    rw [getL, getL, if_pos rfl] at this
    exact absurd (Prod.mk.inj this).2 (by decide)
  | p :: r, q :: s, ha, hb, h => by
    obtain ⟨hp, hr⟩ := srt_cons ha
    obtain ⟨hq, hs⟩ := srt_cons hb
    have e : p.f0 = q.f0 := by
      by_cases c : p.f0 = q.f0
      · exact c
      · exfalso
        cases c2 : lt p.f0 q.f0 with
        | true =>
          have h1 := h p.f0
          rw [getL, if_pos rfl, getL_of_none (l := q :: s) fun x hx => ?_] at h1
          · exact absurd (Prod.mk.inj h1).2 (by decide)
          · rcases List.mem_cons.1 hx with rfl | hx
            · exact fun e => c e.symm
            · exact Ne.symm (lt_ne (lt_trans c2 (hq x hx)))
        | false =>
          have c3 := lt_tri c2 c
          have h1 := h q.f0
          rw [getL_of_none (l := p :: r) fun x hx => ?_, getL, if_pos rfl] at h1
          · exact absurd (Prod.mk.inj h1).2 (by decide)
          · rcases List.mem_cons.1 hx with rfl | hx
            · exact c
            · exact Ne.symm (lt_ne (lt_trans c3 (hp x hx)))
    have e2 : p.f1 = q.f1 := by
      have h1 := h p.f0
      rw [getL, if_pos rfl, getL, if_pos e.symm] at h1
      exact (Prod.mk.inj h1).1
    have hh : p = q := by cases p; cases q; simp only at e e2; rw [e, e2]
    subst hh
    rw [srt_ext hr hs fun k => ?_]
    by_cases c : p.f0 = k
    · subst c
      rw [getL_of_none fun x hx => Ne.symm (lt_ne (hp x hx)), getL_of_none fun x hx => Ne.symm (lt_ne (hq x hx))]
    · have := h k
      rwa [getL, if_neg c, getL, if_neg c] at this

theorem getL_filter (k : ByteArray) (f : ByteArray → Bool) (l : List Pr) : getL k (l.filter fun p => f p.f0) = if f k = true then getL k l else none_ := by
  induction l with
  | nil => simp [getL]
  | cons p r ih =>
    rw [List.filter_cons]
    by_cases c : p.f0 = k
    · subst c
      by_cases h : f p.f0 = true
      · rw [if_pos h, if_pos h, getL, getL]
        simp
      · rw [if_neg h, if_neg h, ih, if_neg h]
    · by_cases h : f p.f0 = true
      · rw [if_pos h, getL, getL, if_neg c, if_neg c, ih]
      · rw [if_neg h, ih, getL, if_neg c]
theorem getL_less (k key : ByteArray) (l : List Pr) : getL k (lessL key l) = if lt k key = true then getL k l else none_ := getL_filter k (fun x => lt x key) l
theorem getL_more (k key : ByteArray) (l : List Pr) : getL k (moreL key l) = if lt key k = true then getL k l else none_ := getL_filter k (fun x => lt key x) l
theorem getL_without (k q : ByteArray) (l : List Pr) : getL k (without q l) = if k = q then none_ else getL k l := by
  have := getL_filter k (fun x => !decide (x = q)) l
  unfold without
  rw [this]
  by_cases c : k = q <;> simp [c]
theorem getL_ins (k : ByteArray) (p : Pr) (l : List Pr) (h : ∀ x ∈ l, x.f0 ≠ p.f0) : getL k (ins p l) = if k = p.f0 then (p.f1, true) else getL k l := by
  induction l with
  | nil =>
    rw [ins, getL, getL]
    by_cases c : k = p.f0
    · rw [if_pos c.symm, if_pos c]
    · rw [if_neg fun e => c e.symm, if_neg c]
      rfl
  | cons x r ih =>
    rw [ins]
    split
    · rw [getL]
      by_cases c : k = p.f0
      · rw [if_pos c.symm, if_pos c]
      · rw [if_neg fun e => c e.symm, if_neg c]
    · rw [getL, ih fun y hy => h y (List.mem_cons_of_mem _ hy)]
      by_cases c : k = p.f0
      · rw [if_pos c, if_pos c, if_neg (by rw [c]; exact h x (List.mem_cons_self ..))]
      · rw [if_neg c, if_neg c, getL]
theorem getL_withP (k : ByteArray) (p : Pr) (l : List Pr) : getL k (withP p l) = if k = p.f0 then (p.f1, true) else getL k l := by
  unfold withP
  rw [getL_ins k p _ fun x hx => (mem_without.1 hx).2, getL_without]
  by_cases c : k = p.f0 <;> simp [c]

end T
end Go.Proofs.Ytehnkoglhbbfjaa
namespace Go.Proofs.Ytehnkoglhbbfjaa
open PAll
namespace T
theorem none_of {k : ByteArray} {l : List Pr} (h : ¬ (getL k l).2 = true) : getL k l = none_ := by
  rcases getL_cases k l with ⟨v, e, -⟩ | ⟨e, -⟩
  · rw [e] at h; exact absurd rfl h
  · exact e
/-- An event done to a tree, to a list. -/
def doEv (t : T) (e : Ev) : T := if e.f4 = true then tput t e.f1 e.f5 else tdrop t e.f1
def doL (x : List Pr) (e : Ev) : List Pr := if e.f4 = true then withP ⟨e.f1, e.f5⟩ x else without e.f1 x
theorem doEv_toL {t : T} (e : Ev) (h : Srt t.toL) : (doEv t e).toL = doL t.toL e ∧ Srt (doEv t e).toL := by
  unfold doEv doL
  split
  · rw [tput_toL _ _ _ h]; exact ⟨rfl, srt_withP h⟩
  · rw [tdrop_toL _ _ h]; exact ⟨rfl, srt_without h _⟩
theorem doEvs_toL (es : List Ev) : ∀ {t : T}, Srt t.toL → (es.foldl doEv t).toL = es.foldl doL t.toL ∧ Srt (es.foldl doEv t).toL := by
  induction es with
  | nil => intro t h; exact ⟨rfl, h⟩
  | cons e r ih =>
    intro t h
    obtain ⟨h1, h2⟩ := doEv_toL e h
    obtain ⟨h3, h4⟩ := ih h2
    exact ⟨by show (r.foldl doEv (doEv t e)).toL = r.foldl doL (doL t.toL e); rw [h3, h1], h4⟩
theorem doEv_size (t : T) (e : Ev) : (doEv t e).size ≤ t.size + 1 := by
  unfold doEv
  split
  · exact tput_size t _ _
  · have := tdrop_size t e.f1; omega
theorem doEvs_size (es : List Ev) : ∀ t : T, (es.foldl doEv t).size ≤ t.size + es.length := by
  induction es with
  | nil => intro t; exact Nat.le_refl _
  | cons e r ih =>
    intro t
    have h1 := ih (doEv t e)
    have h2 := doEv_size t e
    show (r.foldl doEv (doEv t e)).size ≤ _
    simp only [List.length_cons]
    omega
end T
end Go.Proofs.Ytehnkoglhbbfjaa
