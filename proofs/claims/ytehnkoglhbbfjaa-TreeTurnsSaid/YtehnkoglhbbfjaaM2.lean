/-
  More of the tree's functions: union, minus, both (relations: what they make hangs on which nodes two trees share), join, diff.
-/
import Derived.Test.YtehnkoglhbbfjaaM1
namespace Go.Proofs.Ytehnkoglhbbfjaa
namespace T

/-- union(a, b) may make u. -/
def UnionR : T → T → T → Prop
  | a, nil, u => u = a
  | a, node bl bk bv br, u => (a = nil ∧ u = node bl bk bv br) ∨ (a = node bl bk bv br ∧ u = a) ∨
      (a ≠ nil ∧ ∃ u1 u2, UnionR (split bk a).1 bl u1 ∧ UnionR (split bk a).2.1 br u2 ∧ u = join u1 bk bv u2)

def MinusR : T → T → T → Prop
  | a, nil, u => u = a
  | a, node bl bk bv br, u => (a = nil ∧ u = nil) ∨ (a = node bl bk bv br ∧ u = nil) ∨
      (a ≠ nil ∧ ∃ u1 u2, MinusR (split bk a).1 bl u1 ∧ MinusR (split bk a).2.1 br u2 ∧ u = glue u1 u2)

def BothR : T → T → T → Prop
  | _, nil, u => u = nil
  | a, node bl bk bv br, u => (a = nil ∧ u = nil) ∨ (a = node bl bk bv br ∧ u = a) ∨
      (a ≠ nil ∧ ∃ u1 u2, BothR (split bk a).1 bl u1 ∧ BothR (split bk a).2.1 br u2 ∧
        match (split bk a).2.2 with
        | nil => u = glue u1 u2
        | node _ k v _ => u = join u1 k v u2)

theorem UnionR_size (b : T) : ∀ a u, UnionR a b u → u.size ≤ a.size + b.size := by
  induction b with
  | nil => intro a u h; rw [show u = a from h]; simp [size]
  | node bl bk bv br ihl ihr =>
    intro a u h
    have hs := split_size bk a
    rcases h with ⟨rfl, rfl⟩ | ⟨rfl, rfl⟩ | ⟨-, u1, u2, h1, h2, rfl⟩
    · simp only [size]; omega
    · simp only [size]; omega
    · have := ihl _ _ h1; have := ihr _ _ h2; rw [join_size]; simp only [size]; omega
theorem MinusR_size (b : T) : ∀ a u, MinusR a b u → u.size ≤ a.size := by
  induction b with
  | nil => intro a u h; rw [show u = a from h]; exact Nat.le_refl _
  | node bl bk bv br ihl ihr =>
    intro a u h
    have hs := split_size bk a
    rcases h with ⟨rfl, rfl⟩ | ⟨rfl, rfl⟩ | ⟨-, u1, u2, h1, h2, rfl⟩
    · exact Nat.le_refl _
    · simp only [size]; omega
    · have := ihl _ _ h1; have := ihr _ _ h2; rw [glue_size]; omega
def one : T → Nat
  | nil => 0
  | node _ _ _ _ => 1
theorem split_size3 (key : ByteArray) (t : T) : (split key t).1.size + (split key t).2.1.size + (split key t).2.2.one ≤ t.size := by
  induction t with
  | nil => simp [split, size, one]
  | node l k v r ihl ihr =>
    unfold split
    split
    · simp only [join_size, size]; omega
    · split
      · simp only [size, one]; omega
      · simp only [join_size, size]; omega
theorem BothR_size (b : T) : ∀ a u, BothR a b u → u.size ≤ a.size := by
  induction b with
  | nil => intro a u h; rw [show u = nil from h]; exact Nat.zero_le _
  | node bl bk bv br ihl ihr =>
    intro a u h
    have hs := split_size3 bk a
    rcases h with ⟨rfl, rfl⟩ | ⟨rfl, rfl⟩ | ⟨-, u1, u2, h1, h2, h3⟩
    · exact Nat.le_refl _
    · exact Nat.le_refl _
    · have := ihl _ _ h1
      have := ihr _ _ h2
      cases hc : (split bk a).2.2 with
      | nil => rw [hc] at h3; rw [h3, glue_size]; omega
      | node x y z t =>
        rw [hc] at h3
        rw [hc] at hs; simp only [one] at hs
        rw [h3, join_size]; omega

/-- What a node has, and whether it is one. -/
def val : T → ByteArray × Bool
  | nil => (⟨#[]⟩, false)
  | node _ _ v _ => (v, true)

/-- Join of two trees: nothing, where a last key is not less than a first one. -/
def tjoin (a b : T) : Option T :=
  match a, b with
  | node al ak av ar, node bl bk bv br =>
    if lt (tat (node al ak av ar) (((node al ak av ar).size : Int) - 1)).1.1 (tat (node bl bk bv br) 0).1.1 then some (glue (node al ak av ar) (node bl bk bv br)) else none
  | a, b => some (glue a b)

abbrev Ev := PAll.S51
/-- What leads from nothing to a tree. -/
def diffNil : T → List Ev
  | nil => []
  | node l k v r => diffNil l ++ ⟨0, k, false, ⟨#[]⟩, true, v⟩ :: diffNil r
/-- What leads from a pair to what the other tree has at its key. -/
def diffAt (ak av : ByteArray) : T → List Ev
  | nil => [⟨0, ak, true, av, false, ⟨#[]⟩⟩]
  | node _ _ v _ => if v = av then [] else [⟨0, ak, true, av, true, v⟩]
/-- What leads from one tree to another. -/
def diff : T → T → List Ev
  | nil, b => diffNil b
  | node al ak av ar, b => diff al (split ak b).1 ++ diffAt ak av (split ak b).2.2 ++ diff ar (split ak b).2.1
theorem diffAt_length (ak av : ByteArray) (t : T) : (diffAt ak av t).length ≤ 1 := by
  cases t with
  | nil => exact Nat.le_refl _
  | node _ _ v _ =>
    simp only [diffAt]
    split <;> simp

theorem diffNil_length (t : T) : (diffNil t).length = t.size := by
  induction t with
  | nil => rfl
  | node l k v r ihl ihr => simp only [diffNil, size, List.length_append, List.length_cons, ihl, ihr]; omega
theorem split_self (k v : ByteArray) (l r : T) : split k (node l k v r) = (l, r, node l k v r) := by
  rw [split, if_neg (by rw [lt_irrefl]; decide), if_pos rfl]
theorem diff_self (t : T) : diff t t = [] := by
  induction t with
  | nil => rfl
  | node l k v r ihl ihr => rw [diff, split_self]; simp [ihl, ihr, diffAt]
theorem diff_length (a : T) : ∀ b, (diff a b).length ≤ a.size + b.size := by
  induction a with
  | nil => intro b; rw [diff, diffNil_length]; simp [size]
  | node al ak av ar ihl ihr =>
    intro b
    have hs := split_size ak b
    have h1 := ihl (split ak b).1
    have h2 := ihr (split ak b).2.1
    have h3 := diffAt_length ak av (split ak b).2.2
    simp only [diff, size, List.length_append]
    omega
end T
end Go.Proofs.Ytehnkoglhbbfjaa
