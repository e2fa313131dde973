/-
  More of the tree's functions as plain Lean functions: scan.
-/
import Derived.Test.YtehnkoglhbbfjaaM0
set_option linter.unusedVariables false
set_option linter.unusedSimpArgs false
namespace Go.Proofs.Ytehnkoglhbbfjaa
namespace T
def inside (tt k : ByteArray) : Bool := tt.toList.isEmpty || Op.bytesLess k.toList tt.toList

def scan (fr tt : ByteArray) (most : Int) : T → List Pr → List Pr
  | nil, out => out
  | node l k v r, out =>
    if most ≤ (out.length : Int) then out else
    let a := if lt fr k then scan fr tt most l out else out
    let b := if lt k fr = false ∧ inside tt k = true ∧ (a.length : Int) < most then a ++ [⟨k, v⟩] else a
    if inside tt k then scan fr tt most r b else b

theorem scan_length (fr tt : ByteArray) (most : Int) (t : T) : ∀ out, (scan fr tt most t out).length ≤ out.length + t.size := by
  induction t with
  | nil => intro out; simp [scan, size]
  | node l k v r ihl ihr =>
    intro out
    simp only [scan, size]
    split
    · omega
    · have h1 := ihl out
      generalize hA : (if lt fr k then scan fr tt most l out else out) = A
      have hA' : A.length ≤ out.length + l.size := by rw [← hA]; split <;> omega
      generalize hB : (if lt k fr = false ∧ inside tt k = true ∧ (A.length : Int) < most then A ++ [⟨k, v⟩] else A) = B
      have hB' : B.length ≤ A.length + 1 := by rw [← hB]; split <;> simp
      have h2 := ihr B
      split <;> omega
/-- The second half of a scan: the node's own pair, and what is more. -/
def scanTail (fr tt : ByteArray) (most : Int) (k v : ByteArray) (r : T) (a : List Pr) : List Pr :=
  let b := if lt k fr = false ∧ inside tt k = true ∧ (a.length : Int) < most then a ++ [⟨k, v⟩] else a
  if inside tt k then scan fr tt most r b else b

theorem rank_le (key : ByteArray) (t : T) : rank key t ≤ t.size := by
  induction t with
  | nil => exact Nat.le_refl _
  | node l k v r ihl ihr => simp only [rank, size]; split <;> omega

theorem inside_empty (k : ByteArray) : inside ⟨#[]⟩ k = true := by
  unfold inside; rw [ByteArray.toList_eq]; rfl
theorem lt_empty (k : ByteArray) : lt k ⟨#[]⟩ = false := by
  unfold lt; rw [ByteArray.toList_eq ⟨#[]⟩]; cases k.toList <;> rfl
theorem empty_lt {k : ByteArray} (h : lt ⟨#[]⟩ k = false) : k = ⟨#[]⟩ := by
  refine toList_inj ?_
  unfold lt at h
  rw [ByteArray.toList_eq ⟨#[]⟩] at h ⊢
  cases e : k.toList with
  | nil => rfl
  | cons a x => rw [e] at h; cases h

def all (t : T) : List Pr := scan ⟨#[]⟩ ⟨#[]⟩ t.size t []
end T
end Go.Proofs.Ytehnkoglhbbfjaa

namespace Go.Proofs.Ytehnkoglhbbfjaa
namespace T

/-- union(a, b) may make u. -/
def UnionR : T → T → T → Prop
  | a, nil, u => u = a
  | a, node bl bk bv br, u => (a = nil ∧ u = node bl bk bv br) ∨ (a = node bl bk bv br ∧ u = a) ∨
      (a ≠ nil ∧ ∃ u1 u2, UnionR (split bk a).1 bl u1 ∧ UnionR (split bk a).2.1 br u2 ∧ u = join u1 bk bv u2)

def MinusR : T → T → T → Prop
  | a, nil, u => u = a
  | a, node bl bk bv br, u => (a = nil ∧ u = nil) ∨ (a = node bl bk bv br ∧ u = nil) ∨
      (a ≠ nil ∧ ∃ u1 u2, MinusR (split bk a).1 bl u1 ∧ MinusR (split bk a).2.1 br u2 ∧ u = glue u1 u2)

def BothR : T → T → T → Prop
  | _, nil, u => u = nil
  | a, node bl bk bv br, u => (a = nil ∧ u = nil) ∨ (a = node bl bk bv br ∧ u = a) ∨
      (a ≠ nil ∧ ∃ u1 u2, BothR (split bk a).1 bl u1 ∧ BothR (split bk a).2.1 br u2 ∧
        match (split bk a).2.2 with
        | nil => u = glue u1 u2
        | node _ k v _ => u = join u1 k v u2)

theorem UnionR_size (b : T) : ∀ a u, UnionR a b u → u.size ≤ a.size + b.size := by
  induction b with
  | nil => intro a u h; rw [show u = a from h]; simp [size]
  | node bl bk bv br ihl ihr =>
    intro a u h
    have hs := split_size bk a
    rcases h with ⟨rfl, rfl⟩ | ⟨rfl, rfl⟩ | ⟨-, u1, u2, h1, h2, rfl⟩
    · simp only [size]; omega
    · simp only [size]; omega
    · have := ihl _ _ h1; have := ihr _ _ h2; rw [join_size]; simp only [size]; omega
theorem MinusR_size (b : T) : ∀ a u, MinusR a b u → u.size ≤ a.size := by
  induction b with
  | nil => intro a u h; rw [show u = a from h]; exact Nat.le_refl _
  | node bl bk bv br ihl ihr =>
    intro a u h
    have hs := split_size bk a
    rcases h with ⟨rfl, rfl⟩ | ⟨rfl, rfl⟩ | ⟨-, u1, u2, h1, h2, rfl⟩
    · exact Nat.le_refl _
    · simp only [size]; omega
    · have := ihl _ _ h1; have := ihr _ _ h2; rw [glue_size]; omega
def one : T → Nat
  | nil => 0
  | node _ _ _ _ => 1
theorem split_size3 (key : ByteArray) (t : T) : (split key t).1.size + (split key t).2.1.size + (split key t).2.2.one ≤ t.size := by
  induction t with
  | nil => simp [split, size, one]
  | node l k v r ihl ihr =>
    unfold split
    split
    · simp only [join_size, size]; omega
    · split
      · simp only [size, one]; omega
      · simp only [join_size, size]; omega
theorem BothR_size (b : T) : ∀ a u, BothR a b u → u.size ≤ a.size := by
  induction b with
  | nil => intro a u h; rw [show u = nil from h]; exact Nat.zero_le _
  | node bl bk bv br ihl ihr =>
    intro a u h
    have hs := split_size3 bk a
    rcases h with ⟨rfl, rfl⟩ | ⟨rfl, rfl⟩ | ⟨-, u1, u2, h1, h2, h3⟩
    · exact Nat.le_refl _
    · exact Nat.le_refl _
    · have := ihl _ _ h1
      have := ihr _ _ h2
      cases hc : (split bk a).2.2 with
      | nil => rw [hc] at h3; rw [h3, glue_size]; omega
      | node x y z t =>
        rw [hc] at h3
        rw [hc] at hs; simp only [one] at hs
        rw [h3, join_size]; omega

/-- What a node has, and whether it is one. -/
def val : T → ByteArray × Bool
  | nil => (⟨#[]⟩, false)
  | node _ _ v _ => (v, true)

/-- Join of two trees: nothing, where a last key is not less than a first one. -/
def tjoin (a b : T) : Option T :=
  match a, b with
  | node al ak av ar, node bl bk bv br =>
    if lt (tat (node al ak av ar) (((node al ak av ar).size : Int) - 1)).1.1 (tat (node bl bk bv br) 0).1.1 then some (glue (node al ak av ar) (node bl bk bv br)) else none
  | a, b => some (glue a b)

abbrev Ev := PAll.S51
/-- What leads from nothing to a tree. -/
def diffNil : T → List Ev
  | nil => []
  | node l k v r => diffNil l ++ ⟨0, k, false, ⟨#[]⟩, true, v⟩ :: diffNil r
/-- What leads from a pair to what the other tree has at its key. -/
def diffAt (ak av : ByteArray) : T → List Ev
  | nil => [⟨0, ak, true, av, false, ⟨#[]⟩⟩]
  | node _ _ v _ => if v = av then [] else [⟨0, ak, true, av, true, v⟩]
/-- What leads from one tree to another. -/
def diff : T → T → List Ev
  | nil, b => diffNil b
  | node al ak av ar, b => diff al (split ak b).1 ++ diffAt ak av (split ak b).2.2 ++ diff ar (split ak b).2.1
theorem diffAt_length (ak av : ByteArray) (t : T) : (diffAt ak av t).length ≤ 1 := by
  cases t with
  | nil => exact Nat.le_refl _
  | node _ _ v _ =>
    simp only [diffAt]
    split <;> simp

theorem diffNil_length (t : T) : (diffNil t).length = t.size := by
  induction t with
  | nil => rfl
  | node l k v r ihl ihr => simp only [diffNil, size, List.length_append, List.length_cons, ihl, ihr]; omega
theorem split_self (k v : ByteArray) (l r : T) : split k (node l k v r) = (l, r, node l k v r) := by
  rw [split, if_neg (by rw [lt_irrefl]; decide), if_pos rfl]
theorem diff_self (t : T) : diff t t = [] := by
  induction t with
  | nil => rfl
  | node l k v r ihl ihr => rw [diff, split_self]; simp [ihl, ihr, diffAt]
theorem diff_length (a : T) : ∀ b, (diff a b).length ≤ a.size + b.size := by
  induction a with
  | nil => intro b; rw [diff, diffNil_length]; simp [size]
  | node al ak av ar ihl ihr =>
    intro b
    have hs := split_size ak b
    have h1 := ihl (split ak b).1
    have h2 := ihr (split ak b).2.1
    have h3 := diffAt_length ak av (split ak b).2.2
    simp only [diff, size, List.length_append]
    omega
end T
end Go.Proofs.Ytehnkoglhbbfjaa

namespace Go.Proofs.Ytehnkoglhbbfjaa
open Go.Proofs.YtehnkoglhbbfjaaW.PrintWords
namespace T
/-- A tree of pairs, one put behind the other. -/
def ofL (t : T) : List Pr → T
  | [] => t
  | p :: l => ofL (put p.f0 p.f1 t) l
theorem ofL_append (t : T) (l m : List Pr) : ofL t (l ++ m) = ofL (ofL t l) m := by
  induction l generalizing t with
  | nil => rfl
  | cons p l ih => exact ih _
theorem ofL_size (t : T) (l : List Pr) : (ofL t l).size ≤ t.size + l.length := by
  induction l generalizing t with
  | nil => exact Nat.le_refl _
  | cons p l ih => have := ih (put p.f0 p.f1 t); have := put_size p.f0 p.f1 t; simp only [ofL, List.length_cons]; omega

/-- Something done. -/
abbrev Do := PAll.S27
/-- Is it a Put? -/
def isPut (k : Do) : Bool := decide (bits BinOp.and IntKind.i64 k.f0 7 < 6)
def step (t : T) (k : Do) : T := if isPut k then tput t k.f1 k.f2 else tdrop t k.f1
def play (t : T) : List Do → T
  | [] => t
  | k :: l => play (step t k) l
theorem play_append (t : T) (l m : List Do) : play t (l ++ m) = play (play t l) m := by
  induction l generalizing t with
  | nil => rfl
  | cons p l ih => exact ih _
theorem tput_size (t : T) (k v : ByteArray) : (tput t k v).size ≤ t.size + 1 := by
  unfold tput
  split
  · exact put_size _ _ _
  · split
    · omega
    · exact put_size _ _ _
theorem tdrop_size (t : T) (k : ByteArray) : (tdrop t k).size ≤ t.size := by
  unfold tdrop
  split
  · exact Nat.le_refl _
  · exact drop_size _ _
theorem step_size (t : T) (k : Do) : (step t k).size ≤ t.size + 1 := by
  unfold step
  split
  · exact tput_size _ _ _
  · have := tdrop_size t k.f1; omega
theorem play_size (t : T) (l : List Do) : (play t l).size ≤ t.size + l.length := by
  induction l generalizing t with
  | nil => exact Nat.le_refl _
  | cons p l ih => have := ih (step t p); have := step_size t p; simp only [play, List.length_cons]; omega
end T
theorem take_snoc {α : Type} (l : List α) (d : α) (k : Nat) (h : k < l.length) : l.take (k + 1) = l.take k ++ [l.getD k d] := by
  rw [List.take_succ_eq_append_getElem h]
  simp [List.getD, h]
end Go.Proofs.Ytehnkoglhbbfjaa
