/-
  Trees of lists; what a script makes.
-/
import Derived.Test.YtehnkoglhbbfjaaM2
namespace Go.Proofs.Ytehnkoglhbbfjaa
open Go.Proofs.YtehnkoglhbbfjaaW.PrintWords
namespace T
/-- A tree of pairs, one put behind the other. -/
def ofL (t : T) : List Pr → T
  | [] => t
  | p :: l => ofL (put p.f0 p.f1 t) l
theorem ofL_append (t : T) (l m : List Pr) : ofL t (l ++ m) = ofL (ofL t l) m := by
  induction l generalizing t with
  | nil => rfl
  | cons p l ih => exact ih _
theorem ofL_size (t : T) (l : List Pr) : (ofL t l).size ≤ t.size + l.length := by
  induction l generalizing t with
  | nil => exact Nat.le_refl _
  | cons p l ih => have := ih (put p.f0 p.f1 t); have := put_size p.f0 p.f1 t; simp only [ofL, List.length_cons]; omega

/-- Something done. -/
abbrev Do := PAll.S27
/-- Is it a Put? -/
def isPut (k : Do) : Bool := decide (bits BinOp.and IntKind.i64 k.f0 7 < 6)
def step (t : T) (k : Do) : T := if isPut k then tput t k.f1 k.f2 else tdrop t k.f1
def play (t : T) : List Do → T
  | [] => t
  | k :: l => play (step t k) l
theorem play_append (t : T) (l m : List Do) : play t (l ++ m) = play (play t l) m := by
  induction l generalizing t with
  | nil => rfl
  | cons p l ih => exact ih _
theorem tput_size (t : T) (k v : ByteArray) : (tput t k v).size ≤ t.size + 1 := by
  unfold tput
  split
  · exact put_size _ _ _
  · split
    · omega
    · exact put_size _ _ _
theorem tdrop_size (t : T) (k : ByteArray) : (tdrop t k).size ≤ t.size := by
  unfold tdrop
  split
  · exact Nat.le_refl _
  · exact drop_size _ _
theorem step_size (t : T) (k : Do) : (step t k).size ≤ t.size + 1 := by
  unfold step
  split
  · exact tput_size _ _ _
  · have := tdrop_size t k.f1; omega
theorem play_size (t : T) (l : List Do) : (play t l).size ≤ t.size + l.length := by
  induction l generalizing t with
  | nil => exact Nat.le_refl _
  | cons p l ih => have := ih (step t p); have := step_size t p; simp only [play, List.length_cons]; omega
end T
theorem take_snoc {α : Type} (l : List α) (d : α) (k : Nat) (h : k < l.length) : l.take (k + 1) = l.take k ++ [l.getD k d] := by
  rw [List.take_succ_eq_append_getElem h]
  simp [List.getD, h]
end Go.Proofs.Ytehnkoglhbbfjaa
