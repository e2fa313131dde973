/-
  More of the tree's functions as plain Lean functions: scan.
-/
import Derived.Test.YtehnkoglhbbfjaaM0
namespace Go.Proofs.Ytehnkoglhbbfjaa
namespace T
def inside (tt k : ByteArray) : Bool := tt.toList.isEmpty || Op.bytesLess k.toList tt.toList

def scan (fr tt : ByteArray) (most : Int) : T → List Pr → List Pr
  | nil, out => out
  | node l k v r, out =>
    if most ≤ (out.length : Int) then out else
    let a := if lt fr k then scan fr tt most l out else out
    let b := if lt k fr = false ∧ inside tt k = true ∧ (a.length : Int) < most then a ++ [⟨k, v⟩] else a
    if inside tt k then scan fr tt most r b else b

theorem scan_length (fr tt : ByteArray) (most : Int) (t : T) : ∀ out, (scan fr tt most t out).length ≤ out.length + t.size := by
  induction t with
  | nil => intro out; simp [scan, size]
  | node l k v r ihl ihr =>
    intro out
    simp only [scan, size]
    split
    · omega
    · have h1 := ihl out
      generalize hA : (if lt fr k then scan fr tt most l out else out) = A
      have hA' : A.length ≤ out.length + l.size := by rw [← hA]; split <;> omega
      generalize hB : (if lt k fr = false ∧ inside tt k = true ∧ (A.length : Int) < most then A ++ [⟨k, v⟩] else A) = B
      have hB' : B.length ≤ A.length + 1 := by rw [← hB]; split <;> simp
      have h2 := ihr B
      split <;> omega
/-- The second half of a scan: the node's own pair, and what is more. -/
def scanTail (fr tt : ByteArray) (most : Int) (k v : ByteArray) (r : T) (a : List Pr) : List Pr :=
  let b := if lt k fr = false ∧ inside tt k = true ∧ (a.length : Int) < most then a ++ [⟨k, v⟩] else a
  if inside tt k then scan fr tt most r b else b

theorem rank_le (key : ByteArray) (t : T) : rank key t ≤ t.size := by
  induction t with
  | nil => exact Nat.le_refl _
  | node l k v r ihl ihr => simp only [rank, size]; split <;> omega

theorem inside_empty (k : ByteArray) : inside ⟨#[]⟩ k = true := by
  unfold inside; rw [ByteArray.toList_eq]; rfl
theorem lt_empty (k : ByteArray) : lt k ⟨#[]⟩ = false := by
  unfold lt; rw [ByteArray.toList_eq ⟨#[]⟩]; cases k.toList <;> rfl
theorem empty_lt {k : ByteArray} (h : lt ⟨#[]⟩ k = false) : k = ⟨#[]⟩ := by
  refine toList_inj ?_
  unfold lt at h
  rw [ByteArray.toList_eq ⟨#[]⟩] at h ⊢
  cases e : k.toList with
  | nil => rfl
  | cons a x => rw [e] at h; cases h

def all (t : T) : List Pr := scan ⟨#[]⟩ ⟨#[]⟩ t.size t []
end T
end Go.Proofs.Ytehnkoglhbbfjaa
