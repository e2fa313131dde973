/-
  The tree's functions as plain Lean functions, and what they do to the list of pairs. No program, no memory.
-/
import Derived.Test.YtehnkoglhbbfjaaPAllx0
set_option linter.unusedVariables false
set_option linter.unusedSimpArgs false
namespace Go.Proofs.Ytehnkoglhbbfjaa

/-- Strings byte by byte. -/
def lt (a b : ByteArray) : Bool := Op.bytesLess a.toList b.toList

theorem toList_inj {a b : ByteArray} (h : a.toList = b.toList) : a = b := by
  rw [ByteArray.toList_eq, ByteArray.toList_eq] at h
  cases a; cases b; simp only [ByteArray.mk.injEq]; exact Array.toList_inj.1 h

theorem bl_irrefl : ∀ x : List UInt8, Op.bytesLess x x = false
  | [] => rfl
  | a :: x => by simp [Op.bytesLess, bl_irrefl x]

theorem bl_trans : ∀ x y z : List UInt8, Op.bytesLess x y = true → Op.bytesLess y z = true → Op.bytesLess x z = true
  | _, [], _, h, _ => by simp [Op.bytesLess] at h
  | _, _ :: _, [], _, h => by simp [Op.bytesLess] at h
  | [], _ :: _, _ :: _, _, _ => rfl
  | a :: x, b :: y, c :: z, h, k => by
    simp only [Op.bytesLess, Bool.or_eq_true, decide_eq_true_eq, Bool.and_eq_true, beq_iff_eq] at h k ⊢
    rcases h with h | ⟨rfl, h⟩
    · rcases k with k | ⟨rfl, k⟩
      · exact Or.inl (UInt8.lt_trans h k)
      · exact Or.inl h
    · rcases k with k | ⟨rfl, k⟩
      · exact Or.inl k
      · exact Or.inr ⟨rfl, bl_trans x y z h k⟩

theorem bl_tri : ∀ x y : List UInt8, Op.bytesLess x y = false → x ≠ y → Op.bytesLess y x = true
  | [], [], _, h => absurd rfl h
  | _ :: _, [], _, _ => rfl
  | [], _ :: _, h, _ => by simp [Op.bytesLess] at h
  | a :: x, b :: y, h, k => by
    simp only [Op.bytesLess, Bool.or_eq_true, decide_eq_true_eq, Bool.and_eq_true, beq_iff_eq, Bool.or_eq_false_iff, decide_eq_false_iff_not, Bool.and_eq_false_imp] at h ⊢
    by_cases e : a = b
    · subst e
      exact Or.inr ⟨rfl, bl_tri x y (h.2 rfl) (fun e => k (by rw [e]))⟩
    · rcases UInt8.lt_or_lt_of_ne e with e | e
      · exact absurd e h.1
      · exact Or.inl e

theorem lt_irrefl (a : ByteArray) : lt a a = false := bl_irrefl _
theorem lt_trans {a b c : ByteArray} (h : lt a b = true) (k : lt b c = true) : lt a c = true := bl_trans _ _ _ h k
theorem lt_tri {a b : ByteArray} (h : lt a b = false) (k : a ≠ b) : lt b a = true := bl_tri _ _ h fun e => k (toList_inj e)
theorem lt_ne {a b : ByteArray} (h : lt a b = true) : a ≠ b := by rintro rfl; rw [lt_irrefl] at h; cases h
theorem lt_asymm {a b : ByteArray} (h : lt a b = true) : lt b a = false := by
  cases e : lt b a with
  | false => rfl
  | true => have := lt_trans h e; rw [lt_irrefl] at this; cases this

/-- A pair of the program's. -/
abbrev Pr := PAll.S29

/-- The trees that lie in memory: a node's less, key, value, more. -/
inductive T where
  | nil
  | node (l : T) (k v : ByteArray) (r : T)

namespace T
def depth : T → Nat
  | nil => 0
  | node l _ _ r => 1 + max l.depth r.depth
def size : T → Nat
  | nil => 0
  | node l _ _ r => 1 + l.size + r.size
def toL : T → List Pr
  | nil => []
  | node l k v r => l.toL ++ ⟨k, v⟩ :: r.toL

def left : T → T
  | node l k v (node a k' v' b) => node (node l k v a) k' v' b
  | t => t
def right : T → T
  | node (node a k' v' b) k v r => node a k' v' (node b k v r)
  | t => t

def downLess : T → ByteArray → ByteArray → T → T
  | nil, k, v, m => node nil k v m
  | node ll lk lv lm, k, v, m =>
    if lm.depth ≤ m.depth + 1 then
      if (node lm k v m).depth ≤ ll.depth + 1 then node ll lk lv (node lm k v m)
      else (node ll lk lv (node lm k v m).right).left
    else
      if (downLess lm k v m).depth ≤ ll.depth + 1 then node ll lk lv (downLess lm k v m)
      else (node ll lk lv (downLess lm k v m)).left

def downMore (l : T) (k v : ByteArray) : T → T
  | nil => node l k v nil
  | node ml mk mv mm =>
    if ml.depth ≤ l.depth + 1 then
      if (node l k v ml).depth ≤ mm.depth + 1 then node (node l k v ml) mk mv mm
      else (node (node l k v ml).left mk mv mm).right
    else
      if (downMore l k v ml).depth ≤ mm.depth + 1 then node (downMore l k v ml) mk mv mm
      else (node (downMore l k v ml) mk mv mm).right

def join (l : T) (k v : ByteArray) (m : T) : T :=
  if m.depth + 1 < l.depth then downLess l k v m
  else if l.depth + 1 < m.depth then downMore l k v m
  else node l k v m

/-- A tree without its last pair, and that; of a tree without pairs: nothing of use. -/
def last : T → T × ByteArray × ByteArray
  | nil => (nil, ByteArray.empty, ByteArray.empty)
  | node l k v nil => (l, k, v)
  | node l k v r => (join l k v r.last.1, r.last.2)

def glue (l m : T) : T :=
  match l with
  | nil => m
  | l => join l.last.1 l.last.2.1 l.last.2.2 m

def split (key : ByteArray) : T → T × T × T
  | nil => (nil, nil, nil)
  | node l k v r =>
    if lt key k then ((split key l).1, join (split key l).2.1 k v r, (split key l).2.2)
    else if key = k then (l, r, node l k v r)
    else (join l k v (split key r).1, (split key r).2.1, (split key r).2.2)

def find (key : ByteArray) : T → T
  | nil => nil
  | node l k v r => if k = key then node l k v r else if lt key k then find key l else find key r

def put (k v : ByteArray) : T → T
  | nil => node nil k v nil
  | node l k' v' r => if lt k k' then join (put k v l) k' v' r else if k = k' then node l k v r else join l k' v' (put k v r)

def drop (k : ByteArray) : T → T
  | nil => nil
  | node l k' v' r => if lt k k' then join (drop k l) k' v' r else if k = k' then glue l r else join l k' v' (drop k r)

/-- Get, Put, Drop of a tree as an object. -/
def get (t : T) (key : ByteArray) : ByteArray × Bool :=
  match find key t with
  | nil => (⟨#[]⟩, false)
  | node _ _ v _ => (v, true)
def tput (t : T) (k v : ByteArray) : T :=
  match find k t with
  | nil => put k v t
  | node _ _ v' _ => if v' = v then t else put k v t
def tdrop (t : T) (k : ByteArray) : T :=
  match find k t with
  | nil => t
  | node _ _ _ _ => drop k t
def rank (key : ByteArray) : T → Nat
  | nil => 0
  | node l k _ r => if lt key k ∨ key = k then rank key l else l.size + 1 + rank key r
def at_ (i : Int) : T → ByteArray × ByteArray
  | nil => (⟨#[]⟩, ⟨#[]⟩)
  | node l k v r => if i = l.size then (k, v) else if i < l.size then at_ i l else at_ (i - l.size - 1) r
def tat (t : T) (i : Int) : (ByteArray × ByteArray) × Bool :=
  if i < 0 ∨ (t.size : Int) ≤ i then ((⟨#[]⟩, ⟨#[]⟩), false) else (at_ i t, true)
def floor (t : T) (key : ByteArray) : (ByteArray × ByteArray) × Bool :=
  match find key t with
  | nil => tat t ((rank key t : Nat) - 1)
  | node _ k v _ => ((k, v), true)
def ceil (t : T) (key : ByteArray) : (ByteArray × ByteArray) × Bool := tat t (rank key t : Nat)

/-! ### sizes and depths -/
theorem depth_le (t : T) : t.depth ≤ t.size := by
  induction t with
  | nil => exact Nat.le_refl _
  | node l k v r ihl ihr => simp only [depth, size]; omega

theorem toL_length (t : T) : t.toL.length = t.size := by
  induction t with
  | nil => rfl
  | node l k v r ihl ihr => simp only [toL, size, List.length_append, List.length_cons, ihl, ihr]; omega

/-! ### the pairs -/
theorem left_toL (t : T) : t.left.toL = t.toL := by
  unfold left; split <;> simp [toL]
theorem right_toL (t : T) : t.right.toL = t.toL := by
  unfold right; split <;> simp [toL]
theorem downLess_toL (l : T) (k v : ByteArray) (m : T) : (downLess l k v m).toL = l.toL ++ ⟨k, v⟩ :: m.toL := by
  induction l with
  | nil => rfl
  | node ll lk lv lm _ ih =>
    unfold downLess
    split
    · split
      · simp [toL]
      · simp [left_toL, right_toL, toL]
    · split
      · simp [toL, ih]
      · simp [left_toL, toL, ih]
theorem downMore_toL (l : T) (k v : ByteArray) (m : T) : (downMore l k v m).toL = l.toL ++ ⟨k, v⟩ :: m.toL := by
  induction m with
  | nil => rfl
  | node ml mk mv mm ih _ =>
    unfold downMore
    split
    · split
      · simp [toL]
      · simp [left_toL, right_toL, toL]
    · split
      · simp [toL, ih]
      · simp [right_toL, toL, ih]
theorem join_toL (l : T) (k v : ByteArray) (m : T) : (join l k v m).toL = l.toL ++ ⟨k, v⟩ :: m.toL := by
  unfold join
  split
  · exact downLess_toL ..
  · split
    · exact downMore_toL ..
    · rfl
theorem last_toL : ∀ t : T, t ≠ nil → t.last.1.toL ++ [⟨t.last.2.1, t.last.2.2⟩] = t.toL
  | nil, h => absurd rfl h
  | node l k v nil, _ => rfl
  | node l k v (node a b c d), _ => by
    have ih := last_toL (node a b c d) (by intro h; cases h)
    show (join l k v (node a b c d).last.1).toL ++ [⟨(node a b c d).last.2.1, (node a b c d).last.2.2⟩] = _
    rw [join_toL, List.append_assoc, List.cons_append, ih]; rfl
theorem glue_toL (l m : T) : (glue l m).toL = l.toL ++ m.toL := by
  cases l with
  | nil => rfl
  | node a b c d =>
    show (join _ _ _ _).toL = _
    rw [join_toL, ← last_toL (node a b c d) (by intro h; cases h)]; simp

theorem join_size (l : T) (k v : ByteArray) (m : T) : (join l k v m).size = l.size + m.size + 1 := by
  rw [← toL_length, join_toL]; simp [toL_length]; omega
theorem downLess_size (l : T) (k v : ByteArray) (m : T) : (downLess l k v m).size = l.size + m.size + 1 := by
  rw [← toL_length, downLess_toL]; simp [toL_length]; omega
theorem downMore_size (l : T) (k v : ByteArray) (m : T) : (downMore l k v m).size = l.size + m.size + 1 := by
  rw [← toL_length, downMore_toL]; simp [toL_length]; omega
theorem downLess_ne (l : T) (k v : ByteArray) (m : T) : downLess l k v m ≠ nil := by
  intro h; have := downLess_size l k v m; rw [h] at this; simp [size] at this
theorem downMore_ne (l : T) (k v : ByteArray) (m : T) : downMore l k v m ≠ nil := by
  intro h; have := downMore_size l k v m; rw [h] at this; simp [size] at this
theorem glue_size (l m : T) : (glue l m).size = l.size + m.size := by
  rw [← toL_length, glue_toL]; simp [toL_length]
theorem last_size (t : T) (h : t ≠ nil) : t.last.1.size + 1 = t.size := by
  rw [← toL_length, ← toL_length, ← last_toL t h]; simp
theorem split_size (key : ByteArray) (t : T) : (split key t).1.size + (split key t).2.1.size ≤ t.size ∧ (split key t).2.2.size ≤ t.size := by
  induction t with
  | nil => simp [split, size]
  | node l k v r ihl ihr =>
    unfold split
    split
    · simp only [join_size, size]; omega
    · split
      · simp only [size]; omega
      · simp only [join_size, size]; omega
theorem put_size (k v : ByteArray) (t : T) : (put k v t).size ≤ t.size + 1 := by
  induction t with
  | nil => simp [put, size]
  | node l k' v' r ihl ihr =>
    unfold put
    split
    · simp only [join_size, size]; omega
    · split
      · simp only [size]; omega
      · simp only [join_size, size]; omega
theorem drop_size (k : ByteArray) (t : T) : (drop k t).size ≤ t.size := by
  induction t with
  | nil => simp [drop, size]
  | node l k' v' r ihl ihr =>
    unfold drop
    split
    · simp only [join_size, size]; omega
    · split
      · simp only [glue_size, size]; omega
      · simp only [join_size, size]; omega
end T
end Go.Proofs.Ytehnkoglhbbfjaa
