/-
  Short on one, two, three slices; made on a slice.
-/
import Derived.Test.YtehnkoglhbbfjaaR1
namespace Go.Proofs.Ytehnkoglhbbfjaa
open Go.RowKit Go.Proofs.YtehnkoglhbbfjaaW.PrintWords Go.Proofs.YtehnkoglhbbfjaaW.PrintLast Go.Proofs.YtehnkoglhbbfjaaW.PrintMore PAll

theorem Short1 (l : List S27) (A : Option Addr) (c : Nat) (w : World) (h : SlD w (.slice A l.length c) l) :
    Calls Try.prog 19 #[.slice (some ⟨w.heap.size, 0, none⟩) 1 1] (w.alloc (.cells #[.slice A l.length c] 22)) fun e w' => ∃ b, e = .returned (.bool b) ∧ (b = true → l.length ≤ 300) ∧ Below (w.alloc (.cells #[.slice A l.length c] 22)).heap.size (w.alloc (.cells #[.slice A l.length c] 22)) w' := by
  refine (Short_calls [l] [.slice A l.length c] w _ w.heap.size (heap_alloc_new _ _) (fun j p hj => ?_) ((Below.refl _ w).alloc (Nat.le_refl _) _) (by simp)).mono fun e w' ⟨b, h1, h2, h3⟩ => ⟨b, h1, fun hb => h2 hb l (by simp), h3⟩
  match j, hj with
  | 0, hj => cases hj; exact ⟨_, rfl, h⟩
  | j + 1, hj => simp at hj
theorem Short2 (l m : List S27) (A B : Option Addr) (c d : Nat) (w : World) (h : SlD w (.slice A l.length c) l) (h' : SlD w (.slice B m.length d) m) :
    Calls Try.prog 19 #[.slice (some ⟨w.heap.size, 0, none⟩) 2 2] (w.alloc (.cells #[.slice A l.length c, .slice B m.length d] 22)) fun e w' => ∃ b, e = .returned (.bool b) ∧ (b = true → l.length ≤ 300 ∧ m.length ≤ 300) ∧ Below (w.alloc (.cells #[.slice A l.length c, .slice B m.length d] 22)).heap.size (w.alloc (.cells #[.slice A l.length c, .slice B m.length d] 22)) w' := by
  refine (Short_calls [l, m] [.slice A l.length c, .slice B m.length d] w _ w.heap.size (heap_alloc_new _ _) (fun j p hj => ?_) ((Below.refl _ w).alloc (Nat.le_refl _) _) (by simp)).mono fun e w' ⟨b, h1, h2, h3⟩ => ⟨b, h1, fun hb => ⟨h2 hb l (by simp), h2 hb m (by simp)⟩, h3⟩
  match j, hj with
  | 0, hj => cases hj; exact ⟨_, rfl, h⟩
  | 1, hj => cases hj; exact ⟨_, rfl, h'⟩
  | j + 2, hj => simp at hj
theorem Short3 (l m n : List S27) (A B C : Option Addr) (c d f : Nat) (w : World) (h : SlD w (.slice A l.length c) l) (h' : SlD w (.slice B m.length d) m) (h'' : SlD w (.slice C n.length f) n) :
    Calls Try.prog 19 #[.slice (some ⟨w.heap.size, 0, none⟩) 3 3] (w.alloc (.cells #[.slice A l.length c, .slice B m.length d, .slice C n.length f] 22)) fun e w' => ∃ b, e = .returned (.bool b) ∧ (b = true → l.length ≤ 300 ∧ m.length ≤ 300 ∧ n.length ≤ 300) ∧ Below (w.alloc (.cells #[.slice A l.length c, .slice B m.length d, .slice C n.length f] 22)).heap.size (w.alloc (.cells #[.slice A l.length c, .slice B m.length d, .slice C n.length f] 22)) w' := by
  refine (Short_calls [l, m, n] [.slice A l.length c, .slice B m.length d, .slice C n.length f] w _ w.heap.size (heap_alloc_new _ _) (fun j p hj => ?_) ((Below.refl _ w).alloc (Nat.le_refl _) _) (by simp)).mono fun e w' ⟨b, h1, h2, h3⟩ => ⟨b, h1, fun hb => ⟨h2 hb l (by simp), h2 hb m (by simp), h2 hb n (by simp)⟩, h3⟩
  match j, hj with
  | 0, hj => cases hj; exact ⟨_, rfl, h⟩
  | 1, hj => cases hj; exact ⟨_, rfl, h'⟩
  | 2, hj => cases hj; exact ⟨_, rfl, h''⟩
  | j + 3, hj => simp at hj

theorem Made_calls (v : Value) (l : List S27) (w : World) (h : SlD w v l) (hl : l.length ≤ 300) :
    Calls Try.prog 27 #[v] w fun e w' => ∃ p A c t, e = .returned (.tuple #[.pointer p, .slice A t.toL.length c]) ∧ t = T.play .nil l ∧ t.size ≤ 300 ∧ Srt t.toL ∧ IsTr w' p t ∧ Kd.R k29 29 w' w.heap.size (fun _ => True) (.slice A t.toL.length c) t.toL ∧ Below w.heap.size w w' := by
  obtain ⟨A, c, rfl, h1, h2⟩ := h
  refine (made_calls l A c w h2 hl).mono fun e w' ⟨p, v, he, ht, hR, hb⟩ => ?_
  obtain ⟨A', c', rfl⟩ := Kd.R_slice hR
  have hz := T.play_size .nil l
  simp only [T.size] at hz
  exact ⟨p, A', c', _, he, rfl, by omega, T.play_srt .nil l srt_nil, ht, hR, hb⟩

end Go.Proofs.Ytehnkoglhbbfjaa
