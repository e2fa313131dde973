/-
  Slices of events, and new rows, for the maps' texts.
-/
import Derived.Test.YtehnkoglhbbfjaaT6
import Derived.Test.YtehnkoglhbbfjaaB0
import Derived.Test.YtehnkoglhbbfjaaPAllx4
import Derived.ProofKit
import Derived.ChangeOld
import Derived.Deep.Slices
import Derived.Deep.Strs
set_option linter.unusedVariables false
set_option linter.unusedSimpArgs false
namespace Go.Proofs.Ytehnkoglhbbfjaa
open Go.RowKit Go.Proofs.YtehnkoglhbbfjaaW.PrintWords Go.Proofs.YtehnkoglhbbfjaaW.PrintLast Go.Proofs.YtehnkoglhbbfjaaW.PrintMore PAll
theorem info51 : (Try.prog.info? 51).map (fun i => (i.zero, i.size, i.bytes)) = some (some (.agg #[.int .i64 0, .string ⟨#[]⟩, .bool false, .string ⟨#[]⟩, .bool false, .string ⟨#[]⟩]), 6, 72) := by kernel_rfl
theorem drawn_below {w w' : World} (h : Drawn0 w w') : Below w.heap.size w w' := h.below
theorem rdE (l : List S51) (i : Nat) (h : i < l.length) : rd_T51 l (i : Int) = l[i] := by
  simp [rd_T51, List.getD, h]
theorem Event_l0 (x : List S51) (hx : x.length < 4398046511104) : ∀ (d k i : Nat), i + d = x.length → d < k →
    api_Event.l0 k x x (x.length : Int) (i : Int) = some true := by
  intro d
  induction d with
  | zero =>
    intro k i hi hk
    obtain ⟨k, rfl⟩ : ∃ m, k = m + 1 := ⟨k - 1, by omega⟩
    simp only [api_Event.l0]
    rw [if_neg (by omega)]
  | succ d ih =>
    intro k i hi hk
    obtain ⟨k, rfl⟩ : ∃ m, k = m + 1 := ⟨k - 1, by omega⟩
    have hlt : i < x.length := by omega
    simp only [api_Event.l0]
    rw [if_pos (by omega), if_pos (by omega), if_pos (by omega), if_pos (by omega), w64 hlt hx, rdE x i hlt, if_neg (by simp), ih k (i + 1) (by omega) (by omega)]
theorem Event_f (x : List S51) (hx : x.length < 4398046511104) : api_Event.f (x.length + 1) x x = some true := by
  unfold api_Event.f
  rw [if_pos rfl, show (0 : Int) = ((0 : Nat) : Int) from rfl, Event_l0 x hx x.length _ 0 (by omega) (by omega)]
/-- A slice of events that can be read. -/
def SlE (w : World) (v : Value) (l : List S51) : Prop := ∃ A c, v = .slice A l.length c ∧ l.length ≤ c ∧ Kd.C k51 w A l.length l
theorem SlE.below {w w' : World} {v : Value} {l : List S51} (h : SlE w v l) (hb : Below w.heap.size w w') : SlE w' v l := by
  obtain ⟨A, c, rfl, h1, h2⟩ := h
  exact ⟨A, c, rfl, h1, Kd.C_below h2 hb⟩
theorem SlE.of_R {w : World} {v : Value} {l : List S51} {base : Nat} {ok : Nat → Prop} (h : Kd.R k51 51 w base ok v l) : SlE w v l := by
  obtain ⟨A, c, h1, h2, h3⟩ := Kd.R_reads h
  exact ⟨A, c, h1, h2, h3⟩
theorem Events_calls (u v : Value) (x : List S51) (w : World) (hx : SlE w u x) (hy : SlE w v x) (hs : x.length < 4398046511104) :
    Calls Try.prog 34 #[u, v] w fun e w' => e = .returned (.bool true) ∧ Below w.heap.size w w' := by
  obtain ⟨A, c, rfl, h1, h2⟩ := hx
  obtain ⟨A', c', rfl, h3, h4⟩ := hy
  exact (api_Event.calls _ A c x A' c' x true w h2 h1 h4 h3 (Event_f x hs)).mono fun _ _ ⟨h, k⟩ => ⟨h, drawn_below k⟩
theorem R_lit_new {α : Type} (d : Kd α) (W : World) (e : Nat) (xs : List α) (inner : List Value) (hrep : Reps (d.M W 0 (fun _ => True)) d.sz xs inner) (hm : xs.length ≤ 9223372036854775807) :
    d.R e (W.alloc (.cells inner.toArray e)) 0 (fun _ => True) (.slice (some ⟨W.heap.size, 0, none⟩) xs.length xs.length) xs := by
  refine ⟨fun k hk => trivial, inner, ?_, ?_⟩
  · have h2 := World.ownsRow_lit (base := 0) (e := e) (size := d.sz) W inner.toArray xs.length (Nat.zero_le _) (by simpa [maxLen] using hm) (by simpa using hrep.1)
    simpa using h2
  · refine hrep.imp_ (fun p c hp => d.M_mono (fun k hk => ⟨trivial, fun he => ?_⟩) (Kd.M_below (d.M_bound hp) (below_alloc (Below.refl _ _) _)))
    have h3 : k = W.heap.size := by simpa [Value.ownBlock] using he
    have := hk.2.2.1
    omega
theorem cells_at {w : World} {base : Nat} {a : Addr} {n : Nat} {cs : List Value} (h : w.cells? base a n = some cs) : cs.length = n ∧ ∀ j u, cs[j]? = some u → w.cell? (a.add j) = some u := by
  obtain ⟨h1, h2, h3⟩ := World.cells?_some h
  refine ⟨h2, fun j u hu => ?_⟩
  have hj : j < n := by rw [← h2]; exact (List.getElem?_eq_some_iff.1 hu).1
  rw [h3 j hj]
  exact hu
theorem cellsOf3 : Try.prog.cellsOf 3 = 1 := by kernel_rfl
theorem cellsOf9 : Try.prog.cellsOf 9 = 1 := by kernel_rfl
end Go.Proofs.Ytehnkoglhbbfjaa
