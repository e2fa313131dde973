/-
  Texts rune by rune: what keys and values may be.
-/
import Derived.Test.YtehnkoglhbbfjaaB1
import Derived.Test.YtehnkoglhbbfjaaPAllx7
import Derived.Laws.RangeAny
import Derived.Maps.OwnOps
import Derived.Maps.Views
import Derived.Test.YtehnkoglhbbfjaaB0
import Derived.Deep.RegionWith
import Derived.Deep.RegionHeld3
set_option linter.unusedVariables false
set_option linter.unusedSimpArgs false
namespace Go.Proofs.Ytehnkoglhbbfjaa
open Go.RowKit Go.Proofs.YtehnkoglhbbfjaaW.PrintWords Go.Proofs.YtehnkoglhbbfjaaW.PrintLast Go.Proofs.YtehnkoglhbbfjaaW.PrintMore PAll

/-- A text's runes, from a place on, as the model decodes them. -/
def cpsF (s : ByteArray) : Nat → Nat → List Int
  | 0, _ => []
  | n + 1, pos => if pos < s.size then (((Utf8.decode s pos).1 : Nat) : Int) :: cpsF s n (pos + (Utf8.decode s pos).2) else []
def cps (s : ByteArray) : List Int := cpsF s s.size 0
def plainB (c : Int) : Bool := decide (32 ≤ c) && (c != 127) && (c != 65533)
def textAll (s : ByteArray) (lo hi : Int) : Bool := decide (lo ≤ ((cps s).length : Int)) && decide (((cps s).length : Int) ≤ hi) && (cps s).all plainB

set_option maxHeartbeats 1000000 in
set_option maxRecDepth 100000 in
theorem plain_calls (c : Int) (w : World) : Calls Try.prog 104 #[.int .i32 c] w fun e w' => e = .returned (.bool (plainB c)) ∧ w = w' := by
  by_cases h1 : 32 ≤ c
  · by_cases h2 : c = 127
    · have q2 : (c != 127) = false := bne_eq_false_iff_eq.mpr h2
      go_enter Try.func104, Try.ntmps104
      go_wp2
      go_ret
      exact ⟨by simp [plainB, h1, q2], rfl⟩
    · have q2 : (c != 127) = true := bne_iff_ne.mpr h2
      have q3 : (c == 127) = false := beq_eq_false_iff_ne.mpr h2
      go_enter Try.func104, Try.ntmps104
      go_wp2
      go_ret
      exact ⟨by simp [plainB, h1, q2], rfl⟩
  · go_enter Try.func104, Try.ntmps104
    go_wp2
    go_ret
    exact ⟨by rw [plainB, decide_eq_false (by omega : ¬ 32 ≤ c)]; rfl, rfl⟩
theorem decode_pos (s : ByteArray) (pos : Nat) (h : pos < s.size) : 1 ≤ (Utf8.decode s pos).2 := by
  by_cases ha : (s[pos]'h).toNat < 128
  · rw [decode_ascii s pos h ha]
    exact Nat.le_refl _
  · exact (decode_high s pos h (by omega)).2
theorem cpsF_end (s : ByteArray) (b pos : Nat) (h : ¬ pos < s.size) : cpsF s b pos = [] := by
  cases b with
  | zero => rfl
  | succ b => rw [cpsF, if_neg h]
theorem below_iter (w : World) (s : ByteArray) (pos : Nat) : Below w.heap.size w (w.iter s pos) := (Below.refl _ w).alloc (Nat.le_refl _) _

set_option maxHeartbeats 1000000 in
set_option maxRecDepth 100000 in
theorem all_calls (s : ByteArray) (lo hi : Int) (h0 : 0 ≤ hi) (h1 : hi ≤ 100) (w : World) : Calls Try.prog 103 #[.string s, .int .i64 lo, .int .i64 hi, .func (Fn.func 104) #[] #[]] w fun e w' => e = .returned (.bool (textAll s lo hi)) ∧ Below w.heap.size w w' := by
  go_enter Try.func103, Try.ntmps103
  go_wp2_with fail
  go_loopg [9, 11] s.size (fun m v9 v11 wr => ∃ (pos b n : Nat) (pre : List Int), v9 = .int .i64 n ∧ wr = w.iter s pos ∧ As (cps s = pre ++ cpsF s b pos ∧ pre.length = n ∧ pre.all plainB = true ∧ (n : Int) ≤ hi ∧ s.size ≤ pos + b ∧ s.size - pos ≤ m))
  case atStart => exact ⟨0, s.size, 0, [], rfl, rfl, ⟨rfl, rfl, rfl, h0, by omega, by omega⟩⟩
  case round =>
    obtain ⟨pos, b, n, pre, rfl, rfl, ⟨hc, hn, hp, hh, hb, hm⟩⟩ := hrel
    by_cases hlt : pos < s.size
    · have hwd := decode_pos s pos hlt
      have hnx : ∀ ty, (Instr.next (.pointer (some ⟨w.heap.size, 0, none⟩)) true ty).run Try.prog (w.iter s pos) = _ := fun ty => run_next_any w s pos ty hlt
      cases b with
      | zero => omega
      | succ b =>
        rw [cpsF, if_pos hlt] at hc
        generalize hd : Utf8.decode s pos = D at *
        obtain ⟨c, wd⟩ := D
        dsimp only at hc hwd hnx
        have HC := As.mk hc
        have HN := As.mk hn
        clear hc hn hd
        by_cases hover : hi < (n : Int) + 1
        · have hF : textAll s lo hi = false := by
            have hl : (cps s).length ≥ n + 1 := by rw [HC.out, List.length_append, List.length_cons, HN.out]; omega
            unfold textAll
            rw [show decide (((cps s).length : Int) ≤ hi) = false from decide_eq_false (by omega)]
            simp
          go_wp2_with fail
          go_ret
          exact ⟨by rw [hF]; rfl, below_iter _ _ _⟩
        · by_cases hpl : plainB (c : Int) = true
          · go_wp2_with (first
              | (go_at_call 104; refine (plain_calls _ _).mono ?_; rw [hpl]; rintro e w2 ⟨rfl, rfl⟩))
            go_roundg (s.size - (pos + wd))
            case measure => omega
            case rel => exact ⟨pos + wd, b, n + 1, pre ++ [(c : Int)], by go_num, rfl, ⟨by rw [HC.out, List.append_assoc]; rfl, by rw [List.length_append, HN.out]; rfl, by rw [List.all_append, hp]; simp [hpl], by omega, by omega, Nat.le_refl _⟩⟩
          · have hpl' : plainB (c : Int) = false := by simpa using hpl
            have hF : textAll s lo hi = false := by
              unfold textAll
              rw [HC.out, List.all_append, List.all_cons, hpl']
              simp
            go_wp2_with (first
              | (go_at_call 104; refine (plain_calls _ _).mono ?_; rw [hpl']; rintro e w2 ⟨rfl, rfl⟩))
            go_ret
            exact ⟨by rw [hF]; rfl, below_iter _ _ _⟩
    · have hnx : ∀ ty, (Instr.next (.pointer (some ⟨w.heap.size, 0, none⟩)) true ty).run Try.prog (w.iter s pos) = _ := fun ty => run_next_end w s pos ty hlt
      rw [cpsF_end s b pos hlt, List.append_nil] at hc
      have hT : textAll s lo hi = decide (lo ≤ (n : Int)) := by
        unfold textAll
        rw [hc, hp, hn, decide_eq_true hh]
        simp
      have HC := As.mk hc
      have HTT := As.mk hT
      clear hc hT hn
      go_wp2_with fail
      go_ret
      exact ⟨by rw [HTT.out]; first | rfl | simp, below_iter _ _ _⟩

def keyE (s : ByteArray) : Int := if textAll s 1 24 = true then 0 else 20
def valE (s : ByteArray) : Int := if textAll s 0 48 = true then 0 else 21
set_option maxHeartbeats 1000000 in
set_option maxRecDepth 100000 in
theorem Key_calls (s : ByteArray) (w : World) : Calls Try.prog 97 #[.string s] w fun e w' => e = .returned (.int .i64 (keyE s)) ∧ Below w.heap.size w w' := by
  unfold keyE
  cases hT : textAll s 1 24
  all_goals
    go_enter Try.func97, Try.ntmps97
    go_wp2_with (first
      | (go_at_call 103; refine (all_calls s 1 24 (by decide) (by decide) w).mono ?_; rw [hT]; rintro e w2 ⟨rfl, hb⟩))
    go_ret
    exact ⟨rfl, hb⟩
set_option maxHeartbeats 1000000 in
set_option maxRecDepth 100000 in
theorem Value_calls (s : ByteArray) (w : World) : Calls Try.prog 98 #[.string s] w fun e w' => e = .returned (.int .i64 (valE s)) ∧ Below w.heap.size w w' := by
  unfold valE
  cases hT : textAll s 0 48
  all_goals
    go_enter Try.func98, Try.ntmps98
    go_wp2_with (first
      | (go_at_call 103; refine (all_calls s 0 48 (by decide) (by decide) w).mono ?_; rw [hT]; rintro e w2 ⟨rfl, hb⟩))
    go_ret
    exact ⟨rfl, hb⟩
end Go.Proofs.Ytehnkoglhbbfjaa

namespace Go.Proofs.Ytehnkoglhbbfjaa
open Go.RowKit Go.Proofs.YtehnkoglhbbfjaaW.PrintWords Go.Proofs.YtehnkoglhbbfjaaW.PrintLast Go.Proofs.YtehnkoglhbbfjaaW.PrintMore PAll

def putObj (w : World) (b : Nat) (o : Obj) : World := { w with heap := w.heap.setIfInBounds b o }
theorem run_next_gen (w : World) (g : Nat) (s : ByteArray) (pos : Nat) (ty : TypeId) (hg : w.heap[g]? = some (.stringIter s pos)) (h : pos < s.size) :
    (Instr.next (.pointer (some ⟨g, 0, none⟩)) true ty).run Try.prog w =
      .ok (.tuple #[.bool true, .int .i64 pos, .int .i32 (Utf8.decode s pos).1]) (putObj w g (.stringIter s (pos + (Utf8.decode s pos).2))) := by
  simp only [Instr.next, getObj, setObj, Sem.run_bind, Sem.run, hg, Result.andThen, h, if_true]
  simp [goInt, putObj]
theorem run_next_gen_end (w : World) (g : Nat) (s : ByteArray) (pos : Nat) (ty : TypeId) (hg : w.heap[g]? = some (.stringIter s pos)) (h : ¬ pos < s.size) :
    (Instr.next (.pointer (some ⟨g, 0, none⟩)) true ty).run Try.prog w = .ok (.tuple #[.bool false]) w := by
  simp [Instr.next, getObj, Sem.run, hg, h]
theorem below_putObj {B : Nat} {w : World} {g : Nat} (hg : B ≤ g) (o : Obj) : Below B w (putObj w g o) :=
  ⟨rfl, rfl, rfl, by simp [putObj], fun k hk => by simp only [putObj]; rw [Array.getElem?_setIfInBounds_ne (by omega)]⟩
theorem info21 : (Try.prog.info? 21).map (fun i => (i.zero, i.size, i.bytes)) = some (some (.int .i32 0), 1, 4) := by kernel_rfl
theorem cpsF_length (s : ByteArray) : ∀ (b pos : Nat), (cpsF s b pos).length ≤ b
  | 0, _ => Nat.le_refl _
  | b + 1, pos => by
    rw [cpsF]
    split
    · exact Nat.succ_le_succ (cpsF_length s b _)
    · exact Nat.zero_le _
theorem cps_length (s : ByteArray) : (cps s).length ≤ s.size := cpsF_length s s.size 0

set_option maxHeartbeats 1000000 in
set_option maxRecDepth 100000 in
theorem Runes_calls (s : ByteArray) (hs : s.size < 1000000000) (w : World) : Calls Try.prog 108 #[.string s] w fun e w' => ∃ v', e = .returned v' ∧ Kd.R (Kd.int .i32) 21 w' w.heap.size (fun _ => True) v' (cps s) ∧ Below w.heap.size w w' := by
  have hcl := cps_length s
  go_enter Try.func108, Try.ntmps108
  go_wp2_with fail
  have hI := World.iter_heap w s 0
  have hB0 := below_iter w s 0
  generalize w.iter s 0 = W0 at *
  obtain ⟨g, hg⟩ : ∃ g, g = w.heap.size := ⟨_, rfl⟩
  rw [← hg] at hI
  have HG := As.mk (show w.heap.size ≤ g by omega)
  rw [← hg]
  clear hg
  go_loopg [3, 5] s.size (fun m v3 v5 wr => ∃ (pos b : Nat) (X : List Int), As (wr.heap[g]? = some (.stringIter s pos) ∧ cps s = X ++ cpsF s b pos ∧ Kd.R (Kd.int .i32) 21 wr w.heap.size (fun k => k ≠ g) v3 X ∧ Below w.heap.size w wr ∧ s.size ≤ pos + b ∧ s.size - pos ≤ m))
  case atStart => exact ⟨0, s.size, [], ⟨hI, rfl, Kd.R_nil _ _ _ _ _, hB0, by omega, by omega⟩⟩
  case round =>
    obtain ⟨pos, b, X, ⟨hi, hc, hR, hB, hb, hm⟩⟩ := hrel
    clear hI hB0
    have hxl : X.length ≤ s.size := by
      have := congrArg List.length hc
      rw [List.length_append] at this
      omega
    by_cases hlt : pos < s.size
    · have hwd := decode_pos s pos hlt
      have hnx : ∀ ty, (Instr.next (.pointer (some ⟨g, 0, none⟩)) true ty).run Try.prog wr = _ := fun ty => run_next_gen wr g s pos ty hi hlt
      cases b with
      | zero => omega
      | succ b =>
        rw [cpsF, if_pos hlt] at hc
        generalize hd : Utf8.decode s pos = D at *
        obtain ⟨c, wd⟩ := D
        dsimp only at hc hwd hnx
        have hlg : g < wr.heap.size := (Array.getElem?_eq_some_iff.1 hi).1
        have HR1 := As.mk (Kd.R_step (w1 := putObj wr g (.stringIter s (pos + wd))) hR (fun k ho hlt => by simp only [putObj]; rw [Array.getElem?_setIfInBounds_ne (Ne.symm ho)]))
        have HB1 := As.mk (hB.trans (below_putObj HG.out (.stringIter s (pos + wd))))
        have HI1 : As ((putObj wr g (.stringIter s (pos + wd))).heap[g]? = some (.stringIter s (pos + wd))) := ⟨by simp only [putObj]; rw [Array.getElem?_setIfInBounds_self_of_lt hlg]⟩
        generalize putObj wr g (.stringIter s (pos + wd)) = W1 at *
        have HLT : As (g < W1.heap.size) := ⟨(Array.getElem?_eq_some_iff.1 HI1.out).1⟩
        obtain ⟨A5, c5, rfl⟩ := Kd.R_slice hR
        have HNE := As.mk (show (Value.slice A5 X.length c5).ownBlock ≠ some g from fun e => HR1.out.1 g e rfl)
        obtain ⟨Y, hY⟩ : ∃ Y, Y = X ++ [(c : Int)] := ⟨_, rfl⟩
        have HY := As.mk hY
        have HC := As.mk hc
        clear hc hd hR hB hi hY hlg
        go_wp2_with (first
          | ((with_reducible refine gate_builtin (b := .append) (xs := #[.tmp 11, .tmp 13]) rfl ?_); at_builtin; refine Kd.R_append (Kd.int .i32) (w0 := w) w.heap.size rfl (.tmp 11) (.tmp 13) 129 21 (.int .i32 0) 4 rfl Try.underlying129 info21 rfl (by decide) (by omega) _ X (c : Int) [.int .i32 c] (fun k => k ≠ g) (fun _ => False) rfl (by first | (go_simp; done) | (go_simp; rfl)) ?aP (fun _ hk => hk.elim) (fun k hk => by have := HLT.out; omega) ?aO ?aB ?aS ?aL ?_; (case aP => exact rfl); (case aO => exact HR1.out); (case aB => exact HB1.out); (case aS => exact HB1.out.size); (case aL => omega); intro v3 w3 ho3 hB3 hg3 hat3; rw [← HY.out] at ho3; have HI3 := As.mk ((hg3.block g HLT.out (fun e' => HNE.out e'.symm)).trans HI1.out); have HR3 := As.mk ho3; have HB3 := As.mk hB3; obtain ⟨A3, c3, rfl⟩ := Kd.R_slice ho3; clear ho3 hB3 hg3 hat3))
        go_roundg (s.size - (pos + wd))
        case measure => omega
        case rel => exact ⟨pos + wd, b, Y, ⟨HI3.out, by rw [HC.out, HY.out, List.append_assoc]; rfl, HR3.out, HB3.out, by omega, Nat.le_refl _⟩⟩
    · have hnx : ∀ ty, (Instr.next (.pointer (some ⟨g, 0, none⟩)) true ty).run Try.prog wr = _ := fun ty => run_next_gen_end wr g s pos ty hi hlt
      rw [cpsF_end s b pos hlt, List.append_nil] at hc
      have HC := As.mk hc
      have HR := As.mk (Kd.R_mono hR (fun _ _ => trivial) : Kd.R _ _ _ _ (fun _ => True) _ _)
      have HB := As.mk hB
      obtain ⟨A5, c5, rfl⟩ := Kd.R_slice hR
      clear hc hR hB
      go_wp2_with fail
      go_ret
      exact ⟨_, rfl, by rw [HC.out]; exact HR.out, HB.out⟩

set_option maxHeartbeats 1000000 in
set_option maxRecDepth 100000 in
theorem refPlain_calls (c : Int) (w : World) : Calls Try.prog 109 #[.int .i32 c] w fun e w' => e = .returned (.bool (plainB c)) ∧ Below w.heap.size w w' := by
  by_cases h1 : 31 < c
  · by_cases h2 : c = 127
    · have q2 : (c != 127) = false := bne_eq_false_iff_eq.mpr h2
      go_enter Try.func109, Try.ntmps109
      go_wp2
      go_ret
      exact ⟨by simp [plainB, h1, q2], Below.refl _ _⟩
    · have q2 : (c != 127) = true := bne_iff_ne.mpr h2
      have q3 : (c == 127) = false := beq_eq_false_iff_ne.mpr h2
      go_enter Try.func109, Try.ntmps109
      go_wp2
      go_ret
      exact ⟨by rw [plainB, decide_eq_true (by omega : 32 ≤ c), q2]; rfl, Below.refl _ _⟩
  · go_enter Try.func109, Try.ntmps109
    go_wp2
    go_ret
    exact ⟨by rw [plainB, decide_eq_false (by omega : ¬ 32 ≤ c)]; rfl, Below.refl _ _⟩

set_option maxHeartbeats 1000000 in
set_option maxRecDepth 100000 in
theorem many_calls (s : ByteArray) (lo hi : Int) (hs : s.size < 1000000000) (w : World) : Calls Try.prog 105 #[.string s, .int .i64 lo, .int .i64 hi] w fun e w' => e = .returned (.bool (textAll s lo hi)) ∧ Below w.heap.size w w' := by
  have hcl := cps_length s
  obtain ⟨C, hC⟩ : ∃ C, C = cps s := ⟨_, rfl⟩
  rw [← hC] at hcl
  obtain ⟨b0, hb0⟩ : ∃ b, b = (decide (lo ≤ (C.length : Int)) && decide ((C.length : Int) ≤ hi)) := ⟨_, rfl⟩
  have hT : textAll s lo hi = (b0 && C.all plainB) := by rw [hb0, hC]; rfl
  have HT := As.mk hT
  have HCC := As.mk hC
  have HB0 := As.mk hb0
  clear hT hC hb0
  have hab : ∀ k, k < C.length → (C.take (k + 1)).all plainB = ((C.take k).all plainB && plainB (C.getD k 0)) := fun k hk => by
    rw [take_snoc C 0 k hk, List.all_append, List.all_cons, List.all_nil, Bool.and_true]
  have HAB := As.mk hab
  clear hab
  by_cases h1 : lo ≤ (C.length : Int)
  all_goals by_cases h2 : (C.length : Int) ≤ hi
  all_goals
    go_enter Try.func105, Try.ntmps105
    go_wp2_with (first
      | (go_at_call 108; refine (Runes_calls s hs w).mono ?_; rw [← HCC.out]; rintro e w1 ⟨v1, rfl, hR, hb⟩; obtain ⟨A, c, hv1, -, hC⟩ := Kd.R_reads hR; subst hv1; have HC := As.mk hC; have HB := As.mk hb; clear hC hb hR))
    go_loopg [8, 10, 25] C.length (fun m v8 v10 v25 wr => ∃ (k : Nat) (b : Bool), v8 = .bool b ∧ v25 = .int .i64 k ∧ As (b = (b0 && (C.take k).all plainB) ∧ k ≤ C.length ∧ C.length - k ≤ m ∧ Below w1.heap.size w1 wr))
    case atStart =>
      refine ⟨0, _, rfl, rfl, ⟨?_, Nat.zero_le _, Nat.le_refl _, Below.refl _ _⟩⟩
      rw [HB0.out]
      first
        | (rw [decide_eq_true (by omega : lo ≤ (C.length : Int)), decide_eq_true (by omega : (C.length : Int) ≤ hi)]; rfl)
        | (rw [decide_eq_true (by omega : lo ≤ (C.length : Int)), decide_eq_false (by omega : ¬ (C.length : Int) ≤ hi)]; rfl)
        | (rw [decide_eq_false (by omega : ¬ lo ≤ (C.length : Int))]; rfl)
    case round =>
      obtain ⟨k, b, rfl, rfl, ⟨hb, hk, hm, hB⟩⟩ := hrel
      by_cases hlt : k < C.length
      · obtain ⟨ad, hA, hx0⟩ := Kd.at_int HC.out (k : Int) (by omega) (by omega)
        subst hA
        rw [show rd C (k : Int) = C.getD k 0 by unfold rd; rw [Int.toNat_natCast]] at hx0
        rw [Int.toNat_natCast] at hx0
        have hn := HAB.out k hlt
        generalize C.getD k 0 = c0 at *
        replace hx0 := (hB.cell (World.block_lt_of_cell? w1 _ hx0)).trans hx0
        have p0 : 0 ≤ (k : Int) := by omega
        have HN := As.mk hn
        have HBB := As.mk hb
        clear hn hb
        cases b with
        | true =>
          go_wp2_with (first
            | (go_at_call 109; refine (refPlain_calls _ _).mono ?_; rintro e w2 ⟨rfl, hb⟩; have HB2 := As.mk (bstep hB hb); clear hb))
          go_roundg (C.length - (k + 1))
          case measure => omega
          case rel => exact ⟨k + 1, _, rfl, by go_num, ⟨by rw [HN.out, ← Bool.and_assoc, ← HBB.out, Bool.true_and], by omega, Nat.le_refl _, HB2.out⟩⟩
        | false =>
          go_wp2_with fail
          go_roundg (C.length - (k + 1))
          case measure => omega
          case rel => exact ⟨k + 1, _, rfl, by go_num, ⟨by rw [HN.out, ← Bool.and_assoc, ← HBB.out, Bool.false_and], by omega, Nat.le_refl _, hB⟩⟩
      · obtain rfl : k = C.length := by omega
        rw [List.take_length] at hb
        have HBB := As.mk hb
        clear hb
        go_wp2_with fail
        go_ret
        exact ⟨by rw [HT.out, ← HBB.out]; rfl, bstep HB.out hB⟩

set_option maxHeartbeats 1000000 in
set_option maxRecDepth 100000 in
theorem refKey_calls (s : ByteArray) (hs : s.size < 1000000000) (w : World) : Calls Try.prog 99 #[.string s] w fun e w' => e = .returned (.int .i64 (keyE s)) ∧ Below w.heap.size w w' := by
  unfold keyE
  cases hT : textAll s 1 24
  all_goals
    go_enter Try.func99, Try.ntmps99
    go_wp2_with (first
      | (go_at_call 105; refine (many_calls s 1 24 hs w).mono ?_; rw [hT]; rintro e w2 ⟨rfl, hb⟩))
    go_ret
    exact ⟨rfl, hb⟩

set_option maxHeartbeats 1000000 in
set_option maxRecDepth 100000 in
theorem refValue_calls (s : ByteArray) (hs : s.size < 1000000000) (w : World) : Calls Try.prog 100 #[.string s] w fun e w' => e = .returned (.int .i64 (valE s)) ∧ Below w.heap.size w w' := by
  unfold valE
  cases hT : textAll s 0 48
  all_goals
    go_enter Try.func100, Try.ntmps100
    go_wp2_with (first
      | (go_at_call 105; refine (many_calls s 0 48 hs w).mono ?_; rw [hT]; rintro e w2 ⟨rfl, hb⟩))
    go_ret
    exact ⟨rfl, hb⟩

end Go.Proofs.Ytehnkoglhbbfjaa

namespace Go.Proofs.Ytehnkoglhbbfjaa
open Go.RowKit Go.Proofs.YtehnkoglhbbfjaaW.PrintWords Go.Proofs.YtehnkoglhbbfjaaW.PrintLast Go.Proofs.YtehnkoglhbbfjaaW.PrintMore PAll

open Go.Maps (Keyed)
open Go.WideMaps
def badV (o : S95) : Bool := (o.f1 && (valE o.f2 != 0)) || (!o.f1 && !decide (o.f2 = ⟨#[]⟩))
def rightF : List S95 → List S95 → Int
  | _, [] => 0
  | pre, o :: r => if keyE o.f0 = 0 then (if badV o = true then 21 else if (pre.any fun x => decide (x.f0 = o.f0)) = true then 61 else rightF (pre ++ [o]) r) else 20
def SlO (w : World) (v : Value) (l : List S95) : Prop := ∃ A c, v = .slice A l.length c ∧ l.length ≤ c ∧ Kd.C k95 w A l.length l
theorem SlO.below {w w' : World} {v : Value} {l : List S95} (h : SlO w v l) (hb : Below w.heap.size w w') : SlO w' v l := by
  obtain ⟨A, c, rfl, h1, h2⟩ := h
  exact ⟨A, c, rfl, h1, Kd.C_below h2 hb⟩
theorem toList_nil : (⟨#[]⟩ : ByteArray).toList = [] := by rw [ByteArray.toList_eq]
theorem notEmpty {b : ByteArray} (h : ¬ b = ⟨#[]⟩) : b.toList.isEmpty = false := by
  cases e : b.toList with
  | nil => exact absurd (toList_inj (e.trans toList_nil.symm)) h
  | cons a r => rfl
theorem keyE_cases (s : ByteArray) : keyE s = 0 ∨ keyE s = 20 := by
  unfold keyE; split
  · exact .inl rfl
  · exact .inr rfl
theorem valE_cases (s : ByteArray) : valE s = 0 ∨ valE s = 21 := by
  unfold valE; split
  · exact .inl rfl
  · exact .inr rfl
theorem decode_four (s : ByteArray) (pos : Nat) : (Utf8.decode s pos).2 ≤ 4 := by
  simp only [Utf8.decode]
  repeat' split
  all_goals simp_all [Utf8.runeError]
theorem cpsF_size (s : ByteArray) : ∀ (b pos : Nat), s.size ≤ pos + b → s.size ≤ pos + 4 * (cpsF s b pos).length
  | 0, pos, h => by rw [cpsF]; simpa using h
  | b + 1, pos, h => by
    rw [cpsF]
    split
    · rename_i hlt
      have h1 := decode_pos s pos hlt
      have h2 := decode_four s pos
      have h3 := cpsF_size s b (pos + (Utf8.decode s pos).2) (by omega)
      rw [List.length_cons]
      omega
    · simp only [List.length_nil]; omega
theorem key_size {s : ByteArray} (h : keyE s = 0) : s.size ≤ 96 := by
  have hT : textAll s 1 24 = true := by
    unfold keyE at h
    split at h
    · assumption
    · cases h
  unfold textAll at hT
  simp only [Bool.and_eq_true, decide_eq_true_eq] at hT
  have := cpsF_size s s.size 0 (by omega)
  have h2 : (cpsF s s.size 0).length = (cps s).length := rfl
  omega

theorem law9 : Keyed Try.prog 9 := Go.Maps.string_keyed Try.underlying9
theorem zero4 (w : World) : (zeroValue 4).run Try.prog w = .ok (.bool false) w := by kernel_rfl
/-- The map at a block is the set of the keys of a list. -/
def HasSet (w : World) (B : Nat) (seen : List S95) : Prop := ∃ (D : DataW Unit), w.ownsMap Try.prog 9 (plainElem Try.prog 4) B seen.length D ∧ Go.Maps.IsMap D ∧
  ∀ k : ByteArray, D.atKey (.string k.data.toList) (.lit (.bool false)) = .lit (.bool (seen.any fun o => decide (o.f0 = k)))
theorem HasSet.made (w : World) : HasSet (w.alloc (.map #[] 0)) w.heap.size [] :=
  ⟨.map [], World.ownsMap_made _ _ _ _, Go.Maps.isMap_empty, fun k => rfl⟩
theorem HasSet.below {w w' : World} {B : Nat} {seen : List S95} (h : HasSet w B seen) (hb : Below w.heap.size w w') : HasSet w' B seen := by
  obtain ⟨D, h1, h2, h3⟩ := h
  exact ⟨D, h1.kept (grown_of_below hb none) (by simp), h2, h3⟩
theorem plainElem_bool_inv {P : Program} {e : TypeId} (he : P.underlying e = some .bool) {v : Value} {z : DataW Unit × List MemPlace} (h : plainElem P e v = some z) : ∃ a, v = .bool a ∧ z = (.lit (.bool a), []) := by
  unfold plainElem at h
  rw [he] at h
  cases v <;> simp at h
  subst h
  exact ⟨_, rfl, rfl⟩
theorem HasSet.look {w : World} {B : Nat} {seen : List S95} (h : HasSet w B seen) {k : ByteArray} (hk : k.size ≤ maxLen) :
    (Instr.lookup 123 (.map (some B)) (.string k) false).run Try.prog w = .ok (.bool (seen.any fun o => decide (o.f0 = k))) w := by
  obtain ⟨D, h1, h2, h3⟩ := h
  obtain ⟨v, ps, hrun, hv⟩ := h1.lookup (t := 123) law9 Try.underlying123 (zero4 w) (plainElem_bool Try.underlying4 false) (keyOf_string_mk Try.underlying9 hk)
  obtain ⟨a, rfl, hz⟩ := plainElem_bool_inv Try.underlying4 hv
  rw [h3] at hz
  simp only [Prod.mk.injEq, DataW.lit.injEq, Lit.bool.injEq] at hz
  rw [hrun, hz.1]
theorem wp_set_put (w : World) {ops : Array Oper} {rest : List Oper} {o : Oper} {a : Act} {Q : Exit → Act → World → Prop}
    (hg : o.guard = none) (m x v : Operand) (hop : o.op = Op.mapUpdate 123 m x v) (B : Nat) (seen : List S95) (hset : HasSet w B seen) (hn : seen.length < maxLen) (hm : a.eval m = .map (some B))
    (key : ByteArray) (hx : a.eval x = .string key) (hv : a.eval v = .bool true) (hk : key.size ≤ maxLen) (op : S95) (ho : op.f0 = key)
    (hK : ∀ w', HasSet w' B (seen ++ [op]) → w.grownBy w' (some B) → wpList Try.prog ops Q rest (a.put o.dst undef) w') : wpList Try.prog ops Q (o :: rest) a w := by
  obtain ⟨D, h1, h2, h3⟩ := hset
  refine wpList_mapUpdate_own w hg m x v 123 hop 9 4 law9 Try.underlying123 _ B seen.length D hm h1 hn (.string key) (.bool true) _ hx hv (keyOf_string_mk Try.underlying9 hk) _ [] (plainElem_bool Try.underlying4 true) ?_
  intro w' h1' hg'
  refine hK w' ⟨D.put (.string key.data.toList) (.lit (.bool true)), by rw [List.length_append]; exact h1', h2.put _ _, fun q => ?_⟩ hg'
  rw [List.any_append]
  by_cases c : q = key
  · subst c
    rw [Go.Maps.atKey_put_same h2 (by trivial)]
    simp [ho]
  · rw [Go.Maps.atKey_put_other (fun e => c ?_), h3]
    · have : (decide (op.f0 = q)) = false := decide_eq_false (by rw [ho]; exact fun e => c e.symm)
      simp [this]
    · simp only [Lit.string.injEq] at e
      cases q; cases key
      simp only [ByteArray.mk.injEq]
      exact Array.toList_inj.1 e

set_option maxHeartbeats 4000000 in
set_option maxRecDepth 100000 in
theorem kvRight_calls (v : Value) (l : List S95) (w : World) (h : SlO w v l) : Calls Try.prog 87 #[v] w fun e w' => e = .returned (.int .i64 (rightF [] l)) ∧ Below w.heap.size w w' := by
  obtain ⟨A, c, rfl, hc, hC⟩ := h
  have HC := As.mk hC
  have hl := Kd.C_max hC
  have HLM := As.mk (show l.length ≤ maxLen from hl)
  clear hC hc
  have hmm := @run_makeMap Try.prog
  go_enter Try.func87, Try.ntmps87
  go_wp2_with fail
  have hS0 := HasSet.made w
  have hB0 : Below w.heap.size w (w.alloc (.map #[] 0)) := (Below.refl _ w).alloc (Nat.le_refl _) _
  generalize w.alloc (.map #[] 0) = W0 at *
  obtain ⟨BB, hBB⟩ : ∃ g, g = w.heap.size := ⟨_, rfl⟩
  rw [← hBB] at hS0
  have HBB := As.mk (show w.heap.size ≤ BB by omega)
  rw [← hBB]
  clear hBB hmm
  go_loopg [5, 9] l.length (fun m v5 v9 wr => ∃ (k : Nat), v9 = .int .i64 k ∧ As (HasSet wr BB (l.take k) ∧ rightF (l.take k) (l.drop k) = rightF [] l ∧ k ≤ l.length ∧ l.length - k ≤ m ∧ Below w.heap.size w wr))
  case atStart => exact ⟨0, rfl, ⟨hS0, rfl, Nat.zero_le _, Nat.le_refl _, hB0⟩⟩
  case round =>
    obtain ⟨k, rfl, ⟨hS, hrf, hk, hm, hB⟩⟩ := hrel
    clear hS0 hB0
    by_cases hlt : k < l.length
    · skip
      obtain ⟨ad, hA, hx0, hx1, hx2⟩ := at_T95 HC.out (k : Int) (by omega) (by omega)
      subst hA
      have hts := take_snoc l z95 k hlt
      have hdr : l.drop k = l.getD k z95 :: l.drop (k + 1) := by rw [dropc l k hlt]; congr 1; simp [List.getD, hlt]
      have hrd : rd_T95 l (k : Int) = l.getD k z95 := by unfold rd_T95; rw [Int.toNat_natCast]
      rw [hrd, Int.toNat_natCast] at hx0
      rw [hrd, Int.toNat_natCast] at hx1 hx2
      generalize l.getD k z95 = d at *
      rw [hdr] at hrf
      obtain ⟨da, db, dc⟩ := d
      dsimp only at hx0 hx1 hx2
      replace hx0 := (hB.cell (World.block_lt_of_cell? w _ hx0)).trans hx0
      replace hx1 := (hB.cell (World.block_lt_of_cell? w _ hx1)).trans hx1
      replace hx2 := (hB.cell (World.block_lt_of_cell? w _ hx2)).trans hx2
      have p0 : 0 ≤ (k : Int) := by omega
      have HTS := As.mk hts
      have HS := As.mk hS
      have hlen : (l.take k).length = k := by rw [List.length_take]; omega
      generalize hpre : l.take k = pre at *
      rw [rightF] at hrf
      dsimp only at hrf
      clear hts hdr hrd hS hpre
      rcases keyE_cases da with hke | hke
      · rw [if_pos hke] at hrf
        have HKE := As.mk hke
        have hmx : da.size ≤ maxLen := Nat.le_trans (key_size hke) (by decide)
        cases db with
        | true =>
          rcases valE_cases dc with hve | hve
          · rw [show badV ⟨da, true, dc⟩ = false by simp [badV, hve], if_neg (by decide)] at hrf
            have HVE := As.mk hve
            clear hke hve
            cases hse : (pre.any fun x => decide (x.f0 = da)) with
            | true =>
              rw [hse, if_pos rfl] at hrf
              have HRF := As.mk hrf.symm
              have HSE := As.mk hse
              clear hrf hse
              go_wp2_with (first
                | ((with_reducible refine gate_dst (N := 5) rfl ?_); refine box_event ?hg (N := 5) ?hd (cs := #[.string (⟨#[]⟩ : ByteArray), .bool false, .string (⟨#[]⟩ : ByteArray)]) (t := 95) ?hr ?_; (case hd => rfl); (case hg => rfl); (case hr => first | (go_simp; done) | (go_simp; rfl)); intro gd hg_gd w4 hx_gd hb_gd; have hB1 := bstep hB hb_gd; have GD := As.mk ((by rw [hg_gd]; exact hB.size) : w.heap.size ≤ gd); have GQ := As.mk (Nat.le_of_eq hg_gd.symm); clear hg_gd; have x0 := (heap_cell hx_gd 0).trans rfl; have z0 := blk_frozen hx_gd 0; have x1 := (heap_cell hx_gd 1).trans rfl; have z1 := blk_frozen hx_gd 1; have x2 := (heap_cell hx_gd 2).trans rfl; have z2 := blk_frozen hx_gd 2)
                | (go_at_call 97; have hb2 := (((hb_gd.setCell (p := ⟨gd, 0, none⟩) GQ.out (.string da)).setCell (p := ⟨gd, 1, none⟩) GQ.out (.bool true)).setCell (p := ⟨gd, 2, none⟩) GQ.out (.string dc)); have hB2 := (((hB1.setCell (p := ⟨gd, 0, none⟩) GD.out (.string da)).setCell (p := ⟨gd, 1, none⟩) GD.out (.bool true)).setCell (p := ⟨gd, 2, none⟩) GD.out (.string dc)); have hx3 := (blk_put (blk_put (blk_put hx_gd 0 (.string da) rfl) 1 (.bool true) rfl) 2 (.string dc) rfl); refine (Key_calls da _).mono ?_; rw [HKE.out]; rintro e w5 ⟨rfl, hb⟩; have hx := blk_step hx3 hb; have y0 := (heap_cell hx 0).trans rfl; have y1 := (heap_cell hx 1).trans rfl; have y2 := (heap_cell hx 2).trans rfl; have HS5 := As.mk ((HS.out.below hb2).below hb); have HB5 := As.mk (bstep hB2 hb); have hlk := HS5.out.look hmx; rw [HSE.out] at hlk; clear hb hx3 hb2 hB2 hb_gd hB1)
                | (go_at_call 98; refine (Value_calls dc _).mono ?_; rw [HVE.out]; rintro e w6 ⟨rfl, hb⟩; have hx := blk_step hx hb; have y0 := (heap_cell hx 0).trans rfl; have y1 := (heap_cell hx 1).trans rfl; have y2 := (heap_cell hx 2).trans rfl; have HS5 := As.mk (HS5.out.below hb); have HB5 := As.mk (bstep HB5.out hb); have hlk := HS5.out.look hmx; rw [HSE.out] at hlk; clear hb))
              go_ret
              exact ⟨by rw [HRF.out]; rfl, HB5.out⟩
            | false =>
              rw [hse, if_neg (by decide)] at hrf
              have HRF := As.mk hrf
              have HSE := As.mk hse
              clear hrf hse
              go_wp2_with (first
                | ((with_reducible refine gate_dst (N := 5) rfl ?_); refine box_event ?hg (N := 5) ?hd (cs := #[.string (⟨#[]⟩ : ByteArray), .bool false, .string (⟨#[]⟩ : ByteArray)]) (t := 95) ?hr ?_; (case hd => rfl); (case hg => rfl); (case hr => first | (go_simp; done) | (go_simp; rfl)); intro gd hg_gd w4 hx_gd hb_gd; have hB1 := bstep hB hb_gd; have GD := As.mk ((by rw [hg_gd]; exact hB.size) : w.heap.size ≤ gd); have GQ := As.mk (Nat.le_of_eq hg_gd.symm); clear hg_gd; have x0 := (heap_cell hx_gd 0).trans rfl; have z0 := blk_frozen hx_gd 0; have x1 := (heap_cell hx_gd 1).trans rfl; have z1 := blk_frozen hx_gd 1; have x2 := (heap_cell hx_gd 2).trans rfl; have z2 := blk_frozen hx_gd 2)
                | (go_at_call 97; have hb2 := (((hb_gd.setCell (p := ⟨gd, 0, none⟩) GQ.out (.string da)).setCell (p := ⟨gd, 1, none⟩) GQ.out (.bool true)).setCell (p := ⟨gd, 2, none⟩) GQ.out (.string dc)); have hB2 := (((hB1.setCell (p := ⟨gd, 0, none⟩) GD.out (.string da)).setCell (p := ⟨gd, 1, none⟩) GD.out (.bool true)).setCell (p := ⟨gd, 2, none⟩) GD.out (.string dc)); have hx3 := (blk_put (blk_put (blk_put hx_gd 0 (.string da) rfl) 1 (.bool true) rfl) 2 (.string dc) rfl); refine (Key_calls da _).mono ?_; rw [HKE.out]; rintro e w5 ⟨rfl, hb⟩; have hx := blk_step hx3 hb; have y0 := (heap_cell hx 0).trans rfl; have y1 := (heap_cell hx 1).trans rfl; have y2 := (heap_cell hx 2).trans rfl; have HS5 := As.mk ((HS.out.below hb2).below hb); have HB5 := As.mk (bstep hB2 hb); have hlk := HS5.out.look hmx; rw [HSE.out] at hlk; clear hb hx3 hb2 hB2 hb_gd hB1)
                | (go_at_call 98; refine (Value_calls dc _).mono ?_; rw [HVE.out]; rintro e w6 ⟨rfl, hb⟩; have hx := blk_step hx hb; have y0 := (heap_cell hx 0).trans rfl; have y1 := (heap_cell hx 1).trans rfl; have y2 := (heap_cell hx 2).trans rfl; have HS5 := As.mk (HS5.out.below hb); have HB5 := As.mk (bstep HB5.out hb); have hlk := HS5.out.look hmx; rw [HSE.out] at hlk; clear hb)
                | (at_mapUpdate; refine wp_set_put _ rfl _ _ _ rfl BB pre HS5.out (by rw [hlen]; have := HLM.out; omega) rfl da rfl rfl hmx ⟨da, true, dc⟩ rfl ?_; intro w8 hs8 hg8; have HS8 := As.mk hs8; have HB8 := As.mk (HB5.out.grown hg8 HB5.out.size (fun j hj => by cases hj; exact HBB.out)); clear hs8 hg8))
              go_roundg (l.length - (k + 1))
              case measure => omega
              case rel => exact ⟨k + 1, by go_num, ⟨by rw [HTS.out]; exact HS8.out, by rw [HTS.out]; exact HRF.out, by omega, Nat.le_refl _, HB8.out⟩⟩
          · rw [show badV ⟨da, true, dc⟩ = true by simp [badV, hve], if_pos rfl] at hrf
            have HVE := As.mk hve
            have HRF := As.mk hrf.symm
            clear hke hve hrf
            go_wp2_with (first
              | ((with_reducible refine gate_dst (N := 5) rfl ?_); refine box_event ?hg (N := 5) ?hd (cs := #[.string (⟨#[]⟩ : ByteArray), .bool false, .string (⟨#[]⟩ : ByteArray)]) (t := 95) ?hr ?_; (case hd => rfl); (case hg => rfl); (case hr => first | (go_simp; done) | (go_simp; rfl)); intro gd hg_gd w4 hx_gd hb_gd; have hB1 := bstep hB hb_gd; have GD := As.mk ((by rw [hg_gd]; exact hB.size) : w.heap.size ≤ gd); have GQ := As.mk (Nat.le_of_eq hg_gd.symm); clear hg_gd; have x0 := (heap_cell hx_gd 0).trans rfl; have z0 := blk_frozen hx_gd 0; have x1 := (heap_cell hx_gd 1).trans rfl; have z1 := blk_frozen hx_gd 1; have x2 := (heap_cell hx_gd 2).trans rfl; have z2 := blk_frozen hx_gd 2)
              | (go_at_call 97; have hb2 := (((hb_gd.setCell (p := ⟨gd, 0, none⟩) GQ.out (.string da)).setCell (p := ⟨gd, 1, none⟩) GQ.out (.bool true)).setCell (p := ⟨gd, 2, none⟩) GQ.out (.string dc)); have hB2 := (((hB1.setCell (p := ⟨gd, 0, none⟩) GD.out (.string da)).setCell (p := ⟨gd, 1, none⟩) GD.out (.bool true)).setCell (p := ⟨gd, 2, none⟩) GD.out (.string dc)); have hx3 := (blk_put (blk_put (blk_put hx_gd 0 (.string da) rfl) 1 (.bool true) rfl) 2 (.string dc) rfl); refine (Key_calls da _).mono ?_; rw [HKE.out]; rintro e w5 ⟨rfl, hb⟩; have hx := blk_step hx3 hb; have y0 := (heap_cell hx 0).trans rfl; have y1 := (heap_cell hx 1).trans rfl; have y2 := (heap_cell hx 2).trans rfl; have HS5 := As.mk ((HS.out.below hb2).below hb); have HB5 := As.mk (bstep hB2 hb);  clear hb hx3 hb2 hB2 hb_gd hB1)
              | (go_at_call 98; refine (Value_calls dc _).mono ?_; rw [HVE.out]; rintro e w6 ⟨rfl, hb⟩; have hx := blk_step hx hb; have y0 := (heap_cell hx 0).trans rfl; have y1 := (heap_cell hx 1).trans rfl; have y2 := (heap_cell hx 2).trans rfl; have HS5 := As.mk (HS5.out.below hb); have HB5 := As.mk (bstep HB5.out hb);  clear hb))
            go_ret
            exact ⟨by rw [HRF.out]; rfl, HB5.out⟩
        | false =>
          by_cases hde : dc = ⟨#[]⟩
          · rw [show badV ⟨da, false, dc⟩ = false by simp [badV, hde], if_neg (by decide)] at hrf
            subst hde
            clear hke
            cases hse : (pre.any fun x => decide (x.f0 = da)) with
            | true =>
              rw [hse, if_pos rfl] at hrf
              have HRF := As.mk hrf.symm
              have HSE := As.mk hse
              clear hrf hse
              go_wp2_with (first
                | ((with_reducible refine gate_dst (N := 5) rfl ?_); refine box_event ?hg (N := 5) ?hd (cs := #[.string (⟨#[]⟩ : ByteArray), .bool false, .string (⟨#[]⟩ : ByteArray)]) (t := 95) ?hr ?_; (case hd => rfl); (case hg => rfl); (case hr => first | (go_simp; done) | (go_simp; rfl)); intro gd hg_gd w4 hx_gd hb_gd; have hB1 := bstep hB hb_gd; have GD := As.mk ((by rw [hg_gd]; exact hB.size) : w.heap.size ≤ gd); have GQ := As.mk (Nat.le_of_eq hg_gd.symm); clear hg_gd; have x0 := (heap_cell hx_gd 0).trans rfl; have z0 := blk_frozen hx_gd 0; have x1 := (heap_cell hx_gd 1).trans rfl; have z1 := blk_frozen hx_gd 1; have x2 := (heap_cell hx_gd 2).trans rfl; have z2 := blk_frozen hx_gd 2)
                | (go_at_call 97; have hb2 := (((hb_gd.setCell (p := ⟨gd, 0, none⟩) GQ.out (.string da)).setCell (p := ⟨gd, 1, none⟩) GQ.out (.bool false)).setCell (p := ⟨gd, 2, none⟩) GQ.out (.string ⟨#[]⟩)); have hB2 := (((hB1.setCell (p := ⟨gd, 0, none⟩) GD.out (.string da)).setCell (p := ⟨gd, 1, none⟩) GD.out (.bool false)).setCell (p := ⟨gd, 2, none⟩) GD.out (.string ⟨#[]⟩)); have hx3 := (blk_put (blk_put (blk_put hx_gd 0 (.string da) rfl) 1 (.bool false) rfl) 2 (.string ⟨#[]⟩) rfl); refine (Key_calls da _).mono ?_; rw [HKE.out]; rintro e w5 ⟨rfl, hb⟩; have hx := blk_step hx3 hb; have y0 := (heap_cell hx 0).trans rfl; have y1 := (heap_cell hx 1).trans rfl; have y2 := (heap_cell hx 2).trans rfl; have HS5 := As.mk ((HS.out.below hb2).below hb); have HB5 := As.mk (bstep hB2 hb); have hlk := HS5.out.look hmx; rw [HSE.out] at hlk; clear hb hx3 hb2 hB2 hb_gd hB1))
              go_ret
              exact ⟨by rw [HRF.out]; rfl, HB5.out⟩
            | false =>
              rw [hse, if_neg (by decide)] at hrf
              have HRF := As.mk hrf
              have HSE := As.mk hse
              clear hrf hse
              go_wp2_with (first
                | ((with_reducible refine gate_dst (N := 5) rfl ?_); refine box_event ?hg (N := 5) ?hd (cs := #[.string (⟨#[]⟩ : ByteArray), .bool false, .string (⟨#[]⟩ : ByteArray)]) (t := 95) ?hr ?_; (case hd => rfl); (case hg => rfl); (case hr => first | (go_simp; done) | (go_simp; rfl)); intro gd hg_gd w4 hx_gd hb_gd; have hB1 := bstep hB hb_gd; have GD := As.mk ((by rw [hg_gd]; exact hB.size) : w.heap.size ≤ gd); have GQ := As.mk (Nat.le_of_eq hg_gd.symm); clear hg_gd; have x0 := (heap_cell hx_gd 0).trans rfl; have z0 := blk_frozen hx_gd 0; have x1 := (heap_cell hx_gd 1).trans rfl; have z1 := blk_frozen hx_gd 1; have x2 := (heap_cell hx_gd 2).trans rfl; have z2 := blk_frozen hx_gd 2)
                | (go_at_call 97; have hb2 := (((hb_gd.setCell (p := ⟨gd, 0, none⟩) GQ.out (.string da)).setCell (p := ⟨gd, 1, none⟩) GQ.out (.bool false)).setCell (p := ⟨gd, 2, none⟩) GQ.out (.string ⟨#[]⟩)); have hB2 := (((hB1.setCell (p := ⟨gd, 0, none⟩) GD.out (.string da)).setCell (p := ⟨gd, 1, none⟩) GD.out (.bool false)).setCell (p := ⟨gd, 2, none⟩) GD.out (.string ⟨#[]⟩)); have hx3 := (blk_put (blk_put (blk_put hx_gd 0 (.string da) rfl) 1 (.bool false) rfl) 2 (.string ⟨#[]⟩) rfl); refine (Key_calls da _).mono ?_; rw [HKE.out]; rintro e w5 ⟨rfl, hb⟩; have hx := blk_step hx3 hb; have y0 := (heap_cell hx 0).trans rfl; have y1 := (heap_cell hx 1).trans rfl; have y2 := (heap_cell hx 2).trans rfl; have HS5 := As.mk ((HS.out.below hb2).below hb); have HB5 := As.mk (bstep hB2 hb); have hlk := HS5.out.look hmx; rw [HSE.out] at hlk; clear hb hx3 hb2 hB2 hb_gd hB1)
                | (at_mapUpdate; refine wp_set_put _ rfl _ _ _ rfl BB pre HS5.out (by rw [hlen]; have := HLM.out; omega) rfl da rfl rfl hmx ⟨da, false, ⟨#[]⟩⟩ rfl ?_; intro w8 hs8 hg8; have HS8 := As.mk hs8; have HB8 := As.mk (HB5.out.grown hg8 HB5.out.size (fun j hj => by cases hj; exact HBB.out)); clear hs8 hg8))
              go_roundg (l.length - (k + 1))
              case measure => omega
              case rel => exact ⟨k + 1, by go_num, ⟨by rw [HTS.out]; exact HS8.out, by rw [HTS.out]; exact HRF.out, by omega, Nat.le_refl _, HB8.out⟩⟩
          · rw [show badV ⟨da, false, dc⟩ = true by simp [badV, hde], if_pos rfl] at hrf
            have HRF := As.mk hrf.symm
            have q1 : dc.toList.isEmpty = false := notEmpty hde
            clear hke hrf hde
            go_wp2_with (first
              | ((with_reducible refine gate_dst (N := 5) rfl ?_); refine box_event ?hg (N := 5) ?hd (cs := #[.string (⟨#[]⟩ : ByteArray), .bool false, .string (⟨#[]⟩ : ByteArray)]) (t := 95) ?hr ?_; (case hd => rfl); (case hg => rfl); (case hr => first | (go_simp; done) | (go_simp; rfl)); intro gd hg_gd w4 hx_gd hb_gd; have hB1 := bstep hB hb_gd; have GD := As.mk ((by rw [hg_gd]; exact hB.size) : w.heap.size ≤ gd); have GQ := As.mk (Nat.le_of_eq hg_gd.symm); clear hg_gd; have x0 := (heap_cell hx_gd 0).trans rfl; have z0 := blk_frozen hx_gd 0; have x1 := (heap_cell hx_gd 1).trans rfl; have z1 := blk_frozen hx_gd 1; have x2 := (heap_cell hx_gd 2).trans rfl; have z2 := blk_frozen hx_gd 2)
              | (go_at_call 97; have hb2 := (((hb_gd.setCell (p := ⟨gd, 0, none⟩) GQ.out (.string da)).setCell (p := ⟨gd, 1, none⟩) GQ.out (.bool false)).setCell (p := ⟨gd, 2, none⟩) GQ.out (.string dc)); have hB2 := (((hB1.setCell (p := ⟨gd, 0, none⟩) GD.out (.string da)).setCell (p := ⟨gd, 1, none⟩) GD.out (.bool false)).setCell (p := ⟨gd, 2, none⟩) GD.out (.string dc)); have hx3 := (blk_put (blk_put (blk_put hx_gd 0 (.string da) rfl) 1 (.bool false) rfl) 2 (.string dc) rfl); refine (Key_calls da _).mono ?_; rw [HKE.out]; rintro e w5 ⟨rfl, hb⟩; have hx := blk_step hx3 hb; have y0 := (heap_cell hx 0).trans rfl; have y1 := (heap_cell hx 1).trans rfl; have y2 := (heap_cell hx 2).trans rfl; have HS5 := As.mk ((HS.out.below hb2).below hb); have HB5 := As.mk (bstep hB2 hb);  clear hb hx3 hb2 hB2 hb_gd hB1))
            go_ret
            exact ⟨by rw [HRF.out]; rfl, HB5.out⟩
      · rw [if_neg (by rw [hke]; decide)] at hrf
        have HKE := As.mk hke
        have HRF := As.mk hrf.symm
        clear hke hrf
        go_wp2_with (first
          | ((with_reducible refine gate_dst (N := 5) rfl ?_); refine box_event ?hg (N := 5) ?hd (cs := #[.string (⟨#[]⟩ : ByteArray), .bool false, .string (⟨#[]⟩ : ByteArray)]) (t := 95) ?hr ?_; (case hd => rfl); (case hg => rfl); (case hr => first | (go_simp; done) | (go_simp; rfl)); intro gd hg_gd w4 hx_gd hb_gd; have hB1 := bstep hB hb_gd; have GD := As.mk ((by rw [hg_gd]; exact hB.size) : w.heap.size ≤ gd); have GQ := As.mk (Nat.le_of_eq hg_gd.symm); clear hg_gd; have x0 := (heap_cell hx_gd 0).trans rfl; have z0 := blk_frozen hx_gd 0; have x1 := (heap_cell hx_gd 1).trans rfl; have z1 := blk_frozen hx_gd 1; have x2 := (heap_cell hx_gd 2).trans rfl; have z2 := blk_frozen hx_gd 2)
          | (go_at_call 97; have hb2 := (((hb_gd.setCell (p := ⟨gd, 0, none⟩) GQ.out (.string da)).setCell (p := ⟨gd, 1, none⟩) GQ.out (.bool db)).setCell (p := ⟨gd, 2, none⟩) GQ.out (.string dc)); have hB2 := (((hB1.setCell (p := ⟨gd, 0, none⟩) GD.out (.string da)).setCell (p := ⟨gd, 1, none⟩) GD.out (.bool db)).setCell (p := ⟨gd, 2, none⟩) GD.out (.string dc)); have hx3 := (blk_put (blk_put (blk_put hx_gd 0 (.string da) rfl) 1 (.bool db) rfl) 2 (.string dc) rfl); refine (Key_calls da _).mono ?_; rw [HKE.out]; rintro e w5 ⟨rfl, hb⟩; have hx := blk_step hx3 hb; have y0 := (heap_cell hx 0).trans rfl; have y1 := (heap_cell hx 1).trans rfl; have y2 := (heap_cell hx 2).trans rfl; have HS5 := As.mk ((HS.out.below hb2).below hb); have HB5 := As.mk (bstep hB2 hb);  clear hb hx3 hb2 hB2 hb_gd hB1))
        go_ret
        exact ⟨by rw [HRF.out]; rfl, HB5.out⟩
    · obtain rfl : k = l.length := by omega
      rw [List.drop_length, rightF] at hrf
      have HRF := As.mk hrf.symm
      have HB := As.mk hB
      clear hrf hB hS
      go_wp2_with fail
      go_ret
      exact ⟨by rw [HRF.out]; rfl, HB.out⟩

end Go.Proofs.Ytehnkoglhbbfjaa

namespace Go.Proofs.Ytehnkoglhbbfjaa
open Go.RowKit Go.Proofs.YtehnkoglhbbfjaaW.PrintWords Go.Proofs.YtehnkoglhbbfjaaW.PrintLast Go.Proofs.YtehnkoglhbbfjaaW.PrintMore PAll

theorem getD_mem {α : Type} {l : List α} {k : Nat} (h : k < l.length) (d : α) : l.getD k d ∈ l := by
  rw [List.getD, List.getElem?_eq_getElem h]
  exact List.getElem_mem _

set_option maxHeartbeats 4000000 in
set_option maxRecDepth 100000 in
theorem refRight_calls (v : Value) (l : List S95) (w : World) (h : SlO w v l) (hss : ∀ o ∈ l, o.f0.size < 1000000000 ∧ o.f2.size < 1000000000) : Calls Try.prog 88 #[v] w fun e w' => e = .returned (.int .i64 (rightF [] l)) ∧ Below w.heap.size w w' := by
  obtain ⟨A, c, rfl, hc, hC⟩ := h
  have HC := As.mk hC
  have hl := Kd.C_max hC
  clear hC hc
  go_enter Try.func88, Try.ntmps88
  go_wp2_with fail
  go_loopg [3, 4, 8] l.length (fun m v3 v4 v8 wr => ∃ (k : Nat), v8 = .int .i64 k ∧ As (rightF (l.take k) (l.drop k) = rightF [] l ∧ k ≤ l.length ∧ l.length - k ≤ m ∧ Below w.heap.size w wr))
  case atStart => exact ⟨0, rfl, ⟨rfl, Nat.zero_le _, Nat.le_refl _, Below.refl _ _⟩⟩
  case round =>
    obtain ⟨k, rfl, ⟨hrf, hk, hm, hB⟩⟩ := hrel
    by_cases hlt : k < l.length
    · skip
      obtain ⟨ad, hA, hx0, hx1, hx2⟩ := at_T95 HC.out (k : Int) (by omega) (by omega)
      subst hA
      have hts := take_snoc l z95 k hlt
      have hdr : l.drop k = l.getD k z95 :: l.drop (k + 1) := by rw [dropc l k hlt]; congr 1; simp [List.getD, hlt]
      have hrd : rd_T95 l (k : Int) = l.getD k z95 := by unfold rd_T95; rw [Int.toNat_natCast]
      rw [hrd, Int.toNat_natCast] at hx0
      rw [hrd, Int.toNat_natCast] at hx1 hx2
      have hsz := hss (l.getD k z95) (getD_mem hlt _)
      generalize l.getD k z95 = d at *
      rw [hdr] at hrf
      obtain ⟨da, db, dc⟩ := d
      dsimp only at hx0 hx1 hx2 hsz
      have HSZ := As.mk hsz
      clear hsz
      replace hx0 := (hB.cell (World.block_lt_of_cell? w _ hx0)).trans hx0
      replace hx1 := (hB.cell (World.block_lt_of_cell? w _ hx1)).trans hx1
      replace hx2 := (hB.cell (World.block_lt_of_cell? w _ hx2)).trans hx2
      have p0 : 0 ≤ (k : Int) := by omega
      have hlen : (l.take k).length = k := by rw [List.length_take]; omega
      obtain ⟨pre, hpre⟩ : ∃ pre, pre = l.take k := ⟨_, rfl⟩
      rw [← hpre] at hrf hts hlen
      have HTS := As.mk hts
      rw [rightF] at hrf
      dsimp only at hrf
      have HPRE := As.mk hpre
      clear hts hdr hrd hpre
      rcases keyE_cases da with hke | hke
      · rw [if_pos hke] at hrf
        have HKE := As.mk hke
        cases db with
        | true =>
          rcases valE_cases dc with hve | hve
          · rw [show badV ⟨da, true, dc⟩ = false by simp [badV, hve], if_neg (by decide)] at hrf
            have HVE := As.mk hve
            clear hke hve
            go_wp2_with (first
              | ((with_reducible refine gate_dst (N := 4) rfl ?_); refine box_event ?hg (N := 4) ?hd (cs := #[.string (⟨#[]⟩ : ByteArray), .bool false, .string (⟨#[]⟩ : ByteArray)]) (t := 95) ?hr ?_; (case hd => rfl); (case hg => rfl); (case hr => first | (go_simp; done) | (go_simp; rfl)); intro gd hg_gd w4 hx_gd hb_gd; have hB1 := bstep hB hb_gd; have GD := As.mk ((by rw [hg_gd]; exact hB.size) : w.heap.size ≤ gd); have GQ := As.mk (Nat.le_of_eq hg_gd.symm); clear hg_gd; have x0 := (heap_cell hx_gd 0).trans rfl; have z0 := blk_frozen hx_gd 0; have x1 := (heap_cell hx_gd 1).trans rfl; have z1 := blk_frozen hx_gd 1; have x2 := (heap_cell hx_gd 2).trans rfl; have z2 := blk_frozen hx_gd 2)
              | (go_at_call 99; have hb2 := (((hb_gd.setCell (p := ⟨gd, 0, none⟩) GQ.out (.string da)).setCell (p := ⟨gd, 1, none⟩) GQ.out (.bool true)).setCell (p := ⟨gd, 2, none⟩) GQ.out (.string dc)); have hB2 := (((hB1.setCell (p := ⟨gd, 0, none⟩) GD.out (.string da)).setCell (p := ⟨gd, 1, none⟩) GD.out (.bool true)).setCell (p := ⟨gd, 2, none⟩) GD.out (.string dc)); have hx3 := (blk_put (blk_put (blk_put hx_gd 0 (.string da) rfl) 1 (.bool true) rfl) 2 (.string dc) rfl); refine (refKey_calls da HSZ.out.1 _).mono ?_; rw [HKE.out]; rintro e w5 ⟨rfl, hb⟩; have hx := blk_step hx3 hb; have y0 := (heap_cell hx 0).trans rfl; have y1 := (heap_cell hx 1).trans rfl; have y2 := (heap_cell hx 2).trans rfl; have HB5 := As.mk (bstep hB2 hb); clear hb hx3 hb2 hB2 hb_gd hB1)
              | (go_at_call 100; refine (refValue_calls dc HSZ.out.2 _).mono ?_; rw [HVE.out]; rintro e w6 ⟨rfl, hb⟩; have hx := blk_step hx hb; have y0 := (heap_cell hx 0).trans rfl; have y1 := (heap_cell hx 1).trans rfl; have y2 := (heap_cell hx 2).trans rfl; have HB5 := As.mk (bstep HB5.out hb); clear hb))
            go_loopg [5, 36] k (fun mm v5 v36 wr2 => ∃ (j : Nat), v36 = .int .i64 j ∧ As (((pre.take j).any fun x => decide (x.f0 = da)) = false ∧ j ≤ k ∧ k - j ≤ mm ∧ Below w6.heap.size w6 wr2))
            case atStart => exact ⟨0, rfl, ⟨rfl, Nat.zero_le _, Nat.le_refl _, Below.refl _ _⟩⟩
            case round =>
              obtain ⟨j, rfl, ⟨hj, hjk, hjm, hBj⟩⟩ := hrel
              by_cases hlt2 : j < k
              · obtain ⟨ad2, hA2, hu0, hu1, hu2⟩ := at_T95 HC.out (j : Int) (by omega) (by omega)
                cases hA2
                rw [show rd_T95 l (j : Int) = pre.getD j z95 by unfold rd_T95; rw [Int.toNat_natCast, HPRE.out]; simp [List.getD, List.getElem?_take, hlt2], Int.toNat_natCast] at hu0
                replace hu0 := (hBj.cell (World.block_lt_of_cell? w6 _ ((HB5.out.cell (World.block_lt_of_cell? w _ hu0)).trans hu0))).trans ((HB5.out.cell (World.block_lt_of_cell? w _ hu0)).trans hu0)
                have hxj := blk_step hx hBj
                have v0 : _ = some (Value.string da) := (heap_cell hxj 0).trans rfl
                have hsn := take_snoc pre z95 j (by omega)
                have r0 : 0 ≤ (j : Int) := by omega
                have HJ := As.mk hj
                have HSN := As.mk hsn
                have HAN : As (∀ q ∈ pre, q.f0 = da → (pre.any fun x => decide (x.f0 = da)) = true) := ⟨fun q hq e => List.any_eq_true.2 ⟨q, hq, decide_eq_true e⟩⟩
                have hmem : pre.getD j z95 ∈ pre := getD_mem (by omega) _
                have HMEM := As.mk hmem
                clear hsn hj hu1 hu2 hmem
                generalize pre.getD j z95 = q at *
                obtain ⟨qa, qb, qc⟩ := q
                dsimp only at hu0
                by_cases heq : qa = da
                · have hany := HAN.out _ HMEM.out heq
                  rw [hany, if_pos rfl] at hrf
                  have HRF := As.mk hrf.symm
                  subst heq
                  clear hrf hany
                  go_wp2_with fail
                  go_quiet (fail)
                  go_wp2_with fail
                  go_ret
                  exact ⟨by rw [HRF.out]; rfl, pw_below_drewN (bstep HB5.out hBj) nq⟩
                · have q2 : (qa.toList == da.toList) = false := key_ne heq
                  have HNE := As.mk heq
                  clear heq
                  go_wp2_with fail
                  go_quiet (fail)
                  go_wp2_with fail
                  go_roundg (k - (j + 1))
                  case measure => omega
                  case rel => exact ⟨j + 1, by go_num, ⟨by rw [HSN.out, List.any_append, HJ.out]; simp [HNE.out], by omega, Nat.le_refl _, pw_below_drewN hBj nq⟩⟩
              · obtain rfl : j = k := by omega
                rw [List.take_of_length_le (by omega)] at hj
                rw [hj, if_neg (by decide)] at hrf
                have HRF := As.mk hrf
                have HBJ := As.mk (bstep HB5.out hBj)
                clear hj hrf hBj
                go_wp2_with fail
                go_roundg (l.length - (j + 1))
                case measure => omega
                case rel => exact ⟨j + 1, by go_num, ⟨by rw [HTS.out]; exact HRF.out, by omega, Nat.le_refl _, HBJ.out⟩⟩
          · rw [show badV ⟨da, true, dc⟩ = true by simp [badV, hve], if_pos rfl] at hrf
            have HVE := As.mk hve
            have HRF := As.mk hrf.symm
            clear hke hve hrf
            go_wp2_with (first
              | ((with_reducible refine gate_dst (N := 4) rfl ?_); refine box_event ?hg (N := 4) ?hd (cs := #[.string (⟨#[]⟩ : ByteArray), .bool false, .string (⟨#[]⟩ : ByteArray)]) (t := 95) ?hr ?_; (case hd => rfl); (case hg => rfl); (case hr => first | (go_simp; done) | (go_simp; rfl)); intro gd hg_gd w4 hx_gd hb_gd; have hB1 := bstep hB hb_gd; have GD := As.mk ((by rw [hg_gd]; exact hB.size) : w.heap.size ≤ gd); have GQ := As.mk (Nat.le_of_eq hg_gd.symm); clear hg_gd; have x0 := (heap_cell hx_gd 0).trans rfl; have z0 := blk_frozen hx_gd 0; have x1 := (heap_cell hx_gd 1).trans rfl; have z1 := blk_frozen hx_gd 1; have x2 := (heap_cell hx_gd 2).trans rfl; have z2 := blk_frozen hx_gd 2)
              | (go_at_call 99; have hb2 := (((hb_gd.setCell (p := ⟨gd, 0, none⟩) GQ.out (.string da)).setCell (p := ⟨gd, 1, none⟩) GQ.out (.bool true)).setCell (p := ⟨gd, 2, none⟩) GQ.out (.string dc)); have hB2 := (((hB1.setCell (p := ⟨gd, 0, none⟩) GD.out (.string da)).setCell (p := ⟨gd, 1, none⟩) GD.out (.bool true)).setCell (p := ⟨gd, 2, none⟩) GD.out (.string dc)); have hx3 := (blk_put (blk_put (blk_put hx_gd 0 (.string da) rfl) 1 (.bool true) rfl) 2 (.string dc) rfl); refine (refKey_calls da HSZ.out.1 _).mono ?_; rw [HKE.out]; rintro e w5 ⟨rfl, hb⟩; have hx := blk_step hx3 hb; have y0 := (heap_cell hx 0).trans rfl; have y1 := (heap_cell hx 1).trans rfl; have y2 := (heap_cell hx 2).trans rfl; have HB5 := As.mk (bstep hB2 hb); clear hb hx3 hb2 hB2 hb_gd hB1)
              | (go_at_call 100; refine (refValue_calls dc HSZ.out.2 _).mono ?_; rw [HVE.out]; rintro e w6 ⟨rfl, hb⟩; have hx := blk_step hx hb; have y0 := (heap_cell hx 0).trans rfl; have y1 := (heap_cell hx 1).trans rfl; have y2 := (heap_cell hx 2).trans rfl; have HB5 := As.mk (bstep HB5.out hb); clear hb))
            go_ret
            exact ⟨by rw [HRF.out]; rfl, HB5.out⟩
        | false =>
          by_cases hde : dc = ⟨#[]⟩
          · rw [show badV ⟨da, false, dc⟩ = false by simp [badV, hde], if_neg (by decide)] at hrf
            subst hde
            clear hke
            go_wp2_with (first
              | ((with_reducible refine gate_dst (N := 4) rfl ?_); refine box_event ?hg (N := 4) ?hd (cs := #[.string (⟨#[]⟩ : ByteArray), .bool false, .string (⟨#[]⟩ : ByteArray)]) (t := 95) ?hr ?_; (case hd => rfl); (case hg => rfl); (case hr => first | (go_simp; done) | (go_simp; rfl)); intro gd hg_gd w4 hx_gd hb_gd; have hB1 := bstep hB hb_gd; have GD := As.mk ((by rw [hg_gd]; exact hB.size) : w.heap.size ≤ gd); have GQ := As.mk (Nat.le_of_eq hg_gd.symm); clear hg_gd; have x0 := (heap_cell hx_gd 0).trans rfl; have z0 := blk_frozen hx_gd 0; have x1 := (heap_cell hx_gd 1).trans rfl; have z1 := blk_frozen hx_gd 1; have x2 := (heap_cell hx_gd 2).trans rfl; have z2 := blk_frozen hx_gd 2)
              | (go_at_call 99; have hb2 := (((hb_gd.setCell (p := ⟨gd, 0, none⟩) GQ.out (.string da)).setCell (p := ⟨gd, 1, none⟩) GQ.out (.bool false)).setCell (p := ⟨gd, 2, none⟩) GQ.out (.string ⟨#[]⟩)); have hB2 := (((hB1.setCell (p := ⟨gd, 0, none⟩) GD.out (.string da)).setCell (p := ⟨gd, 1, none⟩) GD.out (.bool false)).setCell (p := ⟨gd, 2, none⟩) GD.out (.string ⟨#[]⟩)); have hx3 := (blk_put (blk_put (blk_put hx_gd 0 (.string da) rfl) 1 (.bool false) rfl) 2 (.string ⟨#[]⟩) rfl); refine (refKey_calls da HSZ.out.1 _).mono ?_; rw [HKE.out]; rintro e w5 ⟨rfl, hb⟩; have hx := blk_step hx3 hb; have y0 := (heap_cell hx 0).trans rfl; have y1 := (heap_cell hx 1).trans rfl; have y2 := (heap_cell hx 2).trans rfl; have HB5 := As.mk (bstep hB2 hb); clear hb hx3 hb2 hB2 hb_gd hB1))
            go_loopg [5, 36] k (fun mm v5 v36 wr2 => ∃ (j : Nat), v36 = .int .i64 j ∧ As (((pre.take j).any fun x => decide (x.f0 = da)) = false ∧ j ≤ k ∧ k - j ≤ mm ∧ Below w5.heap.size w5 wr2))
            case atStart => exact ⟨0, rfl, ⟨rfl, Nat.zero_le _, Nat.le_refl _, Below.refl _ _⟩⟩
            case round =>
              obtain ⟨j, rfl, ⟨hj, hjk, hjm, hBj⟩⟩ := hrel
              by_cases hlt2 : j < k
              · obtain ⟨ad2, hA2, hu0, hu1, hu2⟩ := at_T95 HC.out (j : Int) (by omega) (by omega)
                cases hA2
                rw [show rd_T95 l (j : Int) = pre.getD j z95 by unfold rd_T95; rw [Int.toNat_natCast, HPRE.out]; simp [List.getD, List.getElem?_take, hlt2], Int.toNat_natCast] at hu0
                replace hu0 := (hBj.cell (World.block_lt_of_cell? w5 _ ((HB5.out.cell (World.block_lt_of_cell? w _ hu0)).trans hu0))).trans ((HB5.out.cell (World.block_lt_of_cell? w _ hu0)).trans hu0)
                have hxj := blk_step hx hBj
                have v0 : _ = some (Value.string da) := (heap_cell hxj 0).trans rfl
                have hsn := take_snoc pre z95 j (by omega)
                have r0 : 0 ≤ (j : Int) := by omega
                have HJ := As.mk hj
                have HSN := As.mk hsn
                have HAN : As (∀ q ∈ pre, q.f0 = da → (pre.any fun x => decide (x.f0 = da)) = true) := ⟨fun q hq e => List.any_eq_true.2 ⟨q, hq, decide_eq_true e⟩⟩
                have hmem : pre.getD j z95 ∈ pre := getD_mem (by omega) _
                have HMEM := As.mk hmem
                clear hsn hj hu1 hu2 hmem
                generalize pre.getD j z95 = q at *
                obtain ⟨qa, qb, qc⟩ := q
                dsimp only at hu0
                by_cases heq : qa = da
                · have hany := HAN.out _ HMEM.out heq
                  rw [hany, if_pos rfl] at hrf
                  have HRF := As.mk hrf.symm
                  subst heq
                  clear hrf hany
                  go_wp2_with fail
                  go_quiet (fail)
                  go_wp2_with fail
                  go_ret
                  exact ⟨by rw [HRF.out]; rfl, pw_below_drewN (bstep HB5.out hBj) nq⟩
                · have q2 : (qa.toList == da.toList) = false := key_ne heq
                  have HNE := As.mk heq
                  clear heq
                  go_wp2_with fail
                  go_quiet (fail)
                  go_wp2_with fail
                  go_roundg (k - (j + 1))
                  case measure => omega
                  case rel => exact ⟨j + 1, by go_num, ⟨by rw [HSN.out, List.any_append, HJ.out]; simp [HNE.out], by omega, Nat.le_refl _, pw_below_drewN hBj nq⟩⟩
              · obtain rfl : j = k := by omega
                rw [List.take_of_length_le (by omega)] at hj
                rw [hj, if_neg (by decide)] at hrf
                have HRF := As.mk hrf
                have HBJ := As.mk (bstep HB5.out hBj)
                clear hj hrf hBj
                go_wp2_with fail
                go_roundg (l.length - (j + 1))
                case measure => omega
                case rel => exact ⟨j + 1, by go_num, ⟨by rw [HTS.out]; exact HRF.out, by omega, Nat.le_refl _, HBJ.out⟩⟩
          · rw [show badV ⟨da, false, dc⟩ = true by simp [badV, hde], if_pos rfl] at hrf
            have HRF := As.mk hrf.symm
            have q1 : dc.toList.isEmpty = false := notEmpty hde
            clear hke hrf hde
            go_wp2_with (first
              | ((with_reducible refine gate_dst (N := 4) rfl ?_); refine box_event ?hg (N := 4) ?hd (cs := #[.string (⟨#[]⟩ : ByteArray), .bool false, .string (⟨#[]⟩ : ByteArray)]) (t := 95) ?hr ?_; (case hd => rfl); (case hg => rfl); (case hr => first | (go_simp; done) | (go_simp; rfl)); intro gd hg_gd w4 hx_gd hb_gd; have hB1 := bstep hB hb_gd; have GD := As.mk ((by rw [hg_gd]; exact hB.size) : w.heap.size ≤ gd); have GQ := As.mk (Nat.le_of_eq hg_gd.symm); clear hg_gd; have x0 := (heap_cell hx_gd 0).trans rfl; have z0 := blk_frozen hx_gd 0; have x1 := (heap_cell hx_gd 1).trans rfl; have z1 := blk_frozen hx_gd 1; have x2 := (heap_cell hx_gd 2).trans rfl; have z2 := blk_frozen hx_gd 2)
              | (go_at_call 99; have hb2 := (((hb_gd.setCell (p := ⟨gd, 0, none⟩) GQ.out (.string da)).setCell (p := ⟨gd, 1, none⟩) GQ.out (.bool false)).setCell (p := ⟨gd, 2, none⟩) GQ.out (.string dc)); have hB2 := (((hB1.setCell (p := ⟨gd, 0, none⟩) GD.out (.string da)).setCell (p := ⟨gd, 1, none⟩) GD.out (.bool false)).setCell (p := ⟨gd, 2, none⟩) GD.out (.string dc)); have hx3 := (blk_put (blk_put (blk_put hx_gd 0 (.string da) rfl) 1 (.bool false) rfl) 2 (.string dc) rfl); refine (refKey_calls da HSZ.out.1 _).mono ?_; rw [HKE.out]; rintro e w5 ⟨rfl, hb⟩; have hx := blk_step hx3 hb; have y0 := (heap_cell hx 0).trans rfl; have y1 := (heap_cell hx 1).trans rfl; have y2 := (heap_cell hx 2).trans rfl; have HB5 := As.mk (bstep hB2 hb); clear hb hx3 hb2 hB2 hb_gd hB1))
            go_ret
            exact ⟨by rw [HRF.out]; rfl, HB5.out⟩
      · rw [if_neg (by rw [hke]; decide)] at hrf
        have HKE := As.mk hke
        have HRF := As.mk hrf.symm
        clear hke hrf
        go_wp2_with (first
          | ((with_reducible refine gate_dst (N := 4) rfl ?_); refine box_event ?hg (N := 4) ?hd (cs := #[.string (⟨#[]⟩ : ByteArray), .bool false, .string (⟨#[]⟩ : ByteArray)]) (t := 95) ?hr ?_; (case hd => rfl); (case hg => rfl); (case hr => first | (go_simp; done) | (go_simp; rfl)); intro gd hg_gd w4 hx_gd hb_gd; have hB1 := bstep hB hb_gd; have GD := As.mk ((by rw [hg_gd]; exact hB.size) : w.heap.size ≤ gd); have GQ := As.mk (Nat.le_of_eq hg_gd.symm); clear hg_gd; have x0 := (heap_cell hx_gd 0).trans rfl; have z0 := blk_frozen hx_gd 0; have x1 := (heap_cell hx_gd 1).trans rfl; have z1 := blk_frozen hx_gd 1; have x2 := (heap_cell hx_gd 2).trans rfl; have z2 := blk_frozen hx_gd 2)
          | (go_at_call 99; have hb2 := (((hb_gd.setCell (p := ⟨gd, 0, none⟩) GQ.out (.string da)).setCell (p := ⟨gd, 1, none⟩) GQ.out (.bool db)).setCell (p := ⟨gd, 2, none⟩) GQ.out (.string dc)); have hB2 := (((hB1.setCell (p := ⟨gd, 0, none⟩) GD.out (.string da)).setCell (p := ⟨gd, 1, none⟩) GD.out (.bool db)).setCell (p := ⟨gd, 2, none⟩) GD.out (.string dc)); have hx3 := (blk_put (blk_put (blk_put hx_gd 0 (.string da) rfl) 1 (.bool db) rfl) 2 (.string dc) rfl); refine (refKey_calls da HSZ.out.1 _).mono ?_; rw [HKE.out]; rintro e w5 ⟨rfl, hb⟩; have hx := blk_step hx3 hb; have y0 := (heap_cell hx 0).trans rfl; have y1 := (heap_cell hx 1).trans rfl; have y2 := (heap_cell hx 2).trans rfl; have HB5 := As.mk (bstep hB2 hb); clear hb hx3 hb2 hB2 hb_gd hB1))
        go_ret
        exact ⟨by rw [HRF.out]; rfl, HB5.out⟩
    · obtain rfl : k = l.length := by omega
      rw [List.drop_length, rightF] at hrf
      have HRF := As.mk hrf.symm
      have HB := As.mk hB
      clear hrf hB
      go_wp2_with fail
      go_ret
      exact ⟨by rw [HRF.out]; rfl, HB.out⟩

def checkF (cs os : List S95) : Int := if os.length = 0 ∨ 6 < os.length ∨ 6 < cs.length then 61 else if rightF [] cs = 0 then rightF [] os else rightF [] cs

set_option maxHeartbeats 1000000 in
set_option maxRecDepth 100000 in
theorem kvCheck_calls (u v : Value) (cs os : List S95) (w : World) (hc : SlO w u cs) (ho : SlO w v os) : Calls Try.prog 56 #[u, v] w fun e w' => e = .returned (.int .i64 (checkF cs os)) ∧ Below w.heap.size w w' := by
  have HC := As.mk hc
  have HO := As.mk ho
  obtain ⟨A, c, rfl, -, -⟩ := hc
  obtain ⟨A', c', rfl, -, -⟩ := ho
  obtain ⟨R, hR⟩ : ∃ R, R = checkF cs os := ⟨_, rfl⟩
  obtain ⟨r1, hr1⟩ : ∃ r, r = rightF [] cs := ⟨_, rfl⟩
  obtain ⟨r2, hr2⟩ : ∃ r, r = rightF [] os := ⟨_, rfl⟩
  have hR0 := hR
  unfold checkF at hR
  rw [← hr1, ← hr2] at hR
  rw [← hR0]
  have HR1 := As.mk hr1
  have HR2 := As.mk hr2
  clear hr1 hr2 hR0
  by_cases h1 : os.length = 0
  · rw [if_pos (.inl h1)] at hR
    subst hR
    have q1 : ((os.length : Nat) : Int) = 0 := by omega
    go_enter Try.func56, Try.ntmps56
    go_wp2_with fail
    go_ret
    exact ⟨rfl, Below.refl _ _⟩
  by_cases h2 : 6 < os.length
  · rw [if_pos (.inr (.inl h2))] at hR
    subst hR
    have q1 : ((((os.length : Nat) : Int)) == 0) = false := by rw [beq_eq_false_iff_ne]; omega
    have q2 : (6 : Int) < ((os.length : Nat) : Int) := by omega
    go_enter Try.func56, Try.ntmps56
    go_wp2_with fail
    go_ret
    exact ⟨rfl, Below.refl _ _⟩
  by_cases h3 : 6 < cs.length
  · rw [if_pos (.inr (.inr h3))] at hR
    subst hR
    have q1 : ((((os.length : Nat) : Int)) == 0) = false := by rw [beq_eq_false_iff_ne]; omega
    have q2 : ¬ (6 : Int) < ((os.length : Nat) : Int) := by omega
    have q3 : (6 : Int) < ((cs.length : Nat) : Int) := by omega
    go_enter Try.func56, Try.ntmps56
    go_wp2_with fail
    go_ret
    exact ⟨rfl, Below.refl _ _⟩
  rw [if_neg (by omega)] at hR
  have q1 : ((((os.length : Nat) : Int)) == 0) = false := by rw [beq_eq_false_iff_ne]; omega
  have q2 : ¬ (6 : Int) < ((os.length : Nat) : Int) := by omega
  have q3 : ¬ (6 : Int) < ((cs.length : Nat) : Int) := by omega
  have TOK := True.intro
  by_cases h4 : r1 = 0
  · rw [if_pos h4] at hR
    have HRR := As.mk hR
    have HR1' : As (rightF [] cs = 0) := ⟨by rw [← HR1.out, h4]⟩
    subst h4
    clear hR
    go_enter Try.func56, Try.ntmps56
    go_wp2_with (first
      | (go_at_call 87; have _t := TOK; refine (kvRight_calls _ cs w HC.out).mono ?_; rw [HR1'.out]; rintro e w2 ⟨rfl, hb⟩; have HB := As.mk hb; clear hb TOK)
      | (go_at_call 87; refine (kvRight_calls _ os _ (HO.out.below HB.out)).mono ?_; rw [← HR2.out]; rintro e w3 ⟨rfl, hb⟩; have HB := As.mk (bstep HB.out hb); clear hb))
    go_ret
    exact ⟨by rw [HRR.out]; rfl, HB.out⟩
  · rw [if_neg h4] at hR
    have HRR := As.mk hR
    have q4 : (r1 == 0) = false := by rw [beq_eq_false_iff_ne]; exact h4
    clear hR
    go_enter Try.func56, Try.ntmps56
    go_wp2_with (first
      | (go_at_call 87; refine (kvRight_calls _ cs w HC.out).mono ?_; rw [← HR1.out]; rintro e w2 ⟨rfl, hb⟩; have HB := As.mk hb; clear hb))
    go_ret
    exact ⟨by rw [HRR.out]; rfl, HB.out⟩

set_option maxHeartbeats 1000000 in
set_option maxRecDepth 100000 in
theorem refCheck_calls (u v : Value) (cs os : List S95) (w : World) (hc : SlO w u cs) (ho : SlO w v os) (hcs : ∀ o ∈ cs, o.f0.size < 1000000000 ∧ o.f2.size < 1000000000) (hos : ∀ o ∈ os, o.f0.size < 1000000000 ∧ o.f2.size < 1000000000) : Calls Try.prog 57 #[u, v] w fun e w' => e = .returned (.int .i64 (checkF cs os)) ∧ Below w.heap.size w w' := by
  have HC := As.mk hc
  have HO := As.mk ho
  obtain ⟨A, c, rfl, -, -⟩ := hc
  obtain ⟨A', c', rfl, -, -⟩ := ho
  obtain ⟨R, hR⟩ : ∃ R, R = checkF cs os := ⟨_, rfl⟩
  obtain ⟨r1, hr1⟩ : ∃ r, r = rightF [] cs := ⟨_, rfl⟩
  obtain ⟨r2, hr2⟩ : ∃ r, r = rightF [] os := ⟨_, rfl⟩
  have hR0 := hR
  unfold checkF at hR
  rw [← hr1, ← hr2] at hR
  rw [← hR0]
  have HR1 := As.mk hr1
  have HR2 := As.mk hr2
  clear hr1 hr2 hR0
  by_cases h1 : os.length = 0
  · rw [if_pos (.inl h1)] at hR
    subst hR
    have q1 : ((os.length : Nat) : Int) = 0 := by omega
    go_enter Try.func57, Try.ntmps57
    go_wp2_with fail
    go_ret
    exact ⟨rfl, Below.refl _ _⟩
  by_cases h2 : 6 < os.length
  · rw [if_pos (.inr (.inl h2))] at hR
    subst hR
    have q1 : ((((os.length : Nat) : Int)) == 0) = false := by rw [beq_eq_false_iff_ne]; omega
    have q2 : (6 : Int) < ((os.length : Nat) : Int) := by omega
    go_enter Try.func57, Try.ntmps57
    go_wp2_with fail
    go_ret
    exact ⟨rfl, Below.refl _ _⟩
  by_cases h3 : 6 < cs.length
  · rw [if_pos (.inr (.inr h3))] at hR
    subst hR
    have q1 : ((((os.length : Nat) : Int)) == 0) = false := by rw [beq_eq_false_iff_ne]; omega
    have q2 : ¬ (6 : Int) < ((os.length : Nat) : Int) := by omega
    have q3 : (6 : Int) < ((cs.length : Nat) : Int) := by omega
    go_enter Try.func57, Try.ntmps57
    go_wp2_with fail
    go_ret
    exact ⟨rfl, Below.refl _ _⟩
  rw [if_neg (by omega)] at hR
  have q1 : ((((os.length : Nat) : Int)) == 0) = false := by rw [beq_eq_false_iff_ne]; omega
  have q2 : ¬ (6 : Int) < ((os.length : Nat) : Int) := by omega
  have q3 : ¬ (6 : Int) < ((cs.length : Nat) : Int) := by omega
  have TOK := True.intro
  by_cases h4 : r1 = 0
  · rw [if_pos h4] at hR
    have HRR := As.mk hR
    have HR1' : As (rightF [] cs = 0) := ⟨by rw [← HR1.out, h4]⟩
    subst h4
    clear hR
    go_enter Try.func57, Try.ntmps57
    go_wp2_with (first
      | (go_at_call 88; have _t := TOK; refine (refRight_calls _ cs w HC.out hcs).mono ?_; rw [HR1'.out]; rintro e w2 ⟨rfl, hb⟩; have HB := As.mk hb; clear hb TOK)
      | (go_at_call 88; refine (refRight_calls _ os _ (HO.out.below HB.out) hos).mono ?_; rw [← HR2.out]; rintro e w3 ⟨rfl, hb⟩; have HB := As.mk (bstep HB.out hb); clear hb))
    go_ret
    exact ⟨by rw [HRR.out]; rfl, HB.out⟩
  · rw [if_neg h4] at hR
    have HRR := As.mk hR
    have q4 : (r1 == 0) = false := by rw [beq_eq_false_iff_ne]; exact h4
    clear hR
    go_enter Try.func57, Try.ntmps57
    go_wp2_with (first
      | (go_at_call 88; refine (refRight_calls _ cs w HC.out hcs).mono ?_; rw [← HR1.out]; rintro e w2 ⟨rfl, hb⟩; have HB := As.mk hb; clear hb))
    go_ret
    exact ⟨by rw [HRR.out]; rfl, HB.out⟩

end Go.Proofs.Ytehnkoglhbbfjaa

namespace Go.Proofs.Ytehnkoglhbbfjaa
open Go.RowKit Go.Proofs.YtehnkoglhbbfjaaW.PrintWords Go.Proofs.YtehnkoglhbbfjaaW.PrintLast Go.Proofs.YtehnkoglhbbfjaaW.PrintMore PAll

/-- A tree as an object that is no nil pointer. -/
def IsTS (w : World) (p : Option Addr) (t : T) : Prop := ∃ b q, p = some ⟨b, 0, none⟩ ∧ w.heap[b]? = some (.cells #[.pointer q] 83 (0, 0)) ∧ IsT w q t
theorem IsTS.tr {w : World} {p : Option Addr} {t : T} (h : IsTS w p t) : IsTr w p t := Or.inr h
theorem IsTS.below {w w' : World} {p : Option Addr} {t : T} (h : IsTS w p t) (hb : Below w.heap.size w w') : IsTS w' p t := by
  obtain ⟨b, q, rfl, hc, ht⟩ := h
  exact ⟨b, q, rfl, blk_step hc hb, ht.below hb⟩
theorem turn_trans {b : Nat} {w w1 w2 : World} (h : w.grownBy w1 (some b)) (k : w1.grownBy w2 (some b)) : w.grownBy w2 (some b) :=
  ⟨k.os.trans h.os, k.tape.trans h.tape, k.output.trans h.output, Nat.le_trans h.size k.size, fun i hi hr => (k.block i (Nat.lt_of_lt_of_le hi h.size) hr).trans (h.block i hi hr)⟩
theorem turn_below {b B : Nat} {w w' : World} (h : w.grownBy w' (some b)) (hb : B ≤ b) (hB : B ≤ w.heap.size) : Below B w w' :=
  ⟨h.os, h.tape, h.output, h.size, fun i hi => h.block i (by omega) (fun e => by cases e; omega)⟩
theorem turn_set {b : Nat} {w w1 : World} (h : w.grownBy w1 (some b)) (i : Nat) (u : Value) : w.grownBy (w1.setCell ⟨b, i, none⟩ u) (some b) :=
  ⟨h.os, h.tape, h.output, by simpa [World.setCell] using h.size, fun k hk hr => (Below.heap_setCell w1 ⟨b, i, none⟩ u k (fun e => hr (by rw [e]))).trans (h.block k hk hr)⟩
theorem IsT.turn {w w' : World} {b : Nat} {cs : Array Value} {ty : TypeId} {m : Nat × Nat} (hm : w.heap[b]? = some (.cells cs ty m)) (hty : ty ≠ 111) (hg : w.grownBy w' (some b)) {t : T} : ∀ {p : Option Addr}, IsT w p t → IsT w' p t := by
  induction t with
  | nil => intro p h; exact h
  | node l k v r ihl ihr =>
    intro p hp
    obtain ⟨g, lp, rp, rfl, hc, hl, hr⟩ := hp
    refine ⟨g, lp, rp, rfl, (hg.block g (blk_lt hc) (fun e' => ?_)).trans hc, ihl hl, ihr hr⟩
    cases e'
    rw [hm] at hc
    simp only [Option.some.injEq, Obj.cells.injEq] at hc
    exact hty hc.2.1
theorem IsTS.turn {w w' : World} {b : Nat} {cs : Array Value} {ty : TypeId} {m : Nat × Nat} (hm : w.heap[b]? = some (.cells cs ty m)) (hty : ty ≠ 111) (hty' : ty ≠ 83) (hg : w.grownBy w' (some b)) {t : T} {p : Option Addr} (h : IsTS w p t) : IsTS w' p t := by
  obtain ⟨g, q, rfl, hc, ht⟩ := h
  refine ⟨g, q, rfl, (hg.block g (blk_lt hc) (fun e' => ?_)).trans hc, ht.turn hm hty hg⟩
  cases e'
  rw [hm] at hc
  simp only [Option.some.injEq, Obj.cells.injEq] at hc
  exact hty' hc.2.1
/-- A map as an object: a cell that holds a tree. -/
def IsM (w : World) (b : Nat) (t : T) : Prop := ∃ g q, w.heap[b]? = some (.cells #[.pointer (some ⟨g, 0, none⟩)] 119 (0, 0)) ∧ w.heap[g]? = some (.cells #[.pointer q] 83 (0, 0)) ∧ IsT w q t
theorem IsM.ts {w : World} {b : Nat} {t : T} (h : IsM w b t) : ∃ g, w.heap[b]? = some (.cells #[.pointer (some ⟨g, 0, none⟩)] 119 (0, 0)) ∧ IsTS w (some ⟨g, 0, none⟩) t := by
  obtain ⟨g, q, h1, h2, h3⟩ := h
  exact ⟨g, h1, g, q, rfl, h2, h3⟩
theorem IsM.of {w : World} {b : Nat} {t : T} {p : Option Addr} (h : w.heap[b]? = some (.cells #[.pointer p] 119 (0, 0))) (ht : IsTS w p t) : IsM w b t := by
  obtain ⟨g, q, rfl, h2, h3⟩ := ht
  exact ⟨g, q, h, h2, h3⟩
theorem IsM.below {w w' : World} {b : Nat} {t : T} (h : IsM w b t) (hb : Below w.heap.size w w') : IsM w' b t := by
  obtain ⟨g, q, h1, h2, h3⟩ := h
  exact ⟨g, q, blk_step h1 hb, blk_step h2 hb, h3.below hb⟩
theorem IsM.lt {w : World} {b : Nat} {t : T} (h : IsM w b t) : b < w.heap.size := by
  obtain ⟨g, q, h1, -⟩ := h
  exact blk_lt h1
/-- Another map stays what it is. -/
theorem IsM.turn {w w' : World} {a b : Nat} {t u : T} (h : IsM w a t) (hb : IsM w b u) (hne : a ≠ b) (hg : w.grownBy w' (some b)) : IsM w' a t := by
  obtain ⟨g, h1, h2⟩ := h.ts
  obtain ⟨g', q', h1', -⟩ := hb
  exact IsM.of ((hg.block a (blk_lt h1) (fun e => hne (by cases e; rfl))).trans h1) (h2.turn h1' (by decide) (by decide) hg)

set_option maxHeartbeats 1000000 in
set_option maxRecDepth 100000 in
theorem NewS_calls (w : World) : Calls Try.prog 46 #[] w fun e w' => ∃ p, e = .returned (.pointer p) ∧ IsTS w' p .nil ∧ Below w.heap.size w w' := by
  go_enter Try.func46, Try.ntmps46
  go_wp2_with (first | ((with_reducible refine gate_dst (N := 2) rfl ?_); refine box_event ?hg (N := 2) ?hd (cs := #[.pointer none]) (t := 83) ?hr ?_; (case hd => rfl); (case hg => rfl); (case hr => first | (go_simp; done) | (go_simp; rfl)); intro gt hg_t wt hx_t hb_t; clear hg_t; skip))
  go_ret
  exact ⟨_, rfl, ⟨_, none, rfl, hx_t, rfl⟩, hb_t⟩

set_option maxHeartbeats 1000000 in
set_option maxRecDepth 100000 in
theorem PutS_calls (p : Option Addr) (t : T) (key val : ByteArray) (w : World) (h : IsTr w p t) (hs : t.size < 900000000) :
    Calls Try.prog 36 #[.pointer p, .string key, .string val] w fun e w' => ∃ p', e = .returned (.pointer p') ∧ IsTS w' p' (t.tput key val) ∧ Below w.heap.size w w' := by
  cases hf : t.find key with
  | nil =>
    rw [show t.tput key val = t.put key val by unfold T.tput; rw [hf]]
    have HF := As.mk hf
    clear hf
    go_enter Try.func36, Try.ntmps36
    go_wp2_with (first
      | (go_at_call 79; refine (top_calls p t w h).mono ?_; rintro e w2 ⟨q, rfl, ht, rfl⟩)
      | (go_at_call 82; refine (find_calls key t q w ht).mono ?_; rintro e w2 ⟨q2, rfl, ht2, rfl⟩; rw [HF.out] at ht2; obtain rfl : q2 = none := ht2)
      | (go_at_call 77; refine (put_calls key val t _ w ht hs).mono ?_; rintro e w3 ⟨q3, rfl, ht3, hB3⟩)
      | ((with_reducible refine gate_dst (N := 34) rfl ?_); refine box_event ?hg (N := 34) ?hd (cs := #[.pointer q3]) (t := 83) ?hr ?_; (case hd => rfl); (case hg => rfl); (case hr => first | (go_simp; done) | (go_simp; rfl)); intro gt hg_t wt hx_t hb_t; clear hg_t; skip))
    go_ret
    exact ⟨_, rfl, ⟨_, q3, rfl, hx_t, ht3.below hb_t⟩, bstep hB3 hb_t⟩
  | node l k v r =>
    by_cases c : v = val
    · subst c
      rw [show t.tput key v = t by unfold T.tput; rw [hf]; exact if_pos rfl]
      have HF := As.mk hf
      clear hf
      go_enter Try.func36, Try.ntmps36
      go_wp2_with (first
        | (go_at_call 79; refine (top_calls p t w h).mono ?_; rintro e w2 ⟨q, rfl, ht, rfl⟩)
        | (go_at_call 82; refine (find_calls key t q w ht).mono ?_; rintro e w2 ⟨q2, rfl, ht2, rfl⟩; rw [HF.out] at ht2; obtain ⟨b, lp, rp, rfl, hb, hl, hr⟩ := ht2; obtain ⟨e0, e1, e2, e3, -, -⟩ := cells6 hb)
        | ((with_reducible refine gate_dst (N := 26) rfl ?_); refine box_event ?hg (N := 26) ?hd (cs := #[.pointer q]) (t := 83) ?hr ?_; (case hd => rfl); (case hg => rfl); (case hr => first | (go_simp; done) | (go_simp; rfl)); intro gt hg_t wt hx_t hb_t; clear hg_t; skip))
      go_ret
      exact ⟨_, rfl, ⟨_, q, rfl, hx_t, ht.below hb_t⟩, hb_t⟩
    · rw [show t.tput key val = t.put key val by unfold T.tput; rw [hf]; exact if_neg c]
      have c' := key_ne c
      have HF := As.mk hf
      clear hf c
      go_enter Try.func36, Try.ntmps36
      go_wp2_with (first
        | (go_at_call 79; refine (top_calls p t w h).mono ?_; rintro e w2 ⟨q, rfl, ht, rfl⟩)
        | (go_at_call 82; refine (find_calls key t q w ht).mono ?_; rintro e w2 ⟨q2, rfl, ht2, rfl⟩; rw [HF.out] at ht2; obtain ⟨b, lp, rp, rfl, hb, hl, hr⟩ := ht2; obtain ⟨e0, e1, e2, e3, -, -⟩ := cells6 hb)
        | (go_at_call 77; refine (put_calls key val t _ w ht hs).mono ?_; rintro e w3 ⟨q3, rfl, ht3, hB3⟩)
        | ((with_reducible refine gate_dst (N := 34) rfl ?_); refine box_event ?hg (N := 34) ?hd (cs := #[.pointer q3]) (t := 83) ?hr ?_; (case hd => rfl); (case hg => rfl); (case hr => first | (go_simp; done) | (go_simp; rfl)); intro gt hg_t wt hx_t hb_t; clear hg_t; skip))
      go_ret
      exact ⟨_, rfl, ⟨_, q3, rfl, hx_t, ht3.below hb_t⟩, bstep hB3 hb_t⟩

set_option maxHeartbeats 1000000 in
set_option maxRecDepth 100000 in
theorem DropS_calls (p : Option Addr) (t : T) (key : ByteArray) (w : World) (h : IsTr w p t) (hs : t.size < 1000000000) :
    Calls Try.prog 37 #[.pointer p, .string key] w fun e w' => ∃ p', e = .returned (.pointer p') ∧ IsTS w' p' (t.tdrop key) ∧ Below w.heap.size w w' := by
  cases hf : t.find key with
  | nil =>
    rw [show t.tdrop key = t by unfold T.tdrop; rw [hf]]
    have HF := As.mk hf
    clear hf
    go_enter Try.func37, Try.ntmps37
    go_wp2_with (first
      | (go_at_call 79; refine (top_calls p t _ h).mono ?_; rintro e w2 ⟨q, rfl, ht, rfl⟩)
      | (go_at_call 82; refine (find_calls key t q w ht).mono ?_; rintro e w2 ⟨q2, rfl, ht2, rfl⟩; rw [HF.out] at ht2; obtain rfl : q2 = none := ht2)
      | ((with_reducible refine gate_dst (N := 13) rfl ?_); refine box_event ?hg (N := 13) ?hd (cs := #[.pointer q]) (t := 83) ?hr ?_; (case hd => rfl); (case hg => rfl); (case hr => first | (go_simp; done) | (go_simp; rfl)); intro gt hg_t wt hx_t hb_t; clear hg_t; skip))
    go_ret
    exact ⟨_, rfl, ⟨_, q, rfl, hx_t, ht.below hb_t⟩, hb_t⟩
  | node l k v r =>
    rw [show t.tdrop key = t.drop key by unfold T.tdrop; rw [hf]]
    have HF := As.mk hf
    clear hf
    go_enter Try.func37, Try.ntmps37
    go_wp2_with (first
      | (go_at_call 79; refine (top_calls p t _ h).mono ?_; rintro e w2 ⟨q, rfl, ht, rfl⟩)
      | (go_at_call 82; refine (find_calls key t q w ht).mono ?_; rintro e w2 ⟨q2, rfl, ht2, rfl⟩; rw [HF.out] at ht2; obtain ⟨b, lp, rp, rfl, hb, hl, hr⟩ := ht2; obtain ⟨e0, e1, e2, e3, -, -⟩ := cells6 hb)
      | (go_at_call 83; refine (drop_calls key t q w ht hs).mono ?_; rintro e w3 ⟨q3, rfl, ht3, hB3⟩)
      | ((with_reducible refine gate_dst (N := 19) rfl ?_); refine box_event ?hg (N := 19) ?hd (cs := #[.pointer q3]) (t := 83) ?hr ?_; (case hd => rfl); (case hg => rfl); (case hr => first | (go_simp; done) | (go_simp; rfl)); intro gt hg_t wt hx_t hb_t; clear hg_t; skip))
    go_ret
    exact ⟨_, rfl, ⟨_, q3, rfl, hx_t, ht3.below hb_t⟩, bstep hB3 hb_t⟩

set_option maxHeartbeats 1000000 in
set_option maxRecDepth 100000 in
theorem kvNew_calls (w : World) : Calls Try.prog 68 #[] w fun e w' => ∃ b, e = .returned (.pointer (some ⟨b, 0, none⟩)) ∧ w.heap.size ≤ b ∧ IsM w' b .nil ∧ Below w.heap.size w w' := by
  go_enter Try.func68, Try.ntmps68
  go_wp2_with (first
    | (go_at_call 46; refine (NewS_calls w).mono ?_; rintro e w2 ⟨p, rfl, ht, hb⟩))
  go_ret
  have hb2 : Below w2.heap.size w2 (w2.alloc (.cells #[.pointer p] 119)) := (Below.refl _ _).alloc (Nat.le_refl _) _
  exact ⟨_, rfl, hb.size, IsM.of (heap_alloc_new w2 (.cells #[.pointer p] 119)) (ht.below hb2), bstep hb hb2⟩

set_option maxHeartbeats 1000000 in
set_option maxRecDepth 100000 in
theorem kvMade_calls (b : Nat) (t : T) (w : World) (h : IsM w b t) : Calls Try.prog 93 #[.pointer (some ⟨b, 0, none⟩)] w fun e w' => e = .returned (.bool true) ∧ w = w' := by
  obtain ⟨g, q, h1, -, -⟩ := h
  have c0 : w.cell? ⟨b, 0, none⟩ = some (.pointer (some ⟨g, 0, none⟩)) := (heap_cell h1 0).trans rfl
  go_enter Try.func93, Try.ntmps93
  go_wp2
  go_ret
  exact ⟨rfl, rfl⟩

set_option maxHeartbeats 1000000 in
set_option maxRecDepth 100000 in
theorem kvGet_calls (b : Nat) (t : T) (key : ByteArray) (w : World) (h : IsM w b t) : Calls Try.prog 69 #[.pointer (some ⟨b, 0, none⟩), .string key] w fun e w' => e = .returned (.tuple #[.string (t.get key).1, .bool (t.get key).2]) ∧ w = w' := by
  obtain ⟨g, h1, h2⟩ := h.ts
  have c0 : w.cell? ⟨b, 0, none⟩ = some (.pointer (some ⟨g, 0, none⟩)) := (heap_cell h1 0).trans rfl
  generalize hG : t.get key = G
  obtain ⟨gv, gb⟩ := G
  have HG := As.mk hG
  clear hG
  go_enter Try.func69, Try.ntmps69
  go_wp2_with (first
    | (go_at_call 93; refine (kvMade_calls b t w h).mono ?_; rintro e w2 ⟨rfl, rfl⟩)
    | (go_at_call 47; refine (Get_calls _ t key w h2.tr).mono ?_; rw [HG.out]; rintro e w2 ⟨rfl, rfl⟩))
  go_ret2
  exact ⟨rfl, rfl⟩

set_option maxHeartbeats 1000000 in
set_option maxRecDepth 100000 in
theorem kvLen_calls (b : Nat) (t : T) (w : World) (h : IsM w b t) : Calls Try.prog 76 #[.pointer (some ⟨b, 0, none⟩)] w fun e w' => e = .returned (.int .i64 t.size) ∧ w = w' := by
  obtain ⟨g, h1, h2⟩ := h.ts
  have c0 : w.cell? ⟨b, 0, none⟩ = some (.pointer (some ⟨g, 0, none⟩)) := (heap_cell h1 0).trans rfl
  go_enter Try.func76, Try.ntmps76
  go_wp2_with (first
    | (go_at_call 93; refine (kvMade_calls b t w h).mono ?_; rintro e w2 ⟨rfl, rfl⟩)
    | (go_at_call 26; refine (Len_calls _ t w h2.tr).mono ?_; rintro e w2 ⟨rfl, rfl⟩))
  go_ret
  exact ⟨rfl, rfl⟩

theorem k51_free {W W' : World} {x : S51} {cs : List Value} (h : k51.K W x cs) : k51.K W' x cs := by
  have := k51_open h
  subst this
  exact k51_mk W' x
theorem C51_turn {w w' : World} {b n : Nat} {A : Option Addr} {l : List S51} (h : Kd.C k51 w A n l) (hne : ∀ ad, A = some ad → ad.block ≠ b) (hg : w.grownBy w' (some b)) : Kd.C k51 w' A n l :=
  Kd.C_foot_ne (g := b) (fun h => k51_free h) h (fun ad e _ => hne ad e) w' ⟨hg.size, fun i hi hne _ => hg.block i hi (fun e => hne (by cases e; rfl))⟩
/-- Events that can be read, and lie elsewhere than in a block. -/
def SlB (w : World) (b : Nat) (v : Value) (l : List S51) : Prop := ∃ A c, v = .slice A l.length c ∧ l.length ≤ c ∧ Kd.C k51 w A l.length l ∧ ∀ ad, A = some ad → ad.block ≠ b

set_option maxHeartbeats 4000000 in
set_option maxRecDepth 100000 in
theorem kvTake_calls (b : Nat) (t : T) (v : Value) (l : List S51) (w : World) (h : IsM w b t) (hv : SlB w b v l) (hs : t.size + l.length < 800000000) :
    Calls Try.prog 70 #[.pointer (some ⟨b, 0, none⟩), v] w fun e w' => e = .returned (.tuple #[]) ∧ IsM w' b (l.foldl T.doEv t) ∧ w.grownBy w' (some b) := by
  obtain ⟨A, c, rfl, -, hC, hne⟩ := hv
  have HC := As.mk hC
  have HNE := As.mk hne
  clear hC hne
  go_enter Try.func70, Try.ntmps70
  go_wp2_with (first
    | (go_at_call 93; refine (kvMade_calls b t w h).mono ?_; rintro e w2 ⟨rfl, rfl⟩))
  go_loopg [5, 11] l.length (fun m v5 v11 wr => ∃ (k : Nat) (TT : T), v11 = .int .i64 k ∧ As (TT = (l.take k).foldl T.doEv t ∧ IsM wr b TT ∧ w.grownBy wr (some b) ∧ k ≤ l.length ∧ l.length - k ≤ m))
  case atStart => exact ⟨0, t, rfl, ⟨rfl, h, World.grownBy.refl _ _, Nat.zero_le _, Nat.le_refl _⟩⟩
  case round =>
    obtain ⟨k, TT, rfl, ⟨hT, hM, hG, hk, hm⟩⟩ := hrel
    clear h
    by_cases hlt : k < l.length
    · have hC2 := C51_turn HC.out HNE.out hG
      obtain ⟨ad, hA, hx0, hx1, hx2, hx3, hx4, hx5⟩ := at_T51 hC2 (k : Int) (by omega) (by omega)
      subst hA
      have hts := take_snoc l z51 k hlt
      have hpl : (l.take (k + 1)).foldl T.doEv t = T.doEv TT (l.getD k z51) := by rw [hts, List.foldl_append, ← hT]; rfl
      have hsz := T.doEvs_size (l.take k) t
      rw [List.length_take, ← hT] at hsz
      have hrd : rd_T51 l (k : Int) = l.getD k z51 := by unfold rd_T51; rw [Int.toNat_natCast]
      rw [hrd, Int.toNat_natCast] at hx0
      rw [hrd, Int.toNat_natCast] at hx1 hx2 hx3 hx4 hx5
      generalize l.getD k z51 = dd at *
      have HP := As.mk hpl
      clear hts hpl hrd hT hC2
      obtain ⟨d0, d1, d2, d3, d4, d5⟩ := dd
      dsimp only at hx0 hx1 hx2 hx3 hx4 hx5
      have p0 : 0 ≤ (k : Int) := by omega
      have hB := Below.refl wr.heap.size wr
      have HM := As.mk hM
      have HG := As.mk hG
      clear hM hG
      cases d4
      case false =>
        go_wp2_with (first
          | ((with_reducible refine gate_dst (N := 5) rfl ?_); refine box_event ?hg (N := 5) ?hd (cs := #[.int .i64 0, .string (⟨#[]⟩ : ByteArray), .bool false, .string (⟨#[]⟩ : ByteArray), .bool false, .string (⟨#[]⟩ : ByteArray)]) (t := 51) ?hr ?_; (case hd => rfl); (case hg => rfl); (case hr => first | (go_simp; done) | (go_simp; rfl)); intro gd hg_gd w5 hx_gd hb_gd; have hB1 := bstep hB hb_gd; have GD := As.mk ((by rw [hg_gd]; exact hB.size) : wr.heap.size ≤ gd); have HGQ := As.mk (Nat.le_of_eq hg_gd.symm); clear hg_gd; have x0 := (heap_cell hx_gd 0).trans rfl; have z0 := blk_frozen hx_gd 0; have x1 := (heap_cell hx_gd 1).trans rfl; have z1 := blk_frozen hx_gd 1; have x2 := (heap_cell hx_gd 2).trans rfl; have z2 := blk_frozen hx_gd 2; have x3 := (heap_cell hx_gd 3).trans rfl; have z3 := blk_frozen hx_gd 3; have x4 := (heap_cell hx_gd 4).trans rfl; have z4 := blk_frozen hx_gd 4; have x5 := (heap_cell hx_gd 5).trans rfl; have z5 := blk_frozen hx_gd 5))
        have hb2 := ((((((hb_gd.setCell (p := ⟨gd, 0, none⟩) HGQ.out (.int .i64 d0)).setCell (p := ⟨gd, 1, none⟩) HGQ.out (.string d1)).setCell (p := ⟨gd, 2, none⟩) HGQ.out (.bool d2)).setCell (p := ⟨gd, 3, none⟩) HGQ.out (.string d3)).setCell (p := ⟨gd, 4, none⟩) HGQ.out (.bool false)).setCell (p := ⟨gd, 5, none⟩) HGQ.out (.string d5))
        have hx3 := (blk_put (blk_put (blk_put (blk_put (blk_put (blk_put hx_gd 0 (.int .i64 d0) rfl) 1 (.string d1) rfl) 2 (.bool d2) rfl) 3 (.string d3) rfl) 4 (.bool false) rfl) 5 (.string d5) rfl)
        generalize ((((((w5.setCell ⟨gd, 0, none⟩ (.int .i64 d0)).setCell ⟨gd, 1, none⟩ (.string d1)).setCell ⟨gd, 2, none⟩ (.bool d2)).setCell ⟨gd, 3, none⟩ (.string d3)).setCell ⟨gd, 4, none⟩ (.bool false)).setCell ⟨gd, 5, none⟩ (.string d5)) = W at *
        have hM2 := HM.out.below hb2
        have hG2 := turn_trans HG.out (grown_of_below hb2 (some b))
        obtain ⟨g, h1, h2⟩ := hM2.ts
        have hd : Below W.heap.size W W.drew := (Below.refl _ W).drew
        have H1 := As.mk (blk_step h1 hd)
        have H2 := As.mk (h2.below hd)
        have H3 := As.mk (blk_step hx3 hd)
        have HG2 := As.mk (turn_trans hG2 (grown_of_below hd (some b)))
        clear hM2 hG2 h1 h2 hx3 hb2 HM HG hd
        have c0 : W.cell? ⟨b, 0, none⟩ = some (.pointer (some ⟨g, 0, none⟩)) := (heap_cell H1.out 0).trans rfl
        have y1 : W.cell? ⟨gd, 1, none⟩ = some (.string d1) := (heap_cell H3.out 1).trans rfl
        have y5 : W.cell? ⟨gd, 5, none⟩ = some (.string d5) := (heap_cell H3.out 5).trans rfl
        go_region_with ((go_at_call 37; refine (DropS_calls _ TT d1 _ H2.out.tr (by omega)).mono ?_; rintro e w3 ⟨p3, rfl, ht3, hb3⟩; have H13 := As.mk (blk_step H1.out hb3); have c3 : w3.cell? ⟨b, 0, none⟩ = some (.pointer (some ⟨g, 0, none⟩)) := (heap_cell H13.out 0).trans rfl; have z3 := blk_frozen H13.out 0; have HT3 := As.mk ht3; have HG3 := As.mk (turn_trans HG2.out (grown_of_below hb3 (some b))); clear ht3 hb3))
        all_goals (go_wp2_with fail)
        all_goals
          go_roundg (l.length - (k + 1))
          case measure => omega
          case rel => exact ⟨k + 1, _, by go_num, ⟨HP.out.symm, IsM.of (blk_put H13.out 0 _ rfl) (HT3.out.turn H13.out (by decide) (by decide) (turn_set (World.grownBy.refl _ _) 0 _)), turn_set HG3.out 0 _, by omega, Nat.le_refl _⟩⟩
      case true =>
        go_wp2_with (first
          | ((with_reducible refine gate_dst (N := 5) rfl ?_); refine box_event ?hg (N := 5) ?hd (cs := #[.int .i64 0, .string (⟨#[]⟩ : ByteArray), .bool false, .string (⟨#[]⟩ : ByteArray), .bool false, .string (⟨#[]⟩ : ByteArray)]) (t := 51) ?hr ?_; (case hd => rfl); (case hg => rfl); (case hr => first | (go_simp; done) | (go_simp; rfl)); intro gd hg_gd w5 hx_gd hb_gd; have hB1 := bstep hB hb_gd; have GD := As.mk ((by rw [hg_gd]; exact hB.size) : wr.heap.size ≤ gd); have HGQ := As.mk (Nat.le_of_eq hg_gd.symm); clear hg_gd; have x0 := (heap_cell hx_gd 0).trans rfl; have z0 := blk_frozen hx_gd 0; have x1 := (heap_cell hx_gd 1).trans rfl; have z1 := blk_frozen hx_gd 1; have x2 := (heap_cell hx_gd 2).trans rfl; have z2 := blk_frozen hx_gd 2; have x3 := (heap_cell hx_gd 3).trans rfl; have z3 := blk_frozen hx_gd 3; have x4 := (heap_cell hx_gd 4).trans rfl; have z4 := blk_frozen hx_gd 4; have x5 := (heap_cell hx_gd 5).trans rfl; have z5 := blk_frozen hx_gd 5))
        have hb2 := ((((((hb_gd.setCell (p := ⟨gd, 0, none⟩) HGQ.out (.int .i64 d0)).setCell (p := ⟨gd, 1, none⟩) HGQ.out (.string d1)).setCell (p := ⟨gd, 2, none⟩) HGQ.out (.bool d2)).setCell (p := ⟨gd, 3, none⟩) HGQ.out (.string d3)).setCell (p := ⟨gd, 4, none⟩) HGQ.out (.bool true)).setCell (p := ⟨gd, 5, none⟩) HGQ.out (.string d5))
        have hx3 := (blk_put (blk_put (blk_put (blk_put (blk_put (blk_put hx_gd 0 (.int .i64 d0) rfl) 1 (.string d1) rfl) 2 (.bool d2) rfl) 3 (.string d3) rfl) 4 (.bool true) rfl) 5 (.string d5) rfl)
        generalize ((((((w5.setCell ⟨gd, 0, none⟩ (.int .i64 d0)).setCell ⟨gd, 1, none⟩ (.string d1)).setCell ⟨gd, 2, none⟩ (.bool d2)).setCell ⟨gd, 3, none⟩ (.string d3)).setCell ⟨gd, 4, none⟩ (.bool true)).setCell ⟨gd, 5, none⟩ (.string d5)) = W at *
        have hM2 := HM.out.below hb2
        have hG2 := turn_trans HG.out (grown_of_below hb2 (some b))
        obtain ⟨g, h1, h2⟩ := hM2.ts
        have hd : Below W.heap.size W W.drew := (Below.refl _ W).drew
        have H1 := As.mk (blk_step h1 hd)
        have H2 := As.mk (h2.below hd)
        have H3 := As.mk (blk_step hx3 hd)
        have HG2 := As.mk (turn_trans hG2 (grown_of_below hd (some b)))
        clear hM2 hG2 h1 h2 hx3 hb2 HM HG hd
        have c0 : W.cell? ⟨b, 0, none⟩ = some (.pointer (some ⟨g, 0, none⟩)) := (heap_cell H1.out 0).trans rfl
        have y1 : W.cell? ⟨gd, 1, none⟩ = some (.string d1) := (heap_cell H3.out 1).trans rfl
        have y5 : W.cell? ⟨gd, 5, none⟩ = some (.string d5) := (heap_cell H3.out 5).trans rfl
        go_region_with ((go_at_call 36; refine (PutS_calls _ TT d1 d5 _ H2.out.tr (by omega)).mono ?_; rintro e w3 ⟨p3, rfl, ht3, hb3⟩; have H13 := As.mk (blk_step H1.out hb3); have c3 : w3.cell? ⟨b, 0, none⟩ = some (.pointer (some ⟨g, 0, none⟩)) := (heap_cell H13.out 0).trans rfl; have z3 := blk_frozen H13.out 0; have HT3 := As.mk ht3; have HG3 := As.mk (turn_trans HG2.out (grown_of_below hb3 (some b))); clear ht3 hb3))
        all_goals (go_wp2_with fail)
        all_goals
          go_roundg (l.length - (k + 1))
          case measure => omega
          case rel => exact ⟨k + 1, _, by go_num, ⟨HP.out.symm, IsM.of (blk_put H13.out 0 _ rfl) (HT3.out.turn H13.out (by decide) (by decide) (turn_set (World.grownBy.refl _ _) 0 _)), turn_set HG3.out 0 _, by omega, Nat.le_refl _⟩⟩
    · obtain rfl : k = l.length := by omega
      rw [List.take_length] at hT
      subst hT
      go_wp2_with fail
      go_end0
      exact ⟨rfl, hM, hG⟩

end Go.Proofs.Ytehnkoglhbbfjaa

namespace Go.Proofs.Ytehnkoglhbbfjaa
open Go.RowKit Go.Proofs.YtehnkoglhbbfjaaW.PrintWords Go.Proofs.YtehnkoglhbbfjaaW.PrintLast Go.Proofs.YtehnkoglhbbfjaaW.PrintMore PAll

def same (t : T) (o : S95) : Bool := decide ((T.get t o.f0).2 = o.f1) && decide ((T.get t o.f0).1 = o.f2)
def opEv (pos : Int) (t : T) (o : S95) : List S51 := if same t o = true then [] else [⟨pos, o.f0, (T.get t o.f0).2, (T.get t o.f0).1, o.f1, o.f2⟩]
def opN (t : T) (o : S95) : Int := if same t o = true then 0 else if (T.get t o.f0).2 = false then 1 else if o.f1 = false then -1 else 0
def evsF (pos : Int) (t : T) (os : List S95) : List S51 := os.flatMap (opEv pos t)
def nF (t : T) (os : List S95) : Int := os.foldl (fun n o => n + opN t o) t.size
def planF (pos : Int) (t : T) (cs os : List S95) : List S51 × Int :=
  if checkF cs os = 0 then (if cs.all (same t) = true then (if 24 < nF t os then ([], 7) else (evsF pos t os, 0)) else ([], 60)) else ([], checkF cs os)
theorem evsF_snoc (pos : Int) (t : T) (l : List S95) (o : S95) : evsF pos t (l ++ [o]) = evsF pos t l ++ opEv pos t o := by
  unfold evsF
  rw [List.flatMap_append]
  simp
theorem opEv_length (pos : Int) (t : T) (o : S95) : (opEv pos t o).length ≤ 1 := by
  unfold opEv
  split <;> simp
theorem evsF_length (pos : Int) (t : T) (l : List S95) : (evsF pos t l).length ≤ l.length := by
  induction l with
  | nil => exact Nat.le_refl _
  | cons o r ih =>
    have := opEv_length pos t o
    unfold evsF at ih ⊢
    rw [List.flatMap_cons, List.length_append, List.length_cons]
    omega
theorem nF_snoc (t : T) (l : List S95) (o : S95) : nF t (l ++ [o]) = nF t l + opN t o := by
  unfold nF
  rw [List.foldl_append]
  rfl
theorem opN_bound (t : T) (o : S95) : -1 ≤ opN t o ∧ opN t o ≤ 1 := by
  unfold opN
  repeat' split
  all_goals omega
theorem foldN_bound (t : T) (l : List S95) : ∀ n : Int, n - l.length ≤ l.foldl (fun n o => n + opN t o) n ∧ l.foldl (fun n o => n + opN t o) n ≤ n + l.length := by
  induction l with
  | nil => intro n; simp
  | cons o r ih =>
    intro n
    have h1 := ih (n + opN t o)
    have h2 := opN_bound t o
    simp only [List.foldl_cons, List.length_cons]
    omega
theorem nF_bound (t : T) (l : List S95) : (t.size : Int) - l.length ≤ nF t l ∧ nF t l ≤ t.size + l.length := foldN_bound t l _
theorem check_len {cs os : List S95} (h : checkF cs os = 0) : os.length ≤ 6 ∧ cs.length ≤ 6 := by
  unfold checkF at h
  split at h
  · cases h
  · omega
theorem GetB_calls (p : Option Addr) (t : T) (key : ByteArray) (w : World) (h : IsTr w p t) :
    Calls Try.prog 47 #[.pointer p, .string key] w fun e w' => e = .returned (.tuple #[.string (t.get key).1, .bool (t.get key).2]) ∧ Below w.heap.size w w' :=
  (Get_calls p t key w h).mono fun _ _ ⟨h1, h2⟩ => ⟨h1, by rw [← h2]; exact Below.refl _ _⟩

set_option maxHeartbeats 8000000 in
set_option maxRecDepth 100000 in
theorem kvPlan_calls (b : Nat) (t : T) (pos : Int) (u v : Value) (cs os : List S95) (w : World) (h : IsM w b t) (hu : SlO w u cs) (hv : SlO w v os) (hs : t.size < 100000) :
    Calls Try.prog 75 #[.pointer (some ⟨b, 0, none⟩), .int .i64 pos, u, v] w fun e w' => ∃ r, e = .returned (.tuple #[r, .int .i64 (planF pos t cs os).2]) ∧ Kd.R k51 51 w' w.heap.size (fun _ => True) r (planF pos t cs os).1 ∧ Below w.heap.size w w' := by
  have HU := As.mk hu
  have HV := As.mk hv
  have HM0 := As.mk h
  obtain ⟨A, c, rfl, -, -⟩ := hu
  obtain ⟨A', c', rfl, -, -⟩ := hv
  by_cases hck : checkF cs os = 0
  · have hpl : planF pos t cs os = if cs.all (same t) = true then (if 24 < nF t os then ([], 7) else (evsF pos t os, 0)) else ([], 60) := if_pos hck
    obtain ⟨hl1, hl2⟩ := check_len hck
    have HPL := As.mk hpl
    have HCK := As.mk hck
    clear hpl hck
    go_enter Try.func75, Try.ntmps75
    go_wp2_with (first
      | (go_at_call 93; refine (kvMade_calls b t w h).mono ?_; rintro e wa ⟨rfl, rfl⟩)
      | (go_at_call 56; refine (kvCheck_calls _ _ cs os w HU.out HV.out).mono ?_; rw [HCK.out]; rintro e w2 ⟨rfl, hb⟩; have HU2 := As.mk (HU.out.below hb); have HV2 := As.mk (HV.out.below hb); have HM := As.mk (HM0.out.below hb); have HB := As.mk hb; clear hb))
    have HC : As (Kd.C k95 w2 A cs.length cs) := ⟨by obtain ⟨A1, c1, e1, -, h1⟩ := HU2.out; cases e1; exact h1⟩
    clear h
    go_loopg [12, 13, 14, 32] cs.length (fun m v12 v13 v14 v32 wr => ∃ (k : Nat), v32 = .int .i64 k ∧ As ((cs.take k).all (same t) = true ∧ k ≤ cs.length ∧ cs.length - k ≤ m ∧ Below w2.heap.size w2 wr))
    case atStart => exact ⟨0, rfl, ⟨rfl, Nat.zero_le _, Nat.le_refl _, Below.refl _ _⟩⟩
    case round =>
      obtain ⟨k, rfl, ⟨hal, hk, hm, hB⟩⟩ := hrel
      by_cases hlt : k < cs.length
      · skip
        obtain ⟨ad, hA, hx0, hx1, hx2⟩ := at_T95 HC.out (k : Int) (by omega) (by omega)
        subst hA
        have hts := take_snoc cs z95 k hlt
        have hrd : rd_T95 cs (k : Int) = cs.getD k z95 := by unfold rd_T95; rw [Int.toNat_natCast]
        rw [hrd, Int.toNat_natCast] at hx0
        rw [hrd, Int.toNat_natCast] at hx1 hx2
        have hmem : cs.getD k z95 ∈ cs := getD_mem hlt _
        have has : (cs.take (k + 1)).all (same t) = (true && same t (cs.getD k z95)) := by rw [hts, List.all_append, hal]; simp
        have HMEM := As.mk (fun (hf : same t (cs.getD k z95) = false) => (show cs.all (same t) = false from by
          cases e : cs.all (same t) with
          | false => rfl
          | true => rw [List.all_eq_true.1 e _ hmem] at hf; cases hf))
        clear hts hrd hmem hal
        generalize cs.getD k z95 = d at *
        obtain ⟨da, db, dc⟩ := d
        dsimp only at hx0 hx1 hx2
        replace hx0 := (hB.cell (World.block_lt_of_cell? w2 _ hx0)).trans hx0
        replace hx1 := (hB.cell (World.block_lt_of_cell? w2 _ hx1)).trans hx1
        replace hx2 := (hB.cell (World.block_lt_of_cell? w2 _ hx2)).trans hx2
        have p0 : 0 ≤ (k : Int) := by omega
        obtain ⟨gv, gb, hG⟩ : ∃ gv gb, T.get t da = (gv, gb) := ⟨_, _, rfl⟩
        by_cases hbb : gb = db
        · subst hbb
          by_cases hvv : gv = dc
          · subst hvv
            rw [show same t ⟨da, gb, gv⟩ = true by simp [same, hG]] at has
            have HAL := As.mk has
            have HG := As.mk hG
            clear has hG
            have hM := HM.out.below hB
            go_wp2_with (first
              | ((with_reducible refine gate_dst (N := 12) rfl ?_); refine box_event ?hg (N := 12) ?hd (cs := #[.string (⟨#[]⟩ : ByteArray), .bool false, .string (⟨#[]⟩ : ByteArray)]) (t := 95) ?hr ?_; (case hd => rfl); (case hg => rfl); (case hr => first | (go_simp; done) | (go_simp; rfl)); intro gd hg_gd w5 hx_gd hb_gd; have hB1 := bstep hB hb_gd; have GD := As.mk ((by rw [hg_gd]; exact hB.size) : w2.heap.size ≤ gd); have HGQ := As.mk (Nat.le_of_eq hg_gd.symm); clear hg_gd; have x0 := (heap_cell hx_gd 0).trans rfl; have z0 := blk_frozen hx_gd 0; have x1 := (heap_cell hx_gd 1).trans rfl; have z1 := blk_frozen hx_gd 1; have x2 := (heap_cell hx_gd 2).trans rfl; have z2 := blk_frozen hx_gd 2))
            have hb2 := (((hb_gd.setCell (p := ⟨gd, 0, none⟩) HGQ.out (.string da)).setCell (p := ⟨gd, 1, none⟩) HGQ.out (.bool gb)).setCell (p := ⟨gd, 2, none⟩) HGQ.out (.string gv))
            have hB2 := (((hB1.setCell (p := ⟨gd, 0, none⟩) GD.out (.string da)).setCell (p := ⟨gd, 1, none⟩) GD.out (.bool gb)).setCell (p := ⟨gd, 2, none⟩) GD.out (.string gv))
            have hx3 := (blk_put (blk_put (blk_put hx_gd 0 (.string da) rfl) 1 (.bool gb) rfl) 2 (.string gv) rfl)
            generalize (((w5.setCell ⟨gd, 0, none⟩ (.string da)).setCell ⟨gd, 1, none⟩ (.bool gb)).setCell ⟨gd, 2, none⟩ (.string gv)) = W at *
            obtain ⟨g, h1, h2⟩ := (hM.below hb2).ts
            have c0 : W.cell? ⟨b, 0, none⟩ = some (.pointer (some ⟨g, 0, none⟩)) := (heap_cell h1 0).trans rfl
            have y0 : W.cell? ⟨gd, 0, none⟩ = some (.string da) := (heap_cell hx3 0).trans rfl
            have HT2 := As.mk h2
            have H31 := As.mk h1
            have H33 := As.mk hx3
            have HB2 := As.mk hB2
            have HN : As (∀ w', Below W.heap.size W w' → w'.cell? ⟨b, 0, none⟩ = some (.pointer (some ⟨g, 0, none⟩)) ∧ w'.cell? ⟨gd, 0, none⟩ = some (.string da)) := ⟨fun w' h => ⟨(heap_cell (blk_step H31.out h) 0).trans rfl, (heap_cell (blk_step H33.out h) 0).trans rfl⟩⟩
            have HC0 := As.mk (And.intro c0 y0)
            have hC : Below W.heap.size W W.drew := (Below.refl _ W).drew
            have HRW := As.mk hb2
            clear hM hb2 hB2 hx3 h1 h2 hB hB1 hb_gd
            go_region_held3 (fun w' => w'.cell? ⟨b, 0, none⟩ = some (.pointer (some ⟨g, 0, none⟩)) ∧ w'.cell? ⟨gd, 0, none⟩ = some (.string da))
              (first | exact HC0.out | exact HN.out _ hC)
              (first
                | (go_at_call 47; refine (GetB_calls _ t da _ (HT2.out.tr.below hC)).mono ?_; rw [HG.out]; rintro e w6 ⟨rfl, hb⟩; replace hC := bstep hC hb; clear hb))
            have hx6 := blk_step H33.out hC
            have y0 : w6.cell? ⟨gd, 0, none⟩ = some (.string da) := (heap_cell hx6 0).trans rfl
            have y1 : w6.cell? ⟨gd, 1, none⟩ = some (.bool gb) := (heap_cell hx6 1).trans rfl
            have y2 : w6.cell? ⟨gd, 2, none⟩ = some (.string gv) := (heap_cell hx6 2).trans rfl
            have HB6 := As.mk (bstep HB2.out hC)
            have HRW6 := As.mk (bstep HRW.out hC)
            clear c0 hC hx6
            go_wp2_with fail
            go_roundg (cs.length - (k + 1))
            case measure => omega
            case rel => exact ⟨k + 1, by go_num, ⟨HAL.out, by omega, Nat.le_refl _, HB6.out⟩⟩
          · have q2 : (gv.toList == dc.toList) = false := key_ne hvv
            have HP : As (planF pos t cs os = ([], 60)) := ⟨by rw [HPL.out, HMEM.out (by simp [same, hG, hvv])]; rfl⟩
            have HG := As.mk hG
            clear has hG hvv
            have hM := HM.out.below hB
            go_wp2_with (first
              | ((with_reducible refine gate_dst (N := 12) rfl ?_); refine box_event ?hg (N := 12) ?hd (cs := #[.string (⟨#[]⟩ : ByteArray), .bool false, .string (⟨#[]⟩ : ByteArray)]) (t := 95) ?hr ?_; (case hd => rfl); (case hg => rfl); (case hr => first | (go_simp; done) | (go_simp; rfl)); intro gd hg_gd w5 hx_gd hb_gd; have hB1 := bstep hB hb_gd; have GD := As.mk ((by rw [hg_gd]; exact hB.size) : w2.heap.size ≤ gd); have HGQ := As.mk (Nat.le_of_eq hg_gd.symm); clear hg_gd; have x0 := (heap_cell hx_gd 0).trans rfl; have z0 := blk_frozen hx_gd 0; have x1 := (heap_cell hx_gd 1).trans rfl; have z1 := blk_frozen hx_gd 1; have x2 := (heap_cell hx_gd 2).trans rfl; have z2 := blk_frozen hx_gd 2))
            have hb2 := (((hb_gd.setCell (p := ⟨gd, 0, none⟩) HGQ.out (.string da)).setCell (p := ⟨gd, 1, none⟩) HGQ.out (.bool gb)).setCell (p := ⟨gd, 2, none⟩) HGQ.out (.string dc))
            have hB2 := (((hB1.setCell (p := ⟨gd, 0, none⟩) GD.out (.string da)).setCell (p := ⟨gd, 1, none⟩) GD.out (.bool gb)).setCell (p := ⟨gd, 2, none⟩) GD.out (.string dc))
            have hx3 := (blk_put (blk_put (blk_put hx_gd 0 (.string da) rfl) 1 (.bool gb) rfl) 2 (.string dc) rfl)
            generalize (((w5.setCell ⟨gd, 0, none⟩ (.string da)).setCell ⟨gd, 1, none⟩ (.bool gb)).setCell ⟨gd, 2, none⟩ (.string dc)) = W at *
            obtain ⟨g, h1, h2⟩ := (hM.below hb2).ts
            have c0 : W.cell? ⟨b, 0, none⟩ = some (.pointer (some ⟨g, 0, none⟩)) := (heap_cell h1 0).trans rfl
            have y0 : W.cell? ⟨gd, 0, none⟩ = some (.string da) := (heap_cell hx3 0).trans rfl
            have HT2 := As.mk h2
            have H31 := As.mk h1
            have H33 := As.mk hx3
            have HB2 := As.mk hB2
            have HN : As (∀ w', Below W.heap.size W w' → w'.cell? ⟨b, 0, none⟩ = some (.pointer (some ⟨g, 0, none⟩)) ∧ w'.cell? ⟨gd, 0, none⟩ = some (.string da)) := ⟨fun w' h => ⟨(heap_cell (blk_step H31.out h) 0).trans rfl, (heap_cell (blk_step H33.out h) 0).trans rfl⟩⟩
            have HC0 := As.mk (And.intro c0 y0)
            have hC : Below W.heap.size W W.drew := (Below.refl _ W).drew
            have HRW := As.mk hb2
            clear hM hb2 hB2 hx3 h1 h2 hB hB1 hb_gd
            go_region_held3 (fun w' => w'.cell? ⟨b, 0, none⟩ = some (.pointer (some ⟨g, 0, none⟩)) ∧ w'.cell? ⟨gd, 0, none⟩ = some (.string da))
              (first | exact HC0.out | exact HN.out _ hC)
              (first
                | (go_at_call 47; refine (GetB_calls _ t da _ (HT2.out.tr.below hC)).mono ?_; rw [HG.out]; rintro e w6 ⟨rfl, hb⟩; replace hC := bstep hC hb; clear hb))
            have hx6 := blk_step H33.out hC
            have y0 : w6.cell? ⟨gd, 0, none⟩ = some (.string da) := (heap_cell hx6 0).trans rfl
            have y1 : w6.cell? ⟨gd, 1, none⟩ = some (.bool gb) := (heap_cell hx6 1).trans rfl
            have y2 : w6.cell? ⟨gd, 2, none⟩ = some (.string dc) := (heap_cell hx6 2).trans rfl
            have HB6 := As.mk (bstep HB2.out hC)
            have HRW6 := As.mk (bstep HRW.out hC)
            clear c0 hC hx6
            go_wp2_with fail
            go_ret2
            exact ⟨.slice none 0 0, by first | (rw [HP.out]; done) | (rw [HP.out]; rfl), by rw [HP.out]; exact Kd.R_nil _ _ _ _ _, bstep HB.out HB6.out⟩
        · have q1 : (gb != db) = true := by revert hbb; cases gb <;> cases db <;> simp
          have HP : As (planF pos t cs os = ([], 60)) := ⟨by rw [HPL.out, HMEM.out (by simp [same, hG, hbb])]; rfl⟩
          have HG := As.mk hG
          clear has hG
          have hM := HM.out.below hB
          go_wp2_with (first
            | ((with_reducible refine gate_dst (N := 12) rfl ?_); refine box_event ?hg (N := 12) ?hd (cs := #[.string (⟨#[]⟩ : ByteArray), .bool false, .string (⟨#[]⟩ : ByteArray)]) (t := 95) ?hr ?_; (case hd => rfl); (case hg => rfl); (case hr => first | (go_simp; done) | (go_simp; rfl)); intro gd hg_gd w5 hx_gd hb_gd; have hB1 := bstep hB hb_gd; have GD := As.mk ((by rw [hg_gd]; exact hB.size) : w2.heap.size ≤ gd); have HGQ := As.mk (Nat.le_of_eq hg_gd.symm); clear hg_gd; have x0 := (heap_cell hx_gd 0).trans rfl; have z0 := blk_frozen hx_gd 0; have x1 := (heap_cell hx_gd 1).trans rfl; have z1 := blk_frozen hx_gd 1; have x2 := (heap_cell hx_gd 2).trans rfl; have z2 := blk_frozen hx_gd 2))
          have hb2 := (((hb_gd.setCell (p := ⟨gd, 0, none⟩) HGQ.out (.string da)).setCell (p := ⟨gd, 1, none⟩) HGQ.out (.bool db)).setCell (p := ⟨gd, 2, none⟩) HGQ.out (.string dc))
          have hB2 := (((hB1.setCell (p := ⟨gd, 0, none⟩) GD.out (.string da)).setCell (p := ⟨gd, 1, none⟩) GD.out (.bool db)).setCell (p := ⟨gd, 2, none⟩) GD.out (.string dc))
          have hx3 := (blk_put (blk_put (blk_put hx_gd 0 (.string da) rfl) 1 (.bool db) rfl) 2 (.string dc) rfl)
          generalize (((w5.setCell ⟨gd, 0, none⟩ (.string da)).setCell ⟨gd, 1, none⟩ (.bool db)).setCell ⟨gd, 2, none⟩ (.string dc)) = W at *
          obtain ⟨g, h1, h2⟩ := (hM.below hb2).ts
          have c0 : W.cell? ⟨b, 0, none⟩ = some (.pointer (some ⟨g, 0, none⟩)) := (heap_cell h1 0).trans rfl
          have y0 : W.cell? ⟨gd, 0, none⟩ = some (.string da) := (heap_cell hx3 0).trans rfl
          have HT2 := As.mk h2
          have H31 := As.mk h1
          have H33 := As.mk hx3
          have HB2 := As.mk hB2
          have HN : As (∀ w', Below W.heap.size W w' → w'.cell? ⟨b, 0, none⟩ = some (.pointer (some ⟨g, 0, none⟩)) ∧ w'.cell? ⟨gd, 0, none⟩ = some (.string da)) := ⟨fun w' h => ⟨(heap_cell (blk_step H31.out h) 0).trans rfl, (heap_cell (blk_step H33.out h) 0).trans rfl⟩⟩
          have HC0 := As.mk (And.intro c0 y0)
          have hC : Below W.heap.size W W.drew := (Below.refl _ W).drew
          have HRW := As.mk hb2
          clear hM hb2 hB2 hx3 h1 h2 hB hB1 hb_gd
          go_region_held3 (fun w' => w'.cell? ⟨b, 0, none⟩ = some (.pointer (some ⟨g, 0, none⟩)) ∧ w'.cell? ⟨gd, 0, none⟩ = some (.string da))
            (first | exact HC0.out | exact HN.out _ hC)
            (first
              | (go_at_call 47; refine (GetB_calls _ t da _ (HT2.out.tr.below hC)).mono ?_; rw [HG.out]; rintro e w6 ⟨rfl, hb⟩; replace hC := bstep hC hb; clear hb))
          have hx6 := blk_step H33.out hC
          have y0 : w6.cell? ⟨gd, 0, none⟩ = some (.string da) := (heap_cell hx6 0).trans rfl
          have y1 : w6.cell? ⟨gd, 1, none⟩ = some (.bool db) := (heap_cell hx6 1).trans rfl
          have y2 : w6.cell? ⟨gd, 2, none⟩ = some (.string dc) := (heap_cell hx6 2).trans rfl
          have HB6 := As.mk (bstep HB2.out hC)
          have HRW6 := As.mk (bstep HRW.out hC)
          clear c0 hC hx6
          go_wp2_with fail
          go_ret2
          exact ⟨.slice none 0 0, by first | (rw [HP.out]; done) | (rw [HP.out]; rfl), by rw [HP.out]; exact Kd.R_nil _ _ _ _ _, bstep HB.out HB6.out⟩
      · obtain rfl : k = cs.length := by omega
        rw [List.take_length] at hal
        have HPL2 : As (planF pos t cs os = if 24 < nF t os then ([], 7) else (evsF pos t os, 0)) := ⟨by rw [HPL.out, if_pos hal]⟩
        have HBA := As.mk (bstep HB.out hB)
        have HM2 := As.mk (HM.out.below hB)
        have HV3 := As.mk (HV2.out.below hB)
        obtain ⟨g, h1, h2⟩ := HM2.out.ts
        have c0 : wr.cell? ⟨b, 0, none⟩ = some (.pointer (some ⟨g, 0, none⟩)) := (heap_cell h1 0).trans rfl
        clear hal hB h1 HC HPL HM HB
        go_wp2_with (first
          | (go_at_call 26; refine (Len_calls _ t wr h2.tr).mono ?_; rintro e wz ⟨rfl, rfl⟩))
        clear h2 c0
        have HM := HM2
        have HC : As (Kd.C k95 wr A' os.length os) := ⟨by obtain ⟨A1, c1, e1, -, h1⟩ := HV3.out; cases e1; exact h1⟩
        obtain ⟨w2, hw2⟩ : ∃ w2, w2 = wr := ⟨_, rfl⟩
        rw [← hw2] at HM HC HBA ⊢
        clear hw2
        go_loopg [15, 16, 18, 19, 20, 64] os.length (fun m v15 v16 v18 v19 v20 v64 wr => ∃ (k : Nat) (X : List S51) (N : Int), v64 = .int .i64 k ∧ v16 = .int .i64 N ∧ As (X = evsF pos t (os.take k) ∧ N = nF t (os.take k) ∧ Kd.R k51 51 wr w2.heap.size (fun _ => True) v15 X ∧ k ≤ os.length ∧ os.length - k ≤ m ∧ Below w2.heap.size w2 wr))
        case atStart => exact ⟨0, [], _, rfl, rfl, ⟨rfl, rfl, Kd.R_nil _ _ _ _ _, Nat.zero_le _, Nat.le_refl _, Below.refl _ _⟩⟩
        case round =>
          obtain ⟨k, X, N, rfl, rfl, ⟨hX, hN, hR, hk, hm, hB⟩⟩ := hrel
          by_cases hlt : k < os.length
          · have hnb := nF_bound t (os.take k)
            have hxl := evsF_length pos t (os.take k)
            have htl : (os.take k).length = k := by rw [List.length_take]; omega
            rw [← hN, htl] at hnb
            rw [← hX, htl] at hxl
            obtain ⟨ad, hA, hx0, hx1, hx2⟩ := at_T95 HC.out (k : Int) (by omega) (by omega)
            subst hA
            have hts := take_snoc os z95 k hlt
            have hrd : rd_T95 os (k : Int) = os.getD k z95 := by unfold rd_T95; rw [Int.toNat_natCast]
            rw [hrd, Int.toNat_natCast] at hx0
            rw [hrd, Int.toNat_natCast] at hx1 hx2
            have hev := evsF_snoc pos t (os.take k) (os.getD k z95)
            have hnn := nF_snoc t (os.take k) (os.getD k z95)
            rw [← hts, ← hX] at hev
            rw [← hts, ← hN] at hnn
            clear hts hrd hX hN htl
            generalize os.getD k z95 = d at *
            obtain ⟨da, db, dc⟩ := d
            dsimp only at hx0 hx1 hx2
            replace hx0 := (hB.cell (World.block_lt_of_cell? w2 _ hx0)).trans hx0
            replace hx1 := (hB.cell (World.block_lt_of_cell? w2 _ hx1)).trans hx1
            replace hx2 := (hB.cell (World.block_lt_of_cell? w2 _ hx2)).trans hx2
            have p0 : 0 ≤ (k : Int) := by omega
            obtain ⟨gv, gb, hG⟩ : ∃ gv gb, T.get t da = (gv, gb) := ⟨_, _, rfl⟩
            by_cases hv : gv = dc
            · cases gb <;> cases db
              · subst hv
                have hsm : same t ⟨da, false, gv⟩ = true := by simp [same, hG]
                rw [show opEv pos t ⟨da, false, gv⟩ = [] from if_pos hsm, List.append_nil] at hev
                rw [show opN t ⟨da, false, gv⟩ = 0 from if_pos hsm, Int.add_zero] at hnn
                have HE := As.mk hev.symm
                have HNN := As.mk hnn.symm
                have HG := As.mk hG
                clear hsm hev hnn hG
                have hm := hR
                have HR := As.mk hR
                obtain ⟨A5, c5, rfl⟩ := Kd.R_slice hR
                clear hR hm
                have hM := HM.out.below hB
                go_wp2_with (first
                  | ((with_reducible refine gate_dst (N := 18) rfl ?_); refine box_event ?hg (N := 18) ?hd (cs := #[.string (⟨#[]⟩ : ByteArray), .bool false, .string (⟨#[]⟩ : ByteArray)]) (t := 95) ?hr ?_; (case hd => rfl); (case hg => rfl); (case hr => first | (go_simp; done) | (go_simp; rfl)); intro gd hg_gd w5 hx_gd hb_gd; have hB1 := bstep hB hb_gd; have GD := As.mk ((by rw [hg_gd]; exact hB.size) : w2.heap.size ≤ gd); have HGQ := As.mk (Nat.le_of_eq hg_gd.symm); clear hg_gd; have x0 := (heap_cell hx_gd 0).trans rfl; have z0 := blk_frozen hx_gd 0; have x1 := (heap_cell hx_gd 1).trans rfl; have z1 := blk_frozen hx_gd 1; have x2 := (heap_cell hx_gd 2).trans rfl; have z2 := blk_frozen hx_gd 2))
                have hb2 := (((hb_gd.setCell (p := ⟨gd, 0, none⟩) HGQ.out (.string da)).setCell (p := ⟨gd, 1, none⟩) HGQ.out (.bool false)).setCell (p := ⟨gd, 2, none⟩) HGQ.out (.string gv))
                have hB2 := (((hB1.setCell (p := ⟨gd, 0, none⟩) GD.out (.string da)).setCell (p := ⟨gd, 1, none⟩) GD.out (.bool false)).setCell (p := ⟨gd, 2, none⟩) GD.out (.string gv))
                have hx3 := (blk_put (blk_put (blk_put hx_gd 0 (.string da) rfl) 1 (.bool false) rfl) 2 (.string gv) rfl)
                generalize (((w5.setCell ⟨gd, 0, none⟩ (.string da)).setCell ⟨gd, 1, none⟩ (.bool false)).setCell ⟨gd, 2, none⟩ (.string gv)) = W at *
                obtain ⟨g, h1, h2⟩ := (hM.below hb2).ts
                have c0 : W.cell? ⟨b, 0, none⟩ = some (.pointer (some ⟨g, 0, none⟩)) := (heap_cell h1 0).trans rfl
                have y0 : W.cell? ⟨gd, 0, none⟩ = some (.string da) := (heap_cell hx3 0).trans rfl
                have HT2 := As.mk h2
                have H31 := As.mk h1
                have H33 := As.mk hx3
                have HB2 := As.mk hB2
                have HN : As (∀ w', Below W.heap.size W w' → w'.cell? ⟨b, 0, none⟩ = some (.pointer (some ⟨g, 0, none⟩)) ∧ w'.cell? ⟨gd, 0, none⟩ = some (.string da)) := ⟨fun w' h => ⟨(heap_cell (blk_step H31.out h) 0).trans rfl, (heap_cell (blk_step H33.out h) 0).trans rfl⟩⟩
                have HC0 := As.mk (And.intro c0 y0)
                have hC : Below W.heap.size W W.drew := (Below.refl _ W).drew
                have HRW := As.mk hb2
                clear hM hb2 hB2 hx3 h1 h2 hB hB1 hb_gd
                go_region_held3 (fun w' => w'.cell? ⟨b, 0, none⟩ = some (.pointer (some ⟨g, 0, none⟩)) ∧ w'.cell? ⟨gd, 0, none⟩ = some (.string da))
                  (first | exact HC0.out | exact HN.out _ hC)
                  (first
                    | (go_at_call 47; refine (GetB_calls _ t da _ (HT2.out.tr.below hC)).mono ?_; rw [HG.out]; rintro e w6 ⟨rfl, hb⟩; replace hC := bstep hC hb; clear hb))
                have hx6 := blk_step H33.out hC
                have y0 : w6.cell? ⟨gd, 0, none⟩ = some (.string da) := (heap_cell hx6 0).trans rfl
                have y1 : w6.cell? ⟨gd, 1, none⟩ = some (.bool false) := (heap_cell hx6 1).trans rfl
                have y2 : w6.cell? ⟨gd, 2, none⟩ = some (.string gv) := (heap_cell hx6 2).trans rfl
                have HB6 := As.mk (bstep HB2.out hC)
                have HRW6 := As.mk (bstep HRW.out hC)
                have HX6 := As.mk hx6
                have HR6 := As.mk (Kd.R_below HR.out HRW6.out)
                clear c0 hC hx6
                go_wp2_with fail
                go_roundg (os.length - (k + 1))
                case measure => omega
                case rel => exact ⟨k + 1, X, N, by go_num, rfl, ⟨HE.out, HNN.out, HR6.out, by omega, Nat.le_refl _, HB6.out⟩⟩
              · subst hv
                have hsm : same t ⟨da, true, gv⟩ = false := by simp [same, hG]
                rw [show opEv pos t ⟨da, true, gv⟩ = [⟨pos, da, false, gv, true, gv⟩] by unfold opEv; rw [if_neg (by rw [hsm]; decide), hG]] at hev
                rw [show opN t ⟨da, true, gv⟩ = 1 by unfold opN; rw [if_neg (by rw [hsm]; decide), hG]; rfl] at hnn
                obtain ⟨Y, hY⟩ : ∃ Y, Y = X ++ [⟨pos, da, false, gv, true, gv⟩] := ⟨_, rfl⟩
                have HY := As.mk hY
                have HE := As.mk hev.symm
                have HNN := As.mk hnn.symm
                clear hY
                have HG := As.mk hG
                clear hsm hev hnn hG
                have hm := hR
                have HR := As.mk hR
                obtain ⟨A5, c5, rfl⟩ := Kd.R_slice hR
                clear hR hm
                have hM := HM.out.below hB
                go_wp2_with (first
                  | ((with_reducible refine gate_dst (N := 18) rfl ?_); refine box_event ?hg (N := 18) ?hd (cs := #[.string (⟨#[]⟩ : ByteArray), .bool false, .string (⟨#[]⟩ : ByteArray)]) (t := 95) ?hr ?_; (case hd => rfl); (case hg => rfl); (case hr => first | (go_simp; done) | (go_simp; rfl)); intro gd hg_gd w5 hx_gd hb_gd; have hB1 := bstep hB hb_gd; have GD := As.mk ((by rw [hg_gd]; exact hB.size) : w2.heap.size ≤ gd); have HGQ := As.mk (Nat.le_of_eq hg_gd.symm); clear hg_gd; have x0 := (heap_cell hx_gd 0).trans rfl; have z0 := blk_frozen hx_gd 0; have x1 := (heap_cell hx_gd 1).trans rfl; have z1 := blk_frozen hx_gd 1; have x2 := (heap_cell hx_gd 2).trans rfl; have z2 := blk_frozen hx_gd 2))
                have hb2 := (((hb_gd.setCell (p := ⟨gd, 0, none⟩) HGQ.out (.string da)).setCell (p := ⟨gd, 1, none⟩) HGQ.out (.bool true)).setCell (p := ⟨gd, 2, none⟩) HGQ.out (.string gv))
                have hB2 := (((hB1.setCell (p := ⟨gd, 0, none⟩) GD.out (.string da)).setCell (p := ⟨gd, 1, none⟩) GD.out (.bool true)).setCell (p := ⟨gd, 2, none⟩) GD.out (.string gv))
                have hx3 := (blk_put (blk_put (blk_put hx_gd 0 (.string da) rfl) 1 (.bool true) rfl) 2 (.string gv) rfl)
                generalize (((w5.setCell ⟨gd, 0, none⟩ (.string da)).setCell ⟨gd, 1, none⟩ (.bool true)).setCell ⟨gd, 2, none⟩ (.string gv)) = W at *
                obtain ⟨g, h1, h2⟩ := (hM.below hb2).ts
                have c0 : W.cell? ⟨b, 0, none⟩ = some (.pointer (some ⟨g, 0, none⟩)) := (heap_cell h1 0).trans rfl
                have y0 : W.cell? ⟨gd, 0, none⟩ = some (.string da) := (heap_cell hx3 0).trans rfl
                have HT2 := As.mk h2
                have H31 := As.mk h1
                have H33 := As.mk hx3
                have HB2 := As.mk hB2
                have HN : As (∀ w', Below W.heap.size W w' → w'.cell? ⟨b, 0, none⟩ = some (.pointer (some ⟨g, 0, none⟩)) ∧ w'.cell? ⟨gd, 0, none⟩ = some (.string da)) := ⟨fun w' h => ⟨(heap_cell (blk_step H31.out h) 0).trans rfl, (heap_cell (blk_step H33.out h) 0).trans rfl⟩⟩
                have HC0 := As.mk (And.intro c0 y0)
                have hC : Below W.heap.size W W.drew := (Below.refl _ W).drew
                have HRW := As.mk hb2
                clear hM hb2 hB2 hx3 h1 h2 hB hB1 hb_gd
                go_region_held3 (fun w' => w'.cell? ⟨b, 0, none⟩ = some (.pointer (some ⟨g, 0, none⟩)) ∧ w'.cell? ⟨gd, 0, none⟩ = some (.string da))
                  (first | exact HC0.out | exact HN.out _ hC)
                  (first
                    | (go_at_call 47; refine (GetB_calls _ t da _ (HT2.out.tr.below hC)).mono ?_; rw [HG.out]; rintro e w6 ⟨rfl, hb⟩; replace hC := bstep hC hb; clear hb))
                have hx6 := blk_step H33.out hC
                have y0 : w6.cell? ⟨gd, 0, none⟩ = some (.string da) := (heap_cell hx6 0).trans rfl
                have y1 : w6.cell? ⟨gd, 1, none⟩ = some (.bool true) := (heap_cell hx6 1).trans rfl
                have y2 : w6.cell? ⟨gd, 2, none⟩ = some (.string gv) := (heap_cell hx6 2).trans rfl
                have HB6 := As.mk (bstep HB2.out hC)
                have HRW6 := As.mk (bstep HRW.out hC)
                have HX6 := As.mk hx6
                have HR6 := As.mk (Kd.R_below HR.out HRW6.out)
                clear c0 hC hx6
                go_wp2_with (first
                  | ((with_reducible refine gate_builtin (b := .append) (xs := #[.tmp 88, .tmp 99]) rfl ?_); at_builtin; refine Kd.R_append k51 (w0 := w2) w2.heap.size rfl (.tmp 88) (.tmp 99) 47 51 (.agg #[.int .i64 0, .string ⟨#[]⟩, .bool false, .string ⟨#[]⟩, .bool false, .string ⟨#[]⟩]) 72 rfl Try.underlying47 info51 rfl (by decide) (by omega) _ X (⟨pos, da, false, gv, true, gv⟩ : S51) [.int .i64 pos, .string da, .bool false, .string gv, .bool true, .string gv] (fun _ => True) (fun _ => False) rfl (by first | (go_simp; done) | (go_simp; rfl)) ?aP (fun _ hk => hk.elim) (fun k hk => trivial) ?aO ?aB ?aS ?aL ?_; (case aP => exact k51_mkM _ _ _ (⟨pos, da, false, gv, true, gv⟩ : S51)); (case aO => exact HR6.out); (case aB => exact HB6.out); (case aS => exact HB6.out.size); (case aL => omega); intro v3 w7 ho3 hB3 hg3 hat3; rw [← HY.out] at ho3; have hx7 := (hg3.block gd (blk_lt HX6.out) (fun e' => by have := Kd.R_lt HR.out gd e'.symm; have := HGQ.out; omega)).trans HX6.out; have y1 := (heap_cell hx7 1).trans rfl; have y2 := (heap_cell hx7 2).trans rfl; obtain ⟨A3, c3, rfl⟩ := Kd.R_slice ho3; have HB3 := As.mk hB3; have HR3 := As.mk ho3; clear ho3 hg3 hat3 hB3 hx7))
                go_roundg (os.length - (k + 1))
                case measure => omega
                case rel => exact ⟨k + 1, Y, N + 1, by go_num, by go_num, ⟨HY.out.trans HE.out, HNN.out, HR3.out, by omega, Nat.le_refl _, HB3.out⟩⟩
              · subst hv
                have hsm : same t ⟨da, false, gv⟩ = false := by simp [same, hG]
                rw [show opEv pos t ⟨da, false, gv⟩ = [⟨pos, da, true, gv, false, gv⟩] by unfold opEv; rw [if_neg (by rw [hsm]; decide), hG]] at hev
                rw [show opN t ⟨da, false, gv⟩ = -1 by unfold opN; rw [if_neg (by rw [hsm]; decide), hG]; rfl] at hnn
                obtain ⟨Y, hY⟩ : ∃ Y, Y = X ++ [⟨pos, da, true, gv, false, gv⟩] := ⟨_, rfl⟩
                have HY := As.mk hY
                have HE := As.mk hev.symm
                have HNN := As.mk hnn.symm
                clear hY
                have HG := As.mk hG
                clear hsm hev hnn hG
                have hm := hR
                have HR := As.mk hR
                obtain ⟨A5, c5, rfl⟩ := Kd.R_slice hR
                clear hR hm
                have hM := HM.out.below hB
                go_wp2_with (first
                  | ((with_reducible refine gate_dst (N := 18) rfl ?_); refine box_event ?hg (N := 18) ?hd (cs := #[.string (⟨#[]⟩ : ByteArray), .bool false, .string (⟨#[]⟩ : ByteArray)]) (t := 95) ?hr ?_; (case hd => rfl); (case hg => rfl); (case hr => first | (go_simp; done) | (go_simp; rfl)); intro gd hg_gd w5 hx_gd hb_gd; have hB1 := bstep hB hb_gd; have GD := As.mk ((by rw [hg_gd]; exact hB.size) : w2.heap.size ≤ gd); have HGQ := As.mk (Nat.le_of_eq hg_gd.symm); clear hg_gd; have x0 := (heap_cell hx_gd 0).trans rfl; have z0 := blk_frozen hx_gd 0; have x1 := (heap_cell hx_gd 1).trans rfl; have z1 := blk_frozen hx_gd 1; have x2 := (heap_cell hx_gd 2).trans rfl; have z2 := blk_frozen hx_gd 2))
                have hb2 := (((hb_gd.setCell (p := ⟨gd, 0, none⟩) HGQ.out (.string da)).setCell (p := ⟨gd, 1, none⟩) HGQ.out (.bool false)).setCell (p := ⟨gd, 2, none⟩) HGQ.out (.string gv))
                have hB2 := (((hB1.setCell (p := ⟨gd, 0, none⟩) GD.out (.string da)).setCell (p := ⟨gd, 1, none⟩) GD.out (.bool false)).setCell (p := ⟨gd, 2, none⟩) GD.out (.string gv))
                have hx3 := (blk_put (blk_put (blk_put hx_gd 0 (.string da) rfl) 1 (.bool false) rfl) 2 (.string gv) rfl)
                generalize (((w5.setCell ⟨gd, 0, none⟩ (.string da)).setCell ⟨gd, 1, none⟩ (.bool false)).setCell ⟨gd, 2, none⟩ (.string gv)) = W at *
                obtain ⟨g, h1, h2⟩ := (hM.below hb2).ts
                have c0 : W.cell? ⟨b, 0, none⟩ = some (.pointer (some ⟨g, 0, none⟩)) := (heap_cell h1 0).trans rfl
                have y0 : W.cell? ⟨gd, 0, none⟩ = some (.string da) := (heap_cell hx3 0).trans rfl
                have HT2 := As.mk h2
                have H31 := As.mk h1
                have H33 := As.mk hx3
                have HB2 := As.mk hB2
                have HN : As (∀ w', Below W.heap.size W w' → w'.cell? ⟨b, 0, none⟩ = some (.pointer (some ⟨g, 0, none⟩)) ∧ w'.cell? ⟨gd, 0, none⟩ = some (.string da)) := ⟨fun w' h => ⟨(heap_cell (blk_step H31.out h) 0).trans rfl, (heap_cell (blk_step H33.out h) 0).trans rfl⟩⟩
                have HC0 := As.mk (And.intro c0 y0)
                have hC : Below W.heap.size W W.drew := (Below.refl _ W).drew
                have HRW := As.mk hb2
                clear hM hb2 hB2 hx3 h1 h2 hB hB1 hb_gd
                go_region_held3 (fun w' => w'.cell? ⟨b, 0, none⟩ = some (.pointer (some ⟨g, 0, none⟩)) ∧ w'.cell? ⟨gd, 0, none⟩ = some (.string da))
                  (first | exact HC0.out | exact HN.out _ hC)
                  (first
                    | (go_at_call 47; refine (GetB_calls _ t da _ (HT2.out.tr.below hC)).mono ?_; rw [HG.out]; rintro e w6 ⟨rfl, hb⟩; replace hC := bstep hC hb; clear hb))
                have hx6 := blk_step H33.out hC
                have y0 : w6.cell? ⟨gd, 0, none⟩ = some (.string da) := (heap_cell hx6 0).trans rfl
                have y1 : w6.cell? ⟨gd, 1, none⟩ = some (.bool false) := (heap_cell hx6 1).trans rfl
                have y2 : w6.cell? ⟨gd, 2, none⟩ = some (.string gv) := (heap_cell hx6 2).trans rfl
                have HB6 := As.mk (bstep HB2.out hC)
                have HRW6 := As.mk (bstep HRW.out hC)
                have HX6 := As.mk hx6
                have HR6 := As.mk (Kd.R_below HR.out HRW6.out)
                clear c0 hC hx6
                go_wp2_with (first
                  | ((with_reducible refine gate_builtin (b := .append) (xs := #[.tmp 88, .tmp 99]) rfl ?_); at_builtin; refine Kd.R_append k51 (w0 := w2) w2.heap.size rfl (.tmp 88) (.tmp 99) 47 51 (.agg #[.int .i64 0, .string ⟨#[]⟩, .bool false, .string ⟨#[]⟩, .bool false, .string ⟨#[]⟩]) 72 rfl Try.underlying47 info51 rfl (by decide) (by omega) _ X (⟨pos, da, true, gv, false, gv⟩ : S51) [.int .i64 pos, .string da, .bool true, .string gv, .bool false, .string gv] (fun _ => True) (fun _ => False) rfl (by first | (go_simp; done) | (go_simp; rfl)) ?aP (fun _ hk => hk.elim) (fun k hk => trivial) ?aO ?aB ?aS ?aL ?_; (case aP => exact k51_mkM _ _ _ (⟨pos, da, true, gv, false, gv⟩ : S51)); (case aO => exact HR6.out); (case aB => exact HB6.out); (case aS => exact HB6.out.size); (case aL => omega); intro v3 w7 ho3 hB3 hg3 hat3; rw [← HY.out] at ho3; have hx7 := (hg3.block gd (blk_lt HX6.out) (fun e' => by have := Kd.R_lt HR.out gd e'.symm; have := HGQ.out; omega)).trans HX6.out; have y1 := (heap_cell hx7 1).trans rfl; have y2 := (heap_cell hx7 2).trans rfl; obtain ⟨A3, c3, rfl⟩ := Kd.R_slice ho3; have HB3 := As.mk hB3; have HR3 := As.mk ho3; clear ho3 hg3 hat3 hB3 hx7))
                go_roundg (os.length - (k + 1))
                case measure => omega
                case rel => exact ⟨k + 1, Y, N + -1, by go_num, by go_num, ⟨HY.out.trans HE.out, HNN.out, HR3.out, by omega, Nat.le_refl _, HB3.out⟩⟩
              · subst hv
                have hsm : same t ⟨da, true, gv⟩ = true := by simp [same, hG]
                rw [show opEv pos t ⟨da, true, gv⟩ = [] from if_pos hsm, List.append_nil] at hev
                rw [show opN t ⟨da, true, gv⟩ = 0 from if_pos hsm, Int.add_zero] at hnn
                have HE := As.mk hev.symm
                have HNN := As.mk hnn.symm
                have HG := As.mk hG
                clear hsm hev hnn hG
                have hm := hR
                have HR := As.mk hR
                obtain ⟨A5, c5, rfl⟩ := Kd.R_slice hR
                clear hR hm
                have hM := HM.out.below hB
                go_wp2_with (first
                  | ((with_reducible refine gate_dst (N := 18) rfl ?_); refine box_event ?hg (N := 18) ?hd (cs := #[.string (⟨#[]⟩ : ByteArray), .bool false, .string (⟨#[]⟩ : ByteArray)]) (t := 95) ?hr ?_; (case hd => rfl); (case hg => rfl); (case hr => first | (go_simp; done) | (go_simp; rfl)); intro gd hg_gd w5 hx_gd hb_gd; have hB1 := bstep hB hb_gd; have GD := As.mk ((by rw [hg_gd]; exact hB.size) : w2.heap.size ≤ gd); have HGQ := As.mk (Nat.le_of_eq hg_gd.symm); clear hg_gd; have x0 := (heap_cell hx_gd 0).trans rfl; have z0 := blk_frozen hx_gd 0; have x1 := (heap_cell hx_gd 1).trans rfl; have z1 := blk_frozen hx_gd 1; have x2 := (heap_cell hx_gd 2).trans rfl; have z2 := blk_frozen hx_gd 2))
                have hb2 := (((hb_gd.setCell (p := ⟨gd, 0, none⟩) HGQ.out (.string da)).setCell (p := ⟨gd, 1, none⟩) HGQ.out (.bool true)).setCell (p := ⟨gd, 2, none⟩) HGQ.out (.string gv))
                have hB2 := (((hB1.setCell (p := ⟨gd, 0, none⟩) GD.out (.string da)).setCell (p := ⟨gd, 1, none⟩) GD.out (.bool true)).setCell (p := ⟨gd, 2, none⟩) GD.out (.string gv))
                have hx3 := (blk_put (blk_put (blk_put hx_gd 0 (.string da) rfl) 1 (.bool true) rfl) 2 (.string gv) rfl)
                generalize (((w5.setCell ⟨gd, 0, none⟩ (.string da)).setCell ⟨gd, 1, none⟩ (.bool true)).setCell ⟨gd, 2, none⟩ (.string gv)) = W at *
                obtain ⟨g, h1, h2⟩ := (hM.below hb2).ts
                have c0 : W.cell? ⟨b, 0, none⟩ = some (.pointer (some ⟨g, 0, none⟩)) := (heap_cell h1 0).trans rfl
                have y0 : W.cell? ⟨gd, 0, none⟩ = some (.string da) := (heap_cell hx3 0).trans rfl
                have HT2 := As.mk h2
                have H31 := As.mk h1
                have H33 := As.mk hx3
                have HB2 := As.mk hB2
                have HN : As (∀ w', Below W.heap.size W w' → w'.cell? ⟨b, 0, none⟩ = some (.pointer (some ⟨g, 0, none⟩)) ∧ w'.cell? ⟨gd, 0, none⟩ = some (.string da)) := ⟨fun w' h => ⟨(heap_cell (blk_step H31.out h) 0).trans rfl, (heap_cell (blk_step H33.out h) 0).trans rfl⟩⟩
                have HC0 := As.mk (And.intro c0 y0)
                have hC : Below W.heap.size W W.drew := (Below.refl _ W).drew
                have HRW := As.mk hb2
                clear hM hb2 hB2 hx3 h1 h2 hB hB1 hb_gd
                go_region_held3 (fun w' => w'.cell? ⟨b, 0, none⟩ = some (.pointer (some ⟨g, 0, none⟩)) ∧ w'.cell? ⟨gd, 0, none⟩ = some (.string da))
                  (first | exact HC0.out | exact HN.out _ hC)
                  (first
                    | (go_at_call 47; refine (GetB_calls _ t da _ (HT2.out.tr.below hC)).mono ?_; rw [HG.out]; rintro e w6 ⟨rfl, hb⟩; replace hC := bstep hC hb; clear hb))
                have hx6 := blk_step H33.out hC
                have y0 : w6.cell? ⟨gd, 0, none⟩ = some (.string da) := (heap_cell hx6 0).trans rfl
                have y1 : w6.cell? ⟨gd, 1, none⟩ = some (.bool true) := (heap_cell hx6 1).trans rfl
                have y2 : w6.cell? ⟨gd, 2, none⟩ = some (.string gv) := (heap_cell hx6 2).trans rfl
                have HB6 := As.mk (bstep HB2.out hC)
                have HRW6 := As.mk (bstep HRW.out hC)
                have HX6 := As.mk hx6
                have HR6 := As.mk (Kd.R_below HR.out HRW6.out)
                clear c0 hC hx6
                go_wp2_with fail
                go_roundg (os.length - (k + 1))
                case measure => omega
                case rel => exact ⟨k + 1, X, N, by go_num, rfl, ⟨HE.out, HNN.out, HR6.out, by omega, Nat.le_refl _, HB6.out⟩⟩
            · cases gb <;> cases db
              · skip
                have hsm : same t ⟨da, false, dc⟩ = false := by simp [same, hG, hv]
                rw [show opEv pos t ⟨da, false, dc⟩ = [⟨pos, da, false, gv, false, dc⟩] by unfold opEv; rw [if_neg (by rw [hsm]; decide), hG]] at hev
                rw [show opN t ⟨da, false, dc⟩ = 1 by unfold opN; rw [if_neg (by rw [hsm]; decide), hG]; rfl] at hnn
                obtain ⟨Y, hY⟩ : ∃ Y, Y = X ++ [⟨pos, da, false, gv, false, dc⟩] := ⟨_, rfl⟩
                have HY := As.mk hY
                have HE := As.mk hev.symm
                have HNN := As.mk hnn.symm
                clear hY
                have q2 : (gv.toList == dc.toList) = false := key_ne hv
                clear hv
                have HG := As.mk hG
                clear hsm hev hnn hG
                have hm := hR
                have HR := As.mk hR
                obtain ⟨A5, c5, rfl⟩ := Kd.R_slice hR
                clear hR hm
                have hM := HM.out.below hB
                go_wp2_with (first
                  | ((with_reducible refine gate_dst (N := 18) rfl ?_); refine box_event ?hg (N := 18) ?hd (cs := #[.string (⟨#[]⟩ : ByteArray), .bool false, .string (⟨#[]⟩ : ByteArray)]) (t := 95) ?hr ?_; (case hd => rfl); (case hg => rfl); (case hr => first | (go_simp; done) | (go_simp; rfl)); intro gd hg_gd w5 hx_gd hb_gd; have hB1 := bstep hB hb_gd; have GD := As.mk ((by rw [hg_gd]; exact hB.size) : w2.heap.size ≤ gd); have HGQ := As.mk (Nat.le_of_eq hg_gd.symm); clear hg_gd; have x0 := (heap_cell hx_gd 0).trans rfl; have z0 := blk_frozen hx_gd 0; have x1 := (heap_cell hx_gd 1).trans rfl; have z1 := blk_frozen hx_gd 1; have x2 := (heap_cell hx_gd 2).trans rfl; have z2 := blk_frozen hx_gd 2))
                have hb2 := (((hb_gd.setCell (p := ⟨gd, 0, none⟩) HGQ.out (.string da)).setCell (p := ⟨gd, 1, none⟩) HGQ.out (.bool false)).setCell (p := ⟨gd, 2, none⟩) HGQ.out (.string dc))
                have hB2 := (((hB1.setCell (p := ⟨gd, 0, none⟩) GD.out (.string da)).setCell (p := ⟨gd, 1, none⟩) GD.out (.bool false)).setCell (p := ⟨gd, 2, none⟩) GD.out (.string dc))
                have hx3 := (blk_put (blk_put (blk_put hx_gd 0 (.string da) rfl) 1 (.bool false) rfl) 2 (.string dc) rfl)
                generalize (((w5.setCell ⟨gd, 0, none⟩ (.string da)).setCell ⟨gd, 1, none⟩ (.bool false)).setCell ⟨gd, 2, none⟩ (.string dc)) = W at *
                obtain ⟨g, h1, h2⟩ := (hM.below hb2).ts
                have c0 : W.cell? ⟨b, 0, none⟩ = some (.pointer (some ⟨g, 0, none⟩)) := (heap_cell h1 0).trans rfl
                have y0 : W.cell? ⟨gd, 0, none⟩ = some (.string da) := (heap_cell hx3 0).trans rfl
                have HT2 := As.mk h2
                have H31 := As.mk h1
                have H33 := As.mk hx3
                have HB2 := As.mk hB2
                have HN : As (∀ w', Below W.heap.size W w' → w'.cell? ⟨b, 0, none⟩ = some (.pointer (some ⟨g, 0, none⟩)) ∧ w'.cell? ⟨gd, 0, none⟩ = some (.string da)) := ⟨fun w' h => ⟨(heap_cell (blk_step H31.out h) 0).trans rfl, (heap_cell (blk_step H33.out h) 0).trans rfl⟩⟩
                have HC0 := As.mk (And.intro c0 y0)
                have hC : Below W.heap.size W W.drew := (Below.refl _ W).drew
                have HRW := As.mk hb2
                clear hM hb2 hB2 hx3 h1 h2 hB hB1 hb_gd
                go_region_held3 (fun w' => w'.cell? ⟨b, 0, none⟩ = some (.pointer (some ⟨g, 0, none⟩)) ∧ w'.cell? ⟨gd, 0, none⟩ = some (.string da))
                  (first | exact HC0.out | exact HN.out _ hC)
                  (first
                    | (go_at_call 47; refine (GetB_calls _ t da _ (HT2.out.tr.below hC)).mono ?_; rw [HG.out]; rintro e w6 ⟨rfl, hb⟩; replace hC := bstep hC hb; clear hb))
                have hx6 := blk_step H33.out hC
                have y0 : w6.cell? ⟨gd, 0, none⟩ = some (.string da) := (heap_cell hx6 0).trans rfl
                have y1 : w6.cell? ⟨gd, 1, none⟩ = some (.bool false) := (heap_cell hx6 1).trans rfl
                have y2 : w6.cell? ⟨gd, 2, none⟩ = some (.string dc) := (heap_cell hx6 2).trans rfl
                have HB6 := As.mk (bstep HB2.out hC)
                have HRW6 := As.mk (bstep HRW.out hC)
                have HX6 := As.mk hx6
                have HR6 := As.mk (Kd.R_below HR.out HRW6.out)
                clear c0 hC hx6
                go_wp2_with (first
                  | ((with_reducible refine gate_builtin (b := .append) (xs := #[.tmp 88, .tmp 99]) rfl ?_); at_builtin; refine Kd.R_append k51 (w0 := w2) w2.heap.size rfl (.tmp 88) (.tmp 99) 47 51 (.agg #[.int .i64 0, .string ⟨#[]⟩, .bool false, .string ⟨#[]⟩, .bool false, .string ⟨#[]⟩]) 72 rfl Try.underlying47 info51 rfl (by decide) (by omega) _ X (⟨pos, da, false, gv, false, dc⟩ : S51) [.int .i64 pos, .string da, .bool false, .string gv, .bool false, .string dc] (fun _ => True) (fun _ => False) rfl (by first | (go_simp; done) | (go_simp; rfl)) ?aP (fun _ hk => hk.elim) (fun k hk => trivial) ?aO ?aB ?aS ?aL ?_; (case aP => exact k51_mkM _ _ _ (⟨pos, da, false, gv, false, dc⟩ : S51)); (case aO => exact HR6.out); (case aB => exact HB6.out); (case aS => exact HB6.out.size); (case aL => omega); intro v3 w7 ho3 hB3 hg3 hat3; rw [← HY.out] at ho3; have hx7 := (hg3.block gd (blk_lt HX6.out) (fun e' => by have := Kd.R_lt HR.out gd e'.symm; have := HGQ.out; omega)).trans HX6.out; have y1 := (heap_cell hx7 1).trans rfl; have y2 := (heap_cell hx7 2).trans rfl; obtain ⟨A3, c3, rfl⟩ := Kd.R_slice ho3; have HB3 := As.mk hB3; have HR3 := As.mk ho3; clear ho3 hg3 hat3 hB3 hx7))
                go_roundg (os.length - (k + 1))
                case measure => omega
                case rel => exact ⟨k + 1, Y, N + 1, by go_num, by go_num, ⟨HY.out.trans HE.out, HNN.out, HR3.out, by omega, Nat.le_refl _, HB3.out⟩⟩
              · skip
                have hsm : same t ⟨da, true, dc⟩ = false := by simp [same, hG]
                rw [show opEv pos t ⟨da, true, dc⟩ = [⟨pos, da, false, gv, true, dc⟩] by unfold opEv; rw [if_neg (by rw [hsm]; decide), hG]] at hev
                rw [show opN t ⟨da, true, dc⟩ = 1 by unfold opN; rw [if_neg (by rw [hsm]; decide), hG]; rfl] at hnn
                obtain ⟨Y, hY⟩ : ∃ Y, Y = X ++ [⟨pos, da, false, gv, true, dc⟩] := ⟨_, rfl⟩
                have HY := As.mk hY
                have HE := As.mk hev.symm
                have HNN := As.mk hnn.symm
                clear hY
                have HG := As.mk hG
                clear hsm hev hnn hG
                have hm := hR
                have HR := As.mk hR
                obtain ⟨A5, c5, rfl⟩ := Kd.R_slice hR
                clear hR hm
                have hM := HM.out.below hB
                go_wp2_with (first
                  | ((with_reducible refine gate_dst (N := 18) rfl ?_); refine box_event ?hg (N := 18) ?hd (cs := #[.string (⟨#[]⟩ : ByteArray), .bool false, .string (⟨#[]⟩ : ByteArray)]) (t := 95) ?hr ?_; (case hd => rfl); (case hg => rfl); (case hr => first | (go_simp; done) | (go_simp; rfl)); intro gd hg_gd w5 hx_gd hb_gd; have hB1 := bstep hB hb_gd; have GD := As.mk ((by rw [hg_gd]; exact hB.size) : w2.heap.size ≤ gd); have HGQ := As.mk (Nat.le_of_eq hg_gd.symm); clear hg_gd; have x0 := (heap_cell hx_gd 0).trans rfl; have z0 := blk_frozen hx_gd 0; have x1 := (heap_cell hx_gd 1).trans rfl; have z1 := blk_frozen hx_gd 1; have x2 := (heap_cell hx_gd 2).trans rfl; have z2 := blk_frozen hx_gd 2))
                have hb2 := (((hb_gd.setCell (p := ⟨gd, 0, none⟩) HGQ.out (.string da)).setCell (p := ⟨gd, 1, none⟩) HGQ.out (.bool true)).setCell (p := ⟨gd, 2, none⟩) HGQ.out (.string dc))
                have hB2 := (((hB1.setCell (p := ⟨gd, 0, none⟩) GD.out (.string da)).setCell (p := ⟨gd, 1, none⟩) GD.out (.bool true)).setCell (p := ⟨gd, 2, none⟩) GD.out (.string dc))
                have hx3 := (blk_put (blk_put (blk_put hx_gd 0 (.string da) rfl) 1 (.bool true) rfl) 2 (.string dc) rfl)
                generalize (((w5.setCell ⟨gd, 0, none⟩ (.string da)).setCell ⟨gd, 1, none⟩ (.bool true)).setCell ⟨gd, 2, none⟩ (.string dc)) = W at *
                obtain ⟨g, h1, h2⟩ := (hM.below hb2).ts
                have c0 : W.cell? ⟨b, 0, none⟩ = some (.pointer (some ⟨g, 0, none⟩)) := (heap_cell h1 0).trans rfl
                have y0 : W.cell? ⟨gd, 0, none⟩ = some (.string da) := (heap_cell hx3 0).trans rfl
                have HT2 := As.mk h2
                have H31 := As.mk h1
                have H33 := As.mk hx3
                have HB2 := As.mk hB2
                have HN : As (∀ w', Below W.heap.size W w' → w'.cell? ⟨b, 0, none⟩ = some (.pointer (some ⟨g, 0, none⟩)) ∧ w'.cell? ⟨gd, 0, none⟩ = some (.string da)) := ⟨fun w' h => ⟨(heap_cell (blk_step H31.out h) 0).trans rfl, (heap_cell (blk_step H33.out h) 0).trans rfl⟩⟩
                have HC0 := As.mk (And.intro c0 y0)
                have hC : Below W.heap.size W W.drew := (Below.refl _ W).drew
                have HRW := As.mk hb2
                clear hM hb2 hB2 hx3 h1 h2 hB hB1 hb_gd
                go_region_held3 (fun w' => w'.cell? ⟨b, 0, none⟩ = some (.pointer (some ⟨g, 0, none⟩)) ∧ w'.cell? ⟨gd, 0, none⟩ = some (.string da))
                  (first | exact HC0.out | exact HN.out _ hC)
                  (first
                    | (go_at_call 47; refine (GetB_calls _ t da _ (HT2.out.tr.below hC)).mono ?_; rw [HG.out]; rintro e w6 ⟨rfl, hb⟩; replace hC := bstep hC hb; clear hb))
                have hx6 := blk_step H33.out hC
                have y0 : w6.cell? ⟨gd, 0, none⟩ = some (.string da) := (heap_cell hx6 0).trans rfl
                have y1 : w6.cell? ⟨gd, 1, none⟩ = some (.bool true) := (heap_cell hx6 1).trans rfl
                have y2 : w6.cell? ⟨gd, 2, none⟩ = some (.string dc) := (heap_cell hx6 2).trans rfl
                have HB6 := As.mk (bstep HB2.out hC)
                have HRW6 := As.mk (bstep HRW.out hC)
                have HX6 := As.mk hx6
                have HR6 := As.mk (Kd.R_below HR.out HRW6.out)
                clear c0 hC hx6
                go_wp2_with (first
                  | ((with_reducible refine gate_builtin (b := .append) (xs := #[.tmp 88, .tmp 99]) rfl ?_); at_builtin; refine Kd.R_append k51 (w0 := w2) w2.heap.size rfl (.tmp 88) (.tmp 99) 47 51 (.agg #[.int .i64 0, .string ⟨#[]⟩, .bool false, .string ⟨#[]⟩, .bool false, .string ⟨#[]⟩]) 72 rfl Try.underlying47 info51 rfl (by decide) (by omega) _ X (⟨pos, da, false, gv, true, dc⟩ : S51) [.int .i64 pos, .string da, .bool false, .string gv, .bool true, .string dc] (fun _ => True) (fun _ => False) rfl (by first | (go_simp; done) | (go_simp; rfl)) ?aP (fun _ hk => hk.elim) (fun k hk => trivial) ?aO ?aB ?aS ?aL ?_; (case aP => exact k51_mkM _ _ _ (⟨pos, da, false, gv, true, dc⟩ : S51)); (case aO => exact HR6.out); (case aB => exact HB6.out); (case aS => exact HB6.out.size); (case aL => omega); intro v3 w7 ho3 hB3 hg3 hat3; rw [← HY.out] at ho3; have hx7 := (hg3.block gd (blk_lt HX6.out) (fun e' => by have := Kd.R_lt HR.out gd e'.symm; have := HGQ.out; omega)).trans HX6.out; have y1 := (heap_cell hx7 1).trans rfl; have y2 := (heap_cell hx7 2).trans rfl; obtain ⟨A3, c3, rfl⟩ := Kd.R_slice ho3; have HB3 := As.mk hB3; have HR3 := As.mk ho3; clear ho3 hg3 hat3 hB3 hx7))
                go_roundg (os.length - (k + 1))
                case measure => omega
                case rel => exact ⟨k + 1, Y, N + 1, by go_num, by go_num, ⟨HY.out.trans HE.out, HNN.out, HR3.out, by omega, Nat.le_refl _, HB3.out⟩⟩
              · skip
                have hsm : same t ⟨da, false, dc⟩ = false := by simp [same, hG]
                rw [show opEv pos t ⟨da, false, dc⟩ = [⟨pos, da, true, gv, false, dc⟩] by unfold opEv; rw [if_neg (by rw [hsm]; decide), hG]] at hev
                rw [show opN t ⟨da, false, dc⟩ = -1 by unfold opN; rw [if_neg (by rw [hsm]; decide), hG]; rfl] at hnn
                obtain ⟨Y, hY⟩ : ∃ Y, Y = X ++ [⟨pos, da, true, gv, false, dc⟩] := ⟨_, rfl⟩
                have HY := As.mk hY
                have HE := As.mk hev.symm
                have HNN := As.mk hnn.symm
                clear hY
                have HG := As.mk hG
                clear hsm hev hnn hG
                have hm := hR
                have HR := As.mk hR
                obtain ⟨A5, c5, rfl⟩ := Kd.R_slice hR
                clear hR hm
                have hM := HM.out.below hB
                go_wp2_with (first
                  | ((with_reducible refine gate_dst (N := 18) rfl ?_); refine box_event ?hg (N := 18) ?hd (cs := #[.string (⟨#[]⟩ : ByteArray), .bool false, .string (⟨#[]⟩ : ByteArray)]) (t := 95) ?hr ?_; (case hd => rfl); (case hg => rfl); (case hr => first | (go_simp; done) | (go_simp; rfl)); intro gd hg_gd w5 hx_gd hb_gd; have hB1 := bstep hB hb_gd; have GD := As.mk ((by rw [hg_gd]; exact hB.size) : w2.heap.size ≤ gd); have HGQ := As.mk (Nat.le_of_eq hg_gd.symm); clear hg_gd; have x0 := (heap_cell hx_gd 0).trans rfl; have z0 := blk_frozen hx_gd 0; have x1 := (heap_cell hx_gd 1).trans rfl; have z1 := blk_frozen hx_gd 1; have x2 := (heap_cell hx_gd 2).trans rfl; have z2 := blk_frozen hx_gd 2))
                have hb2 := (((hb_gd.setCell (p := ⟨gd, 0, none⟩) HGQ.out (.string da)).setCell (p := ⟨gd, 1, none⟩) HGQ.out (.bool false)).setCell (p := ⟨gd, 2, none⟩) HGQ.out (.string dc))
                have hB2 := (((hB1.setCell (p := ⟨gd, 0, none⟩) GD.out (.string da)).setCell (p := ⟨gd, 1, none⟩) GD.out (.bool false)).setCell (p := ⟨gd, 2, none⟩) GD.out (.string dc))
                have hx3 := (blk_put (blk_put (blk_put hx_gd 0 (.string da) rfl) 1 (.bool false) rfl) 2 (.string dc) rfl)
                generalize (((w5.setCell ⟨gd, 0, none⟩ (.string da)).setCell ⟨gd, 1, none⟩ (.bool false)).setCell ⟨gd, 2, none⟩ (.string dc)) = W at *
                obtain ⟨g, h1, h2⟩ := (hM.below hb2).ts
                have c0 : W.cell? ⟨b, 0, none⟩ = some (.pointer (some ⟨g, 0, none⟩)) := (heap_cell h1 0).trans rfl
                have y0 : W.cell? ⟨gd, 0, none⟩ = some (.string da) := (heap_cell hx3 0).trans rfl
                have HT2 := As.mk h2
                have H31 := As.mk h1
                have H33 := As.mk hx3
                have HB2 := As.mk hB2
                have HN : As (∀ w', Below W.heap.size W w' → w'.cell? ⟨b, 0, none⟩ = some (.pointer (some ⟨g, 0, none⟩)) ∧ w'.cell? ⟨gd, 0, none⟩ = some (.string da)) := ⟨fun w' h => ⟨(heap_cell (blk_step H31.out h) 0).trans rfl, (heap_cell (blk_step H33.out h) 0).trans rfl⟩⟩
                have HC0 := As.mk (And.intro c0 y0)
                have hC : Below W.heap.size W W.drew := (Below.refl _ W).drew
                have HRW := As.mk hb2
                clear hM hb2 hB2 hx3 h1 h2 hB hB1 hb_gd
                go_region_held3 (fun w' => w'.cell? ⟨b, 0, none⟩ = some (.pointer (some ⟨g, 0, none⟩)) ∧ w'.cell? ⟨gd, 0, none⟩ = some (.string da))
                  (first | exact HC0.out | exact HN.out _ hC)
                  (first
                    | (go_at_call 47; refine (GetB_calls _ t da _ (HT2.out.tr.below hC)).mono ?_; rw [HG.out]; rintro e w6 ⟨rfl, hb⟩; replace hC := bstep hC hb; clear hb))
                have hx6 := blk_step H33.out hC
                have y0 : w6.cell? ⟨gd, 0, none⟩ = some (.string da) := (heap_cell hx6 0).trans rfl
                have y1 : w6.cell? ⟨gd, 1, none⟩ = some (.bool false) := (heap_cell hx6 1).trans rfl
                have y2 : w6.cell? ⟨gd, 2, none⟩ = some (.string dc) := (heap_cell hx6 2).trans rfl
                have HB6 := As.mk (bstep HB2.out hC)
                have HRW6 := As.mk (bstep HRW.out hC)
                have HX6 := As.mk hx6
                have HR6 := As.mk (Kd.R_below HR.out HRW6.out)
                clear c0 hC hx6
                go_wp2_with (first
                  | ((with_reducible refine gate_builtin (b := .append) (xs := #[.tmp 88, .tmp 99]) rfl ?_); at_builtin; refine Kd.R_append k51 (w0 := w2) w2.heap.size rfl (.tmp 88) (.tmp 99) 47 51 (.agg #[.int .i64 0, .string ⟨#[]⟩, .bool false, .string ⟨#[]⟩, .bool false, .string ⟨#[]⟩]) 72 rfl Try.underlying47 info51 rfl (by decide) (by omega) _ X (⟨pos, da, true, gv, false, dc⟩ : S51) [.int .i64 pos, .string da, .bool true, .string gv, .bool false, .string dc] (fun _ => True) (fun _ => False) rfl (by first | (go_simp; done) | (go_simp; rfl)) ?aP (fun _ hk => hk.elim) (fun k hk => trivial) ?aO ?aB ?aS ?aL ?_; (case aP => exact k51_mkM _ _ _ (⟨pos, da, true, gv, false, dc⟩ : S51)); (case aO => exact HR6.out); (case aB => exact HB6.out); (case aS => exact HB6.out.size); (case aL => omega); intro v3 w7 ho3 hB3 hg3 hat3; rw [← HY.out] at ho3; have hx7 := (hg3.block gd (blk_lt HX6.out) (fun e' => by have := Kd.R_lt HR.out gd e'.symm; have := HGQ.out; omega)).trans HX6.out; have y1 := (heap_cell hx7 1).trans rfl; have y2 := (heap_cell hx7 2).trans rfl; obtain ⟨A3, c3, rfl⟩ := Kd.R_slice ho3; have HB3 := As.mk hB3; have HR3 := As.mk ho3; clear ho3 hg3 hat3 hB3 hx7))
                go_roundg (os.length - (k + 1))
                case measure => omega
                case rel => exact ⟨k + 1, Y, N + -1, by go_num, by go_num, ⟨HY.out.trans HE.out, HNN.out, HR3.out, by omega, Nat.le_refl _, HB3.out⟩⟩
              · skip
                have hsm : same t ⟨da, true, dc⟩ = false := by simp [same, hG, hv]
                rw [show opEv pos t ⟨da, true, dc⟩ = [⟨pos, da, true, gv, true, dc⟩] by unfold opEv; rw [if_neg (by rw [hsm]; decide), hG]] at hev
                rw [show opN t ⟨da, true, dc⟩ = 0 by unfold opN; rw [if_neg (by rw [hsm]; decide), hG]; rfl] at hnn
                obtain ⟨Y, hY⟩ : ∃ Y, Y = X ++ [⟨pos, da, true, gv, true, dc⟩] := ⟨_, rfl⟩
                have HY := As.mk hY
                have HE := As.mk hev.symm
                have HNN := As.mk (show N = _ from (Int.add_zero N).symm.trans hnn.symm)
                clear hY
                have q2 : (gv.toList == dc.toList) = false := key_ne hv
                clear hv
                have HG := As.mk hG
                clear hsm hev hnn hG
                have hm := hR
                have HR := As.mk hR
                obtain ⟨A5, c5, rfl⟩ := Kd.R_slice hR
                clear hR hm
                have hM := HM.out.below hB
                go_wp2_with (first
                  | ((with_reducible refine gate_dst (N := 18) rfl ?_); refine box_event ?hg (N := 18) ?hd (cs := #[.string (⟨#[]⟩ : ByteArray), .bool false, .string (⟨#[]⟩ : ByteArray)]) (t := 95) ?hr ?_; (case hd => rfl); (case hg => rfl); (case hr => first | (go_simp; done) | (go_simp; rfl)); intro gd hg_gd w5 hx_gd hb_gd; have hB1 := bstep hB hb_gd; have GD := As.mk ((by rw [hg_gd]; exact hB.size) : w2.heap.size ≤ gd); have HGQ := As.mk (Nat.le_of_eq hg_gd.symm); clear hg_gd; have x0 := (heap_cell hx_gd 0).trans rfl; have z0 := blk_frozen hx_gd 0; have x1 := (heap_cell hx_gd 1).trans rfl; have z1 := blk_frozen hx_gd 1; have x2 := (heap_cell hx_gd 2).trans rfl; have z2 := blk_frozen hx_gd 2))
                have hb2 := (((hb_gd.setCell (p := ⟨gd, 0, none⟩) HGQ.out (.string da)).setCell (p := ⟨gd, 1, none⟩) HGQ.out (.bool true)).setCell (p := ⟨gd, 2, none⟩) HGQ.out (.string dc))
                have hB2 := (((hB1.setCell (p := ⟨gd, 0, none⟩) GD.out (.string da)).setCell (p := ⟨gd, 1, none⟩) GD.out (.bool true)).setCell (p := ⟨gd, 2, none⟩) GD.out (.string dc))
                have hx3 := (blk_put (blk_put (blk_put hx_gd 0 (.string da) rfl) 1 (.bool true) rfl) 2 (.string dc) rfl)
                generalize (((w5.setCell ⟨gd, 0, none⟩ (.string da)).setCell ⟨gd, 1, none⟩ (.bool true)).setCell ⟨gd, 2, none⟩ (.string dc)) = W at *
                obtain ⟨g, h1, h2⟩ := (hM.below hb2).ts
                have c0 : W.cell? ⟨b, 0, none⟩ = some (.pointer (some ⟨g, 0, none⟩)) := (heap_cell h1 0).trans rfl
                have y0 : W.cell? ⟨gd, 0, none⟩ = some (.string da) := (heap_cell hx3 0).trans rfl
                have HT2 := As.mk h2
                have H31 := As.mk h1
                have H33 := As.mk hx3
                have HB2 := As.mk hB2
                have HN : As (∀ w', Below W.heap.size W w' → w'.cell? ⟨b, 0, none⟩ = some (.pointer (some ⟨g, 0, none⟩)) ∧ w'.cell? ⟨gd, 0, none⟩ = some (.string da)) := ⟨fun w' h => ⟨(heap_cell (blk_step H31.out h) 0).trans rfl, (heap_cell (blk_step H33.out h) 0).trans rfl⟩⟩
                have HC0 := As.mk (And.intro c0 y0)
                have hC : Below W.heap.size W W.drew := (Below.refl _ W).drew
                have HRW := As.mk hb2
                clear hM hb2 hB2 hx3 h1 h2 hB hB1 hb_gd
                go_region_held3 (fun w' => w'.cell? ⟨b, 0, none⟩ = some (.pointer (some ⟨g, 0, none⟩)) ∧ w'.cell? ⟨gd, 0, none⟩ = some (.string da))
                  (first | exact HC0.out | exact HN.out _ hC)
                  (first
                    | (go_at_call 47; refine (GetB_calls _ t da _ (HT2.out.tr.below hC)).mono ?_; rw [HG.out]; rintro e w6 ⟨rfl, hb⟩; replace hC := bstep hC hb; clear hb))
                have hx6 := blk_step H33.out hC
                have y0 : w6.cell? ⟨gd, 0, none⟩ = some (.string da) := (heap_cell hx6 0).trans rfl
                have y1 : w6.cell? ⟨gd, 1, none⟩ = some (.bool true) := (heap_cell hx6 1).trans rfl
                have y2 : w6.cell? ⟨gd, 2, none⟩ = some (.string dc) := (heap_cell hx6 2).trans rfl
                have HB6 := As.mk (bstep HB2.out hC)
                have HRW6 := As.mk (bstep HRW.out hC)
                have HX6 := As.mk hx6
                have HR6 := As.mk (Kd.R_below HR.out HRW6.out)
                clear c0 hC hx6
                go_wp2_with (first
                  | ((with_reducible refine gate_builtin (b := .append) (xs := #[.tmp 88, .tmp 99]) rfl ?_); at_builtin; refine Kd.R_append k51 (w0 := w2) w2.heap.size rfl (.tmp 88) (.tmp 99) 47 51 (.agg #[.int .i64 0, .string ⟨#[]⟩, .bool false, .string ⟨#[]⟩, .bool false, .string ⟨#[]⟩]) 72 rfl Try.underlying47 info51 rfl (by decide) (by omega) _ X (⟨pos, da, true, gv, true, dc⟩ : S51) [.int .i64 pos, .string da, .bool true, .string gv, .bool true, .string dc] (fun _ => True) (fun _ => False) rfl (by first | (go_simp; done) | (go_simp; rfl)) ?aP (fun _ hk => hk.elim) (fun k hk => trivial) ?aO ?aB ?aS ?aL ?_; (case aP => exact k51_mkM _ _ _ (⟨pos, da, true, gv, true, dc⟩ : S51)); (case aO => exact HR6.out); (case aB => exact HB6.out); (case aS => exact HB6.out.size); (case aL => omega); intro v3 w7 ho3 hB3 hg3 hat3; rw [← HY.out] at ho3; have hx7 := (hg3.block gd (blk_lt HX6.out) (fun e' => by have := Kd.R_lt HR.out gd e'.symm; have := HGQ.out; omega)).trans HX6.out; have y1 := (heap_cell hx7 1).trans rfl; have y2 := (heap_cell hx7 2).trans rfl; obtain ⟨A3, c3, rfl⟩ := Kd.R_slice ho3; have HB3 := As.mk hB3; have HR3 := As.mk ho3; clear ho3 hg3 hat3 hB3 hx7))
                go_roundg (os.length - (k + 1))
                case measure => omega
                case rel => exact ⟨k + 1, Y, N, by go_num, by go_num, ⟨HY.out.trans HE.out, HNN.out, HR3.out, by omega, Nat.le_refl _, HB3.out⟩⟩
          · obtain rfl : k = os.length := by omega
            rw [List.take_length] at hX hN
            rw [← hX, ← hN] at HPL2
            have HR := As.mk hR
            have HB := As.mk hB
            have hnb := nF_bound t os
            rw [← hN] at hnb
            obtain ⟨A5, c5, rfl⟩ := Kd.R_slice hR
            clear hX hN hR hB
            by_cases h24 : 24 < N
            · have HP : As (planF pos t cs os = ([], 7)) := ⟨by rw [HPL2.out, if_pos h24]⟩
              go_wp2_with fail
              go_ret2
              exact ⟨.slice none 0 0, by first | (rw [HP.out]; done) | (rw [HP.out]; rfl), by rw [HP.out]; exact Kd.R_nil _ _ _ _ _, bstep HBA.out HB.out⟩
            · have HP : As (planF pos t cs os = (X, 0)) := ⟨by rw [HPL2.out, if_neg h24]⟩
              go_wp2_with fail
              go_ret2
              exact ⟨_, by first | (rw [HP.out]; done) | (rw [HP.out]; rfl), by rw [HP.out]; exact Kd.R_lower HR.out HBA.out.size, bstep HBA.out HB.out⟩
  · have HP : As (planF pos t cs os = ([], checkF cs os)) := ⟨if_neg hck⟩
    obtain ⟨r, hr⟩ : ∃ r, r = checkF cs os := ⟨_, rfl⟩
    rw [← hr] at hck HP
    have HRR := As.mk hr
    have q1 : (r == 0) = false := by rw [beq_eq_false_iff_ne]; exact hck
    clear hr
    go_enter Try.func75, Try.ntmps75
    go_wp2_with (first
      | (go_at_call 93; refine (kvMade_calls b t w h).mono ?_; rintro e wa ⟨rfl, rfl⟩)
      | (go_at_call 56; refine (kvCheck_calls _ _ cs os w HU.out HV.out).mono ?_; rw [← HRR.out]; rintro e w2 ⟨rfl, hb⟩))
    go_ret2
    exact ⟨.slice none 0 0, by first | (rw [HP.out]; done) | (rw [HP.out]; rfl), by rw [HP.out]; exact Kd.R_nil _ _ _ _ _, hb⟩

end Go.Proofs.Ytehnkoglhbbfjaa

namespace Go.Proofs.Ytehnkoglhbbfjaa
open Go.RowKit Go.Proofs.YtehnkoglhbbfjaaW.PrintWords Go.Proofs.YtehnkoglhbbfjaaW.PrintLast Go.Proofs.YtehnkoglhbbfjaaW.PrintMore PAll

def doF (pos : Int) (t : T) (cs os : List S95) : T := if (planF pos t cs os).2 = 0 then (planF pos t cs os).1.foldl T.doEv t else t
def mkO (p : S29) : S95 := ⟨p.f0, true, p.f1⟩
theorem planF_len (pos : Int) (t : T) (cs os : List S95) : (planF pos t cs os).1.length ≤ 6 := by
  unfold planF
  split
  · rename_i h
    split
    · split
      · exact Nat.zero_le _
      · exact Nat.le_trans (evsF_length pos t os) (check_len h).1
    · exact Nat.zero_le _
  · exact Nat.zero_le _
theorem SlB_of_R {w : World} {b base : Nat} {ok : Nat → Prop} {v : Value} {l : List S51} (h : Kd.R k51 51 w base ok v l) (hb : b < base) : SlB w b v l := by
  obtain ⟨A, c, rfl, h2, h3⟩ := Kd.R_reads h
  refine ⟨A, c, rfl, h2, h3, fun ad e => ?_⟩
  subst e
  obtain ⟨g, rfl⟩ := Kd.R_head h
  have := Kd.R_base h g rfl
  show g ≠ b
  omega
theorem info95 : (Try.prog.info? 95).map (fun i => (i.zero, i.size, i.bytes)) = some (some (.agg #[.string ⟨#[]⟩, .bool false, .string ⟨#[]⟩]), 3, 40) := by kernel_rfl
theorem LenB_calls (p : Option Addr) (t : T) (w : World) (h : IsTr w p t) : Calls Try.prog 26 #[.pointer p] w fun e w' => e = .returned (.int .i64 t.size) ∧ Below w.heap.size w w' :=
  (Len_calls p t w h).mono fun _ _ ⟨h1, h2⟩ => ⟨h1, by rw [← h2]; exact Below.refl _ _⟩

set_option maxHeartbeats 4000000 in
set_option maxRecDepth 100000 in
theorem kvDo_calls (b : Nat) (t : T) (pos : Int) (u v : Value) (cs os : List S95) (w : World) (h : IsM w b t) (hu : SlO w u cs) (hv : SlO w v os) (hs : t.size < 100000) :
    Calls Try.prog 74 #[.pointer (some ⟨b, 0, none⟩), .int .i64 pos, u, v] w fun e w' => ∃ r, e = .returned (.tuple #[r, .int .i64 (planF pos t cs os).2]) ∧ Kd.R k51 51 w' w.heap.size (fun k => k ≠ b) r (planF pos t cs os).1 ∧ IsM w' b (doF pos t cs os) ∧ w.grownBy w' (some b) := by
  have hpl := planF_len pos t cs os
  have hlt := h.lt
  obtain ⟨D, hD⟩ : ∃ D, D = doF pos t cs os := ⟨_, rfl⟩
  have hD2 : D = if (planF pos t cs os).2 = 0 then (planF pos t cs os).1.foldl T.doEv t else t := hD
  have HP := As.mk (kvPlan_calls b t pos u v cs os w h hu hv hs)
  have HD := As.mk hD
  clear hu hv hD
  generalize planF pos t cs os = PL at *
  obtain ⟨es, er⟩ := PL
  dsimp only at hpl hD2
  by_cases he : er = 0
  · rw [if_pos he] at hD2
    subst he
    have HD2 := As.mk hD2
    clear hD2
    go_enter Try.func74, Try.ntmps74
    go_wp2_with (first
      | (go_at_call 75; refine HP.out.mono ?_; rintro e w1 ⟨r, rfl, hR, hb⟩; obtain ⟨A, c, rfl⟩ := Kd.R_slice hR; have HR := As.mk hR; have HB := As.mk hb; clear hb hR)
      | (go_at_call 70; refine (kvTake_calls b t _ es w1 (h.below HB.out) (SlB_of_R HR.out hlt) (by omega)).mono ?_; rintro e w2 ⟨rfl, hM, hG⟩; have HM := As.mk hM; have HG := As.mk hG; clear hM hG))
    go_ret2
    exact ⟨_, rfl, Kd.R_grown (Kd.R_mono (Kd.R_bound HR.out) (ok' := fun k => k ≠ b) (fun k hk => by have := hk.2.1; omega)) HG.out (fun k hk e => hk (by cases e; rfl)), by rw [← HD.out, HD2.out]; exact HM.out, turn_trans (grown_of_below HB.out _) HG.out⟩
  · rw [if_neg he] at hD2
    have HD2 := As.mk hD2
    have q1 : (er == 0) = false := by rw [beq_eq_false_iff_ne]; exact he
    clear hD2
    go_enter Try.func74, Try.ntmps74
    go_wp2_with (first
      | (go_at_call 75; refine HP.out.mono ?_; rintro e w1 ⟨r, rfl, hR, hb⟩; obtain ⟨A, c, rfl⟩ := Kd.R_slice hR; have HR := As.mk hR; have HB := As.mk hb; clear hb hR))
    go_ret2
    exact ⟨_, rfl, Kd.R_mono (Kd.R_bound HR.out) (fun k hk => by have := hk.2.1; omega), by rw [← HD.out, HD2.out]; exact h.below HB.out, grown_of_below HB.out _⟩

set_option maxHeartbeats 4000000 in
set_option maxRecDepth 100000 in
theorem kvScan_calls (b : Nat) (t : T) (fr tt : ByteArray) (w : World) (h : IsM w b t) (hs : t.size < 100000) :
    Calls Try.prog 72 #[.pointer (some ⟨b, 0, none⟩), .string fr, .string tt] w fun e w' => ∃ v', e = .returned v' ∧ SlO w' v' ((T.scan fr tt t.size t []).map mkO) ∧ Below w.heap.size w w' := by
  have hsl := T.scan_length fr tt t.size t []
  obtain ⟨L, hL⟩ : ∃ L, L = T.scan fr tt t.size t [] := ⟨_, rfl⟩
  rw [← hL] at hsl
  simp only [List.length_nil, Nat.zero_add] at hsl
  have HL := As.mk hL
  clear hL
  obtain ⟨g, h1, h2⟩ := h.ts
  have c0 : w.cell? ⟨b, 0, none⟩ = some (.pointer (some ⟨g, 0, none⟩)) := (heap_cell h1 0).trans rfl
  have HT := As.mk h2
  have HC0 := As.mk c0
  have HN : As (∀ w', Below w.heap.size w w' → w'.cell? ⟨b, 0, none⟩ = some (.pointer (some ⟨g, 0, none⟩))) := ⟨fun w' hb => (heap_cell (blk_step h1 hb) 0).trans rfl⟩
  go_enter Try.func72, Try.ntmps72
  go_wp2_with (first
    | (go_at_call 93; refine (kvMade_calls b t w h).mono ?_; rintro e w2 ⟨rfl, rfl⟩))
  have hC : Below w.heap.size w w.drew := (Below.refl _ w).drew
  clear h h1 h2
  go_region_held3 (fun w' => w'.cell? ⟨b, 0, none⟩ = some (.pointer (some ⟨g, 0, none⟩)))
    (first | exact HC0.out | exact HN.out _ hC)
    (first
      | (go_at_call 26; refine (LenB_calls _ t _ (HT.out.tr.below hC)).mono ?_; rintro e w3 ⟨rfl, hb⟩; replace hC := bstep hC hb; clear hb)
      | (go_at_call 28; refine (Scan_calls _ t fr tt t.size _ (HT.out.tr.below hC) (by omega)).mono ?_; rw [← HL.out]; rintro e w2 ⟨v2, rfl, hR, hb⟩; replace hC := bstep hC hb; obtain ⟨Ag, cg, hv2, -, hCg⟩ := Kd.R_reads hR; subst hv2; have HC := As.mk hCg; clear hb hR hCg))
  have HB := As.mk hC
  clear hC c0
  go_wp2_with fail
  go_loopg [7, 9, 27] L.length (fun m v7 v9 v27 wr => ∃ (k : Nat) (X : List S95), v27 = .int .i64 k ∧ As (X = (L.take k).map mkO ∧ Kd.R k95 95 wr w2.heap.size (fun _ => True) v7 X ∧ k ≤ L.length ∧ L.length - k ≤ m ∧ Below w2.heap.size w2 wr))
  case atStart => exact ⟨0, [], rfl, ⟨rfl, Kd.R_nil _ _ _ _ _, Nat.zero_le _, Nat.le_refl _, Below.refl _ _⟩⟩
  case round =>
    obtain ⟨k, X, rfl, ⟨hX, hR, hk, hm, hB⟩⟩ := hrel
    by_cases hlt : k < L.length
    · obtain ⟨ad, hA, hx0, hx1⟩ := at_T29 HC.out (k : Int) (by omega) (by omega)
      subst hA
      have hts := take_snoc L z29 k hlt
      have hrd : rd_T29 L (k : Int) = L.getD k z29 := by unfold rd_T29; rw [Int.toNat_natCast]
      rw [hrd, Int.toNat_natCast] at hx0 hx1
      have hfs : (L.take (k + 1)).map mkO = X ++ [mkO (L.getD k z29)] := by rw [hts, List.map_append, ← hX]; rfl
      have hxl : X.length ≤ L.length := by rw [hX, List.length_map, List.length_take]; omega
      clear hts hrd hX
      generalize L.getD k z29 = d at *
      obtain ⟨da, db⟩ := d
      dsimp only at hx0 hx1
      replace hx0 := (hB.cell (World.block_lt_of_cell? w2 _ hx0)).trans hx0
      replace hx1 := (hB.cell (World.block_lt_of_cell? w2 _ hx1)).trans hx1
      have p0 : 0 ≤ (k : Int) := by omega
      obtain ⟨Y, hY⟩ : ∃ Y, Y = X ++ [(⟨da, true, db⟩ : S95)] := ⟨_, rfl⟩
      have HY := As.mk hY
      have HFS := As.mk (hfs.trans hY.symm)
      have HR := As.mk hR
      obtain ⟨A5, c5, rfl⟩ := Kd.R_slice hR
      clear hfs hY hR
      go_wp2_with (first
        | ((with_reducible refine gate_dst (N := 9) rfl ?_); refine box_event ?hg (N := 9) ?hd (cs := #[.string (⟨#[]⟩ : ByteArray), .string (⟨#[]⟩ : ByteArray)]) (t := 29) ?hr ?_; (case hd => rfl); (case hg => rfl); (case hr => first | (go_simp; done) | (go_simp; rfl)); intro gd hg_gd w4 hx_gd hb_gd; have hB1 := bstep hB hb_gd; have GD := As.mk ((by rw [hg_gd]; exact hB.size) : w2.heap.size ≤ gd); have GQ := As.mk (Nat.le_of_eq hg_gd.symm); clear hg_gd; obtain ⟨x0, x1⟩ := cells2 hx_gd; have z0 := blk_frozen hx_gd 0; have z1 := blk_frozen hx_gd 1)
        | ((with_reducible refine gate_builtin (b := .append) (xs := #[.tmp 31, .tmp 37]) rfl ?_); at_builtin; have hb2 := (hB1.setCell (p := ⟨gd, 0, none⟩) GD.out (.string da)).setCell (p := ⟨gd, 1, none⟩) GD.out (.string db); have hb3 := (hb_gd.setCell (p := ⟨gd, 0, none⟩) GQ.out (.string da)).setCell (p := ⟨gd, 1, none⟩) GQ.out (.string db); have hr2 := Kd.R_below HR.out hb3; refine Kd.R_append k95 (w0 := w2) w2.heap.size rfl (.tmp 31) (.tmp 37) 75 95 (.agg #[.string ⟨#[]⟩, .bool false, .string ⟨#[]⟩]) 40 rfl Try.underlying75 info95 rfl (by decide) (by omega) _ X (⟨da, true, db⟩ : S95) [.string da, .bool true, .string db] (fun _ => True) (fun _ => False) rfl (by first | (go_simp; done) | (go_simp; rfl)) ?aP (fun _ hk => hk.elim) (fun k hk => trivial) ?aO ?aB ?aS ?aL ?_; (case aP => exact k95_mkM _ _ _ (⟨da, true, db⟩ : S95)); (case aO => exact hr2); (case aB => exact hb2); (case aS => exact hb2.size); (case aL => omega); intro v3 w7 ho3 hB3 hg3 hat3; rw [← HY.out] at ho3; obtain ⟨A3, c3, rfl⟩ := Kd.R_slice ho3; have HB3 := As.mk hB3; have HR3 := As.mk ho3; clear ho3 hg3 hat3 hB3 hb2 hb3 hr2))
      go_roundg (L.length - (k + 1))
      case measure => omega
      case rel => exact ⟨k + 1, Y, by go_num, ⟨HFS.out.symm, HR3.out, by omega, Nat.le_refl _, HB3.out⟩⟩
    · obtain rfl : k = L.length := by omega
      rw [List.take_length] at hX
      have HX := As.mk hX
      have hR' := Kd.R_reads hR
      have HR := As.mk hR'
      obtain ⟨A5, c5, rfl⟩ := Kd.R_slice hR
      have HBB := As.mk (bstep HB.out hB)
      clear hX hR hB hR'
      go_wp2_with fail
      go_ret
      exact ⟨_, rfl, by rw [← HL.out, ← HX.out]; exact HR.out, HBB.out⟩

set_option maxHeartbeats 1000000 in
set_option maxRecDepth 100000 in
theorem kvClone_calls (b : Nat) (t : T) (w : World) (h : IsM w b t) : Calls Try.prog 73 #[.pointer (some ⟨b, 0, none⟩)] w fun e w' => ∃ b', e = .returned (.pointer (some ⟨b', 0, none⟩)) ∧ w.heap.size ≤ b' ∧ IsM w' b' t ∧ Below w.heap.size w w' := by
  obtain ⟨g, h1, h2⟩ := h.ts
  have c0 : w.cell? ⟨b, 0, none⟩ = some (.pointer (some ⟨g, 0, none⟩)) := (heap_cell h1 0).trans rfl
  go_enter Try.func73, Try.ntmps73
  go_wp2_with (first
    | (go_at_call 93; refine (kvMade_calls b t w h).mono ?_; rintro e w2 ⟨rfl, rfl⟩))
  go_ret
  have hb2 : Below w.heap.size w (w.alloc (.cells #[.pointer (some ⟨g, 0, none⟩)] 119)) := (Below.refl _ _).alloc (Nat.le_refl _) _
  exact ⟨_, rfl, Nat.le_refl _, IsM.of (heap_alloc_new w (.cells #[.pointer (some ⟨g, 0, none⟩)] 119)) (h2.below hb2), hb2⟩

end Go.Proofs.Ytehnkoglhbbfjaa
