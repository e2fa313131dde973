/-
  Both of two trees, on their lists; the reference's Union, Minus, Both by what they have at each key.
-/
import Derived.Test.YtehnkoglhbbfjaaM12
import Derived.Test.YtehnkoglhbbfjaaT13
import Derived.Test.YtehnkoglhbbfjaaM10
set_option linter.unusedVariables false
set_option linter.unusedSimpArgs false
namespace Go.Proofs.Ytehnkoglhbbfjaa
open PAll
namespace T

theorem BothR_get (b : T) : ∀ a u, BothR a b u → Srt a.toL → Srt b.toL → Srt u.toL ∧ ∀ k, getL k u.toL = if (getL k b.toL).2 = true then getL k a.toL else none_ := by
  induction b with
  | nil => intro a u h ha _; rw [show u = nil from h]; exact ⟨srt_nil, fun k => rfl⟩
  | node bl bk bv br ihl ihr =>
    intro a u h ha hb
    obtain ⟨hbl, hbr, hb1, hb2⟩ := srt_node hb
    rcases h with ⟨rfl, rfl⟩ | ⟨rfl, rfl⟩ | ⟨-, u1, u2, h1, h2, h3⟩
    · exact ⟨srt_nil, fun k => by split <;> rfl⟩
    · refine ⟨hb, fun k => ?_⟩
      by_cases c : (getL k (node bl bk bv br).toL).2 = true
      · rw [if_pos c]
      · rw [if_neg c, none_of c]
    · obtain ⟨e1, e2, e3, e4⟩ := split_toL bk a ha
      have sa1 : Srt (split bk a).1.toL := by rw [e1]; exact srt_filter ha _
      have sa2 : Srt (split bk a).2.1.toL := by rw [e2]; exact srt_filter ha _
      obtain ⟨s1, g1⟩ := ihl _ _ h1 sa1 hbl
      obtain ⟨s2, g2⟩ := ihr _ _ h2 sa2 hbr
      have k1 : ∀ x ∈ u1.toL, lt x.f0 bk = true := fun x hx => by
        have h := g1 x.f0
        rw [getL_mem (v := x.f1) s1 hx] at h
        by_cases c : (getL x.f0 bl.toL).2 = true
        · exact found_lt hb1 c
        · rw [if_neg c] at h; exact absurd (Prod.mk.inj h).2 (by decide)
      have k2 : ∀ x ∈ u2.toL, lt bk x.f0 = true := fun x hx => by
        have h := g2 x.f0
        rw [getL_mem (v := x.f1) s2 hx] at h
        by_cases c : (getL x.f0 br.toL).2 = true
        · exact found_gt hb2 c
        · rw [if_neg c] at h; exact absurd (Prod.mk.inj h).2 (by decide)
      have side : ∀ k, (lt k bk = true → getL k u1.toL = if (getL k bl.toL).2 = true then getL k a.toL else none_) ∧ (lt bk k = true → getL k u2.toL = if (getL k br.toL).2 = true then getL k a.toL else none_) := fun k =>
        ⟨fun c => by rw [g1, e1, getL_less, if_pos c], fun c => by rw [g2, e2, getL_more, if_pos c]⟩
      cases hc : (split bk a).2.2 with
      | nil =>
        rw [hc] at h3 e3
        subst h3
        rw [glue_toL]
        have su : Srt (u1.toL ++ u2.toL) := srt_append s1 s2 fun x hx y hy => lt_trans (k1 x hx) (k2 y hy)
        refine ⟨su, fun k => ?_⟩
        have hG : getL k (node bl bk bv br).toL = if k = bk then (bv, true) else if lt k bk = true then getL k bl.toL else getL k br.toL := getL_mid k _ _ _ hb
        generalize getL k (node bl bk bv br).toL = G at hG ⊢
        subst hG
        by_cases c : k = bk
        · rw [if_pos c, if_pos rfl, c, ← e3]
          exact getL_of_none fun x hx => by
            rcases List.mem_append.1 hx with hx | hx
            · exact lt_ne (k1 x hx)
            · exact Ne.symm (lt_ne (k2 x hx))
        · rw [if_neg c]
          by_cases c2 : lt k bk = true
          · rw [if_pos c2, getL_append_left _ _ _ fun x hx => Ne.symm (lt_ne (lt_trans c2 (k2 x hx))), (side k).1 c2]
          · have c3 := lt_tri (by simpa using c2) c
            rw [if_neg c2, getL_append _ _ _ fun x hx => lt_ne (lt_trans (k1 x hx) c3), (side k).2 c3]
      | node x kk vv t =>
        rw [hc] at h3 e3 e4
        obtain ⟨rfl, -⟩ := e4
        subst h3
        rw [join_toL]
        have su : Srt (u1.toL ++ ⟨kk, vv⟩ :: u2.toL) := srt_mid.2 ⟨s1, s2, k1, k2⟩
        refine ⟨su, fun k => ?_⟩
        have hG : getL k (node bl kk bv br).toL = if k = kk then (bv, true) else if lt k kk = true then getL k bl.toL else getL k br.toL := getL_mid k _ _ _ hb
        generalize getL k (node bl kk bv br).toL = G at hG ⊢
        subst hG
        rw [getL_mid k _ _ _ su]
        dsimp only
        by_cases c : k = kk
        · rw [if_pos c, if_pos c, if_pos rfl, c, ← e3]; rfl
        · rw [if_neg c, if_neg c]
          by_cases c2 : lt k kk = true
          · rw [if_pos c2, if_pos c2, (side k).1 c2]
          · have c3 := lt_tri (by simpa using c2) c
            rw [if_neg c2, if_neg c2, (side k).2 c3]

theorem unionL_get (b : List Pr) : ∀ a, Srt a → Srt b → Srt (unionL a b) ∧ ∀ k, getL k (unionL a b) = if (getL k b).2 = true then getL k b else getL k a := by
  induction b with
  | nil => intro a ha _; exact ⟨ha, fun k => rfl⟩
  | cons p r ih =>
    intro a ha hb
    obtain ⟨hp, hr⟩ := srt_cons hb
    obtain ⟨h1, h2⟩ := ih (withP p a) (srt_withP ha) hr
    refine ⟨h1, fun k => ?_⟩
    show getL k (unionL (withP p a) r) = _
    rw [h2 k, getL_withP]
    by_cases c : k = p.f0
    · have hn : getL k r = none_ := getL_of_none fun x hx => by rw [c]; exact Ne.symm (lt_ne (hp x hx))
      have hg : getL k (p :: r) = (p.f1, true) := by rw [getL, if_pos c.symm]
      rw [hn, hg, if_pos c]
      rfl
    · have hg : getL k (p :: r) = getL k r := by rw [getL, if_neg fun e => c e.symm]
      rw [hg, if_neg c]
theorem minusL_get (b : List Pr) : ∀ a, Srt a → Srt (minusL a b) ∧ ∀ k, getL k (minusL a b) = if (getL k b).2 = true then none_ else getL k a := by
  induction b with
  | nil => intro a ha; exact ⟨ha, fun k => rfl⟩
  | cons p r ih =>
    intro a ha
    obtain ⟨h1, h2⟩ := ih (without p.f0 a) (srt_without ha _)
    refine ⟨h1, fun k => ?_⟩
    show getL k (minusL (without p.f0 a) r) = _
    rw [h2 k, getL_without]
    by_cases c : k = p.f0
    · have hg : getL k (p :: r) = (p.f1, true) := by rw [getL, if_pos c.symm]
      rw [hg, if_pos c]
      split <;> rfl
    · have hg : getL k (p :: r) = getL k r := by rw [getL, if_neg fun e => c e.symm]
      rw [hg, if_neg c]
end T
end Go.Proofs.Ytehnkoglhbbfjaa

namespace Go.Proofs.Ytehnkoglhbbfjaa
open PAll
namespace T

theorem len_split (f : Pr → Bool) (l : List Pr) : (l.filter f).length + (l.filter fun x => !f x).length = l.length := by
  induction l with
  | nil => rfl
  | cons p r ih =>
    cases h : f p <;> simp [List.filter_cons, h] <;> omega

theorem sets_lengths {a b d i u : List Pr} (ha : Srt a) (hb : Srt b) (hd : Srt d) (hi : Srt i) (hu : Srt u)
    (gd : ∀ k, getL k d = if (getL k b).2 = true then none_ else getL k a)
    (gi : ∀ k, getL k i = if (getL k b).2 = true then getL k a else none_)
    (gu : ∀ k, getL k u = if (getL k b).2 = true then getL k b else getL k a) :
    d.length + i.length = a.length ∧ u.length = d.length + b.length := by
  have e1 : (a.filter fun p => (getL p.f0 b).2) = i := srt_ext (srt_filter ha _) hi fun k => by
    rw [getL_filter k (fun x => (getL x b).2), gi]
  have e2 : (a.filter fun p => !(getL p.f0 b).2) = d := srt_ext (srt_filter ha _) hd fun k => by
    rw [getL_filter k (fun x => !(getL x b).2), gd]
    cases (getL k b).2 <;> simp
  have e3 : (u.filter fun p => (getL p.f0 b).2) = b := srt_ext (srt_filter hu _) hb fun k => by
    rw [getL_filter k (fun x => (getL x b).2), gu]
    by_cases c : (getL k b).2 = true
    · rw [if_pos c, if_pos c]
    · rw [if_neg c, none_of c]
  have e4 : (u.filter fun p => !(getL p.f0 b).2) = d := srt_ext (srt_filter hu _) hd fun k => by
    rw [getL_filter k (fun x => !(getL x b).2), gu, gd]
    cases h : (getL k b).2 <;> simp [h]
  have l1 := len_split (fun p => (getL p.f0 b).2) a
  have l2 := len_split (fun p => (getL p.f0 b).2) u
  rw [e1, e2] at l1
  rw [e3, e4] at l2
  omega
end T
end Go.Proofs.Ytehnkoglhbbfjaa

namespace Go.Proofs.Ytehnkoglhbbfjaa
open PAll
namespace T

theorem UnionR_bal (b : T) : ∀ a u, UnionR a b u → Bal a → Bal b → Bal u := by
  induction b with
  | nil => intro a u h ha _; rw [show u = a from h]; exact ha
  | node bl bk bv br ihl ihr =>
    intro a u h ha hb
    obtain ⟨s1, s2⟩ := split_bal bk a ha
    rcases h with ⟨rfl, rfl⟩ | ⟨rfl, rfl⟩ | ⟨-, u1, u2, h1, h2, rfl⟩
    · exact hb
    · exact hb
    · exact join_bal _ _ (ihl _ _ h1 s1 hb.1) (ihr _ _ h2 s2 hb.2.1)
theorem MinusR_bal (b : T) : ∀ a u, MinusR a b u → Bal a → Bal u := by
  induction b with
  | nil => intro a u h ha; rw [show u = a from h]; exact ha
  | node bl bk bv br ihl ihr =>
    intro a u h ha
    obtain ⟨s1, s2⟩ := split_bal bk a ha
    rcases h with ⟨rfl, rfl⟩ | ⟨rfl, rfl⟩ | ⟨-, u1, u2, h1, h2, rfl⟩
    · exact trivial
    · exact trivial
    · exact glue_bal (ihl _ _ h1 s1) (ihr _ _ h2 s2)
theorem BothR_bal (b : T) : ∀ a u, BothR a b u → Bal a → Bal u := by
  induction b with
  | nil => intro a u h ha; rw [show u = nil from h]; exact trivial
  | node bl bk bv br ihl ihr =>
    intro a u h ha
    obtain ⟨s1, s2⟩ := split_bal bk a ha
    rcases h with ⟨rfl, rfl⟩ | ⟨rfl, rfl⟩ | ⟨-, u1, u2, h1, h2, h3⟩
    · exact trivial
    · exact ha
    · cases hc : (split bk a).2.2 with
      | nil => rw [hc] at h3; rw [h3]; exact glue_bal (ihl _ _ h1 s1) (ihr _ _ h2 s2)
      | node x y z t => rw [hc] at h3; rw [h3]; exact join_bal _ _ (ihl _ _ h1 s1) (ihr _ _ h2 s2)

theorem union_toL {a b u : T} (h : UnionR a b u) (ha : Srt a.toL) (hb : Srt b.toL) : u.toL = unionL a.toL b.toL := by
  obtain ⟨s, g⟩ := UnionR_get b a u h ha hb
  obtain ⟨s', g'⟩ := unionL_get b.toL a.toL ha hb
  exact srt_ext s s' fun k => by rw [g, g']
theorem minus_toL {a b u : T} (h : MinusR a b u) (ha : Srt a.toL) (hb : Srt b.toL) : u.toL = minusL a.toL b.toL := by
  obtain ⟨s, g⟩ := MinusR_get b a u h ha hb
  obtain ⟨s', g'⟩ := minusL_get b.toL a.toL ha
  exact srt_ext s s' fun k => by rw [g, g']
theorem both_toL {a b u : T} (h : BothR a b u) (ha : Srt a.toL) (hb : Srt b.toL) : u.toL = minusL a.toL (minusL a.toL b.toL) := by
  obtain ⟨s, g⟩ := BothR_get b a u h ha hb
  obtain ⟨s1, g1⟩ := minusL_get b.toL a.toL ha
  obtain ⟨s2, g2⟩ := minusL_get (minusL a.toL b.toL) a.toL ha
  refine srt_ext s s2 fun k => ?_
  rw [g, g2, g1]
  by_cases c : (getL k b.toL).2 = true
  · rw [if_pos c, if_pos c]
    rfl
  · rw [if_neg c, if_neg c]
    by_cases d : (getL k a.toL).2 = true
    · rw [if_pos d]
    · rw [if_neg d, none_of d]
theorem sets_sizes {a b u d i : T} (hu : UnionR a b u) (hd : MinusR a b d) (hi : BothR a b i) (ha : Srt a.toL) (hb : Srt b.toL) :
    d.size + i.size = a.size ∧ u.size = d.size + b.size := by
  obtain ⟨su, gu⟩ := UnionR_get b a u hu ha hb
  obtain ⟨sd, gd⟩ := MinusR_get b a d hd ha hb
  obtain ⟨si, gi⟩ := BothR_get b a i hi ha hb
  have := sets_lengths ha hb sd si su gd gi gu
  simpa only [toL_length] using this
end T
end Go.Proofs.Ytehnkoglhbbfjaa

namespace Go.Proofs.Ytehnkoglhbbfjaa
open PAll
namespace T

/-- The document's event at a key. -/
def evAt (x y : List Pr) (k : ByteArray) : List Ev :=
  if (getL k x).2 = (getL k y).2 ∧ (getL k x).1 = (getL k y).1 then [] else [⟨0, k, (getL k x).2, (getL k x).1, (getL k y).2, (getL k y).1⟩]
def diffL (x y : List Pr) : List Ev := (unionL x y).flatMap fun p => evAt x y p.f0

theorem fm_congr {α β : Type} {l : List α} {f g : α → List β} (h : ∀ x ∈ l, f x = g x) : l.flatMap f = l.flatMap g := by
  induction l with
  | nil => rfl
  | cons a r ih => rw [List.flatMap_cons, List.flatMap_cons, h a (List.mem_cons_self ..), ih fun x hx => h x (List.mem_cons_of_mem _ hx)]
theorem fm_single {α β : Type} (l : List α) (f : α → β) : (l.flatMap fun x => [f x]) = l.map f := by
  induction l with
  | nil => rfl
  | cons a r ih => rw [List.flatMap_cons, ih]; rfl
theorem evAt_congr {x y x' y' : List Pr} {k : ByteArray} (h : getL k x = getL k x') (h' : getL k y = getL k y') : evAt x y k = evAt x' y' k := by
  unfold evAt; rw [h, h']
theorem diffNil_map (t : T) : diffNil t = t.toL.map fun p => ⟨0, p.f0, false, ⟨#[]⟩, true, p.f1⟩ := by
  induction t with
  | nil => rfl
  | node l k v r ihl ihr => simp only [diffNil, toL, ihl, ihr, List.map_append, List.map_cons]
theorem unionL_nil {b : List Pr} (hb : Srt b) : unionL [] b = b := by
  obtain ⟨s, g⟩ := unionL_get b [] srt_nil hb
  refine srt_ext s hb fun k => ?_
  rw [g]
  by_cases c : (getL k b).2 = true
  · rw [if_pos c]
  · rw [if_neg c, none_of c]; rfl
theorem union_lt {k : ByteArray} {a b : List Pr} (ha : Srt a) (hb : Srt b) (h1 : ∀ x ∈ a, lt x.f0 k = true) (h2 : ∀ x ∈ b, lt x.f0 k = true) : ∀ x ∈ unionL a b, lt x.f0 k = true := fun x hx => by
  obtain ⟨s, g⟩ := unionL_get b a ha hb
  have h := g x.f0
  rw [getL_mem (v := x.f1) s hx] at h
  by_cases c : (getL x.f0 b).2 = true
  · exact found_lt h2 c
  · rw [if_neg c] at h
    exact found_lt h1 (by rw [← h])
theorem union_gt {k : ByteArray} {a b : List Pr} (ha : Srt a) (hb : Srt b) (h1 : ∀ x ∈ a, lt k x.f0 = true) (h2 : ∀ x ∈ b, lt k x.f0 = true) : ∀ x ∈ unionL a b, lt k x.f0 = true := fun x hx => by
  obtain ⟨s, g⟩ := unionL_get b a ha hb
  have h := g x.f0
  rw [getL_mem (v := x.f1) s hx] at h
  by_cases c : (getL x.f0 b).2 = true
  · exact found_gt h2 c
  · rw [if_neg c] at h
    exact found_gt h1 (by rw [← h])
theorem less_lt (k : ByteArray) (l : List Pr) : ∀ x ∈ lessL k l, lt x.f0 k = true := fun x hx => by simpa using (List.mem_filter.1 hx).2
theorem more_gt (k : ByteArray) (l : List Pr) : ∀ x ∈ moreL k l, lt k x.f0 = true := fun x hx => by simpa using (List.mem_filter.1 hx).2

/-- The union of a list about a key, and another one. -/
theorem union_mid {l r b : List Pr} {k v : ByteArray} (h : Srt (l ++ ⟨k, v⟩ :: r)) (hb : Srt b) :
    unionL (l ++ ⟨k, v⟩ :: r) b = unionL l (lessL k b) ++ ⟨k, if (getL k b).2 = true then (getL k b).1 else v⟩ :: unionL r (moreL k b) := by
  obtain ⟨hl, hr, h1, h2⟩ := srt_mid.1 h
  have sl : Srt (lessL k b) := srt_filter hb _
  have sm : Srt (moreL k b) := srt_filter hb _
  obtain ⟨s, g⟩ := unionL_get b _ h hb
  obtain ⟨s1, g1⟩ := unionL_get (lessL k b) l hl sl
  obtain ⟨s2, g2⟩ := unionL_get (moreL k b) r hr sm
  have su : Srt (unionL l (lessL k b) ++ ⟨k, if (getL k b).2 = true then (getL k b).1 else v⟩ :: unionL r (moreL k b)) :=
    srt_mid.2 ⟨s1, s2, union_lt hl sl h1 (less_lt k b), union_gt hr sm h2 (more_gt k b)⟩
  refine srt_ext s su fun q => ?_
  rw [g, getL_mid q _ _ _ h, getL_mid q _ _ _ su, g1, g2, getL_less, getL_more]
  dsimp only
  by_cases c : q = k
  · subst c
    rw [if_pos rfl, if_pos rfl]
    by_cases d : (getL q b).2 = true
    · rw [if_pos d, if_pos d, ← d]
    · rw [if_neg d, if_neg d]
  · rw [if_neg c, if_neg c]
    by_cases d : lt q k = true
    · rw [if_pos d, if_pos d, if_pos d]
    · have e := lt_tri (by simpa using d) c
      rw [if_neg d, if_neg d, if_pos e]

theorem diff_L (a : T) : ∀ b : T, Srt a.toL → Srt b.toL → diff a b = diffL a.toL b.toL := by
  induction a with
  | nil =>
    intro b _ hb
    show diffNil b = diffL [] b.toL
    unfold diffL
    rw [diffNil_map, unionL_nil hb, ← fm_single]
    refine fm_congr fun x hx => ?_
    unfold evAt
    rw [getL_mem (v := x.f1) hb hx]
    rfl
  | node l k v r ihl ihr =>
    intro b ha hb
    obtain ⟨hl, hr, h1, h2⟩ := srt_node ha
    obtain ⟨e1, e2, e3, -⟩ := split_toL k b hb
    have sl : Srt (lessL k b.toL) := srt_filter hb _
    have sm : Srt (moreL k b.toL) := srt_filter hb _
    have hX : ∀ q, getL q (node l k v r).toL = if q = k then (v, true) else if lt q k = true then getL q l.toL else getL q r.toL := fun q => getL_mid q _ _ _ ha
    show diff l (split k b).1 ++ diffAt k v (split k b).2.2 ++ diff r (split k b).2.1 = _
    rw [ihl _ hl (by rw [e1]; exact sl), ihr _ hr (by rw [e2]; exact sm), e1, e2]
    have hu : unionL (node l k v r).toL b.toL = _ := union_mid ha hb
    unfold diffL
    rw [hu, List.flatMap_append, List.flatMap_cons, List.append_assoc]
    congr 1
    · refine fm_congr fun x hx => ?_
      have c := union_lt hl sl h1 (less_lt k _) x hx
      refine evAt_congr ?_ ?_
      · rw [hX, if_neg (lt_ne c), if_pos c]
      · rw [getL_less, if_pos c]
    congr 1
    · unfold evAt
      dsimp only
      rw [hX, if_pos rfl, ← e3]
      cases (split k b).2.2 with
      | nil => rfl
      | node _ _ v' _ =>
        show (if v' = v then [] else _) = _
        by_cases c : v' = v
        · rw [if_pos c, if_pos ⟨rfl, c.symm⟩]
        · rw [if_neg c, if_neg fun e => c e.2.symm]
          rfl
    · refine fm_congr fun x hx => ?_
      have c := union_gt hr sm h2 (more_gt k _) x hx
      refine evAt_congr ?_ ?_
      · rw [hX, if_neg (Ne.symm (lt_ne c)), if_neg (by rw [lt_asymm c]; decide)]
      · rw [getL_more, if_pos c]

/-- An event done to a tree, to a list. -/
def doEv (t : T) (e : Ev) : T := if e.f4 = true then tput t e.f1 e.f5 else tdrop t e.f1
def doL (x : List Pr) (e : Ev) : List Pr := if e.f4 = true then withP ⟨e.f1, e.f5⟩ x else without e.f1 x
theorem doEv_toL {t : T} (e : Ev) (h : Srt t.toL) : (doEv t e).toL = doL t.toL e ∧ Srt (doEv t e).toL := by
  unfold doEv doL
  split
  · rw [tput_toL _ _ _ h]; exact ⟨rfl, srt_withP h⟩
  · rw [tdrop_toL _ _ h]; exact ⟨rfl, srt_without h _⟩
theorem doEvs_toL (es : List Ev) : ∀ {t : T}, Srt t.toL → (es.foldl doEv t).toL = es.foldl doL t.toL ∧ Srt (es.foldl doEv t).toL := by
  induction es with
  | nil => intro t h; exact ⟨rfl, h⟩
  | cons e r ih =>
    intro t h
    obtain ⟨h1, h2⟩ := doEv_toL e h
    obtain ⟨h3, h4⟩ := ih h2
    exact ⟨by show (r.foldl doEv (doEv t e)).toL = r.foldl doL (doL t.toL e); rw [h3, h1], h4⟩
theorem doEv_size (t : T) (e : Ev) : (doEv t e).size ≤ t.size + 1 := by
  unfold doEv
  split
  · exact tput_size t _ _
  · have := tdrop_size t e.f1; omega
theorem doEvs_size (es : List Ev) : ∀ t : T, (es.foldl doEv t).size ≤ t.size + es.length := by
  induction es with
  | nil => intro t; exact Nat.le_refl _
  | cons e r ih =>
    intro t
    have h1 := ih (doEv t e)
    have h2 := doEv_size t e
    show (r.foldl doEv (doEv t e)).size ≤ _
    simp only [List.length_cons]
    omega
theorem getL_do (x y z : List Pr) (q k : ByteArray) : getL k ((evAt x y q).foldl doL z) = if k = q ∧ getL q x ≠ getL q y then getL q y else getL k z := by
  unfold evAt
  by_cases c : (getL q x).2 = (getL q y).2 ∧ (getL q x).1 = (getL q y).1
  · rw [if_pos c, if_neg fun e => e.2 (Prod.ext c.2 c.1)]
    rfl
  · have hne : getL q x ≠ getL q y := fun e => c ⟨by rw [e], by rw [e]⟩
    rw [if_neg c]
    show getL k (doL z _) = _
    unfold doL
    dsimp only
    by_cases d : (getL q y).2 = true
    · rw [if_pos d, getL_withP]
      dsimp only
      by_cases e : k = q
      · rw [if_pos e, if_pos ⟨e, hne⟩, ← d]
      · rw [if_neg e, if_neg fun h => e h.1]
    · rw [if_neg d, getL_without]
      by_cases e : k = q
      · rw [if_pos e, if_pos ⟨e, hne⟩, none_of d]
      · rw [if_neg e, if_neg fun h => e h.1]
theorem do_all (x y : List Pr) (ps : List Pr) : ∀ z : List Pr, Srt z → (∀ k, getL k z = getL k x ∨ getL k z = getL k y) →
    ∀ k, (getL k ((ps.flatMap fun p => evAt x y p.f0).foldl doL z) = getL k z ∨ getL k ((ps.flatMap fun p => evAt x y p.f0).foldl doL z) = getL k y) ∧
      ((∃ p ∈ ps, p.f0 = k) → getL k ((ps.flatMap fun p => evAt x y p.f0).foldl doL z) = getL k y) := by
  induction ps with
  | nil => intro z _ _ k; exact ⟨.inl rfl, fun ⟨p, hp, _⟩ => by cases hp⟩
  | cons p r ih =>
    intro z hz hxy k
    rw [List.flatMap_cons, List.foldl_append]
    have hg := getL_do x y z p.f0
    generalize hZ : (evAt x y p.f0).foldl doL z = z' at hg ⊢
    have hs : Srt z' := by
      rw [← hZ]
      unfold evAt
      split
      · exact hz
      · show Srt (doL z _)
        unfold doL
        split
        · exact srt_withP hz
        · exact srt_without hz _
    have hxy' : ∀ k, getL k z' = getL k x ∨ getL k z' = getL k y := fun k => by
      rw [hg]
      by_cases c : k = p.f0 ∧ getL p.f0 x ≠ getL p.f0 y
      · rw [if_pos c]; exact .inr (by rw [c.1])
      · rw [if_neg c]; exact hxy k
    obtain ⟨i1, i2⟩ := ih z' hs hxy' k
    have hp : k = p.f0 → getL k z' = getL k y := fun e => by
      rw [hg]
      by_cases c : getL p.f0 x = getL p.f0 y
      · rw [if_neg fun h => h.2 c]
        rcases hxy k with h | h
        · rw [h, e, c]
        · exact h
      · rw [if_pos ⟨e, c⟩, e]
    refine ⟨?_, ?_⟩
    · rcases i1 with h | h
      · by_cases c : k = p.f0
        · rw [h]; exact .inr (hp c)
        · left
          rw [h, hg, if_neg fun e => c e.1]
      · exact .inr h
    · rintro ⟨s, hs', e⟩
      rcases List.mem_cons.1 hs' with rfl | hs'
      · rcases i1 with h | h
        · rw [h]; exact hp e.symm
        · exact h
      · exact i2 ⟨s, hs', e⟩
theorem srt_dos (es : List Ev) : ∀ z : List Pr, Srt z → Srt (es.foldl doL z) := by
  induction es with
  | nil => intro z h; exact h
  | cons e r ih =>
    intro z h
    refine ih _ ?_
    unfold doL
    split
    · exact srt_withP h
    · exact srt_without h _
/-- Done to the first it makes the second. -/
theorem do_diff {x y : List Pr} (hx : Srt x) (hy : Srt y) : (diffL x y).foldl doL x = y := by
  refine srt_ext (srt_dos _ _ hx) hy fun k => ?_
  obtain ⟨s, g⟩ := unionL_get y x hx hy
  obtain ⟨i1, i2⟩ := do_all x y (unionL x y) x hx (fun k => .inl rfl) k
  unfold diffL
  rcases getL_cases k (unionL x y) with ⟨v, e, hm⟩ | ⟨e, -⟩
  · exact i2 ⟨_, hm, rfl⟩
  · rcases i1 with h | h
    · rw [h]
      rw [g] at e
      by_cases c : (getL k y).2 = true
      · rw [if_pos c] at e; rw [e] at c; cases c
      · rw [if_neg c] at e; rw [e, none_of c]
    · exact h
theorem doEvs_diff {a b : T} (ha : Srt a.toL) (hb : Srt b.toL) : ((diff a b).foldl doEv a).toL = b.toL ∧ Srt ((diff a b).foldl doEv a).toL := by
  obtain ⟨h1, h2⟩ := doEvs_toL (diff a b) ha
  exact ⟨by rw [h1, diff_L a b ha hb, do_diff ha hb], h2⟩
end T
end Go.Proofs.Ytehnkoglhbbfjaa
