/-
  More of rows: several slices of one's own side by side, appending to one of them, slices of slices that grow, parts of slices.
  Contracts of the descents of the reference, of reversed words, of words with a letter left out, of the program and of the reference.
  Contracts of words one behind the other, of places in lists of words, and of commuting words, of the program and of the reference; calls that make a slice, in a region that draws its order.
  Contracts of commuting words, of the roots of a word's letters and of the first two letters that can be left out, of the program and of the reference.
  Images of rho and the game of signs: no number is zero, and the reduction by first descents comes back. Plain theory on lists.
  Braid relations and Matsumoto's theorem for the game of signs: the reduced words of an element are all joined by braid moves. Plain theory; nothing of a program is named here.
  Contracts of the normal form, of the program and of the reference.
  Contract of AreSame of the reference.
-/
import Derived.Test.YtgliajcgcbnemaaGreatDoorZ10
namespace Go.Proofs.YtgliajcgcbnemaaGreatDoor.Hx
open Go.RowKit

/-- A slice of ints in row r, one's own. -/
def OwnR (r : Nat) (h : Heap) (x : H0) (l : List Int) : Prop := ∃ t, x = .sl r 0 l.length ∧ h[r]? = some (.own (l.map ci ++ t))

/-- All rows but r are as they were. -/
def But (r : Nat) (h h' : Heap) : Prop := h.length ≤ h'.length ∧ ∀ q, q < h.length → q ≠ r → h'[q]? = h[q]?

theorem OwnR.ints {r : Nat} {h : Heap} {x : H0} {l : List Int} (H : OwnR r h x l) : Ints h x l := by
  obtain ⟨t, rfl, hr⟩ := H
  exact Ints.ofOwn hr
theorem OwnR.lt {r : Nat} {h : Heap} {x : H0} {l : List Int} (H : OwnR r h x l) : r < h.length := by
  obtain ⟨t, rfl, hr⟩ := H
  exact get_lt hr
theorem OwnR.own {b r : Nat} {h : Heap} {x : H0} {l : List Int} (H : OwnR r h x l) (hb : b ≤ r) : Own b h.length h x l := by
  have := H.lt
  obtain ⟨t, rfl, hr⟩ := H
  exact ⟨r, t, rfl, hb, this, hr⟩
theorem Own.row {b e : Nat} {h : Heap} {x : H0} {l : List Int} (H : Own b e h x l) : ∃ r, b ≤ r ∧ r < e ∧ OwnR r h x l := by
  obtain ⟨r, t, g1, g2, g3, hr⟩ := H
  exact ⟨r, g2, g3, t, g1, hr⟩
theorem Fresh.row {h h' : Heap} {x : H0} {l : List Int} (H : Fresh h h' x l) : ∃ r, h.length ≤ r ∧ OwnR r h' x l := by
  obtain ⟨_, r, t, g1, g2, hr⟩ := H
  exact ⟨r, g2, t, g1, hr⟩
theorem Fresh.ofRow {h h' : Heap} {x : H0} {l : List Int} {r : Nat} (E : Ext h h') (H : OwnR r h' x l) (hr : h.length ≤ r) : Fresh h h' x l := by
  obtain ⟨t, g1, g2⟩ := H
  exact ⟨E, r, t, g1, hr, g2⟩
theorem OwnR.ext {r : Nat} {h h' : Heap} {x : H0} {l : List Int} (H : OwnR r h x l) (k : Ext h h') : OwnR r h' x l := by
  obtain ⟨t, g1, hr⟩ := H
  exact ⟨t, g1, k.row hr⟩
theorem OwnR.but {r q : Nat} {h h' : Heap} {x : H0} {l : List Int} (H : OwnR r h x l) (k : But q h h') (n : r ≠ q) : OwnR r h' x l := by
  have := H.lt
  obtain ⟨t, g1, hr⟩ := H
  exact ⟨t, g1, by rw [k.2 r this n]; exact hr⟩
theorem Ext.but {hb h h' : Heap} {r : Nat} (E : Ext hb h) (k : But r h h') (hr : hb.length ≤ r) : Ext hb h' :=
  ⟨Nat.le_trans E.1 k.1, fun q hq => by rw [k.2 q (Nat.lt_of_lt_of_le hq E.1) (by omega)]; exact E.2 q hq⟩
theorem But.ext {h h' h'' : Heap} {r : Nat} (E : Ext h h') (k : But r h' h'') : But r h h'' :=
  ⟨Nat.le_trans E.1 k.1, fun q hq hn => by rw [k.2 q (Nat.lt_of_lt_of_le hq E.1) hn]; exact E.2 q hq⟩
theorem OwnR.push (h : Heap) (l : List Int) : OwnR h.length (h ++ [.own (l.map ci)]) (.sl h.length 0 l.length) l := ⟨[], rfl, by rw [List.append_nil]; exact get_new _ _⟩

/-- Ints, appended to what one has. -/
theorem HApp.moreR {r : Nat} {h : Heap} {x y : H0} {l m : List Int} {K : HV → Heap → Prop} (H : OwnR r h y l) (hx : Ints h x m) (hl : l.length + m.length ≤ 2199023255552)
    (hK : ∀ h' r' y', But r h h' → h.length ≤ r' → OwnR r' h' y' (l ++ m) → K (.s y') h') : HApp h (.s y) (.s x) K := by
  obtain ⟨t, rfl, hr⟩ := H
  refine ⟨m.map ci, hx, ci_one m, l.map ci ++ t, rfl, hr, by simp, Or.inl ⟨by simpa using hl, ?_⟩⟩
  have e1 : l.length + (m.map ci).length = (l ++ m).length := by simp
  have e2 : (l.map ci ++ t).take l.length ++ m.map ci = (l ++ m).map ci := by rw [List.take_append_of_le_length (by simp), List.take_of_length_le (by simp)]; simp
  rw [e1, e2]
  refine hK _ h.length _ ⟨by simp, fun q hq hn => ?_⟩ (Nat.le_refl _) ⟨[], rfl, ?_⟩
  · rw [List.getElem?_append_left (by simpa using hq), List.getElem?_set_ne (Ne.symm hn)]
  · rw [List.getElem?_append_right (by simp)]
    simp

/-- A literal of numbers, appended to what one has. -/
theorem HApp.litR {r : Nat} {h : Heap} {y : H0} {l : List Int} (m : List Int) {K : HV → Heap → Prop} (H : OwnR r h y l) (hl : l.length + m.length ≤ 2199023255552)
    (hK : ∀ h' r' y', But r h h' → h.length ≤ r' → OwnR r' h' y' (l ++ m) → K (.s y') h') : HApp (h ++ [.own (m.map ci)]) (.s y) (.s (.sl h.length 0 m.length)) K :=
  HApp.moreR (H.ext (Ext.push _ _)) (OwnR.push h m).ints hl (fun h' r' y' k k2 k3 => hK h' r' y' (But.ext (Ext.push _ _) k) (by simp at k2; omega) k3)

/-- A slice of ints, appended to a slice of such slices. -/
theorem HApp.snocM {hb h h2 : Heap} {z y : H0} {L : List (List Int)} {l : List Int} {K : HV → Heap → Prop} (E : Ext hb h) (O : OwnM hb.length h.length h z L) (E2 : Ext h h2) (F : Own h.length h2.length h2 y l) (hl : L.length < 2199023255552)
    (hK : ∀ h' z', Ext hb h' → OwnM hb.length h'.length h' z' (L ++ [l]) → K (.s z') h') : HApp (h2 ++ [.own [y]]) (.s z) (.s (.sl h2.length 0 1)) K := by
  have l1 := E.1
  have l2 := E2.1
  obtain ⟨r, ρ, rfl, hr1, hr2, hρ, m⟩ := O
  obtain ⟨q, t, rfl, hq1, hq2, hq⟩ := F
  obtain ⟨cs, ho, hcl, hoc⟩ := m.outer
  refine ⟨[.sl q 0 l.length], ?_, by simp [H0.one], cs, rfl, (Ext.push h2 _).row (E2.row ho), hcl, Or.inl ⟨by simp; omega, ?_⟩⟩
  · have := Shows.own h2.length 0 1 _ (get_new h2 (.own [.sl q 0 l.length])) (by simp)
    simpa using this
  have e1 : L.length + [H0.sl q 0 l.length].length = (L ++ [l]).length := by simp
  rw [e1]
  have old : ∀ p, p < h2.length → p ≠ r → ((h2 ++ [Row.own [.sl q 0 l.length]]).set r .gone ++ [Row.own (cs.take L.length ++ [.sl q 0 l.length])])[p]? = h2[p]? := fun p hp hn => by
    rw [List.getElem?_append_left (by simp; omega), List.getElem?_set_ne (Ne.symm hn), List.getElem?_append_left hp]
  have gd1 : ∀ i, i < L.length → (L ++ [l]).getD i [] = L.getD i [] := fun i hi => by
    simp only [List.getD]
    rw [List.getElem?_append_left hi]
  have gd2 : (L ++ [l]).getD L.length [] = l := by simp [List.getD]
  have hE : Ext hb ((h2 ++ [Row.own [.sl q 0 l.length]]).set r .gone ++ [Row.own (cs.take L.length ++ [.sl q 0 l.length])]) := ((((E.trans E2).pushed _).set hr1 _).pushed _)
  have hlen : ((h2 ++ [Row.own [.sl q 0 l.length]]).set r .gone ++ [Row.own (cs.take L.length ++ [.sl q 0 l.length])]).length = h2.length + 2 := by simp
  refine hK _ _ hE ⟨h2.length + 1, fun i => if i < L.length then ρ i else q, by simp, by omega, by rw [hlen]; omega, fun i hi => ?_, ⟨cs.take L.length ++ [.sl q 0 l.length], ?_, by simp; omega, fun i hi => ?_⟩, fun i hi => ?_, fun i hi => ?_, fun i j hij hj => ?_⟩
  · rw [hlen]
    by_cases hi2 : i < L.length
    · have := hρ i hi2
      simp only [hi2, if_true]
      omega
    · simp only [hi2, if_false]
      omega
  · rw [List.getElem?_append_right (by simp)]
    simp
  · by_cases hi2 : i < L.length
    · rw [List.getElem?_append_left (by simp; omega), List.getElem?_take_of_lt hi2, hoc i hi2, gd1 i hi2]
      simp [hi2]
    · have e : i = L.length := by simp at hi; omega
      subst e
      rw [gd2, List.getElem?_append_right (by simp; omega)]
      have : L.length - (cs.take L.length).length = 0 := by simp; omega
      rw [this]
      simp
  · by_cases hi2 : i < L.length
    · obtain ⟨t2, ht2⟩ := m.inner i hi2
      have hb2 := hρ i hi2
      have hne := m.ne i hi2
      refine ⟨t2, ?_⟩
      rw [gd1 i hi2, if_pos hi2, old _ (by omega) hne]
      exact E2.row ht2
    · have e : i = L.length := by simp at hi; omega
      subst e
      refine ⟨t, ?_⟩
      rw [gd2, if_neg (by omega), old _ (by omega) (by omega)]
      exact hq
  · by_cases hi2 : i < L.length
    · have := hρ i hi2
      simp only [hi2, if_true]
      omega
    · simp only [hi2, if_false]
      omega
  · have hj' : j ≤ L.length := by simp at hj; omega
    have hi2 : i < L.length := by omega
    have h1 := hρ i hi2
    by_cases hj2 : j < L.length
    · simp only [hi2, hj2, if_true]
      exact m.inj i j hij hj2
    · simp only [hi2, hj2, if_true, if_false]
      omega

/-- Nothing yet: a slice of slices without an entry. -/
theorem OwnM.none (h : Heap) : OwnM h.length (h ++ [Row.own []]).length (h ++ [Row.own []]) (.sl h.length 0 0) [] :=
  ⟨h.length, fun _ => 0, rfl, Nat.le_refl _, by simp, fun i hi => by simp at hi, ⟨[], get_new _ _, Nat.le_refl _, fun i hi => by simp at hi⟩, fun i hi => by simp at hi, fun i hi => by simp at hi, fun i j _ hj => by simp at hj⟩

theorem OwnM.widen {b e e' : Nat} {h : Heap} {x : H0} {L : List (List Int)} (H : OwnM b e h x L) (k : e ≤ e') : OwnM b e' h x L := by
  obtain ⟨r, ρ, g1, g2, g3, g4, m⟩ := H
  exact ⟨r, ρ, g1, g2, by omega, fun i hi => by have := g4 i hi; omega, m⟩

theorem HLit.row {z : Value} {y : H0} {h : Heap} {K : HV → Heap → Prop} (h1 : y.one = true) (hK : K (.s (.sl h.length 0 1)) (h ++ [.own [y]])) : HLit z 1 (some [y]) h K := ⟨[y], rfl, rfl, by omega, by simpa using h1, hK⟩
theorem Own.one {b e : Nat} {h : Heap} {x : H0} {l : List Int} (H : Own b e h x l) : x.one = true := by
  obtain ⟨r, t, rfl, _⟩ := H
  rfl

theorem HLit.two {z : Value} {v u : Int} {h : Heap} {K : HV → Heap → Prop} (hK : K (.s (.sl h.length 0 2)) (h ++ [.own [ci v, ci u]])) : HLit z 2 (some [ci v, ci u]) h K := ⟨[ci v, ci u], rfl, rfl, by omega, by simp [H0.one, Value.oneCell'], hK⟩

/-- A part of a slice of ints. -/
theorem Ints.slice {h : Heap} {x : H0} {l : List Int} (H : Ints h x l) {lo hi : Option HV} {K : HV → Prop} (a u : Nat) (hlo : lo = none ∧ a = 0 ∨ lo = some (I a)) (hhi : hi = none ∧ u = l.length ∨ hi = some (I u)) (h1 : a ≤ u) (h2 : u ≤ l.length)
    (hK : ∀ y, Ints h y ((l.take u).drop a) → K (.s y)) : HSlice h (.s x) lo hi K := by
  have e1 : lo = none ∧ a = 0 ∨ ∃ k, lo = some (.s (.pl (.int k (a : Int)))) := hlo.imp id fun e => ⟨_, e⟩
  have hlen : l.length = (l.map ci).length := by simp
  have main : ∀ n, n = l.length → hi = none ∧ u = n ∨ ∃ k, hi = some (.s (.pl (.int k (u : Int)))) := fun n hn => by subst hn; exact hhi.imp id fun e => ⟨_, e⟩
  have key : ((l.map ci).take u).drop a = ((l.take u).drop a).map ci := by simp
  unfold Ints at H
  generalize hL : l.map ci = L at H hlen key
  cases H with
  | nils b c =>
    have e : l = [] := by simpa using hL
    subst e
    refine ⟨0, a, u, rfl, e1, main 0 rfl, h1, Or.inl h2, hK _ ?_⟩
    show Shows _ _ _
    simp
    exact .nils b c
  | ro r off len cs hr hl =>
    have hll : l.length = len := by simp at hlen; omega
    refine ⟨len, a, u, rfl, e1, main len hll.symm, h1, Or.inl (by omega), hK _ ?_⟩
    show Shows _ _ _
    rw [← key]
    have := Shows.ro (h := h) r (off + a) (u - a) cs hr (by omega)
    rw [List.take_take, Nat.min_eq_left (by omega), List.drop_take, List.drop_drop]
    exact this
  | own r off len cs hr hl =>
    have hll : l.length = len := by simp at hlen; omega
    refine ⟨len, a, u, rfl, e1, main len hll.symm, h1, Or.inl (by omega), hK _ ?_⟩
    show Shows _ _ _
    rw [← key]
    have := Shows.own (h := h) r (off + a) (u - a) cs hr (by omega)
    rw [List.take_take, Nat.min_eq_left (by omega), List.drop_take, List.drop_drop]
    exact this

theorem Ints.take {h : Heap} {x : H0} {l : List Int} (H : Ints h x l) {K : HV → Prop} (u : Nat) (h2 : u ≤ l.length)
    (hK : ∀ y, Ints h y (l.take u) → K (.s y)) : HSlice h (.s x) none (some (I u)) K := H.slice 0 u (Or.inl ⟨rfl, rfl⟩) (Or.inr rfl) (by omega) h2 (by simpa using hK)

end Go.Proofs.YtgliajcgcbnemaaGreatDoor.Hx

namespace Go.Proofs.YtgliajcgcbnemaaGreatDoor.Hx
open Go.RowKit
variable {dm : Bool}

theorem HApp.snocR {r : Nat} {h : Heap} {y : H0} {l : List Int} {v : Int} {K : HV → Heap → Prop} (H : OwnR r h y l) (hl : l.length < 2199023255552)
    (hK : ∀ h' r' y', But r h h' → h.length ≤ r' → OwnR r' h' y' (l ++ [v]) → K (.s y') h') : HApp (h ++ [.own [ci v]]) (.s y) (.s (.sl h.length 0 1)) K :=
  HApp.litR [v] H (by simp; omega) hK

/-- A list without its entry at a place, if there is one. -/
def del (l : List Int) (n : Int) : List Int := if 0 ≤ n then l.eraseIdx n.toNat else l

theorem del_ne (l : List Int) (x n : Int) (h : (l.length : Int) ≠ n) : del (l ++ [x]) n = del l n ++ [x] := by
  unfold del
  split
  · by_cases h2 : n.toNat < l.length
    · rw [List.eraseIdx_append_of_lt_length h2]
    · rw [List.eraseIdx_of_length_le (by simp; omega), List.eraseIdx_of_length_le (by omega)]
  · rfl
theorem del_eq (l : List Int) (x : Int) : del (l ++ [x]) l.length = del l l.length := by
  unfold del
  have e : ((l.length : Nat) : Int).toNat = l.length := by omega
  rw [if_pos (by omega), if_pos (by omega), e, List.eraseIdx_append_of_length_le (Nat.le_refl _), List.eraseIdx_of_length_le (l := l) (Nat.le_refl _)]
  simp
theorem del_len (l : List Int) (n : Int) : (del l n).length ≤ l.length := by
  unfold del
  split
  · rw [List.length_eraseIdx]
    split <;> omega
  · exact Nat.le_refl _
theorem del_at (l : List Int) {i : Nat} : del l (i : Int) = l.take i ++ l.drop (i + 1) := by
  unfold del
  rw [if_pos (by omega), List.eraseIdx_eq_take_drop_succ]
  rfl
theorem del_none (n : Int) : del [] n = [] := by
  unfold del
  split
  · rfl
  · rfl
theorem take_snoc (w : List Int) {k : Nat} (h : k < w.length) : w.take (k + 1) = w.take k ++ [w.getD k 0] := by
  rw [List.take_succ_eq_append_getElem h]
  simp [List.getD, h]
/-- The first i and the last i numbers have changed places. -/
def revTo (l : List Int) (i : Nat) : List Int := (List.range l.length).map fun k => if k < i ∨ l.length ≤ k + i then l.getD (l.length - 1 - k) 0 else l.getD k 0

/-- One number of one's own is written anew. -/
theorem OwnR.store {r : Nat} {h : Heap} {y : H0} {l : List Int} {i : Nat} {v : Int} (H : OwnR r h y l) (hi : i < l.length) :
    ∃ cs, y = .sl r 0 l.length ∧ h[r]? = some (.own cs) ∧ i < cs.length ∧ But r h (h.set r (.own (cs.set i (ci v)))) ∧ OwnR r (h.set r (.own (cs.set i (ci v)))) y (l.set i v) := by
  have hr' := H.lt
  obtain ⟨t, rfl, hr⟩ := H
  refine ⟨_, rfl, hr, by simp; omega, ⟨by simp, fun q _ hn => by rw [List.getElem?_set_ne (Ne.symm hn)]⟩, t, by simp, ?_⟩
  rw [List.getElem?_set_self hr', List.set_append_left _ _ (by simpa using hi), List.map_set]
theorem But.trans {r : Nat} {h h' h'' : Heap} (k : But r h h') (k2 : But r h' h'') : But r h h'' :=
  ⟨Nat.le_trans k.1 k2.1, fun q hq hn => by rw [k2.2 q (Nat.lt_of_lt_of_le hq k.1) hn]; exact k.2 q hq hn⟩
theorem But.refl (r : Nat) (h : Heap) : But r h h := ⟨Nat.le_refl _, fun _ _ _ => rfl⟩

end Go.Proofs.YtgliajcgcbnemaaGreatDoor.Hx

namespace Go.Proofs.YtgliajcgcbnemaaGreatDoor.Hx
open Go.RowKit
variable {dm : Bool}

/-- Rows that are given up say nothing. -/
theorem Rep.soft {B0 : Nat} {φ : Plan} {h h' : Heap} {w : World} (R : Rep B0 φ h w) (hl : h'.length = h.length) (h1 : ∀ (r : Nat) (cs : List H0), h'[r]? = some (Row.ro cs) → h[r]? = some (Row.ro cs)) (h2 : ∀ (r : Nat) (cs : List H0), h'[r]? = some (Row.own cs) → h[r]? = some (Row.own cs))
    (h3 : ∀ (r : Nat) (so : Bool) (ks : List Key), h'[r]? = some (Row.keys so ks) → h[r]? = some (Row.keys so ks)) : Rep B0 φ h' w :=
  ⟨R.len.trans hl.symm, R.base, fun r cs p a b => R.ro r cs p (h1 r cs a) b, fun r cs p a b => R.own r cs p (h2 r cs a) b, fun r r' cs cs' p p' n a a' b b' => R.apart r r' cs cs' p p' n (h2 _ _ a) (h2 _ _ a') b b',
    fun r so ks p a b => R.keys r so ks p (h3 _ _ _ a) b, fun r r' so so' ks ks' p p' n a a' b b' => R.apartK r r' so so' ks ks' p p' n (h3 _ _ _ a) (h3 _ _ _ a') b b', R.tab⟩

def softRow : Row → Row
  | .ro _ => .gone
  | x => x

theorem HArith.to {e e' : Int} {K : HV → Prop} (h : e = e') (h1 : -9223372036854775808 ≤ e') (h2 : e' ≤ 9223372036854775807) (hK : K (I e')) : HArith .i64 e K := by
  subst h
  exact HArith.fits h1 h2 hK

def indexOf (L : List (List Int)) (w : List Int) : Int := if L.findIdx (fun l => decide (l = w)) < L.length then (L.findIdx (fun l => decide (l = w)) : Nat) else -1

def commute (c : List (List Int)) (a b : List Int) : Bool := isWord c a && isWord c b && decide (imageOf c (a ++ b) = imageOf c (b ++ a))

theorem Own.more {hb h : Heap} {x y : H0} {l m : List Int} {K : HV → Heap → Prop} (E : Ext hb h) (H : Own hb.length h.length h y l) (hx : Ints h x m) (hl : l.length + m.length ≤ 2199023255552)
    (hK : ∀ h' y', Ext hb h' → Own hb.length h'.length h' y' (l ++ m) → K (.s y') h') : HApp h (.s y) (.s x) K := by
  obtain ⟨r, h1, h2, O⟩ := H.row
  refine HApp.moreR O hx hl (fun h' r' y' B hr' O' => hK h' y' (E.but B h1) (O'.own ?_))
  have := E.1
  omega

theorem spec_ConcatWords (h : Heap) (x0 : H0) (a0 : List Int) (x1 : H0) (a1 : List Int) (hx0 : Ints h x0 a0) (hx1 : Ints h x1 a1) (s0 : a0.length ≤ 1048576) (s1 : a1.length ≤ 1048576) :
    HCalls dm Tryz.prog 141 [.s x0, .s x1] h (fun r h' => ∃ y, r = .s y ∧ Fresh h h' y (a0 ++ a1)) := by
  refine calls_of_hFun (m := 0) kd_ok mixed Tryz.func141 rfl (by kernel_rfl) rfl rfl (of_decide_eq_true rfl) ?_; unfold hFun; (conv => whnf)
  refine HLit.empty ?_
  (conv => whnf)
  refine ⟨rfl, rfl, HApp.copy hx0 (by omega) (fun h1 y1 E1 O1 => ?_)⟩
  (conv => whnf)
  refine ⟨rfl, rfl, Own.more E1 O1 (hx1.ext E1) (by omega) (fun h2 y2 E2 O2 => ?_)⟩
  (conv => whnf)
  exact ⟨_, rfl, Fresh.of E2 O2⟩

end Go.Proofs.YtgliajcgcbnemaaGreatDoor.Hx

namespace Go.Proofs.YtgliajcgcbnemaaGreatDoor.Hx
open Go.RowKit
variable {dm : Bool}

def rootAt (c : List (List Int)) (w : List Int) (k : Nat) : List Int := actR c (w.take k) ((List.replicate c.length (0 : Int)).set (w.getD k 0).toNat 1)
def rootsTo (c : List (List Int)) (w : List Int) (k : Nat) : List (List Int) := (List.range k).map (rootAt c w)
def rootSeq (c : List (List Int)) (w : List Int) : List (List Int) := if isWord c w then rootsTo c w w.length else []

/-- The letters numbers j and i, left out. -/
def del2 (w : List Int) (i j : Nat) : List Int := del (del w j) i
def hit (c : List (List Int)) (w : List Int) (i j : Nat) : Bool := decide (imageOf c (del2 w i j) = imageOf c w)
def firstJ (c : List (List Int)) (w : List Int) (i : Nat) : Option Nat := (List.range w.length).find? fun j => decide (i < j) && hit c w i j
def firstI (c : List (List Int)) (w : List Int) : Option Nat := (List.range w.length).find? fun i => (firstJ c w i).isSome
def delPair (c : List (List Int)) (w : List Int) : Int × Int × Bool :=
  if isWord c w then
    match firstI c w with
    | some i => match firstJ c w i with
      | some j => (i, j, true)
      | none => (-1, -1, false)
    | none => (-1, -1, false)
  else (-1, -1, false)

/-- A pair of results as a tuple. -/
abbrev T3 (p : Int × Int × Bool) : HV := .tup [.pl (.int .i64 p.1), .pl (.int .i64 p.2.1), .pl (.bool p.2.2)]


end Go.Proofs.YtgliajcgcbnemaaGreatDoor.Hx

namespace Go.Proofs.YtgliajcgcbnemaaGreatDoor.Hx
open Go.RowKit

theorem matOk {c : List (List Int)} (hC : Cartan c) : MatOk c.length (ent c) := by
  refine ⟨fun i hi => ?_, fun i j hi hj hij => ?_, fun i j hi hj h0 => ?_⟩
  · have h := hC.ok i hi i hi
    simp only [cartBad, decide_true, Bool.true_and, Bool.not_true, Bool.false_and, Bool.or_false, Bool.not_eq_false', beq_iff_eq] at h
    exact h
  · have h := hC.ok i hi j hj
    simp only [cartBad, hij, decide_false, Bool.false_and, Bool.not_false, Bool.true_and, Bool.false_or, Bool.or_eq_false_iff, decide_eq_false_iff_not] at h
    omega
  · by_cases hij : i = j
    · subst hij; exact h0
    · have h := hC.ok i hi j hj
      simp only [cartBad, hij, decide_false, Bool.false_and, Bool.not_false, Bool.true_and, Bool.false_or, Bool.or_eq_false_iff] at h
      have h2 := h.2
      rw [h0] at h2
      simpa using h2

theorem ent_off {c : List (List Int)} {k i : Nat} (h : c.length ≤ k) : ent c k i = 0 := by
  unfold ent
  have : c.getD k [] = [] := by simp [List.getD, h]
  rw [this]
  rfl

def posOf (v : List Int) : Pos := fun k => v.getD k 0

def PlayL (c : List (List Int)) (n : Nat) (v : List Int) : Prop := v.length = c.length ∧ Play c.length (ent c) n (posOf v)

theorem w64_in {e : Int} (h1 : -9223372036854775808 ≤ e) (h2 : e ≤ 9223372036854775807) : w64 e = e := IntWalk.i64_in e ⟨h1, h2⟩

theorem PlayL.size {c : List (List Int)} (hC : Cartan c) {n : Nat} {v : List Int} (P : PlayL c n v) (hn : n ≤ 30) {k : Nat} (hk : k < c.length) : -1152921504606846976 ≤ v.getD k 0 ∧ v.getD k 0 ≤ 1152921504606846976 := by
  have h := P.2.size (matOk hC) k hk
  have h4 : 4 ^ n ≤ 4 ^ 30 := Nat.pow_le_pow_right (by omega) hn
  have e : (4 : Nat) ^ 30 = 1152921504606846976 := by decide
  rw [e] at h4
  simp only [posOf] at h
  omega

theorem pos_refl {c : List (List Int)} (hC : Cartan c) {n : Nat} {v : List Int} (P : PlayL c n v) (hn : n ≤ 30) {i : Nat} (hi : i < c.length) : posOf (reflW c i v) = sr (ent c) i (posOf v) := by
  funext k
  by_cases hk : k < c.length
  · have b1 := P.size hC hn hk
    have b2 := P.size hC hn hi
    have hkv : k < v.length := by rw [P.1]; exact hk
    have e : posOf (reflW c i v) k = reflNew c i v k := by simp [posOf, reflW, List.getD, hkv]
    rw [e]
    unfold reflNew sr posOf
    have f : ent c k i = 2 ∨ ent c k i = 0 ∨ ent c k i = -1 ∨ ent c k i = -2 ∨ ent c k i = -3 := by
      by_cases hki : k = i
      · subst hki; exact Or.inl ((matOk hC).diag k hk)
      · have := (matOk hC).off k i hk hi hki
        omega
    generalize v.getD k 0 = a at *
    generalize v.getD i 0 = b at *
    rcases f with f | f | f | f | f <;> rw [f] <;> rw [w64_in (e := b * _) (by omega) (by omega), w64_in (by omega) (by omega)]
  · have e1 : posOf (reflW c i v) k = 0 := by
      have : (reflW c i v).length ≤ k := by rw [reflW_length, P.1]; omega
      simp [posOf, List.getD, this]
    have e2 : posOf v k = 0 := by
      have : v.length ≤ k := by rw [P.1]; omega
      simp [posOf, List.getD, this]
    rw [e1]
    unfold sr
    rw [e2, ent_off (by omega)]
    simp

theorem PlayL.ne {c : List (List Int)} (hC : Cartan c) {n : Nat} {v : List Int} (P : PlayL c n v) {i : Nat} (hi : i < c.length) : v.getD i 0 ≠ 0 := P.2.ne (matOk hC) hi

theorem PlayL.any {c : List (List Int)} (hC : Cartan c) {n : Nat} {v : List Int} (P : PlayL c n v) (hn : n ≤ 30) {i : Nat} (hi : i < c.length) : ∃ m, m ≤ n + 1 ∧ PlayL c m (reflW c i v) := by
  obtain ⟨m, h1, h2⟩ := P.2.any (matOk hC) hi
  exact ⟨m, h1, by rw [reflW_length]; exact P.1, by rw [pos_refl hC P hn hi]; exact h2⟩

theorem PlayL.down {c : List (List Int)} (hC : Cartan c) {n : Nat} {v : List Int} (P : PlayL c n v) (hn : n ≤ 30) {i : Nat} (hi : i < c.length) (h : v.getD i 0 < 0) : ∃ m, n = m + 1 ∧ PlayL c m (reflW c i v) := by
  obtain ⟨m, h1, h2⟩ := P.2.down (matOk hC) hi h
  exact ⟨m, h1, by rw [reflW_length]; exact P.1, by rw [pos_refl hC P hn hi]; exact h2⟩

theorem PlayL.ones (c : List (List Int)) : PlayL c 0 (List.replicate c.length 1) := ⟨by simp, .done fun i hi => by simp [posOf, List.getD, hi]⟩

theorem posOf_inj {v u : List Int} (hl : v.length = u.length) (h : posOf v = posOf u) : v = u := by
  apply List.ext_getElem hl
  intro k h1 h2
  have := congrFun h k
  simpa [posOf, List.getD, h1, h2] using this

theorem reflW_twice {c : List (List Int)} (hC : Cartan c) {n m : Nat} {v : List Int} (P : PlayL c n v) (hn : n ≤ 30) {i : Nat} (hi : i < c.length) (P2 : PlayL c m (reflW c i v)) (hm : m ≤ 30) : reflW c i (reflW c i v) = v := by
  apply posOf_inj (by rw [reflW_length, reflW_length])
  rw [pos_refl hC P2 hm hi, pos_refl hC P hn hi, sr_sr ((matOk hC).diag i hi)]

theorem play_act {c : List (List Int)} (hC : Cartan c) : ∀ (w : List Int), lettersOk c w = true → w.length ≤ 31 → ∃ n, n ≤ w.length ∧ PlayL c n (actW c w (List.replicate c.length 1))
  | [], _, _ => ⟨0, Nat.le_refl _, PlayL.ones c⟩
  | i :: w, h, hl => by
    have h2 : isPoint c i = true ∧ lettersOk c w = true := by simpa [lettersOk] using h
    have hi := point_of h2.1
    have hl' : w.length + 1 ≤ 31 := by simpa using hl
    obtain ⟨n, h3, P⟩ := play_act hC w h2.2 (by omega)
    obtain ⟨m, h4, P2⟩ := P.any hC (by omega) (i := i.toNat) (by omega)
    exact ⟨m, by simp; omega, P2⟩

theorem play_image {c : List (List Int)} (hC : Cartan c) {w : List Int} (h : lettersOk c w = true) (hl : w.length ≤ 31) : ∃ n, n ≤ w.length ∧ PlayL c n (imageOf c w) := play_act hC w h hl

/-- The first negative number. -/
def fd (v : List Int) : Nat := v.findIdx fun x => decide (x < 0)

/-- The letters by which the reduction by first descents goes, at most f. -/
def nf (c : List (List Int)) : Nat → List Int → List Int
  | 0, _ => []
  | f + 1, v => if fd v < v.length then (fd v : Int) :: nf c f (reflW c (fd v) v) else []

theorem fd_at {v : List Int} {i : Nat} (hi : i < v.length) (h : v.getD i 0 < 0) (hb : ∀ k, k < i → 0 ≤ v.getD k 0) : fd v = i := by
  unfold fd
  rw [List.findIdx_eq hi]
  refine ⟨by simpa [List.getD, hi] using h, fun j hj => ?_⟩
  have := hb j hj
  have hjl : j < v.length := by omega
  simp only [List.getD, List.getElem?_eq_getElem hjl, Option.getD_some] at this
  simp
  omega
theorem fd_lt {v : List Int} (h : fd v < v.length) : v.getD (fd v) 0 < 0 := by
  have := List.findIdx_getElem (xs := v) (p := fun x => decide (x < 0)) (w := h)
  unfold fd at h ⊢
  simp only [List.getD, List.getElem?_eq_getElem h, Option.getD_some]
  simpa using this
theorem fd_end {v : List Int} (h : ¬ fd v < v.length) : ∀ k, k < v.length → 0 ≤ v.getD k 0 := by
  intro k hk
  have e : fd v = v.length := by
    have := List.findIdx_le_length (p := fun x => decide (x < 0)) (xs := v)
    unfold fd at *
    omega
  unfold fd at e
  rw [List.findIdx_eq_length] at e
  have := e v[k] (List.getElem_mem hk)
  simp only [List.getD, List.getElem?_eq_getElem hk, Option.getD_some]
  simp at this
  omega
theorem nf_step {c : List (List Int)} {f i : Nat} {v : List Int} (hi : i < v.length) (h : v.getD i 0 < 0) (hb : ∀ k, k < i → 0 ≤ v.getD k 0) : nf c (f + 1) v = (i : Int) :: nf c f (reflW c i v) := by
  have e := fd_at hi h hb
  rw [nf, e, if_pos hi]
theorem nf_stop {c : List (List Int)} {f : Nat} {v : List Int} (hb : ∀ k, k < v.length → 0 ≤ v.getD k 0) : nf c f v = [] := by
  cases f with
  | zero => rfl
  | succ f =>
    rw [nf, if_neg]
    intro h
    have h1 := fd_lt h
    have := hb _ h
    omega

theorem nf_more {c : List (List Int)} (hC : Cartan c) : ∀ (n : Nat) (v : List Int) (f g : Nat), PlayL c n v → n ≤ 30 → n ≤ f → n ≤ g → nf c f v = nf c g v
  | n, v, f, g, P, hn, hf, hg => by
    by_cases h : fd v < v.length
    · have hlt := fd_lt h
      obtain ⟨m, rfl, P2⟩ := P.down hC hn (i := fd v) (by rw [← P.1]; exact h) hlt
      obtain ⟨f, rfl⟩ : ∃ f', f = f' + 1 := ⟨f - 1, by omega⟩
      obtain ⟨g, rfl⟩ : ∃ g', g = g' + 1 := ⟨g - 1, by omega⟩
      rw [nf, nf, if_pos h, if_pos h, nf_more hC m _ f g P2 (by omega) (by omega) (by omega)]
    · rw [nf_stop (fd_end h), nf_stop (fd_end h)]

theorem nf_len {c : List (List Int)} (hC : Cartan c) : ∀ (n : Nat) (v : List Int) (f : Nat), PlayL c n v → n ≤ 30 → n ≤ f → (nf c f v).length = n
  | n, v, f, P, hn, hf => by
    by_cases h : fd v < v.length
    · have hlt := fd_lt h
      obtain ⟨m, rfl, P2⟩ := P.down hC hn (i := fd v) (by rw [← P.1]; exact h) hlt
      obtain ⟨f, rfl⟩ : ∃ f', f = f' + 1 := ⟨f - 1, by omega⟩
      rw [nf, if_pos h, List.length_cons, nf_len hC m _ f P2 (by omega) (by omega)]
    · rw [nf_stop (fd_end h)]
      have := (P.2.stop fun i hi => fd_end h i (by rw [P.1]; exact hi)).1
      simp [this]

theorem nf_letters {c : List (List Int)} (hC : Cartan c) : ∀ (n : Nat) (v : List Int) (f : Nat), PlayL c n v → n ≤ 30 → n ≤ f → lettersOk c (nf c f v) = true
  | n, v, f, P, hn, hf => by
    by_cases h : fd v < v.length
    · have hlt := fd_lt h
      have hc : fd v < c.length := by rw [← P.1]; exact h
      obtain ⟨m, rfl, P2⟩ := P.down hC hn (i := fd v) hc hlt
      obtain ⟨f, rfl⟩ : ∃ f', f = f' + 1 := ⟨f - 1, by omega⟩
      rw [nf, if_pos h]
      have ih := nf_letters hC m _ f P2 (by omega) (by omega)
      have hp : isPoint c (fd v) = true := by simp [isPoint, inRange]; omega
      simp only [lettersOk, List.all_cons, Bool.and_eq_true] at ih ⊢
      exact ⟨hp, ih⟩
    · rw [nf_stop (fd_end h)]
      rfl

theorem nf_image {c : List (List Int)} (hC : Cartan c) : ∀ (n : Nat) (v : List Int) (f : Nat), PlayL c n v → n ≤ 30 → n ≤ f → imageOf c (nf c f v) = v
  | n, v, f, P, hn, hf => by
    by_cases h : fd v < v.length
    · have hlt := fd_lt h
      have hc : fd v < c.length := by rw [← P.1]; exact h
      obtain ⟨m, rfl, P2⟩ := P.down hC hn (i := fd v) hc hlt
      obtain ⟨f, rfl⟩ : ∃ f', f = f' + 1 := ⟨f - 1, by omega⟩
      have ih := nf_image hC m _ f P2 (by omega) (by omega)
      have e : imageOf c ((fd v : Int) :: nf c f (reflW c (fd v) v)) = reflW c (fd v) (imageOf c (nf c f (reflW c (fd v) v))) := by simp [imageOf, actW]
      rw [nf, if_pos h, e, ih]
      exact reflW_twice hC P hn hc P2 (by omega)
    · rw [nf_stop (fd_end h)]
      have h1 := (P.2.stop fun i hi => fd_end h i (by rw [P.1]; exact hi)).2
      apply posOf_inj (by rw [imageOf_length, P.1])
      funext k
      by_cases hk : k < c.length
      · rw [h1 k hk]
        simp [posOf, imageOf, actW, List.getD, hk]
      · have hv : v.length ≤ k := by rw [P.1]; omega
        have hk' : c.length ≤ k := by omega
        simp [posOf, imageOf, actW, List.getD, hv, hk']

end Go.Proofs.YtgliajcgcbnemaaGreatDoor.Hx

namespace Go.Proofs.YtgliajcgcbnemaaGreatDoor.Hx

def altS (c : Nat → Nat → Int) (i j : Nat) : Nat → Pos → Pos
  | 0, v => v
  | m + 1, v => sr c i (altS c j i m v)

def bondP (p : Int) : Nat := if p = 0 then 2 else if p = 1 then 3 else if p = 2 then 4 else if p = 3 then 6 else 0

section
variable {N : Nat} {c : Nat → Nat → Int} {i j : Nat} {v : Pos}

theorem st_i (M : MatOk N c) (hi : i < N) (a b a' : Int) (h : a + a' = v i - b * c i j) : sr c i (cb c i j v a b) = cb c i j v a' b := by
  refine cb_i c i j v a b a' ?_
  show a' = a + (v i - a * c i i - b * c i j)
  rw [M.diag i hi]
  omega
theorem st_j (M : MatOk N c) (hj : j < N) (a b b' : Int) (h : b + b' = v j - a * c j i) : sr c j (cb c i j v a b) = cb c i j v a b' := by
  refine cb_j c i j v a b b' ?_
  show b' = b + (v j - a * c j i - b * c j j)
  rw [M.diag j hj]
  omega
theorem dn_i (M : MatOk N c) (hi : i < N) {k : Nat} {a b : Int} (a' : Int) (p : Play N c k (cb c i j v a b)) (h : a + a' = v i - b * c i j) (lt : a' < a) : ∃ m, k = m + 1 ∧ Play N c m (cb c i j v a' b) := by
  have e : cb c i j v a b i = a' - a := by
    show v i - a * c i i - b * c i j = a' - a
    rw [M.diag i hi]
    omega
  obtain ⟨m, hm, q⟩ := p.down M hi (by rw [e]; omega)
  rw [st_i M hi a b a' h] at q
  exact ⟨m, hm, q⟩
theorem dn_j (M : MatOk N c) (hj : j < N) {k : Nat} {a b : Int} (b' : Int) (p : Play N c k (cb c i j v a b)) (h : b + b' = v j - a * c j i) (lt : b' < b) : ∃ m, k = m + 1 ∧ Play N c m (cb c i j v a b') := by
  have e : cb c i j v a b j = b' - b := by
    show v j - a * c j i - b * c j j = b' - b
    rw [M.diag j hj]
    omega
  obtain ⟨m, hm, q⟩ := p.down M hj (by rw [e]; omega)
  rw [st_j M hj a b b' h] at q
  exact ⟨m, hm, q⟩

theorem fin_cases_of (M : MatOk N c) (hi : i < N) (hj : j < N) (hij : i ≠ j) :
    (c i j = 0 ∧ c j i = 0) ∨ (c i j = -1 ∧ c j i = -1) ∨ (c i j = -2 ∧ c j i = -1) ∨ (c i j = -1 ∧ c j i = -2) ∨ (c i j = -3 ∧ c j i = -1) ∨ (c i j = -1 ∧ c j i = -3) ∨ (c i j ≤ -2 ∧ c j i ≤ -2) := by
  have o1 := M.off i j hi hj hij
  have o2 := M.off j i hj hi (Ne.symm hij)
  have z1 := M.zero i j hi hj
  have z2 := M.zero j i hj hi
  omega

theorem bondP_inf (M : MatOk N c) (hi : i < N) (hj : j < N) (hij : i ≠ j) (h : c i j ≤ -2 ∧ c j i ≤ -2) : bondP (c i j * c j i) = 0 := by
  have o1 := M.off i j hi hj hij
  have o2 := M.off j i hj hi (Ne.symm hij)
  have e1 : c i j = -2 ∨ c i j = -3 := by omega
  have e2 : c j i = -2 ∨ c j i = -3 := by omega
  rcases e1 with e1 | e1 <;> rcases e2 with e2 | e2 <;> rw [e1, e2] <;> rfl

/-- Both rows of turns lead to the same place. -/
theorem alt_rel (M : MatOk N c) (hi : i < N) (hj : j < N) (hij : i ≠ j) (v : Pos) : altS c i j (bondP (c i j * c j i)) v = altS c j i (bondP (c i j * c j i)) v := by
  have s1 : ∀ a b a' : Int, a + a' = v i - b * c i j → sr c i (cb c i j v a b) = cb c i j v a' b := fun a b a' h => st_i M hi a b a' h
  have s2 : ∀ a b b' : Int, b + b' = v j - a * c j i → sr c j (cb c i j v a b) = cb c i j v a b' := fun a b b' h => st_j M hj a b b' h
  have t1 : sr c i v = cb c i j v (v i) 0 := sr_cb c i j v
  have t2 : sr c j v = cb c i j v 0 (v j) := sr_cb' c i j v
  rcases fin_cases_of M hi hj hij with ⟨e1, e2⟩ | ⟨e1, e2⟩ | ⟨e1, e2⟩ | ⟨e1, e2⟩ | ⟨e1, e2⟩ | ⟨e1, e2⟩ | h
  · rw [show bondP (c i j * c j i) = 2 by rw [e1, e2]; rfl]
    rw [e1] at s1
    rw [e2] at s2
    generalize v i = a at *
    generalize v j = b at *
    simp only [altS, t1, t2]
    rw [s1 0 b a (by omega), s2 a 0 b (by omega)]
  · rw [show bondP (c i j * c j i) = 3 by rw [e1, e2]; rfl]
    rw [e1] at s1
    rw [e2] at s2
    generalize v i = a at *
    generalize v j = b at *
    simp only [altS, t1, t2]
    rw [s2 a 0 (a + b) (by omega), s1 a (a + b) (a + b) (by omega), s1 0 b (a + b) (by omega), s2 (a + b) b (a + b) (by omega)]
  · rw [show bondP (c i j * c j i) = 4 by rw [e1, e2]; rfl]
    rw [e1] at s1
    rw [e2] at s2
    generalize v i = a at *
    generalize v j = b at *
    simp only [altS, t1, t2]
    rw [s1 0 b (a + 2 * b) (by omega), s2 (a + 2 * b) b (a + 2 * b) (by omega), s1 (a + 2 * b) (a + 2 * b) (2 * a + 2 * b) (by omega),
      s2 a 0 (a + b) (by omega), s1 a (a + b) (2 * a + 2 * b) (by omega), s2 (2 * a + 2 * b) (a + b) (a + 2 * b) (by omega)]
  · rw [show bondP (c i j * c j i) = 4 by rw [e1, e2]; rfl]
    rw [e1] at s1
    rw [e2] at s2
    generalize v i = a at *
    generalize v j = b at *
    simp only [altS, t1, t2]
    rw [s1 0 b (a + b) (by omega), s2 (a + b) b (2 * a + 2 * b) (by omega), s1 (a + b) (2 * a + 2 * b) (2 * a + b) (by omega),
      s2 a 0 (2 * a + b) (by omega), s1 a (2 * a + b) (2 * a + b) (by omega), s2 (2 * a + b) (2 * a + b) (2 * a + 2 * b) (by omega)]
  · rw [show bondP (c i j * c j i) = 6 by rw [e1, e2]; rfl]
    rw [e1] at s1
    rw [e2] at s2
    generalize v i = a at *
    generalize v j = b at *
    simp only [altS, t1, t2]
    rw [s1 0 b (a + 3 * b) (by omega), s2 (a + 3 * b) b (a + 3 * b) (by omega), s1 (a + 3 * b) (a + 3 * b) (3 * a + 6 * b) (by omega), s2 (3 * a + 6 * b) (a + 3 * b) (2 * a + 4 * b) (by omega), s1 (3 * a + 6 * b) (2 * a + 4 * b) (4 * a + 6 * b) (by omega),
      s2 a 0 (a + b) (by omega), s1 a (a + b) (3 * a + 3 * b) (by omega), s2 (3 * a + 3 * b) (a + b) (2 * a + 3 * b) (by omega), s1 (3 * a + 3 * b) (2 * a + 3 * b) (4 * a + 6 * b) (by omega), s2 (4 * a + 6 * b) (2 * a + 3 * b) (2 * a + 4 * b) (by omega)]
  · rw [show bondP (c i j * c j i) = 6 by rw [e1, e2]; rfl]
    rw [e1] at s1
    rw [e2] at s2
    generalize v i = a at *
    generalize v j = b at *
    simp only [altS, t1, t2]
    rw [s1 0 b (a + b) (by omega), s2 (a + b) b (3 * a + 3 * b) (by omega), s1 (a + b) (3 * a + 3 * b) (3 * a + 2 * b) (by omega), s2 (3 * a + 2 * b) (3 * a + 3 * b) (6 * a + 4 * b) (by omega), s1 (3 * a + 2 * b) (6 * a + 4 * b) (4 * a + 2 * b) (by omega),
      s2 a 0 (3 * a + b) (by omega), s1 a (3 * a + b) (3 * a + b) (by omega), s2 (3 * a + b) (3 * a + b) (6 * a + 3 * b) (by omega), s1 (3 * a + b) (6 * a + 3 * b) (4 * a + 2 * b) (by omega), s2 (4 * a + 2 * b) (6 * a + 3 * b) (6 * a + 4 * b) (by omega)]
  · rw [bondP_inf M hi hj hij h]
    rfl

/-- Back by the same turns. -/
def downS (c : Nat → Nat → Int) (i j : Nat) : Nat → Pos → Pos
  | 0, v => v
  | m + 1, v => downS c j i m (sr c i v)

theorem alt_down : ∀ (m i j : Nat), c i i = 2 → c j j = 2 → ∀ v, altS c i j m (downS c i j m v) = v
  | 0, _, _, _, _, _ => rfl
  | m + 1, i, j, di, dj, v => by
    show sr c i (altS c j i m (downS c j i m (sr c i v))) = v
    rw [alt_down m j i dj di, sr_sr di]

/-- Two descents: the element begins with either row of turns, and there is a bond. -/
theorem play_two (M : MatOk N c) (hi : i < N) (hj : j < N) (hij : i ≠ j) {n : Nat} (pp : Play N c n v) (ha : v i < 0) (hb : v j < 0) :
    2 ≤ bondP (c i j * c j i) ∧ ∃ k u, n = k + bondP (c i j * c j i) ∧ Play N c k u ∧ v = altS c i j (bondP (c i j * c j i)) u ∧ v = altS c j i (bondP (c i j * c j i)) u := by
  have fin : ∀ (m : Nat), bondP (c i j * c j i) = m → 2 ≤ m → (∃ k, n = k + m ∧ Play N c k (downS c i j m v)) →
      2 ≤ bondP (c i j * c j i) ∧ ∃ k u, n = k + bondP (c i j * c j i) ∧ Play N c k u ∧ v = altS c i j (bondP (c i j * c j i)) u ∧ v = altS c j i (bondP (c i j * c j i)) u := by
    rintro m rfl h2 ⟨k, hk, q⟩
    have e := alt_down (c := c) (bondP (c i j * c j i)) i j (M.diag i hi) (M.diag j hj) v
    exact ⟨h2, k, _, hk, q, e.symm, by rw [← alt_rel M hi hj hij]; exact e.symm⟩
  have p0 : Play N c n (cb c i j v 0 0) := by rw [cb_none]; exact pp
  have s1 : ∀ a b a' : Int, a + a' = v i - b * c i j → sr c i (cb c i j v a b) = cb c i j v a' b := fun a b a' h => st_i M hi a b a' h
  have s2 : ∀ a b b' : Int, b + b' = v j - a * c j i → sr c j (cb c i j v a b) = cb c i j v a b' := fun a b b' h => st_j M hj a b b' h
  have d1 : ∀ {k : Nat} {a b : Int} (a' : Int), Play N c k (cb c i j v a b) → a + a' = v i - b * c i j → a' < a → ∃ m, k = m + 1 ∧ Play N c m (cb c i j v a' b) := fun a' q h lt => dn_i M hi a' q h lt
  have d2 : ∀ {k : Nat} {a b : Int} (b' : Int), Play N c k (cb c i j v a b) → b + b' = v j - a * c j i → b' < b → ∃ m, k = m + 1 ∧ Play N c m (cb c i j v a b') := fun b' q h lt => dn_j M hj b' q h lt
  have t1 : sr c i v = cb c i j v (v i) 0 := sr_cb c i j v
  rcases fin_cases_of M hi hj hij with ⟨e1, e2⟩ | ⟨e1, e2⟩ | ⟨e1, e2⟩ | ⟨e1, e2⟩ | ⟨e1, e2⟩ | ⟨e1, e2⟩ | h
  · refine fin 2 (by rw [e1, e2]; rfl) (by omega) ?_
    rw [e1] at s1 d1
    rw [e2] at s2 d2
    generalize v i = a at *
    generalize v j = b at *
    simp only [downS, t1]
    rw [s2 a 0 b (by omega)]
    obtain ⟨k1, m1, p⟩ := d1 a p0 (by omega) (by omega)
    obtain ⟨k2, m2, p⟩ := d2 b p (by omega) (by omega)
    exact ⟨k2, by omega, p⟩
  · refine fin 3 (by rw [e1, e2]; rfl) (by omega) ?_
    rw [e1] at s1 d1
    rw [e2] at s2 d2
    generalize v i = a at *
    generalize v j = b at *
    simp only [downS, t1]
    rw [s2 a 0 (a + b) (by omega), s1 a (a + b) (a + b) (by omega)]
    obtain ⟨k1, m1, p⟩ := d1 a p0 (by omega) (by omega)
    obtain ⟨k2, m2, p⟩ := d2 (a + b) p (by omega) (by omega)
    obtain ⟨k3, m3, p⟩ := d1 (a + b) p (by omega) (by omega)
    exact ⟨k3, by omega, p⟩
  · refine fin 4 (by rw [e1, e2]; rfl) (by omega) ?_
    rw [e1] at s1 d1
    rw [e2] at s2 d2
    generalize v i = a at *
    generalize v j = b at *
    simp only [downS, t1]
    rw [s2 a 0 (a + b) (by omega), s1 a (a + b) (2 * a + 2 * b) (by omega), s2 (2 * a + 2 * b) (a + b) (a + 2 * b) (by omega)]
    obtain ⟨k1, m1, p⟩ := d1 a p0 (by omega) (by omega)
    obtain ⟨k2, m2, p⟩ := d2 (a + b) p (by omega) (by omega)
    obtain ⟨k3, m3, p⟩ := d1 (2 * a + 2 * b) p (by omega) (by omega)
    obtain ⟨k4, m4, p⟩ := d2 (a + 2 * b) p (by omega) (by omega)
    exact ⟨k4, by omega, p⟩
  · refine fin 4 (by rw [e1, e2]; rfl) (by omega) ?_
    rw [e1] at s1 d1
    rw [e2] at s2 d2
    generalize v i = a at *
    generalize v j = b at *
    simp only [downS, t1]
    rw [s2 a 0 (2 * a + b) (by omega), s1 a (2 * a + b) (2 * a + b) (by omega), s2 (2 * a + b) (2 * a + b) (2 * a + 2 * b) (by omega)]
    obtain ⟨k1, m1, p⟩ := d1 a p0 (by omega) (by omega)
    obtain ⟨k2, m2, p⟩ := d2 (2 * a + b) p (by omega) (by omega)
    obtain ⟨k3, m3, p⟩ := d1 (2 * a + b) p (by omega) (by omega)
    obtain ⟨k4, m4, p⟩ := d2 (2 * a + 2 * b) p (by omega) (by omega)
    exact ⟨k4, by omega, p⟩
  · refine fin 6 (by rw [e1, e2]; rfl) (by omega) ?_
    rw [e1] at s1 d1
    rw [e2] at s2 d2
    generalize v i = a at *
    generalize v j = b at *
    simp only [downS, t1]
    rw [s2 a 0 (a + b) (by omega), s1 a (a + b) (3 * a + 3 * b) (by omega), s2 (3 * a + 3 * b) (a + b) (2 * a + 3 * b) (by omega), s1 (3 * a + 3 * b) (2 * a + 3 * b) (4 * a + 6 * b) (by omega), s2 (4 * a + 6 * b) (2 * a + 3 * b) (2 * a + 4 * b) (by omega)]
    obtain ⟨k1, m1, p⟩ := d1 a p0 (by omega) (by omega)
    obtain ⟨k2, m2, p⟩ := d2 (a + b) p (by omega) (by omega)
    obtain ⟨k3, m3, p⟩ := d1 (3 * a + 3 * b) p (by omega) (by omega)
    obtain ⟨k4, m4, p⟩ := d2 (2 * a + 3 * b) p (by omega) (by omega)
    obtain ⟨k5, m5, p⟩ := d1 (4 * a + 6 * b) p (by omega) (by omega)
    obtain ⟨k6, m6, p⟩ := d2 (2 * a + 4 * b) p (by omega) (by omega)
    exact ⟨k6, by omega, p⟩
  · refine fin 6 (by rw [e1, e2]; rfl) (by omega) ?_
    rw [e1] at s1 d1
    rw [e2] at s2 d2
    generalize v i = a at *
    generalize v j = b at *
    simp only [downS, t1]
    rw [s2 a 0 (3 * a + b) (by omega), s1 a (3 * a + b) (3 * a + b) (by omega), s2 (3 * a + b) (3 * a + b) (6 * a + 3 * b) (by omega), s1 (3 * a + b) (6 * a + 3 * b) (4 * a + 2 * b) (by omega), s2 (4 * a + 2 * b) (6 * a + 3 * b) (6 * a + 4 * b) (by omega)]
    obtain ⟨k1, m1, p⟩ := d1 a p0 (by omega) (by omega)
    obtain ⟨k2, m2, p⟩ := d2 (3 * a + b) p (by omega) (by omega)
    obtain ⟨k3, m3, p⟩ := d1 (3 * a + b) p (by omega) (by omega)
    obtain ⟨k4, m4, p⟩ := d2 (6 * a + 3 * b) p (by omega) (by omega)
    obtain ⟨k5, m5, p⟩ := d1 (4 * a + 2 * b) p (by omega) (by omega)
    obtain ⟨k6, m6, p⟩ := d2 (6 * a + 4 * b) p (by omega) (by omega)
    exact ⟨k6, by omega, p⟩
  · exfalso
    have o1 := M.off i j hi hj hij
    have o2 := M.off j i hj hi (Ne.symm hij)
    obtain ⟨m, rfl, q⟩ := pp.down M hj hb
    refine play_inf M m (fun k _ w hw => play_good M k w hw) m (Nat.le_refl _) (sr c j v) i j q hi hj h o1.1 o2.1 ?_ ?_ ?_
    · show v i - v j * c i j < 0
      have e1 : c i j = -2 ∨ c i j = -3 := by omega
      rcases e1 with e1 | e1 <;> rw [e1] <;> omega
    · rw [sr_at (M.diag j hj)]
      omega
    · rw [sr_at (M.diag j hj)]
      show - c i j * - v j ≤ 2 * - (v i - v j * c i j)
      have e1 : c i j = -2 ∨ c i j = -3 := by omega
      rcases e1 with e1 | e1 <;> rw [e1] <;> omega
end

end Go.Proofs.YtgliajcgcbnemaaGreatDoor.Hx

namespace Go.Proofs.YtgliajcgcbnemaaGreatDoor.Hx
open Go.RowKit
variable {dm : Bool}

def fdI (v : List Int) : Int := if fd v < v.length then (fd v : Int) else -1
theorem fdI_at {v : List Int} {i : Nat} (hi : i < v.length) (h : v.getD i 0 < 0) (hb : ∀ k, k < i → 0 ≤ v.getD k 0) : fdI v = i := by
  unfold fdI
  rw [fd_at hi h hb, if_pos hi]
theorem fdI_none {v : List Int} (hb : ∀ k, k < v.length → 0 ≤ v.getD k 0) : fdI v = -1 := by
  unfold fdI
  rw [if_neg]
  intro h
  have h1 := fd_lt h
  have := hb _ h
  omega

/-- What is only read: it lay there before, or lies in a row of its own that is not row r. -/
def Rd (h0 : Heap) (r : Nat) (h : Heap) (y : H0) (u : List Int) : Prop := Ints h0 y u ∨ ∃ q, h0.length ≤ q ∧ q ≠ r ∧ OwnR q h y u

theorem Rd.ints {h0 h : Heap} {r : Nat} {y : H0} {u : List Int} (H : Rd h0 r h y u) (E : Ext h0 h) : Ints h y u := by
  rcases H with H | ⟨q, _, _, O⟩
  · exact H.ext E
  · exact O.ints
theorem Rd.but {h0 h h' : Heap} {r r' : Nat} {y : H0} {u : List Int} (H : Rd h0 r h y u) (B : But r h h') (hr : h.length ≤ r') : Rd h0 r' h' y u := by
  rcases H with H | ⟨q, h1, h2, O⟩
  · exact Or.inl H
  · have := O.lt
    exact Or.inr ⟨q, h1, by omega, O.but B h2⟩

def lenAt (vs : List HV) (k : Nat) : Nat := match vs[k]? with
  | some (.s (.sl _ _ n)) => n
  | _ => 0

def normF (c : List (List Int)) (w : List Int) : List Int := nf c 31 (imageOf c w)

/-- A step of the reduction, with fuel to spare. -/
theorem nf_next {c : List (List Int)} (hC : Cartan c) {m i : Nat} {u : List Int} (P : PlayL c (m + 1) u) (hm : m + 1 ≤ 30) (hi : i < u.length) (h : u.getD i 0 < 0) (hb : ∀ k, k < i → 0 ≤ u.getD k 0) :
    nf c 31 u = (i : Int) :: nf c 31 (reflW c i u) ∧ PlayL c m (reflW c i u) := by
  obtain ⟨m', e, P2⟩ := P.down hC hm (i := i) (by rw [← P.1]; exact hi) h
  have : m' = m := by omega
  subst this
  refine ⟨?_, P2⟩
  rw [nf_step hi h hb, nf_more hC m' _ 30 31 P2 (by omega) (by omega) (by omega)]
theorem play_neg {c : List (List Int)} (hC : Cartan c) {m i : Nat} {u : List Int} (P : PlayL c m u) (hm : m ≤ 30) (hi : i < u.length) (h : u.getD i 0 < 0) : ∃ m', m = m' + 1 := by
  obtain ⟨m', e, _⟩ := P.down hC hm (i := i) (by rw [← P.1]; exact hi) h
  exact ⟨m', e⟩


theorem impl_reflectedR (h0 h : Heap) (r : Nat) (x y : H0) (c : List (List Int)) (i : Nat) (v : List Int) (hx : Rows h0 x c) (E : Ext h0 h) (hr : h0.length ≤ r) (O : OwnR r h y v) (hC : Cartan c) (hi : i < c.length) (hl : v.length = c.length) :
    HCalls dm Tryz.prog 114 [.s x, I i, .s y] h (fun r' h' => r' = .tup [] ∧ But r h h' ∧ OwnR r h' y (reflW c i v)) := by
  have h4 := hC.le
  refine calls_of_hFun (m := 0) kd_ok mixed Tryz.func114 rfl (by kernel_rfl) rfl rfl (of_decide_eq_true rfl) ?_; unfold hFun; (conv => whnf)
  refine ⟨rfl, Ints.idxN O.ints (by omega) (fun p hp => ?_)⟩
  (conv => whnf)
  refine ⟨rfl, hp.load ?_⟩
  (conv => whnf)
  refine ⟨rfl, O.ints.len ?_⟩
  (conv => whnf)
  refine HLoop.intro [14] [15, 16, 7, 17, 18, 19, 20, 21, 22, 23, 24, 25, 26, 27, 28, 29, 30, 31, 32, 14] (by kernel_rfl) (by kernel_rfl) (fun vs h' => ∃ k : Nat, vs = [I k] ∧ k ≤ v.length ∧ But r h h' ∧ OwnR r h' y (reflTo c i v k)) (fun vs _ => v.length - natAt vs 0) ⟨0, rfl, by omega, But.refl _ _, by rw [reflTo_none]; exact O⟩ ?_
  rintro vs h' ⟨k, rfl, hk, B, O⟩
  have hx := hx.ext (E.but B hr)
  have hlen := reflTo_length c i v k
  (conv => whnf)
  refine HIf.dec (fun hlt => ?_) (fun hge => ?_)
  · have hrow := hC.row k (by omega)
    have hget := reflTo_get c i v k (by omega)
    have hsucc := reflTo_succ c i v k
    obtain ⟨cs, rfl, hq, hql, B2, O2⟩ := OwnR.store (v := reflNew c i v k) O (show k < (reflTo c i v k).length by omega)
    rw [hsucc] at O2
    (conv => whnf)
    refine Or.inr (Or.inl (Exists.intro 15 (And.intro (show Region.lexTailB _ _ _ = true by kernel_rfl) ?_))); (conv => whnf)
    refine ⟨rfl, Ints.idxN O.ints (by omega) (fun p hp => ?_)⟩
    rw [hget] at hp
    (conv => whnf)
    refine ⟨rfl, hp.load ?_⟩
    (conv => whnf)
    refine ⟨rfl, Rows.idxN hx (by omega) (fun p2 z hp2 hz => ?_)⟩
    (conv => whnf)
    refine ⟨rfl, hp2.load ?_⟩
    (conv => whnf)
    refine ⟨rfl, Ints.idxN hz (by omega) (fun p3 hp3 => ?_)⟩
    (conv => whnf)
    refine ⟨rfl, hp3.load ?_⟩
    rw [ent_eq]
    (conv => whnf)
    refine HArith.any ?_
    (conv => whnf)
    refine HArith.any ?_
    (conv => whnf)
    refine ⟨rfl, HIdx.sl (by omega) (by omega) ?_⟩
    (conv => whnf)
    have e0 : 0 + (k : Int).toNat = k := by omega
    rw [e0]
    refine ⟨rfl, HStore.own hq (by omega) rfl ?_⟩
    (conv => whnf)
    refine HArith.fits (by omega) (by omega) ?_
    (conv => whnf)
    exact ⟨⟨k + 1, rfl, by omega, B.trans B2, O2⟩, by show v.length - (k + 1) < v.length - k; omega⟩
  · have e : k = v.length := by omega
    subst e
    rw [reflTo_all] at O
    (conv => whnf)
    exact ⟨rfl, B, O⟩

theorem impl_firstDescent (h : Heap) (x : H0) (v : List Int) (hx : Ints h x v) (hv : v.length ≤ 1048576) : HCalls dm Tryz.prog 198 [.s x] h (fun r h' => r = I (fdI v) ∧ h' = h) := by
  refine calls_of_hFun (m := 0) kd_ok mixed Tryz.func198 rfl (by kernel_rfl) rfl rfl (of_decide_eq_true rfl) ?_; unfold hFun; (conv => whnf)
  refine ⟨rfl, hx.len ?_⟩
  (conv => whnf)
  refine HLoop.intro [7] [8, 9, 10, 11, 3, 4, 12, 13, 14, 2, 15, 7] (by kernel_rfl) (by kernel_rfl) (fun vs h' => ∃ i : Nat, vs = [I i] ∧ h' = h ∧ i ≤ v.length ∧ ∀ k, k < i → 0 ≤ v.getD k 0) (fun vs _ => v.length - natAt vs 0) ⟨0, rfl, rfl, by omega, fun k hk => by omega⟩ ?_
  rintro vs h' ⟨i, rfl, hh, hi, hb⟩
  subst h'
  (conv => whnf)
  refine HIf.dec (fun hlt => ?_) (fun hge => ?_)
  · (conv => whnf)
    refine ⟨rfl, Ints.idxN hx (by omega) (fun p hp => ?_)⟩
    (conv => whnf)
    refine ⟨rfl, hp.load ?_⟩
    (conv => whnf)
    refine HIf.dec (fun hneg => ?_) (fun hpos => ?_)
    · rw [fdI_at (by omega) hneg hb]
      (conv => whnf)
      exact ⟨rfl, rfl⟩
    · (conv => whnf)
      refine HArith.fits (by omega) (by omega) ?_
      (conv => whnf)
      refine ⟨⟨i + 1, rfl, rfl, by omega, fun k hk => ?_⟩, by show v.length - (i + 1) < v.length - i; omega⟩
      by_cases e : k = i
      · subst e; omega
      · exact hb k (by omega)
  · rw [fdI_none (fun k hk => hb k (by omega))]
    (conv => whnf)
    exact ⟨rfl, rfl⟩

theorem impl_normal (h : Heap) (x0 : H0) (a0 : List (List Int)) (x1 : H0) (v : List Int) (n : Nat) (hx0 : Rows h x0 a0) (hx1 : Ints h x1 v) (hC : Cartan a0) (P : PlayL a0 n v) (hn : n ≤ 30) :
    HCalls dm Tryz.prog 148 [.s x0, .s x1] h (fun r h' => ∃ y, r = .s y ∧ Fresh h h' y (nf a0 31 v)) := by
  have h4 := hC.le
  have hvl := P.1
  refine calls_of_hFun (m := 0) kd_ok mixed Tryz.func148 rfl (by kernel_rfl) rfl rfl (of_decide_eq_true rfl) ?_; unfold hFun; (conv => whnf)
  refine HLit.empty ?_
  (conv => whnf)
  refine ⟨rfl, rfl, HApp.copy hx1 (by omega) (fun h1 y1 E1 O1 => ?_)⟩
  obtain ⟨r2, hr2, hr2l, O2⟩ := O1.row
  have E2 := E1.trans (Ext.push h1 [Row.own []])
  have O3 := OwnR.push h1 []
  have hEl := E1.1
  (conv => whnf)
  refine HLit.empty ?_
  (conv => whnf)
  refine HLoop.intro [5] [11, 12, 6, 13, 14, 15, 4, 16, 17, 18, 19, 5, 20, 21, 22, 23] (by kernel_rfl) (by kernel_rfl) (fun vs h' => ∃ (z : H0) (r1 : Nat) (u l : List Int) (m : Nat), vs = [.s z] ∧ Ext h h' ∧ h.length ≤ r1 ∧ r1 ≠ r2 ∧ OwnR r1 h' z l ∧ OwnR r2 h' y1 u ∧ PlayL a0 m u ∧ m + l.length ≤ 30 ∧ l ++ nf a0 31 u = nf a0 31 v) (fun vs _ => 31 - lenAt vs 0) ⟨_, h1.length, v, [], n, rfl, E2, hEl, by omega, O3, O2.ext (Ext.push _ _), P, by simpa using hn, rfl⟩ ?_
  rintro vs h' ⟨z, r1, u, l, m, rfl, E, hr1, hne, Oz, Oy, Pu, hml, hl⟩
  have hul := Pu.1
  (conv => whnf)
  refine (impl_firstDescent _ _ u Oy.ints (by omega)).mono ?_
  rintro r h3 ⟨rfl, hh⟩
  subst h3
  (conv => whnf)
  by_cases hf : fd u < u.length
  · have hneg := fd_lt hf
    have hb : ∀ k, k < fd u → 0 ≤ u.getD k 0 := fun k hk => by
      have hk2 : k < u.length := by omega
      have := List.not_of_lt_findIdx (xs := u) (p := fun x => decide (x < 0)) (i := k) hk
      simp only [List.getD, List.getElem?_eq_getElem hk2, Option.getD_some]
      simp at this
      omega
    obtain ⟨m, rfl⟩ := play_neg hC Pu (by omega) hf hneg
    obtain ⟨hnx, P2⟩ := nf_next hC Pu (by omega) hf hneg hb
    rw [fdI_at hf hneg hb]
    generalize fd u = i at *
    rw [hnx] at hl
    refine HIf.decF (by omega) ?_
    (conv => whnf)
    refine HLit.one ?_
    (conv => whnf)
    refine ⟨rfl, rfl, HApp.snocR Oz (by omega) (fun h3 r3 y3 B3 hr3 O3 => ?_)⟩
    have := Oy.lt
    have := E.1
    (conv => whnf)
    refine (impl_reflectedR h _ r2 _ _ a0 i u hx0 (E.but B3 hr1) hr2 (Oy.but B3 (Ne.symm hne)) hC (by omega) hul).mono ?_
    rintro r h5 ⟨rfl, B5, O5⟩
    have hzl : z = .sl r1 0 l.length := by obtain ⟨t, e, _⟩ := Oz; exact e
    have hyl : y3 = .sl r3 0 (l ++ [(i : Int)]).length := by obtain ⟨t, e, _⟩ := O3; exact e
    (conv => whnf)
    refine ⟨⟨y3, r3, reflW a0 i u, l ++ [(i : Int)], m, rfl, (E.but B3 hr1).but B5 hr2, by omega, by omega, O3.but B5 (by omega), O5, P2, by simp; omega, by rw [List.append_assoc]; exact hl⟩, ?_⟩
    subst hzl
    subst hyl
    show 31 - (l ++ [(i : Int)]).length < 31 - l.length
    simp
    omega
  · have hb := fd_end hf
    rw [fdI_none hb]
    rw [nf_stop hb, List.append_nil] at hl
    refine HIf.decT (by omega) ?_
    (conv => whnf)
    rw [← hl]
    exact ⟨_, rfl, Fresh.ofRow E Oz hr1⟩

theorem spec_l8Form (h : Heap) (x0 : H0) (a0 : List (List Int)) (x1 : H0) (v : List Int) (n : Nat) (hx0 : Rows h x0 a0) (hx1 : Ints h x1 v) (hC : Cartan a0) (P : PlayL a0 n v) (hn : n ≤ 30) :
    HCalls dm Tryz.prog 193 [.s x0, .s x1] h (fun r h' => ∃ y, r = .s y ∧ Fresh h h' y (nf a0 31 v)) := by
  have h4 := hC.le
  have hvl := P.1
  have E0 := Ext.push h [Row.own []]
  have O0 := OwnR.push h []
  refine calls_of_hFun (m := 0) kd_ok mixed Tryz.func193 rfl (by kernel_rfl) rfl rfl (of_decide_eq_true rfl) ?_; unfold hFun; (conv => whnf)
  refine HLit.empty ?_
  (conv => whnf)
  refine HLoop.intro [6, 1, 5] [9, 10, 7, 13, 14, 15, 16, 17, 18, 19, 20, 21, 22, 23, 24, 25, 7, 26, 27, 28, 29, 30, 4, 31, 32, 33, 34, 5, 35, 36, 37, 38, 1, 11, 12, 6] (by kernel_rfl) (by kernel_rfl) (fun vs h' => ∃ (k : Nat) (z : H0) (r1 : Nat) (y : H0) (u l : List Int) (m : Nat), vs = [I k, .s y, .s z] ∧ Ext h h' ∧ h.length ≤ r1 ∧ OwnR r1 h' z l ∧ Rd h r1 h' y u ∧ PlayL a0 m u ∧ m + k ≤ 30 ∧ l.length = k ∧ l ++ nf a0 31 u = nf a0 31 v) (fun vs _ => 31 - natAt vs 0) ⟨0, _, h.length, x1, v, [], n, rfl, E0, Nat.le_refl _, O0, Or.inl hx1, P, hn, rfl, rfl⟩ ?_
  rintro vs h' ⟨k, z, r1, y, u, l, m, rfl, E, hr1, Oz, Ry, Pu, hmk, hlk, hl⟩
  have hul := Pu.1
  have hx00 := hx0
  have hx0 := hx0.ext E
  have hy := Ry.ints E
  (conv => whnf)
  refine HIf.decT (by omega) ?_
  (conv => whnf)
  refine HLoop.intro [7] [13, 14, 15, 16, 17, 18, 19, 20, 21, 22, 23, 24, 25, 7] (by kernel_rfl) (by kernel_rfl) (fun vs h2 => ∃ i : Nat, vs = [I i] ∧ h2 = h' ∧ i ≤ u.length ∧ ∀ t, t < i → 0 ≤ u.getD t 0) (fun vs _ => u.length - natAt vs 0) ⟨0, rfl, rfl, by omega, fun k hk => by omega⟩ ?_
  rintro vs h2 ⟨i, rfl, hh, hi, hb⟩
  subst h2
  have out : i = u.length → nf a0 31 v = l := fun e => by
    subst e
    rw [nf_stop hb, List.append_nil] at hl
    exact hl.symm
  have huy := hy
  (conv => whnf)
  refine ⟨rfl, hy.len ?_⟩
  (conv => whnf)
  refine HIf.dec (fun hlt => ?_) (fun hge => ?_)
  · (conv => whnf)
    (repeat (first | (refine ⟨rfl, Ints.len (by assumption) ?_⟩; conv => whnf) | (refine ⟨rfl, Rows.len (by assumption) ?_⟩; conv => whnf) | (refine ⟨rfl, HLen.sl ?_⟩; conv => whnf) | (refine ⟨rfl, At.load (by assumption) ?_⟩; conv => whnf) | (refine HIf.yes ?_; conv => whnf) | (refine HIf.no ?_; conv => whnf) | (refine HIf.isT (by assumption) ?_; conv => whnf) | (refine HIf.isF (by assumption) ?_; conv => whnf) | (refine HIf.decT (by assumption) ?_; conv => whnf) | (refine HIf.decF (by assumption) ?_; conv => whnf) | (refine HIf.beqT (by assumption) ?_; conv => whnf) | (refine HIf.beqF (by assumption) ?_; conv => whnf) | (refine HIf.bneT (by assumption) ?_; conv => whnf) | (refine HIf.bneF (by assumption) ?_; conv => whnf) | (refine ⟨rfl, Ints.idxN (by assumption) (by omega) (fun p hp => ?_)⟩; conv => whnf) | (refine ⟨rfl, Rows.idxN (by assumption) (by omega) (fun p y hp hy => ?_)⟩; conv => whnf) | (refine And.intro (show Kd.isBool _ = true from rfl) ?_; conv => whnf) | (refine ⟨rfl, Ints.idx (by assumption) (by omega) (by omega) (fun p hp => ?_)⟩; conv => whnf) | (refine ⟨rfl, Rows.idx (by assumption) (by omega) (by omega) (fun p y hp hy => ?_)⟩; conv => whnf) | (refine HArith.fits (by omega) (by omega) ?_; conv => whnf) | (refine Or.inl (And.intro (show Region.lexB _ _ = true by kernel_rfl) ?_); conv => whnf)))
    refine HIf.dec (fun hpos => ?_) (fun hneg0 => ?_)
    · (conv => whnf)
      refine HArith.fits (by omega) (by omega) ?_
      (conv => whnf)
      refine ⟨⟨i + 1, rfl, rfl, by omega, fun t ht => ?_⟩, by show u.length - (i + 1) < u.length - i; omega⟩
      by_cases e : t = i
      · subst e; omega
      · exact hb t (by omega)
    · have hne := Pu.ne hC (i := i) (by omega)
      have hneg : u.getD i 0 < 0 := by omega
      obtain ⟨m, rfl⟩ := play_neg hC Pu (by omega) (by omega) hneg
      obtain ⟨hnx, P2⟩ := nf_next hC Pu (by omega) (by omega) hneg hb
      rw [hnx] at hl
      (conv => whnf)
      refine ⟨rfl, hy.len ?_⟩
      (conv => whnf)
      refine HIf.beqF (by omega) ?_
      (conv => whnf)
      refine HLit.one ?_
      (conv => whnf)
      refine ⟨rfl, rfl, HApp.snocR Oz (by omega) (fun h3 r3 y3 B3 hr3 O3 => ?_)⟩
      have hE := E.1
      have R3 := Ry.but B3 hr3
      have E3 := E.but B3 hr1
      (conv => whnf)
      refine (spec_l6Reflect _ _ _ a0 i u (hx00.ext E3) (R3.ints E3) hC (by omega) hul).mono ?_
      rintro r h5 ⟨y5, rfl, f5⟩
      obtain ⟨r5, hr5, O5⟩ := f5.row
      have := O3.lt
      have hE3 := E3.1
      (conv => whnf)
      refine HArith.fits (by omega) (by omega) ?_
      (conv => whnf)
      exact ⟨⟨k + 1, _, r3, _, _, l ++ [(i : Int)], m, rfl, E3.trans f5.1, by omega, O3.ext f5.1, Or.inr ⟨r5, by omega, by omega, O5⟩, P2, by omega, by simp; omega, by rw [List.append_assoc]; exact hl⟩, by show 31 - (k + 1) < 31 - k; omega⟩
  · (conv => whnf)
    (repeat (first | (refine HIf.decF hge ?_; conv => whnf) | (refine HIf.no ?_; conv => whnf)))
    refine ⟨rfl, hy.len ?_⟩
    (conv => whnf)
    refine HIf.beqT (by omega) ?_
    (conv => whnf)
    rw [out (by omega)]
    exact ⟨_, rfl, Fresh.ofRow E Oz hr1⟩

theorem spec_l8Normal (h : Heap) (x0 : H0) (a0 : List (List Int)) (x1 : H0) (a1 : List Int) (hx0 : Rows h x0 a0) (hx1 : Ints h x1 a1) (hC : Cartan a0) (hw : lettersOk a0 a1 = true) (s1 : a1.length ≤ 30) :
    HCalls dm Tryz.prog 140 [.s x0, .s x1] h (fun r h' => ∃ y, r = .s y ∧ Fresh h h' y (normF a0 a1)) := by
  obtain ⟨n, hn, P⟩ := play_image hC hw (by omega)
  refine calls_of_hFun (m := 0) kd_ok mixed Tryz.func140 rfl (by kernel_rfl) rfl rfl (of_decide_eq_true rfl) ?_; unfold hFun; (conv => whnf)
  refine (spec_l8Image _ _ a0 _ a1 hx0 hx1 ((isCartan_iff a0).2 hC) hw (by omega)).mono ?_
  rintro r h1 ⟨y1, rfl, f1⟩
  (conv => whnf)
  refine (spec_l8Form _ _ a0 _ _ n (hx0.ext f1.1) f1.ints hC P (by omega)).mono ?_
  rintro r h2 ⟨y2, rfl, f2⟩
  have hz := Fresh.inner f1.1 f2
  (conv => whnf)
  exact ⟨_, rfl, Fresh.of hz.1 hz.2⟩

end Go.Proofs.YtgliajcgcbnemaaGreatDoor.Hx

namespace Go.Proofs.YtgliajcgcbnemaaGreatDoor.Hx
open Go.RowKit
variable {dm : Bool}



end Go.Proofs.YtgliajcgcbnemaaGreatDoor.Hx
