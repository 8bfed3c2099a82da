/-
  Contracts of the image of rho: acted, image, RhoOf, l8Image.
  Contracts of equality of slices and of AreSame, of the program and of the reference.
  Contracts of LeftDescents, of the program.
  More of rows: several slices of one's own side by side, appending to one of them, slices of slices that grow, parts of slices.
  Numbers, weights and lists of roots as texts: in plain words, and of the reference.
  The game of signs: from where a word takes the vector of ones, any row of steps at negative numbers leads back to it, always in the same number of steps, and no number is ever zero. Plain theory; nothing of a program is named here.
  Contracts of the descents of the reference, of reversed words, of words with a letter left out, of the program and of the reference.
  Contracts of words one behind the other, of places in lists of words, and of commuting words, of the program and of the reference; calls that make a slice, in a region that draws its order.
  Contracts of commuting words, of the roots of a word's letters and of the first two letters that can be left out, of the program and of the reference.
  Images of rho and the game of signs: no number is zero, and the reduction by first descents comes back. Plain theory on lists.
  Contracts of the normal form, of the program and of the reference.
  Contract of AreSame of the reference.
  Contracts of lengths, normal forms, elements, inverses and products, of the program and of the reference.
-/
import Derived.Test.YtgliajcgcbnemaaGreatDoorZ09
import Derived.Lib.ItoaNum
import Derived.Lib.ItoaLen
import Derived.Lib.Join
namespace Go.Proofs.YtgliajcgcbnemaaGreatDoor.Hx
open Go.RowKit
variable {dm : Bool}

theorem impl_acted (h : Heap) (x0 : H0) (a0 : List (List Int)) (x1 : H0) (a1 : List Int) (x2 : H0) (a2 : List Int) (hx0 : Rows h x0 a0) (hx1 : Ints h x1 a1) (hx2 : Ints h x2 a2) (hC : Cartan a0) (hw : lettersOk a0 a1 = true) (hl : a2.length = a0.length) (s1 : a1.length ≤ 1048576) :
    HCalls dm Tryz.prog 116 [.s x0, .s x1, .s x2] h (fun r h' => ∃ y, r = .s y ∧ Fresh h h' y (actW a0 a1 a2)) := by
  have hp := hC.le
  refine calls_of_hFun (m := 0) kd_ok mixed Tryz.func116 rfl (by kernel_rfl) rfl rfl (of_decide_eq_true rfl) ?_; unfold hFun; (conv => whnf)
  refine HLit.empty ?_
  (conv => whnf)
  refine ⟨rfl, rfl, HApp.copy hx2 (by omega) (fun h1 y1 E1 O1 => ?_)⟩
  have hx11 := hx1.ext E1
  (conv => whnf)
  refine ⟨rfl, hx11.len ?_⟩
  (conv => whnf)
  refine HArith.fits (by omega) (by omega) ?_
  (conv => whnf)
  refine HLoop.intro [8] [15, 16, 19, 20, 21, 22, 23, 24, 25, 17, 18, 8] (by kernel_rfl) (by kernel_rfl) (fun vs h' => ∃ k : Nat, vs = [I ((k : Int) - 1)] ∧ k ≤ a1.length ∧ Ext h h' ∧ Own h.length h'.length h' y1 (actW a0 (a1.drop k) a2)) (fun vs _ => (intAt vs 0 + 1).toNat) ⟨a1.length, rfl, Nat.le_refl _, E1, by rw [actW_end]; exact O1⟩ ?_
  rintro vs h' ⟨k, rfl, hk, E, O⟩
  have hx1 := hx1.ext E
  have hal := actW_length a0 (a1.drop k) a2
  (conv => whnf)
  refine HIf.dec (fun hlt => ?_) (fun hge => ?_)
  · obtain ⟨m, rfl⟩ : ∃ m, k = m + 1 := ⟨k - 1, by omega⟩
    obtain ⟨i, hi, hic⟩ := letter hw (k := m) (by omega)
    have e1 : (((m + 1 : Nat) : Int) - 1).toNat = m := by omega
    have hd := actW_drop a0 a1 a2 (k := m) (by omega)
    have e2 : (a1.getD m 0).toNat = i := by omega
    rw [e2] at hd
    (conv => whnf)
    refine ⟨rfl, Ints.idx hx1 (by omega) (by omega) (fun p hp => ?_)⟩
    rw [e1, hi] at hp
    (conv => whnf)
    refine ⟨rfl, hp.load ?_⟩
    (conv => whnf)
    refine (impl_reflected h _ _ _ a0 i _ hx0 E O hC hic (by omega)).mono ?_
    rintro r h2 ⟨rfl, E2, O2⟩
    rw [← hd] at O2
    (conv => whnf)
    refine HArith.fits (by omega) (by omega) ?_
    (conv => whnf)
    have e3 : ((m + 1 : Nat) : Int) - 1 - 1 = (m : Int) - 1 := by omega
    exact ⟨⟨m, by rw [← e3]; rfl, by omega, E2, O2⟩, by show (((m + 1 : Nat) : Int) - 1 - 1 + 1).toNat < (((m + 1 : Nat) : Int) - 1 + 1).toNat; omega⟩
  · have e : k = 0 := by omega
    subst e
    rw [actW_all] at O
    (conv => whnf)
    exact ⟨_, rfl, Fresh.of E O⟩

theorem spec_RhoOf (h : Heap) (x0 : H0) (a0 : List (List Int)) (hx0 : Rows h x0 a0) (hC : isCartan a0 = true) :
    HCalls dm Tryz.prog 71 [.s x0] h (fun r h' => ∃ y, r = .s y ∧ Fresh h h' y (List.replicate a0.length 1)) := by
  have h4 := ((isCartan_iff a0).1 hC).le
  have E0 := Ext.push h [Row.own []]
  have O0 := Own.none h
  refine calls_of_hFun (m := 0) kd_ok mixed Tryz.func71 rfl (by kernel_rfl) rfl rfl (of_decide_eq_true rfl) ?_; unfold hFun; (conv => whnf)
  refine HLit.empty ?_
  (conv => whnf)
  refine HLoop.intro [4, 3] [6, 7, 8, 9, 10, 11, 12, 13, 16, 17, 18, 3, 14, 15, 4] (by kernel_rfl) (by kernel_rfl) (fun vs h' => ∃ (k : Nat) (z : H0), vs = [I k, .s z] ∧ k ≤ a0.length ∧ Ext h h' ∧ Own h.length h'.length h' z (List.replicate k 1)) (fun vs _ => a0.length - natAt vs 0) ⟨0, _, rfl, by omega, E0, O0⟩ ?_
  rintro vs h' ⟨k, z, rfl, hk, E, O⟩
  have hx0 := hx0.ext E
  (conv => whnf)
  refine ⟨rfl, hx0.len ?_⟩
  (conv => whnf)
  refine HIf.dec (fun hlt => ?_) (fun hge => ?_)
  · (conv => whnf)
    (repeat (first | (refine ⟨rfl, Ints.len (by assumption) ?_⟩; conv => whnf) | (refine ⟨rfl, Rows.len (by assumption) ?_⟩; conv => whnf) | (refine ⟨rfl, HLen.sl ?_⟩; conv => whnf) | (refine ⟨rfl, At.load (by assumption) ?_⟩; conv => whnf) | (refine HIf.yes ?_; conv => whnf) | (refine HIf.no ?_; conv => whnf) | (refine HIf.isT (by assumption) ?_; conv => whnf) | (refine HIf.isF (by assumption) ?_; conv => whnf) | (refine HIf.decT (by assumption) ?_; conv => whnf) | (refine HIf.decF (by assumption) ?_; conv => whnf) | (refine HIf.beqT (by assumption) ?_; conv => whnf) | (refine HIf.beqF (by assumption) ?_; conv => whnf) | (refine HIf.bneT (by assumption) ?_; conv => whnf) | (refine HIf.bneF (by assumption) ?_; conv => whnf) | (refine ⟨rfl, Ints.idxN (by assumption) (by omega) (fun p hp => ?_)⟩; conv => whnf) | (refine ⟨rfl, Rows.idxN (by assumption) (by omega) (fun p y hp hy => ?_)⟩; conv => whnf) | (refine And.intro (show Kd.isBool _ = true from rfl) ?_; conv => whnf) | (refine ⟨rfl, Ints.idx (by assumption) (by omega) (by omega) (fun p hp => ?_)⟩; conv => whnf) | (refine ⟨rfl, Rows.idx (by assumption) (by omega) (by omega) (fun p y hp hy => ?_)⟩; conv => whnf) | (refine HArith.fits (by omega) (by omega) ?_; conv => whnf) | (refine Or.inl (And.intro (show Region.lexB _ _ = true by kernel_rfl) ?_); conv => whnf)))
    refine (spec_IsCartan _ _ _ hx0 (by omega)).mono ?_
    rintro r h1 ⟨rfl, rfl⟩
    rw [hC]
    (conv => whnf)
    (repeat (first | (refine ⟨rfl, Ints.len (by assumption) ?_⟩; conv => whnf) | (refine ⟨rfl, Rows.len (by assumption) ?_⟩; conv => whnf) | (refine ⟨rfl, HLen.sl ?_⟩; conv => whnf) | (refine ⟨rfl, At.load (by assumption) ?_⟩; conv => whnf) | (refine HIf.yes ?_; conv => whnf) | (refine HIf.no ?_; conv => whnf) | (refine HIf.isT (by assumption) ?_; conv => whnf) | (refine HIf.isF (by assumption) ?_; conv => whnf) | (refine HIf.decT (by assumption) ?_; conv => whnf) | (refine HIf.decF (by assumption) ?_; conv => whnf) | (refine HIf.beqT (by assumption) ?_; conv => whnf) | (refine HIf.beqF (by assumption) ?_; conv => whnf) | (refine HIf.bneT (by assumption) ?_; conv => whnf) | (refine HIf.bneF (by assumption) ?_; conv => whnf) | (refine ⟨rfl, Ints.idxN (by assumption) (by omega) (fun p hp => ?_)⟩; conv => whnf) | (refine ⟨rfl, Rows.idxN (by assumption) (by omega) (fun p y hp hy => ?_)⟩; conv => whnf) | (refine And.intro (show Kd.isBool _ = true from rfl) ?_; conv => whnf) | (refine ⟨rfl, Ints.idx (by assumption) (by omega) (by omega) (fun p hp => ?_)⟩; conv => whnf) | (refine ⟨rfl, Rows.idx (by assumption) (by omega) (by omega) (fun p y hp hy => ?_)⟩; conv => whnf) | (refine HArith.fits (by omega) (by omega) ?_; conv => whnf) | (refine Or.inl (And.intro (show Region.lexB _ _ = true by kernel_rfl) ?_); conv => whnf)))
    refine HLit.one ?_
    (conv => whnf)
    refine ⟨rfl, rfl, HApp.snoc E O (by rw [ones_len]; omega) (fun h2 y2 E2 O2 => ?_)⟩
    rw [← ones_snoc] at O2
    (conv => whnf)
    refine HArith.fits (by omega) (by omega) ?_
    (conv => whnf)
    exact ⟨⟨k + 1, y2, rfl, by omega, E2, O2⟩, by show a0.length - (k + 1) < a0.length - k; omega⟩
  · have e : k = a0.length := by omega
    (conv => whnf)
    (repeat (first | (refine HIf.decF hge ?_; conv => whnf) | (refine HIf.no ?_; conv => whnf)))
    subst e
    exact ⟨_, rfl, Fresh.of E O⟩

end Go.Proofs.YtgliajcgcbnemaaGreatDoor.Hx

namespace Go.Proofs.YtgliajcgcbnemaaGreatDoor.Hx
open Go.RowKit
variable {dm : Bool}

def areSame (c : List (List Int)) (a b : List Int) : Bool := isWord c a && isWord c b && decide (imageOf c a = imageOf c b)

theorem getD_eq (a : List Int) {i : Nat} (h : i < a.length) : a.getD i 0 = a[i] := by simp [List.getD, h]
theorem take_more {a b : List Int} {i : Nat} (ha : i < a.length) (hb : i < b.length) (h : a.take i = b.take i) (e : a.getD i 0 = b.getD i 0) : a.take (i + 1) = b.take (i + 1) := by
  rw [getD_eq a ha, getD_eq b hb] at e
  rw [List.take_succ_eq_append_getElem ha, List.take_succ_eq_append_getElem hb, h, e]
theorem eq_of_take {a b : List Int} (hl : a.length = b.length) (h : a.take a.length = b.take a.length) : a = b := by
  rw [List.take_length, hl, List.take_length] at h
  exact h


end Go.Proofs.YtgliajcgcbnemaaGreatDoor.Hx

namespace Go.Proofs.YtgliajcgcbnemaaGreatDoor.Hx
open Go.RowKit
variable {dm : Bool}

def descs (v : List Int) (k : Nat) : List Int := ((List.range k).filter fun j => decide (v.getD j 0 < 0)).map fun (j : Nat) => (j : Int)

def leftDescents (c : List (List Int)) (w : List Int) : List Int := if isWord c w then descs (imageOf c w) c.length else []
end Go.Proofs.YtgliajcgcbnemaaGreatDoor.Hx

namespace Go.Proofs.YtgliajcgcbnemaaGreatDoor.Hx
open Go.RowKit

/-- A slice of ints in row r, one's own. -/
def OwnR (r : Nat) (h : Heap) (x : H0) (l : List Int) : Prop := ∃ t, x = .sl r 0 l.length ∧ h[r]? = some (.own (l.map ci ++ t))

/-- All rows but r are as they were. -/
def But (r : Nat) (h h' : Heap) : Prop := h.length ≤ h'.length ∧ ∀ q, q < h.length → q ≠ r → h'[q]? = h[q]?

theorem OwnR.ints {r : Nat} {h : Heap} {x : H0} {l : List Int} (H : OwnR r h x l) : Ints h x l := by
  obtain ⟨t, rfl, hr⟩ := H
  exact Ints.ofOwn hr
theorem OwnR.lt {r : Nat} {h : Heap} {x : H0} {l : List Int} (H : OwnR r h x l) : r < h.length := by
  obtain ⟨t, rfl, hr⟩ := H
  exact get_lt hr
theorem OwnR.own {b r : Nat} {h : Heap} {x : H0} {l : List Int} (H : OwnR r h x l) (hb : b ≤ r) : Own b h.length h x l := by
  have := H.lt
  obtain ⟨t, rfl, hr⟩ := H
  exact ⟨r, t, rfl, hb, this, hr⟩
theorem Fresh.row {h h' : Heap} {x : H0} {l : List Int} (H : Fresh h h' x l) : ∃ r, h.length ≤ r ∧ OwnR r h' x l := by
  obtain ⟨_, r, t, g1, g2, hr⟩ := H
  exact ⟨r, g2, t, g1, hr⟩
theorem Fresh.ofRow {h h' : Heap} {x : H0} {l : List Int} {r : Nat} (E : Ext h h') (H : OwnR r h' x l) (hr : h.length ≤ r) : Fresh h h' x l := by
  obtain ⟨t, g1, g2⟩ := H
  exact ⟨E, r, t, g1, hr, g2⟩
theorem OwnR.ext {r : Nat} {h h' : Heap} {x : H0} {l : List Int} (H : OwnR r h x l) (k : Ext h h') : OwnR r h' x l := by
  obtain ⟨t, g1, hr⟩ := H
  exact ⟨t, g1, k.row hr⟩
theorem Ext.but {hb h h' : Heap} {r : Nat} (E : Ext hb h) (k : But r h h') (hr : hb.length ≤ r) : Ext hb h' :=
  ⟨Nat.le_trans E.1 k.1, fun q hq => by rw [k.2 q (Nat.lt_of_lt_of_le hq E.1) (by omega)]; exact E.2 q hq⟩
theorem But.ext {h h' h'' : Heap} {r : Nat} (E : Ext h h') (k : But r h' h'') : But r h h'' :=
  ⟨Nat.le_trans E.1 k.1, fun q hq hn => by rw [k.2 q (Nat.lt_of_lt_of_le hq E.1) hn]; exact E.2 q hq⟩
theorem OwnR.push (h : Heap) (l : List Int) : OwnR h.length (h ++ [.own (l.map ci)]) (.sl h.length 0 l.length) l := ⟨[], rfl, by rw [List.append_nil]; exact get_new _ _⟩

/-- Ints, appended to what one has. -/
theorem HApp.moreR {r : Nat} {h : Heap} {x y : H0} {l m : List Int} {K : HV → Heap → Prop} (H : OwnR r h y l) (hx : Ints h x m) (hl : l.length + m.length ≤ 2199023255552)
    (hK : ∀ h' r' y', But r h h' → h.length ≤ r' → OwnR r' h' y' (l ++ m) → K (.s y') h') : HApp h (.s y) (.s x) K := by
  obtain ⟨t, rfl, hr⟩ := H
  refine ⟨m.map ci, hx, ci_one m, l.map ci ++ t, rfl, hr, by simp, Or.inl ⟨by simpa using hl, ?_⟩⟩
  have e1 : l.length + (m.map ci).length = (l ++ m).length := by simp
  have e2 : (l.map ci ++ t).take l.length ++ m.map ci = (l ++ m).map ci := by rw [List.take_append_of_le_length (by simp), List.take_of_length_le (by simp)]; simp
  rw [e1, e2]
  refine hK _ h.length _ ⟨by simp, fun q hq hn => ?_⟩ (Nat.le_refl _) ⟨[], rfl, ?_⟩
  · rw [List.getElem?_append_left (by simpa using hq), List.getElem?_set_ne (Ne.symm hn)]
  · rw [List.getElem?_append_right (by simp)]
    simp

/-- A literal of numbers, appended to what one has. -/
theorem HApp.litR {r : Nat} {h : Heap} {y : H0} {l : List Int} (m : List Int) {K : HV → Heap → Prop} (H : OwnR r h y l) (hl : l.length + m.length ≤ 2199023255552)
    (hK : ∀ h' r' y', But r h h' → h.length ≤ r' → OwnR r' h' y' (l ++ m) → K (.s y') h') : HApp (h ++ [.own (m.map ci)]) (.s y) (.s (.sl h.length 0 m.length)) K :=
  HApp.moreR (H.ext (Ext.push _ _)) (OwnR.push h m).ints hl (fun h' r' y' k k2 k3 => hK h' r' y' (But.ext (Ext.push _ _) k) (by simp at k2; omega) k3)

/-- A slice of ints, appended to a slice of such slices. -/
theorem HApp.snocM {hb h h2 : Heap} {z y : H0} {L : List (List Int)} {l : List Int} {K : HV → Heap → Prop} (E : Ext hb h) (O : OwnM hb.length h.length h z L) (E2 : Ext h h2) (F : Own h.length h2.length h2 y l) (hl : L.length < 2199023255552)
    (hK : ∀ h' z', Ext hb h' → OwnM hb.length h'.length h' z' (L ++ [l]) → K (.s z') h') : HApp (h2 ++ [.own [y]]) (.s z) (.s (.sl h2.length 0 1)) K := by
  have l1 := E.1
  have l2 := E2.1
  obtain ⟨r, ρ, rfl, hr1, hr2, hρ, m⟩ := O
  obtain ⟨q, t, rfl, hq1, hq2, hq⟩ := F
  obtain ⟨cs, ho, hcl, hoc⟩ := m.outer
  refine ⟨[.sl q 0 l.length], ?_, by simp [H0.one], cs, rfl, (Ext.push h2 _).row (E2.row ho), hcl, Or.inl ⟨by simp; omega, ?_⟩⟩
  · have := Shows.own h2.length 0 1 _ (get_new h2 (.own [.sl q 0 l.length])) (by simp)
    simpa using this
  have e1 : L.length + [H0.sl q 0 l.length].length = (L ++ [l]).length := by simp
  rw [e1]
  have old : ∀ p, p < h2.length → p ≠ r → ((h2 ++ [Row.own [.sl q 0 l.length]]).set r .gone ++ [Row.own (cs.take L.length ++ [.sl q 0 l.length])])[p]? = h2[p]? := fun p hp hn => by
    rw [List.getElem?_append_left (by simp; omega), List.getElem?_set_ne (Ne.symm hn), List.getElem?_append_left hp]
  have gd1 : ∀ i, i < L.length → (L ++ [l]).getD i [] = L.getD i [] := fun i hi => by
    simp only [List.getD]
    rw [List.getElem?_append_left hi]
  have gd2 : (L ++ [l]).getD L.length [] = l := by simp [List.getD]
  have hE : Ext hb ((h2 ++ [Row.own [.sl q 0 l.length]]).set r .gone ++ [Row.own (cs.take L.length ++ [.sl q 0 l.length])]) := ((((E.trans E2).pushed _).set hr1 _).pushed _)
  have hlen : ((h2 ++ [Row.own [.sl q 0 l.length]]).set r .gone ++ [Row.own (cs.take L.length ++ [.sl q 0 l.length])]).length = h2.length + 2 := by simp
  refine hK _ _ hE ⟨h2.length + 1, fun i => if i < L.length then ρ i else q, by simp, by omega, by rw [hlen]; omega, fun i hi => ?_, ⟨cs.take L.length ++ [.sl q 0 l.length], ?_, by simp; omega, fun i hi => ?_⟩, fun i hi => ?_, fun i hi => ?_, fun i j hij hj => ?_⟩
  · rw [hlen]
    by_cases hi2 : i < L.length
    · have := hρ i hi2
      simp only [hi2, if_true]
      omega
    · simp only [hi2, if_false]
      omega
  · rw [List.getElem?_append_right (by simp)]
    simp
  · by_cases hi2 : i < L.length
    · rw [List.getElem?_append_left (by simp; omega), List.getElem?_take_of_lt hi2, hoc i hi2, gd1 i hi2]
      simp [hi2]
    · have e : i = L.length := by simp at hi; omega
      subst e
      rw [gd2, List.getElem?_append_right (by simp; omega)]
      have : L.length - (cs.take L.length).length = 0 := by simp; omega
      rw [this]
      simp
  · by_cases hi2 : i < L.length
    · obtain ⟨t2, ht2⟩ := m.inner i hi2
      have hb2 := hρ i hi2
      have hne := m.ne i hi2
      refine ⟨t2, ?_⟩
      rw [gd1 i hi2, if_pos hi2, old _ (by omega) hne]
      exact E2.row ht2
    · have e : i = L.length := by simp at hi; omega
      subst e
      refine ⟨t, ?_⟩
      rw [gd2, if_neg (by omega), old _ (by omega) (by omega)]
      exact hq
  · by_cases hi2 : i < L.length
    · have := hρ i hi2
      simp only [hi2, if_true]
      omega
    · simp only [hi2, if_false]
      omega
  · have hj' : j ≤ L.length := by simp at hj; omega
    have hi2 : i < L.length := by omega
    have h1 := hρ i hi2
    by_cases hj2 : j < L.length
    · simp only [hi2, hj2, if_true]
      exact m.inj i j hij hj2
    · simp only [hi2, hj2, if_true, if_false]
      omega

/-- Nothing yet: a slice of slices without an entry. -/
theorem OwnM.none (h : Heap) : OwnM h.length (h ++ [Row.own []]).length (h ++ [Row.own []]) (.sl h.length 0 0) [] :=
  ⟨h.length, fun _ => 0, rfl, Nat.le_refl _, by simp, fun i hi => by simp at hi, ⟨[], get_new _ _, Nat.le_refl _, fun i hi => by simp at hi⟩, fun i hi => by simp at hi, fun i hi => by simp at hi, fun i j _ hj => by simp at hj⟩

theorem OwnM.widen {b e e' : Nat} {h : Heap} {x : H0} {L : List (List Int)} (H : OwnM b e h x L) (k : e ≤ e') : OwnM b e' h x L := by
  obtain ⟨r, ρ, g1, g2, g3, g4, m⟩ := H
  exact ⟨r, ρ, g1, g2, by omega, fun i hi => by have := g4 i hi; omega, m⟩

theorem HLit.row {z : Value} {y : H0} {h : Heap} {K : HV → Heap → Prop} (h1 : y.one = true) (hK : K (.s (.sl h.length 0 1)) (h ++ [.own [y]])) : HLit z 1 (some [y]) h K := ⟨[y], rfl, rfl, by omega, by simpa using h1, hK⟩
theorem Own.one {b e : Nat} {h : Heap} {x : H0} {l : List Int} (H : Own b e h x l) : x.one = true := by
  obtain ⟨r, t, rfl, _⟩ := H
  rfl

end Go.Proofs.YtgliajcgcbnemaaGreatDoor.Hx

namespace Go.Proofs.YtgliajcgcbnemaaGreatDoor.Hx
open Go.RowKit
variable {dm : Bool}

/-- A text as a slot's value, as a cell. -/
abbrev Tx (l : List UInt8) : HV := .s (.pl (.string ⟨l.toArray⟩))
abbrev stc (l : List UInt8) : H0 := .pl (.string ⟨l.toArray⟩)

theorem bytes_app (a b : List UInt8) : (⟨a.toArray⟩ : ByteArray) ++ ⟨b.toArray⟩ = ⟨(a ++ b).toArray⟩ := by
  apply ByteArray.ext
  simp
theorem HStr.add {a b : List UInt8} {K : HV → Prop} (hl : a.length + b.length ≤ 9223372036854775807) (hK : K (Tx (a ++ b))) : HStr .add ⟨a.toArray⟩ ⟨b.toArray⟩ K :=
  ⟨.string ⟨(a ++ b).toArray⟩, fun P w => by
    have h : ¬ (((⟨a.toArray⟩ : ByteArray).size + (⟨b.toArray⟩ : ByteArray).size : Nat) : Int) > IntKind.i64.max := by
      have e1 : (⟨a.toArray⟩ : ByteArray).size = a.length := by simp [ByteArray.size]
      have e2 : (⟨b.toArray⟩ : ByteArray).size = b.length := by simp [ByteArray.size]
      rw [e1, e2, show IntKind.i64.max = 9223372036854775807 from rfl]
      omega
    simp only [Op.stringOp, if_neg h, bytes_app]
    rfl, hK⟩
theorem HStr.neqS {a b : List UInt8} {K : HV → Prop} (hK : K (B (!(a == b)))) : HStr .neq ⟨a.toArray⟩ ⟨b.toArray⟩ K :=
  ⟨.bool (!(a == b)), fun P w => by
    have e : ((⟨a.toArray⟩ : ByteArray).toList == (⟨b.toArray⟩ : ByteArray).toList) = (a == b) := by
      simp
    simp only [Op.stringOp, e]
    rfl, hK⟩

/-! ### Digits -/

theorem tmod10 (m : Int) : (m.tmod 10 < 0 → 0 - m.tmod 10 = ((m.natAbs % 10 : Nat) : Int)) ∧ (¬ m.tmod 10 < 0 → m.tmod 10 = ((m.natAbs % 10 : Nat) : Int)) := by
  cases m with
  | ofNat a =>
    have e : (Int.ofNat a).tmod 10 = ((a % 10 : Nat) : Int) := rfl
    have hn : (Int.ofNat a).natAbs = a := rfl
    have ho : Int.ofNat a = (a : Int) := rfl
    rw [e, hn]
    try rw [ho]
    omega
  | negSucc a =>
    have e : (Int.negSucc a).tmod 10 = -(((a + 1) % 10 : Nat) : Int) := rfl
    have hn : (Int.negSucc a).natAbs = a + 1 := rfl
    rw [e, hn]
    omega
theorem tdiv10 (m : Int) : (m.tdiv 10).natAbs = m.natAbs / 10 ∧ (0 ≤ m → 0 ≤ m.tdiv 10) ∧ (m ≤ 0 → m.tdiv 10 ≤ 0) := by
  cases m with
  | ofNat a =>
    have e : (Int.ofNat a).tdiv 10 = ((a / 10 : Nat) : Int) := rfl
    have hn : (Int.ofNat a).natAbs = a := rfl
    have ho : Int.ofNat a = (a : Int) := rfl
    rw [e, hn]
    try rw [ho]
    omega
  | negSucc a =>
    have e : (Int.negSucc a).tdiv 10 = -(((a + 1) / 10 : Nat) : Int) := rfl
    have hn : (Int.negSucc a).natAbs = a + 1 := rfl
    rw [e, hn]
    omega

/-- What is still to be written of a number, and what is there. -/
def restD (u : Nat) (out : List UInt8) : List UInt8 := if u = 0 then out else Lib.decDigits u ++ out
theorem restD_step {u : Nat} (h : u ≠ 0) (out : List UInt8) : restD (u / 10) (UInt8.ofNat (48 + u % 10) :: out) = restD u out := by
  unfold restD
  rw [if_neg h]
  by_cases h10 : u < 10
  · rw [if_pos (by omega), Lib.decDigits, dif_pos h10, Nat.mod_eq_of_lt h10]
    rfl
  · rw [if_neg (by omega)]
    conv => rhs; rw [Lib.decDigits, dif_neg h10]
    simp
theorem restD_len (u : Nat) (out : List UInt8) : out.length ≤ (restD u out).length := by
  unfold restD
  split
  · exact Nat.le_refl _
  · simp
theorem digit_wrap (d : Nat) (h : d < 10) : IntKind.u8.wrap (48 + (d : Int)) = ((UInt8.ofNat (48 + d)).toNat : Int) := by
  have : d = 0 ∨ d = 1 ∨ d = 2 ∨ d = 3 ∨ d = 4 ∨ d = 5 ∨ d = 6 ∨ d = 7 ∨ d = 8 ∨ d = 9 := by omega
  rcases this with rfl | rfl | rfl | rfl | rfl | rfl | rfl | rfl | rfl | rfl <;> decide

/-- A weight's text; the text of a list of roots. -/
def fmtV (v : List Int) : List UInt8 := Lib.join (v.map Lib.itoa) [44]
def fmtR (L : List (List Int)) : List UInt8 := if L.length = 0 then [110, 111, 110, 101] else Lib.join (L.map fmtV) [32]

theorem join_snoc {xs : List (List UInt8)} (x sep : List UInt8) (h : xs ≠ []) : Lib.join (xs ++ [x]) sep = Lib.join xs sep ++ sep ++ x := by
  cases xs with
  | nil => exact absurd rfl h
  | cons y r => simp [Lib.join_cons, Lib.joinTail]
theorem join_take {α : Type} (f : α → List UInt8) (sep : List UInt8) (xs : List α) {k : Nat} (h : k < xs.length) (h0 : 0 < k) : Lib.join ((xs.take (k + 1)).map f) sep = Lib.join ((xs.take k).map f) sep ++ sep ++ f xs[k] := by
  rw [List.take_succ_eq_append_getElem h, List.map_append, List.map_singleton, join_snoc _ _ (by
    intro e
    have := congrArg List.length e
    simp only [List.length_map, List.length_take, List.length_nil] at this
    omega)]
theorem join_first {α : Type} (f : α → List UInt8) (sep : List UInt8) (xs : List α) (h : 0 < xs.length) : Lib.join ((xs.take 1).map f) sep = f xs[0] := by
  cases xs with
  | nil => simp at h
  | cons y r => simp [Lib.join_one]
theorem join_le (sep : List UInt8) {b : Nat} (hs : sep.length ≤ 1) : ∀ (xs : List (List UInt8)), (∀ x ∈ xs, x.length ≤ b) → (Lib.join xs sep).length ≤ (b + 1) * xs.length
  | [], _ => by simp [Lib.join_nil]
  | x :: r, h => by
    rw [Lib.join_cons, List.length_append, Lib.joinTail]
    have hr : ∀ (r : List (List UInt8)), (∀ x ∈ r, x.length ≤ b) → ((r.map (sep ++ ·)).flatten).length ≤ (b + 1) * r.length := by
      intro r
      induction r with
      | nil => simp
      | cons y t ih =>
        intro h
        have h1 := h y (by simp)
        have h2 := ih fun z hz => h z (by simp [hz])
        simp only [List.map_cons, List.flatten_cons, List.length_append, List.length_cons, Nat.mul_add]
        omega
    have h1 := h x (by simp)
    have h2 := hr r fun z hz => h z (by simp [hz])
    simp only [List.length_cons, Nat.mul_add]
    omega

def absAt (vs : List HV) (k : Nat) : Nat := match vs[k]? with
  | some (HV.s (H0.pl (Value.int _ m))) => m.natAbs
  | _ => 0

def I64 (n : Int) : Prop := -9223372036854775808 ≤ n ∧ n ≤ 9223372036854775807

theorem itoa_le {n : Int} (h : I64 n) : (Lib.itoa n).length ≤ 21 := Lib.itoa_length_le n h.1 h.2
theorem fmtV_le {v : List Int} (h : ∀ x ∈ v, I64 x) : (fmtV v).length ≤ 22 * v.length := by
  unfold fmtV
  have := join_le (b := 21) [44] (by simp) (v.map Lib.itoa) (fun x hx => by
    obtain ⟨n, hn, rfl⟩ := List.mem_map.1 hx
    exact itoa_le (h n hn))
  simpa using this


set_option maxHeartbeats 1000000 in
theorem spec_FormatInt (h : Heap) (n : Int) (hn : I64 n) : HCalls dm Tryz.prog 127 [I n] h (fun r h' => r = Tx (Lib.itoa n) ∧ Ext h h') := by
  obtain ⟨hn1, hn2⟩ := hn
  have htot : (Lib.decDigits n.natAbs).length ≤ 20 := by
    rw [Lib.decDigits_length]
    exact Lib.nDigits_le20 _ (by omega)
  refine calls_of_hFun (m := 0) kd_ok mixed Tryz.func127 rfl (by kernel_rfl) rfl rfl (of_decide_eq_true rfl) ?_; unfold hFun; (conv => whnf)
  refine HIf.beq (fun h0 => ?_) (fun h0 => ?_)
  · (conv => whnf)
    refine ⟨?_, Ext.refl h⟩
    subst h0
    rw [show Lib.itoa 0 = [48] by simp [Lib.itoa, Lib.decDigits_one]]
    rfl
  (conv => whnf)
  have start : restD n.natAbs [] = Lib.decDigits n.natAbs := by
    unfold restD
    rw [if_neg (by omega), List.append_nil]
  refine HLoop.intro [0, 3] [10, 11, 12, 13, 5, 14, 15, 16, 17, 5, 18, 19, 20, 21, 22, 23, 24, 3, 25, 26, 0] (by kernel_rfl) (by kernel_rfl) (fun vs h' => ∃ (m : Int) (out : List UInt8), vs = [I m, .s (stc out)] ∧ Ext h h' ∧ m.natAbs ≤ n.natAbs ∧ (0 ≤ n → 0 ≤ m) ∧ (n ≤ 0 → m ≤ 0) ∧ restD m.natAbs out = Lib.decDigits n.natAbs) (fun vs _ => absAt vs 0) ⟨n, [], rfl, Ext.refl h, Nat.le_refl _, fun e => e, fun e => e, start⟩ ?_
  clear start
  rintro vs h' ⟨m, out, rfl, E, hm, hp, hg, hr⟩
  have hol := restD_len m.natAbs out
  rw [hr] at hol
  (conv => whnf)
  refine HIf.bne (fun hm0 => ?_) (fun hm0 => ?_)
  · have hst := restD_step (u := m.natAbs) (by omega) out
    rw [hr] at hst
    obtain ⟨hdv, hdp, hdn⟩ := tdiv10 m
    obtain ⟨t1, t2⟩ := tmod10 m
    have hlt : m.natAbs % 10 < 10 := Nat.mod_lt _ (by decide)
    have hdw := digit_wrap (m.natAbs % 10) hlt
    have hb1 : (m.tdiv 10).natAbs < m.natAbs := by rw [hdv]; omega
    rw [← hdv] at hst
    generalize m.natAbs % 10 = d at *
    have go : ∀ (K : HV → Prop), (K (I (d : Int))) → True := fun _ _ => trivial
    clear go
    (conv => whnf)
    refine HRem.of (by decide) ?_
    (conv => whnf)
    refine HIf.dec (fun hneg => ?_) (fun hpos => ?_)
    · have e1 := t1 hneg
      (conv => whnf)
      refine HArith.fits (by omega) (by omega) ?_
      rw [e1]
      (conv => whnf)
      refine HArith.fits (by omega) (by omega) ?_
      (conv => whnf)
      refine ⟨.i64, _, rfl, ?_⟩
      rw [hdw]
      (conv => whnf)
      refine HLit.row rfl ?_
      (conv => whnf)
      refine ⟨5, [UInt8.ofNat (48 + d)], by kernel_rfl, by kernel_rfl, by kernel_rfl, ?_, ?_⟩
      · exact Shows.own h'.length 0 1 _ (get_new _ _) (by simp)
      (conv => whnf)
      refine HStr.add (a := [UInt8.ofNat (48 + d)]) (b := out) (by simp; omega) ?_
      (conv => whnf)
      refine HQuo.of (by decide) ?_
      have hw : IntKind.i64.wrap (m.tdiv 10) = m.tdiv 10 := IntWalk.i64_in _ ⟨by omega, by omega⟩
      rw [hw]
      (conv => whnf)
      exact ⟨⟨m.tdiv 10, _, rfl, E.pushed _, by omega, fun e => hdp (hp e), fun e => hdn (hg e), hst⟩, hb1⟩
    · have e1 := t2 hpos
      rw [e1]
      (conv => whnf)
      refine HArith.fits (by omega) (by omega) ?_
      (conv => whnf)
      refine ⟨.i64, _, rfl, ?_⟩
      rw [hdw]
      (conv => whnf)
      refine HLit.row rfl ?_
      (conv => whnf)
      refine ⟨5, [UInt8.ofNat (48 + d)], by kernel_rfl, by kernel_rfl, by kernel_rfl, ?_, ?_⟩
      · exact Shows.own h'.length 0 1 _ (get_new _ _) (by simp)
      (conv => whnf)
      refine HStr.add (a := [UInt8.ofNat (48 + d)]) (b := out) (by simp; omega) ?_
      (conv => whnf)
      refine HQuo.of (by decide) ?_
      have hw : IntKind.i64.wrap (m.tdiv 10) = m.tdiv 10 := IntWalk.i64_in _ ⟨by omega, by omega⟩
      rw [hw]
      (conv => whnf)
      exact ⟨⟨m.tdiv 10, _, rfl, E.pushed _, by omega, fun e => hdp (hp e), fun e => hdn (hg e), hst⟩, hb1⟩
  · subst hm0
    have ho : out = Lib.decDigits n.natAbs := by
      rw [← hr]
      rfl
    subst ho
    (conv => whnf)
    refine HIf.dec (fun hneg => ?_) (fun hpos => ?_)
    · (conv => whnf)
      refine HStr.add (a := [45]) (by simp; omega) ?_
      (conv => whnf)
      refine ⟨?_, E⟩
      rw [Lib.itoa, if_pos hneg]
      rfl
    · (conv => whnf)
      refine ⟨?_, E⟩
      rw [Lib.itoa, if_neg hpos, show n.toNat = n.natAbs by omega]
      rfl

end Go.Proofs.YtgliajcgcbnemaaGreatDoor.Hx

namespace Go.Proofs.YtgliajcgcbnemaaGreatDoor.Hx

abbrev Pos := Nat → Int

/-- The step at i. -/
def sr (c : Nat → Nat → Int) (i : Nat) (v : Pos) : Pos := fun k => v k - v i * c k i

/-- n steps, each at a negative number, lead from v to ones. -/
inductive Play (N : Nat) (c : Nat → Nat → Int) : Nat → Pos → Prop where
  | done {v : Pos} (h : ∀ i, i < N → v i = 1) : Play N c 0 v
  | step {n : Nat} {v : Pos} (i : Nat) (hi : i < N) (h : v i < 0) (p : Play N c n (sr c i v)) : Play N c (n + 1) v

structure MatOk (N : Nat) (c : Nat → Nat → Int) : Prop where
  diag : ∀ i, i < N → c i i = 2
  off : ∀ i j, i < N → j < N → i ≠ j → -3 ≤ c i j ∧ c i j ≤ 0
  zero : ∀ i j, i < N → j < N → c i j = 0 → c j i = 0

theorem sr_at {c : Nat → Nat → Int} {i : Nat} (d : c i i = 2) (v : Pos) : sr c i v i = - v i := by
  unfold sr
  rw [d]
  omega

theorem sr_sr {c : Nat → Nat → Int} {i : Nat} (d : c i i = 2) (v : Pos) : sr c i (sr c i v) = v := by
  funext k
  show sr c i v k - sr c i v i * c k i = v k
  rw [sr_at d]
  unfold sr
  rw [Int.neg_mul]
  omega

theorem Play.up {N : Nat} {c : Nat → Nat → Int} (M : MatOk N c) {n i : Nat} {v : Pos} (p : Play N c n v) (hi : i < N) (h : 0 < v i) : Play N c (n + 1) (sr c i v) :=
  .step i hi (by rw [sr_at (M.diag i hi)]; omega) (by rw [sr_sr (M.diag i hi)]; exact p)

/-- Where steps at i and j alone lead. -/
def cb (c : Nat → Nat → Int) (i j : Nat) (v : Pos) (a b : Int) : Pos := fun k => v k - a * c k i - b * c k j

theorem cb_none (c : Nat → Nat → Int) (i j : Nat) (v : Pos) : cb c i j v 0 0 = v := by
  funext k
  simp [cb]
theorem cb_i (c : Nat → Nat → Int) (i j : Nat) (v : Pos) (a b a' : Int) (h : a' = a + cb c i j v a b i) : sr c i (cb c i j v a b) = cb c i j v a' b := by
  funext k
  show cb c i j v a b k - cb c i j v a b i * c k i = cb c i j v a' b k
  have : cb c i j v a b i = a' - a := by omega
  rw [this]
  simp only [cb, Int.sub_mul]
  omega
theorem cb_j (c : Nat → Nat → Int) (i j : Nat) (v : Pos) (a b b' : Int) (h : b' = b + cb c i j v a b j) : sr c j (cb c i j v a b) = cb c i j v a b' := by
  funext k
  show cb c i j v a b k - cb c i j v a b j * c k j = cb c i j v a b' k
  have : cb c i j v a b j = b' - b := by omega
  rw [this]
  simp only [cb, Int.sub_mul]
  omega

def Good (N : Nat) (c : Nat → Nat → Int) (n : Nat) (v : Pos) : Prop := ∀ i, i < N → v i ≠ 0 ∧ (v i < 0 → ∃ m, n = m + 1 ∧ Play N c m (sr c i v))

theorem play_inf {N : Nat} {c : Nat → Nat → Int} (M : MatOk N c) (n : Nat) (IH : ∀ m, m ≤ n → ∀ v, Play N c m v → Good N c m v) :
    ∀ k, k ≤ n → ∀ (v : Pos) (i j : Nat), Play N c k v → i < N → j < N → (c i j ≤ -2 ∧ c j i ≤ -2) → -3 ≤ c i j → -3 ≤ c j i → v i < 0 → 0 < v j → - c i j * v j ≤ 2 * (- v i) → False := by
  intro k
  induction k with
  | zero =>
    intro _ v i j p hi _ _ _ _ h1 _ _
    obtain ⟨m, hm, _⟩ := (IH 0 (by omega) v p i hi).2 h1
    omega
  | succ k ih =>
    intro hk v i j p hi hj hc h3 h4 h1 h2 hb
    obtain ⟨m, hm, q⟩ := (IH (k + 1) hk v p i hi).2 h1
    have : m = k := by omega
    subst this
    refine ih (by omega) (sr c i v) j i q hj hi ⟨hc.2, hc.1⟩ h4 h3 ?_ ?_ ?_
    · show v j - v i * c j i < 0
      have e1 : c i j = -2 ∨ c i j = -3 := by omega
      have e2 : c j i = -2 ∨ c j i = -3 := by omega
      rcases e1 with e1 | e1 <;> rcases e2 with e2 | e2 <;> rw [e1] at hb <;> rw [e2] <;> omega
    · rw [sr_at (M.diag i hi)]
      omega
    · rw [sr_at (M.diag i hi)]
      show - c j i * - v i ≤ 2 * -(v j - v i * c j i)
      have e1 : c i j = -2 ∨ c i j = -3 := by omega
      have e2 : c j i = -2 ∨ c j i = -3 := by omega
      rcases e1 with e1 | e1 <;> rcases e2 with e2 | e2 <;> rw [e1] at hb <;> rw [e2] <;> omega

section
variable {N : Nat} {c : Nat → Nat → Int} {n i j : Nat} {v : Pos}

theorem down_i (M : MatOk N c) (IH : ∀ m, m ≤ n → ∀ v, Play N c m v → Good N c m v) (hi : i < N) (a b a' : Int) {m : Nat} (hm : m ≤ n) (p : Play N c m (cb c i j v a b)) (h : a' - a = v i - 2 * a - b * c i j) (hl : a' ≤ a) :
    a' < a ∧ ∃ k, m = k + 1 ∧ Play N c k (cb c i j v a' b) := by
  have e : cb c i j v a b i = a' - a := by
    show v i - a * c i i - b * c i j = a' - a
    rw [M.diag i hi]
    omega
  have g := IH m hm _ p i hi
  rw [e] at g
  refine ⟨by omega, ?_⟩
  obtain ⟨k, hk, q⟩ := g.2 (by omega)
  rw [cb_i c i j v a b a' (by omega)] at q
  exact ⟨k, hk, q⟩
theorem down_j (M : MatOk N c) (IH : ∀ m, m ≤ n → ∀ v, Play N c m v → Good N c m v) (hj : j < N) (a b b' : Int) {m : Nat} (hm : m ≤ n) (p : Play N c m (cb c i j v a b)) (h : b' - b = v j - a * c j i - 2 * b) (hl : b' ≤ b) :
    b' < b ∧ ∃ k, m = k + 1 ∧ Play N c k (cb c i j v a b') := by
  have e : cb c i j v a b j = b' - b := by
    show v j - a * c j i - b * c j j = b' - b
    rw [M.diag j hj]
    omega
  have g := IH m hm _ p j hj
  rw [e] at g
  refine ⟨by omega, ?_⟩
  obtain ⟨k, hk, q⟩ := g.2 (by omega)
  rw [cb_j c i j v a b b' (by omega)] at q
  exact ⟨k, hk, q⟩
theorem up_i (M : MatOk N c) (hi : i < N) (a b a' : Int) {m : Nat} (p : Play N c m (cb c i j v a b)) (h : a' - a = v i - 2 * a - b * c i j) (hl : a < a') : Play N c (m + 1) (cb c i j v a' b) := by
  have e : cb c i j v a b i = a' - a := by
    show v i - a * c i i - b * c i j = a' - a
    rw [M.diag i hi]
    omega
  have := p.up M hi (by rw [e]; omega)
  rwa [cb_i c i j v a b a' (by omega)] at this
theorem up_j (M : MatOk N c) (hj : j < N) (a b b' : Int) {m : Nat} (p : Play N c m (cb c i j v a b)) (h : b' - b = v j - a * c j i - 2 * b) (hl : b < b') : Play N c (m + 1) (cb c i j v a b') := by
  have e : cb c i j v a b j = b' - b := by
    show v j - a * c j i - b * c j j = b' - b
    rw [M.diag j hj]
    omega
  have := p.up M hj (by rw [e]; omega)
  rwa [cb_j c i j v a b b' (by omega)] at this

theorem sr_cb (c : Nat → Nat → Int) (i j : Nat) (v : Pos) : sr c i v = cb c i j v (v i) 0 := by
  funext k
  simp [cb, sr]
theorem sr_cb' (c : Nat → Nat → Int) (i j : Nat) (v : Pos) : sr c j v = cb c i j v 0 (v j) := by
  funext k
  simp [cb, sr]

theorem play_pair (M : MatOk N c) (IH : ∀ m, m ≤ n → ∀ v, Play N c m v → Good N c m v) (hi : i < N) (hj : j < N) (hij : i ≠ j) (hb : v j < 0) (p : Play N c n (sr c j v)) (ha : v i ≤ 0) :
    v i < 0 ∧ Play N c n (sr c i v) := by
  have o1 := M.off i j hi hj hij
  have o2 := M.off j i hj hi (Ne.symm hij)
  have z1 := M.zero i j hi hj
  have z2 := M.zero j i hj hi
  by_cases inf : c i j ≤ -2 ∧ c j i ≤ -2
  · exfalso
    refine play_inf M n IH n (Nat.le_refl _) (sr c j v) i j p hi hj inf o1.1 o2.1 ?_ ?_ ?_
    · show v i - v j * c i j < 0
      have e1 : c i j = -2 ∨ c i j = -3 := by omega
      rcases e1 with e1 | e1 <;> rw [e1] <;> omega
    · rw [sr_at (M.diag j hj)]
      omega
    · rw [sr_at (M.diag j hj)]
      show - c i j * - v j ≤ 2 * - (v i - v j * c i j)
      have e1 : c i j = -2 ∨ c i j = -3 := by omega
      rcases e1 with e1 | e1 <;> rw [e1] <;> omega
  rw [sr_cb' c i j v] at p
  rw [sr_cb c i j v]
  generalize hA : v i = a at *
  generalize hB : v j = b at *
  have fin : (c i j = 0 ∧ c j i = 0) ∨ (c i j = -1 ∧ c j i = -1) ∨ (c i j = -2 ∧ c j i = -1) ∨ (c i j = -1 ∧ c j i = -2) ∨ (c i j = -3 ∧ c j i = -1) ∨ (c i j = -1 ∧ c j i = -3) := by omega
  rcases fin with ⟨e1, e2⟩ | ⟨e1, e2⟩ | ⟨e1, e2⟩ | ⟨e1, e2⟩ | ⟨e1, e2⟩ | ⟨e1, e2⟩
  · obtain ⟨d1, k1, m1, p⟩ := down_i M IH hi 0 b a (by omega) p (by rw [e1, hA]; omega) (by omega)
    refine ⟨by omega, ?_⟩
    have p := up_j M hj a b 0 p (by rw [e2, hB]; omega) (by omega)
    rw [m1]
    exact p
  · obtain ⟨d1, k1, m1, p⟩ := down_i M IH hi 0 b (a + b) (by omega) p (by rw [e1, hA]; omega) (by omega)
    obtain ⟨d2, k2, m2, p⟩ := down_j M IH hj (a + b) b (a + b) (by omega) p (by rw [e2, hB]; omega) (by omega)
    refine ⟨by omega, ?_⟩
    have p := up_i M hi (a + b) (a + b) a p (by rw [e1, hA]; omega) (by omega)
    have p := up_j M hj a (a + b) 0 p (by rw [e2, hB]; omega) (by omega)
    rw [m1, m2]
    exact p
  · obtain ⟨d1, k1, m1, p⟩ := down_i M IH hi 0 b (a + 2 * b) (by omega) p (by rw [e1, hA]; omega) (by omega)
    obtain ⟨d2, k2, m2, p⟩ := down_j M IH hj (a + 2 * b) b (a + 2 * b) (by omega) p (by rw [e2, hB]; omega) (by omega)
    obtain ⟨d3, k3, m3, p⟩ := down_i M IH hi (a + 2 * b) (a + 2 * b) (2 * a + 2 * b) (by omega) p (by rw [e1, hA]; omega) (by omega)
    refine ⟨by omega, ?_⟩
    have p := up_j M hj (2 * a + 2 * b) (a + 2 * b) (a + b) p (by rw [e2, hB]; omega) (by omega)
    have p := up_i M hi (2 * a + 2 * b) (a + b) a p (by rw [e1, hA]; omega) (by omega)
    have p := up_j M hj a (a + b) 0 p (by rw [e2, hB]; omega) (by omega)
    rw [m1, m2, m3]
    exact p
  · obtain ⟨d1, k1, m1, p⟩ := down_i M IH hi 0 b (a + b) (by omega) p (by rw [e1, hA]; omega) (by omega)
    obtain ⟨d2, k2, m2, p⟩ := down_j M IH hj (a + b) b (2 * a + 2 * b) (by omega) p (by rw [e2, hB]; omega) (by omega)
    obtain ⟨d3, k3, m3, p⟩ := down_i M IH hi (a + b) (2 * a + 2 * b) (2 * a + b) (by omega) p (by rw [e1, hA]; omega) (by omega)
    refine ⟨by omega, ?_⟩
    have p := up_j M hj (2 * a + b) (2 * a + 2 * b) (2 * a + b) p (by rw [e2, hB]; omega) (by omega)
    have p := up_i M hi (2 * a + b) (2 * a + b) a p (by rw [e1, hA]; omega) (by omega)
    have p := up_j M hj a (2 * a + b) 0 p (by rw [e2, hB]; omega) (by omega)
    rw [m1, m2, m3]
    exact p
  · obtain ⟨d1, k1, m1, p⟩ := down_i M IH hi 0 b (a + 3 * b) (by omega) p (by rw [e1, hA]; omega) (by omega)
    obtain ⟨d2, k2, m2, p⟩ := down_j M IH hj (a + 3 * b) b (a + 3 * b) (by omega) p (by rw [e2, hB]; omega) (by omega)
    obtain ⟨d3, k3, m3, p⟩ := down_i M IH hi (a + 3 * b) (a + 3 * b) (3 * a + 6 * b) (by omega) p (by rw [e1, hA]; omega) (by omega)
    obtain ⟨d4, k4, m4, p⟩ := down_j M IH hj (3 * a + 6 * b) (a + 3 * b) (2 * a + 4 * b) (by omega) p (by rw [e2, hB]; omega) (by omega)
    obtain ⟨d5, k5, m5, p⟩ := down_i M IH hi (3 * a + 6 * b) (2 * a + 4 * b) (4 * a + 6 * b) (by omega) p (by rw [e1, hA]; omega) (by omega)
    refine ⟨by omega, ?_⟩
    have p := up_j M hj (4 * a + 6 * b) (2 * a + 4 * b) (2 * a + 3 * b) p (by rw [e2, hB]; omega) (by omega)
    have p := up_i M hi (4 * a + 6 * b) (2 * a + 3 * b) (3 * a + 3 * b) p (by rw [e1, hA]; omega) (by omega)
    have p := up_j M hj (3 * a + 3 * b) (2 * a + 3 * b) (a + b) p (by rw [e2, hB]; omega) (by omega)
    have p := up_i M hi (3 * a + 3 * b) (a + b) a p (by rw [e1, hA]; omega) (by omega)
    have p := up_j M hj a (a + b) 0 p (by rw [e2, hB]; omega) (by omega)
    rw [m1, m2, m3, m4, m5]
    exact p
  · obtain ⟨d1, k1, m1, p⟩ := down_i M IH hi 0 b (a + b) (by omega) p (by rw [e1, hA]; omega) (by omega)
    obtain ⟨d2, k2, m2, p⟩ := down_j M IH hj (a + b) b (3 * a + 3 * b) (by omega) p (by rw [e2, hB]; omega) (by omega)
    obtain ⟨d3, k3, m3, p⟩ := down_i M IH hi (a + b) (3 * a + 3 * b) (3 * a + 2 * b) (by omega) p (by rw [e1, hA]; omega) (by omega)
    obtain ⟨d4, k4, m4, p⟩ := down_j M IH hj (3 * a + 2 * b) (3 * a + 3 * b) (6 * a + 4 * b) (by omega) p (by rw [e2, hB]; omega) (by omega)
    obtain ⟨d5, k5, m5, p⟩ := down_i M IH hi (3 * a + 2 * b) (6 * a + 4 * b) (4 * a + 2 * b) (by omega) p (by rw [e1, hA]; omega) (by omega)
    refine ⟨by omega, ?_⟩
    have p := up_j M hj (4 * a + 2 * b) (6 * a + 4 * b) (6 * a + 3 * b) p (by rw [e2, hB]; omega) (by omega)
    have p := up_i M hi (4 * a + 2 * b) (6 * a + 3 * b) (3 * a + b) p (by rw [e1, hA]; omega) (by omega)
    have p := up_j M hj (3 * a + b) (6 * a + 3 * b) (3 * a + b) p (by rw [e2, hB]; omega) (by omega)
    have p := up_i M hi (3 * a + b) (3 * a + b) a p (by rw [e1, hA]; omega) (by omega)
    have p := up_j M hj a (3 * a + b) 0 p (by rw [e2, hB]; omega) (by omega)
    rw [m1, m2, m3, m4, m5]
    exact p
end

theorem play_good {N : Nat} {c : Nat → Nat → Int} (M : MatOk N c) : ∀ (n : Nat) (v : Pos), Play N c n v → Good N c n v := by
  intro n
  induction n using Nat.strongRecOn with
  | ind n ih =>
    intro v p i hi
    cases p with
    | done h =>
      rw [h i hi]
      exact ⟨by decide, fun h => absurd h (by decide)⟩
    | step j hj hb p =>
      rename_i n
      by_cases e : i = j
      · subst e
        exact ⟨by omega, fun _ => ⟨n, rfl, p⟩⟩
      · by_cases ha : v i ≤ 0
        · obtain ⟨h1, h2⟩ := play_pair M (fun m hm => ih m (by omega)) hi hj e hb p ha
          exact ⟨by omega, fun _ => ⟨n, rfl, h2⟩⟩
        · exact ⟨by omega, fun h => absurd h (by omega)⟩

theorem Play.down {N : Nat} {c : Nat → Nat → Int} (M : MatOk N c) {n i : Nat} {v : Pos} (p : Play N c n v) (hi : i < N) (h : v i < 0) : ∃ m, n = m + 1 ∧ Play N c m (sr c i v) := (play_good M n v p i hi).2 h
theorem Play.ne {N : Nat} {c : Nat → Nat → Int} (M : MatOk N c) {n i : Nat} {v : Pos} (p : Play N c n v) (hi : i < N) : v i ≠ 0 := (play_good M n v p i hi).1

/-- Whatever step: at most one more. -/
theorem Play.any {N : Nat} {c : Nat → Nat → Int} (M : MatOk N c) {n i : Nat} {v : Pos} (p : Play N c n v) (hi : i < N) : ∃ m, m ≤ n + 1 ∧ Play N c m (sr c i v) := by
  by_cases h : v i < 0
  · obtain ⟨m, hm, q⟩ := p.down M hi h
    exact ⟨m, by omega, q⟩
  · have := p.ne M hi
    exact ⟨n + 1, Nat.le_refl _, p.up M hi (by omega)⟩

theorem Play.stop {N : Nat} {c : Nat → Nat → Int} {n : Nat} {v : Pos} (p : Play N c n v) (h : ∀ i, i < N → 0 ≤ v i) : n = 0 ∧ ∀ i, i < N → v i = 1 := by
  cases p with
  | done h => exact ⟨rfl, h⟩
  | step i hi hl _ => exact absurd (h i hi) (by omega)

theorem Play.size {N : Nat} {c : Nat → Nat → Int} (M : MatOk N c) {n : Nat} {v : Pos} (p : Play N c n v) : ∀ k, k < N → - (4 ^ n : Nat) ≤ v k ∧ v k ≤ (4 ^ n : Nat) := by
  induction p with
  | done h =>
    intro k hk
    rw [h k hk]
    decide
  | @step n v i hi hl p ih =>
    intro k hk
    have h1 := ih k hk
    have h2 := ih i hi
    rw [sr_at (M.diag i hi)] at h2
    have e : (4 ^ (n + 1) : Nat) = 4 * 4 ^ n := by rw [Nat.pow_succ, Nat.mul_comm]
    rw [e]
    generalize (4 ^ n : Nat) = b at *
    by_cases e : k = i
    · subst e
      omega
    · have o := M.off k i hk hi e
      have h3 : - (b : Int) ≤ v k - v i * c k i ∧ v k - v i * c k i ≤ b := h1
      have f : c k i = 0 ∨ c k i = -1 ∨ c k i = -2 ∨ c k i = -3 := by omega
      rcases f with f | f | f | f <;> rw [f] at h3 <;> omega

end Go.Proofs.YtgliajcgcbnemaaGreatDoor.Hx

namespace Go.Proofs.YtgliajcgcbnemaaGreatDoor.Hx
open Go.RowKit
variable {dm : Bool}

theorem HApp.snocR {r : Nat} {h : Heap} {y : H0} {l : List Int} {v : Int} {K : HV → Heap → Prop} (H : OwnR r h y l) (hl : l.length < 2199023255552)
    (hK : ∀ h' r' y', But r h h' → h.length ≤ r' → OwnR r' h' y' (l ++ [v]) → K (.s y') h') : HApp (h ++ [.own [ci v]]) (.s y) (.s (.sl h.length 0 1)) K :=
  HApp.litR [v] H (by simp; omega) hK

/-- A list without its entry at a place, if there is one. -/
def del (l : List Int) (n : Int) : List Int := if 0 ≤ n then l.eraseIdx n.toNat else l

/-- The first i and the last i numbers have changed places. -/
def revTo (l : List Int) (i : Nat) : List Int := (List.range l.length).map fun k => if k < i ∨ l.length ≤ k + i then l.getD (l.length - 1 - k) 0 else l.getD k 0

end Go.Proofs.YtgliajcgcbnemaaGreatDoor.Hx

namespace Go.Proofs.YtgliajcgcbnemaaGreatDoor.Hx
open Go.RowKit
variable {dm : Bool}

def softRow : Row → Row
  | .ro _ => .gone
  | x => x

theorem HArith.to {e e' : Int} {K : HV → Prop} (h : e = e') (h1 : -9223372036854775808 ≤ e') (h2 : e' ≤ 9223372036854775807) (hK : K (I e')) : HArith .i64 e K := by
  subst h
  exact HArith.fits h1 h2 hK

def indexOf (L : List (List Int)) (w : List Int) : Int := if L.findIdx (fun l => decide (l = w)) < L.length then (L.findIdx (fun l => decide (l = w)) : Nat) else -1

def commute (c : List (List Int)) (a b : List Int) : Bool := isWord c a && isWord c b && decide (imageOf c (a ++ b) = imageOf c (b ++ a))

end Go.Proofs.YtgliajcgcbnemaaGreatDoor.Hx

namespace Go.Proofs.YtgliajcgcbnemaaGreatDoor.Hx
open Go.RowKit
variable {dm : Bool}

def rootAt (c : List (List Int)) (w : List Int) (k : Nat) : List Int := actR c (w.take k) ((List.replicate c.length (0 : Int)).set (w.getD k 0).toNat 1)
def rootsTo (c : List (List Int)) (w : List Int) (k : Nat) : List (List Int) := (List.range k).map (rootAt c w)
def rootSeq (c : List (List Int)) (w : List Int) : List (List Int) := if isWord c w then rootsTo c w w.length else []

theorem tot_le (n : Nat) : ∀ L : List (List Int), (∀ l, l ∈ L → l.length ≤ n) → tot L ≤ n * L.length
  | [], _ => by simp [tot]
  | l :: L, h => by
    have h1 := h l (List.mem_cons_self ..)
    have h2 := tot_le n L (fun l hl => h l (List.mem_cons_of_mem _ hl))
    simp only [tot, List.length_cons, Nat.mul_add, Nat.mul_one]
    omega
/-- The letters numbers j and i, left out. -/
def del2 (w : List Int) (i j : Nat) : List Int := del (del w j) i
def hit (c : List (List Int)) (w : List Int) (i j : Nat) : Bool := decide (imageOf c (del2 w i j) = imageOf c w)
def firstJ (c : List (List Int)) (w : List Int) (i : Nat) : Option Nat := (List.range w.length).find? fun j => decide (i < j) && hit c w i j
def firstI (c : List (List Int)) (w : List Int) : Option Nat := (List.range w.length).find? fun i => (firstJ c w i).isSome
def delPair (c : List (List Int)) (w : List Int) : Int × Int × Bool :=
  if isWord c w then
    match firstI c w with
    | some i => match firstJ c w i with
      | some j => (i, j, true)
      | none => (-1, -1, false)
    | none => (-1, -1, false)
  else (-1, -1, false)

/-- A pair of results as a tuple. -/
abbrev T3 (p : Int × Int × Bool) : HV := .tup [.pl (.int .i64 p.1), .pl (.int .i64 p.2.1), .pl (.bool p.2.2)]


end Go.Proofs.YtgliajcgcbnemaaGreatDoor.Hx

namespace Go.Proofs.YtgliajcgcbnemaaGreatDoor.Hx
open Go.RowKit

theorem matOk {c : List (List Int)} (hC : Cartan c) : MatOk c.length (ent c) := by
  refine ⟨fun i hi => ?_, fun i j hi hj hij => ?_, fun i j hi hj h0 => ?_⟩
  · have h := hC.ok i hi i hi
    simp only [cartBad, decide_true, Bool.true_and, Bool.not_true, Bool.false_and, Bool.or_false, Bool.not_eq_false', beq_iff_eq] at h
    exact h
  · have h := hC.ok i hi j hj
    simp only [cartBad, hij, decide_false, Bool.false_and, Bool.not_false, Bool.true_and, Bool.false_or, Bool.or_eq_false_iff, decide_eq_false_iff_not] at h
    omega
  · by_cases hij : i = j
    · subst hij; exact h0
    · have h := hC.ok i hi j hj
      simp only [cartBad, hij, decide_false, Bool.false_and, Bool.not_false, Bool.true_and, Bool.false_or, Bool.or_eq_false_iff] at h
      have h2 := h.2
      rw [h0] at h2
      simpa using h2

theorem ent_off {c : List (List Int)} {k i : Nat} (h : c.length ≤ k) : ent c k i = 0 := by
  unfold ent
  have : c.getD k [] = [] := by simp [List.getD, h]
  rw [this]
  rfl

def posOf (v : List Int) : Pos := fun k => v.getD k 0

def PlayL (c : List (List Int)) (n : Nat) (v : List Int) : Prop := v.length = c.length ∧ Play c.length (ent c) n (posOf v)

theorem w64_in {e : Int} (h1 : -9223372036854775808 ≤ e) (h2 : e ≤ 9223372036854775807) : w64 e = e := IntWalk.i64_in e ⟨h1, h2⟩

theorem PlayL.size {c : List (List Int)} (hC : Cartan c) {n : Nat} {v : List Int} (P : PlayL c n v) (hn : n ≤ 30) {k : Nat} (hk : k < c.length) : -1152921504606846976 ≤ v.getD k 0 ∧ v.getD k 0 ≤ 1152921504606846976 := by
  have h := P.2.size (matOk hC) k hk
  have h4 : 4 ^ n ≤ 4 ^ 30 := Nat.pow_le_pow_right (by omega) hn
  have e : (4 : Nat) ^ 30 = 1152921504606846976 := by decide
  rw [e] at h4
  simp only [posOf] at h
  omega

theorem pos_refl {c : List (List Int)} (hC : Cartan c) {n : Nat} {v : List Int} (P : PlayL c n v) (hn : n ≤ 30) {i : Nat} (hi : i < c.length) : posOf (reflW c i v) = sr (ent c) i (posOf v) := by
  funext k
  by_cases hk : k < c.length
  · have b1 := P.size hC hn hk
    have b2 := P.size hC hn hi
    have hkv : k < v.length := by rw [P.1]; exact hk
    have e : posOf (reflW c i v) k = reflNew c i v k := by simp [posOf, reflW, List.getD, hkv]
    rw [e]
    unfold reflNew sr posOf
    have f : ent c k i = 2 ∨ ent c k i = 0 ∨ ent c k i = -1 ∨ ent c k i = -2 ∨ ent c k i = -3 := by
      by_cases hki : k = i
      · subst hki; exact Or.inl ((matOk hC).diag k hk)
      · have := (matOk hC).off k i hk hi hki
        omega
    generalize v.getD k 0 = a at *
    generalize v.getD i 0 = b at *
    rcases f with f | f | f | f | f <;> rw [f] <;> rw [w64_in (e := b * _) (by omega) (by omega), w64_in (by omega) (by omega)]
  · have e1 : posOf (reflW c i v) k = 0 := by
      have : (reflW c i v).length ≤ k := by rw [reflW_length, P.1]; omega
      simp [posOf, List.getD, this]
    have e2 : posOf v k = 0 := by
      have : v.length ≤ k := by rw [P.1]; omega
      simp [posOf, List.getD, this]
    rw [e1]
    unfold sr
    rw [e2, ent_off (by omega)]
    simp

theorem PlayL.ne {c : List (List Int)} (hC : Cartan c) {n : Nat} {v : List Int} (P : PlayL c n v) {i : Nat} (hi : i < c.length) : v.getD i 0 ≠ 0 := P.2.ne (matOk hC) hi

theorem PlayL.any {c : List (List Int)} (hC : Cartan c) {n : Nat} {v : List Int} (P : PlayL c n v) (hn : n ≤ 30) {i : Nat} (hi : i < c.length) : ∃ m, m ≤ n + 1 ∧ PlayL c m (reflW c i v) := by
  obtain ⟨m, h1, h2⟩ := P.2.any (matOk hC) hi
  exact ⟨m, h1, by rw [reflW_length]; exact P.1, by rw [pos_refl hC P hn hi]; exact h2⟩

theorem PlayL.down {c : List (List Int)} (hC : Cartan c) {n : Nat} {v : List Int} (P : PlayL c n v) (hn : n ≤ 30) {i : Nat} (hi : i < c.length) (h : v.getD i 0 < 0) : ∃ m, n = m + 1 ∧ PlayL c m (reflW c i v) := by
  obtain ⟨m, h1, h2⟩ := P.2.down (matOk hC) hi h
  exact ⟨m, h1, by rw [reflW_length]; exact P.1, by rw [pos_refl hC P hn hi]; exact h2⟩

theorem PlayL.ones (c : List (List Int)) : PlayL c 0 (List.replicate c.length 1) := ⟨by simp, .done fun i hi => by simp [posOf, List.getD, hi]⟩

theorem posOf_inj {v u : List Int} (hl : v.length = u.length) (h : posOf v = posOf u) : v = u := by
  apply List.ext_getElem hl
  intro k h1 h2
  have := congrFun h k
  simpa [posOf, List.getD, h1, h2] using this

theorem reflW_twice {c : List (List Int)} (hC : Cartan c) {n m : Nat} {v : List Int} (P : PlayL c n v) (hn : n ≤ 30) {i : Nat} (hi : i < c.length) (P2 : PlayL c m (reflW c i v)) (hm : m ≤ 30) : reflW c i (reflW c i v) = v := by
  apply posOf_inj (by rw [reflW_length, reflW_length])
  rw [pos_refl hC P2 hm hi, pos_refl hC P hn hi, sr_sr ((matOk hC).diag i hi)]

theorem play_act {c : List (List Int)} (hC : Cartan c) : ∀ (w : List Int), lettersOk c w = true → w.length ≤ 31 → ∃ n, n ≤ w.length ∧ PlayL c n (actW c w (List.replicate c.length 1))
  | [], _, _ => ⟨0, Nat.le_refl _, PlayL.ones c⟩
  | i :: w, h, hl => by
    have h2 : isPoint c i = true ∧ lettersOk c w = true := by simpa [lettersOk] using h
    have hi := point_of h2.1
    have hl' : w.length + 1 ≤ 31 := by simpa using hl
    obtain ⟨n, h3, P⟩ := play_act hC w h2.2 (by omega)
    obtain ⟨m, h4, P2⟩ := P.any hC (by omega) (i := i.toNat) (by omega)
    exact ⟨m, by simp; omega, P2⟩

theorem play_image {c : List (List Int)} (hC : Cartan c) {w : List Int} (h : lettersOk c w = true) (hl : w.length ≤ 31) : ∃ n, n ≤ w.length ∧ PlayL c n (imageOf c w) := play_act hC w h hl

/-- The first negative number. -/
def fd (v : List Int) : Nat := v.findIdx fun x => decide (x < 0)

/-- The letters by which the reduction by first descents goes, at most f. -/
def nf (c : List (List Int)) : Nat → List Int → List Int
  | 0, _ => []
  | f + 1, v => if fd v < v.length then (fd v : Int) :: nf c f (reflW c (fd v) v) else []

theorem fd_lt {v : List Int} (h : fd v < v.length) : v.getD (fd v) 0 < 0 := by
  have := List.findIdx_getElem (xs := v) (p := fun x => decide (x < 0)) (w := h)
  unfold fd at h ⊢
  simp only [List.getD, List.getElem?_eq_getElem h, Option.getD_some]
  simpa using this
theorem fd_end {v : List Int} (h : ¬ fd v < v.length) : ∀ k, k < v.length → 0 ≤ v.getD k 0 := by
  intro k hk
  have e : fd v = v.length := by
    have := List.findIdx_le_length (p := fun x => decide (x < 0)) (xs := v)
    unfold fd at *
    omega
  unfold fd at e
  rw [List.findIdx_eq_length] at e
  have := e v[k] (List.getElem_mem hk)
  simp only [List.getD, List.getElem?_eq_getElem hk, Option.getD_some]
  simp at this
  omega
theorem nf_stop {c : List (List Int)} {f : Nat} {v : List Int} (hb : ∀ k, k < v.length → 0 ≤ v.getD k 0) : nf c f v = [] := by
  cases f with
  | zero => rfl
  | succ f =>
    rw [nf, if_neg]
    intro h
    have h1 := fd_lt h
    have := hb _ h
    omega

theorem nf_len {c : List (List Int)} (hC : Cartan c) : ∀ (n : Nat) (v : List Int) (f : Nat), PlayL c n v → n ≤ 30 → n ≤ f → (nf c f v).length = n
  | n, v, f, P, hn, hf => by
    by_cases h : fd v < v.length
    · have hlt := fd_lt h
      obtain ⟨m, rfl, P2⟩ := P.down hC hn (i := fd v) (by rw [← P.1]; exact h) hlt
      obtain ⟨f, rfl⟩ : ∃ f', f = f' + 1 := ⟨f - 1, by omega⟩
      rw [nf, if_pos h, List.length_cons, nf_len hC m _ f P2 (by omega) (by omega)]
    · rw [nf_stop (fd_end h)]
      have := (P.2.stop fun i hi => fd_end h i (by rw [P.1]; exact hi)).1
      simp [this]

theorem nf_letters {c : List (List Int)} (hC : Cartan c) : ∀ (n : Nat) (v : List Int) (f : Nat), PlayL c n v → n ≤ 30 → n ≤ f → lettersOk c (nf c f v) = true
  | n, v, f, P, hn, hf => by
    by_cases h : fd v < v.length
    · have hlt := fd_lt h
      have hc : fd v < c.length := by rw [← P.1]; exact h
      obtain ⟨m, rfl, P2⟩ := P.down hC hn (i := fd v) hc hlt
      obtain ⟨f, rfl⟩ : ∃ f', f = f' + 1 := ⟨f - 1, by omega⟩
      rw [nf, if_pos h]
      have ih := nf_letters hC m _ f P2 (by omega) (by omega)
      have hp : isPoint c (fd v) = true := by simp [isPoint, inRange]; omega
      simp only [lettersOk, List.all_cons, Bool.and_eq_true] at ih ⊢
      exact ⟨hp, ih⟩
    · rw [nf_stop (fd_end h)]
      rfl

theorem nf_image {c : List (List Int)} (hC : Cartan c) : ∀ (n : Nat) (v : List Int) (f : Nat), PlayL c n v → n ≤ 30 → n ≤ f → imageOf c (nf c f v) = v
  | n, v, f, P, hn, hf => by
    by_cases h : fd v < v.length
    · have hlt := fd_lt h
      have hc : fd v < c.length := by rw [← P.1]; exact h
      obtain ⟨m, rfl, P2⟩ := P.down hC hn (i := fd v) hc hlt
      obtain ⟨f, rfl⟩ : ∃ f', f = f' + 1 := ⟨f - 1, by omega⟩
      have ih := nf_image hC m _ f P2 (by omega) (by omega)
      have e : imageOf c ((fd v : Int) :: nf c f (reflW c (fd v) v)) = reflW c (fd v) (imageOf c (nf c f (reflW c (fd v) v))) := by simp [imageOf, actW]
      rw [nf, if_pos h, e, ih]
      exact reflW_twice hC P hn hc P2 (by omega)
    · rw [nf_stop (fd_end h)]
      have h1 := (P.2.stop fun i hi => fd_end h i (by rw [P.1]; exact hi)).2
      apply posOf_inj (by rw [imageOf_length, P.1])
      funext k
      by_cases hk : k < c.length
      · rw [h1 k hk]
        simp [posOf, imageOf, actW, List.getD, hk]
      · have hv : v.length ≤ k := by rw [P.1]; omega
        have hk' : c.length ≤ k := by omega
        simp [posOf, imageOf, actW, List.getD, hv, hk']

end Go.Proofs.YtgliajcgcbnemaaGreatDoor.Hx

namespace Go.Proofs.YtgliajcgcbnemaaGreatDoor.Hx
open Go.RowKit
variable {dm : Bool}

def fdI (v : List Int) : Int := if fd v < v.length then (fd v : Int) else -1
/-- What is only read: it lay there before, or lies in a row of its own that is not row r. -/
def Rd (h0 : Heap) (r : Nat) (h : Heap) (y : H0) (u : List Int) : Prop := Ints h0 y u ∨ ∃ q, h0.length ≤ q ∧ q ≠ r ∧ OwnR q h y u

def lenAt (vs : List HV) (k : Nat) : Nat := match vs[k]? with
  | some (.s (.sl _ _ n)) => n
  | _ => 0

def normF (c : List (List Int)) (w : List Int) : List Int := nf c 31 (imageOf c w)

end Go.Proofs.YtgliajcgcbnemaaGreatDoor.Hx

namespace Go.Proofs.YtgliajcgcbnemaaGreatDoor.Hx
open Go.RowKit
variable {dm : Bool}



end Go.Proofs.YtgliajcgcbnemaaGreatDoor.Hx

namespace Go.Proofs.YtgliajcgcbnemaaGreatDoor.Hx
open Go.RowKit
variable {dm : Bool}

def normalForm (c : List (List Int)) (w : List Int) : List Int := if isWord c w then normF c w else []
def lengthI (c : List (List Int)) (w : List Int) : Int := if isWord c w then ((normF c w).length : Int) else -1
def isReduced (c : List (List Int)) (w : List Int) : Bool := isWord c w && decide ((normF c w).length = w.length)
def isElement (c : List (List Int)) (w : List Int) : Bool := isWord c w && decide (normF c w = w)
def mulOk (c : List (List Int)) (a b : List Int) : Bool := isWord c a && isWord c b && decide ((normF c (a ++ b)).length ≤ 15)
def mul (c : List (List Int)) (a b : List Int) : List Int := if mulOk c a b then normF c (a ++ b) else []
def conjOk (c : List (List Int)) (w b : List Int) : Bool := mulOk c b.reverse w && mulOk c (mul c b.reverse w) b
def conj (c : List (List Int)) (w b : List Int) : List Int := if conjOk c w b then mul c (mul c b.reverse w) b else []
def isInvol (c : List (List Int)) (w : List Int) : Bool := isWord c w && decide (0 < (normF c w).length) && decide (imageOf c w = imageOf c w.reverse)

theorem actW_app (c : List (List Int)) : ∀ (a b v : List Int), actW c (a ++ b) v = actW c a (actW c b v)
  | [], _, _ => rfl
  | i :: a, b, v => by rw [List.cons_append, actW, actW, actW_app c a b v]
/-- A slice and a Bool. -/
abbrev T2 (y : H0) (b : Bool) : HV := .tup [y, .pl (.bool b)]


end Go.Proofs.YtgliajcgcbnemaaGreatDoor.Hx
