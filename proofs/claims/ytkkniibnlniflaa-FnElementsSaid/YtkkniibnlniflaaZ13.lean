/-
  Contracts of the descents of the reference, of reversed words, of words with a letter left out, of the program and of the reference.
  Contracts of words one behind the other, of places in lists of words, and of commuting words, of the program and of the reference; calls that make a slice, in a region that draws its order.
-/
import Derived.Test.YtkkniibnlniflaaZ12
namespace Go.Proofs.Ytkkniibnlniflaa.Hx
open Go.RowKit
variable {dm : Bool}

theorem HApp.snocR {r : Nat} {h : Heap} {y : H0} {l : List Int} {v : Int} {K : HV → Heap → Prop} (H : OwnR r h y l) (hl : l.length < 2199023255552)
    (hK : ∀ h' r' y', But r h h' → h.length ≤ r' → OwnR r' h' y' (l ++ [v]) → K (.s y') h') : HApp (h ++ [.own [ci v]]) (.s y) (.s (.sl h.length 0 1)) K :=
  HApp.litR [v] H (by simp; omega) hK

/-- A list without its entry at a place, if there is one. -/
def del (l : List Int) (n : Int) : List Int := if 0 ≤ n then l.eraseIdx n.toNat else l

theorem del_neg {l : List Int} {n : Int} (h : n < 0) : del l n = l := by
  unfold del
  rw [if_neg (by omega)]
theorem del_off {l : List Int} {n : Int} (h : (l.length : Int) ≤ n) : del l n = l := by
  unfold del
  split
  · exact List.eraseIdx_of_length_le (by omega)
  · rfl
theorem del_ne (l : List Int) (x n : Int) (h : (l.length : Int) ≠ n) : del (l ++ [x]) n = del l n ++ [x] := by
  unfold del
  split
  · by_cases h2 : n.toNat < l.length
    · rw [List.eraseIdx_append_of_lt_length h2]
    · rw [List.eraseIdx_of_length_le (by simp; omega), List.eraseIdx_of_length_le (by omega)]
  · rfl
theorem del_eq (l : List Int) (x : Int) : del (l ++ [x]) l.length = del l l.length := by
  unfold del
  have e : ((l.length : Nat) : Int).toNat = l.length := by omega
  rw [if_pos (by omega), if_pos (by omega), e, List.eraseIdx_append_of_length_le (Nat.le_refl _), List.eraseIdx_of_length_le (l := l) (Nat.le_refl _)]
  simp
theorem del_len (l : List Int) (n : Int) : (del l n).length ≤ l.length := by
  unfold del
  split
  · rw [List.length_eraseIdx]
    split <;> omega
  · exact Nat.le_refl _
theorem del_at (l : List Int) {i : Nat} : del l (i : Int) = l.take i ++ l.drop (i + 1) := by
  unfold del
  rw [if_pos (by omega), List.eraseIdx_eq_take_drop_succ]
  rfl
theorem del_none (n : Int) : del [] n = [] := by
  unfold del
  split
  · rfl
  · rfl
theorem take_snoc (w : List Int) {k : Nat} (h : k < w.length) : w.take (k + 1) = w.take k ++ [w.getD k 0] := by
  rw [List.take_succ_eq_append_getElem h]
  simp [List.getD, h]
theorem drop_rev (w : List Int) {k : Nat} (h : k < w.length) : (w.drop k).reverse = (w.drop (k + 1)).reverse ++ [w.getD k 0] := by
  rw [List.drop_eq_getElem_cons h]
  simp [List.getD, h]

/-- The first i and the last i numbers have changed places. -/
def revTo (l : List Int) (i : Nat) : List Int := (List.range l.length).map fun k => if k < i ∨ l.length ≤ k + i then l.getD (l.length - 1 - k) 0 else l.getD k 0

theorem revTo_length (l : List Int) (i : Nat) : (revTo l i).length = l.length := by simp [revTo]
theorem revTo_get (l : List Int) (i k : Nat) (h : k < l.length) (h1 : i ≤ k) (h2 : k + i < l.length) : (revTo l i).getD k 0 = l.getD k 0 := by
  unfold revTo
  simp only [List.getD, List.getElem?_map, List.getElem?_range h, Option.map_some, Option.getD_some]
  rw [if_neg (by omega)]
theorem revTo_none (l : List Int) : revTo l 0 = l := by
  apply List.ext_getElem (by simp [revTo])
  intro k h1 h2
  simp only [revTo, List.getElem_map, List.getElem_range]
  rw [if_neg (by omega)]
  simp [List.getD, h2]
theorem revTo_all (l : List Int) (i : Nat) (h : l.length ≤ 2 * i + 1) : revTo l i = l.reverse := by
  apply List.ext_getElem (by simp [revTo])
  intro k h1 h2
  simp only [revTo, List.getElem_map, List.getElem_range, List.getElem_reverse]
  have h2 : k < l.length := by simpa using h2
  split
  · have : l.length - 1 - k < l.length := by omega
    simp [List.getD, this]
  · have e : l.length - 1 - k = k := by omega
    simp [List.getD, e, h2]
theorem revTo_succ (l : List Int) (i : Nat) (h : 2 * i + 1 < l.length) : ((revTo l i).set i (l.getD (l.length - 1 - i) 0)).set (l.length - 1 - i) (l.getD i 0) = revTo l (i + 1) := by
  apply List.ext_getElem (by simp [revTo])
  intro k h1 h2
  have h2 : k < l.length := by simpa [revTo] using h2
  simp only [List.getElem_set, revTo, List.getElem_map, List.getElem_range]
  by_cases e1 : l.length - 1 - i = k
  · rw [if_pos e1, if_pos (by omega)]
    have : l.length - 1 - k = i := by omega
    rw [this]
  · rw [if_neg e1]
    by_cases e2 : i = k
    · subst e2
      rw [if_pos rfl, if_pos (by omega)]
    · rw [if_neg e2]
      by_cases e3 : k < i ∨ l.length ≤ k + i
      · rw [if_pos e3, if_pos (by omega)]
      · rw [if_neg e3, if_neg (by omega)]

/-- One number of one's own is written anew. -/
theorem OwnR.store {r : Nat} {h : Heap} {y : H0} {l : List Int} {i : Nat} {v : Int} (H : OwnR r h y l) (hi : i < l.length) :
    ∃ cs, y = .sl r 0 l.length ∧ h[r]? = some (.own cs) ∧ i < cs.length ∧ But r h (h.set r (.own (cs.set i (ci v)))) ∧ OwnR r (h.set r (.own (cs.set i (ci v)))) y (l.set i v) := by
  have hr' := H.lt
  obtain ⟨t, rfl, hr⟩ := H
  refine ⟨_, rfl, hr, by simp; omega, ⟨by simp, fun q _ hn => by rw [List.getElem?_set_ne (Ne.symm hn)]⟩, t, by simp, ?_⟩
  rw [List.getElem?_set_self hr', List.set_append_left _ _ (by simpa using hi), List.map_set]
theorem But.trans {r : Nat} {h h' h'' : Heap} (k : But r h h') (k2 : But r h' h'') : But r h h'' :=
  ⟨Nat.le_trans k.1 k2.1, fun q hq hn => by rw [k2.2 q (Nat.lt_of_lt_of_le hq k.1) hn]; exact k.2 q hq hn⟩
theorem But.refl (r : Nat) (h : Heap) : But r h h := ⟨Nat.le_refl _, fun _ _ _ => rfl⟩

theorem pair_eq {a b : Int} {k : Nat} (h1 : a = k) (h2 : b = k) : a = b := by omega


theorem spec_LeftDescents (h : Heap) (x0 : H0) (a0 : List (List Int)) (x1 : H0) (a1 : List Int) (hx0 : Rows h x0 a0) (hx1 : Ints h x1 a1) (s0 : a0.length ≤ 1048576 ∧ tot a0 ≤ 1048576) (s1 : a1.length ≤ 1048576) :
    HCalls dm Try.prog 28 [.s x0, .s x1] h (fun r h' => ∃ y, r = .s y ∧ Fresh h h' y (leftDescents a0 a1)) := by
  have E0 := Ext.push h [Row.own []]
  have O0 := OwnR.push h []
  refine calls_of_hFun (m := 0) kd_ok mixed Try.func28 rfl (by kernel_rfl) rfl rfl (of_decide_eq_true rfl) ?_; unfold hFun; (conv => whnf)
  refine HLit.empty ?_
  (conv => whnf)
  refine (spec_IsWord _ _ _ a0 a1 (hx0.ext E0) (hx1.ext E0) (by omega) (by omega)).mono ?_
  rintro r h1 ⟨rfl, rfl⟩
  (conv => whnf)
  cases hic : isWord a0 a1
  · (repeat (first | (refine ⟨rfl, Ints.len (by assumption) ?_⟩; conv => whnf) | (refine ⟨rfl, Rows.len (by assumption) ?_⟩; conv => whnf) | (refine ⟨rfl, HLen.sl ?_⟩; conv => whnf) | (refine ⟨rfl, At.load (by assumption) ?_⟩; conv => whnf) | (refine HIf.yes ?_; conv => whnf) | (refine HIf.no ?_; conv => whnf) | (refine HIf.isT (by assumption) ?_; conv => whnf) | (refine HIf.isF (by assumption) ?_; conv => whnf) | (refine HIf.decT (by assumption) ?_; conv => whnf) | (refine HIf.decF (by assumption) ?_; conv => whnf) | (refine HIf.beqT (by assumption) ?_; conv => whnf) | (refine HIf.beqF (by assumption) ?_; conv => whnf) | (refine HIf.bneT (by assumption) ?_; conv => whnf) | (refine HIf.bneF (by assumption) ?_; conv => whnf) | (refine ⟨rfl, Ints.idxN (by assumption) (by omega) (fun p hp => ?_)⟩; conv => whnf) | (refine ⟨rfl, Rows.idxN (by assumption) (by omega) (fun p y hp hy => ?_)⟩; conv => whnf) | (refine And.intro (show Kd.isBool _ = true from rfl) ?_; conv => whnf) | (refine ⟨rfl, Ints.idx (by assumption) (by omega) (by omega) (fun p hp => ?_)⟩; conv => whnf) | (refine ⟨rfl, Rows.idx (by assumption) (by omega) (by omega) (fun p y hp hy => ?_)⟩; conv => whnf) | (refine HArith.fits (by omega) (by omega) ?_; conv => whnf) | (refine Or.inl (And.intro (show Region.lexB _ _ = true by kernel_rfl) ?_); conv => whnf)))
    exact ⟨_, rfl, Fresh.none _ (leftDescents_off hic)⟩
  have wc := word_cartan hic
  have hcl := wc.1.le
  rw [leftDescents_on hic]
  (repeat (first | (refine ⟨rfl, Ints.len (by assumption) ?_⟩; conv => whnf) | (refine ⟨rfl, Rows.len (by assumption) ?_⟩; conv => whnf) | (refine ⟨rfl, HLen.sl ?_⟩; conv => whnf) | (refine ⟨rfl, At.load (by assumption) ?_⟩; conv => whnf) | (refine HIf.yes ?_; conv => whnf) | (refine HIf.no ?_; conv => whnf) | (refine HIf.isT (by assumption) ?_; conv => whnf) | (refine HIf.isF (by assumption) ?_; conv => whnf) | (refine HIf.decT (by assumption) ?_; conv => whnf) | (refine HIf.decF (by assumption) ?_; conv => whnf) | (refine HIf.beqT (by assumption) ?_; conv => whnf) | (refine HIf.beqF (by assumption) ?_; conv => whnf) | (refine HIf.bneT (by assumption) ?_; conv => whnf) | (refine HIf.bneF (by assumption) ?_; conv => whnf) | (refine ⟨rfl, Ints.idxN (by assumption) (by omega) (fun p hp => ?_)⟩; conv => whnf) | (refine ⟨rfl, Rows.idxN (by assumption) (by omega) (fun p y hp hy => ?_)⟩; conv => whnf) | (refine And.intro (show Kd.isBool _ = true from rfl) ?_; conv => whnf) | (refine ⟨rfl, Ints.idx (by assumption) (by omega) (by omega) (fun p hp => ?_)⟩; conv => whnf) | (refine ⟨rfl, Rows.idx (by assumption) (by omega) (by omega) (fun p y hp hy => ?_)⟩; conv => whnf) | (refine HArith.fits (by omega) (by omega) ?_; conv => whnf) | (refine Or.inl (And.intro (show Region.lexB _ _ = true by kernel_rfl) ?_); conv => whnf)))
  refine (spec_l8Image _ _ a0 _ a1 (hx0.ext E0) (hx1.ext E0) ((isCartan_iff a0).2 wc.1) wc.2.2 s1).mono ?_
  rintro r h2 ⟨y1, rfl, f1⟩
  have hvl := imageOf_length a0 a1
  have O1 := O0.ext f1.1
  have E1 := E0.trans f1.1
  obtain ⟨ri, hri, oi⟩ := f1.row
  simp only [List.length_append, List.length_cons, List.length_nil] at hri
  generalize imageOf a0 a1 = v at *
  (conv => whnf)
  refine HLoop.intro [7, 5] [17, 18, 19, 20, 23, 24, 25, 26, 27, 28, 29, 30, 31, 5, 21, 22, 7] (by kernel_rfl) (by kernel_rfl) (fun vs h' => ∃ (k : Nat) (z : H0) (r : Nat), vs = [I k, .s z] ∧ k ≤ v.length ∧ Ext h h' ∧ h.length ≤ r ∧ r ≠ ri ∧ OwnR r h' z (descs v k) ∧ OwnR ri h' y1 v) (fun vs _ => v.length - natAt vs 0) ⟨0, _, h.length, rfl, by omega, E1, Nat.le_refl _, by omega, O1, oi⟩ ?_
  rintro vs h' ⟨k, z, r, rfl, hk, E, hr, hn, O, oi⟩
  have hdl := descs_le v k
  have hx := oi.ints
  (conv => whnf)
  refine ⟨rfl, hx.len ?_⟩
  (conv => whnf)
  refine HIf.dec (fun hlt => ?_) (fun hge => ?_)
  · (conv => whnf)
    (repeat (first | (refine ⟨rfl, Ints.len (by assumption) ?_⟩; conv => whnf) | (refine ⟨rfl, Rows.len (by assumption) ?_⟩; conv => whnf) | (refine ⟨rfl, HLen.sl ?_⟩; conv => whnf) | (refine ⟨rfl, At.load (by assumption) ?_⟩; conv => whnf) | (refine HIf.yes ?_; conv => whnf) | (refine HIf.no ?_; conv => whnf) | (refine HIf.isT (by assumption) ?_; conv => whnf) | (refine HIf.isF (by assumption) ?_; conv => whnf) | (refine HIf.decT (by assumption) ?_; conv => whnf) | (refine HIf.decF (by assumption) ?_; conv => whnf) | (refine HIf.beqT (by assumption) ?_; conv => whnf) | (refine HIf.beqF (by assumption) ?_; conv => whnf) | (refine HIf.bneT (by assumption) ?_; conv => whnf) | (refine HIf.bneF (by assumption) ?_; conv => whnf) | (refine ⟨rfl, Ints.idxN (by assumption) (by omega) (fun p hp => ?_)⟩; conv => whnf) | (refine ⟨rfl, Rows.idxN (by assumption) (by omega) (fun p y hp hy => ?_)⟩; conv => whnf) | (refine And.intro (show Kd.isBool _ = true from rfl) ?_; conv => whnf) | (refine ⟨rfl, Ints.idx (by assumption) (by omega) (by omega) (fun p hp => ?_)⟩; conv => whnf) | (refine ⟨rfl, Rows.idx (by assumption) (by omega) (by omega) (fun p y hp hy => ?_)⟩; conv => whnf) | (refine HArith.fits (by omega) (by omega) ?_; conv => whnf) | (refine Or.inl (And.intro (show Region.lexB _ _ = true by kernel_rfl) ?_); conv => whnf)))
    refine HIf.dec (fun hneg => ?_) (fun hpos => ?_)
    · (conv => whnf)
      refine HLit.one ?_
      (conv => whnf)
      refine ⟨rfl, rfl, HApp.snocR O (by omega) (fun h3 r3 y3 B3 hr3 O3 => ?_)⟩
      have := oi.lt
      rw [← descs_in v k hneg] at O3
      (conv => whnf)
      refine HArith.fits (by omega) (by omega) ?_
      (conv => whnf)
      exact ⟨⟨k + 1, y3, r3, rfl, by omega, E.but B3 hr, by have := E.1; omega, by omega, O3, oi.but B3 (Ne.symm hn)⟩, by show v.length - (k + 1) < v.length - k; omega⟩
    · rw [← descs_out v k hpos] at O
      (conv => whnf)
      refine HArith.fits (by omega) (by omega) ?_
      (conv => whnf)
      exact ⟨⟨k + 1, z, r, rfl, by omega, E, hr, hn, O, oi⟩, by show v.length - (k + 1) < v.length - k; omega⟩
  · (conv => whnf)
    have e : k = v.length := by omega
    subst e
    exact ⟨_, rfl, Fresh.ofRow E O hr⟩

theorem spec_ReverseWord (h : Heap) (x0 : H0) (a0 : List Int) (hx0 : Ints h x0 a0) (s0 : a0.length ≤ 1048576) :
    HCalls dm Try.prog 111 [.s x0] h (fun r h' => ∃ y, r = .s y ∧ Fresh h h' y a0.reverse) := by
  have E0 := Ext.push h [Row.own []]
  have O0 := OwnR.push h []
  have hx00 := hx0.ext E0
  refine calls_of_hFun (m := 0) kd_ok mixed Try.func111 rfl (by kernel_rfl) rfl rfl (of_decide_eq_true rfl) ?_; unfold hFun; (conv => whnf)
  refine HLit.empty ?_
  (conv => whnf)
  refine ⟨rfl, hx00.len ?_⟩
  (conv => whnf)
  refine HArith.fits (by omega) (by omega) ?_
  (conv => whnf)
  refine HLoop.intro [4, 3] [9, 10, 13, 14, 15, 16, 17, 18, 19, 3, 11, 12, 4] (by kernel_rfl) (by kernel_rfl) (fun vs h' => ∃ (k : Nat) (z : H0) (r : Nat), vs = [I ((k : Int) - 1), .s z] ∧ k ≤ a0.length ∧ Ext h h' ∧ h.length ≤ r ∧ OwnR r h' z (a0.drop k).reverse) (fun vs _ => (intAt vs 0 + 1).toNat) ⟨a0.length, _, h.length, rfl, by omega, E0, Nat.le_refl _, by rw [List.drop_length]; exact O0⟩ ?_
  rintro vs h' ⟨k, z, r, rfl, hk, E, hr, O⟩
  have hx0 := hx0.ext E
  (conv => whnf)
  refine HIf.dec (fun hlt => ?_) (fun hge => ?_)
  · obtain ⟨m, rfl⟩ : ∃ m, k = m + 1 := ⟨k - 1, by omega⟩
    have e1 : (((m + 1 : Nat) : Int) - 1).toNat = m := by omega
    have hd := drop_rev a0 (k := m) (by omega)
    (conv => whnf)
    refine ⟨rfl, Ints.idx hx0 (by omega) (by omega) (fun p hp => ?_)⟩
    rw [e1] at hp
    (conv => whnf)
    refine ⟨rfl, hp.load ?_⟩
    (conv => whnf)
    refine HLit.one ?_
    (conv => whnf)
    refine ⟨rfl, rfl, HApp.snocR O (by simp; omega) (fun h3 r3 y3 B3 hr3 O3 => ?_)⟩
    rw [← hd] at O3
    (conv => whnf)
    refine HArith.fits (by omega) (by omega) ?_
    (conv => whnf)
    have e3 : ((m + 1 : Nat) : Int) - 1 - 1 = (m : Int) - 1 := by omega
    exact ⟨⟨m, y3, r3, by rw [← e3]; rfl, by omega, E.but B3 hr, by have := E.1; omega, O3⟩, by show (((m + 1 : Nat) : Int) - 1 - 1 + 1).toNat < (((m + 1 : Nat) : Int) - 1 + 1).toNat; omega⟩
  · have e : k = 0 := by omega
    subst e
    rw [List.drop_zero] at O
    (conv => whnf)
    exact ⟨_, rfl, Fresh.ofRow E O hr⟩

theorem lib_Reverse (h : Heap) (r : Nat) (x : H0) (l : List Int) (hx : OwnR r h x l) (hl : l.length ≤ 1048576) :
    HCalls dm Try.prog 144 [.s x] h (fun _ h' => But r h h' ∧ OwnR r h' x l.reverse) := by
  refine calls_of_hFun (m := 0) kd_ok mixed Try.func144 rfl (by kernel_rfl) rfl rfl (of_decide_eq_true rfl) ?_; unfold hFun; (conv => whnf)
  refine ⟨rfl, hx.ints.len ?_⟩
  (conv => whnf)
  refine HArith.fits (by omega) (by omega) ?_
  (conv => whnf)
  refine HLoop.intro [2, 3] [7, 8, 9, 14, 15, 16, 17, 18, 19, 20, 21, 22, 23, 24, 25, 26, 27, 10, 11, 12, 13, 2, 3] (by kernel_rfl) (by kernel_rfl) (fun vs h' => ∃ (i : Nat) (j : Int), vs = [I i, I j] ∧ j = (l.length : Int) - 1 - i ∧ 2 * i ≤ l.length ∧ But r h h' ∧ OwnR r h' x (revTo l i)) (fun vs _ => l.length - natAt vs 0) ⟨0, (l.length : Int) - 1, rfl, by omega, by omega, But.refl _ _, by rw [revTo_none]; exact hx⟩ ?_
  rintro vs h' ⟨i, j, rfl, hj0, hi, B, O⟩
  have hrl := revTo_length l i
  (conv => whnf)
  refine HIf.dec (fun hlt => ?_) (fun hge => ?_)
  · have hj : j = ((l.length - 1 - i : Nat) : Int) := by omega
    have g1 := revTo_get l i i (by omega) (by omega) (by omega)
    have g2 := revTo_get l i (l.length - 1 - i) (by omega) (by omega) (by omega)
    have hs := revTo_succ l i (by omega)
    obtain ⟨cs, e1, e2, e3, B2, O2⟩ := O.store (i := i) (v := l.getD (l.length - 1 - i) 0) (by omega)
    obtain ⟨cs', e1', e2', e3', B3, O3⟩ := O2.store (i := l.length - 1 - i) (v := l.getD i 0) (by simp; omega)
    rw [hs] at O3
    rw [hrl] at e1
    subst e1
    subst hj
    (conv => whnf)
    refine Or.inr (Or.inr (Or.inl (Exists.intro 13 (Exists.intro [0, 1, 2, 3, 4, 5, 6, 7, 8, 9, 10, 11, 12] (Exists.intro [13, 14, 15] (And.intro (show heldOk _ _ _ _ = true by kernel_rfl) ?_)))))); (conv => whnf)
    refine ⟨rfl, Ints.idxN O.ints (by omega) (fun p hp => ?_)⟩
    rw [g2] at hp
    (conv => whnf)
    refine ⟨rfl, hp.load ?_⟩
    (conv => whnf)
    refine ⟨rfl, Ints.idxN O.ints (by omega) (fun p2 hp2 => ?_)⟩
    rw [g1] at hp2
    (conv => whnf)
    refine ⟨rfl, hp2.load ?_⟩
    (conv => whnf)
    refine ⟨rfl, HIdx.sl (by omega) (by omega) ?_⟩
    (conv => whnf)
    have e0 : 0 + (i : Int).toNat = i := by omega
    rw [e0]
    refine ⟨rfl, HStore.own e2 (by omega) rfl ?_⟩
    (conv => whnf)
    refine ⟨rfl, HIdx.sl (by omega) (by omega) ?_⟩
    (conv => whnf)
    have e00 : 0 + ((l.length - 1 - i : Nat) : Int).toNat = l.length - 1 - i := by omega
    rw [e00]
    refine ⟨rfl, HStore.own e2' (by omega) rfl ?_⟩
    (conv => whnf)
    refine HArith.fits (by omega) (by omega) ?_
    (conv => whnf)
    refine HArith.fits (by omega) (by omega) ?_
    (conv => whnf)
    exact ⟨⟨i + 1, _, rfl, by omega, by omega, (B.trans B2).trans B3, O3⟩, by show l.length - (i + 1) < l.length - i; omega⟩
  · rw [revTo_all l i (by omega)] at O
    (conv => whnf)
    exact ⟨B, O⟩

theorem impl_ReverseWord (h : Heap) (x0 : H0) (a0 : List Int) (hx0 : Ints h x0 a0) (s0 : a0.length ≤ 1048576) :
    HCalls dm Try.prog 107 [.s x0] h (fun r h' => ∃ y, r = .s y ∧ Fresh h h' y a0.reverse) := by
  refine calls_of_hFun (m := 0) kd_ok mixed Try.func107 rfl (by kernel_rfl) rfl rfl (of_decide_eq_true rfl) ?_; unfold hFun; (conv => whnf)
  refine HLit.empty ?_
  (conv => whnf)
  refine ⟨rfl, rfl, HApp.copy hx0 (by omega) (fun h1 y1 E1 O1 => ?_)⟩
  obtain ⟨r, hr1, hr2, O⟩ := O1.row
  (conv => whnf)
  refine (lib_Reverse _ r _ _ O s0).mono ?_
  rintro v h2 ⟨B, O2⟩
  (conv => whnf)
  exact ⟨_, rfl, Fresh.ofRow (E1.but B hr1) O2 hr1⟩

theorem spec_DeleteAt0 (h : Heap) (x0 : H0) (a0 : List Int) (n1 : Int) (hx0 : Ints h x0 a0) (s0 : a0.length ≤ 1048576) :
    HCalls dm Try.prog 32 [.s x0, I n1] h (fun r h' => ∃ y, r = .s y ∧ Fresh h h' y (del a0 n1)) := by
  have E0 := Ext.push h [Row.own []]
  have O0 := OwnR.push h []
  refine calls_of_hFun (m := 0) kd_ok mixed Try.func32 rfl (by kernel_rfl) rfl rfl (of_decide_eq_true rfl) ?_; unfold hFun; (conv => whnf)
  refine HLit.empty ?_
  (conv => whnf)
  refine HLoop.intro [6, 5] [8, 9, 10, 11, 14, 15, 16, 17, 18, 19, 20, 21, 22, 23, 5, 12, 13, 6] (by kernel_rfl) (by kernel_rfl) (fun vs h' => ∃ (k : Nat) (z : H0) (r : Nat), vs = [I k, .s z] ∧ k ≤ a0.length ∧ Ext h h' ∧ h.length ≤ r ∧ OwnR r h' z (del (a0.take k) n1)) (fun vs _ => a0.length - natAt vs 0) ⟨0, _, h.length, rfl, by omega, E0, Nat.le_refl _, by rw [List.take_zero, del_none]; exact O0⟩ ?_
  rintro vs h' ⟨k, z, r, rfl, hk, E, hr, O⟩
  have hx0 := hx0.ext E
  have hdl := del_len (a0.take k) n1
  rw [List.length_take] at hdl
  have htl : (a0.take k).length = k := by simp; omega
  (conv => whnf)
  refine ⟨rfl, hx0.len ?_⟩
  (conv => whnf)
  refine HIf.dec (fun hlt => ?_) (fun hge => ?_)
  · have ht := take_snoc a0 (k := k) (by omega)
    (conv => whnf)
    refine HIf.bne (fun hne => ?_) (fun heq => ?_)
    · have hd := del_ne (a0.take k) (a0.getD k 0) n1 (by rw [htl]; exact hne)
      rw [← ht] at hd
      (conv => whnf)
      refine ⟨rfl, Ints.idxN hx0 (by omega) (fun p hp => ?_)⟩
      (conv => whnf)
      refine ⟨rfl, hp.load ?_⟩
      (conv => whnf)
      refine HLit.one ?_
      (conv => whnf)
      refine ⟨rfl, rfl, HApp.snocR O (by omega) (fun h3 r3 y3 B3 hr3 O3 => ?_)⟩
      rw [← hd] at O3
      (conv => whnf)
      refine HArith.fits (by omega) (by omega) ?_
      (conv => whnf)
      exact ⟨⟨k + 1, y3, r3, rfl, by omega, E.but B3 hr, by have := E.1; omega, O3⟩, by show a0.length - (k + 1) < a0.length - k; omega⟩
    · have hd := del_eq (a0.take k) (a0.getD k 0)
      rw [← ht, htl, heq] at hd
      rw [← hd] at O
      (conv => whnf)
      refine HArith.fits (by omega) (by omega) ?_
      (conv => whnf)
      exact ⟨⟨k + 1, z, r, rfl, by omega, E, hr, O⟩, by show a0.length - (k + 1) < a0.length - k; omega⟩
  · (conv => whnf)
    have e : k = a0.length := by omega
    subst e
    rw [List.take_length] at O
    exact ⟨_, rfl, Fresh.ofRow E O hr⟩

theorem spec_DeleteAt (h : Heap) (x0 : H0) (a0 : List Int) (n1 : Int) (hx0 : Ints h x0 a0) (s0 : a0.length ≤ 1048576) (_s1 : -9223372036854775808 ≤ n1 ∧ n1 ≤ 9223372036854775807) :
    HCalls dm Try.prog 32 [.s x0, I n1] h (fun r h' => ∃ y, r = .s y ∧ Fresh h h' y (del a0 n1)) := spec_DeleteAt0 h x0 a0 n1 hx0 s0

theorem lib_Delete (h : Heap) (r : Nat) (x : H0) (l : List Int) (i : Nat) (hx : OwnR r h x l) (hi : i < l.length) (hl : l.length ≤ 1048576) :
    HCalls dm Try.prog 94 [.s x, I i, I ((i + 1 : Nat) : Int)] h (fun v h' => ∃ y, v = .s y ∧ But r h h' ∧ OwnR r h' y (l.take i ++ l.drop (i + 1))) := by
  have hrl := hx.lt
  have hxi := hx.ints
  obtain ⟨t, rfl, hr⟩ := hx
  have hdl : (l.drop (i + 1)).length = l.length - (i + 1) := by simp
  refine calls_of_hFun (m := 0) kd_ok mixed Try.func94 rfl (by kernel_rfl) rfl rfl (of_decide_eq_true rfl) ?_; unfold hFun; (conv => whnf)
  refine ⟨rfl, HLen.sl ?_⟩
  (conv => whnf)
  refine ⟨rfl, ⟨l.length, i, i + 1, l.length, .i64, .i64, .i64, rfl, rfl, rfl, rfl, by omega, by omega, Nat.le_refl _, ?_⟩⟩
  (conv => whnf)
  (repeat (first | (refine HIf.beqF (by omega) ?_; conv => whnf)))
  refine ⟨rfl, HLen.sl ?_⟩
  (conv => whnf)
  refine Or.inr (Or.inl (Exists.intro 6 (And.intro (show Region.lexTailB _ _ _ = true by kernel_rfl) ?_))); (conv => whnf)
  refine ⟨rfl, ⟨l.length, 0, i, rfl, Or.inl ⟨rfl, rfl⟩, Or.inr ⟨.i64, rfl⟩, by omega, Or.inl (by omega), ?_⟩⟩
  (conv => whnf)
  refine ⟨rfl, ⟨l.length, i + 1, l.length, rfl, Or.inr ⟨.i64, rfl⟩, Or.inl ⟨rfl, rfl⟩, by omega, Or.inl (Nat.le_refl _), ?_⟩⟩
  (conv => whnf)
  refine ⟨rfl, rfl, ⟨(l.drop (i + 1)).map ci, ?_, ci_one _, l.map ci ++ t, rfl, hr, by simp; omega, Or.inr ⟨by simp; omega, ?_⟩⟩⟩
  · have h1 := Shows.own r (0 + (i + 1)) (l.length - (i + 1)) _ hr (by simp; omega)
    have e : ((l.map ci ++ t).drop (0 + (i + 1))).take (l.length - (i + 1)) = (l.drop (i + 1)).map ci := by
      rw [Nat.zero_add, List.drop_append_of_le_length (by simp; omega), List.take_append_of_le_length (by simp), List.take_of_length_le (by simp), List.map_drop]
    rw [e] at h1
    exact h1
  have e1 : i - 0 + ((l.drop (i + 1)).map ci).length = (l.take i ++ l.drop (i + 1)).length := by simp; omega
  have e2 : (l.map ci ++ t).take (i - 0) ++ (l.drop (i + 1)).map ci = (l.take i ++ l.drop (i + 1)).map ci := by
    rw [Nat.sub_zero, List.take_append_of_le_length (by simp; omega), ← List.map_take, List.map_append]
  have e3 : (l.take i ++ l.drop (i + 1)).length = l.length - 1 := by simp; omega
  rw [e1, e2]
  obtain ⟨t2, ht2⟩ : ∃ t2, t2 = (l.map ci ++ t).drop (l.take i ++ l.drop (i + 1)).length := ⟨_, rfl⟩
  have ht2l : 1 ≤ t2.length := by rw [ht2]; simp; omega
  rw [← ht2]
  clear ht2 e1 e2
  generalize l.take i ++ l.drop (i + 1) = m at *
  have hr2 : (h.set r (.own (m.map ci ++ t2)))[r]? = some (.own (m.map ci ++ t2)) := List.getElem?_set_self hrl
  have hln : l.length = m.length + 1 := by omega
  (conv => whnf)
  refine ⟨rfl, HLen.sl ?_⟩
  (conv => whnf)
  refine ⟨rfl, ⟨m.length, m.length, l.length, rfl, Or.inr ⟨.i64, rfl⟩, Or.inr ⟨.i64, rfl⟩, by omega, Or.inr ⟨r, 0, m.length, _, rfl, hr2, by simp; omega⟩, ?_⟩⟩
  (conv => whnf)
  refine ⟨Or.inr ⟨r, 0 + m.length, l.length - m.length, _, rfl, hr2, by simp; omega, ?_⟩⟩
  (conv => whnf)
  refine ⟨_, rfl, ⟨by simp, fun q _ hn => by rw [List.getElem?_set_ne (Ne.symm hn), List.getElem?_set_ne (Ne.symm hn)]⟩, List.replicate (l.length - m.length) (.pl (.int .i64 0)) ++ (m.map ci ++ t2).drop (0 + m.length + (l.length - m.length)), rfl, ?_⟩
  rw [List.getElem?_set_self (by simpa using hrl), Nat.zero_add, List.take_append_of_le_length (by simp), List.take_of_length_le (by simp), List.append_assoc]

theorem impl_DeleteAt0 (h : Heap) (x0 : H0) (a0 : List Int) (n1 : Int) (hx0 : Ints h x0 a0) (s0 : a0.length ≤ 1048576) :
    HCalls dm Try.prog 30 [.s x0, I n1] h (fun r h' => ∃ y, r = .s y ∧ Fresh h h' y (del a0 n1)) := by
  refine calls_of_hFun (m := 0) kd_ok mixed Try.func30 rfl (by kernel_rfl) rfl rfl (of_decide_eq_true rfl) ?_; unfold hFun; (conv => whnf)
  refine HLit.empty ?_
  (conv => whnf)
  refine ⟨rfl, rfl, HApp.copy hx0 (by omega) (fun h1 y1 E1 O1 => ?_)⟩
  have hx01 := hx0.ext E1
  obtain ⟨r, hr1, hr2, O⟩ := O1.row
  (conv => whnf)
  by_cases h0 : n1 < 0
  · (repeat (first | (refine ⟨rfl, Ints.len (by assumption) ?_⟩; conv => whnf) | (refine ⟨rfl, Rows.len (by assumption) ?_⟩; conv => whnf) | (refine ⟨rfl, HLen.sl ?_⟩; conv => whnf) | (refine ⟨rfl, At.load (by assumption) ?_⟩; conv => whnf) | (refine HIf.yes ?_; conv => whnf) | (refine HIf.no ?_; conv => whnf) | (refine HIf.isT (by assumption) ?_; conv => whnf) | (refine HIf.isF (by assumption) ?_; conv => whnf) | (refine HIf.decT (by assumption) ?_; conv => whnf) | (refine HIf.decF (by assumption) ?_; conv => whnf) | (refine HIf.beqT (by assumption) ?_; conv => whnf) | (refine HIf.beqF (by assumption) ?_; conv => whnf) | (refine HIf.bneT (by assumption) ?_; conv => whnf) | (refine HIf.bneF (by assumption) ?_; conv => whnf) | (refine ⟨rfl, Ints.idxN (by assumption) (by omega) (fun p hp => ?_)⟩; conv => whnf) | (refine ⟨rfl, Rows.idxN (by assumption) (by omega) (fun p y hp hy => ?_)⟩; conv => whnf) | (refine And.intro (show Kd.isBool _ = true from rfl) ?_; conv => whnf) | (refine ⟨rfl, Ints.idx (by assumption) (by omega) (by omega) (fun p hp => ?_)⟩; conv => whnf) | (refine ⟨rfl, Rows.idx (by assumption) (by omega) (by omega) (fun p y hp hy => ?_)⟩; conv => whnf) | (refine HArith.fits (by omega) (by omega) ?_; conv => whnf) | (refine Or.inl (And.intro (show Region.lexB _ _ = true by kernel_rfl) ?_); conv => whnf)))
    rw [del_neg h0]
    exact ⟨_, rfl, Fresh.of E1 O1⟩
  (repeat (first | (refine ⟨rfl, Ints.len (by assumption) ?_⟩; conv => whnf) | (refine ⟨rfl, Rows.len (by assumption) ?_⟩; conv => whnf) | (refine ⟨rfl, HLen.sl ?_⟩; conv => whnf) | (refine ⟨rfl, At.load (by assumption) ?_⟩; conv => whnf) | (refine HIf.yes ?_; conv => whnf) | (refine HIf.no ?_; conv => whnf) | (refine HIf.isT (by assumption) ?_; conv => whnf) | (refine HIf.isF (by assumption) ?_; conv => whnf) | (refine HIf.decT (by assumption) ?_; conv => whnf) | (refine HIf.decF (by assumption) ?_; conv => whnf) | (refine HIf.beqT (by assumption) ?_; conv => whnf) | (refine HIf.beqF (by assumption) ?_; conv => whnf) | (refine HIf.bneT (by assumption) ?_; conv => whnf) | (refine HIf.bneF (by assumption) ?_; conv => whnf) | (refine ⟨rfl, Ints.idxN (by assumption) (by omega) (fun p hp => ?_)⟩; conv => whnf) | (refine ⟨rfl, Rows.idxN (by assumption) (by omega) (fun p y hp hy => ?_)⟩; conv => whnf) | (refine And.intro (show Kd.isBool _ = true from rfl) ?_; conv => whnf) | (refine ⟨rfl, Ints.idx (by assumption) (by omega) (by omega) (fun p hp => ?_)⟩; conv => whnf) | (refine ⟨rfl, Rows.idx (by assumption) (by omega) (by omega) (fun p y hp hy => ?_)⟩; conv => whnf) | (refine HArith.fits (by omega) (by omega) ?_; conv => whnf) | (refine Or.inl (And.intro (show Region.lexB _ _ = true by kernel_rfl) ?_); conv => whnf)))
  by_cases h2 : (a0.length : Int) ≤ n1
  · (repeat (first | (refine ⟨rfl, Ints.len (by assumption) ?_⟩; conv => whnf) | (refine ⟨rfl, Rows.len (by assumption) ?_⟩; conv => whnf) | (refine ⟨rfl, HLen.sl ?_⟩; conv => whnf) | (refine ⟨rfl, At.load (by assumption) ?_⟩; conv => whnf) | (refine HIf.yes ?_; conv => whnf) | (refine HIf.no ?_; conv => whnf) | (refine HIf.isT (by assumption) ?_; conv => whnf) | (refine HIf.isF (by assumption) ?_; conv => whnf) | (refine HIf.decT (by assumption) ?_; conv => whnf) | (refine HIf.decF (by assumption) ?_; conv => whnf) | (refine HIf.beqT (by assumption) ?_; conv => whnf) | (refine HIf.beqF (by assumption) ?_; conv => whnf) | (refine HIf.bneT (by assumption) ?_; conv => whnf) | (refine HIf.bneF (by assumption) ?_; conv => whnf) | (refine ⟨rfl, Ints.idxN (by assumption) (by omega) (fun p hp => ?_)⟩; conv => whnf) | (refine ⟨rfl, Rows.idxN (by assumption) (by omega) (fun p y hp hy => ?_)⟩; conv => whnf) | (refine And.intro (show Kd.isBool _ = true from rfl) ?_; conv => whnf) | (refine ⟨rfl, Ints.idx (by assumption) (by omega) (by omega) (fun p hp => ?_)⟩; conv => whnf) | (refine ⟨rfl, Rows.idx (by assumption) (by omega) (by omega) (fun p y hp hy => ?_)⟩; conv => whnf) | (refine HArith.fits (by omega) (by omega) ?_; conv => whnf) | (refine Or.inl (And.intro (show Region.lexB _ _ = true by kernel_rfl) ?_); conv => whnf)))
    rw [del_off h2]
    exact ⟨_, rfl, Fresh.of E1 O1⟩
  obtain ⟨i, rfl⟩ : ∃ i : Nat, n1 = i := ⟨n1.toNat, by omega⟩
  (repeat (first | (refine ⟨rfl, Ints.len (by assumption) ?_⟩; conv => whnf) | (refine ⟨rfl, Rows.len (by assumption) ?_⟩; conv => whnf) | (refine ⟨rfl, HLen.sl ?_⟩; conv => whnf) | (refine ⟨rfl, At.load (by assumption) ?_⟩; conv => whnf) | (refine HIf.yes ?_; conv => whnf) | (refine HIf.no ?_; conv => whnf) | (refine HIf.isT (by assumption) ?_; conv => whnf) | (refine HIf.isF (by assumption) ?_; conv => whnf) | (refine HIf.decT (by assumption) ?_; conv => whnf) | (refine HIf.decF (by assumption) ?_; conv => whnf) | (refine HIf.beqT (by assumption) ?_; conv => whnf) | (refine HIf.beqF (by assumption) ?_; conv => whnf) | (refine HIf.bneT (by assumption) ?_; conv => whnf) | (refine HIf.bneF (by assumption) ?_; conv => whnf) | (refine ⟨rfl, Ints.idxN (by assumption) (by omega) (fun p hp => ?_)⟩; conv => whnf) | (refine ⟨rfl, Rows.idxN (by assumption) (by omega) (fun p y hp hy => ?_)⟩; conv => whnf) | (refine And.intro (show Kd.isBool _ = true from rfl) ?_; conv => whnf) | (refine ⟨rfl, Ints.idx (by assumption) (by omega) (by omega) (fun p hp => ?_)⟩; conv => whnf) | (refine ⟨rfl, Rows.idx (by assumption) (by omega) (by omega) (fun p y hp hy => ?_)⟩; conv => whnf) | (refine HArith.fits (by omega) (by omega) ?_; conv => whnf) | (refine Or.inl (And.intro (show Region.lexB _ _ = true by kernel_rfl) ?_); conv => whnf)))
  refine (lib_Delete _ r _ _ i O (by omega) s0).mono ?_
  rintro v h3 ⟨y, rfl, B, O3⟩
  rw [← del_at] at O3
  (conv => whnf)
  exact ⟨_, rfl, Fresh.ofRow (E1.but B hr1) O3 hr1⟩

theorem impl_DeleteAt (h : Heap) (x0 : H0) (a0 : List Int) (n1 : Int) (hx0 : Ints h x0 a0) (s0 : a0.length ≤ 1048576) (_s1 : -9223372036854775808 ≤ n1 ∧ n1 ≤ 9223372036854775807) :
    HCalls dm Try.prog 30 [.s x0, I n1] h (fun r h' => ∃ y, r = .s y ∧ Fresh h h' y (del a0 n1)) := impl_DeleteAt0 h x0 a0 n1 hx0 s0

end Go.Proofs.Ytkkniibnlniflaa.Hx

namespace Go.Proofs.Ytkkniibnlniflaa.Hx
open Go.RowKit
variable {dm : Bool}

/-- Rows that are given up say nothing. -/
theorem Rep.soft {B0 : Nat} {φ : Plan} {h h' : Heap} {w : World} (R : Rep B0 φ h w) (hl : h'.length = h.length) (h1 : ∀ (r : Nat) (cs : List H0), h'[r]? = some (Row.ro cs) → h[r]? = some (Row.ro cs)) (h2 : ∀ (r : Nat) (cs : List H0), h'[r]? = some (Row.own cs) → h[r]? = some (Row.own cs))
    (h3 : ∀ (r : Nat) (so : Bool) (ks : List Key), h'[r]? = some (Row.keys so ks) → h[r]? = some (Row.keys so ks)) : Rep B0 φ h' w :=
  ⟨R.len.trans hl.symm, R.base, fun r cs p a b => R.ro r cs p (h1 r cs a) b, fun r cs p a b => R.own r cs p (h2 r cs a) b, fun r r' cs cs' p p' n a a' b b' => R.apart r r' cs cs' p p' n (h2 _ _ a) (h2 _ _ a') b b',
    fun r so ks p a b => R.keys r so ks p (h3 _ _ _ a) b, fun r r' so so' ks ks' p p' n a a' b b' => R.apartK r r' so so' ks ks' p p' n (h3 _ _ _ a) (h3 _ _ _ a') b b', R.tab⟩

def softRow : Row → Row
  | .ro _ => .gone
  | x => x

/-- A call that makes a slice, in a region that draws its order. -/
theorem HCallF.fresh {P : Program} {k : FuncId} {args : List HV} {h : Heap} {K : HV → Heap → Prop} {l : List Int} (hc : HCalls dm P k args (freeze h) (fun r h' => ∃ y, r = .s y ∧ Fresh (freeze h) h' y l))
    (hK : ∀ h' y, Fresh h h' y l → K (.s y) h') : HCallF dm P k args h K := by
  refine ⟨⟨hc.enters, fun B0 φ w vargs R a => (hc.out B0 φ w vargs R a).mono ?_⟩⟩
  rintro e w' ⟨v, x, h', φ', rfl, ⟨y, rfl, E, r, t, rfl, hr1, hr2⟩, g2, g3, g4, g5⟩
  have hfl := freeze_length h
  have hEl := E.1
  have hr3 := get_lt hr2
  have hget : ∀ (q : Nat) (x : Row), (freeze h ++ (h'.drop h.length).map softRow)[q]? = some x → x ≠ .gone → h'[q]? = some x := fun q x hx hne => by
    by_cases hq : q < h.length
    · rw [List.getElem?_append_left (by omega)] at hx
      rw [E.2 q (by omega)]
      exact hx
    · rw [List.getElem?_append_right (by omega), List.getElem?_map, List.getElem?_drop] at hx
      have e : h.length + (q - (freeze h).length) = q := by omega
      rw [e] at hx
      cases hh : h'[q]? with
      | none => rw [hh] at hx; cases hx
      | some z =>
        rw [hh] at hx
        cases z <;> simp [softRow] at hx
        · exact absurd hx.symm hne
        · rw [hx]
        · exact absurd hx.symm hne
        · rw [hx]
  have hrow : ∀ g : Heap, g.length = h.length → (g ++ (h'.drop h.length).map softRow)[r]? = some (.own (l.map ci ++ t)) := fun g hg => by
    rw [List.getElem?_append_right (by omega), List.getElem?_map, List.getElem?_drop]
    have e : h.length + (r - g.length) = r := by omega
    rw [e, hr2]
    rfl
  refine ⟨v, _, freeze h ++ (h'.drop h.length).map softRow, φ', rfl, ⟨(h'.drop h.length).map softRow, rfl, fun z hz => ?_, hK _ _ ⟨Ext.push _ _, r, t, rfl, by omega, hrow h rfl⟩⟩, g2, ?_, g4, g5⟩
  · obtain ⟨z0, _, rfl⟩ := List.mem_map.1 hz
    cases z0 <;> rfl
  · exact g3.soft (by simp; omega) (fun q cs hq => hget q _ hq (by simp)) (fun q cs hq => hget q _ hq (by simp)) (fun q so ks hq => hget q _ hq (by simp))

theorem HArith.to {e e' : Int} {K : HV → Prop} (h : e = e') (h1 : -9223372036854775808 ≤ e') (h2 : e' ≤ 9223372036854775807) (hK : K (I e')) : HArith .i64 e K := by
  subst h
  exact HArith.fits h1 h2 hK

theorem At.own {h : Heap} {r : Nat} {x : H0} (hr : h[r]? = some (.own [x])) : At h (.ptr r 0) x := ⟨r, 0, _, [x], rfl, hr, rfl, rfl⟩

def indexOf (L : List (List Int)) (w : List Int) : Int := if L.findIdx (fun l => decide (l = w)) < L.length then (L.findIdx (fun l => decide (l = w)) : Nat) else -1

theorem indexOf_at {L : List (List Int)} {w : List Int} {i : Nat} (hi : i < L.length) (h : L.getD i [] = w) (hb : ∀ k, k < i → L.getD k [] ≠ w) : indexOf L w = i := by
  have e : L.findIdx (fun l => decide (l = w)) = i := by
    rw [List.findIdx_eq hi]
    refine ⟨by simpa [List.getD, hi] using h, fun j hj => ?_⟩
    have := hb j hj
    have hjl : j < L.length := by omega
    simpa [List.getD, hjl] using this
  unfold indexOf
  rw [e, if_pos hi]
theorem indexOf_none {L : List (List Int)} {w : List Int} (hb : ∀ k, k < L.length → L.getD k [] ≠ w) : indexOf L w = -1 := by
  have e : L.findIdx (fun l => decide (l = w)) = L.length := by
    rw [List.findIdx_eq_length]
    intro x hx
    obtain ⟨k, hk, rfl⟩ := List.getElem_of_mem hx
    have := hb k hk
    simpa [List.getD, hk] using this
  unfold indexOf
  rw [e, if_neg (by omega)]

theorem lettersOk_app (c : List (List Int)) (a b : List Int) : lettersOk c (a ++ b) = (lettersOk c a && lettersOk c b) := by simp [lettersOk, List.all_append]

def commute (c : List (List Int)) (a b : List Int) : Bool := isWord c a && isWord c b && decide (imageOf c (a ++ b) = imageOf c (b ++ a))

theorem flat_len : ∀ L : List (List Int), L.flatten.length = tot L
  | [] => rfl
  | l :: L => by rw [List.flatten_cons, List.length_append, flat_len L]; rfl
theorem flat_succ (L : List (List Int)) {k : Nat} (h : k < L.length) : (L.take (k + 1)).flatten = (L.take k).flatten ++ L.getD k [] := by
  rw [List.take_succ_eq_append_getElem h, List.flatten_append]
  simp [List.getD, h]
theorem tot_none_row {L : List (List Int)} (h : tot L = 0) (k : Nat) (hk : k < L.length) : L.getD k [] = [] := by
  have := len_le_tot hk
  exact List.length_eq_zero_iff.1 (by omega)
theorem flat_none {L : List (List Int)} (h : tot L = 0) : L.flatten = [] := List.length_eq_zero_iff.1 (by rw [flat_len]; exact h)

theorem tot_three (a b : List Int) : tot [[], a, b] = a.length + b.length := by simp [tot]

theorem Ints.nil (h : Heap) : Ints h (.pl (.slice none 0 0)) [] := Shows.nils none 0

theorem HApp.nilNil {h : Heap} {x : H0} {K : HV → Heap → Prop} (hx : Ints h x []) (hK : K (.s (.pl (.slice none 0 0))) h) : HApp h (.s (.pl (.slice none 0 0))) (.s x) K :=
  ⟨[], hx, by simp, by simp, by simpa using hK⟩

theorem Own.more {hb h : Heap} {x y : H0} {l m : List Int} {K : HV → Heap → Prop} (E : Ext hb h) (H : Own hb.length h.length h y l) (hx : Ints h x m) (hl : l.length + m.length ≤ 2199023255552)
    (hK : ∀ h' y', Ext hb h' → Own hb.length h'.length h' y' (l ++ m) → K (.s y') h') : HApp h (.s y) (.s x) K := by
  obtain ⟨r, h1, h2, O⟩ := H.row
  refine HApp.moreR O hx hl (fun h' r' y' B hr' O' => hK h' y' (E.but B h1) (O'.own ?_))
  have := E.1
  omega

/-- Slices in a literal. -/
theorem Rows.lit {h : Heap} {xs : List H0} {L : List (List Int)} (hl : xs.length = L.length) (hx : ∀ (i : Nat) (y : H0) (l : List Int), xs[i]? = some y → L[i]? = some l → Ints h y l) : Rows (h ++ [.own xs]) (.sl h.length 0 xs.length) L := by
  refine ⟨xs, ?_, hl, fun i y l a b => (hx i y l a b).ext (Ext.push _ _)⟩
  have := Shows.own h.length 0 xs.length xs (get_new h (.own xs)) (by omega)
  simpa using this

theorem Ints.one {h : Heap} {x : H0} {l : List Int} (H : Ints h x l) : x.one = true := by
  unfold Ints at H
  generalize l.map ci = L at H
  cases H <;> rfl

theorem three_one {r : Nat} {x y : H0} (hx : x.one = true) (hy : y.one = true) : ∀ c ∈ [H0.sl r 0 0, x, y], c.one = true := by
  intro c hc
  simp only [List.mem_cons, List.not_mem_nil, or_false] at hc
  rcases hc with rfl | rfl | rfl
  · rfl
  · exact hx
  · exact hy

theorem Rows.three {h : Heap} {x y z : H0} {a b c : List Int} (hx : Ints h x a) (hy : Ints h y b) (hz : Ints h z c) : Rows (h ++ [.own [x, y, z]]) (.sl h.length 0 3) [a, b, c] := by
  refine Rows.lit (xs := [x, y, z]) rfl (fun i u l h1 h2 => ?_)
  match i with
  | 0 => simp at h1 h2; subst h1; subst h2; exact hx
  | 1 => simp at h1 h2; subst h1; subst h2; exact hy
  | 2 => simp at h1 h2; subst h1; subst h2; exact hz
  | i + 3 => simp at h1



theorem spec_ConcatWords (h : Heap) (x0 : H0) (a0 : List Int) (x1 : H0) (a1 : List Int) (hx0 : Ints h x0 a0) (hx1 : Ints h x1 a1) (s0 : a0.length ≤ 1048576) (s1 : a1.length ≤ 1048576) :
    HCalls dm Try.prog 31 [.s x0, .s x1] h (fun r h' => ∃ y, r = .s y ∧ Fresh h h' y (a0 ++ a1)) := by
  refine calls_of_hFun (m := 0) kd_ok mixed Try.func31 rfl (by kernel_rfl) rfl rfl (of_decide_eq_true rfl) ?_; unfold hFun; (conv => whnf)
  refine HLit.empty ?_
  (conv => whnf)
  refine ⟨rfl, rfl, HApp.copy hx0 (by omega) (fun h1 y1 E1 O1 => ?_)⟩
  (conv => whnf)
  refine ⟨rfl, rfl, Own.more E1 O1 (hx1.ext E1) (by omega) (fun h2 y2 E2 O2 => ?_)⟩
  (conv => whnf)
  exact ⟨_, rfl, Fresh.of E2 O2⟩

theorem lib_Grow (h : Heap) (n : Nat) (hn : n ≤ 2199023255552) :
    HCalls dm Try.prog 165 [.s (.pl (.slice none 0 0)), I n] h (fun r h' => (n = 0 ∧ r = .s (.pl (.slice none 0 0)) ∧ h' = h) ∨ (0 < n ∧ ∃ y, r = .s y ∧ Fresh h h' y [])) := by
  refine calls_of_hFun (m := 0) kd_ok mixed Try.func165 rfl (by kernel_rfl) rfl rfl (of_decide_eq_true rfl) ?_; unfold hFun; (conv => whnf)
  (repeat (first | (refine ⟨rfl, Ints.len (by assumption) ?_⟩; conv => whnf) | (refine ⟨rfl, Rows.len (by assumption) ?_⟩; conv => whnf) | (refine ⟨rfl, HLen.sl ?_⟩; conv => whnf) | (refine ⟨rfl, At.load (by assumption) ?_⟩; conv => whnf) | (refine HIf.yes ?_; conv => whnf) | (refine HIf.no ?_; conv => whnf) | (refine HIf.isT (by assumption) ?_; conv => whnf) | (refine HIf.isF (by assumption) ?_; conv => whnf) | (refine HIf.decT (by assumption) ?_; conv => whnf) | (refine HIf.decF (by assumption) ?_; conv => whnf) | (refine HIf.beqT (by assumption) ?_; conv => whnf) | (refine HIf.beqF (by assumption) ?_; conv => whnf) | (refine HIf.bneT (by assumption) ?_; conv => whnf) | (refine HIf.bneF (by assumption) ?_; conv => whnf) | (refine ⟨rfl, Ints.idxN (by assumption) (by omega) (fun p hp => ?_)⟩; conv => whnf) | (refine ⟨rfl, Rows.idxN (by assumption) (by omega) (fun p y hp hy => ?_)⟩; conv => whnf) | (refine And.intro (show Kd.isBool _ = true from rfl) ?_; conv => whnf) | (refine ⟨rfl, Ints.idx (by assumption) (by omega) (by omega) (fun p hp => ?_)⟩; conv => whnf) | (refine ⟨rfl, Rows.idx (by assumption) (by omega) (by omega) (fun p y hp hy => ?_)⟩; conv => whnf) | (refine HArith.fits (by omega) (by omega) ?_; conv => whnf) | (refine Or.inl (And.intro (show Region.lexB _ _ = true by kernel_rfl) ?_); conv => whnf)))
  refine ⟨rfl, ⟨none, 0, 0, rfl, ?_⟩⟩
  (conv => whnf)
  refine ⟨rfl, ⟨0, rfl, ?_⟩⟩
  (conv => whnf)
  refine HArith.to (e' := 0) (by omega) (by omega) (by omega) ?_
  (conv => whnf)
  refine HArith.to (e' := (n : Int)) (by omega) (by omega) (by omega) ?_
  (conv => whnf)
  refine HIf.dec (fun hlt => ?_) (fun hge => ?_)
  · (conv => whnf)
    refine ⟨rfl, ⟨none, 0, 0, rfl, ?_⟩⟩
    (conv => whnf)
    refine ⟨rfl, ⟨0, 0, 0, rfl, Or.inl ⟨rfl, rfl⟩, Or.inr ⟨.i64, rfl⟩, Nat.le_refl _, Or.inl (Nat.le_refl _), ?_⟩⟩
    (conv => whnf)
    refine ⟨⟨.i64, n, rfl, rfl, by omega, hn, ?_⟩⟩
    (conv => whnf)
    refine ⟨rfl, ⟨0, rfl, ?_⟩⟩
    (conv => whnf)
    refine ⟨rfl, ⟨n, 0, 0, rfl, Or.inl ⟨rfl, rfl⟩, Or.inr ⟨.i64, rfl⟩, Nat.le_refl _, Or.inl (Nat.zero_le _), ?_⟩⟩
    (conv => whnf)
    exact Or.inr ⟨by omega, _, rfl, Ext.push _ _, h.length, List.replicate n (.pl (.int .i64 0)), rfl, Nat.le_refl _, get_new _ _⟩
  · (conv => whnf)
    exact Or.inl ⟨by omega, rfl, rfl⟩

theorem lib_Concat (h : Heap) (x : H0) (L : List (List Int)) (hx : Rows h x L) (hL : L.length ≤ 4194304 ∧ tot L ≤ 4194304) :
    HCalls dm Try.prog 143 [.s x] h (fun r h' => ∃ y, r = .s y ∧ Ext h h' ∧ Ints h' y L.flatten ∧ (0 < tot L → Fresh h h' y L.flatten)) := by
  refine calls_of_hFun (m := 0) kd_ok mixed Try.func143 rfl (by kernel_rfl) rfl rfl (of_decide_eq_true rfl) ?_; unfold hFun; (conv => whnf)
  refine ⟨rfl, hx.len ?_⟩
  (conv => whnf)
  refine HLoop.intro [11, 3] [12, 13, 14, 5, 15, 16, 17, 18, 3, 19, 20, 21, 22, 11] (by kernel_rfl) (by kernel_rfl) (fun vs h' => ∃ k : Nat, vs = [I k, I (tot (L.take k))] ∧ k ≤ L.length ∧ h' = h) (fun vs _ => L.length - natAt vs 0) ⟨0, rfl, by omega, rfl⟩ ?_
  rintro vs h' ⟨k, rfl, hk, hh⟩
  subst h'
  (conv => whnf)
  refine HIf.dec (fun hlt => ?_) (fun hge => ?_)
  · have hle := len_le_tot (L := L) (i := k) (by omega)
    have hs := tot_succ L k (by omega)
    (conv => whnf)
    refine ⟨rfl, Rows.idxN hx (by omega) (fun p z hp hz => ?_)⟩
    (conv => whnf)
    refine ⟨rfl, hp.load ?_⟩
    (conv => whnf)
    refine ⟨rfl, hz.len ?_⟩
    (conv => whnf)
    refine HArith.fits (by omega) (by omega) ?_
    (conv => whnf)
    refine HIf.decF (by omega) ?_
    (conv => whnf)
    refine HArith.fits (by omega) (by omega) ?_
    (conv => whnf)
    have e : ((tot (L.take k) : Nat) : Int) + ((L.getD k []).length : Nat) = ((tot (L.take (k + 1)) : Nat) : Int) := by omega
    rw [e]
    exact ⟨⟨k + 1, rfl, by omega, rfl⟩, by show L.length - (k + 1) < L.length - k; omega⟩
  have e : k = L.length := by omega
  subst e
  rw [List.take_length]
  (conv => whnf)
  refine (lib_Grow _ (tot L) (by omega)).mono ?_
  rintro r h1 (⟨h0, rfl, hh⟩ | ⟨h0, y0, rfl, f0⟩)
  · subst h1
    (conv => whnf)
    refine ⟨rfl, hx.len ?_⟩
    (conv => whnf)
    refine HLoop.intro [27, 6] [28, 29, 30, 8, 31, 32, 33, 6, 34, 27] (by kernel_rfl) (by kernel_rfl) (fun vs h' => ∃ k : Nat, vs = [I k, .s (.pl (.slice none 0 0))] ∧ k ≤ L.length ∧ h' = h) (fun vs _ => L.length - natAt vs 0) ⟨0, rfl, by omega, rfl⟩ ?_
    rintro vs h' ⟨k, rfl, hk, hh⟩
    subst h'
    (conv => whnf)
    refine HIf.dec (fun hlt => ?_) (fun hge => ?_)
    · (conv => whnf)
      refine ⟨rfl, Rows.idxN hx (by omega) (fun p z hp hz => ?_)⟩
      rw [tot_none_row h0 k (by omega)] at hz
      (conv => whnf)
      refine ⟨rfl, hp.load ?_⟩
      (conv => whnf)
      refine ⟨rfl, rfl, HApp.nilNil hz ?_⟩
      (conv => whnf)
      refine HArith.fits (by omega) (by omega) ?_
      (conv => whnf)
      exact ⟨⟨k + 1, rfl, by omega, rfl⟩, by show L.length - (k + 1) < L.length - k; omega⟩
    · (conv => whnf)
      rw [flat_none h0]
      exact ⟨_, rfl, Ext.refl _, Ints.nil _, fun h => by omega⟩
  · have hx1 := hx.ext f0.1
    (conv => whnf)
    refine ⟨rfl, hx1.len ?_⟩
    (conv => whnf)
    refine HLoop.intro [27, 6] [28, 29, 30, 8, 31, 32, 33, 6, 34, 27] (by kernel_rfl) (by kernel_rfl) (fun vs h' => ∃ (k : Nat) (z : H0), vs = [I k, .s z] ∧ k ≤ L.length ∧ Ext h h' ∧ Own h.length h'.length h' z (L.take k).flatten) (fun vs _ => L.length - natAt vs 0) ⟨0, _, rfl, by omega, f0.1, f0.own⟩ ?_
    rintro vs h' ⟨k, z, rfl, hk, E, O⟩
    have hx := hx.ext E
    (conv => whnf)
    refine HIf.dec (fun hlt => ?_) (fun hge => ?_)
    · have hle := len_le_tot (L := L) (i := k) (by omega)
      have hfl := flat_len (L.take k)
      (conv => whnf)
      refine ⟨rfl, Rows.idxN hx (by omega) (fun p y hp hy => ?_)⟩
      (conv => whnf)
      refine ⟨rfl, hp.load ?_⟩
      (conv => whnf)
      refine ⟨rfl, rfl, Own.more E O hy (by omega) (fun h2 y2 E2 O2 => ?_)⟩
      rw [← flat_succ L (by omega)] at O2
      (conv => whnf)
      refine HArith.fits (by omega) (by omega) ?_
      (conv => whnf)
      exact ⟨⟨k + 1, y2, rfl, by omega, E2, O2⟩, by show L.length - (k + 1) < L.length - k; omega⟩
    · have e : k = L.length := by omega
      subst e
      rw [List.take_length] at O
      (conv => whnf)
      exact ⟨_, rfl, E, O.ints, fun _ => Fresh.of E O⟩

theorem impl_ConcatWords (h : Heap) (x0 : H0) (a0 : List Int) (x1 : H0) (a1 : List Int) (hx0 : Ints h x0 a0) (hx1 : Ints h x1 a1) (s0 : a0.length ≤ 1048576) (s1 : a1.length ≤ 1048576) :
    HCalls dm Try.prog 102 [.s x0, .s x1] h (fun r h' => ∃ y, r = .s y ∧ Ext h h' ∧ Ints h' y (a0 ++ a1)) := by
  have E := Ext.push h [Row.own []]
  have O := OwnR.push h []
  have E2 := E.trans (Ext.push (h ++ [Row.own []]) [Row.own [.sl h.length 0 0, x0, x1]])
  have ht := tot_three a0 a1
  refine calls_of_hFun (m := 0) kd_ok mixed Try.func102 rfl (by kernel_rfl) rfl rfl (of_decide_eq_true rfl) ?_; unfold hFun; (conv => whnf)
  refine HLit.empty ?_
  (conv => whnf)
  refine HLit.of (xs := [.sl h.length 0 0, x0, x1]) rfl (three_one hx0.one hx1.one) (by omega) ?_
  (conv => whnf)
  refine (lib_Concat _ _ [[], a0, a1] (Rows.three O.ints (hx0.ext E) (hx1.ext E)) ⟨by simp, by omega⟩).mono ?_
  rintro r h2 ⟨y, rfl, E3, hy, _⟩
  (conv => whnf)
  exact ⟨_, rfl, E2.trans E3, by simpa using hy⟩

end Go.Proofs.Ytkkniibnlniflaa.Hx
