/-
  Contracts of the descents of the reference, of reversed words, of words with a letter left out, of the program and of the reference.
  Contracts of words one behind the other, of places in lists of words, and of commuting words, of the program and of the reference; calls that make a slice, in a region that draws its order.
  Contracts of commuting words, of the roots of a word's letters and of the first two letters that can be left out, of the program and of the reference.
  Images of rho and the game of signs: no number is zero, and the reduction by first descents comes back. Plain theory on lists.
-/
import Derived.Test.YtjgnnjegaedinaaZ09
namespace Go.Proofs.Ytjgnnjegaedinaa.Hx
open Go.RowKit
variable {dm : Bool}

theorem HApp.snocR {r : Nat} {h : Heap} {y : H0} {l : List Int} {v : Int} {K : HV → Heap → Prop} (H : OwnR r h y l) (hl : l.length < 2199023255552)
    (hK : ∀ h' r' y', But r h h' → h.length ≤ r' → OwnR r' h' y' (l ++ [v]) → K (.s y') h') : HApp (h ++ [.own [ci v]]) (.s y) (.s (.sl h.length 0 1)) K :=
  HApp.litR [v] H (by simp; omega) hK

/-- A list without its entry at a place, if there is one. -/
def del (l : List Int) (n : Int) : List Int := if 0 ≤ n then l.eraseIdx n.toNat else l

theorem del_neg {l : List Int} {n : Int} (h : n < 0) : del l n = l := by
  unfold del
  rw [if_neg (by omega)]
theorem del_off {l : List Int} {n : Int} (h : (l.length : Int) ≤ n) : del l n = l := by
  unfold del
  split
  · exact List.eraseIdx_of_length_le (by omega)
  · rfl
theorem del_ne (l : List Int) (x n : Int) (h : (l.length : Int) ≠ n) : del (l ++ [x]) n = del l n ++ [x] := by
  unfold del
  split
  · by_cases h2 : n.toNat < l.length
    · rw [List.eraseIdx_append_of_lt_length h2]
    · rw [List.eraseIdx_of_length_le (by simp; omega), List.eraseIdx_of_length_le (by omega)]
  · rfl
theorem del_eq (l : List Int) (x : Int) : del (l ++ [x]) l.length = del l l.length := by
  unfold del
  have e : ((l.length : Nat) : Int).toNat = l.length := by omega
  rw [if_pos (by omega), if_pos (by omega), e, List.eraseIdx_append_of_length_le (Nat.le_refl _), List.eraseIdx_of_length_le (l := l) (Nat.le_refl _)]
  simp
theorem del_len (l : List Int) (n : Int) : (del l n).length ≤ l.length := by
  unfold del
  split
  · rw [List.length_eraseIdx]
    split <;> omega
  · exact Nat.le_refl _
theorem del_at (l : List Int) {i : Nat} : del l (i : Int) = l.take i ++ l.drop (i + 1) := by
  unfold del
  rw [if_pos (by omega), List.eraseIdx_eq_take_drop_succ]
  rfl
theorem del_none (n : Int) : del [] n = [] := by
  unfold del
  split
  · rfl
  · rfl
theorem take_snoc (w : List Int) {k : Nat} (h : k < w.length) : w.take (k + 1) = w.take k ++ [w.getD k 0] := by
  rw [List.take_succ_eq_append_getElem h]
  simp [List.getD, h]
theorem drop_rev (w : List Int) {k : Nat} (h : k < w.length) : (w.drop k).reverse = (w.drop (k + 1)).reverse ++ [w.getD k 0] := by
  rw [List.drop_eq_getElem_cons h]
  simp [List.getD, h]

/-- The first i and the last i numbers have changed places. -/
def revTo (l : List Int) (i : Nat) : List Int := (List.range l.length).map fun k => if k < i ∨ l.length ≤ k + i then l.getD (l.length - 1 - k) 0 else l.getD k 0

theorem revTo_length (l : List Int) (i : Nat) : (revTo l i).length = l.length := by simp [revTo]
theorem revTo_get (l : List Int) (i k : Nat) (h : k < l.length) (h1 : i ≤ k) (h2 : k + i < l.length) : (revTo l i).getD k 0 = l.getD k 0 := by
  unfold revTo
  simp only [List.getD, List.getElem?_map, List.getElem?_range h, Option.map_some, Option.getD_some]
  rw [if_neg (by omega)]
theorem revTo_none (l : List Int) : revTo l 0 = l := by
  apply List.ext_getElem (by simp [revTo])
  intro k h1 h2
  simp only [revTo, List.getElem_map, List.getElem_range]
  rw [if_neg (by omega)]
  simp [List.getD, h2]
theorem revTo_all (l : List Int) (i : Nat) (h : l.length ≤ 2 * i + 1) : revTo l i = l.reverse := by
  apply List.ext_getElem (by simp [revTo])
  intro k h1 h2
  simp only [revTo, List.getElem_map, List.getElem_range, List.getElem_reverse]
  have h2 : k < l.length := by simpa using h2
  split
  · have : l.length - 1 - k < l.length := by omega
    simp [List.getD, this]
  · have e : l.length - 1 - k = k := by omega
    simp [List.getD, e, h2]
theorem revTo_succ (l : List Int) (i : Nat) (h : 2 * i + 1 < l.length) : ((revTo l i).set i (l.getD (l.length - 1 - i) 0)).set (l.length - 1 - i) (l.getD i 0) = revTo l (i + 1) := by
  apply List.ext_getElem (by simp [revTo])
  intro k h1 h2
  have h2 : k < l.length := by simpa [revTo] using h2
  simp only [List.getElem_set, revTo, List.getElem_map, List.getElem_range]
  by_cases e1 : l.length - 1 - i = k
  · rw [if_pos e1, if_pos (by omega)]
    have : l.length - 1 - k = i := by omega
    rw [this]
  · rw [if_neg e1]
    by_cases e2 : i = k
    · subst e2
      rw [if_pos rfl, if_pos (by omega)]
    · rw [if_neg e2]
      by_cases e3 : k < i ∨ l.length ≤ k + i
      · rw [if_pos e3, if_pos (by omega)]
      · rw [if_neg e3, if_neg (by omega)]

/-- One number of one's own is written anew. -/
theorem OwnR.store {r : Nat} {h : Heap} {y : H0} {l : List Int} {i : Nat} {v : Int} (H : OwnR r h y l) (hi : i < l.length) :
    ∃ cs, y = .sl r 0 l.length ∧ h[r]? = some (.own cs) ∧ i < cs.length ∧ But r h (h.set r (.own (cs.set i (ci v)))) ∧ OwnR r (h.set r (.own (cs.set i (ci v)))) y (l.set i v) := by
  have hr' := H.lt
  obtain ⟨t, rfl, hr⟩ := H
  refine ⟨_, rfl, hr, by simp; omega, ⟨by simp, fun q _ hn => by rw [List.getElem?_set_ne (Ne.symm hn)]⟩, t, by simp, ?_⟩
  rw [List.getElem?_set_self hr', List.set_append_left _ _ (by simpa using hi), List.map_set]
theorem But.trans {r : Nat} {h h' h'' : Heap} (k : But r h h') (k2 : But r h' h'') : But r h h'' :=
  ⟨Nat.le_trans k.1 k2.1, fun q hq hn => by rw [k2.2 q (Nat.lt_of_lt_of_le hq k.1) hn]; exact k.2 q hq hn⟩
theorem But.refl (r : Nat) (h : Heap) : But r h h := ⟨Nat.le_refl _, fun _ _ _ => rfl⟩

theorem pair_eq {a b : Int} {k : Nat} (h1 : a = k) (h2 : b = k) : a = b := by omega


theorem spec_LeftDescents (h : Heap) (x0 : H0) (a0 : List (List Int)) (x1 : H0) (a1 : List Int) (hx0 : Rows h x0 a0) (hx1 : Ints h x1 a1) (s0 : a0.length ≤ 1048576 ∧ tot a0 ≤ 1048576) (s1 : a1.length ≤ 1048576) :
    HCalls dm Try.prog 32 [.s x0, .s x1] h (fun r h' => ∃ y, r = .s y ∧ Fresh h h' y (leftDescents a0 a1)) := by
  have E0 := Ext.push h [Row.own []]
  have O0 := OwnR.push h []
  refine calls_of_hFun (m := 0) kd_ok mixed Try.func32 rfl (by kernel_rfl) rfl rfl (of_decide_eq_true rfl) ?_; unfold hFun; (conv => whnf)
  refine HLit.empty ?_
  (conv => whnf)
  refine (spec_IsWord _ _ _ a0 a1 (hx0.ext E0) (hx1.ext E0) (by omega) (by omega)).mono ?_
  rintro r h1 ⟨rfl, rfl⟩
  (conv => whnf)
  cases hic : isWord a0 a1
  · (repeat (first | (refine ⟨rfl, Ints.len (by assumption) ?_⟩; conv => whnf) | (refine ⟨rfl, Rows.len (by assumption) ?_⟩; conv => whnf) | (refine ⟨rfl, HLen.sl ?_⟩; conv => whnf) | (refine ⟨rfl, At.load (by assumption) ?_⟩; conv => whnf) | (refine HIf.yes ?_; conv => whnf) | (refine HIf.no ?_; conv => whnf) | (refine HIf.isT (by assumption) ?_; conv => whnf) | (refine HIf.isF (by assumption) ?_; conv => whnf) | (refine HIf.decT (by assumption) ?_; conv => whnf) | (refine HIf.decF (by assumption) ?_; conv => whnf) | (refine HIf.beqT (by assumption) ?_; conv => whnf) | (refine HIf.beqF (by assumption) ?_; conv => whnf) | (refine HIf.bneT (by assumption) ?_; conv => whnf) | (refine HIf.bneF (by assumption) ?_; conv => whnf) | (refine ⟨rfl, Ints.idxN (by assumption) (by omega) (fun p hp => ?_)⟩; conv => whnf) | (refine ⟨rfl, Rows.idxN (by assumption) (by omega) (fun p y hp hy => ?_)⟩; conv => whnf) | (refine And.intro (show Kd.isBool _ = true from rfl) ?_; conv => whnf) | (refine ⟨rfl, Ints.idx (by assumption) (by omega) (by omega) (fun p hp => ?_)⟩; conv => whnf) | (refine ⟨rfl, Rows.idx (by assumption) (by omega) (by omega) (fun p y hp hy => ?_)⟩; conv => whnf) | (refine HArith.fits (by omega) (by omega) ?_; conv => whnf) | (refine Or.inl (And.intro (show Region.lexB _ _ = true by kernel_rfl) ?_); conv => whnf)))
    exact ⟨_, rfl, Fresh.none _ (leftDescents_off hic)⟩
  have wc := word_cartan hic
  have hcl := wc.1.le
  rw [leftDescents_on hic]
  (repeat (first | (refine ⟨rfl, Ints.len (by assumption) ?_⟩; conv => whnf) | (refine ⟨rfl, Rows.len (by assumption) ?_⟩; conv => whnf) | (refine ⟨rfl, HLen.sl ?_⟩; conv => whnf) | (refine ⟨rfl, At.load (by assumption) ?_⟩; conv => whnf) | (refine HIf.yes ?_; conv => whnf) | (refine HIf.no ?_; conv => whnf) | (refine HIf.isT (by assumption) ?_; conv => whnf) | (refine HIf.isF (by assumption) ?_; conv => whnf) | (refine HIf.decT (by assumption) ?_; conv => whnf) | (refine HIf.decF (by assumption) ?_; conv => whnf) | (refine HIf.beqT (by assumption) ?_; conv => whnf) | (refine HIf.beqF (by assumption) ?_; conv => whnf) | (refine HIf.bneT (by assumption) ?_; conv => whnf) | (refine HIf.bneF (by assumption) ?_; conv => whnf) | (refine ⟨rfl, Ints.idxN (by assumption) (by omega) (fun p hp => ?_)⟩; conv => whnf) | (refine ⟨rfl, Rows.idxN (by assumption) (by omega) (fun p y hp hy => ?_)⟩; conv => whnf) | (refine And.intro (show Kd.isBool _ = true from rfl) ?_; conv => whnf) | (refine ⟨rfl, Ints.idx (by assumption) (by omega) (by omega) (fun p hp => ?_)⟩; conv => whnf) | (refine ⟨rfl, Rows.idx (by assumption) (by omega) (by omega) (fun p y hp hy => ?_)⟩; conv => whnf) | (refine HArith.fits (by omega) (by omega) ?_; conv => whnf) | (refine Or.inl (And.intro (show Region.lexB _ _ = true by kernel_rfl) ?_); conv => whnf)))
  refine (spec_l8Image _ _ a0 _ a1 (hx0.ext E0) (hx1.ext E0) ((isCartan_iff a0).2 wc.1) wc.2.2 s1).mono ?_
  rintro r h2 ⟨y1, rfl, f1⟩
  have hvl := imageOf_length a0 a1
  have O1 := O0.ext f1.1
  have E1 := E0.trans f1.1
  obtain ⟨ri, hri, oi⟩ := f1.row
  simp only [List.length_append, List.length_cons, List.length_nil] at hri
  generalize imageOf a0 a1 = v at *
  (conv => whnf)
  refine HLoop.intro [7, 5] [17, 18, 19, 20, 23, 24, 25, 26, 27, 28, 29, 30, 31, 5, 21, 22, 7] (by kernel_rfl) (by kernel_rfl) (fun vs h' => ∃ (k : Nat) (z : H0) (r : Nat), vs = [I k, .s z] ∧ k ≤ v.length ∧ Ext h h' ∧ h.length ≤ r ∧ r ≠ ri ∧ OwnR r h' z (descs v k) ∧ OwnR ri h' y1 v) (fun vs _ => v.length - natAt vs 0) ⟨0, _, h.length, rfl, by omega, E1, Nat.le_refl _, by omega, O1, oi⟩ ?_
  rintro vs h' ⟨k, z, r, rfl, hk, E, hr, hn, O, oi⟩
  have hdl := descs_le v k
  have hx := oi.ints
  (conv => whnf)
  refine ⟨rfl, hx.len ?_⟩
  (conv => whnf)
  refine HIf.dec (fun hlt => ?_) (fun hge => ?_)
  · (conv => whnf)
    (repeat (first | (refine ⟨rfl, Ints.len (by assumption) ?_⟩; conv => whnf) | (refine ⟨rfl, Rows.len (by assumption) ?_⟩; conv => whnf) | (refine ⟨rfl, HLen.sl ?_⟩; conv => whnf) | (refine ⟨rfl, At.load (by assumption) ?_⟩; conv => whnf) | (refine HIf.yes ?_; conv => whnf) | (refine HIf.no ?_; conv => whnf) | (refine HIf.isT (by assumption) ?_; conv => whnf) | (refine HIf.isF (by assumption) ?_; conv => whnf) | (refine HIf.decT (by assumption) ?_; conv => whnf) | (refine HIf.decF (by assumption) ?_; conv => whnf) | (refine HIf.beqT (by assumption) ?_; conv => whnf) | (refine HIf.beqF (by assumption) ?_; conv => whnf) | (refine HIf.bneT (by assumption) ?_; conv => whnf) | (refine HIf.bneF (by assumption) ?_; conv => whnf) | (refine ⟨rfl, Ints.idxN (by assumption) (by omega) (fun p hp => ?_)⟩; conv => whnf) | (refine ⟨rfl, Rows.idxN (by assumption) (by omega) (fun p y hp hy => ?_)⟩; conv => whnf) | (refine And.intro (show Kd.isBool _ = true from rfl) ?_; conv => whnf) | (refine ⟨rfl, Ints.idx (by assumption) (by omega) (by omega) (fun p hp => ?_)⟩; conv => whnf) | (refine ⟨rfl, Rows.idx (by assumption) (by omega) (by omega) (fun p y hp hy => ?_)⟩; conv => whnf) | (refine HArith.fits (by omega) (by omega) ?_; conv => whnf) | (refine Or.inl (And.intro (show Region.lexB _ _ = true by kernel_rfl) ?_); conv => whnf)))
    refine HIf.dec (fun hneg => ?_) (fun hpos => ?_)
    · (conv => whnf)
      refine HLit.one ?_
      (conv => whnf)
      refine ⟨rfl, rfl, HApp.snocR O (by omega) (fun h3 r3 y3 B3 hr3 O3 => ?_)⟩
      have := oi.lt
      rw [← descs_in v k hneg] at O3
      (conv => whnf)
      refine HArith.fits (by omega) (by omega) ?_
      (conv => whnf)
      exact ⟨⟨k + 1, y3, r3, rfl, by omega, E.but B3 hr, by have := E.1; omega, by omega, O3, oi.but B3 (Ne.symm hn)⟩, by show v.length - (k + 1) < v.length - k; omega⟩
    · rw [← descs_out v k hpos] at O
      (conv => whnf)
      refine HArith.fits (by omega) (by omega) ?_
      (conv => whnf)
      exact ⟨⟨k + 1, z, r, rfl, by omega, E, hr, hn, O, oi⟩, by show v.length - (k + 1) < v.length - k; omega⟩
  · (conv => whnf)
    have e : k = v.length := by omega
    subst e
    exact ⟨_, rfl, Fresh.ofRow E O hr⟩

theorem spec_ReverseWord (h : Heap) (x0 : H0) (a0 : List Int) (hx0 : Ints h x0 a0) (s0 : a0.length ≤ 1048576) :
    HCalls dm Try.prog 73 [.s x0] h (fun r h' => ∃ y, r = .s y ∧ Fresh h h' y a0.reverse) := by
  have E0 := Ext.push h [Row.own []]
  have O0 := OwnR.push h []
  have hx00 := hx0.ext E0
  refine calls_of_hFun (m := 0) kd_ok mixed Try.func73 rfl (by kernel_rfl) rfl rfl (of_decide_eq_true rfl) ?_; unfold hFun; (conv => whnf)
  refine HLit.empty ?_
  (conv => whnf)
  refine ⟨rfl, hx00.len ?_⟩
  (conv => whnf)
  refine HArith.fits (by omega) (by omega) ?_
  (conv => whnf)
  refine HLoop.intro [4, 3] [9, 10, 13, 14, 15, 16, 17, 18, 19, 3, 11, 12, 4] (by kernel_rfl) (by kernel_rfl) (fun vs h' => ∃ (k : Nat) (z : H0) (r : Nat), vs = [I ((k : Int) - 1), .s z] ∧ k ≤ a0.length ∧ Ext h h' ∧ h.length ≤ r ∧ OwnR r h' z (a0.drop k).reverse) (fun vs _ => (intAt vs 0 + 1).toNat) ⟨a0.length, _, h.length, rfl, by omega, E0, Nat.le_refl _, by rw [List.drop_length]; exact O0⟩ ?_
  rintro vs h' ⟨k, z, r, rfl, hk, E, hr, O⟩
  have hx0 := hx0.ext E
  (conv => whnf)
  refine HIf.dec (fun hlt => ?_) (fun hge => ?_)
  · obtain ⟨m, rfl⟩ : ∃ m, k = m + 1 := ⟨k - 1, by omega⟩
    have e1 : (((m + 1 : Nat) : Int) - 1).toNat = m := by omega
    have hd := drop_rev a0 (k := m) (by omega)
    (conv => whnf)
    refine ⟨rfl, Ints.idx hx0 (by omega) (by omega) (fun p hp => ?_)⟩
    rw [e1] at hp
    (conv => whnf)
    refine ⟨rfl, hp.load ?_⟩
    (conv => whnf)
    refine HLit.one ?_
    (conv => whnf)
    refine ⟨rfl, rfl, HApp.snocR O (by simp; omega) (fun h3 r3 y3 B3 hr3 O3 => ?_)⟩
    rw [← hd] at O3
    (conv => whnf)
    refine HArith.fits (by omega) (by omega) ?_
    (conv => whnf)
    have e3 : ((m + 1 : Nat) : Int) - 1 - 1 = (m : Int) - 1 := by omega
    exact ⟨⟨m, y3, r3, by rw [← e3]; rfl, by omega, E.but B3 hr, by have := E.1; omega, O3⟩, by show (((m + 1 : Nat) : Int) - 1 - 1 + 1).toNat < (((m + 1 : Nat) : Int) - 1 + 1).toNat; omega⟩
  · have e : k = 0 := by omega
    subst e
    rw [List.drop_zero] at O
    (conv => whnf)
    exact ⟨_, rfl, Fresh.ofRow E O hr⟩

theorem lib_Reverse (h : Heap) (r : Nat) (x : H0) (l : List Int) (hx : OwnR r h x l) (hl : l.length ≤ 1048576) :
    HCalls dm Try.prog 61 [.s x] h (fun _ h' => But r h h' ∧ OwnR r h' x l.reverse) := by
  refine calls_of_hFun (m := 0) kd_ok mixed Try.func61 rfl (by kernel_rfl) rfl rfl (of_decide_eq_true rfl) ?_; unfold hFun; (conv => whnf)
  refine ⟨rfl, hx.ints.len ?_⟩
  (conv => whnf)
  refine HArith.fits (by omega) (by omega) ?_
  (conv => whnf)
  refine HLoop.intro [2, 3] [7, 8, 9, 14, 15, 16, 17, 18, 19, 20, 21, 22, 23, 24, 25, 26, 27, 10, 11, 12, 13, 2, 3] (by kernel_rfl) (by kernel_rfl) (fun vs h' => ∃ (i : Nat) (j : Int), vs = [I i, I j] ∧ j = (l.length : Int) - 1 - i ∧ 2 * i ≤ l.length ∧ But r h h' ∧ OwnR r h' x (revTo l i)) (fun vs _ => l.length - natAt vs 0) ⟨0, (l.length : Int) - 1, rfl, by omega, by omega, But.refl _ _, by rw [revTo_none]; exact hx⟩ ?_
  rintro vs h' ⟨i, j, rfl, hj0, hi, B, O⟩
  have hrl := revTo_length l i
  (conv => whnf)
  refine HIf.dec (fun hlt => ?_) (fun hge => ?_)
  · have hj : j = ((l.length - 1 - i : Nat) : Int) := by omega
    have g1 := revTo_get l i i (by omega) (by omega) (by omega)
    have g2 := revTo_get l i (l.length - 1 - i) (by omega) (by omega) (by omega)
    have hs := revTo_succ l i (by omega)
    obtain ⟨cs, e1, e2, e3, B2, O2⟩ := O.store (i := i) (v := l.getD (l.length - 1 - i) 0) (by omega)
    obtain ⟨cs', e1', e2', e3', B3, O3⟩ := O2.store (i := l.length - 1 - i) (v := l.getD i 0) (by simp; omega)
    rw [hs] at O3
    rw [hrl] at e1
    subst e1
    subst hj
    (conv => whnf)
    refine Or.inr (Or.inr (Or.inl (Exists.intro 13 (Exists.intro [0, 1, 2, 3, 4, 5, 6, 7, 8, 9, 10, 11, 12] (Exists.intro [13, 14, 15] (And.intro (show heldOk _ _ _ _ = true by kernel_rfl) ?_)))))); (conv => whnf)
    refine ⟨rfl, Ints.idxN O.ints (by omega) (fun p hp => ?_)⟩
    rw [g2] at hp
    (conv => whnf)
    refine ⟨rfl, hp.load ?_⟩
    (conv => whnf)
    refine ⟨rfl, Ints.idxN O.ints (by omega) (fun p2 hp2 => ?_)⟩
    rw [g1] at hp2
    (conv => whnf)
    refine ⟨rfl, hp2.load ?_⟩
    (conv => whnf)
    refine ⟨rfl, HIdx.sl (by omega) (by omega) ?_⟩
    (conv => whnf)
    have e0 : 0 + (i : Int).toNat = i := by omega
    rw [e0]
    refine ⟨rfl, HStore.own e2 (by omega) rfl ?_⟩
    (conv => whnf)
    refine ⟨rfl, HIdx.sl (by omega) (by omega) ?_⟩
    (conv => whnf)
    have e00 : 0 + ((l.length - 1 - i : Nat) : Int).toNat = l.length - 1 - i := by omega
    rw [e00]
    refine ⟨rfl, HStore.own e2' (by omega) rfl ?_⟩
    (conv => whnf)
    refine HArith.fits (by omega) (by omega) ?_
    (conv => whnf)
    refine HArith.fits (by omega) (by omega) ?_
    (conv => whnf)
    exact ⟨⟨i + 1, _, rfl, by omega, by omega, (B.trans B2).trans B3, O3⟩, by show l.length - (i + 1) < l.length - i; omega⟩
  · rw [revTo_all l i (by omega)] at O
    (conv => whnf)
    exact ⟨B, O⟩

theorem impl_ReverseWord (h : Heap) (x0 : H0) (a0 : List Int) (hx0 : Ints h x0 a0) (s0 : a0.length ≤ 1048576) :
    HCalls dm Try.prog 72 [.s x0] h (fun r h' => ∃ y, r = .s y ∧ Fresh h h' y a0.reverse) := by
  refine calls_of_hFun (m := 0) kd_ok mixed Try.func72 rfl (by kernel_rfl) rfl rfl (of_decide_eq_true rfl) ?_; unfold hFun; (conv => whnf)
  refine HLit.empty ?_
  (conv => whnf)
  refine ⟨rfl, rfl, HApp.copy hx0 (by omega) (fun h1 y1 E1 O1 => ?_)⟩
  obtain ⟨r, hr1, hr2, O⟩ := O1.row
  (conv => whnf)
  refine (lib_Reverse _ r _ _ O s0).mono ?_
  rintro v h2 ⟨B, O2⟩
  (conv => whnf)
  exact ⟨_, rfl, Fresh.ofRow (E1.but B hr1) O2 hr1⟩

theorem impl_RightDescents (h : Heap) (x0 : H0) (a0 : List (List Int)) (x1 : H0) (a1 : List Int) (hx0 : Rows h x0 a0) (hx1 : Ints h x1 a1) (s0 : a0.length ≤ 1048576 ∧ tot a0 ≤ 1048576) (s1 : a1.length ≤ 1048576) :
    HCalls dm Try.prog 33 [.s x0, .s x1] h (fun r h' => ∃ y, r = .s y ∧ Fresh h h' y (leftDescents a0 a1.reverse)) := by
  refine calls_of_hFun (m := 0) kd_ok mixed Try.func33 rfl (by kernel_rfl) rfl rfl (of_decide_eq_true rfl) ?_; unfold hFun; (conv => whnf)
  refine (impl_ReverseWord _ _ a1 hx1 s1).mono ?_
  rintro r h1 ⟨y1, rfl, f1⟩
  (conv => whnf)
  refine (impl_LeftDescents _ _ a0 _ _ (hx0.ext f1.1) f1.ints s0 (by simpa using s1)).mono ?_
  rintro r h2 ⟨y2, rfl, f2⟩
  have hz := Fresh.inner f1.1 f2
  (conv => whnf)
  exact ⟨_, rfl, Fresh.of hz.1 hz.2⟩

theorem spec_RightDescents (h : Heap) (x0 : H0) (a0 : List (List Int)) (x1 : H0) (a1 : List Int) (hx0 : Rows h x0 a0) (hx1 : Ints h x1 a1) (s0 : a0.length ≤ 1048576 ∧ tot a0 ≤ 1048576) (s1 : a1.length ≤ 1048576) :
    HCalls dm Try.prog 34 [.s x0, .s x1] h (fun r h' => ∃ y, r = .s y ∧ Fresh h h' y (leftDescents a0 a1.reverse)) := by
  refine calls_of_hFun (m := 0) kd_ok mixed Try.func34 rfl (by kernel_rfl) rfl rfl (of_decide_eq_true rfl) ?_; unfold hFun; (conv => whnf)
  refine (spec_ReverseWord _ _ a1 hx1 s1).mono ?_
  rintro r h1 ⟨y1, rfl, f1⟩
  (conv => whnf)
  refine (spec_LeftDescents _ _ a0 _ _ (hx0.ext f1.1) f1.ints s0 (by simpa using s1)).mono ?_
  rintro r h2 ⟨y2, rfl, f2⟩
  have hz := Fresh.inner f1.1 f2
  (conv => whnf)
  exact ⟨_, rfl, Fresh.of hz.1 hz.2⟩

end Go.Proofs.Ytjgnnjegaedinaa.Hx

namespace Go.Proofs.Ytjgnnjegaedinaa.Hx
open Go.RowKit
variable {dm : Bool}

/-- Rows that are given up say nothing. -/
theorem Rep.soft {B0 : Nat} {φ : Plan} {h h' : Heap} {w : World} (R : Rep B0 φ h w) (hl : h'.length = h.length) (h1 : ∀ (r : Nat) (cs : List H0), h'[r]? = some (Row.ro cs) → h[r]? = some (Row.ro cs)) (h2 : ∀ (r : Nat) (cs : List H0), h'[r]? = some (Row.own cs) → h[r]? = some (Row.own cs))
    (h3 : ∀ (r : Nat) (so : Bool) (ks : List Key), h'[r]? = some (Row.keys so ks) → h[r]? = some (Row.keys so ks)) : Rep B0 φ h' w :=
  ⟨R.len.trans hl.symm, R.base, fun r cs p a b => R.ro r cs p (h1 r cs a) b, fun r cs p a b => R.own r cs p (h2 r cs a) b, fun r r' cs cs' p p' n a a' b b' => R.apart r r' cs cs' p p' n (h2 _ _ a) (h2 _ _ a') b b',
    fun r so ks p a b => R.keys r so ks p (h3 _ _ _ a) b, fun r r' so so' ks ks' p p' n a a' b b' => R.apartK r r' so so' ks ks' p p' n (h3 _ _ _ a) (h3 _ _ _ a') b b', R.tab⟩

def softRow : Row → Row
  | .ro _ => .gone
  | x => x

/-- A call that makes a slice, in a region that draws its order. -/
theorem HCallF.fresh {P : Program} {k : FuncId} {args : List HV} {h : Heap} {K : HV → Heap → Prop} {l : List Int} (hc : HCalls dm P k args (freeze h) (fun r h' => ∃ y, r = .s y ∧ Fresh (freeze h) h' y l))
    (hK : ∀ h' y, Fresh h h' y l → K (.s y) h') : HCallF dm P k args h K := by
  refine ⟨⟨hc.enters, fun B0 φ w vargs R a => (hc.out B0 φ w vargs R a).mono ?_⟩⟩
  rintro e w' ⟨v, x, h', φ', rfl, ⟨y, rfl, E, r, t, rfl, hr1, hr2⟩, g2, g3, g4, g5⟩
  have hfl := freeze_length h
  have hEl := E.1
  have hr3 := get_lt hr2
  have hget : ∀ (q : Nat) (x : Row), (freeze h ++ (h'.drop h.length).map softRow)[q]? = some x → x ≠ .gone → h'[q]? = some x := fun q x hx hne => by
    by_cases hq : q < h.length
    · rw [List.getElem?_append_left (by omega)] at hx
      rw [E.2 q (by omega)]
      exact hx
    · rw [List.getElem?_append_right (by omega), List.getElem?_map, List.getElem?_drop] at hx
      have e : h.length + (q - (freeze h).length) = q := by omega
      rw [e] at hx
      cases hh : h'[q]? with
      | none => rw [hh] at hx; cases hx
      | some z =>
        rw [hh] at hx
        cases z <;> simp [softRow] at hx
        · exact absurd hx.symm hne
        · rw [hx]
        · exact absurd hx.symm hne
        · rw [hx]
  have hrow : ∀ g : Heap, g.length = h.length → (g ++ (h'.drop h.length).map softRow)[r]? = some (.own (l.map ci ++ t)) := fun g hg => by
    rw [List.getElem?_append_right (by omega), List.getElem?_map, List.getElem?_drop]
    have e : h.length + (r - g.length) = r := by omega
    rw [e, hr2]
    rfl
  refine ⟨v, _, freeze h ++ (h'.drop h.length).map softRow, φ', rfl, ⟨(h'.drop h.length).map softRow, rfl, fun z hz => ?_, hK _ _ ⟨Ext.push _ _, r, t, rfl, by omega, hrow h rfl⟩⟩, g2, ?_, g4, g5⟩
  · obtain ⟨z0, _, rfl⟩ := List.mem_map.1 hz
    cases z0 <;> rfl
  · exact g3.soft (by simp; omega) (fun q cs hq => hget q _ hq (by simp)) (fun q cs hq => hget q _ hq (by simp)) (fun q so ks hq => hget q _ hq (by simp))

theorem HArith.to {e e' : Int} {K : HV → Prop} (h : e = e') (h1 : -9223372036854775808 ≤ e') (h2 : e' ≤ 9223372036854775807) (hK : K (I e')) : HArith .i64 e K := by
  subst h
  exact HArith.fits h1 h2 hK

theorem At.own {h : Heap} {r : Nat} {x : H0} (hr : h[r]? = some (.own [x])) : At h (.ptr r 0) x := ⟨r, 0, _, [x], rfl, hr, rfl, rfl⟩

def indexOf (L : List (List Int)) (w : List Int) : Int := if L.findIdx (fun l => decide (l = w)) < L.length then (L.findIdx (fun l => decide (l = w)) : Nat) else -1

theorem indexOf_at {L : List (List Int)} {w : List Int} {i : Nat} (hi : i < L.length) (h : L.getD i [] = w) (hb : ∀ k, k < i → L.getD k [] ≠ w) : indexOf L w = i := by
  have e : L.findIdx (fun l => decide (l = w)) = i := by
    rw [List.findIdx_eq hi]
    refine ⟨by simpa [List.getD, hi] using h, fun j hj => ?_⟩
    have := hb j hj
    have hjl : j < L.length := by omega
    simpa [List.getD, hjl] using this
  unfold indexOf
  rw [e, if_pos hi]
theorem indexOf_none {L : List (List Int)} {w : List Int} (hb : ∀ k, k < L.length → L.getD k [] ≠ w) : indexOf L w = -1 := by
  have e : L.findIdx (fun l => decide (l = w)) = L.length := by
    rw [List.findIdx_eq_length]
    intro x hx
    obtain ⟨k, hk, rfl⟩ := List.getElem_of_mem hx
    have := hb k hk
    simpa [List.getD, hk] using this
  unfold indexOf
  rw [e, if_neg (by omega)]

theorem lettersOk_app (c : List (List Int)) (a b : List Int) : lettersOk c (a ++ b) = (lettersOk c a && lettersOk c b) := by simp [lettersOk, List.all_append]

def commute (c : List (List Int)) (a b : List Int) : Bool := isWord c a && isWord c b && decide (imageOf c (a ++ b) = imageOf c (b ++ a))

theorem flat_len : ∀ L : List (List Int), L.flatten.length = tot L
  | [] => rfl
  | l :: L => by rw [List.flatten_cons, List.length_append, flat_len L]; rfl
theorem flat_succ (L : List (List Int)) {k : Nat} (h : k < L.length) : (L.take (k + 1)).flatten = (L.take k).flatten ++ L.getD k [] := by
  rw [List.take_succ_eq_append_getElem h, List.flatten_append]
  simp [List.getD, h]
theorem tot_none_row {L : List (List Int)} (h : tot L = 0) (k : Nat) (hk : k < L.length) : L.getD k [] = [] := by
  have := len_le_tot hk
  exact List.length_eq_zero_iff.1 (by omega)
theorem flat_none {L : List (List Int)} (h : tot L = 0) : L.flatten = [] := List.length_eq_zero_iff.1 (by rw [flat_len]; exact h)

theorem tot_three (a b : List Int) : tot [[], a, b] = a.length + b.length := by simp [tot]

theorem Ints.nil (h : Heap) : Ints h (.pl (.slice none 0 0)) [] := Shows.nils none 0

theorem HApp.nilNil {h : Heap} {x : H0} {K : HV → Heap → Prop} (hx : Ints h x []) (hK : K (.s (.pl (.slice none 0 0))) h) : HApp h (.s (.pl (.slice none 0 0))) (.s x) K :=
  ⟨[], hx, by simp, by simp, by simpa using hK⟩

theorem Own.more {hb h : Heap} {x y : H0} {l m : List Int} {K : HV → Heap → Prop} (E : Ext hb h) (H : Own hb.length h.length h y l) (hx : Ints h x m) (hl : l.length + m.length ≤ 2199023255552)
    (hK : ∀ h' y', Ext hb h' → Own hb.length h'.length h' y' (l ++ m) → K (.s y') h') : HApp h (.s y) (.s x) K := by
  obtain ⟨r, h1, h2, O⟩ := H.row
  refine HApp.moreR O hx hl (fun h' r' y' B hr' O' => hK h' y' (E.but B h1) (O'.own ?_))
  have := E.1
  omega

/-- Slices in a literal. -/
theorem Rows.lit {h : Heap} {xs : List H0} {L : List (List Int)} (hl : xs.length = L.length) (hx : ∀ (i : Nat) (y : H0) (l : List Int), xs[i]? = some y → L[i]? = some l → Ints h y l) : Rows (h ++ [.own xs]) (.sl h.length 0 xs.length) L := by
  refine ⟨xs, ?_, hl, fun i y l a b => (hx i y l a b).ext (Ext.push _ _)⟩
  have := Shows.own h.length 0 xs.length xs (get_new h (.own xs)) (by omega)
  simpa using this

theorem Ints.one {h : Heap} {x : H0} {l : List Int} (H : Ints h x l) : x.one = true := by
  unfold Ints at H
  generalize l.map ci = L at H
  cases H <;> rfl

theorem three_one {r : Nat} {x y : H0} (hx : x.one = true) (hy : y.one = true) : ∀ c ∈ [H0.sl r 0 0, x, y], c.one = true := by
  intro c hc
  simp only [List.mem_cons, List.not_mem_nil, or_false] at hc
  rcases hc with rfl | rfl | rfl
  · rfl
  · exact hx
  · exact hy

theorem Rows.three {h : Heap} {x y z : H0} {a b c : List Int} (hx : Ints h x a) (hy : Ints h y b) (hz : Ints h z c) : Rows (h ++ [.own [x, y, z]]) (.sl h.length 0 3) [a, b, c] := by
  refine Rows.lit (xs := [x, y, z]) rfl (fun i u l h1 h2 => ?_)
  match i with
  | 0 => simp at h1 h2; subst h1; subst h2; exact hx
  | 1 => simp at h1 h2; subst h1; subst h2; exact hy
  | 2 => simp at h1 h2; subst h1; subst h2; exact hz
  | i + 3 => simp at h1



theorem spec_ConcatWords (h : Heap) (x0 : H0) (a0 : List Int) (x1 : H0) (a1 : List Int) (hx0 : Ints h x0 a0) (hx1 : Ints h x1 a1) (s0 : a0.length ≤ 1048576) (s1 : a1.length ≤ 1048576) :
    HCalls dm Try.prog 36 [.s x0, .s x1] h (fun r h' => ∃ y, r = .s y ∧ Fresh h h' y (a0 ++ a1)) := by
  refine calls_of_hFun (m := 0) kd_ok mixed Try.func36 rfl (by kernel_rfl) rfl rfl (of_decide_eq_true rfl) ?_; unfold hFun; (conv => whnf)
  refine HLit.empty ?_
  (conv => whnf)
  refine ⟨rfl, rfl, HApp.copy hx0 (by omega) (fun h1 y1 E1 O1 => ?_)⟩
  (conv => whnf)
  refine ⟨rfl, rfl, Own.more E1 O1 (hx1.ext E1) (by omega) (fun h2 y2 E2 O2 => ?_)⟩
  (conv => whnf)
  exact ⟨_, rfl, Fresh.of E2 O2⟩

theorem lib_Grow (h : Heap) (n : Nat) (hn : n ≤ 2199023255552) :
    HCalls dm Try.prog 100 [.s (.pl (.slice none 0 0)), I n] h (fun r h' => (n = 0 ∧ r = .s (.pl (.slice none 0 0)) ∧ h' = h) ∨ (0 < n ∧ ∃ y, r = .s y ∧ Fresh h h' y [])) := by
  refine calls_of_hFun (m := 0) kd_ok mixed Try.func100 rfl (by kernel_rfl) rfl rfl (of_decide_eq_true rfl) ?_; unfold hFun; (conv => whnf)
  (repeat (first | (refine ⟨rfl, Ints.len (by assumption) ?_⟩; conv => whnf) | (refine ⟨rfl, Rows.len (by assumption) ?_⟩; conv => whnf) | (refine ⟨rfl, HLen.sl ?_⟩; conv => whnf) | (refine ⟨rfl, At.load (by assumption) ?_⟩; conv => whnf) | (refine HIf.yes ?_; conv => whnf) | (refine HIf.no ?_; conv => whnf) | (refine HIf.isT (by assumption) ?_; conv => whnf) | (refine HIf.isF (by assumption) ?_; conv => whnf) | (refine HIf.decT (by assumption) ?_; conv => whnf) | (refine HIf.decF (by assumption) ?_; conv => whnf) | (refine HIf.beqT (by assumption) ?_; conv => whnf) | (refine HIf.beqF (by assumption) ?_; conv => whnf) | (refine HIf.bneT (by assumption) ?_; conv => whnf) | (refine HIf.bneF (by assumption) ?_; conv => whnf) | (refine ⟨rfl, Ints.idxN (by assumption) (by omega) (fun p hp => ?_)⟩; conv => whnf) | (refine ⟨rfl, Rows.idxN (by assumption) (by omega) (fun p y hp hy => ?_)⟩; conv => whnf) | (refine And.intro (show Kd.isBool _ = true from rfl) ?_; conv => whnf) | (refine ⟨rfl, Ints.idx (by assumption) (by omega) (by omega) (fun p hp => ?_)⟩; conv => whnf) | (refine ⟨rfl, Rows.idx (by assumption) (by omega) (by omega) (fun p y hp hy => ?_)⟩; conv => whnf) | (refine HArith.fits (by omega) (by omega) ?_; conv => whnf) | (refine Or.inl (And.intro (show Region.lexB _ _ = true by kernel_rfl) ?_); conv => whnf)))
  refine ⟨rfl, ⟨none, 0, 0, rfl, ?_⟩⟩
  (conv => whnf)
  refine ⟨rfl, ⟨0, rfl, ?_⟩⟩
  (conv => whnf)
  refine HArith.to (e' := 0) (by omega) (by omega) (by omega) ?_
  (conv => whnf)
  refine HArith.to (e' := (n : Int)) (by omega) (by omega) (by omega) ?_
  (conv => whnf)
  refine HIf.dec (fun hlt => ?_) (fun hge => ?_)
  · (conv => whnf)
    refine ⟨rfl, ⟨none, 0, 0, rfl, ?_⟩⟩
    (conv => whnf)
    refine ⟨rfl, ⟨0, 0, 0, rfl, Or.inl ⟨rfl, rfl⟩, Or.inr ⟨.i64, rfl⟩, Nat.le_refl _, Or.inl (Nat.le_refl _), ?_⟩⟩
    (conv => whnf)
    refine ⟨⟨.i64, n, rfl, rfl, by omega, hn, ?_⟩⟩
    (conv => whnf)
    refine ⟨rfl, ⟨0, rfl, ?_⟩⟩
    (conv => whnf)
    refine ⟨rfl, ⟨n, 0, 0, rfl, Or.inl ⟨rfl, rfl⟩, Or.inr ⟨.i64, rfl⟩, Nat.le_refl _, Or.inl (Nat.zero_le _), ?_⟩⟩
    (conv => whnf)
    exact Or.inr ⟨by omega, _, rfl, Ext.push _ _, h.length, List.replicate n (.pl (.int .i64 0)), rfl, Nat.le_refl _, get_new _ _⟩
  · (conv => whnf)
    exact Or.inl ⟨by omega, rfl, rfl⟩

theorem lib_Concat (h : Heap) (x : H0) (L : List (List Int)) (hx : Rows h x L) (hL : L.length ≤ 4194304 ∧ tot L ≤ 4194304) :
    HCalls dm Try.prog 82 [.s x] h (fun r h' => ∃ y, r = .s y ∧ Ext h h' ∧ Ints h' y L.flatten ∧ (0 < tot L → Fresh h h' y L.flatten)) := by
  refine calls_of_hFun (m := 0) kd_ok mixed Try.func82 rfl (by kernel_rfl) rfl rfl (of_decide_eq_true rfl) ?_; unfold hFun; (conv => whnf)
  refine ⟨rfl, hx.len ?_⟩
  (conv => whnf)
  refine HLoop.intro [11, 3] [12, 13, 14, 5, 15, 16, 17, 18, 3, 19, 20, 21, 22, 11] (by kernel_rfl) (by kernel_rfl) (fun vs h' => ∃ k : Nat, vs = [I k, I (tot (L.take k))] ∧ k ≤ L.length ∧ h' = h) (fun vs _ => L.length - natAt vs 0) ⟨0, rfl, by omega, rfl⟩ ?_
  rintro vs h' ⟨k, rfl, hk, hh⟩
  subst h'
  (conv => whnf)
  refine HIf.dec (fun hlt => ?_) (fun hge => ?_)
  · have hle := len_le_tot (L := L) (i := k) (by omega)
    have hs := tot_succ L k (by omega)
    (conv => whnf)
    refine ⟨rfl, Rows.idxN hx (by omega) (fun p z hp hz => ?_)⟩
    (conv => whnf)
    refine ⟨rfl, hp.load ?_⟩
    (conv => whnf)
    refine ⟨rfl, hz.len ?_⟩
    (conv => whnf)
    refine HArith.fits (by omega) (by omega) ?_
    (conv => whnf)
    refine HIf.decF (by omega) ?_
    (conv => whnf)
    refine HArith.fits (by omega) (by omega) ?_
    (conv => whnf)
    have e : ((tot (L.take k) : Nat) : Int) + ((L.getD k []).length : Nat) = ((tot (L.take (k + 1)) : Nat) : Int) := by omega
    rw [e]
    exact ⟨⟨k + 1, rfl, by omega, rfl⟩, by show L.length - (k + 1) < L.length - k; omega⟩
  have e : k = L.length := by omega
  subst e
  rw [List.take_length]
  (conv => whnf)
  refine (lib_Grow _ (tot L) (by omega)).mono ?_
  rintro r h1 (⟨h0, rfl, hh⟩ | ⟨h0, y0, rfl, f0⟩)
  · subst h1
    (conv => whnf)
    refine ⟨rfl, hx.len ?_⟩
    (conv => whnf)
    refine HLoop.intro [27, 6] [28, 29, 30, 8, 31, 32, 33, 6, 34, 27] (by kernel_rfl) (by kernel_rfl) (fun vs h' => ∃ k : Nat, vs = [I k, .s (.pl (.slice none 0 0))] ∧ k ≤ L.length ∧ h' = h) (fun vs _ => L.length - natAt vs 0) ⟨0, rfl, by omega, rfl⟩ ?_
    rintro vs h' ⟨k, rfl, hk, hh⟩
    subst h'
    (conv => whnf)
    refine HIf.dec (fun hlt => ?_) (fun hge => ?_)
    · (conv => whnf)
      refine ⟨rfl, Rows.idxN hx (by omega) (fun p z hp hz => ?_)⟩
      rw [tot_none_row h0 k (by omega)] at hz
      (conv => whnf)
      refine ⟨rfl, hp.load ?_⟩
      (conv => whnf)
      refine ⟨rfl, rfl, HApp.nilNil hz ?_⟩
      (conv => whnf)
      refine HArith.fits (by omega) (by omega) ?_
      (conv => whnf)
      exact ⟨⟨k + 1, rfl, by omega, rfl⟩, by show L.length - (k + 1) < L.length - k; omega⟩
    · (conv => whnf)
      rw [flat_none h0]
      exact ⟨_, rfl, Ext.refl _, Ints.nil _, fun h => by omega⟩
  · have hx1 := hx.ext f0.1
    (conv => whnf)
    refine ⟨rfl, hx1.len ?_⟩
    (conv => whnf)
    refine HLoop.intro [27, 6] [28, 29, 30, 8, 31, 32, 33, 6, 34, 27] (by kernel_rfl) (by kernel_rfl) (fun vs h' => ∃ (k : Nat) (z : H0), vs = [I k, .s z] ∧ k ≤ L.length ∧ Ext h h' ∧ Own h.length h'.length h' z (L.take k).flatten) (fun vs _ => L.length - natAt vs 0) ⟨0, _, rfl, by omega, f0.1, f0.own⟩ ?_
    rintro vs h' ⟨k, z, rfl, hk, E, O⟩
    have hx := hx.ext E
    (conv => whnf)
    refine HIf.dec (fun hlt => ?_) (fun hge => ?_)
    · have hle := len_le_tot (L := L) (i := k) (by omega)
      have hfl := flat_len (L.take k)
      (conv => whnf)
      refine ⟨rfl, Rows.idxN hx (by omega) (fun p y hp hy => ?_)⟩
      (conv => whnf)
      refine ⟨rfl, hp.load ?_⟩
      (conv => whnf)
      refine ⟨rfl, rfl, Own.more E O hy (by omega) (fun h2 y2 E2 O2 => ?_)⟩
      rw [← flat_succ L (by omega)] at O2
      (conv => whnf)
      refine HArith.fits (by omega) (by omega) ?_
      (conv => whnf)
      exact ⟨⟨k + 1, y2, rfl, by omega, E2, O2⟩, by show L.length - (k + 1) < L.length - k; omega⟩
    · have e : k = L.length := by omega
      subst e
      rw [List.take_length] at O
      (conv => whnf)
      exact ⟨_, rfl, E, O.ints, fun _ => Fresh.of E O⟩

theorem impl_ConcatWords (h : Heap) (x0 : H0) (a0 : List Int) (x1 : H0) (a1 : List Int) (hx0 : Ints h x0 a0) (hx1 : Ints h x1 a1) (s0 : a0.length ≤ 1048576) (s1 : a1.length ≤ 1048576) :
    HCalls dm Try.prog 75 [.s x0, .s x1] h (fun r h' => ∃ y, r = .s y ∧ Ext h h' ∧ Ints h' y (a0 ++ a1)) := by
  have E := Ext.push h [Row.own []]
  have O := OwnR.push h []
  have E2 := E.trans (Ext.push (h ++ [Row.own []]) [Row.own [.sl h.length 0 0, x0, x1]])
  have ht := tot_three a0 a1
  refine calls_of_hFun (m := 0) kd_ok mixed Try.func75 rfl (by kernel_rfl) rfl rfl (of_decide_eq_true rfl) ?_; unfold hFun; (conv => whnf)
  refine HLit.empty ?_
  (conv => whnf)
  refine HLit.of (xs := [.sl h.length 0 0, x0, x1]) rfl (three_one hx0.one hx1.one) (by omega) ?_
  (conv => whnf)
  refine (lib_Concat _ _ [[], a0, a1] (Rows.three O.ints (hx0.ext E) (hx1.ext E)) ⟨by simp, by omega⟩).mono ?_
  rintro r h2 ⟨y, rfl, E3, hy, _⟩
  (conv => whnf)
  exact ⟨_, rfl, E2.trans E3, by simpa using hy⟩

end Go.Proofs.Ytjgnnjegaedinaa.Hx

namespace Go.Proofs.Ytjgnnjegaedinaa.Hx
open Go.RowKit
variable {dm : Bool}

theorem commute_on {c : List (List Int)} {a b : List Int} (h1 : isWord c a = true) (h2 : isWord c b = true) : decide (imageOf c (a ++ b) = imageOf c (b ++ a)) = commute c a b := by simp [commute, h1, h2]

def rootAt (c : List (List Int)) (w : List Int) (k : Nat) : List Int := actR c (w.take k) ((List.replicate c.length (0 : Int)).set (w.getD k 0).toNat 1)
def rootsTo (c : List (List Int)) (w : List Int) (k : Nat) : List (List Int) := (List.range k).map (rootAt c w)
def rootSeq (c : List (List Int)) (w : List Int) : List (List Int) := if isWord c w then rootsTo c w w.length else []

theorem rootsTo_length (c : List (List Int)) (w : List Int) (k : Nat) : (rootsTo c w k).length = k := by simp [rootsTo]
theorem rootsTo_none (c : List (List Int)) (w : List Int) : rootsTo c w 0 = [] := rfl
theorem rootsTo_succ (c : List (List Int)) (w : List Int) (k : Nat) : rootsTo c w (k + 1) = rootsTo c w k ++ [rootAt c w k] := by
  unfold rootsTo
  rw [List.range_succ, List.map_append]
  rfl
theorem rootAt_length (c : List (List Int)) (w : List Int) (k : Nat) : (rootAt c w k).length = c.length := by simp [rootAt, actR_length]
theorem tot_le (n : Nat) : ∀ L : List (List Int), (∀ l, l ∈ L → l.length ≤ n) → tot L ≤ n * L.length
  | [], _ => by simp [tot]
  | l :: L, h => by
    have h1 := h l (List.mem_cons_self ..)
    have h2 := tot_le n L (fun l hl => h l (List.mem_cons_of_mem _ hl))
    simp only [tot, List.length_cons, Nat.mul_add, Nat.mul_one]
    omega
theorem rootSeq_off {c : List (List Int)} {w : List Int} (h : isWord c w = false) : rootSeq c w = [] := by simp [rootSeq, h]
theorem rootSeq_on {c : List (List Int)} {w : List Int} (h : isWord c w = true) : rootSeq c w = rootsTo c w w.length := by simp [rootSeq, h]
theorem rootSeq_size (c : List (List Int)) (w : List Int) (hc : c.length ≤ 1048576) (hw : w.length ≤ 1048576) : (rootSeq c w).length ≤ 1099511627776 ∧ tot (rootSeq c w) ≤ 1099511627776 := by
  cases h : isWord c w
  · rw [rootSeq_off h]
    exact ⟨by simp, by simp [tot]⟩
  · rw [rootSeq_on h]
    have := tot_le c.length (rootsTo c w w.length) (fun l hl => by
      obtain ⟨k, _, rfl⟩ := List.mem_map.1 hl
      rw [rootAt_length]
      exact Nat.le_refl _)
    rw [rootsTo_length] at this ⊢
    have h2 : c.length * w.length ≤ 1048576 * 1048576 := Nat.mul_le_mul hc hw
    omega
theorem lettersOk_take {c : List (List Int)} {w : List Int} (h : lettersOk c w = true) (k : Nat) : lettersOk c (w.take k) = true := by
  refine List.all_eq_true.2 (fun x hx => List.all_eq_true.1 h x (List.mem_of_mem_take hx))
theorem isWord_take {c : List (List Int)} {w : List Int} (h : isWord c w = true) (k : Nat) : isWord c (w.take k) = true := by
  simp only [isWord, Bool.and_eq_true, decide_eq_true_eq] at h ⊢
  exact ⟨⟨h.1.1, by rw [List.length_take]; omega⟩, lettersOk_take h.2 k⟩
theorem letter_simple {c : List (List Int)} {w : List Int} (h : isWord c w = true) {k : Nat} (hk : k < w.length) : simpleRoot c (w.getD k 0) = (List.replicate c.length (0 : Int)).set (w.getD k 0).toNat 1 := by
  have h2 := h
  simp only [isWord, Bool.and_eq_true, decide_eq_true_eq] at h2
  refine simpleRoot_eq h2.1.1 ?_
  have := List.all_eq_true.1 h2.2 w[k] (List.getElem_mem hk)
  simpa [List.getD, hk] using this
theorem actOn_letter {c : List (List Int)} {w : List Int} (h : isWord c w = true) {k : Nat} (hk : k < w.length) : actOnRoot c (w.take k) (simpleRoot c (w.getD k 0)) = rootAt c w k := by
  rw [letter_simple h hk]
  simp [actOnRoot, isWord_take h, rootAt]

/-- The letters numbers j and i, left out. -/
def del2 (w : List Int) (i j : Nat) : List Int := del (del w j) i
def hit (c : List (List Int)) (w : List Int) (i j : Nat) : Bool := decide (imageOf c (del2 w i j) = imageOf c w)
def firstJ (c : List (List Int)) (w : List Int) (i : Nat) : Option Nat := (List.range w.length).find? fun j => decide (i < j) && hit c w i j
def firstI (c : List (List Int)) (w : List Int) : Option Nat := (List.range w.length).find? fun i => (firstJ c w i).isSome
def delPair (c : List (List Int)) (w : List Int) : Int × Int × Bool :=
  if isWord c w then
    match firstI c w with
    | some i => match firstJ c w i with
      | some j => (i, j, true)
      | none => (-1, -1, false)
    | none => (-1, -1, false)
  else (-1, -1, false)

theorem firstJ_at {c : List (List Int)} {w : List Int} {i j : Nat} (hj : j < w.length) (hij : i < j) (h : hit c w i j = true) (hb : ∀ k, i < k → k < j → hit c w i k = false) : firstJ c w i = some j := by
  unfold firstJ
  rw [List.find?_range_eq_some]
  refine ⟨by simp [hij, h], by simpa using hj, fun k hk => ?_⟩
  by_cases hik : i < k
  · simp [hb k hik hk]
  · simp [hik]
theorem firstJ_none {c : List (List Int)} {w : List Int} {i : Nat} (hb : ∀ k, i < k → k < w.length → hit c w i k = false) : firstJ c w i = none := by
  unfold firstJ
  rw [List.find?_range_eq_none]
  intro k hk
  by_cases hik : i < k
  · simp [hb k hik hk]
  · simp [hik]
theorem delPair_at {c : List (List Int)} {w : List Int} {i j : Nat} (hw : isWord c w = true) (hi : i < w.length) (hj : firstJ c w i = some j) (hb : ∀ k, k < i → firstJ c w k = none) : delPair c w = ((i : Int), (j : Int), true) := by
  have : firstI c w = some i := by
    unfold firstI
    rw [List.find?_range_eq_some]
    refine ⟨by simp [hj], by simpa using hi, fun k hk => by simp [hb k hk]⟩
  simp [delPair, hw, this, hj]
theorem delPair_none {c : List (List Int)} {w : List Int} (hw : isWord c w = true) (hb : ∀ k, k < w.length → firstJ c w k = none) : delPair c w = (-1, -1, false) := by
  have : firstI c w = none := by
    unfold firstI
    rw [List.find?_range_eq_none]
    intro k hk
    simp [hb k hk]
  simp [delPair, hw, this]
theorem delPair_off {c : List (List Int)} {w : List Int} (hw : isWord c w = false) : delPair c w = (-1, -1, false) := by simp [delPair, hw]
theorem lettersOk_del {c : List (List Int)} {w : List Int} (h : lettersOk c w = true) (n : Int) : lettersOk c (del w n) = true := by
  refine List.all_eq_true.2 (fun x hx => List.all_eq_true.1 h x ?_)
  unfold del at hx
  split at hx
  · exact List.mem_of_mem_eraseIdx hx
  · exact hx
theorem del2_len (w : List Int) (i j : Nat) : (del2 w i j).length ≤ w.length := Nat.le_trans (del_len _ _) (del_len _ _)

/-- A pair of results as a tuple. -/
abbrev T3 (p : Int × Int × Bool) : HV := .tup [.pl (.int .i64 p.1), .pl (.int .i64 p.2.1), .pl (.bool p.2.2)]


theorem impl_same (h : Heap) (x0 : H0) (a0 : List (List Int)) (x1 : H0) (a1 : List Int) (x2 : H0) (a2 : List Int) (hx0 : Rows h x0 a0) (hx1 : Ints h x1 a1) (hx2 : Ints h x2 a2) (hC : Cartan a0) (w1 : lettersOk a0 a1 = true) (w2 : lettersOk a0 a2 = true) (s1 : a1.length ≤ 1048576) (s2 : a2.length ≤ 1048576) :
    HCalls dm Try.prog 53 [.s x0, .s x1, .s x2] h (fun r h' => r = B (decide (imageOf a0 a1 = imageOf a0 a2)) ∧ Ext h h') := by
  have h4 := hC.le
  refine calls_of_hFun (m := 0) kd_ok mixed Try.func53 rfl (by kernel_rfl) rfl rfl (of_decide_eq_true rfl) ?_; unfold hFun; (conv => whnf)
  refine (impl_image _ _ a0 _ a1 hx0 hx1 hC w1 s1).mono ?_
  rintro r h1 ⟨y1, rfl, f1⟩
  (conv => whnf)
  refine (impl_image _ _ a0 _ a2 (hx0.ext f1.1) (hx2.ext f1.1) hC w2 s2).mono ?_
  rintro r h2 ⟨y2, rfl, f2⟩
  (conv => whnf)
  refine (lib_Equal _ _ _ _ _ (f1.ints.ext f2.1) f2.ints (by rw [imageOf_length]; omega)).mono ?_
  rintro r h3 ⟨rfl, rfl⟩
  (conv => whnf)
  exact ⟨rfl, f1.1.trans f2.1⟩

end Go.Proofs.Ytjgnnjegaedinaa.Hx

namespace Go.Proofs.Ytjgnnjegaedinaa.Hx
open Go.RowKit

theorem matOk {c : List (List Int)} (hC : Cartan c) : MatOk c.length (ent c) := by
  refine ⟨fun i hi => ?_, fun i j hi hj hij => ?_, fun i j hi hj h0 => ?_⟩
  · have h := hC.ok i hi i hi
    simp only [cartBad, decide_true, Bool.true_and, Bool.not_true, Bool.false_and, Bool.or_false, Bool.not_eq_false', beq_iff_eq] at h
    exact h
  · have h := hC.ok i hi j hj
    simp only [cartBad, hij, decide_false, Bool.false_and, Bool.not_false, Bool.true_and, Bool.false_or, Bool.or_eq_false_iff, decide_eq_false_iff_not] at h
    omega
  · by_cases hij : i = j
    · subst hij; exact h0
    · have h := hC.ok i hi j hj
      simp only [cartBad, hij, decide_false, Bool.false_and, Bool.not_false, Bool.true_and, Bool.false_or, Bool.or_eq_false_iff] at h
      have h2 := h.2
      rw [h0] at h2
      simpa using h2

theorem ent_off {c : List (List Int)} {k i : Nat} (h : c.length ≤ k) : ent c k i = 0 := by
  unfold ent
  have : c.getD k [] = [] := by simp [List.getD, h]
  rw [this]
  rfl

def posOf (v : List Int) : Pos := fun k => v.getD k 0

def PlayL (c : List (List Int)) (n : Nat) (v : List Int) : Prop := v.length = c.length ∧ Play c.length (ent c) n (posOf v)

theorem w64_in {e : Int} (h1 : -9223372036854775808 ≤ e) (h2 : e ≤ 9223372036854775807) : w64 e = e := IntWalk.i64_in e ⟨h1, h2⟩

theorem PlayL.size {c : List (List Int)} (hC : Cartan c) {n : Nat} {v : List Int} (P : PlayL c n v) (hn : n ≤ 30) {k : Nat} (hk : k < c.length) : -1152921504606846976 ≤ v.getD k 0 ∧ v.getD k 0 ≤ 1152921504606846976 := by
  have h := P.2.size (matOk hC) k hk
  have h4 : 4 ^ n ≤ 4 ^ 30 := Nat.pow_le_pow_right (by omega) hn
  have e : (4 : Nat) ^ 30 = 1152921504606846976 := by decide
  rw [e] at h4
  simp only [posOf] at h
  omega

theorem pos_refl {c : List (List Int)} (hC : Cartan c) {n : Nat} {v : List Int} (P : PlayL c n v) (hn : n ≤ 30) {i : Nat} (hi : i < c.length) : posOf (reflW c i v) = sr (ent c) i (posOf v) := by
  funext k
  by_cases hk : k < c.length
  · have b1 := P.size hC hn hk
    have b2 := P.size hC hn hi
    have hkv : k < v.length := by rw [P.1]; exact hk
    have e : posOf (reflW c i v) k = reflNew c i v k := by simp [posOf, reflW, List.getD, hkv]
    rw [e]
    unfold reflNew sr posOf
    have f : ent c k i = 2 ∨ ent c k i = 0 ∨ ent c k i = -1 ∨ ent c k i = -2 ∨ ent c k i = -3 := by
      by_cases hki : k = i
      · subst hki; exact Or.inl ((matOk hC).diag k hk)
      · have := (matOk hC).off k i hk hi hki
        omega
    generalize v.getD k 0 = a at *
    generalize v.getD i 0 = b at *
    rcases f with f | f | f | f | f <;> rw [f] <;> rw [w64_in (e := b * _) (by omega) (by omega), w64_in (by omega) (by omega)]
  · have e1 : posOf (reflW c i v) k = 0 := by
      have : (reflW c i v).length ≤ k := by rw [reflW_length, P.1]; omega
      simp [posOf, List.getD, this]
    have e2 : posOf v k = 0 := by
      have : v.length ≤ k := by rw [P.1]; omega
      simp [posOf, List.getD, this]
    rw [e1]
    unfold sr
    rw [e2, ent_off (by omega)]
    simp

theorem PlayL.ne {c : List (List Int)} (hC : Cartan c) {n : Nat} {v : List Int} (P : PlayL c n v) {i : Nat} (hi : i < c.length) : v.getD i 0 ≠ 0 := P.2.ne (matOk hC) hi

theorem PlayL.any {c : List (List Int)} (hC : Cartan c) {n : Nat} {v : List Int} (P : PlayL c n v) (hn : n ≤ 30) {i : Nat} (hi : i < c.length) : ∃ m, m ≤ n + 1 ∧ PlayL c m (reflW c i v) := by
  obtain ⟨m, h1, h2⟩ := P.2.any (matOk hC) hi
  exact ⟨m, h1, by rw [reflW_length]; exact P.1, by rw [pos_refl hC P hn hi]; exact h2⟩

theorem PlayL.down {c : List (List Int)} (hC : Cartan c) {n : Nat} {v : List Int} (P : PlayL c n v) (hn : n ≤ 30) {i : Nat} (hi : i < c.length) (h : v.getD i 0 < 0) : ∃ m, n = m + 1 ∧ PlayL c m (reflW c i v) := by
  obtain ⟨m, h1, h2⟩ := P.2.down (matOk hC) hi h
  exact ⟨m, h1, by rw [reflW_length]; exact P.1, by rw [pos_refl hC P hn hi]; exact h2⟩

theorem PlayL.ones (c : List (List Int)) : PlayL c 0 (List.replicate c.length 1) := ⟨by simp, .done fun i hi => by simp [posOf, List.getD, hi]⟩

theorem posOf_inj {v u : List Int} (hl : v.length = u.length) (h : posOf v = posOf u) : v = u := by
  apply List.ext_getElem hl
  intro k h1 h2
  have := congrFun h k
  simpa [posOf, List.getD, h1, h2] using this

theorem reflW_twice {c : List (List Int)} (hC : Cartan c) {n m : Nat} {v : List Int} (P : PlayL c n v) (hn : n ≤ 30) {i : Nat} (hi : i < c.length) (P2 : PlayL c m (reflW c i v)) (hm : m ≤ 30) : reflW c i (reflW c i v) = v := by
  apply posOf_inj (by rw [reflW_length, reflW_length])
  rw [pos_refl hC P2 hm hi, pos_refl hC P hn hi, sr_sr ((matOk hC).diag i hi)]

theorem play_act {c : List (List Int)} (hC : Cartan c) : ∀ (w : List Int), lettersOk c w = true → w.length ≤ 31 → ∃ n, n ≤ w.length ∧ PlayL c n (actW c w (List.replicate c.length 1))
  | [], _, _ => ⟨0, Nat.le_refl _, PlayL.ones c⟩
  | i :: w, h, hl => by
    have h2 : isPoint c i = true ∧ lettersOk c w = true := by simpa [lettersOk] using h
    have hi := point_of h2.1
    have hl' : w.length + 1 ≤ 31 := by simpa using hl
    obtain ⟨n, h3, P⟩ := play_act hC w h2.2 (by omega)
    obtain ⟨m, h4, P2⟩ := P.any hC (by omega) (i := i.toNat) (by omega)
    exact ⟨m, by simp; omega, P2⟩

theorem play_image {c : List (List Int)} (hC : Cartan c) {w : List Int} (h : lettersOk c w = true) (hl : w.length ≤ 31) : ∃ n, n ≤ w.length ∧ PlayL c n (imageOf c w) := play_act hC w h hl

/-- The first negative number. -/
def fd (v : List Int) : Nat := v.findIdx fun x => decide (x < 0)

/-- The letters by which the reduction by first descents goes, at most f. -/
def nf (c : List (List Int)) : Nat → List Int → List Int
  | 0, _ => []
  | f + 1, v => if fd v < v.length then (fd v : Int) :: nf c f (reflW c (fd v) v) else []

theorem fd_at {v : List Int} {i : Nat} (hi : i < v.length) (h : v.getD i 0 < 0) (hb : ∀ k, k < i → 0 ≤ v.getD k 0) : fd v = i := by
  unfold fd
  rw [List.findIdx_eq hi]
  refine ⟨by simpa [List.getD, hi] using h, fun j hj => ?_⟩
  have := hb j hj
  have hjl : j < v.length := by omega
  simp only [List.getD, List.getElem?_eq_getElem hjl, Option.getD_some] at this
  simp
  omega
theorem fd_lt {v : List Int} (h : fd v < v.length) : v.getD (fd v) 0 < 0 := by
  have := List.findIdx_getElem (xs := v) (p := fun x => decide (x < 0)) (w := h)
  unfold fd at h ⊢
  simp only [List.getD, List.getElem?_eq_getElem h, Option.getD_some]
  simpa using this
theorem fd_end {v : List Int} (h : ¬ fd v < v.length) : ∀ k, k < v.length → 0 ≤ v.getD k 0 := by
  intro k hk
  have e : fd v = v.length := by
    have := List.findIdx_le_length (p := fun x => decide (x < 0)) (xs := v)
    unfold fd at *
    omega
  unfold fd at e
  rw [List.findIdx_eq_length] at e
  have := e v[k] (List.getElem_mem hk)
  simp only [List.getD, List.getElem?_eq_getElem hk, Option.getD_some]
  simp at this
  omega
theorem nf_zero (c : List (List Int)) (v : List Int) : nf c 0 v = [] := rfl
theorem nf_step {c : List (List Int)} {f i : Nat} {v : List Int} (hi : i < v.length) (h : v.getD i 0 < 0) (hb : ∀ k, k < i → 0 ≤ v.getD k 0) : nf c (f + 1) v = (i : Int) :: nf c f (reflW c i v) := by
  have e := fd_at hi h hb
  rw [nf, e, if_pos hi]
theorem nf_stop {c : List (List Int)} {f : Nat} {v : List Int} (hb : ∀ k, k < v.length → 0 ≤ v.getD k 0) : nf c f v = [] := by
  cases f with
  | zero => rfl
  | succ f =>
    rw [nf, if_neg]
    intro h
    have h1 := fd_lt h
    have := hb _ h
    omega

theorem nf_more {c : List (List Int)} (hC : Cartan c) : ∀ (n : Nat) (v : List Int) (f g : Nat), PlayL c n v → n ≤ 30 → n ≤ f → n ≤ g → nf c f v = nf c g v
  | n, v, f, g, P, hn, hf, hg => by
    by_cases h : fd v < v.length
    · have hlt := fd_lt h
      obtain ⟨m, rfl, P2⟩ := P.down hC hn (i := fd v) (by rw [← P.1]; exact h) hlt
      obtain ⟨f, rfl⟩ : ∃ f', f = f' + 1 := ⟨f - 1, by omega⟩
      obtain ⟨g, rfl⟩ : ∃ g', g = g' + 1 := ⟨g - 1, by omega⟩
      rw [nf, nf, if_pos h, if_pos h, nf_more hC m _ f g P2 (by omega) (by omega) (by omega)]
    · rw [nf_stop (fd_end h), nf_stop (fd_end h)]

theorem nf_len {c : List (List Int)} (hC : Cartan c) : ∀ (n : Nat) (v : List Int) (f : Nat), PlayL c n v → n ≤ 30 → n ≤ f → (nf c f v).length = n
  | n, v, f, P, hn, hf => by
    by_cases h : fd v < v.length
    · have hlt := fd_lt h
      obtain ⟨m, rfl, P2⟩ := P.down hC hn (i := fd v) (by rw [← P.1]; exact h) hlt
      obtain ⟨f, rfl⟩ : ∃ f', f = f' + 1 := ⟨f - 1, by omega⟩
      rw [nf, if_pos h, List.length_cons, nf_len hC m _ f P2 (by omega) (by omega)]
    · rw [nf_stop (fd_end h)]
      have := (P.2.stop fun i hi => fd_end h i (by rw [P.1]; exact hi)).1
      simp [this]

theorem nf_letters {c : List (List Int)} (hC : Cartan c) : ∀ (n : Nat) (v : List Int) (f : Nat), PlayL c n v → n ≤ 30 → n ≤ f → lettersOk c (nf c f v) = true
  | n, v, f, P, hn, hf => by
    by_cases h : fd v < v.length
    · have hlt := fd_lt h
      have hc : fd v < c.length := by rw [← P.1]; exact h
      obtain ⟨m, rfl, P2⟩ := P.down hC hn (i := fd v) hc hlt
      obtain ⟨f, rfl⟩ : ∃ f', f = f' + 1 := ⟨f - 1, by omega⟩
      rw [nf, if_pos h]
      have ih := nf_letters hC m _ f P2 (by omega) (by omega)
      have hp : isPoint c (fd v) = true := by simp [isPoint, inRange]; omega
      simp only [lettersOk, List.all_cons, Bool.and_eq_true] at ih ⊢
      exact ⟨hp, ih⟩
    · rw [nf_stop (fd_end h)]
      rfl

theorem nf_image {c : List (List Int)} (hC : Cartan c) : ∀ (n : Nat) (v : List Int) (f : Nat), PlayL c n v → n ≤ 30 → n ≤ f → imageOf c (nf c f v) = v
  | n, v, f, P, hn, hf => by
    by_cases h : fd v < v.length
    · have hlt := fd_lt h
      have hc : fd v < c.length := by rw [← P.1]; exact h
      obtain ⟨m, rfl, P2⟩ := P.down hC hn (i := fd v) hc hlt
      obtain ⟨f, rfl⟩ : ∃ f', f = f' + 1 := ⟨f - 1, by omega⟩
      have ih := nf_image hC m _ f P2 (by omega) (by omega)
      have e : imageOf c ((fd v : Int) :: nf c f (reflW c (fd v) v)) = reflW c (fd v) (imageOf c (nf c f (reflW c (fd v) v))) := by simp [imageOf, actW]
      rw [nf, if_pos h, e, ih]
      exact reflW_twice hC P hn hc P2 (by omega)
    · rw [nf_stop (fd_end h)]
      have h1 := (P.2.stop fun i hi => fd_end h i (by rw [P.1]; exact hi)).2
      apply posOf_inj (by rw [imageOf_length, P.1])
      funext k
      by_cases hk : k < c.length
      · rw [h1 k hk]
        simp [posOf, imageOf, actW, List.getD, hk]
      · have hv : v.length ≤ k := by rw [P.1]; omega
        have hk' : c.length ≤ k := by omega
        simp [posOf, imageOf, actW, List.getD, hv, hk']

end Go.Proofs.Ytjgnnjegaedinaa.Hx
