
/-
  Contracts of the descents of the reference, of reversed words, of words with a letter left out, of the program and of the reference.
-/
import Derived.Test.YtfibapndkibmiaaGn
namespace Go.Proofs.Ytfibapndkibmiaa.Hx
open Go.RowKit
variable {dm : Bool}

theorem HApp.snocR {r : Nat} {h : Heap} {y : H0} {l : List Int} {v : Int} {K : HV → Heap → Prop} (H : OwnR r h y l) (hl : l.length < 2199023255552)
    (hK : ∀ h' r' y', But r h h' → h.length ≤ r' → OwnR r' h' y' (l ++ [v]) → K (.s y') h') : HApp (h ++ [.own [ci v]]) (.s y) (.s (.sl h.length 0 1)) K :=
  HApp.litR [v] H (by simp; omega) hK

/-- A list without its entry at a place, if there is one. -/
def del (l : List Int) (n : Int) : List Int := if 0 ≤ n then l.eraseIdx n.toNat else l

theorem del_neg {l : List Int} {n : Int} (h : n < 0) : del l n = l := by
  unfold del
  rw [if_neg (by omega)]
theorem del_off {l : List Int} {n : Int} (h : (l.length : Int) ≤ n) : del l n = l := by
  unfold del
  split
  · exact List.eraseIdx_of_length_le (by omega)
  · rfl
theorem del_ne (l : List Int) (x n : Int) (h : (l.length : Int) ≠ n) : del (l ++ [x]) n = del l n ++ [x] := by
  unfold del
  split
  · by_cases h2 : n.toNat < l.length
    · rw [List.eraseIdx_append_of_lt_length h2]
    · rw [List.eraseIdx_of_length_le (by simp; omega), List.eraseIdx_of_length_le (by omega)]
  · rfl
theorem del_eq (l : List Int) (x : Int) : del (l ++ [x]) l.length = del l l.length := by
  unfold del
  have e : ((l.length : Nat) : Int).toNat = l.length := by omega
  rw [if_pos (by omega), if_pos (by omega), e, List.eraseIdx_append_of_length_le (Nat.le_refl _), List.eraseIdx_of_length_le (l := l) (Nat.le_refl _)]
  simp
theorem del_len (l : List Int) (n : Int) : (del l n).length ≤ l.length := by
  unfold del
  split
  · rw [List.length_eraseIdx]
    split <;> omega
  · exact Nat.le_refl _
theorem del_at (l : List Int) {i : Nat} : del l (i : Int) = l.take i ++ l.drop (i + 1) := by
  unfold del
  rw [if_pos (by omega), List.eraseIdx_eq_take_drop_succ]
  rfl
theorem del_none (n : Int) : del [] n = [] := by
  unfold del
  split
  · rfl
  · rfl
theorem take_snoc (w : List Int) {k : Nat} (h : k < w.length) : w.take (k + 1) = w.take k ++ [w.getD k 0] := by
  rw [List.take_succ_eq_append_getElem h]
  simp [List.getD, h]
theorem drop_rev (w : List Int) {k : Nat} (h : k < w.length) : (w.drop k).reverse = (w.drop (k + 1)).reverse ++ [w.getD k 0] := by
  rw [List.drop_eq_getElem_cons h]
  simp [List.getD, h]

/-- The first i and the last i numbers have changed places. -/
def revTo (l : List Int) (i : Nat) : List Int := (List.range l.length).map fun k => if k < i ∨ l.length ≤ k + i then l.getD (l.length - 1 - k) 0 else l.getD k 0

theorem revTo_length (l : List Int) (i : Nat) : (revTo l i).length = l.length := by simp [revTo]
theorem revTo_get (l : List Int) (i k : Nat) (h : k < l.length) (h1 : i ≤ k) (h2 : k + i < l.length) : (revTo l i).getD k 0 = l.getD k 0 := by
  unfold revTo
  simp only [List.getD, List.getElem?_map, List.getElem?_range h, Option.map_some, Option.getD_some]
  rw [if_neg (by omega)]
theorem revTo_none (l : List Int) : revTo l 0 = l := by
  apply List.ext_getElem (by simp [revTo])
  intro k h1 h2
  simp only [revTo, List.getElem_map, List.getElem_range]
  rw [if_neg (by omega)]
  simp [List.getD, h2]
theorem revTo_all (l : List Int) (i : Nat) (h : l.length ≤ 2 * i + 1) : revTo l i = l.reverse := by
  apply List.ext_getElem (by simp [revTo])
  intro k h1 h2
  simp only [revTo, List.getElem_map, List.getElem_range, List.getElem_reverse]
  have h2 : k < l.length := by simpa using h2
  split
  · have : l.length - 1 - k < l.length := by omega
    simp [List.getD, this]
  · have e : l.length - 1 - k = k := by omega
    simp [List.getD, e, h2]
theorem revTo_succ (l : List Int) (i : Nat) (h : 2 * i + 1 < l.length) : ((revTo l i).set i (l.getD (l.length - 1 - i) 0)).set (l.length - 1 - i) (l.getD i 0) = revTo l (i + 1) := by
  apply List.ext_getElem (by simp [revTo])
  intro k h1 h2
  have h2 : k < l.length := by simpa [revTo] using h2
  simp only [List.getElem_set, revTo, List.getElem_map, List.getElem_range]
  by_cases e1 : l.length - 1 - i = k
  · rw [if_pos e1, if_pos (by omega)]
    have : l.length - 1 - k = i := by omega
    rw [this]
  · rw [if_neg e1]
    by_cases e2 : i = k
    · subst e2
      rw [if_pos rfl, if_pos (by omega)]
    · rw [if_neg e2]
      by_cases e3 : k < i ∨ l.length ≤ k + i
      · rw [if_pos e3, if_pos (by omega)]
      · rw [if_neg e3, if_neg (by omega)]

/-- One number of one's own is written anew. -/
theorem OwnR.store {r : Nat} {h : Heap} {y : H0} {l : List Int} {i : Nat} {v : Int} (H : OwnR r h y l) (hi : i < l.length) :
    ∃ cs, y = .sl r 0 l.length ∧ h[r]? = some (.own cs) ∧ i < cs.length ∧ But r h (h.set r (.own (cs.set i (ci v)))) ∧ OwnR r (h.set r (.own (cs.set i (ci v)))) y (l.set i v) := by
  have hr' := H.lt
  obtain ⟨t, rfl, hr⟩ := H
  refine ⟨_, rfl, hr, by simp; omega, ⟨by simp, fun q _ hn => by rw [List.getElem?_set_ne (Ne.symm hn)]⟩, t, by simp, ?_⟩
  rw [List.getElem?_set_self hr', List.set_append_left _ _ (by simpa using hi), List.map_set]
theorem But.trans {r : Nat} {h h' h'' : Heap} (k : But r h h') (k2 : But r h' h'') : But r h h'' :=
  ⟨Nat.le_trans k.1 k2.1, fun q hq hn => by rw [k2.2 q (Nat.lt_of_lt_of_le hq k.1) hn]; exact k.2 q hq hn⟩
theorem But.refl (r : Nat) (h : Heap) : But r h h := ⟨Nat.le_refl _, fun _ _ _ => rfl⟩

theorem pair_eq {a b : Int} {k : Nat} (h1 : a = k) (h2 : b = k) : a = b := by omega


theorem spec_ReverseWord (h : Heap) (x0 : H0) (a0 : List Int) (hx0 : Ints h x0 a0) (s0 : a0.length ≤ 1048576) :
    HCalls dm Try.prog 43 [.s x0] h (fun r h' => ∃ y, r = .s y ∧ Fresh h h' y a0.reverse) := by
  have E0 := Ext.push h [Row.own []]
  have O0 := OwnR.push h []
  have hx00 := hx0.ext E0
  refine calls_of_hFun (m := 0) kd_ok mixed Try.func43 rfl (by kernel_rfl) rfl rfl (of_decide_eq_true rfl) ?_; unfold hFun; (conv => whnf)
  refine HLit.empty ?_
  (conv => whnf)
  refine ⟨rfl, hx00.len ?_⟩
  (conv => whnf)
  refine HArith.fits (by omega) (by omega) ?_
  (conv => whnf)
  refine HLoop.intro [4, 3] [9, 10, 13, 14, 15, 16, 17, 18, 19, 3, 11, 12, 4] (by kernel_rfl) (by kernel_rfl) (fun vs h' => ∃ (k : Nat) (z : H0) (r : Nat), vs = [I ((k : Int) - 1), .s z] ∧ k ≤ a0.length ∧ Ext h h' ∧ h.length ≤ r ∧ OwnR r h' z (a0.drop k).reverse) (fun vs _ => (intAt vs 0 + 1).toNat) ⟨a0.length, _, h.length, rfl, by omega, E0, Nat.le_refl _, by rw [List.drop_length]; exact O0⟩ ?_
  rintro vs h' ⟨k, z, r, rfl, hk, E, hr, O⟩
  have hx0 := hx0.ext E
  (conv => whnf)
  refine HIf.dec (fun hlt => ?_) (fun hge => ?_)
  · obtain ⟨m, rfl⟩ : ∃ m, k = m + 1 := ⟨k - 1, by omega⟩
    have e1 : (((m + 1 : Nat) : Int) - 1).toNat = m := by omega
    have hd := drop_rev a0 (k := m) (by omega)
    (conv => whnf)
    refine ⟨rfl, Ints.idx hx0 (by omega) (by omega) (fun p hp => ?_)⟩
    rw [e1] at hp
    (conv => whnf)
    refine ⟨rfl, hp.load ?_⟩
    (conv => whnf)
    refine HLit.one ?_
    (conv => whnf)
    refine ⟨rfl, rfl, HApp.snocR O (by simp; omega) (fun h3 r3 y3 B3 hr3 O3 => ?_)⟩
    rw [← hd] at O3
    (conv => whnf)
    refine HArith.fits (by omega) (by omega) ?_
    (conv => whnf)
    have e3 : ((m + 1 : Nat) : Int) - 1 - 1 = (m : Int) - 1 := by omega
    exact ⟨⟨m, y3, r3, by rw [← e3]; rfl, by omega, E.but B3 hr, by have := E.1; omega, O3⟩, by show (((m + 1 : Nat) : Int) - 1 - 1 + 1).toNat < (((m + 1 : Nat) : Int) - 1 + 1).toNat; omega⟩
  · have e : k = 0 := by omega
    subst e
    rw [List.drop_zero] at O
    (conv => whnf)
    exact ⟨_, rfl, Fresh.ofRow E O hr⟩

theorem lib_Reverse (h : Heap) (r : Nat) (x : H0) (l : List Int) (hx : OwnR r h x l) (hl : l.length ≤ 1048576) :
    HCalls dm Try.prog 61 [.s x] h (fun _ h' => But r h h' ∧ OwnR r h' x l.reverse) := by
  refine calls_of_hFun (m := 0) kd_ok mixed Try.func61 rfl (by kernel_rfl) rfl rfl (of_decide_eq_true rfl) ?_; unfold hFun; (conv => whnf)
  refine ⟨rfl, hx.ints.len ?_⟩
  (conv => whnf)
  refine HArith.fits (by omega) (by omega) ?_
  (conv => whnf)
  refine HLoop.intro [2, 3] [7, 8, 9, 14, 15, 16, 17, 18, 19, 20, 21, 22, 23, 24, 25, 26, 27, 10, 11, 12, 13, 2, 3] (by kernel_rfl) (by kernel_rfl) (fun vs h' => ∃ (i : Nat) (j : Int), vs = [I i, I j] ∧ j = (l.length : Int) - 1 - i ∧ 2 * i ≤ l.length ∧ But r h h' ∧ OwnR r h' x (revTo l i)) (fun vs _ => l.length - natAt vs 0) ⟨0, (l.length : Int) - 1, rfl, by omega, by omega, But.refl _ _, by rw [revTo_none]; exact hx⟩ ?_
  rintro vs h' ⟨i, j, rfl, hj0, hi, B, O⟩
  have hrl := revTo_length l i
  (conv => whnf)
  refine HIf.dec (fun hlt => ?_) (fun hge => ?_)
  · have hj : j = ((l.length - 1 - i : Nat) : Int) := by omega
    have g1 := revTo_get l i i (by omega) (by omega) (by omega)
    have g2 := revTo_get l i (l.length - 1 - i) (by omega) (by omega) (by omega)
    have hs := revTo_succ l i (by omega)
    obtain ⟨cs, e1, e2, e3, B2, O2⟩ := O.store (i := i) (v := l.getD (l.length - 1 - i) 0) (by omega)
    obtain ⟨cs', e1', e2', e3', B3, O3⟩ := O2.store (i := l.length - 1 - i) (v := l.getD i 0) (by simp; omega)
    rw [hs] at O3
    rw [hrl] at e1
    subst e1
    subst hj
    (conv => whnf)
    refine Or.inr (Or.inr (Or.inl (Exists.intro 13 (Exists.intro [0, 1, 2, 3, 4, 5, 6, 7, 8, 9, 10, 11, 12] (Exists.intro [13, 14, 15] (And.intro (show heldOk _ _ _ _ = true by kernel_rfl) ?_)))))); (conv => whnf)
    refine ⟨rfl, Ints.idxN O.ints (by omega) (fun p hp => ?_)⟩
    rw [g2] at hp
    (conv => whnf)
    refine ⟨rfl, hp.load ?_⟩
    (conv => whnf)
    refine ⟨rfl, Ints.idxN O.ints (by omega) (fun p2 hp2 => ?_)⟩
    rw [g1] at hp2
    (conv => whnf)
    refine ⟨rfl, hp2.load ?_⟩
    (conv => whnf)
    refine ⟨rfl, HIdx.sl (by omega) (by omega) ?_⟩
    (conv => whnf)
    have e0 : 0 + (i : Int).toNat = i := by omega
    rw [e0]
    refine ⟨rfl, HStore.own e2 (by omega) rfl ?_⟩
    (conv => whnf)
    refine ⟨rfl, HIdx.sl (by omega) (by omega) ?_⟩
    (conv => whnf)
    have e00 : 0 + ((l.length - 1 - i : Nat) : Int).toNat = l.length - 1 - i := by omega
    rw [e00]
    refine ⟨rfl, HStore.own e2' (by omega) rfl ?_⟩
    (conv => whnf)
    refine HArith.fits (by omega) (by omega) ?_
    (conv => whnf)
    refine HArith.fits (by omega) (by omega) ?_
    (conv => whnf)
    exact ⟨⟨i + 1, _, rfl, by omega, by omega, (B.trans B2).trans B3, O3⟩, by show l.length - (i + 1) < l.length - i; omega⟩
  · rw [revTo_all l i (by omega)] at O
    (conv => whnf)
    exact ⟨B, O⟩

theorem impl_ReverseWord (h : Heap) (x0 : H0) (a0 : List Int) (hx0 : Ints h x0 a0) (s0 : a0.length ≤ 1048576) :
    HCalls dm Try.prog 44 [.s x0] h (fun r h' => ∃ y, r = .s y ∧ Fresh h h' y a0.reverse) := by
  refine calls_of_hFun (m := 0) kd_ok mixed Try.func44 rfl (by kernel_rfl) rfl rfl (of_decide_eq_true rfl) ?_; unfold hFun; (conv => whnf)
  refine HLit.empty ?_
  (conv => whnf)
  refine ⟨rfl, rfl, HApp.copy hx0 (by omega) (fun h1 y1 E1 O1 => ?_)⟩
  obtain ⟨r, hr1, hr2, O⟩ := O1.row
  (conv => whnf)
  refine (lib_Reverse _ r _ _ O s0).mono ?_
  rintro v h2 ⟨B, O2⟩
  (conv => whnf)
  exact ⟨_, rfl, Fresh.ofRow (E1.but B hr1) O2 hr1⟩

end Go.Proofs.Ytfibapndkibmiaa.Hx
