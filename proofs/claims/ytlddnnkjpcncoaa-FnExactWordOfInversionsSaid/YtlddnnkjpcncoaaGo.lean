
/-
  Contracts of the descents of the reference, of reversed words, of words with a letter left out, of the program and of the reference.
-/
import Derived.Test.YtlddnnkjpcncoaaGn
namespace Go.Proofs.Ytlddnnkjpcncoaa.Hx
open Go.RowKit
variable {dm : Bool}

theorem HApp.snocR {r : Nat} {h : Heap} {y : H0} {l : List Int} {v : Int} {K : HV → Heap → Prop} (H : OwnR r h y l) (hl : l.length < 2199023255552)
    (hK : ∀ h' r' y', But r h h' → h.length ≤ r' → OwnR r' h' y' (l ++ [v]) → K (.s y') h') : HApp (h ++ [.own [ci v]]) (.s y) (.s (.sl h.length 0 1)) K :=
  HApp.litR [v] H (by simp; omega) hK

/-- A list without its entry at a place, if there is one. -/
def del (l : List Int) (n : Int) : List Int := if 0 ≤ n then l.eraseIdx n.toNat else l

theorem del_neg {l : List Int} {n : Int} (h : n < 0) : del l n = l := by
  unfold del
  rw [if_neg (by omega)]
theorem del_off {l : List Int} {n : Int} (h : (l.length : Int) ≤ n) : del l n = l := by
  unfold del
  split
  · exact List.eraseIdx_of_length_le (by omega)
  · rfl
theorem del_ne (l : List Int) (x n : Int) (h : (l.length : Int) ≠ n) : del (l ++ [x]) n = del l n ++ [x] := by
  unfold del
  split
  · by_cases h2 : n.toNat < l.length
    · rw [List.eraseIdx_append_of_lt_length h2]
    · rw [List.eraseIdx_of_length_le (by simp; omega), List.eraseIdx_of_length_le (by omega)]
  · rfl
theorem del_eq (l : List Int) (x : Int) : del (l ++ [x]) l.length = del l l.length := by
  unfold del
  have e : ((l.length : Nat) : Int).toNat = l.length := by omega
  rw [if_pos (by omega), if_pos (by omega), e, List.eraseIdx_append_of_length_le (Nat.le_refl _), List.eraseIdx_of_length_le (l := l) (Nat.le_refl _)]
  simp
theorem del_len (l : List Int) (n : Int) : (del l n).length ≤ l.length := by
  unfold del
  split
  · rw [List.length_eraseIdx]
    split <;> omega
  · exact Nat.le_refl _
theorem del_at (l : List Int) {i : Nat} : del l (i : Int) = l.take i ++ l.drop (i + 1) := by
  unfold del
  rw [if_pos (by omega), List.eraseIdx_eq_take_drop_succ]
  rfl
theorem del_none (n : Int) : del [] n = [] := by
  unfold del
  split
  · rfl
  · rfl
theorem take_snoc (w : List Int) {k : Nat} (h : k < w.length) : w.take (k + 1) = w.take k ++ [w.getD k 0] := by
  rw [List.take_succ_eq_append_getElem h]
  simp [List.getD, h]
theorem drop_rev (w : List Int) {k : Nat} (h : k < w.length) : (w.drop k).reverse = (w.drop (k + 1)).reverse ++ [w.getD k 0] := by
  rw [List.drop_eq_getElem_cons h]
  simp [List.getD, h]

/-- The first i and the last i numbers have changed places. -/
def revTo (l : List Int) (i : Nat) : List Int := (List.range l.length).map fun k => if k < i ∨ l.length ≤ k + i then l.getD (l.length - 1 - k) 0 else l.getD k 0

theorem revTo_length (l : List Int) (i : Nat) : (revTo l i).length = l.length := by simp [revTo]
theorem revTo_get (l : List Int) (i k : Nat) (h : k < l.length) (h1 : i ≤ k) (h2 : k + i < l.length) : (revTo l i).getD k 0 = l.getD k 0 := by
  unfold revTo
  simp only [List.getD, List.getElem?_map, List.getElem?_range h, Option.map_some, Option.getD_some]
  rw [if_neg (by omega)]
theorem revTo_none (l : List Int) : revTo l 0 = l := by
  apply List.ext_getElem (by simp [revTo])
  intro k h1 h2
  simp only [revTo, List.getElem_map, List.getElem_range]
  rw [if_neg (by omega)]
  simp [List.getD, h2]
theorem revTo_all (l : List Int) (i : Nat) (h : l.length ≤ 2 * i + 1) : revTo l i = l.reverse := by
  apply List.ext_getElem (by simp [revTo])
  intro k h1 h2
  simp only [revTo, List.getElem_map, List.getElem_range, List.getElem_reverse]
  have h2 : k < l.length := by simpa using h2
  split
  · have : l.length - 1 - k < l.length := by omega
    simp [List.getD, this]
  · have e : l.length - 1 - k = k := by omega
    simp [List.getD, e, h2]
theorem revTo_succ (l : List Int) (i : Nat) (h : 2 * i + 1 < l.length) : ((revTo l i).set i (l.getD (l.length - 1 - i) 0)).set (l.length - 1 - i) (l.getD i 0) = revTo l (i + 1) := by
  apply List.ext_getElem (by simp [revTo])
  intro k h1 h2
  have h2 : k < l.length := by simpa [revTo] using h2
  simp only [List.getElem_set, revTo, List.getElem_map, List.getElem_range]
  by_cases e1 : l.length - 1 - i = k
  · rw [if_pos e1, if_pos (by omega)]
    have : l.length - 1 - k = i := by omega
    rw [this]
  · rw [if_neg e1]
    by_cases e2 : i = k
    · subst e2
      rw [if_pos rfl, if_pos (by omega)]
    · rw [if_neg e2]
      by_cases e3 : k < i ∨ l.length ≤ k + i
      · rw [if_pos e3, if_pos (by omega)]
      · rw [if_neg e3, if_neg (by omega)]

/-- One number of one's own is written anew. -/
theorem OwnR.store {r : Nat} {h : Heap} {y : H0} {l : List Int} {i : Nat} {v : Int} (H : OwnR r h y l) (hi : i < l.length) :
    ∃ cs, y = .sl r 0 l.length ∧ h[r]? = some (.own cs) ∧ i < cs.length ∧ But r h (h.set r (.own (cs.set i (ci v)))) ∧ OwnR r (h.set r (.own (cs.set i (ci v)))) y (l.set i v) := by
  have hr' := H.lt
  obtain ⟨t, rfl, hr⟩ := H
  refine ⟨_, rfl, hr, by simp; omega, ⟨by simp, fun q _ hn => by rw [List.getElem?_set_ne (Ne.symm hn)]⟩, t, by simp, ?_⟩
  rw [List.getElem?_set_self hr', List.set_append_left _ _ (by simpa using hi), List.map_set]
theorem But.trans {r : Nat} {h h' h'' : Heap} (k : But r h h') (k2 : But r h' h'') : But r h h'' :=
  ⟨Nat.le_trans k.1 k2.1, fun q hq hn => by rw [k2.2 q (Nat.lt_of_lt_of_le hq k.1) hn]; exact k.2 q hq hn⟩
theorem But.refl (r : Nat) (h : Heap) : But r h h := ⟨Nat.le_refl _, fun _ _ _ => rfl⟩

theorem pair_eq {a b : Int} {k : Nat} (h1 : a = k) (h2 : b = k) : a = b := by omega


theorem spec_LeftDescents (h : Heap) (x0 : H0) (a0 : List (List Int)) (x1 : H0) (a1 : List Int) (hx0 : Rows h x0 a0) (hx1 : Ints h x1 a1) (s0 : a0.length ≤ 1048576 ∧ tot a0 ≤ 1048576) (s1 : a1.length ≤ 1048576) :
    HCalls dm Try.prog 65 [.s x0, .s x1] h (fun r h' => ∃ y, r = .s y ∧ Fresh h h' y (leftDescents a0 a1)) := by
  have E0 := Ext.push h [Row.own []]
  have O0 := OwnR.push h []
  refine calls_of_hFun (m := 0) kd_ok mixed Try.func65 rfl (by kernel_rfl) rfl rfl (of_decide_eq_true rfl) ?_; unfold hFun; (conv => whnf)
  refine HLit.empty ?_
  (conv => whnf)
  refine (spec_IsWord _ _ _ a0 a1 (hx0.ext E0) (hx1.ext E0) (by omega) (by omega)).mono ?_
  rintro r h1 ⟨rfl, rfl⟩
  (conv => whnf)
  cases hic : isWord a0 a1
  · (repeat (first | (refine ⟨rfl, Ints.len (by assumption) ?_⟩; conv => whnf) | (refine ⟨rfl, Rows.len (by assumption) ?_⟩; conv => whnf) | (refine ⟨rfl, HLen.sl ?_⟩; conv => whnf) | (refine ⟨rfl, At.load (by assumption) ?_⟩; conv => whnf) | (refine HIf.yes ?_; conv => whnf) | (refine HIf.no ?_; conv => whnf) | (refine HIf.isT (by assumption) ?_; conv => whnf) | (refine HIf.isF (by assumption) ?_; conv => whnf) | (refine HIf.decT (by assumption) ?_; conv => whnf) | (refine HIf.decF (by assumption) ?_; conv => whnf) | (refine HIf.beqT (by assumption) ?_; conv => whnf) | (refine HIf.beqF (by assumption) ?_; conv => whnf) | (refine HIf.bneT (by assumption) ?_; conv => whnf) | (refine HIf.bneF (by assumption) ?_; conv => whnf) | (refine ⟨rfl, Ints.idxN (by assumption) (by omega) (fun p hp => ?_)⟩; conv => whnf) | (refine ⟨rfl, Rows.idxN (by assumption) (by omega) (fun p y hp hy => ?_)⟩; conv => whnf) | (refine And.intro (show Kd.isBool _ = true from rfl) ?_; conv => whnf) | (refine ⟨rfl, Ints.idx (by assumption) (by omega) (by omega) (fun p hp => ?_)⟩; conv => whnf) | (refine ⟨rfl, Rows.idx (by assumption) (by omega) (by omega) (fun p y hp hy => ?_)⟩; conv => whnf) | (refine HArith.fits (by omega) (by omega) ?_; conv => whnf) | (refine Or.inl (And.intro (show Region.lexB _ _ = true by kernel_rfl) ?_); conv => whnf)))
    exact ⟨_, rfl, Fresh.none _ (leftDescents_off hic)⟩
  have wc := word_cartan hic
  have hcl := wc.1.le
  rw [leftDescents_on hic]
  (repeat (first | (refine ⟨rfl, Ints.len (by assumption) ?_⟩; conv => whnf) | (refine ⟨rfl, Rows.len (by assumption) ?_⟩; conv => whnf) | (refine ⟨rfl, HLen.sl ?_⟩; conv => whnf) | (refine ⟨rfl, At.load (by assumption) ?_⟩; conv => whnf) | (refine HIf.yes ?_; conv => whnf) | (refine HIf.no ?_; conv => whnf) | (refine HIf.isT (by assumption) ?_; conv => whnf) | (refine HIf.isF (by assumption) ?_; conv => whnf) | (refine HIf.decT (by assumption) ?_; conv => whnf) | (refine HIf.decF (by assumption) ?_; conv => whnf) | (refine HIf.beqT (by assumption) ?_; conv => whnf) | (refine HIf.beqF (by assumption) ?_; conv => whnf) | (refine HIf.bneT (by assumption) ?_; conv => whnf) | (refine HIf.bneF (by assumption) ?_; conv => whnf) | (refine ⟨rfl, Ints.idxN (by assumption) (by omega) (fun p hp => ?_)⟩; conv => whnf) | (refine ⟨rfl, Rows.idxN (by assumption) (by omega) (fun p y hp hy => ?_)⟩; conv => whnf) | (refine And.intro (show Kd.isBool _ = true from rfl) ?_; conv => whnf) | (refine ⟨rfl, Ints.idx (by assumption) (by omega) (by omega) (fun p hp => ?_)⟩; conv => whnf) | (refine ⟨rfl, Rows.idx (by assumption) (by omega) (by omega) (fun p y hp hy => ?_)⟩; conv => whnf) | (refine HArith.fits (by omega) (by omega) ?_; conv => whnf) | (refine Or.inl (And.intro (show Region.lexB _ _ = true by kernel_rfl) ?_); conv => whnf)))
  refine (spec_l8Image _ _ a0 _ a1 (hx0.ext E0) (hx1.ext E0) ((isCartan_iff a0).2 wc.1) wc.2.2 s1).mono ?_
  rintro r h2 ⟨y1, rfl, f1⟩
  have hvl := imageOf_length a0 a1
  have O1 := O0.ext f1.1
  have E1 := E0.trans f1.1
  obtain ⟨ri, hri, oi⟩ := f1.row
  simp only [List.length_append, List.length_cons, List.length_nil] at hri
  generalize imageOf a0 a1 = v at *
  (conv => whnf)
  refine HLoop.intro [7, 5] [17, 18, 19, 20, 23, 24, 25, 26, 27, 28, 29, 30, 31, 5, 21, 22, 7] (by kernel_rfl) (by kernel_rfl) (fun vs h' => ∃ (k : Nat) (z : H0) (r : Nat), vs = [I k, .s z] ∧ k ≤ v.length ∧ Ext h h' ∧ h.length ≤ r ∧ r ≠ ri ∧ OwnR r h' z (descs v k) ∧ OwnR ri h' y1 v) (fun vs _ => v.length - natAt vs 0) ⟨0, _, h.length, rfl, by omega, E1, Nat.le_refl _, by omega, O1, oi⟩ ?_
  rintro vs h' ⟨k, z, r, rfl, hk, E, hr, hn, O, oi⟩
  have hdl := descs_le v k
  have hx := oi.ints
  (conv => whnf)
  refine ⟨rfl, hx.len ?_⟩
  (conv => whnf)
  refine HIf.dec (fun hlt => ?_) (fun hge => ?_)
  · (conv => whnf)
    (repeat (first | (refine ⟨rfl, Ints.len (by assumption) ?_⟩; conv => whnf) | (refine ⟨rfl, Rows.len (by assumption) ?_⟩; conv => whnf) | (refine ⟨rfl, HLen.sl ?_⟩; conv => whnf) | (refine ⟨rfl, At.load (by assumption) ?_⟩; conv => whnf) | (refine HIf.yes ?_; conv => whnf) | (refine HIf.no ?_; conv => whnf) | (refine HIf.isT (by assumption) ?_; conv => whnf) | (refine HIf.isF (by assumption) ?_; conv => whnf) | (refine HIf.decT (by assumption) ?_; conv => whnf) | (refine HIf.decF (by assumption) ?_; conv => whnf) | (refine HIf.beqT (by assumption) ?_; conv => whnf) | (refine HIf.beqF (by assumption) ?_; conv => whnf) | (refine HIf.bneT (by assumption) ?_; conv => whnf) | (refine HIf.bneF (by assumption) ?_; conv => whnf) | (refine ⟨rfl, Ints.idxN (by assumption) (by omega) (fun p hp => ?_)⟩; conv => whnf) | (refine ⟨rfl, Rows.idxN (by assumption) (by omega) (fun p y hp hy => ?_)⟩; conv => whnf) | (refine And.intro (show Kd.isBool _ = true from rfl) ?_; conv => whnf) | (refine ⟨rfl, Ints.idx (by assumption) (by omega) (by omega) (fun p hp => ?_)⟩; conv => whnf) | (refine ⟨rfl, Rows.idx (by assumption) (by omega) (by omega) (fun p y hp hy => ?_)⟩; conv => whnf) | (refine HArith.fits (by omega) (by omega) ?_; conv => whnf) | (refine Or.inl (And.intro (show Region.lexB _ _ = true by kernel_rfl) ?_); conv => whnf)))
    refine HIf.dec (fun hneg => ?_) (fun hpos => ?_)
    · (conv => whnf)
      refine HLit.one ?_
      (conv => whnf)
      refine ⟨rfl, rfl, HApp.snocR O (by omega) (fun h3 r3 y3 B3 hr3 O3 => ?_)⟩
      have := oi.lt
      rw [← descs_in v k hneg] at O3
      (conv => whnf)
      refine HArith.fits (by omega) (by omega) ?_
      (conv => whnf)
      exact ⟨⟨k + 1, y3, r3, rfl, by omega, E.but B3 hr, by have := E.1; omega, by omega, O3, oi.but B3 (Ne.symm hn)⟩, by show v.length - (k + 1) < v.length - k; omega⟩
    · rw [← descs_out v k hpos] at O
      (conv => whnf)
      refine HArith.fits (by omega) (by omega) ?_
      (conv => whnf)
      exact ⟨⟨k + 1, z, r, rfl, by omega, E, hr, hn, O, oi⟩, by show v.length - (k + 1) < v.length - k; omega⟩
  · (conv => whnf)
    have e : k = v.length := by omega
    subst e
    exact ⟨_, rfl, Fresh.ofRow E O hr⟩

theorem spec_DeleteAt0 (h : Heap) (x0 : H0) (a0 : List Int) (n1 : Int) (hx0 : Ints h x0 a0) (s0 : a0.length ≤ 1048576) :
    HCalls dm Try.prog 35 [.s x0, I n1] h (fun r h' => ∃ y, r = .s y ∧ Fresh h h' y (del a0 n1)) := by
  have E0 := Ext.push h [Row.own []]
  have O0 := OwnR.push h []
  refine calls_of_hFun (m := 0) kd_ok mixed Try.func35 rfl (by kernel_rfl) rfl rfl (of_decide_eq_true rfl) ?_; unfold hFun; (conv => whnf)
  refine HLit.empty ?_
  (conv => whnf)
  refine HLoop.intro [6, 5] [8, 9, 10, 11, 14, 15, 16, 17, 18, 19, 20, 21, 22, 23, 5, 12, 13, 6] (by kernel_rfl) (by kernel_rfl) (fun vs h' => ∃ (k : Nat) (z : H0) (r : Nat), vs = [I k, .s z] ∧ k ≤ a0.length ∧ Ext h h' ∧ h.length ≤ r ∧ OwnR r h' z (del (a0.take k) n1)) (fun vs _ => a0.length - natAt vs 0) ⟨0, _, h.length, rfl, by omega, E0, Nat.le_refl _, by rw [List.take_zero, del_none]; exact O0⟩ ?_
  rintro vs h' ⟨k, z, r, rfl, hk, E, hr, O⟩
  have hx0 := hx0.ext E
  have hdl := del_len (a0.take k) n1
  rw [List.length_take] at hdl
  have htl : (a0.take k).length = k := by simp; omega
  (conv => whnf)
  refine ⟨rfl, hx0.len ?_⟩
  (conv => whnf)
  refine HIf.dec (fun hlt => ?_) (fun hge => ?_)
  · have ht := take_snoc a0 (k := k) (by omega)
    (conv => whnf)
    refine HIf.bne (fun hne => ?_) (fun heq => ?_)
    · have hd := del_ne (a0.take k) (a0.getD k 0) n1 (by rw [htl]; exact hne)
      rw [← ht] at hd
      (conv => whnf)
      refine ⟨rfl, Ints.idxN hx0 (by omega) (fun p hp => ?_)⟩
      (conv => whnf)
      refine ⟨rfl, hp.load ?_⟩
      (conv => whnf)
      refine HLit.one ?_
      (conv => whnf)
      refine ⟨rfl, rfl, HApp.snocR O (by omega) (fun h3 r3 y3 B3 hr3 O3 => ?_)⟩
      rw [← hd] at O3
      (conv => whnf)
      refine HArith.fits (by omega) (by omega) ?_
      (conv => whnf)
      exact ⟨⟨k + 1, y3, r3, rfl, by omega, E.but B3 hr, by have := E.1; omega, O3⟩, by show a0.length - (k + 1) < a0.length - k; omega⟩
    · have hd := del_eq (a0.take k) (a0.getD k 0)
      rw [← ht, htl, heq] at hd
      rw [← hd] at O
      (conv => whnf)
      refine HArith.fits (by omega) (by omega) ?_
      (conv => whnf)
      exact ⟨⟨k + 1, z, r, rfl, by omega, E, hr, O⟩, by show a0.length - (k + 1) < a0.length - k; omega⟩
  · (conv => whnf)
    have e : k = a0.length := by omega
    subst e
    rw [List.take_length] at O
    exact ⟨_, rfl, Fresh.ofRow E O hr⟩

theorem spec_DeleteAt (h : Heap) (x0 : H0) (a0 : List Int) (n1 : Int) (hx0 : Ints h x0 a0) (s0 : a0.length ≤ 1048576) (_s1 : -9223372036854775808 ≤ n1 ∧ n1 ≤ 9223372036854775807) :
    HCalls dm Try.prog 35 [.s x0, I n1] h (fun r h' => ∃ y, r = .s y ∧ Fresh h h' y (del a0 n1)) := spec_DeleteAt0 h x0 a0 n1 hx0 s0

theorem lib_Delete (h : Heap) (r : Nat) (x : H0) (l : List Int) (i : Nat) (hx : OwnR r h x l) (hi : i < l.length) (hl : l.length ≤ 1048576) :
    HCalls dm Try.prog 71 [.s x, I i, I ((i + 1 : Nat) : Int)] h (fun v h' => ∃ y, v = .s y ∧ But r h h' ∧ OwnR r h' y (l.take i ++ l.drop (i + 1))) := by
  have hrl := hx.lt
  have hxi := hx.ints
  obtain ⟨t, rfl, hr⟩ := hx
  have hdl : (l.drop (i + 1)).length = l.length - (i + 1) := by simp
  refine calls_of_hFun (m := 0) kd_ok mixed Try.func71 rfl (by kernel_rfl) rfl rfl (of_decide_eq_true rfl) ?_; unfold hFun; (conv => whnf)
  refine ⟨rfl, HLen.sl ?_⟩
  (conv => whnf)
  refine ⟨rfl, ⟨l.length, i, i + 1, l.length, .i64, .i64, .i64, rfl, rfl, rfl, rfl, by omega, by omega, Nat.le_refl _, ?_⟩⟩
  (conv => whnf)
  (repeat (first | (refine HIf.beqF (by omega) ?_; conv => whnf)))
  refine ⟨rfl, HLen.sl ?_⟩
  (conv => whnf)
  refine Or.inr (Or.inl (Exists.intro 6 (And.intro (show Region.lexTailB _ _ _ = true by kernel_rfl) ?_))); (conv => whnf)
  refine ⟨rfl, ⟨l.length, 0, i, rfl, Or.inl ⟨rfl, rfl⟩, Or.inr ⟨.i64, rfl⟩, by omega, Or.inl (by omega), ?_⟩⟩
  (conv => whnf)
  refine ⟨rfl, ⟨l.length, i + 1, l.length, rfl, Or.inr ⟨.i64, rfl⟩, Or.inl ⟨rfl, rfl⟩, by omega, Or.inl (Nat.le_refl _), ?_⟩⟩
  (conv => whnf)
  refine ⟨rfl, rfl, ⟨(l.drop (i + 1)).map ci, ?_, ci_one _, l.map ci ++ t, rfl, hr, by simp; omega, Or.inr ⟨by simp; omega, ?_⟩⟩⟩
  · have h1 := Shows.own r (0 + (i + 1)) (l.length - (i + 1)) _ hr (by simp; omega)
    have e : ((l.map ci ++ t).drop (0 + (i + 1))).take (l.length - (i + 1)) = (l.drop (i + 1)).map ci := by
      rw [Nat.zero_add, List.drop_append_of_le_length (by simp; omega), List.take_append_of_le_length (by simp), List.take_of_length_le (by simp), List.map_drop]
    rw [e] at h1
    exact h1
  have e1 : i - 0 + ((l.drop (i + 1)).map ci).length = (l.take i ++ l.drop (i + 1)).length := by simp; omega
  have e2 : (l.map ci ++ t).take (i - 0) ++ (l.drop (i + 1)).map ci = (l.take i ++ l.drop (i + 1)).map ci := by
    rw [Nat.sub_zero, List.take_append_of_le_length (by simp; omega), ← List.map_take, List.map_append]
  have e3 : (l.take i ++ l.drop (i + 1)).length = l.length - 1 := by simp; omega
  rw [e1, e2]
  obtain ⟨t2, ht2⟩ : ∃ t2, t2 = (l.map ci ++ t).drop (l.take i ++ l.drop (i + 1)).length := ⟨_, rfl⟩
  have ht2l : 1 ≤ t2.length := by rw [ht2]; simp; omega
  rw [← ht2]
  clear ht2 e1 e2
  generalize l.take i ++ l.drop (i + 1) = m at *
  have hr2 : (h.set r (.own (m.map ci ++ t2)))[r]? = some (.own (m.map ci ++ t2)) := List.getElem?_set_self hrl
  have hln : l.length = m.length + 1 := by omega
  (conv => whnf)
  refine ⟨rfl, HLen.sl ?_⟩
  (conv => whnf)
  refine ⟨rfl, ⟨m.length, m.length, l.length, rfl, Or.inr ⟨.i64, rfl⟩, Or.inr ⟨.i64, rfl⟩, by omega, Or.inr ⟨r, 0, m.length, _, rfl, hr2, by simp; omega⟩, ?_⟩⟩
  (conv => whnf)
  refine ⟨Or.inr ⟨r, 0 + m.length, l.length - m.length, _, rfl, hr2, by simp; omega, ?_⟩⟩
  (conv => whnf)
  refine ⟨_, rfl, ⟨by simp, fun q _ hn => by rw [List.getElem?_set_ne (Ne.symm hn), List.getElem?_set_ne (Ne.symm hn)]⟩, List.replicate (l.length - m.length) (.pl (.int .i64 0)) ++ (m.map ci ++ t2).drop (0 + m.length + (l.length - m.length)), rfl, ?_⟩
  rw [List.getElem?_set_self (by simpa using hrl), Nat.zero_add, List.take_append_of_le_length (by simp), List.take_of_length_le (by simp), List.append_assoc]

theorem impl_DeleteAt0 (h : Heap) (x0 : H0) (a0 : List Int) (n1 : Int) (hx0 : Ints h x0 a0) (s0 : a0.length ≤ 1048576) :
    HCalls dm Try.prog 36 [.s x0, I n1] h (fun r h' => ∃ y, r = .s y ∧ Fresh h h' y (del a0 n1)) := by
  refine calls_of_hFun (m := 0) kd_ok mixed Try.func36 rfl (by kernel_rfl) rfl rfl (of_decide_eq_true rfl) ?_; unfold hFun; (conv => whnf)
  refine HLit.empty ?_
  (conv => whnf)
  refine ⟨rfl, rfl, HApp.copy hx0 (by omega) (fun h1 y1 E1 O1 => ?_)⟩
  have hx01 := hx0.ext E1
  obtain ⟨r, hr1, hr2, O⟩ := O1.row
  (conv => whnf)
  by_cases h0 : n1 < 0
  · (repeat (first | (refine ⟨rfl, Ints.len (by assumption) ?_⟩; conv => whnf) | (refine ⟨rfl, Rows.len (by assumption) ?_⟩; conv => whnf) | (refine ⟨rfl, HLen.sl ?_⟩; conv => whnf) | (refine ⟨rfl, At.load (by assumption) ?_⟩; conv => whnf) | (refine HIf.yes ?_; conv => whnf) | (refine HIf.no ?_; conv => whnf) | (refine HIf.isT (by assumption) ?_; conv => whnf) | (refine HIf.isF (by assumption) ?_; conv => whnf) | (refine HIf.decT (by assumption) ?_; conv => whnf) | (refine HIf.decF (by assumption) ?_; conv => whnf) | (refine HIf.beqT (by assumption) ?_; conv => whnf) | (refine HIf.beqF (by assumption) ?_; conv => whnf) | (refine HIf.bneT (by assumption) ?_; conv => whnf) | (refine HIf.bneF (by assumption) ?_; conv => whnf) | (refine ⟨rfl, Ints.idxN (by assumption) (by omega) (fun p hp => ?_)⟩; conv => whnf) | (refine ⟨rfl, Rows.idxN (by assumption) (by omega) (fun p y hp hy => ?_)⟩; conv => whnf) | (refine And.intro (show Kd.isBool _ = true from rfl) ?_; conv => whnf) | (refine ⟨rfl, Ints.idx (by assumption) (by omega) (by omega) (fun p hp => ?_)⟩; conv => whnf) | (refine ⟨rfl, Rows.idx (by assumption) (by omega) (by omega) (fun p y hp hy => ?_)⟩; conv => whnf) | (refine HArith.fits (by omega) (by omega) ?_; conv => whnf) | (refine Or.inl (And.intro (show Region.lexB _ _ = true by kernel_rfl) ?_); conv => whnf)))
    rw [del_neg h0]
    exact ⟨_, rfl, Fresh.of E1 O1⟩
  (repeat (first | (refine ⟨rfl, Ints.len (by assumption) ?_⟩; conv => whnf) | (refine ⟨rfl, Rows.len (by assumption) ?_⟩; conv => whnf) | (refine ⟨rfl, HLen.sl ?_⟩; conv => whnf) | (refine ⟨rfl, At.load (by assumption) ?_⟩; conv => whnf) | (refine HIf.yes ?_; conv => whnf) | (refine HIf.no ?_; conv => whnf) | (refine HIf.isT (by assumption) ?_; conv => whnf) | (refine HIf.isF (by assumption) ?_; conv => whnf) | (refine HIf.decT (by assumption) ?_; conv => whnf) | (refine HIf.decF (by assumption) ?_; conv => whnf) | (refine HIf.beqT (by assumption) ?_; conv => whnf) | (refine HIf.beqF (by assumption) ?_; conv => whnf) | (refine HIf.bneT (by assumption) ?_; conv => whnf) | (refine HIf.bneF (by assumption) ?_; conv => whnf) | (refine ⟨rfl, Ints.idxN (by assumption) (by omega) (fun p hp => ?_)⟩; conv => whnf) | (refine ⟨rfl, Rows.idxN (by assumption) (by omega) (fun p y hp hy => ?_)⟩; conv => whnf) | (refine And.intro (show Kd.isBool _ = true from rfl) ?_; conv => whnf) | (refine ⟨rfl, Ints.idx (by assumption) (by omega) (by omega) (fun p hp => ?_)⟩; conv => whnf) | (refine ⟨rfl, Rows.idx (by assumption) (by omega) (by omega) (fun p y hp hy => ?_)⟩; conv => whnf) | (refine HArith.fits (by omega) (by omega) ?_; conv => whnf) | (refine Or.inl (And.intro (show Region.lexB _ _ = true by kernel_rfl) ?_); conv => whnf)))
  by_cases h2 : (a0.length : Int) ≤ n1
  · (repeat (first | (refine ⟨rfl, Ints.len (by assumption) ?_⟩; conv => whnf) | (refine ⟨rfl, Rows.len (by assumption) ?_⟩; conv => whnf) | (refine ⟨rfl, HLen.sl ?_⟩; conv => whnf) | (refine ⟨rfl, At.load (by assumption) ?_⟩; conv => whnf) | (refine HIf.yes ?_; conv => whnf) | (refine HIf.no ?_; conv => whnf) | (refine HIf.isT (by assumption) ?_; conv => whnf) | (refine HIf.isF (by assumption) ?_; conv => whnf) | (refine HIf.decT (by assumption) ?_; conv => whnf) | (refine HIf.decF (by assumption) ?_; conv => whnf) | (refine HIf.beqT (by assumption) ?_; conv => whnf) | (refine HIf.beqF (by assumption) ?_; conv => whnf) | (refine HIf.bneT (by assumption) ?_; conv => whnf) | (refine HIf.bneF (by assumption) ?_; conv => whnf) | (refine ⟨rfl, Ints.idxN (by assumption) (by omega) (fun p hp => ?_)⟩; conv => whnf) | (refine ⟨rfl, Rows.idxN (by assumption) (by omega) (fun p y hp hy => ?_)⟩; conv => whnf) | (refine And.intro (show Kd.isBool _ = true from rfl) ?_; conv => whnf) | (refine ⟨rfl, Ints.idx (by assumption) (by omega) (by omega) (fun p hp => ?_)⟩; conv => whnf) | (refine ⟨rfl, Rows.idx (by assumption) (by omega) (by omega) (fun p y hp hy => ?_)⟩; conv => whnf) | (refine HArith.fits (by omega) (by omega) ?_; conv => whnf) | (refine Or.inl (And.intro (show Region.lexB _ _ = true by kernel_rfl) ?_); conv => whnf)))
    rw [del_off h2]
    exact ⟨_, rfl, Fresh.of E1 O1⟩
  obtain ⟨i, rfl⟩ : ∃ i : Nat, n1 = i := ⟨n1.toNat, by omega⟩
  (repeat (first | (refine ⟨rfl, Ints.len (by assumption) ?_⟩; conv => whnf) | (refine ⟨rfl, Rows.len (by assumption) ?_⟩; conv => whnf) | (refine ⟨rfl, HLen.sl ?_⟩; conv => whnf) | (refine ⟨rfl, At.load (by assumption) ?_⟩; conv => whnf) | (refine HIf.yes ?_; conv => whnf) | (refine HIf.no ?_; conv => whnf) | (refine HIf.isT (by assumption) ?_; conv => whnf) | (refine HIf.isF (by assumption) ?_; conv => whnf) | (refine HIf.decT (by assumption) ?_; conv => whnf) | (refine HIf.decF (by assumption) ?_; conv => whnf) | (refine HIf.beqT (by assumption) ?_; conv => whnf) | (refine HIf.beqF (by assumption) ?_; conv => whnf) | (refine HIf.bneT (by assumption) ?_; conv => whnf) | (refine HIf.bneF (by assumption) ?_; conv => whnf) | (refine ⟨rfl, Ints.idxN (by assumption) (by omega) (fun p hp => ?_)⟩; conv => whnf) | (refine ⟨rfl, Rows.idxN (by assumption) (by omega) (fun p y hp hy => ?_)⟩; conv => whnf) | (refine And.intro (show Kd.isBool _ = true from rfl) ?_; conv => whnf) | (refine ⟨rfl, Ints.idx (by assumption) (by omega) (by omega) (fun p hp => ?_)⟩; conv => whnf) | (refine ⟨rfl, Rows.idx (by assumption) (by omega) (by omega) (fun p y hp hy => ?_)⟩; conv => whnf) | (refine HArith.fits (by omega) (by omega) ?_; conv => whnf) | (refine Or.inl (And.intro (show Region.lexB _ _ = true by kernel_rfl) ?_); conv => whnf)))
  refine (lib_Delete _ r _ _ i O (by omega) s0).mono ?_
  rintro v h3 ⟨y, rfl, B, O3⟩
  rw [← del_at] at O3
  (conv => whnf)
  exact ⟨_, rfl, Fresh.ofRow (E1.but B hr1) O3 hr1⟩

theorem impl_DeleteAt (h : Heap) (x0 : H0) (a0 : List Int) (n1 : Int) (hx0 : Ints h x0 a0) (s0 : a0.length ≤ 1048576) (_s1 : -9223372036854775808 ≤ n1 ∧ n1 ≤ 9223372036854775807) :
    HCalls dm Try.prog 36 [.s x0, I n1] h (fun r h' => ∃ y, r = .s y ∧ Fresh h h' y (del a0 n1)) := impl_DeleteAt0 h x0 a0 n1 hx0 s0

end Go.Proofs.Ytlddnnkjpcncoaa.Hx
