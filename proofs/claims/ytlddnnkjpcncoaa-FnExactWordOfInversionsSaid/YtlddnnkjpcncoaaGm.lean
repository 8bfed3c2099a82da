
/-
  Contracts of LeftDescents, of the program.
-/
import Derived.Test.YtlddnnkjpcncoaaGk
namespace Go.Proofs.Ytlddnnkjpcncoaa.Hx
open Go.RowKit
variable {dm : Bool}

def descs (v : List Int) (k : Nat) : List Int := ((List.range k).filter fun j => decide (v.getD j 0 < 0)).map fun (j : Nat) => (j : Int)

theorem descs_none (v : List Int) : descs v 0 = [] := rfl
theorem descs_le (v : List Int) (k : Nat) : (descs v k).length ≤ k := by
  have := List.length_filter_le (fun j => decide (v.getD j 0 < 0)) (List.range k)
  simp [descs] at this ⊢
  exact this
theorem descs_in (v : List Int) (k : Nat) (h : v.getD k 0 < 0) : descs v (k + 1) = descs v k ++ [(k : Int)] := by
  unfold descs
  rw [List.range_succ, List.filter_append, List.map_append, List.filter_cons_of_pos (p := fun j => decide (v.getD j 0 < 0)) (decide_eq_true h), List.filter_nil]
  rfl
theorem descs_out (v : List Int) (k : Nat) (h : ¬ v.getD k 0 < 0) : descs v (k + 1) = descs v k := by
  unfold descs
  rw [List.range_succ, List.filter_append, List.map_append, List.filter_cons_of_neg (p := fun j => decide (v.getD j 0 < 0)) (by simp only [decide_eq_true_eq]; exact h), List.filter_nil, List.map_nil, List.append_nil]

def leftDescents (c : List (List Int)) (w : List Int) : List Int := if isWord c w then descs (imageOf c w) c.length else []
theorem leftDescents_length (c : List (List Int)) (w : List Int) : (leftDescents c w).length ≤ c.length := by
  unfold leftDescents
  split
  · exact descs_le _ _
  · simp
theorem leftDescents_off {c : List (List Int)} {w : List Int} (h : isWord c w = false) : leftDescents c w = [] := by simp [leftDescents, h]
theorem leftDescents_on {c : List (List Int)} {w : List Int} (h : isWord c w = true) : leftDescents c w = descs (imageOf c w) (imageOf c w).length := by rw [imageOf_length]; simp [leftDescents, h]

theorem Own.widen {b e e' : Nat} {h : Heap} {x : H0} {l : List Int} (H : Own b e h x l) (k : e ≤ e') : Own b e' h x l := by
  obtain ⟨r, t, g1, g2, g3, hr⟩ := H
  exact ⟨r, t, g1, g2, by omega, hr⟩


theorem impl_descents (h : Heap) (x : H0) (v : List Int) (hx : Ints h x v) (hv : v.length ≤ 1048576) : HCalls dm Try.prog 92 [.s x] h (fun r h' => ∃ y, r = .s y ∧ Fresh h h' y (descs v v.length)) := by
  have E0 := Ext.push h [Row.own []]
  have O0 := Own.none h
  have hx0 := hx.ext E0
  refine calls_of_hFun (m := 0) kd_ok mixed Try.func92 rfl (by kernel_rfl) rfl rfl (of_decide_eq_true rfl) ?_; unfold hFun; (conv => whnf)
  refine HLit.empty ?_
  (conv => whnf)
  refine ⟨rfl, hx0.len ?_⟩
  (conv => whnf)
  refine HLoop.intro [9, 3] [10, 11, 12, 13, 4, 5, 14, 15, 16, 17, 18, 19, 3, 20, 9] (by kernel_rfl) (by kernel_rfl) (fun vs h' => ∃ (k : Nat) (z : H0), vs = [I k, .s z] ∧ k ≤ v.length ∧ Ext h h' ∧ Own h.length h'.length h' z (descs v k)) (fun vs _ => v.length - natAt vs 0) ⟨0, _, rfl, by omega, E0, O0⟩ ?_
  rintro vs h' ⟨k, z, rfl, hk, E, O⟩
  have hx := hx.ext E
  have hdl := descs_le v k
  (conv => whnf)
  refine HIf.dec (fun hlt => ?_) (fun hge => ?_)
  · (conv => whnf)
    refine ⟨rfl, Ints.idxN hx (by omega) (fun p hp => ?_)⟩
    (conv => whnf)
    refine ⟨rfl, hp.load ?_⟩
    (conv => whnf)
    refine HIf.dec (fun hneg => ?_) (fun hpos => ?_)
    · (conv => whnf)
      refine HLit.one ?_
      (conv => whnf)
      refine ⟨rfl, rfl, HApp.snoc E O (by omega) (fun h2 y2 E2 O2 => ?_)⟩
      rw [← descs_in v k hneg] at O2
      (conv => whnf)
      refine HArith.fits (by omega) (by omega) ?_
      (conv => whnf)
      exact ⟨⟨k + 1, y2, rfl, by omega, E2, O2⟩, by show v.length - (k + 1) < v.length - k; omega⟩
    · rw [← descs_out v k hpos] at O
      (conv => whnf)
      refine HArith.fits (by omega) (by omega) ?_
      (conv => whnf)
      exact ⟨⟨k + 1, z, rfl, by omega, E, O⟩, by show v.length - (k + 1) < v.length - k; omega⟩
  · (conv => whnf)
    have e : k = v.length := by omega
    subst e
    exact ⟨_, rfl, Fresh.of E O⟩

theorem impl_LeftDescents (h : Heap) (x0 : H0) (a0 : List (List Int)) (x1 : H0) (a1 : List Int) (hx0 : Rows h x0 a0) (hx1 : Ints h x1 a1) (s0 : a0.length ≤ 1048576 ∧ tot a0 ≤ 1048576) (s1 : a1.length ≤ 1048576) :
    HCalls dm Try.prog 69 [.s x0, .s x1] h (fun r h' => ∃ y, r = .s y ∧ Fresh h h' y (leftDescents a0 a1)) := by
  refine calls_of_hFun (m := 0) kd_ok mixed Try.func69 rfl (by kernel_rfl) rfl rfl (of_decide_eq_true rfl) ?_; unfold hFun; (conv => whnf)
  refine (impl_IsWord _ _ _ a0 a1 hx0 hx1 (by omega) (by omega)).mono ?_
  rintro r h1 ⟨rfl, rfl⟩
  (conv => whnf)
  cases hic : isWord a0 a1
  · (repeat (first | (refine ⟨rfl, Ints.len (by assumption) ?_⟩; conv => whnf) | (refine ⟨rfl, Rows.len (by assumption) ?_⟩; conv => whnf) | (refine ⟨rfl, HLen.sl ?_⟩; conv => whnf) | (refine ⟨rfl, At.load (by assumption) ?_⟩; conv => whnf) | (refine HIf.yes ?_; conv => whnf) | (refine HIf.no ?_; conv => whnf) | (refine HIf.isT (by assumption) ?_; conv => whnf) | (refine HIf.isF (by assumption) ?_; conv => whnf) | (refine HIf.decT (by assumption) ?_; conv => whnf) | (refine HIf.decF (by assumption) ?_; conv => whnf) | (refine HIf.beqT (by assumption) ?_; conv => whnf) | (refine HIf.beqF (by assumption) ?_; conv => whnf) | (refine HIf.bneT (by assumption) ?_; conv => whnf) | (refine HIf.bneF (by assumption) ?_; conv => whnf) | (refine ⟨rfl, Ints.idxN (by assumption) (by omega) (fun p hp => ?_)⟩; conv => whnf) | (refine ⟨rfl, Rows.idxN (by assumption) (by omega) (fun p y hp hy => ?_)⟩; conv => whnf) | (refine And.intro (show Kd.isBool _ = true from rfl) ?_; conv => whnf) | (refine ⟨rfl, Ints.idx (by assumption) (by omega) (by omega) (fun p hp => ?_)⟩; conv => whnf) | (refine ⟨rfl, Rows.idx (by assumption) (by omega) (by omega) (fun p y hp hy => ?_)⟩; conv => whnf) | (refine HArith.fits (by omega) (by omega) ?_; conv => whnf) | (refine Or.inl (And.intro (show Region.lexB _ _ = true by kernel_rfl) ?_); conv => whnf)))
    refine HLit.empty ?_
    (conv => whnf)
    exact ⟨_, rfl, Fresh.none _ (leftDescents_off hic)⟩
  obtain ⟨hC, _, hw⟩ := word_cartan hic
  rw [leftDescents_on hic]
  (repeat (first | (refine ⟨rfl, Ints.len (by assumption) ?_⟩; conv => whnf) | (refine ⟨rfl, Rows.len (by assumption) ?_⟩; conv => whnf) | (refine ⟨rfl, HLen.sl ?_⟩; conv => whnf) | (refine ⟨rfl, At.load (by assumption) ?_⟩; conv => whnf) | (refine HIf.yes ?_; conv => whnf) | (refine HIf.no ?_; conv => whnf) | (refine HIf.isT (by assumption) ?_; conv => whnf) | (refine HIf.isF (by assumption) ?_; conv => whnf) | (refine HIf.decT (by assumption) ?_; conv => whnf) | (refine HIf.decF (by assumption) ?_; conv => whnf) | (refine HIf.beqT (by assumption) ?_; conv => whnf) | (refine HIf.beqF (by assumption) ?_; conv => whnf) | (refine HIf.bneT (by assumption) ?_; conv => whnf) | (refine HIf.bneF (by assumption) ?_; conv => whnf) | (refine ⟨rfl, Ints.idxN (by assumption) (by omega) (fun p hp => ?_)⟩; conv => whnf) | (refine ⟨rfl, Rows.idxN (by assumption) (by omega) (fun p y hp hy => ?_)⟩; conv => whnf) | (refine And.intro (show Kd.isBool _ = true from rfl) ?_; conv => whnf) | (refine ⟨rfl, Ints.idx (by assumption) (by omega) (by omega) (fun p hp => ?_)⟩; conv => whnf) | (refine ⟨rfl, Rows.idx (by assumption) (by omega) (by omega) (fun p y hp hy => ?_)⟩; conv => whnf) | (refine HArith.fits (by omega) (by omega) ?_; conv => whnf) | (refine Or.inl (And.intro (show Region.lexB _ _ = true by kernel_rfl) ?_); conv => whnf)))
  refine (impl_image _ _ a0 _ a1 hx0 hx1 hC hw s1).mono ?_
  rintro r h2 ⟨y1, rfl, f1⟩
  (conv => whnf)
  refine (impl_descents _ _ _ f1.ints (by rw [imageOf_length]; omega)).mono ?_
  rintro r h3 ⟨y2, rfl, f2⟩
  have hz := Fresh.inner f1.1 f2
  (conv => whnf)
  exact ⟨_, rfl, Fresh.of hz.1 hz.2⟩

end Go.Proofs.Ytlddnnkjpcncoaa.Hx
